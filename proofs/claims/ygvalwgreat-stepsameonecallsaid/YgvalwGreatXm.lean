/-
  RULES, second part: the frame rule, growing heaps, loops with a state, byte slices.
-/
import Derived.Test.YgvalwGreatXj
set_option linter.unusedVariables false
set_option linter.unusedSimpArgs false
namespace Go.Proofs.YgvalwGreat.X
open Go

/-! ### The frame rule -/

def join (h1 h2 : Hp) : Hp := fun b => match h1 b with
  | some x => some x
  | none => h2 b

def Dj (h1 h2 : Hp) : Prop := ∀ b, h1 b = none ∨ h2 b = none

section
variable {P : Program} {T : Nat → Option Ty} {f : FuncId} {n : Nat} {h h1 h1' hF : Hp} {w w' : World} {args : List Value} {K K1 : Value → Hp → Prop}

theorem join_l {b : Nat} {x} (hb : h1 b = some x) : join h1 hF b = some x := by simp [join, hb]
theorem join_r {b : Nat} (hb : h1 b = none) : join h1 hF b = hF b := by simp [join, hb]

theorem frame_step (hd : Dj h1 hF) (hs : Sub (join h1 hF) w) (hs' : Sub h1' w') (hf : Fr h1 w h1' w') :
    Dj h1' hF ∧ Sub (join h1' hF) w' ∧ Fr (join h1 hF) w (join h1' hF) w' := by
  have lt : ∀ b x, hF b = some x → b < w.heap.size := by
    intro b x hx
    obtain ⟨c, t⟩ := x
    have h0 : h1 b = none := (hd b).resolve_right (by rw [hx]; simp)
    exact hs.lt (b := b) (c := c) (t := t) (by rw [join_r h0, hx])
  refine ⟨fun b => ?_, fun b c t hb => ?_, hf.size, fun b hlt hn => ?_, fun b hn hn' => ?_, hf.os, hf.out⟩
  · cases h1b : h1' b with
    | none => exact .inl rfl
    | some x =>
      cases hFb : hF b with
      | none => exact .inr rfl
      | some y =>
        have h0 : h1 b = none := (hd b).resolve_right (by rw [hFb]; simp)
        have := hf.new b h0 (by rw [h1b]; simp)
        have := lt b y hFb
        omega
  · cases h1b : h1' b with
    | some x => rw [join_l h1b] at hb; cases hb; exact hs' b c t h1b
    | none =>
      rw [join_r h1b] at hb
      have h0 : h1 b = none := (hd b).resolve_right (by rw [hb]; simp)
      rw [hf.keep b (lt b _ hb) h0]
      exact hs b c t (by rw [join_r h0]; exact hb)
  · refine hf.keep b hlt ?_
    cases h1b : h1 b with
    | none => rfl
    | some x => rw [join_l h1b] at hn; cases hn
  · have h0 : h1 b = none := by
      cases h1b : h1 b with
      | none => rfl
      | some x => rw [join_l h1b] at hn; cases hn
    rw [join_r h0] at hn
    refine hf.new b h0 fun hc => hn' ?_
    rw [join_r hc]; exact hn

theorem CallX.frame (hd : Dj h1 hF) (hc : CallX P f args h1 K1) (hk : ∀ v h', Dj h' hF → K1 v h' → K v (join h' hF)) : CallX P f args (join h1 hF) K := by
  refine ⟨fun w hs => ?_⟩
  have hs1 : Sub h1 w := hs.weaken fun b x hb => join_l hb
  have := hc.run w hs1
  generalize (callFunc f args.toArray).run P w = r at this ⊢
  split at this
  · obtain ⟨e1, e2⟩ := this
    refine ⟨e1, Calls.mono e2 fun e w' he => ?_⟩
    obtain ⟨v, h', e3, e4, e5, e6⟩ := he
    obtain ⟨f1, f2, f3⟩ := frame_step hd hs e5 e6
    exact ⟨v, join h' hF, e3, hk v h' f1 e4, f2, f3⟩
  · obtain ⟨h', e4, e5, e6⟩ := this
    obtain ⟨f1, f2, f3⟩ := frame_step hd hs e5 e6
    exact ⟨join h' hF, hk _ h' f1 e4, f2, f3⟩
  · exact this.elim

theorem CallX.mono (hc : CallX P f args h K1) (hk : ∀ v h', K1 v h' → K v h') : CallX P f args h K := by
  refine ⟨fun w hs => ?_⟩
  have := hc.run w hs
  generalize (callFunc f args.toArray).run P w = r at this ⊢
  split at this
  · obtain ⟨e1, e2⟩ := this
    refine ⟨e1, Calls.mono e2 fun e w' he => ?_⟩
    obtain ⟨v, h', e3, e4, e5, e6⟩ := he
    exact ⟨v, h', e3, hk v h' e4, e5, e6⟩
  · obtain ⟨h', e4, e5, e6⟩ := this
    exact ⟨h', hk _ h' e4, e5, e6⟩
  · exact this.elim

/-! ### Growing heaps -/

def Ext (h h' : Hp) : Prop := ∀ b x, h b = some x → h' b = some x

theorem Ext.refl (h : Hp) : Ext h h := fun _ _ hb => hb
theorem Ext.trans {h h' h'' : Hp} (a : Ext h h') (b : Ext h' h'') : Ext h h'' := fun c x hc => b c x (a c x hc)
theorem Ext.new {h : Hp} {m : Nat} {x} (hn : h m = none) : Ext h (hput h m x) := fun b y hb => by
  have : b ≠ m := by rintro rfl; rw [hn] at hb; cases hb
  rw [hput_ne this]; exact hb
theorem Ext.bd {h : Hp} {m : Nat} {x} (hm : Bd h m) : Ext h (hput h m x) := Ext.new (hm.none (Nat.le_refl _))

theorem rd_ext {h h' : Hp} (he : Ext h h') {base : Option Addr} {n : Nat} {cs} (hr : rd h base n = some cs) : rd h' base n = some cs := by
  unfold rd at *
  split at hr
  · exact hr
  · rename_i b o
    cases hb : h b with
    | none => simp [hb] at hr
    | some x => rw [he b x hb]; rw [hb] at hr; exact hr
  · cases hr

theorem ldV_ext {h h' : Hp} (he : Ext h h') {agg : Bool} {sz b o : Nat} {v} (hv : ldV agg sz h b o = some v) : ldV agg sz h' b o = some v := by
  unfold ldV at *
  cases hb : h b with
  | none => simp [hb] at hv
  | some x => rw [he b x hb]; rw [hb] at hv; exact hv

theorem BoxX.ext {t : TypeId} {vs : List Value} {KK : Nat → Hp → Prop} (hk : ∀ b, Bd h b → Ext h (hput h b (vs, t)) → KK b (hput h b (vs, t))) : BoxX h t vs KK :=
  ⟨fun b hb => hk b hb (Ext.bd hb)⟩

theorem rd_get {h : Hp} {b off n j : Nat} {cs : List Value} (hr : rd h (some ⟨b, off, none⟩) n = some cs) (hj : j < n) : ldV false 1 h b (off + j) = cs[j]? := by
  unfold rd at hr
  unfold ldV
  cases hb : h b with
  | none => simp [hb] at hr
  | some x =>
    obtain ⟨c, t⟩ := x
    simp only [hb] at hr ⊢
    split at hr
    · cases hr; rw [seg_get hj]
    · cases hr

theorem rd_len {h : Hp} {base : Option Addr} {n : Nat} {cs : List Value} (hr : rd h base n = some cs) : cs.length = n := by
  unfold rd at hr
  split at hr
  · split at hr
    · cases hr; simp [*]
    · cases hr
  · rename_i b o
    cases hb : h b with
    | none => simp [hb] at hr
    | some x =>
      obtain ⟨c, t⟩ := x
      simp only [hb] at hr
      split at hr
      · rename_i hl; cases hr; exact seg_length hl
      · cases hr
  · cases hr

theorem rd_base {h : Hp} {base : Option Addr} {n : Nat} {cs : List Value} (hr : rd h base n = some cs) (hn : 0 < n) : ∃ b off, base = some ⟨b, off, none⟩ := by
  unfold rd at hr
  split at hr
  · split at hr
    · omega
    · cases hr
  · exact ⟨_, _, rfl⟩
  · cases hr

/-- The address of an element of a slice that is read. -/
theorem IdxX.rd {h : Hp} {base : Option Addr} {len : Nat} {j : Int} {cs : List Value} {KK : Nat → Nat → Prop} (hr : X.rd h base len = some cs) (h0 : 0 ≤ j) (h1 : j < len)
    (hk : ∀ b off, base = some ⟨b, off, none⟩ → X.rd h (some ⟨b, off, none⟩) len = some cs → KK b off) : IdxX base len j KK := by
  obtain ⟨b, off, rfl⟩ := rd_base hr (by omega)
  exact ⟨⟨⟨h0, h1⟩, hk b off rfl hr⟩⟩

/-! ### Slices of slices -/

def bsh (base : Option Addr) (l m sz : Nat) : Option Addr :=
  match base with
  | some ⟨b, o, none⟩ => some ⟨b, soff o l m sz, none⟩
  | x => x

theorem SlcX.gen {h : Hp} {base : Option Addr} {len cap sz n : Nat} {lo hi mx : Option Int} {KK : Value → Prop} {cs : List Value} (hr : X.rd h base n = some cs) (hnil : base = none → cap = 0) (hlen : len ≤ cap) (l hh m : Nat)
    (hlo : lo.getD 0 = l) (hhi : hi.getD len = hh) (hmx : mx.getD cap = m) (h1 : l ≤ hh) (h2 : hh ≤ m) (h3 : m ≤ cap) (hf : mx = none ∨ hi ≠ none)
    (hk : KK (.slice (bsh base l m sz) (hh - l) (m - l))) : SlcX base len cap sz lo hi mx KK := by
  refine ⟨?_⟩
  rcases base with _ | ⟨b, o, _ | a⟩
  · have hc := hnil rfl
    have e1 : len = 0 := by omega
    have e2 : l = 0 := by omega
    have e3 : hh = 0 := by omega
    have e4 : m = 0 := by omega
    subst e1 e2 e3 e4 hc
    refine ⟨⟨hlo, ?_, ?_, rfl, rfl, hf⟩, hk⟩
    · cases hi
      · rfl
      · exact hhi
    · cases mx
      · rfl
      · exact hmx
  · simp only [bsh] at hk
    cases lo <;> cases hi <;> cases mx <;> simp only [Option.getD_none, Option.getD_some] at hlo hhi hmx <;> simp only [sliceB]
    all_goals first
      | (exfalso; rcases hf with hf | hf <;> simp at hf; done)
      | skip
    all_goals subst_vars
    · have e1 : l = 0 := by omega
      have e2 : hh = len := by omega
      have e3 : m = cap := by omega
      subst e1 e2 e3; exact hk
    · have e1 : l = 0 := by omega
      have e3 : m = cap := by omega
      subst e1 e3; exact ⟨⟨by omega, by omega⟩, by simpa using hk⟩
    · have e1 : l = 0 := by omega
      subst e1; exact ⟨⟨by omega, by omega, by omega⟩, by simpa using hk⟩
    · have e2 : hh = len := by omega
      have e3 : m = cap := by omega
      subst e2 e3; exact ⟨⟨by omega, by omega⟩, by simpa using hk⟩
    · have e3 : m = cap := by omega
      subst e3; exact ⟨⟨by omega, by omega, by omega⟩, by simpa using hk⟩
    · exact ⟨⟨by omega, by omega, by omega, by omega⟩, by simpa using hk⟩
  · simp [X.rd] at hr

theorem rd_bsh {h : Hp} {base : Option Addr} {l k m sz n : Nat} {cs : List Value} (hr : rd h base n = some cs) (hb : (l + k) * sz ≤ n) (hm : m = l → k = 0) :
    rd h (bsh base l m sz) (k * sz) = some (seg cs (l * sz) (k * sz)) := by
  have hl := rd_len hr
  rcases base with _ | ⟨b, o, _ | a⟩
  · have : n = 0 := by
      by_cases hn : n = 0
      · exact hn
      · simp [rd, hn] at hr
    have e : (l + k) * sz = 0 := by omega
    have e2 : k * sz = 0 := by rw [Nat.add_mul] at e; omega
    simp only [bsh, rd, e2, if_true]
    simp [seg]
  · simp only [bsh]
    unfold rd at hr ⊢
    cases hb' : h b with
    | none => simp [hb'] at hr
    | some x =>
      obtain ⟨c, t⟩ := x
      simp only [hb'] at hr ⊢
      split at hr
      · rename_i hle
        cases hr
        rw [Nat.add_mul] at hb
        by_cases hml : m = l
        · have := hm hml; subst this
          simp [soff, hml, seg]; omega
        · simp only [soff, hml, if_false]
          rw [if_pos (by omega)]
          congr 1
          simp only [seg]
          rw [List.drop_take, List.take_take, List.drop_drop]
          congr 1
          omega
      · cases hr
  · simp [rd] at hr

theorem bsh_nil {base : Option Addr} {l m sz : Nat} (hb : bsh base l m sz = none) : base = none := by
  rcases base with _ | ⟨b, o, _ | a⟩
  · rfl
  · simp [bsh] at hb
  · simp [bsh] at hb

theorem bsh_zero (base : Option Addr) (m sz : Nat) : bsh base 0 m sz = base := by
  rcases base with _ | ⟨b, o, _ | a⟩
  · rfl
  · simp [bsh, soff]
  · rfl

/-! ### Loops with a state -/

def agrees (ρ : Env) : List (Nat × Value) → Prop
  | [] => True
  | p :: l => ρ p.1 = p.2 ∧ agrees ρ l

def puts (ρ : Env) : List (Nat × Value) → Env
  | [] => ρ
  | p :: l => put (puts ρ l) (some p.1) p.2

theorem puts_agrees {ρ : Env} : ∀ {l : List (Nat × Value)}, agrees ρ l → puts ρ l = ρ
  | [], _ => rfl
  | p :: l, ha => by
    change put (puts ρ l) (some p.1) p.2 = ρ
    rw [puts_agrees ha.2]
    exact put_self ha.1

theorem LoopX.st (hT : TOk P T) {fn : Func} (hf : P.funcs[f]? = some fn) {c : Code} {k : List Item} {ρ : Env} {σ : Type} (vals : σ → List (Nat × Value)) (I : σ → Hp → Prop) (μ : σ → Nat) (x0 : σ)
    (hρ : agrees ρ (vals x0)) (h0 : I x0 h)
    (round : ∀ x ρ h, I x h → (∀ x' ρ' h', I x' h' → μ x' < μ x → agrees ρ' (vals x') → LoopX P f n K c k ρ' h') →
      xs P T f n fn.results.toList K 10000 (.code c :: .inLoop c :: k) (puts ρ (vals x)) h) : LoopX P f n K c k ρ h := by
  have key : ∀ m x ρ h, μ x = m → I x h → agrees ρ (vals x) → LoopX P f n K c k ρ h := by
    intro m
    induction m using Nat.strongRecOn with
    | _ m ih =>
      intro x ρ h hm hI ha
      have := round x ρ h hI fun x' ρ' h' hI' hlt ha' => ih _ (hm ▸ hlt) x' ρ' h' rfl hI' ha'
      rw [puts_agrees ha] at this
      exact ⟨xs_sound hT hf _ _ _ _ this⟩
  exact key _ x0 ρ h rfl h0 hρ

end

/-! ### Byte slices -/

def bcells (l : List Int) : List Value := l.map (Value.int .u8)
def isB (l : List Int) : Prop := ∀ d ∈ l, 0 ≤ d ∧ d < 256

/-- The slice holds these bytes. -/
structure Byt (h : Hp) (base : Option Addr) (len cap : Nat) (l : List Int) : Prop where
  rd : rd h base len = some (bcells l)
  isB : isB l
  le : len ≤ cap
  nil : base = none → cap = 0
  room : len < 2 ^ 40

theorem Byt.ext {h h' : Hp} (he : Ext h h') {base len cap l} (hb : Byt h base len cap l) : Byt h' base len cap l := ⟨rd_ext he hb.rd, hb.isB, hb.le, hb.nil, hb.room⟩
theorem Byt.len {h : Hp} {base len cap l} (hb : Byt h base len cap l) : l.length = len := by
  have := rd_len hb.rd
  simpa [bcells] using this
theorem Byt.get {h : Hp} {b off len cap l} (hb : Byt h (some ⟨b, off, none⟩) len cap l) {j : Nat} (hj : j < len) : ldV false 1 h b (off + j) = some (.int .u8 (l.getD j 0)) := by
  have hl := hb.len
  rw [rd_get hb.rd hj]
  simp [bcells, List.getElem?_eq_getElem (show j < l.length by omega)]
/-- A byte of a slice is loaded. -/
theorem LoadX.byte {h : Hp} {base : Option Addr} {b off len cap l} {j : Int} {sz : Nat} {KK : Value → Prop} (hb : Byt h base len cap l) (he : base = some ⟨b, off, none⟩) (k : Nat) (hj : j = k) (hk : k < len) (hsz : sz = 1)
    (hK : KK (.int .u8 (l.getD k 0))) : LoadX false 1 h b (off + j.toNat * sz) KK := by
  subst he hj hsz
  exact ⟨_, by simpa using hb.get hk, hK⟩
theorem isB.get {l : List Int} (hb : X.isB l) (j : Nat) : 0 ≤ l.getD j 0 ∧ l.getD j 0 < 256 := by
  by_cases hj : j < l.length
  · have := hb (l[j]) (List.getElem_mem hj)
    simpa [List.getElem?_eq_getElem hj] using this
  · simp [List.getElem?_eq_none (by omega : l.length ≤ j)]
theorem isB.take {l : List Int} (hb : X.isB l) (k : Nat) : X.isB (l.take k) := fun d hd => hb d (List.mem_of_mem_take hd)
theorem isB.drop {l : List Int} (hb : X.isB l) (k : Nat) : X.isB (l.drop k) := fun d hd => hb d (List.mem_of_mem_drop hd)

theorem bcells_seg (l : List Int) (o k : Nat) : seg (bcells l) o k = bcells ((l.drop o).take k) := by
  simp [seg, bcells, List.map_drop, List.map_take]

/-- A slice of a byte slice holds the bytes' slice. -/
theorem Byt.slice {h : Hp} {base len cap l} (hb : Byt h base len cap l) {lo hh m : Nat} (h1 : lo ≤ hh) (h2 : hh ≤ len) (h3 : hh ≤ m) (h4 : m ≤ cap) :
    Byt h (bsh base lo m 1) (hh - lo) (m - lo) ((l.drop lo).take (hh - lo)) := by
  refine ⟨?_, (hb.isB.drop lo).take _, by omega, fun hn => ?_, by have := hb.room; omega⟩
  · have := rd_bsh (m := m) (l := lo) (k := hh - lo) (sz := 1) hb.rd (by omega) (fun e => by omega)
    simp only [Nat.mul_one] at this
    rw [this, bcells_seg]
  · have := hb.nil (bsh_nil hn); omega

theorem Byt.pre {h : Hp} {base len cap l} (hb : Byt h base len cap l) {k m : Nat} (h2 : k ≤ len) (h3 : k ≤ m) (h4 : m ≤ cap) : Byt h base k m (l.take k) := by
  have := hb.slice (lo := 0) (hh := k) (m := m) (by omega) h2 h3 h4
  simpa [bsh_zero] using this

end Go.Proofs.YgvalwGreat.X
