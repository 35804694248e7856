/-
  THE EXECUTOR IS SOUND (fourth part): conversions, slices, literals, built-ins, calls.
-/
import Derived.Test.YgvalwGreatXp
import Derived.Laws.Slices
set_option linter.unusedVariables false
set_option linter.unusedSimpArgs false
namespace Go.Proofs.YgvalwGreat.X
open Go

theorem zeros_length (z : List Value) (n : Nat) : (zeros z n).length = n * z.length := by simp [zeros]
theorem zeros_succ (z : List Value) (n : Nat) : zeros z (n + 1) = z ++ zeros z n := by simp [zeros, List.replicate_succ]
theorem zeros_get (z : List Value) : ∀ (n i : Nat) (_ : i < n * z.length), (zeros z n)[i]? = z[i % z.length]? := by
  intro n
  induction n with
  | zero => intro i hi; omega
  | succ n ih =>
    intro i hi
    rw [zeros_succ]
    by_cases hlt : i < z.length
    · rw [List.getElem?_append_left hlt, Nat.mod_eq_of_lt hlt]
    · have h1 : z.length ≤ i := Nat.le_of_not_lt hlt
      rw [List.getElem?_append_right h1, ih (i - z.length) (by rw [Nat.succ_mul] at hi; omega)]
      congr 1
      exact (Nat.mod_eq_sub_mod h1).symm

theorem made_eq_zeros (z : List Value) (n : Nat) : (Array.range (n * z.length)).map (z.toArray[· % z.toArray.size]!) = (zeros z n).toArray := by
  apply Array.ext
  · simp [zeros_length]
  · intro i h1 h2
    have hi : i < n * z.length := by simpa using h1
    have hz : 0 < z.length := by
      rcases Nat.eq_zero_or_pos z.length with h0 | h0
      · rw [h0] at hi; omega
      · exact h0
    have hm : i % z.length < z.length := Nat.mod_lt _ hz
    have := zeros_get z n i hi
    rw [List.getElem?_eq_getElem (by simpa using h2), List.getElem?_eq_getElem hm] at this
    simp only [Option.some.injEq] at this
    simp only [Array.getElem_map, Array.getElem_range, List.size_toArray, List.getElem_toArray]
    rw [this]
    simp [getElem!_def, hm]

section
variable {P : Program} {T : Nat → Option Ty} {n : Nat} {o : Oper} {ρ : Env} {h h' : Hp} {w w' : World} {K : Env → Hp → Prop} {Q : Exit → Act → World → Prop} {v : Value}

theorem rd_loadCells (hs : Sub h w) {b off m : Nat} {cs} (hr : rd h (some ⟨b, off, none⟩) m = some cs) : (loadCells ⟨b, off, none⟩ m).run P w = .ok cs.toArray w ∧ cs.length = m := by
  simp only [rd] at hr
  split at hr
  · cases hr
  · rename_i c t hb
    split at hr
    · rename_i hl
      cases hr
      exact ⟨run_loadCells_seg hs hb hl, seg_length hl⟩
    · cases hr

theorem rd_first (hs : Sub h w) {base : Option Addr} {m sz len cap : Nat} {cs} (hr : rd h base (m * sz) = some cs) : (Builtin.firstCells sz m (.slice base len cap)).run P w = .ok cs.toArray w := by
  cases base with
  | none =>
    simp only [rd] at hr
    split at hr
    · cases hr; simp [Builtin.firstCells]
    · cases hr
  | some a =>
    obtain ⟨b, off, sp⟩ := a
    cases sp with
    | none => simp [Builtin.firstCells, (rd_loadCells (P := P) hs hr).1]
    | some s => simp [rd] at hr

theorem rd_length {base : Option Addr} {m : Nat} {cs} (hr : rd h base m = some cs) : cs.length = m := by
  cases base with
  | none =>
    simp only [rd] at hr
    split at hr
    · cases hr; simp_all
    · cases hr
  | some a =>
    obtain ⟨b, off, sp⟩ := a
    cases sp with
    | none =>
      simp only [rd] at hr
      split at hr
      · cases hr
      · split at hr
        · rename_i hl; cases hr; exact seg_length hl
        · cases hr
    | some s => simp [rd] at hr

theorem foldl_push (ns : List Int) : ∀ (s : ByteArray), ns.foldl (fun r x => r.push (UInt8.ofNat x.toNat)) s = ⟨s.data ++ (ns.map fun x => UInt8.ofNat x.toNat).toArray⟩ := by
  induction ns with
  | nil => intro s; simp
  | cons a ns ih => intro s; rw [List.foldl_cons, ih]; simp [ByteArray.push]

theorem x_convert (hT : TOk P T) {src dst x} (ho : o.op = .convert src dst x) (hx : xop P T n o ρ h K) : QV P n o ρ h K := by
  simp only [xop, ho] at hx
  split at hx
  · rename_i k0 _ _ _ _ k _ _ _ _ k1 a h1 h2 ha
    refine ⟨_, fun w hs => ?_, hx⟩
    simp [execOp, ho, ha, convert, underlying, ((hT _ _ h1).u rfl), ((hT _ _ h2).u rfl), Conv.intToInt]
  · rename_i e _ _ _ _ _ _ _ _ base l c h1 h2 ha
    split at hx
    · rename_i he
      obtain ⟨ns, hr, hk⟩ := hx.run
      refine ⟨.string ⟨(ns.map fun x => UInt8.ofNat x.toNat).toArray⟩, fun w hs => ?_, hk⟩
      have hcv := run_convert_bytes_string (P := P) w src dst e base l c ((hT _ _ h1).u rfl) ((hT _ _ he).u rfl) ((hT _ _ h2).u rfl)
      have hbs : (Conv.bytesToString (.slice base l c)).run P w = .ok (.string ⟨(ns.map fun x => UInt8.ofNat x.toNat).toArray⟩) w := by
        cases base with
        | none =>
          have hl := rd_length hr
          simp only [rd] at hr
          split at hr
          · rename_i h0
            have : ns = [] := by
              cases ns with
              | nil => rfl
              | cons a as => simp at hr
            subst this
            simp [Conv.bytesToString]; rfl
          · cases hr
        | some ad =>
          obtain ⟨b, off, sp⟩ := ad
          cases sp with
          | some s => simp [rd] at hr
          | none =>
            rw [run_bytesToString w _ l c ns (rd_loadCells hs hr).1, foldl_push]
            simp [ByteArray.empty, ByteArray.emptyWithCapacity]; rfl
      simp [execOp, ho, ha, hcv, hbs]
    · exact hx.elim
  · exact hx.elim

theorem x_makeSlice (hT : TOk P T) {t l c} (ho : o.op = .makeSlice t l c) (hs : Sub h w) (hx : xop P T n o ρ h K) : o.wp P (actOf n ρ) w (NextK n h w K) Q := by
  simp only [xop, ho] at hx
  split at hx
  · rename_i e _ _ _ _ k1 len k2 cap ht hl hc
    split at hx
    · rename_i y he
      obtain ⟨i, z, hi, hsz, hby, hz, hzc⟩ := (hT _ _ he).info
      have h0 := hx.lo
      have h1 := hx.le
      have h2 := hx.room
      have hylen := (hT _ _ he).len
      have hb0 := hx.pos
      · have hcap : cap ≤ 2 ^ 47 := by
          have hc0 : 0 ≤ cap := by omega
          have : cap * 1 ≤ cap * (y.bytes : Int) := Int.mul_le_mul_of_nonneg_left (by omega) hc0
          omega
        have hmk := run_make (P := P) w t e i z ((hT _ _ ht).u rfl) hi hz k1 k2 len cap h0 h1 (by rw [hby, Int.mul_comm]; omega) (by omega)
        refine s_val (v := .slice (some ⟨w.heap.size, 0, none⟩) len.toNat cap.toNat) ?_ (hx.run _ hs.bd) (Sub.alloc hs _ _) (Fr.alloc hs _ _)
        have hm : madeCells z.cells (cap.toNat * i.size) = (zeros y.zero cap.toNat).toArray := by
          rw [hsz, hzc, ← hylen]; exact made_eq_zeros _ _
        simp only [execOp, ho, hl, hc, Sem.run_bind, hmk, Result.andThen_ok, Sem.run_pure, hm]
    · exact hx.elim
  · exact hx.elim

theorem soff_addr (b off l m sz : Nat) : (if m = l then (⟨b, off, none⟩ : Addr) else (⟨b, off, none⟩ : Addr).add (l * sz)) = ⟨b, soff off l m sz, none⟩ := by
  unfold soff; split <;> simp [add_none]

/-- The three bounds, when they fit. -/
theorem bounds_run (isS : Bool) (len cap : Nat) (lo hi mx : Option Value) (l hh m : Nat) (w : World)
    (hm : match mx with | none => m = cap | some v => ∃ (k : IntKind) (i : Int), v = .int k i ∧ 0 ≤ i ∧ i ≤ cap ∧ i.toNat = m)
    (hhi : match hi with | none => mx = none ∧ hh = len | some v => ∃ (k : IntKind) (i : Int), v = .int k i ∧ 0 ≤ i ∧ i ≤ m ∧ i.toNat = hh)
    (hlo : match lo with | none => l = 0 | some v => ∃ (k : IntKind) (i : Int), v = .int k i ∧ 0 ≤ i ∧ i ≤ hh ∧ i.toNat = l) :
    (Instr.sliceBounds isS len cap lo hi mx).run P w = .ok (l, hh, m) w := by
  cases mx with
  | none =>
    simp only at hm; subst hm
    cases hi with
    | none =>
      obtain ⟨-, rfl⟩ := hhi
      cases lo with
      | none => simp only at hlo; subst hlo; simp [Instr.sliceBounds]
      | some v =>
        obtain ⟨k, i, rfl, h0, h1, rfl⟩ := hlo
        simp [Instr.sliceBounds, Instr.sliceBound, asIntOf, h0, h1]
    | some v =>
      obtain ⟨k, i, rfl, h0, h1, rfl⟩ := hhi
      cases lo with
      | none => simp only at hlo; subst hlo; simp [Instr.sliceBounds, Instr.sliceBound, asIntOf, h0, h1]
      | some v =>
        obtain ⟨k', i', rfl, h0', h1', rfl⟩ := hlo
        simp only [Instr.sliceBounds, Sem.run_bind, Sem.run_pure, Result.andThen_ok, run_sliceBound w k i _ _ h0 h1, run_sliceBound w k' i' _ _ h0' h1']
  | some vm =>
    obtain ⟨km, im, rfl, hm0, hm1, rfl⟩ := hm
    cases hi with
    | none => exact absurd hhi.1 (by simp)
    | some v =>
      obtain ⟨k, i, rfl, h0, h1, rfl⟩ := hhi
      cases lo with
      | none =>
        simp only at hlo; subst hlo
        simp only [Instr.sliceBounds, Sem.run_bind, Sem.run_pure, Result.andThen_ok, run_sliceBound w km im _ _ hm0 hm1, run_sliceBound w k i _ _ h0 h1]
      | some v =>
        obtain ⟨k', i', rfl, h0', h1', rfl⟩ := hlo
        simp only [Instr.sliceBounds, Sem.run_bind, Sem.run_pure, Result.andThen_ok, run_sliceBound w km im _ _ hm0 hm1, run_sliceBound w k i _ _ h0 h1, run_sliceBound w k' i' _ _ h0' h1']

def MB (x : Option Int) (cap m : Nat) : Prop :=
  match x with
  | none => m = cap
  | some i => 0 ≤ i ∧ i ≤ cap ∧ i.toNat = m
def HB (x mx : Option Int) (m len hh : Nat) : Prop :=
  match x with
  | none => mx = none ∧ hh = len
  | some i => 0 ≤ i ∧ i ≤ m ∧ i.toNat = hh
def LB (x : Option Int) (hh l : Nat) : Prop :=
  match x with
  | none => l = 0
  | some i => 0 ≤ i ∧ i ≤ hh ∧ i.toNat = l
def BI (x : Option Value) (i : Option Int) : Prop :=
  match x with
  | none => i = none
  | some v => ∃ k j, v = Value.int k j ∧ i = some j
theorem boundI_sound {x : Option Value} {K : Option Int → Prop} (hx : boundI x K) : ∃ i, K i ∧ BI x i := by
  unfold boundI at hx
  split at hx
  · exact ⟨none, hx, rfl⟩
  · exact ⟨_, hx, _, _, rfl, rfl⟩
  · exact hx.elim

theorem sliceB_sound {b off len cap sz : Nat} {lo hi mx : Option Int} {KK : Value → Prop} (hx : sliceB b off len cap sz lo hi mx KK) :
    ∃ l hh m, KK (.slice (some ⟨b, soff off l m sz, none⟩) (hh - l) (m - l)) ∧
      MB mx cap m ∧ HB hi mx m len hh ∧ LB lo hh l := by
  unfold sliceB at hx
  split at hx
  · exact ⟨0, len, cap, hx, rfl, ⟨rfl, rfl⟩, rfl⟩
  · rename_i l; obtain ⟨⟨h0, h1⟩, hk⟩ := hx; exact ⟨l.toNat, len, cap, hk, rfl, ⟨rfl, rfl⟩, h0, h1, rfl⟩
  · rename_i a; obtain ⟨⟨h0, h1⟩, hk⟩ := hx; exact ⟨0, a.toNat, cap, hk, rfl, ⟨h0, h1, rfl⟩, rfl⟩
  · rename_i l a; obtain ⟨⟨h0, h1, h2⟩, hk⟩ := hx; exact ⟨l.toNat, a.toNat, cap, hk, rfl, ⟨by omega, h2, rfl⟩, h0, by omega, rfl⟩
  · rename_i a m; obtain ⟨⟨h0, h1, h2⟩, hk⟩ := hx; exact ⟨0, a.toNat, m.toNat, hk, ⟨by omega, h2, rfl⟩, ⟨h0, by omega, rfl⟩, rfl⟩
  · rename_i l a m; obtain ⟨⟨h0, h1, h2, h3⟩, hk⟩ := hx; exact ⟨l.toNat, a.toNat, m.toNat, hk, ⟨by omega, h3, rfl⟩, ⟨by omega, by omega, rfl⟩, h0, by omega, rfl⟩
  · exact hx.elim

theorem x_slice (hT : TOk P T) {t x lo hi mx} (ho : o.op = .slice t x lo hi mx) (hx : xop P T n o ρ h K) : QV P n o ρ h K := by
  simp only [xop, ho] at hx
  obtain ⟨l0, hx, el⟩ := boundI_sound hx
  obtain ⟨h0, hx, eh⟩ := boundI_sound hx
  obtain ⟨m0, hx, em⟩ := boundI_sound hx
  have elo : lo.map (ev n ρ) = optO n ρ lo := by cases lo <;> rfl
  have ehi : hi.map (ev n ρ) = optO n ρ hi := by cases hi <;> rfl
  have emx : mx.map (ev n ρ) = optO n ρ mx := by cases mx <;> rfl
  -- the bounds' run, once for both forms
  have hb : ∀ (w : World) (isS : Bool) (len cap : Nat) (l hh m : Nat),
      MB m0 cap m → HB h0 m0 m len hh → LB l0 hh l →
      (Instr.sliceBounds isS len cap (optO n ρ lo) (optO n ρ hi) (optO n ρ mx)).run P w = .ok (l, hh, m) w := by
    intro w isS len cap l hh m q1 q2 q3
    apply bounds_run
    · cases hc : optO n ρ mx with
      | none => rw [hc] at em; subst em; exact q1
      | some v => rw [hc] at em; obtain ⟨k, j, rfl, rfl⟩ := em; exact ⟨k, j, rfl, q1⟩
    · cases hc : optO n ρ hi with
      | none =>
        rw [hc] at eh; subst eh
        refine ⟨?_, q2.2⟩
        cases hc' : optO n ρ mx with
        | none => rfl
        | some v => rw [hc'] at em; obtain ⟨k, j, rfl, rfl⟩ := em; exact absurd q2.1 (by simp)
      | some v => rw [hc] at eh; obtain ⟨k, j, rfl, rfl⟩ := eh; exact ⟨k, j, rfl, q2⟩
    · cases hc : optO n ρ lo with
      | none => rw [hc] at el; subst el; exact q3
      | some v => rw [hc] at el; obtain ⟨k, j, rfl, rfl⟩ := el; exact ⟨k, j, rfl, q3⟩
  split at hx
  · rename_i len e _ _ _ _ b off ht ha
    split at hx
    · rename_i y he
      obtain ⟨l, hh, m, hk, q1, q2, q3⟩ := sliceB_sound hx
      refine ⟨_, fun w hs => ?_, hk⟩
      have hr := hb w false len len l hh m q1 q2 q3
      simp only [execOp, ho, elo, ehi, emx, ha, Instr.sliceAt, Sem.run_bind, underlying, run_program, Result.andThen_ok, ((hT _ _ ht).u rfl), Sem.run_pure, Instr.sureAddr, hr, sizeOf_run hT he, soff_addr]
    · exact hx.elim
  · rename_i e _ _ _ _ base len cap ht ha
    split at hx
    rotate_left
    · exact hx.elim
    rename_i y he
    have hx := hx.run
    split at hx
    · rename_i b off _
      obtain ⟨l, hh, m, hk, q1, q2, q3⟩ := sliceB_sound hx
      refine ⟨_, fun w hs => ?_, hk⟩
      have hr := hb w true len cap l hh m q1 q2 q3
      have hso : (if m = l then some (⟨b, off, none⟩ : Addr) else (some (⟨b, off, none⟩ : Addr)).map (·.add (l * y.size))) = some ⟨b, soff off l m y.size, none⟩ := by
        rw [← soff_addr]; split <;> rfl
      simp only [execOp, ho, elo, ehi, emx, ha, Instr.sliceAt, Instr.slice, Sem.run_bind, underlying, run_program, Result.andThen_ok, ((hT _ _ ht).u rfl), Sem.run_pure, hr, sizeOf_run hT he, hso]
    · unfold sliceNil at hx
      obtain ⟨⟨z1, z2, z3, rfl, rfl, z4⟩, hk⟩ := hx
      refine ⟨_, fun w hs => ?_, hk⟩
      have hr := hb w true 0 0 0 0 0 (by
          cases m0 with
          | none => rfl
          | some i => simp only [Option.getD_some] at z3; subst z3; exact ⟨by omega, by omega, rfl⟩) (by
          cases h0 with
          | none => exact ⟨z4.resolve_right (by simp), rfl⟩
          | some i => simp only [Option.getD_some] at z2; subst z2; exact ⟨by omega, by omega, rfl⟩) (by
          cases l0 with
          | none => rfl
          | some i => simp only [Option.getD_some] at z1; subst z1; exact ⟨by omega, by omega, rfl⟩)
      simp [execOp, ho, elo, ehi, emx, ha, Instr.sliceAt, Instr.slice, underlying, ((hT _ _ ht).u rfl), hr, sizeOf_run hT he]
    · exact hx.elim
  · exact hx.elim

theorem x_field (hT : TOk P T) {s x f} (ho : o.op = .field s x f) (hx : xop P T n o ρ h K) : QV P n o ρ h K := by
  simp only [xop, ho] at hx
  split at hx
  · rename_i fs _ _ _ _ cs ht ha
    split at hx
    · rename_i fd hfd
      obtain ⟨fs', hu, hfl⟩ := (hT _ _ ht).st fs rfl
      obtain ⟨fd', hfd', e1, e2⟩ := flat_get hfl hfd
      split at hx
      · rename_i y hy
        split at hx
        · rename_i hag
          refine ⟨_, fun w hs => ?_, hx⟩
          have : (isAgg fd.type).run P w = .ok true w := by rw [isAgg_run hT hy, hag]
          simp [execOp, ho, ha, Instr.field, underlying, hu, hfd', part, asAgg, e1, e2, this, sizeOf_run hT hy, seg]
          apply Array.ext'
          simp [Array.toList_extract, List.extract_eq_take_drop]
        · rename_i hag
          split at hx
          · rename_i v hv
            refine ⟨_, fun w hs => ?_, (force_sound hx)⟩
            have : (isAgg fd.type).run P w = .ok false w := by rw [isAgg_run hT hy, hag]
            have hv' : cs[fd.offset]? = some v := by simpa using hv
            simp [execOp, ho, ha, Instr.field, underlying, hu, hfd', part, asAgg, e1, e2, this, hv']
          · exact hx.elim
      · exact hx.elim
    · exact hx.elim
  · exact hx.elim

theorem x_index (hT : TOk P T) {t x i} (ho : o.op = .index t x i) (hx : xop P T n o ρ h K) : QV P n o ρ h K := by
  simp only [xop, ho] at hx
  split at hx
  · rename_i len e _ _ _ _ cs k0 j ht ha hi
    split at hx
    · rename_i k _ sz _ _ he
      obtain ⟨⟨h0, h1, h2, h3⟩, hk⟩ := hx
      have hlt : j.toNat < cs.toList.length := by simp; omega
      obtain ⟨v, hv⟩ := intCells_get h3 (i := j.toNat) (v := cs.toList[j.toNat]) (List.getElem?_eq_getElem hlt)
      have hget : cs.toList[j.toNat]? = some (.int k v) := by rw [List.getElem?_eq_getElem hlt, hv]
      refine ⟨_, fun w hs => ?_, (hk v hget)⟩
      have hsz : sz = 1 := (hT _ _ he).one _ rfl
      subst hsz
      have hp : (part e cs (j.toNat * 1)).run P w = .ok (.int k v) w := part_int hT he cs _ (by simpa using hget) w
      simp [execOp, ho, ha, hi, Instr.index, asIntOf, underlying, ((hT _ _ ht).u rfl), h0, h1, sizeOf_run hT he]
      have hp' : (part e cs j.toNat).run P w = .ok (.int k v) w := by simpa using hp
      simp [hp']
    · exact hx.elim
  · rename_i s k0 j ht ha hi
    obtain ⟨⟨h0, h1⟩, hk⟩ := hx
    have hlt : j.toNat < s.size := by omega
    refine ⟨_, fun w hs => ?_, (hk s[j.toNat] (by simp [hlt]))⟩
    simp [execOp, ho, ha, hi, Instr.index, asIntOf, underlying, ((hT _ _ ht).u rfl), h0, hlt]
  · exact hx.elim

end
end Go.Proofs.YgvalwGreat.X
