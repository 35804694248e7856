import Derived.Test.YgvalwGreatF20
set_option linter.unusedVariables false
set_option linter.unusedSimpArgs false
namespace Go.Proofs.YgvalwGreat.X
open Go

section
variable {h : Hp} {K : Value → Hp → Prop} {ba bb bc : Option Addr} {na ca nb cb nc cc : Nat} {x y z : Int}

set_option maxRecDepth 100000 in
theorem place_ok {n : Nat} (ha : Nt h ba na ca x) (hn : n < 2 ^ 40) (hk0 : (n : Int) ≤ x → K (.tuple #[.int .i64 0, .bool false]) h)
    (hk : x < (n : Int) → K (.tuple #[.int .i64 x, .bool true]) h) : CallX Hval.prog 119 [.slice ba na ca, .int .i64 n] h K := by
  refine CallX.of_xf T_ok Hval.func119 rfl (by kernel_rfl) (Nat.le_of_ble_eq_true rfl) ?_; conv => whnf
  have hx0 := ha.val
  refine u64N ha (fun hc => ?_) (fun hc => ?_) <;> conv => whnf
  · repeat (first | (refine CondX.tt ?_; conv => whnf) | (refine CondX.ff ?_; conv => whnf))
    exact RetX.same (hk0 (by omega))
  · repeat (first | (refine CondX.tt ?_; conv => whnf) | (refine CondX.ff ?_; conv => whnf))
    have e : IntKind.u64.wrap (n : Int) = n := by rw [wrap_u64']; omega
    rw [e]
    refine CondX.mk (fun h1 => ?_) (fun h1 => ?_) <;> conv => whnf
    · have h1 := of_decide_eq_true h1
      exact RetX.same (hk0 (by omega))
    · have h1 := of_decide_eq_false h1
      have e2 : IntKind.i64.wrap x = x := by rw [wrap_i64 (by omega) (by omega)]
      rw [e2]
      exact RetX.same (hk (by omega))

/-- n bytes of a list from a place on, zeros past its end. -/
def cutN (l : List Int) (a n : Nat) : List Int := (l.drop a).take n ++ List.replicate (n - (l.length - a)) 0

theorem cutN_length (l : List Int) (a n : Nat) : (cutN l a n).length = n := by simp [cutN]; omega
theorem isB_cutN {l : List Int} (hb : isB l) (a n : Nat) : isB (cutN l a n) := fun d hd => by
  rcases List.mem_append.1 hd with h1 | h1
  · exact (hb.drop a).take n d h1
  · have := List.eq_of_mem_replicate h1; omega
theorem cutN_past {l : List Int} {a n : Nat} (ha : l.length ≤ a) : cutN l a n = List.replicate n 0 := by
  simp [cutN, List.drop_eq_nil_of_le ha, show l.length - a = 0 by omega]
theorem cutN_ovl {l : List Int} {a n : Nat} : ovl (List.replicate n 0) 0 ((l.drop a).take (Nat.min (l.length - a) n)) = cutN l a n := by
  unfold ovl cutN
  have e1 : (l.drop a).take (Nat.min (l.length - a) n) = (l.drop a).take n := by
    rw [List.take_eq_take_iff]; simp; omega
  rw [e1]
  simp
  omega

set_option maxRecDepth 100000 in
theorem cut_ok {l : List Int} (hs : Byt h bc nc cc l) (ha : Nt h ba na ca x) (hb : Nt h bb nb cb y) (hy : y < 2 ^ 40)
    (hk : ∀ m, Bd h m → K (.slice (some ⟨m, 0, none⟩) y.toNat y.toNat) (hput h m (bcells (cutN l x.toNat y.toNat), 5))) : CallX Hval.prog 129 [.slice bc nc cc, .slice ba na ca, .slice bb nb cb] h K := by
  refine CallX.of_xf T_ok Hval.func129 rfl (by kernel_rfl) (Nat.le_of_ble_eq_true rfl) ?_; conv => whnf
  have hx0 := ha.val
  have hy0 := hb.val
  have hl := hs.len
  have hr := hs.room
  refine small_ok hb ?_; conv => whnf
  rw [if_pos (by omega)]
  refine MakeX.bytes y.toNat (by omega) (by omega) fun m hm => ?_; conv => whnf
  have hE : Ext h (hput h m (bcells (List.replicate y.toNat 0), 5)) := Ext.bd hm
  refine place_ok (ha.ext hE) hr (fun hc => ?_) (fun hc => ?_) <;> conv => whnf
  · refine CondX.ff ?_; conv => whnf
    have hp := cutN_past (l := l) (a := x.toNat) (n := y.toNat) (by omega)
    have := hk m hm
    rw [hp] at this
    exact RetX.same this
  · refine CondX.tt ?_; conv => whnf
    have hs' := hs.ext hE
    refine SlcX.gen hs'.rd hs'.nil hs'.le x.toNat nc cc (show x = _ by omega) rfl rfl (by omega) hs.le (Nat.le_refl _) (.inl rfl) ?_; conv => whnf
    refine CopyX.bytes (hs'.slice (lo := x.toNat) (hh := nc) (m := cc) (by omega) (Nat.le_refl _) hs.le (Nat.le_refl _)) (by simp) ?_; conv => whnf
    have e : List.take (Nat.min (nc - x.toNat) y.toNat) (List.take (nc - x.toNat) (List.drop x.toNat l)) = List.take (Nat.min (l.length - x.toNat) y.toNat) (List.drop x.toNat l) := by
      rw [List.take_take, hl]; congr 1; exact Nat.min_eq_left (Nat.min_le_left ..)
    rw [e, cutN_ovl]
    exact RetX.same (hk m hm)

set_option maxRecDepth 100000 in
theorem part_ok {l : List Int} (hs : Byt h bc nc cc l) (h0 : 0 ≤ x) (h1 : x < 18446744073709551616) (h2 : 0 ≤ y) (h3 : y < 2 ^ 40)
    (hk : ∀ b n c h', Ext h h' → Byt h' b n c (cutN l x.toNat y.toNat) → K (.slice b n c) h') : CallX Hval.prog 204 [.slice bc nc cc, .int .u64 x, .int .u64 y] h K := by
  refine CallX.of_xf T_ok Hval.func204 rfl (by kernel_rfl) (Nat.le_of_ble_eq_true rfl) ?_; conv => whnf
  refine num_ok h0 h1 fun b n c h1' he1 hn1 => ?_; conv => whnf
  refine num_ok h2 (by omega) fun b n c h2' he2 hn2 => ?_; conv => whnf
  refine cut_ok ((hs.ext he1).ext he2) (hn1.ext he2) hn2 h3 fun m hm => ?_; conv => whnf
  exact RetX.same (hk _ _ _ _ ((he1.trans he2).trans (Ext.bd hm)) (own_all (isB_cutN hs.isB _ _) (by rw [cutN_length]) (by rw [cutN_length]; omega)))

def endI (off n : Int) : Int := if n = 0 then 0 else off + n
set_option maxRecDepth 100000 in
theorem end_ok (ha : Nt h ba na ca x) (hb : Nt h bb nb cb y) (hx : x + y < big) (hk : ∀ b n c h', Ext h h' → Nt h' b n c (endI x y) → K (.slice b n c) h') : CallX Hval.prog 127 [.slice ba na ca, .slice bb nb cb] h K := by
  refine CallX.of_xf T_ok Hval.func127 rfl (by kernel_rfl) (Nat.le_of_ble_eq_true rfl) ?_; conv => whnf
  refine isZero_ok hb ?_; conv => whnf
  refine CondX.mk (fun h1 => ?_) (fun h1 => ?_) <;> conv => whnf
  · have h1 := of_decide_eq_true h1
    refine RetX.same (hk _ _ _ _ (Ext.refl _) ?_)
    rw [endI, if_pos h1]; exact Nt_nil h
  · have h1 := of_decide_eq_false h1
    refine addN ha hb hx fun b n c h1' he1 hn1 => ?_; conv => whnf
    refine RetX.same (hk _ _ _ _ he1 ?_)
    rw [endI, if_neg h1]; exact hn1

/-- The kinds of a frame that create. -/
def crK (k : Int) : Bool := decide (k = 1 ∨ k = 5 ∨ k = 6)
set_option maxRecDepth 100000 in
theorem creates_ok {k : Int} (hk : K (.bool (crK k)) h) : CallX Hval.prog 102 [.int .u8 k] h K := by
  refine CallX.of_xf T_ok Hval.func102 rfl (by kernel_rfl) (Nat.le_of_ble_eq_true rfl) ?_; conv => whnf
  refine CondX.mk (fun h1 => ?_) (fun h1 => ?_) <;> conv => whnf
  · have h1 := eq_of_beq h1
    repeat (first | (refine CondX.tt ?_; conv => whnf) | (refine CondX.ff ?_; conv => whnf))
    refine RetX.same ?_
    have : crK k = true := by simp [crK, h1]
    rwa [this] at hk
  have h1 := ne_of_beq_false h1
  repeat (first | (refine CondX.tt ?_; conv => whnf) | (refine CondX.ff ?_; conv => whnf))
  refine CondX.mk (fun h2 => ?_) (fun h2 => ?_) <;> conv => whnf
  · have h2 := eq_of_beq h2
    repeat (first | (refine CondX.tt ?_; conv => whnf) | (refine CondX.ff ?_; conv => whnf))
    refine RetX.same ?_
    have : crK k = true := by simp [crK, h2]
    rwa [this] at hk
  have h2 := ne_of_beq_false h2
  repeat (first | (refine CondX.tt ?_; conv => whnf) | (refine CondX.ff ?_; conv => whnf))
  refine RetX.same ?_
  have : crK k = (k == 6) := by
    simp only [crK, h1, h2, false_or]; rfl
  rwa [this] at hk

theorem ldV_put {m o sz : Nat} {c : List Value} {t : TypeId} : ldV false sz (hput h m (c, t)) m o = c[o]? := by simp [ldV, hput_same]
theorem LoadX.own {m o sz : Nat} {c : List Value} {t : TypeId} {KK : Value → Prop} (v : Value) (hv : c[o]? = some v) (hk : KK v) : LoadX false sz (hput h m (c, t)) m o KK := ⟨v, ldV_put.trans hv, hk⟩
theorem rd_block {b n : Nat} {l : List Int} {t : TypeId} (hb : h b = some (bcells l, t)) (hl : l.length = n) : rd h (some ⟨b, 0, none⟩) n = some (bcells l) := by
  subst hl
  simp [rd, hb, seg, bcells]
  exact List.take_of_length_le (by simp)
theorem StrX.of {base : Option Addr} {n : Nat} {KK : ByteArray → Prop} {l : List Int} (hr : rd h base n = some (bcells l)) (hk : ∀ s, KK s) : StrX h base n KK := ⟨⟨l, hr, hk _⟩⟩

set_option maxRecDepth 100000 in
theorem before_ok {a b : List Int} (ha : a.length = 20) (hb : b.length = 20) (hk : ∀ t, K (.bool t) h) : CallX Hval.prog 99 [.agg (bcells a).toArray, .agg (bcells b).toArray] h K := by
  refine CallX.of_xf T_ok Hval.func99 rfl (by kernel_rfl) (Nat.le_of_ble_eq_true rfl) ?_; conv => whnf
  refine BoxX.mk fun m1 hm1 => ?_; conv => whnf
  refine BoxX.on fun m2 hm2 hbd2 => ?_; conv => whnf
  refine DrawX.go T_ok hM Hval.func99 (tb := dr99) rfl (by kernel_rfl) ?_; conv => whnf
  refine StrX.of (l := a) ?_ fun s1 => ?_
  · show rd _ (some ⟨m1, 0, none⟩) 20 = _
    exact rd_block (by rw [hput_ne (by omega), hput_same]) ha
  conv => whnf
  refine StrX.of (l := b) ?_ fun s2 => ?_
  · show rd _ (some ⟨m2, 0, none⟩) 20 = _
    exact rd_block (by rw [hput_same]) hb
  conv => whnf
  exact RetX.drop ((Ext.bd hm1).trans (Ext.bd hbd2)) (hk _)

/-- The bytes behind a PUSH. -/
def immI (o : Int) : Int := if 95 < o ∧ o ≤ 127 then o - 95 else 0
set_option maxRecDepth 100000 in
theorem imm_ok {o : Int} (h0 : 0 ≤ o) (h1 : o < 256) (hk : K (.int .u8 (immI o)) h) : CallX Hval.prog 134 [.int .u8 o] h K := by
  refine CallX.of_xf T_ok Hval.func134 rfl (by kernel_rfl) (Nat.le_of_ble_eq_true rfl) ?_; conv => whnf
  refine CondX.mk (fun h2 => ?_) (fun h2 => ?_) <;> conv => whnf
  · have h2 := of_decide_eq_true h2
    repeat (first | (refine CondX.tt ?_; conv => whnf) | (refine CondX.ff ?_; conv => whnf))
    refine CondX.mk (fun h3 => ?_) (fun h3 => ?_) <;> conv => whnf
    · have h3 := of_decide_eq_true h3
      have e : IntKind.u8.wrap (o - 95) = o - 95 := by rw [wrap_u8]; omega
      rw [e]
      rw [immI, if_pos (by omega)] at hk
      exact RetX.same hk
    · have h3 := of_decide_eq_false h3
      rw [immI, if_neg (by omega)] at hk
      exact RetX.same hk
  · have h2 := of_decide_eq_false h2
    repeat (first | (refine CondX.tt ?_; conv => whnf) | (refine CondX.ff ?_; conv => whnf))
    rw [immI, if_neg (by omega)] at hk
    exact RetX.same hk

theorem intCells_bcells (l : List Int) : intCells .u8 (bcells l) = true := by
  induction l with
  | nil => rfl
  | cons d l ih => simpa [bcells, intCells] using ih
theorem eqCells_bcells (a b : List Int) : eqCells (bcells a) (bcells b) = decide (a = b) := by
  induction a generalizing b with
  | nil => cases b <;> simp [bcells, eqCells]
  | cons d l ih =>
    cases b with
    | nil => simp [bcells, eqCells]
    | cons e b =>
      have := ih b
      simp only [bcells, List.map_cons, eqCells] at this ⊢
      rw [this]
      simp [Bool.beq_eq_decide_eq]

/-- The address of the natv contract of the number. -/
def adr (n : Int) : List Int := List.replicate 19 0 ++ [n]
def natK (a : List Int) : Int := if a = adr 4 then 4 else if a = adr 5 then 5 else 0
set_option maxRecDepth 100000 in
theorem natvAt_ok {a : List Int} (ha : a.length = 20) (hk : K (.int .u8 (natK a)) h) : CallX Hval.prog 40 [.agg (bcells a).toArray] h K := by
  refine CallX.of_xf T_ok Hval.func40 rfl (by kernel_rfl) (Nat.le_of_ble_eq_true rfl) ?_; conv => whnf
  refine BoxX.mk fun m1 hm1 => ?_; conv => whnf
  refine LoadX.arr (l := a) (t := 31) (by rw [hput_same]) ha ?_; conv => whnf
  refine Ob.mk ⟨by simp [bcells, ha], by rfl, by simpa using intCells_bcells a, by rfl⟩ ?_; conv => whnf
  refine CondX.mk (fun hc => ?_) (fun hc => ?_) <;> conv => whnf
  · have hc : eqCells (bcells a) (bcells (adr 4)) = true := hc
    rw [eqCells_bcells] at hc
    have hc := of_decide_eq_true hc
    subst hc
    repeat (first | (refine CondX.tt ?_; conv => whnf) | (refine CondX.ff ?_; conv => whnf))
    refine Ob.mk (by first | decide | omega) ?_; conv => whnf
    refine LoadX.own (.int .u8 4) rfl ?_; conv => whnf
    exact RetX.drop (Ext.bd hm1) hk
  · have hc : eqCells (bcells a) (bcells (adr 4)) = false := hc
    rw [eqCells_bcells] at hc
    have hc := of_decide_eq_false hc
    refine LoadX.arr (l := a) (t := 31) (by rw [hput_same]) ha ?_; conv => whnf
    repeat (first | (refine CondX.tt ?_; conv => whnf) | (refine CondX.ff ?_; conv => whnf))
    refine Ob.mk ⟨by simp [bcells, ha], by rfl, by simpa using intCells_bcells a, by rfl⟩ ?_; conv => whnf
    repeat (first | (refine CondX.tt ?_; conv => whnf) | (refine CondX.ff ?_; conv => whnf))
    refine CondX.mk (fun hd => ?_) (fun hd => ?_) <;> conv => whnf
    · have hd : eqCells (bcells a) (bcells (adr 5)) = true := hd
      rw [eqCells_bcells] at hd
      have hd := of_decide_eq_true hd
      subst hd
      refine Ob.mk (by first | decide | omega) ?_; conv => whnf
      refine LoadX.own (.int .u8 5) rfl ?_; conv => whnf
      exact RetX.drop (Ext.bd hm1) hk
    · have hd : eqCells (bcells a) (bcells (adr 5)) = false := hd
      rw [eqCells_bcells] at hd
      have hd := of_decide_eq_false hd
      rw [natK, if_neg hc, if_neg hd] at hk
      exact RetX.drop (Ext.bd hm1) hk

/-- The low 20 bytes of a word, the most significant first. -/
def addrI (x : Int) : List Int := be 20 (x % 256 ^ 20)
theorem addrI_length (x : Int) : (addrI x).length = 20 := be_length ..


set_option maxRecDepth 100000 in
theorem addrOf_ok (ha : Nt h ba na ca x) (hk : K (.agg (bcells (addrI x)).toArray) h) : CallX Hval.prog 130 [.slice ba na ca] h K := by
  refine CallX.of_xf T_ok Hval.func130 rfl (by kernel_rfl) (Nat.le_of_ble_eq_true rfl) ?_; conv => whnf
  obtain ⟨A, hA, rfl, -⟩ := ha
  have hla := hA.len
  have hra := hA.room
  refine BoxX.mk fun m1 hm1 => ?_; conv => whnf
  refine BoxX.on fun m2 hm2 hbd2 => ?_; conv => whnf
  refine LoopX.st T_ok Hval.func130 (σ := Nat × List Int) (fun s => [(0, .slice ba na ca), (2, .pointer (some ⟨m1, 0, none⟩)), (3, .pointer (some ⟨m2, 0, none⟩)), (4, .int .i64 s.1)])
    (fun s h' => s.1 ≤ 20 ∧ s.1 ≤ na ∧ s.2.length = 20 ∧ isB s.2 ∧ h' = hput (hput h m1 ((31, y31).snd.zero, 31)) m2 (bcells s.2, 31) ∧ ∀ j, j < 20 → s.2.getD (19 - j) 0 = if j < s.1 then A.getD j 0 else 0) (fun s => 20 - s.1) (0, List.replicate 20 0)
    ⟨rfl, rfl, rfl, rfl, trivial⟩ ⟨Nat.zero_le _, Nat.zero_le _, by simp, isB_zeros _, rfl, fun j hj => ?_⟩ ?_
  · rw [getD_zeros]; simp
  rintro ⟨i, o⟩ ρ h' ⟨hi, hin, hol, hob, rfl, heq⟩ ih
  simp only at hi hin hol hob heq ⊢
  conv => whnf
  have hA' := hA.ext ((Ext.bd hm1).trans (Ext.bd (x := (bcells o, 31)) hbd2))
  have fin : (i = 20 ∨ i = na) → o = addrI (dv A) := by
    intro hf
    have h1 : dv o.reverse = dv (A.take 20) := by
      rw [← pd_dv o.reverse (i := 20) (by simp [hol]), ← pd_dv (A.take 20) (i := 20) (by simp; omega)]
      refine pd_congr fun j hj => ?_
      rw [getD_rev (by omega), hol, heq j hj]
      have e : (A.take 20).getD j 0 = A.getD j 0 := by simp [hj]
      rw [e]
      by_cases h1 : j < i
      · rw [if_pos h1]
      · rw [if_neg h1, getD_nil (by omega)]
    rw [dv_take_mod hA.isB] at h1
    have h2 := be_bv hob
    unfold bv at h2
    rw [h1, hol] at h2
    exact h2.symm
  have done : o = addrI (dv A) → LoadX true 20 (hput (hput h m1 ((31, y31).snd.zero, 31)) m2 (bcells o, 31)) m2 0 (fun v => v = .agg (bcells (addrI (dv A))).toArray) := fun ho => by
    subst ho; exact LoadX.arr (hput_same ..) (be_length ..) rfl
  refine CondX.mk (fun hc => ?_) (fun hc => ?_) <;> conv => whnf
  · have hc : i < na := by have := of_decide_eq_true hc; omega
    repeat (first | (refine CondX.tt ?_; conv => whnf) | (refine CondX.ff ?_; conv => whnf))
    refine CondX.mk (fun hd => ?_) (fun hd => ?_) <;> conv => whnf
    · have hd : i < 20 := by have := of_decide_eq_true hd; omega
      have hw : IntKind.i64.wrap ((19 : Int) - (i : Int)) = ((19 - i : Nat) : Int) := by rw [wrap_i64 (by omega) (by omega)]; omega
      refine IdxX.rd hA'.rd (by omega) (by omega) fun b2 o2 e2 _ => ?_; conv => whnf
      refine LoadX.byte hA' e2 i rfl (by omega) rfl ?_; conv => whnf
      rw [hw]
      refine Ob.mk (by first | decide | omega) ?_; conv => whnf
      refine StoreX.bix (19 - i) rfl rfl (by omega) ?_; conv => whnf
      have gd := hA.isB.get i
      refine ih (i + 1, o.set (19 - i) (A.getD i 0)) _ _ ⟨by dsimp only; omega, by dsimp only; omega, by simp [hol], hob.set gd.1 gd.2, rfl, ?_⟩ (by dsimp only; omega) ⟨rfl, rfl, rfl, ?_, trivial⟩
      · intro j hj
        dsimp only
        by_cases hji : j = i
        · subst hji; rw [getD_set_same (by omega), if_pos (by omega)]
        · rw [getD_set_other (by omega), heq j hj]
          by_cases h1 : j < i
          · rw [if_pos h1, if_pos (by omega)]
          · rw [if_neg h1, if_neg (by omega)]
      · exact congrArg (Value.int .i64) (wsucc (by omega))
    · have hd : i = 20 := by have := of_decide_eq_false hd; omega
      have ho := fin (.inl hd)
      subst ho
      refine LoadX.arr (hput_same ..) (be_length ..) ?_; conv => whnf
      refine Ob.mk ⟨by rw [List.size_toArray, bcells_length, addrI_length]; rfl, ones_bcells _⟩ ?_; conv => whnf
      refine StoreX.ne (by omega) (StoreX.same (by rw [List.toList_toArray, bcells_length, addrI_length]; decide) ?_); conv => whnf
      rw [setSeg_all (by rw [List.toList_toArray, bcells_length, addrI_length]; rfl)]
      refine LoadX.arr (b := m1) (l := addrI (dv A)) (t := 31) ?_ (be_length ..) ?_
      · rw [hput_ne (by omega), hput_same]
      conv => whnf
      refine RetX.drop (h' := h) (fun b x hb => ?_) hk
      have := hm1 b x hb
      rw [hput_ne (by omega), hput_ne (by omega)]; exact hb
  · have hc : i = na := by have := of_decide_eq_false hc; omega
    repeat (first | (refine CondX.tt ?_; conv => whnf) | (refine CondX.ff ?_; conv => whnf))
    have ho := fin (.inr hc)
    subst ho
    refine LoadX.arr (hput_same ..) (be_length ..) ?_; conv => whnf
    refine Ob.mk ⟨by rw [List.size_toArray, bcells_length, addrI_length]; rfl, ones_bcells _⟩ ?_; conv => whnf
    refine StoreX.ne (by omega) (StoreX.same (by rw [List.toList_toArray, bcells_length, addrI_length]; decide) ?_); conv => whnf
    rw [setSeg_all (by rw [List.toList_toArray, bcells_length, addrI_length]; rfl)]
    refine LoadX.arr (b := m1) (l := addrI (dv A)) (t := 31) ?_ (be_length ..) ?_
    · rw [hput_ne (by omega), hput_same]
    conv => whnf
    refine RetX.drop (h' := h) (fun b x hb => ?_) hk
    have := hm1 b x hb
    rw [hput_ne (by omega), hput_ne (by omega)]; exact hb

theorem dv_inj_len {h h' : Hp} {b b' : Option Addr} {n n' c c' : Nat} (h1 : Nt h b n c x) (h2 : Nt h' b' n' c' x) : n = n' := by
  obtain ⟨l, hb, e, ht⟩ := h1
  obtain ⟨l', hb', e', ht'⟩ := h2
  have := Tr_unique hb.isB hb'.isB ht ht' (e.trans e'.symm)
  rw [← hb.len, ← hb'.len, this]
theorem normLen (ha : Nt h ba na ca x) (hk : ∀ b c h', Ext h h' → K (.slice b na c) h') : CallX Hval.prog 88 [.slice ba na ca] h K := by
  refine normN ha fun b n c h' he hn => ?_
  obtain rfl := dv_inj_len hn ha
  exact hk _ _ _ he
set_option maxRecDepth 100000 in
theorem expCost_ok (ha : Nt h ba na ca x) (hk : ∀ b n c h', Ext h h' → Nt h' b n c (10 + 50 * (na : Int)) → K (.slice b n c) h') : CallX Hval.prog 304 [.slice ba na ca] h K := by
  refine CallX.of_xf T_ok Hval.func304 rfl (by kernel_rfl) (Nat.le_of_ble_eq_true rfl) ?_; conv => whnf
  have hr : na < 2 ^ 40 := by obtain ⟨l, hb, -, -⟩ := ha; exact hb.room
  have hbg := big_lt
  refine num_ok (by omega) (by omega) fun b n c h1 he1 hn1 => ?_; conv => whnf
  refine num_ok (by omega) (by omega) fun b n c h2 he2 hn2 => ?_; conv => whnf
  refine normLen (((ha.ext he1).ext he2)) fun b c h3 he3 => ?_; conv => whnf
  have e : IntKind.u64.wrap (na : Int) = na := by rw [wrap_u64']; omega
  rw [e]
  refine num_ok (by omega) (by omega) fun b n c h4 he4 hn4 => ?_; conv => whnf
  refine mulN ((hn2.ext he3).ext he4) hn4 (by omega) (by omega) fun b n c h5 he5 hn5 => ?_; conv => whnf
  refine addN ((((hn1.ext he2).ext he3).ext he4).ext he5) hn5 (by omega) fun b n c h6 he6 hn6 => ?_; conv => whnf
  exact RetX.same (hk _ _ _ _ (((((he1.trans he2).trans he3).trans he4).trans he5).trans he6) hn6)

set_option maxRecDepth 100000 in
theorem ypword_ok (ha : Nt h ba na ca x) (hx : x < W) (hk : K (.agg (bcells (be 32 x)).toArray) h) : CallX Hval.prog 48 [.slice ba na ca] h K := by
  refine CallX.of_xf T_ok Hval.func48 rfl (by kernel_rfl) (Nat.le_of_ble_eq_true rfl) ?_; conv => whnf
  obtain ⟨A, hA, rfl, -⟩ := ha
  refine BoxX.mk fun m1 hm1 => ?_; conv => whnf
  refine be32_ok (hA.ext (Ext.bd hm1)) hx ?_; conv => whnf
  refine BoxX.on fun m2 hm2 hbd2 => ?_; conv => whnf
  refine Ob.mk ⟨by rw [List.size_toArray, bcells_length, be_length]; rfl, ones_bcells _⟩ ?_; conv => whnf
  refine StoreX.same (by rw [List.toList_toArray, bcells_length, be_length]; decide) ?_; conv => whnf
  rw [setSeg_all (by rw [List.toList_toArray, bcells_length, be_length]; rfl)]
  refine LoadX.arr (l := be 32 (dv A)) (hput_same ..) (be_length ..) ?_; conv => whnf
  refine Ob.mk ⟨by rw [List.size_toArray, bcells_length, be_length]; rfl, ones_bcells _⟩ ?_; conv => whnf
  refine StoreX.ne (by omega) (StoreX.same (by rw [List.toList_toArray, bcells_length, be_length]; decide) ?_); conv => whnf
  rw [setSeg_all (by rw [List.toList_toArray, bcells_length, be_length]; rfl)]
  refine LoadX.arr (b := m1) (l := be 32 (dv A)) (t := 33) ?_ (be_length ..) ?_
  · rw [hput_ne (by omega), hput_same]
  conv => whnf
  refine RetX.drop (h' := h) (fun b x hb => ?_) hk
  have := hm1 b x hb
  rw [hput_ne (by omega), hput_ne (by omega)]; exact hb

set_option maxRecDepth 100000 in
theorem bytesOf_ok {l : List Int} (hs : Byt h bc nc cc l) (hk0 : bc = none → l = [] → K (.slice none 0 0) h)
    (hk : ∀ m, Bd h m → K (.slice (some ⟨m, 0, none⟩) nc nc) (hput h m (bcells l, 5))) : CallX Hval.prog 41 [.slice bc nc cc] h K := by
  refine CallX.of_xf T_ok Hval.func41 rfl (by kernel_rfl) (Nat.le_of_ble_eq_true rfl) ?_; conv => whnf
  have hl := hs.len
  have hr := hs.room
  refine CondX.mk (fun hn => ?_) (fun hn => ?_) <;> conv => whnf
  · have hn : bc = none := by cases bc with | none => rfl | some a => cases hn
    have := hs.le
    have := hs.nil hn
    exact RetX.same (hk0 hn (List.eq_nil_of_length_eq_zero (by omega)))
  · refine MakeX.bytes nc rfl (by omega) fun m hm => ?_; conv => whnf
    refine CopyX.bytes (hs.ext (Ext.bd hm)) (by simp) ?_; conv => whnf
    have e : ovl (List.replicate nc 0) 0 (List.take (Nat.min nc nc) l) = l := by
      have : Nat.min nc nc = nc := Nat.min_self _
      rw [this, List.take_of_length_le (by omega)]
      exact ovl_all (by simp [hl])
    rw [Int.toNat_natCast, e]
    exact RetX.same (hk m hm)
/-- A copy of bytes. -/
theorem bytesOf_any {l : List Int} (hs : Byt h bc nc cc l) (hk : ∀ b c h', Ext h h' → Byt h' b nc c l → K (.slice b nc c) h') : CallX Hval.prog 41 [.slice bc nc cc] h K := by
  refine bytesOf_ok hs (fun h1 h2 => ?_) fun m hm => hk _ _ _ (Ext.bd hm) (own_all hs.isB hs.len.symm (by rw [hs.len]; exact hs.room))
  have hl := hs.len
  subst h2
  have : nc = 0 := by simpa using hl.symm
  subst this
  exact hk _ _ _ (Ext.refl _) ⟨rfl, hs.isB, Nat.le_refl _, fun _ => rfl, by decide⟩
end
end Go.Proofs.YgvalwGreat.X
