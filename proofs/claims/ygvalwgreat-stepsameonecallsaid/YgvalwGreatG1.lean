import Derived.Test.YgvalwGreatF66
set_option linter.unusedVariables false
set_option linter.unusedSimpArgs false
namespace Go.Proofs.YgvalwGreat.X
open Go

/-! ### Blocks by a function of the place -/
def fnv (n : Nat) (g : Nat → Value) : List Value := (List.range n).map g
def updV (g : Nat → Value) (i : Nat) (v : Value) : Nat → Value := fun j => if j = i then v else g j
def fnb (n : Nat) (g : Nat → Bool) : List Value := fnv n fun i => .bool (g i)
def updB (g : Nat → Bool) (i : Nat) (v : Bool) : Nat → Bool := fun j => if j = i then v else g j
theorem fnv_len (n : Nat) (g : Nat → Value) : (fnv n g).length = n := by simp [fnv]
theorem fnb_len (n : Nat) (g : Nat → Bool) : (fnb n g).length = n := by simp [fnb, fnv]
theorem fnv_get {n : Nat} {g : Nat → Value} {i : Nat} (h : i < n) : (fnv n g)[i]? = some (g i) := by simp [fnv, h]
theorem fnv_ext {n : Nat} {g g' : Nat → Value} (h : ∀ i, i < n → g i = g' i) : fnv n g = fnv n g' := by
  unfold fnv
  refine List.map_congr_left fun i hi => h i (List.mem_range.1 hi)
theorem fnb_ext {n : Nat} {g g' : Nat → Bool} (h : ∀ i, i < n → g i = g' i) : fnb n g = fnb n g' := fnv_ext fun i hi => by rw [h i hi]
theorem list_fnv {l : List Value} {n : Nat} {g : Nat → Value} (hl : l.length = n) (h : ∀ i, i < n → l[i]? = some (g i)) : l = fnv n g := by
  apply List.ext_getElem?
  intro i
  by_cases hi : i < n
  · rw [h i hi, fnv_get hi]
  · rw [List.getElem?_eq_none (by omega), List.getElem?_eq_none (by rw [fnv_len]; omega)]
theorem fnv_set {n : Nat} {g : Nat → Value} {i : Nat} {v : Value} (h : i < n) : setSeg (fnv n g) i [v] = fnv n (updV g i v) := by
  refine list_fnv ?_ fun j hj => ?_
  · simp [setSeg, fnv_len]; omega
  · unfold setSeg updV
    by_cases h1 : j < i
    · rw [List.append_assoc, List.getElem?_append_left (by simp [fnv_len]; omega), List.getElem?_take_of_lt h1, fnv_get (by omega), if_neg (by omega)]
    · rw [List.append_assoc, List.getElem?_append_right (by simp [fnv_len]; omega)]
      have hl : ((fnv n g).take i).length = i := by simp [fnv_len]; omega
      rw [hl]
      by_cases h2 : j = i
      · subst h2; simp
      · rw [List.getElem?_append_right (by simp; omega), List.getElem?_drop, if_neg h2]
        rw [show i + [v].length + (j - i - [v].length) = j by simp; omega, fnv_get hj]
theorem fnb_set {n : Nat} {g : Nat → Bool} {i : Nat} {v : Bool} (h : i < n) : setSeg (fnb n g) i [.bool v] = fnb n (updB g i v) := by
  unfold fnb
  rw [fnv_set h]
  refine fnv_ext fun j _ => ?_
  unfold updV updB
  split <;> rfl
/-- The cells from a place on. -/
def updL (g : Nat → Value) (o k : Nat) (g' : Nat → Value) : Nat → Value := fun j => if o ≤ j ∧ j < o + k then g' (j - o) else g j
theorem fnv_setL {n : Nat} {g g' : Nat → Value} {o k : Nat} (h : o + k ≤ n) : setSeg (fnv n g) o (fnv k g') = fnv n (updL g o k g') := by
  refine list_fnv ?_ fun j hj => ?_
  · simp [setSeg, fnv_len]; omega
  · unfold setSeg updL
    have hl : ((fnv n g).take o).length = o := by simp [fnv_len]; omega
    by_cases h1 : j < o
    · rw [List.append_assoc, List.getElem?_append_left (by omega), List.getElem?_take_of_lt h1, fnv_get (by omega), if_neg (by omega)]
    · rw [List.append_assoc, List.getElem?_append_right (by omega), hl]
      by_cases h2 : j < o + k
      · rw [List.getElem?_append_left (by rw [fnv_len]; omega), fnv_get (by omega), if_pos (by omega)]
      · rw [List.getElem?_append_right (by rw [fnv_len]; omega), List.getElem?_drop, if_neg (by omega), fnv_len, show o + k + (j - o - k) = j by omega, fnv_get hj]
theorem fnb_setL {n : Nat} {g g' : Nat → Bool} {o k : Nat} (h : o + k ≤ n) : setSeg (fnb n g) o (fnb k g') = fnb n (fun j => if o ≤ j ∧ j < o + k then g' (j - o) else g j) := by
  unfold fnb
  rw [fnv_setL h]
  refine fnv_ext fun j _ => ?_
  unfold updL
  by_cases hc : o ≤ j ∧ j < o + k
  · simp only [if_pos hc]
  · simp only [if_neg hc]
theorem seg_fnv {n : Nat} {g : Nat → Value} {o k : Nat} (h : o + k ≤ n) : seg (fnv n g) o k = fnv k (fun i => g (o + i)) := by
  refine list_fnv ?_ fun j hj => ?_
  · simp [seg, fnv_len]; omega
  · unfold seg
    rw [List.getElem?_take_of_lt hj, List.getElem?_drop, fnv_get (by omega)]
theorem ones_fnv {n : Nat} {g : Nat → Value} (h : ∀ i, i < n → ones [g i] = true) : ones (fnv n g) = true := by
  unfold fnv
  have key : ∀ l : List Nat, (∀ i ∈ l, ones [g i] = true) → ones (l.map g) = true := fun l => by
    induction l with
    | nil => intro _; rfl
    | cons a l ih =>
      intro hl
      have h1 := hl a (List.mem_cons_self ..)
      have h2 := ih fun i hi => hl i (List.mem_cons_of_mem _ hi)
      exact ones_append (a := [g a]) h1 h2
  exact key _ fun i hi => h i (List.mem_range.1 hi)
theorem ones_fnb (n : Nat) (g : Nat → Bool) : ones (fnb n g) = true := ones_fnv fun _ _ => rfl
theorem zeros_fnv (v : Value) (n m : Nat) : zeros (fnv n fun _ => v) m = fnv (m * n) fun _ => v := by
  have e : ∀ k, fnv k (fun _ => v) = List.replicate k v := fun k => by unfold fnv; rw [List.map_const']; simp
  rw [e, e]
  unfold zeros
  simp
theorem zeros_one (v : Value) (m : Nat) : zeros [v] m = fnv m fun _ => v := by
  have := zeros_fnv v 1 m
  rwa [Nat.mul_one] at this

section
variable {h : Hp} {K : Value → Hp → Prop}
theorem ldV_fn {b n o sz : Nat} {g : Nat → Value} {t : TypeId} (hb : h b = some (fnv n g, t)) (k : Nat) (ho : o = k) (hk : k < n) : ldV false sz h b o = some (g k) := by
  subst ho
  simp [ldV, hb, fnv_get hk]
theorem LoadX.fn {b n o sz : Nat} {g : Nat → Value} {t : TypeId} {KK : Value → Prop} (hb : h b = some (fnv n g, t)) (k : Nat) (ho : o = k) (hk : k < n) (hK : KK (g k)) : LoadX false sz h b o KK := ⟨_, ldV_fn hb k ho hk, hK⟩
theorem ldV_fnA {b n o sz : Nat} {g : Nat → Value} {t : TypeId} (hb : h b = some (fnv n g, t)) (k : Nat) (ho : o = k) (hk : k + sz ≤ n) : ldV true sz h b o = some (.agg (fnv sz fun i => g (k + i)).toArray) := by
  subst ho
  simp only [ldV, hb]
  rw [if_pos (by rw [fnv_len]; exact hk), seg_fnv hk]
theorem LoadX.fnA {b n o sz : Nat} {g : Nat → Value} {t : TypeId} {KK : Value → Prop} (hb : h b = some (fnv n g, t)) (k : Nat) (ho : o = k) (hk : k + sz ≤ n) (hK : KK (.agg (fnv sz fun i => g (k + i)).toArray)) : LoadX true sz h b o KK := ⟨_, ldV_fnA hb k ho hk, hK⟩
theorem StoreX.fn {b n o : Nat} {g : Nat → Value} {t : TypeId} {v : Value} {KK : Hp → Prop} (hb : h b = some (fnv n g, t)) (k : Nat) (ho : o = k) (hk : k < n) (hK : KK (hput h b (fnv n (updV g k v), t))) : StoreX h b o [v] KK := by
  subst ho
  refine StoreX.at hb (by rw [fnv_len]; exact hk) ?_
  rw [fnv_set hk]; exact hK
theorem StoreX.fb {b n o : Nat} {g : Nat → Bool} {t : TypeId} {v : Bool} {KK : Hp → Prop} (hb : h b = some (fnb n g, t)) (k : Nat) (ho : o = k) (hk : k < n) (hK : KK (hput h b (fnb n (updB g k v), t))) : StoreX h b o [.bool v] KK := by
  subst ho
  refine StoreX.at hb (by rw [fnb_len]; exact hk) ?_
  rw [fnb_set hk]; exact hK
theorem LoadX.fb {b n o sz : Nat} {g : Nat → Bool} {t : TypeId} {KK : Value → Prop} (hb : h b = some (fnb n g, t)) (k : Nat) (ho : o = k) (hk : k < n) (hK : KK (.bool (g k))) : LoadX false sz h b o KK := LoadX.fn hb k ho hk hK
/-- What the heap h' keeps of h, but for block m. -/
def Kp (m : Nat) (h h' : Hp) : Prop := ∀ b x, b ≠ m → h b = some x → h' b = some x
theorem Kp.refl (m : Nat) (h : Hp) : Kp m h h := fun _ _ _ hb => hb
theorem Kp.same {m : Nat} {h h' : Hp} {x} (k : Kp m h h') : Kp m h (hput h' m x) := fun b y hn hb => by rw [hput_ne hn]; exact k b y hn hb
theorem Kp.new {m c : Nat} {h h' : Hp} {x} (k : Kp m h h') (hc : h c = none) : Kp m h (hput h' c x) := fun b y hn hb => by
  rw [hput_ne (fun e => by rw [e, hc] at hb; cases hb)]; exact k b y hn hb
theorem Kp.ret {m : Nat} {h h' : Hp} {y} (k : Kp m h h') (hy : h' m = some y) : ∀ b x, hput h m y b = some x → h' b = some x := fun b x hb => by
  by_cases e : b = m
  · subst e; rw [hput_same] at hb; rw [hy]; exact hb
  · rw [hput_ne e] at hb; exact k b x e hb
end

/-! ### The register -/
def turnN (r : Nat) : Nat := if r < 128 then 2 * r else (2 * r - 256) ^^^ 113
def regB (r : Nat) : Nat → Bool := fun j => r.testBit j
theorem turnN_lt {r : Nat} (h : r < 256) : turnN r < 256 := by
  have : ∀ k : Fin 256, turnN k.val < 256 := by decide +kernel
  exact this ⟨r, h⟩
theorem turnN_bit {r : Nat} (h : r < 256) {j : Nat} (hj : j < 8) : (turnN r).testBit j = (if j = 0 then r.testBit 7 else if j = 4 ∨ j = 5 ∨ j = 6 then (r.testBit (j - 1) != r.testBit 7) else r.testBit (j - 1)) := by
  have : ∀ k : Fin 256, ∀ i : Fin 8, (turnN k.val).testBit i.val = (if i.val = 0 then k.val.testBit 7 else if i.val = 4 ∨ i.val = 5 ∨ i.val = 6 then (k.val.testBit (i.val - 1) != k.val.testBit 7) else k.val.testBit (i.val - 1)) := by decide +kernel
  exact this ⟨r, h⟩ ⟨j, hj⟩
section
variable {h : Hp} {K : Value → Hp → Prop}
set_option maxRecDepth 100000 in
set_option maxHeartbeats 4000000 in
theorem turn_ok {m r : Nat} {t : TypeId} (hb : h m = some (fnb 8 (regB r), t)) (hr : r < 256) (hk : K (.tuple #[]) (hput h m (fnb 8 (regB (turnN r)), t))) : CallX Hval.prog 383 [.pointer (some ⟨m, 0, none⟩)] h K := by
  refine CallX.of_xf T_ok Hval.func383 rfl (by kernel_rfl) (Nat.le_of_ble_eq_true rfl) ?_; conv => whnf
  refine Ob.mk (by first | decide | omega) ?_; conv => whnf
  refine LoadX.fb hb 7 rfl (by decide) ?_; conv => whnf
  refine LoopX.st T_ok Hval.func383 (σ := Nat) (fun s => [(0, .pointer (some ⟨m, 0, none⟩)), (2, .bool (regB r 7)), (3, .int .i64 s)])
    (fun s h' => s ≤ 7 ∧ ∃ g, h' m = some (fnb 8 g, t) ∧ Kp m h h' ∧ (∀ j, s < j → g j = regB r (j - 1)) ∧ ∀ j, j ≤ s → g j = regB r j) (fun s => s) 7 ⟨rfl, rfl, rfl, trivial⟩ ⟨by simp, ?_⟩ ?_
  · refine ⟨fun j => if 7 < j then regB r (j - 1) else regB r j, ?_, Kp.refl _ _, fun j hj => if_pos hj, fun j hj => if_neg (by omega)⟩
    rw [hb, fnb_ext (g' := fun j => if 7 < j then regB r (j - 1) else regB r j) fun j hj => (if_neg (by omega)).symm]
  rintro i ρ h' ⟨hi, g, hb', kp, g1, g2⟩ ih
  conv => whnf
  refine CondX.decI (fun hc => ?_) (fun hc => ?_) <;> conv => whnf
  · refine DrawX.go T_ok hM Hval.func383 (tb := dr383) rfl (by kernel_rfl) ?_; conv => whnf
    rw [wpred (by omega) (by omega)]
    refine Ob.mk (by first | decide | omega) ?_; conv => whnf
    refine LoadX.fb hb' (i - 1) (by simp [show y4.size = 1 from rfl]) (by omega) ?_; conv => whnf
    refine Ob.mk (by first | decide | omega) ?_; conv => whnf
    refine StoreX.fb hb' i (by simp [show y4.size = 1 from rfl]) (by omega) ?_; conv => whnf
    refine ih (i - 1) _ _ ⟨by omega, updB g i (g (i - 1)), hput_same .., kp.same, fun j hj => ?_, fun j hj => ?_⟩ (by omega) ⟨rfl, rfl, congrArg (Value.int .i64) (wpred (by omega) (by omega)), trivial⟩
    · unfold updB
      by_cases e : j = i
      · rw [if_pos e, g2 _ (by omega), e]
      · rw [if_neg e, g1 _ (by omega)]
    · unfold updB
      rw [if_neg (by omega), g2 _ (by omega)]
  · have hi0 : i = 0 := by omega
    subst hi0
    refine Ob.mk (by first | decide | omega) ?_; conv => whnf
    refine StoreX.fb hb' 0 rfl (by omega) ?_; conv => whnf
    refine DrawX.go T_ok hM Hval.func383 (tb := dr383) rfl (by kernel_rfl) ?_; conv => whnf
    refine Ob.mk (by first | decide | omega) ?_; conv => whnf
    refine LoadX.fb (hput_same ..) 4 rfl (by omega) ?_; conv => whnf
    refine Ob.mk (by first | decide | omega) ?_; conv => whnf
    refine StoreX.fb (hput_same ..) 4 rfl (by omega) ?_; conv => whnf
    refine DrawX.go T_ok hM Hval.func383 (tb := dr383) rfl (by kernel_rfl) ?_; conv => whnf
    refine Ob.mk (by first | decide | omega) ?_; conv => whnf
    refine LoadX.fb (hput_same ..) 5 rfl (by omega) ?_; conv => whnf
    refine Ob.mk (by first | decide | omega) ?_; conv => whnf
    refine StoreX.fb (hput_same ..) 5 rfl (by omega) ?_; conv => whnf
    refine DrawX.go T_ok hM Hval.func383 (tb := dr383) rfl (by kernel_rfl) ?_; conv => whnf
    refine Ob.mk (by first | decide | omega) ?_; conv => whnf
    refine LoadX.fb (hput_same ..) 6 rfl (by omega) ?_; conv => whnf
    refine Ob.mk (by first | decide | omega) ?_; conv => whnf
    refine StoreX.fb (hput_same ..) 6 rfl (by omega) ?_; conv => whnf
    refine RetX.drop (Kp.ret (kp.same.same.same.same) (hput_same ..)) ?_
    rw [show fnb 8 (regB (turnN r)) = fnb 8 _ from fnb_ext fun j hj => ?_] at hk
    exact hk
    show (turnN r).testBit j = _
    rw [turnN_bit hr hj]
    simp only [updB]
    have e4 := g1 4 (by omega); have e5 := g1 5 (by omega); have e6 := g1 6 (by omega)
    rcases (by omega : j = 0 ∨ j = 4 ∨ j = 5 ∨ j = 6 ∨ (j ≠ 0 ∧ j ≠ 4 ∧ j ≠ 5 ∧ j ≠ 6)) with rfl | rfl | rfl | rfl | ⟨n0, n4, n5, n6⟩
    · simp [regB]
    · simp [e4, regB, bne]
    · simp [e5, regB, bne]
    · simp [e6, regB, bne]
    · simp only [n0, n4, n5, n6, if_false, false_or]
      exact (g1 j (by omega)).symm

/-- n turns. -/
def turnsN : Nat → Nat → Nat
  | 0, r => r
  | n + 1, r => turnN (turnsN n r)
theorem turnsN_lt {n r : Nat} (h : r < 256) : turnsN n r < 256 := by
  induction n with
  | zero => exact h
  | succ n ih => exact turnN_lt ih
/-- The round constant, bit by bit. -/
def cstN : Nat → Nat → Nat
  | 0, _ => 0
  | j + 1, r => if (turnsN j r).testBit 0 then cstN j r ||| 2 ^ (2 ^ j - 1) else cstN j r
def constN (i : Nat) : Nat := cstN 7 (turnsN (7 * i) 1)
theorem cstN_lt (r : Nat) {j : Nat} (h : j ≤ 7) : cstN j r < 2 ^ 64 := by
  induction j with
  | zero => exact Nat.two_pow_pos 64
  | succ j ih =>
    unfold cstN
    have := ih (by omega)
    split
    · refine Nat.or_lt_two_pow this (Nat.pow_lt_pow_right (by decide) ?_)
      have h2 : 2 ^ j ≤ 2 ^ 6 := Nat.pow_le_pow_right (by decide) (by omega)
      omega
    · exact this
theorem ofInt64 {a : Nat} (ha : a < 2 ^ 64) : (BitVec.ofInt IntKind.u64.bits (a : Int)).toNat = a := by
  rw [show IntKind.u64.bits = 64 from rfl, BitVec.ofInt_natCast, BitVec.toNat_ofNat, Nat.mod_eq_of_lt ha]
theorem wrapN64 {a : Nat} (ha : a < 2 ^ 64) : IntKind.u64.wrap (a : Int) = (a : Int) := by
  rw [wrap_u64']; omega
theorem or64 {a b : Nat} (ha : a < 2 ^ 64) (hb : b < 2 ^ 64) : IntKind.u64.wrap ((BitVec.ofInt IntKind.u64.bits (a : Int) ||| BitVec.ofInt IntKind.u64.bits (b : Int)).toNat : Int) = ((a ||| b : Nat) : Int) := by
  rw [BitVec.toNat_or, ofInt64 ha, ofInt64 hb, wrapN64 (Nat.or_lt_two_pow ha hb)]
theorem or64v {a b : Nat} {w : Int} (ha : a < 2 ^ 64) (hw : w = (b : Int)) (hb : b < 2 ^ 64) : IntKind.u64.wrap ((BitVec.ofInt IntKind.u64.bits (a : Int) ||| BitVec.ofInt IntKind.u64.bits w).toNat : Int) = ((a ||| b : Nat) : Int) := by
  subst hw; exact or64 ha hb
theorem and64 {a b : Nat} (ha : a < 2 ^ 64) (hb : b < 2 ^ 64) : IntKind.u64.wrap ((BitVec.ofInt IntKind.u64.bits (a : Int) &&& BitVec.ofInt IntKind.u64.bits (b : Int)).toNat : Int) = ((a &&& b : Nat) : Int) := by
  rw [BitVec.toNat_and, ofInt64 ha, ofInt64 hb, wrapN64 (Nat.and_lt_two_pow a hb)]
theorem xor64 {a b : Nat} (ha : a < 2 ^ 64) (hb : b < 2 ^ 64) : IntKind.u64.wrap ((BitVec.ofInt IntKind.u64.bits (a : Int) ^^^ BitVec.ofInt IntKind.u64.bits (b : Int)).toNat : Int) = ((a ^^^ b : Nat) : Int) := by
  rw [BitVec.toNat_xor, ofInt64 ha, ofInt64 hb, wrapN64 (Nat.xor_lt_two_pow ha hb)]

set_option maxRecDepth 100000 in
set_option maxHeartbeats 4000000 in
theorem const_ok {i : Nat} (hi : i < 24) (hk : K (.int .u64 (constN i)) h) : CallX Hval.prog 371 [.int .u8 i] h K := by
  refine CallX.of_xf T_ok Hval.func371 rfl (by kernel_rfl) (Nat.le_of_ble_eq_true rfl) ?_; conv => whnf
  refine CondX.dF (by omega) ?_; conv => whnf
  refine BoxX.ext fun m hm e => ?_; conv => whnf
  refine Ob.mk ⟨rfl, rfl⟩ ?_; conv => whnf
  refine StoreX.at (hput_same ..) (by decide) ?_; conv => whnf
  rw [hput_hput]
  refine LoopX.st T_ok Hval.func371 (σ := Nat) (fun s => [(0, .int .u8 i), (3, .pointer (some ⟨m, 0, none⟩)), (4, .int .i64 s)])
    (fun s h' => h' = hput h m (fnb 8 (regB (turnsN s 1)), 426) ∧ s ≤ 7 * i) (fun s => 7 * i - s) 0 ⟨rfl, rfl, rfl, trivial⟩ ⟨rfl, by omega⟩ ?_
  rintro t ρ h' ⟨rfl, ht⟩ ih
  conv => whnf
  rw [wrap_i64 (x := (i : Int)) (by omega) (by omega), wrap_i64 (x := 7 * (i : Int)) (by omega) (by omega)]
  refine CondX.decI (fun hc => ?_) (fun hc => ?_) <;> conv => whnf
  · refine turn_ok (hput_same ..) (turnsN_lt (by decide)) ?_; conv => whnf
    rw [hput_hput]
    exact ih (t + 1) _ _ ⟨rfl, by omega⟩ (by omega) ⟨rfl, rfl, congrArg (Value.int .i64) (wsucc (by omega)), trivial⟩
  · have ht : t = 7 * i := by omega
    subst ht
    have hr := turnsN_lt (n := 7 * i) (r := 1) (by decide)
    unfold constN at hk
    generalize turnsN (7 * i) 1 = r at hr hk ⊢
    refine LoopX.st T_ok Hval.func371 (σ := Nat) (fun s => [(3, .pointer (some ⟨m, 0, none⟩)), (5, .int .u64 (cstN s r)), (6, .int .i64 s)])
      (fun s h' => h' = hput h m (fnb 8 (regB (turnsN s r)), 426) ∧ s ≤ 7) (fun s => 7 - s) 0 ⟨rfl, rfl, rfl, trivial⟩ ⟨rfl, by omega⟩ ?_
    rintro j ρ2 h2 ⟨rfl, hj⟩ ih2
    conv => whnf
    refine CondX.decI (fun hc => ?_) (fun hc => ?_) <;> conv => whnf
    · refine Ob.mk (by first | decide | omega) ?_; conv => whnf
      refine LoadX.fb (hput_same ..) 0 rfl (by decide) ?_; conv => whnf
      have hcl := cstN_lt r (j := j) (by omega)
      have hcs : cstN (j + 1) r = if (turnsN j r).testBit 0 then cstN j r ||| 2 ^ (2 ^ j - 1) else cstN j r := rfl
      refine CondX.mk (fun hb0 => ?_) (fun hb0 => ?_) <;> conv => whnf
      · rw [if_pos (show (turnsN j r).testBit 0 = true from hb0)] at hcs
        rcases (by omega : j = 0 ∨ j = 1 ∨ j = 2 ∨ j = 3 ∨ j = 4 ∨ j = 5 ∨ j = 6) with rfl | rfl | rfl | rfl | rfl | rfl | rfl
        all_goals
          refine Ob.mk (by first | decide | omega) ?_; conv => whnf
          refine Ob.mk (by first | decide | omega) ?_; conv => whnf
          refine turn_ok (hput_same ..) (turnsN_lt hr) ?_; conv => whnf
          rw [hput_hput]
          refine ih2 (_ + 1) _ _ ⟨rfl, by omega⟩ (by omega) ⟨rfl, ?_, congrArg (Value.int .i64) (wsucc (by omega)), trivial⟩
          rw [hcs]
          conv => lhs; whnf
          exact congrArg (Value.int .u64) (or64v hcl (by decide +kernel) (by decide +kernel))
      · rw [if_neg (show ¬ (turnsN j r).testBit 0 = true by rw [show (turnsN j r).testBit 0 = false from hb0]; simp)] at hcs
        refine turn_ok (hput_same ..) (turnsN_lt hr) ?_; conv => whnf
        rw [hput_hput]
        exact ih2 (j + 1) _ _ ⟨rfl, by omega⟩ (by omega) ⟨rfl, by rw [hcs]; rfl, congrArg (Value.int .i64) (wsucc (by omega)), trivial⟩
    · have hj : j = 7 := by omega
      subst hj
      exact RetX.drop (Ext.bd hm) hk
def offF : Nat → Nat → Nat → Nat → Nat → Nat → Nat
  | 0, _, _, _, _, _ => 0
  | n + 1, t, u, v, x, y => if u = x ∧ v = y then (t + 1) * (t + 2) / 2 % 64 else offF n (t + 1) v ((2 * u + 3 * v) % 5) x y
def offN (x y : Nat) : Nat := offF 24 0 1 0 x y
set_option maxRecDepth 100000 in
set_option maxHeartbeats 4000000 in
theorem offset_ok {x y : Nat} (hx : x < 5) (hy : y < 5) (hk : K (.int .u8 (offN x y)) h) : CallX Hval.prog 369 [.int .u8 x, .int .u8 y] h K := by
  refine CallX.of_xf T_ok Hval.func369 rfl (by kernel_rfl) (Nat.le_of_ble_eq_true rfl) ?_; conv => whnf
  refine CondX.dF (by omega) ?_; conv => whnf
  repeat (first | (refine CondX.tt ?_; conv => whnf) | (refine CondX.ff ?_; conv => whnf))
  refine CondX.dF (by omega) ?_; conv => whnf
  refine LoopX.st T_ok Hval.func369 (σ := Nat × Nat × Nat) (fun s => [(0, .int .u8 x), (1, .int .u8 y), (5, .int .i64 s.2.1), (6, .int .i64 s.2.2), (7, .int .i64 s.1)])
    (fun s h' => h' = h ∧ s.1 ≤ 24 ∧ s.2.1 < 5 ∧ s.2.2 < 5 ∧ offF (24 - s.1) s.1 s.2.1 s.2.2 x y = offN x y) (fun s => 24 - s.1) (0, 1, 0) ⟨rfl, rfl, rfl, rfl, rfl, trivial⟩ ⟨rfl, by simp, by simp, by simp, rfl⟩ ?_
  rintro ⟨t, u, v⟩ ρ h' ⟨rfl, ht, hu, hv, ho⟩ ih
  simp only at ht hu hv ho ⊢
  conv => whnf
  refine CondX.decI (fun hc => ?_) (fun hc => ?_) <;> conv => whnf
  · rw [wrap_i64 (x := (x : Int)) (by omega) (by omega)]
    obtain ⟨k, hk24⟩ : ∃ k, 24 - t = k + 1 := ⟨23 - t, by omega⟩
    have hk2 : 24 - (t + 1) = k := by omega
    rw [hk24] at ho
    unfold offF at ho
    refine CondX.eqI (fun h1 => ?_) (fun h1 => ?_) <;> conv => whnf
    · repeat (first | (refine CondX.tt ?_; conv => whnf) | (refine CondX.ff ?_; conv => whnf))
      rw [wrap_i64 (x := (y : Int)) (by omega) (by omega)]
      refine CondX.eqI (fun h2 => ?_) (fun h2 => ?_) <;> conv => whnf
      · have h1 : u = x := by omega
        have h2 : v = y := by omega
        rw [if_pos ⟨h1, h2⟩] at ho
        rw [wsucc (show t < 2 ^ 41 by omega), show ((t : Int) + 2) = ((t + 2 : Nat) : Int) by omega, wrap_i64 (x := ((t + 2 : Nat) : Int)) (by omega) (by omega)]
        have hm : (t + 1) * (t + 2) ≤ 24 * 25 := Nat.mul_le_mul (by omega) (by omega)
        rw [show ((t + 1 : Nat) : Int) * ((t + 2 : Nat) : Int) = (((t + 1) * (t + 2) : Nat) : Int) by simp]
        rw [← ho] at hk
        generalize (t + 1) * (t + 2) = q at hm hk ⊢
        rw [wrap_i64 (x := (q : Int)) (by omega) (by omega)]
        refine Ob.mk (by first | decide | omega) ?_; conv => whnf
        rw [show (2 : Int) = ((2 : Nat) : Int) from rfl, tdivN, wrap_i64 (x := ((q / 2 : Nat) : Int)) (by omega) (by omega)]
        refine Ob.mk (by first | decide | omega) ?_; conv => whnf
        rw [show (64 : Int) = ((64 : Nat) : Int) from rfl, tmodN, wrap_u8]
        rw [show ((q / 2 % 64 : Nat) : Int) % 256 = ((q / 2 % 64 : Nat) : Int) by omega]
        exact RetX.same hk
      · have h2 : ¬ (u = x ∧ v = y) := by omega
        rw [if_neg h2] at ho
        rw [wrap_i64 (x := 2 * (u : Int)) (by omega) (by omega), wrap_i64 (x := 3 * (v : Int)) (by omega) (by omega), show 2 * (u : Int) + 3 * (v : Int) = ((2 * u + 3 * v : Nat) : Int) by omega, wrap_i64 (x := ((2 * u + 3 * v : Nat) : Int)) (by omega) (by omega)]
        refine Ob.mk (by first | decide | omega) ?_; conv => whnf
        rw [show (5 : Int) = ((5 : Nat) : Int) from rfl, tmodN]
        exact ih (t + 1, v, (2 * u + 3 * v) % 5) _ _ ⟨rfl, by omega, hv, Nat.mod_lt _ (by decide), by rw [hk2]; exact ho⟩ (by dsimp only; omega) ⟨rfl, rfl, rfl, rfl, congrArg (Value.int .i64) (wsucc (by omega)), trivial⟩
    · repeat (first | (refine CondX.tt ?_; conv => whnf) | (refine CondX.ff ?_; conv => whnf))
      have h2 : ¬ (u = x ∧ v = y) := by omega
      rw [if_neg h2] at ho
      rw [wrap_i64 (x := 2 * (u : Int)) (by omega) (by omega), wrap_i64 (x := 3 * (v : Int)) (by omega) (by omega), show 2 * (u : Int) + 3 * (v : Int) = ((2 * u + 3 * v : Nat) : Int) by omega, wrap_i64 (x := ((2 * u + 3 * v : Nat) : Int)) (by omega) (by omega)]
      refine Ob.mk (by first | decide | omega) ?_; conv => whnf
      rw [show (5 : Int) = ((5 : Nat) : Int) from rfl, tmodN]
      exact ih (t + 1, v, (2 * u + 3 * v) % 5) _ _ ⟨rfl, by omega, hv, Nat.mod_lt _ (by decide), by rw [hk2]; exact ho⟩ (by dsimp only; omega) ⟨rfl, rfl, rfl, rfl, congrArg (Value.int .i64) (wsucc (by omega)), trivial⟩
  · have ht : t = 24 := by omega
    subst ht
    rw [← ho] at hk
    exact RetX.same hk
end
end Go.Proofs.YgvalwGreat.X
