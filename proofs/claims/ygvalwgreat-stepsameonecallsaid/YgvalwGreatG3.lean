import Derived.Test.YgvalwGreatG2
set_option linter.unusedVariables false
set_option linter.unusedSimpArgs false
namespace Go.Proofs.YgvalwGreat.X
open Go

def rhoB (g : Nat → Bool) : Nat → Bool := fun i => g (64 * (i / 64) + (i % 64 + 64 - offN (i / 320) (i / 64 % 5) % 64) % 64)
def piB (g : Nat → Bool) : Nat → Bool := fun i => g (320 * ((i / 320 + 3 * (i / 64 % 5)) % 5) + 64 * (i / 320) + i % 64)
def chiB (g : Nat → Bool) : Nat → Bool := fun i => (g i != (g (320 * ((i / 320 + 2) % 5) + i % 320) && !g (320 * ((i / 320 + 1) % 5) + i % 320)))
def iotaB (c : Nat) (g : Nat → Bool) : Nat → Bool := fun i => if i < 64 then (g i != c.testBit i) else g i
section
variable {h : Hp} {K : Value → Hp → Prop}
theorem offN_lt (x y : Nat) (hx : x < 5) (hy : y < 5) : offN x y < 64 := by
  have : ∀ a : Fin 5, ∀ b : Fin 5, offN a.val b.val < 64 := by decide +kernel
  exact this ⟨x, hx⟩ ⟨y, hy⟩
theorem hput_id {h : Hp} {m : Nat} {x} (hb : h m = some x) : hput h m x = h := by
  funext b
  by_cases e : b = m
  · subst e; rw [hput_same, hb]
  · rw [hput_ne e]
theorem shr64 {a s : Nat} (hs : s < 64) : ((a : Int)).fdiv (2 ^ min ((s : Int)).toNat IntKind.u64.bits) = ((a >>> s : Nat) : Int) := by
  rw [Int.toNat_natCast, show IntKind.u64.bits = 64 from rfl, Nat.min_eq_left (by omega), Nat.shiftRight_eq_div_pow, Int.fdiv_eq_ediv_of_nonneg _ (by exact Int.le_of_lt (Int.pow_pos (by decide)))]
  simp
theorem bit64 {a s : Nat} (hs : s < 64) (ha : a < 2 ^ 64) : (IntKind.u64.wrap ((BitVec.ofInt IntKind.u64.bits ((a : Int).fdiv (2 ^ min ((s : Int)).toNat IntKind.u64.bits)) &&& BitVec.ofInt IntKind.u64.bits 1).toNat : Int) == 1) = a.testBit s := by
  have h1 : a >>> s < 2 ^ 64 := Nat.lt_of_le_of_lt (Nat.shiftRight_le a s) ha
  rw [shr64 hs]
  have := and64 (b := 1) h1 (by decide)
  rw [show ((1 : Nat) : Int) = 1 from rfl] at this
  rw [this, Nat.and_one_is_mod, Nat.testBit_eq_decide_div_mod_eq, Nat.shiftRight_eq_div_pow, Bool.eq_iff_iff, beq_iff_eq, decide_eq_true_iff]
  generalize a / 2 ^ s = q
  omega
theorem constN_lt (i : Nat) : constN i < 2 ^ 64 := cstN_lt _ (by decide)
theorem CopyX.fb {h : Hp} {a b n n' p p' dl xl : Nat} {g g' : Nat → Bool} {t t' : TypeId} {KK : Value → Hp → Prop} (hB : h b = some (fnb n g, t)) (hA : h a = some (fnb n' g', t')) (o o' k : Nat) (ho : p = o) (ho' : p' = o') (hk : Nat.min xl dl = k) (h1 : o + k ≤ n) (h2 : o' + k ≤ n')
    (hK : KK (.int .i64 k) (hput h b (fnb n (fun j => if o ≤ j ∧ j < o + k then g' (o' + (j - o)) else g j), t))) : CopyX h 1 (some ⟨b, p, none⟩) dl (some ⟨a, p', none⟩) xl KK := by
  subst ho ho'
  refine ⟨fnb k fun i => g' (p' + i), ?_, ?_⟩
  · rw [hk, Nat.mul_one]
    simp only [rd, hA]
    rw [if_pos (by rw [fnb_len]; omega)]
    exact congrArg some (seg_fnv h2)
  · refine ⟨_, _, hB, by rw [fnb_len, fnb_len]; omega, ones_fnb _ _, ?_⟩
    rw [fnb_setL h1, hk]
    exact hK
theorem Ext.keep {h h' : Hp} {c : Nat} {x} (e : Ext h h') (hc : h c = Option.none) : Ext h (hput h' c x) := fun b y hb => by
  rw [hput_ne (fun q => by rw [q, hc] at hb; cases hb)]; exact e b y hb
theorem StoreX.fbL {b n o q : Nat} {g g' : Nat → Bool} {t : TypeId} {KK : Hp → Prop} (hb : h b = some (fnb n g, t)) (k : Nat) (ho : o = k) (hk : k + q ≤ n) (hK : KK (hput h b (fnb n (fun j => if k ≤ j ∧ j < k + q then g' (j - k) else g j), t))) : StoreX h b o (fnb q g').toArray.toList KK := by
  subst ho
  refine StoreX.at hb (by simp [fnb_len]; omega) ?_
  rw [List.toList_toArray, fnb_setL hk]; exact hK
theorem ldV_fbA {b n o sz : Nat} {g : Nat → Bool} {t : TypeId} (hb : h b = some (fnb n g, t)) (k : Nat) (ho : o = k) (hk : k + sz ≤ n) : ldV true sz h b o = some (.agg (fnb sz fun i => g (k + i)).toArray) := ldV_fnA hb k ho hk
theorem LoadX.fbA {b n o sz : Nat} {g : Nat → Bool} {t : TypeId} {KK : Value → Prop} (hb : h b = some (fnb n g, t)) (k : Nat) (ho : o = k) (hk : k + sz ≤ n) (hK : KK (.agg (fnb sz fun i => g (k + i)).toArray)) : LoadX true sz h b o KK := ⟨_, ldV_fbA hb k ho hk, hK⟩
theorem obA {n : Nat} {g : Nat → Bool} : (fnb n g).toArray.size = n ∧ ones (fnb n g) = true := ⟨by rw [List.size_toArray, fnb_len], ones_fnb _ _⟩
set_option maxRecDepth 100000 in
set_option maxHeartbeats 4000000 in
theorem pi_ok {m : Nat} {g : Nat → Bool} {t : TypeId} (hb : h m = some (fnb 1600 g, t)) (hk : K (.agg (fnb 1600 (piB g)).toArray) h) : CallX Hval.prog 332 [.pointer (some ⟨m, 0, none⟩)] h K := by
  refine CallX.of_xf T_ok Hval.func332 rfl (by kernel_rfl) (Nat.le_of_ble_eq_true rfl) ?_; conv => whnf
  refine BoxX.ext fun c hc ec => ?_; conv => whnf
  have hc0 : h c = Option.none := hc.at
  have hcm : c ≠ m := fun e => by rw [e, hb] at hc0; cases hc0
  refine LoopX.st T_ok Hval.func332 (σ := Nat) (fun s => [(0, .pointer (some ⟨m, 0, none⟩)), (2, .pointer (some ⟨c, 0, none⟩)), (5, .int .i64 s)])
    (fun s h' => s ≤ 5 ∧ ∃ B, h' c = some (fnb 1600 B, 370) ∧ Ext h h' ∧ ∀ i, i < 320 * s → B i = piB g i) (fun s => 5 - s) 0 ⟨rfl, rfl, rfl, trivial⟩ ⟨by omega, fun _ => false, by rw [hput_same]; exact congrArg (fun z => some (z, 370)) z370_fn, ec, fun i hi => by omega⟩ ?_
  rintro x ρ h' ⟨hx, B, hB, e1, hI⟩ ih
  conv => whnf
  refine CondX.decI (fun hx5 => ?_) (fun hx5 => ?_) <;> conv => whnf
  · have hx5 : x < 5 := by omega
    refine LoopX.st T_ok Hval.func332 (σ := Nat) (fun s => [(0, .pointer (some ⟨m, 0, none⟩)), (2, .pointer (some ⟨c, 0, none⟩)), (5, .int .i64 x), (3, .int .i64 x), (8, .int .i64 s)])
      (fun s h' => s ≤ 5 ∧ ∃ B, h' c = some (fnb 1600 B, 370) ∧ Ext h h' ∧ ∀ i, i < 320 * x + 64 * s → B i = piB g i) (fun s => 5 - s) 0 ⟨rfl, rfl, rfl, rfl, rfl, trivial⟩ ⟨by omega, B, hB, e1, hI⟩ ?_
    clear hI e1 hB B h'
    rintro y ρ h' ⟨hy, B, hB, e1, hI⟩ ih2
    conv => whnf
    refine CondX.decI (fun hy5 => ?_) (fun hy5 => ?_) <;> conv => whnf
    · have hy5 : y < 5 := by omega
      have hA := e1 _ _ hb
      refine DrawX.go T_ok hM Hval.func332 (tb := dr332) rfl (by kernel_rfl) ?_; conv => whnf
      rw [wrap_i64 (x := 3 * (y : Int)) (by omega) (by omega), show (x : Int) + 3 * (y : Int) = ((x + 3 * y : Nat) : Int) by omega, wrap_i64 (x := ((x + 3 * y : Nat) : Int)) (by omega) (by omega)]
      refine Ob.mk (by first | decide | omega) ?_; conv => whnf
      rw [tm5]
      refine Ob.mk (by first | decide | omega) ?_; conv => whnf
      refine Ob.mk (by first | decide | omega) ?_; conv => whnf
      refine LoadX.fbA (sz := 64) hA (320 * ((x + 3 * y) % 5) + 64 * x) (by (try simp only [sz367, sz368, sz4]); omega) (by omega) ?_; conv => whnf
      refine Ob.mk (by first | decide | omega) ?_; conv => whnf
      refine Ob.mk (by first | decide | omega) ?_; conv => whnf
      refine Ob.mk obA ?_; conv => whnf
      refine StoreX.fbL (q := 64) hB (320 * x + 64 * y) (by (try simp only [sz367, sz368, sz4]); omega) (by omega) ?_; conv => whnf
      refine ih2 (y + 1) _ _ ⟨by omega, _, hput_same .., Ext.keep e1 hc0, fun i hi => ?_⟩ (by omega) ⟨rfl, rfl, rfl, rfl, congrArg (Value.int .i64) (wsucc (by omega)), trivial⟩
      by_cases q : 320 * x + 64 * y ≤ i
      · rw [if_pos (by omega)]
        unfold piB
        rw [show i / 320 = x by omega, show i / 64 % 5 = y by omega, show i % 64 = i - (320 * x + 64 * y) by omega]
      · rw [if_neg (by omega)]; exact hI i (by omega)
    · have : y = 5 := by omega
      subst this
      exact ih (x + 1) _ _ ⟨by omega, B, hB, e1, fun i hi => hI i (by omega)⟩ (by omega) ⟨rfl, rfl, congrArg (Value.int .i64) (wsucc (by omega)), trivial⟩
  · have : x = 5 := by omega
    subst this
    refine LoadX.fbA (sz := 1600) hB 0 rfl (by decide) ?_; conv => whnf
    refine Ob.mk obA ?_; conv => whnf
    refine StoreX.fbL (q := 1600) hB 0 rfl (by decide) ?_; conv => whnf
    refine LoadX.fbA (sz := 1600) (hput_same ..) 0 rfl (by decide) ?_; conv => whnf
    refine RetX.drop (Ext.keep e1 hc0) ?_
    rw [show fnb 1600 (piB g) = fnb 1600 _ from fnb_ext fun i hi => ?_] at hk
    exact hk
    simp only [Nat.zero_add, Nat.sub_zero, Nat.zero_le, true_and]
    rw [if_pos hi]
    exact (hI i (by omega)).symm
set_option maxRecDepth 100000 in
set_option maxHeartbeats 4000000 in
theorem kbit_ok {b : Bool} (hk : K (.int .u8 (if b then 1 else 0)) h) : CallX Hval.prog 370 [.bool b] h K := by
  refine CallX.of_xf T_ok Hval.func370 rfl (by kernel_rfl) (Nat.le_of_ble_eq_true rfl) ?_; conv => whnf
  cases b
  · repeat (first | (refine CondX.tt ?_; conv => whnf) | (refine CondX.ff ?_; conv => whnf))
    exact RetX.same hk
  · repeat (first | (refine CondX.tt ?_; conv => whnf) | (refine CondX.ff ?_; conv => whnf))
    exact RetX.same hk
set_option maxRecDepth 100000 in
set_option maxHeartbeats 4000000 in
theorem chi_ok {m : Nat} {g : Nat → Bool} {t : TypeId} (hb : h m = some (fnb 1600 g, t)) (hk : K (.agg (fnb 1600 (chiB g)).toArray) h) : CallX Hval.prog 333 [.pointer (some ⟨m, 0, none⟩)] h K := by
  refine CallX.of_xf T_ok Hval.func333 rfl (by kernel_rfl) (Nat.le_of_ble_eq_true rfl) ?_; conv => whnf
  refine BoxX.ext fun c hc ec => ?_; conv => whnf
  have hc0 : h c = Option.none := hc.at
  have hcm : c ≠ m := fun e => by rw [e, hb] at hc0; cases hc0
  refine LoopX.st T_ok Hval.func333 (σ := Nat) (fun s => [(0, .pointer (some ⟨m, 0, none⟩)), (2, .pointer (some ⟨c, 0, none⟩)), (10, .int .i64 s)])
    (fun s h' => s ≤ 5 ∧ ∃ B, h' c = some (fnb 1600 B, 370) ∧ Ext h h' ∧ ∀ i, i < 320 * s → B i = chiB g i) (fun s => 5 - s) 0 ⟨rfl, rfl, rfl, trivial⟩ ⟨by omega, fun _ => false, by rw [hput_same]; exact congrArg (fun z => some (z, 370)) z370_fn, ec, fun i hi => by omega⟩ ?_
  rintro x ρ h' ⟨hx, B, hB, e1, hI⟩ ih
  conv => whnf
  refine CondX.decI (fun hx5 => ?_) (fun hx5 => ?_) <;> conv => whnf
  · have hx5 : x < 5 := by omega
    refine LoopX.st T_ok Hval.func333 (σ := Nat) (fun s => [(0, .pointer (some ⟨m, 0, none⟩)), (2, .pointer (some ⟨c, 0, none⟩)), (10, .int .i64 x), (3, .int .i64 x), (13, .int .i64 s)])
      (fun s h' => s ≤ 5 ∧ ∃ B, h' c = some (fnb 1600 B, 370) ∧ Ext h h' ∧ ∀ i, i < 320 * x + 64 * s → B i = chiB g i) (fun s => 5 - s) 0 ⟨rfl, rfl, rfl, rfl, rfl, trivial⟩ ⟨by omega, B, hB, e1, hI⟩ ?_
    clear hI e1 hB B h'
    rintro y ρ h' ⟨hy, B, hB, e1, hI⟩ ih2
    conv => whnf
    refine CondX.decI (fun hy5 => ?_) (fun hy5 => ?_) <;> conv => whnf
    · have hy5 : y < 5 := by omega
      refine Ob.mk (by first | decide | omega) ?_; conv => whnf
      refine Ob.mk (by first | decide | omega) ?_; conv => whnf
      refine Ob.mk (by first | decide | omega) ?_; conv => whnf
      refine Ob.mk (by first | decide | omega) ?_; conv => whnf
      rw [wsucc (show x < 2 ^ 41 by omega)]
      refine Ob.mk (by first | decide | omega) ?_; conv => whnf
      rw [tm5]
      refine Ob.mk (by first | decide | omega) ?_; conv => whnf
      refine Ob.mk (by first | decide | omega) ?_; conv => whnf
      rw [show ((x : Int) + 2) = ((x + 2 : Nat) : Int) by omega, wrap_i64 (x := ((x + 2 : Nat) : Int)) (by omega) (by omega)]
      refine Ob.mk (by first | decide | omega) ?_; conv => whnf
      rw [tm5]
      refine Ob.mk (by first | decide | omega) ?_; conv => whnf
      refine Ob.mk (by first | decide | omega) ?_; conv => whnf
      refine LoopX.st T_ok Hval.func333 (σ := Nat) (fun s => [(0, .pointer (some ⟨m, 0, none⟩)), (2, .pointer (some ⟨c, 0, none⟩)), (10, .int .i64 x), (3, .int .i64 x), (13, .int .i64 y), (5, .pointer (some ⟨c, 320 * x + 64 * y, none⟩)), (6, .pointer (some ⟨m, 320 * x + 64 * y, none⟩)), (7, .pointer (some ⟨m, 320 * ((x + 1) % 5) + 64 * y, none⟩)), (8, .pointer (some ⟨m, 320 * ((x + 2) % 5) + 64 * y, none⟩)), (42, .int .i64 s)])
        (fun s h' => s ≤ 64 ∧ ∃ B, h' c = some (fnb 1600 B, 370) ∧ Ext h h' ∧ ∀ i, i < 320 * x + 64 * y + s → B i = chiB g i) (fun s => 64 - s) 0 ⟨rfl, rfl, rfl, rfl, rfl, ptr_eq (by (try simp only [sz367, sz368, sz4]); omega), ptr_eq (by (try simp only [sz367, sz368, sz4]); omega), ptr_eq (by (try simp only [sz367, sz368, sz4]); omega), ptr_eq (by (try simp only [sz367, sz368, sz4]); omega), rfl, trivial⟩ ⟨by omega, B, hB, e1, hI⟩ ?_
      clear hI e1 hB B h'
      rintro z ρ h' ⟨hz, B, hB, e1, hI⟩ ih3
      conv => whnf
      refine CondX.decI (fun hz5 => ?_) (fun hz5 => ?_) <;> conv => whnf
      · have hz5 : z < 64 := by omega
        have hA := e1 _ _ hb
        refine DrawX.go T_ok hM Hval.func333 (tb := dr333) rfl (by kernel_rfl) ?_; conv => whnf
        refine Ob.mk (by first | decide | omega) ?_; conv => whnf
        refine LoadX.fb hA (320 * x + 64 * y + z) (by (try simp only [sz367, sz368, sz4]); omega) (by omega) ?_; conv => whnf
        refine Ob.mk (by first | decide | omega) ?_; conv => whnf
        refine LoadX.fb hA (320 * ((x + 2) % 5) + 64 * y + z) (by (try simp only [sz367, sz368, sz4]); omega) (by omega) ?_; conv => whnf
        refine Ob.mk (by first | decide | omega) ?_; conv => whnf
        refine LoadX.fb hA (320 * ((x + 1) % 5) + 64 * y + z) (by (try simp only [sz367, sz368, sz4]); omega) (by omega) ?_; conv => whnf
        refine kbit_ok ?_; conv => whnf
        have s1 : ∀ o, o = 320 * ((x + 1) % 5) + 64 * y + z → ldV (4, y4).snd.agg (4, y4).snd.size h' m o = some (.bool (g (320 * ((x + 1) % 5) + 64 * y + z))) := fun o ho => ldV_fn hA _ ho (by omega)
        have s0 : ∀ o, o = 320 * x + 64 * y + z → ldV (4, y4).snd.agg (4, y4).snd.size h' m o = some (.bool (g (320 * x + 64 * y + z))) := fun o ho => ldV_fn hA _ ho (by omega)
        have s2 : ∀ o, o = 320 * ((x + 2) % 5) + 64 * y + z → ldV (4, y4).snd.agg (4, y4).snd.size h' m o = some (.bool (g (320 * ((x + 2) % 5) + 64 * y + z))) := fun o ho => ldV_fn hA _ ho (by omega)
        repeat (refine Ob.mk (by first | exact s0 _ (by (try simp only [sz367, sz368, sz4]); omega) | exact s1 _ (by (try simp only [sz367, sz368, sz4]); omega) | exact s2 _ (by (try simp only [sz367, sz368, sz4]); omega)) ?_; conv => whnf)
        refine kbit_ok ?_; conv => whnf
        repeat (refine Ob.mk (by first | exact s0 _ (by (try simp only [sz367, sz368, sz4]); omega) | exact s1 _ (by (try simp only [sz367, sz368, sz4]); omega) | exact s2 _ (by (try simp only [sz367, sz368, sz4]); omega)) ?_; conv => whnf)
        repeat (refine Ob.mk (by first | decide | omega) ?_; conv => whnf)
        refine StoreX.fb hB (320 * x + 64 * y + z) (by (try simp only [sz367, sz368, sz4]); omega) (by omega) ?_; conv => whnf
        refine ih3 (z + 1) _ _ ⟨by omega, _, hput_same .., Ext.keep e1 hc0, fun i hi => ?_⟩ (by omega) ⟨rfl, rfl, rfl, rfl, rfl, rfl, rfl, rfl, rfl, congrArg (Value.int .i64) (wsucc (by omega)), trivial⟩
        unfold updB
        by_cases e : i = 320 * x + 64 * y + z
        · subst e
          rw [if_pos rfl]
          unfold chiB
          rw [show (320 * x + 64 * y + z) / 320 = x by omega, show (320 * x + 64 * y + z) % 320 = 64 * y + z by omega, ← Nat.add_assoc, ← Nat.add_assoc]
          generalize g (320 * x + 64 * y + z) = a
          generalize g (320 * ((x + 1) % 5) + 64 * y + z) = b
          generalize g (320 * ((x + 2) % 5) + 64 * y + z) = d
          cases a <;> cases b <;> cases d <;> rfl
        · rw [if_neg e]; exact hI i (by omega)
      · have : z = 64 := by omega
        subst this
        exact ih2 (y + 1) _ _ ⟨by omega, B, hB, e1, fun i hi => hI i (by omega)⟩ (by omega) ⟨rfl, rfl, rfl, rfl, congrArg (Value.int .i64) (wsucc (by omega)), trivial⟩
    · have : y = 5 := by omega
      subst this
      exact ih (x + 1) _ _ ⟨by omega, B, hB, e1, fun i hi => hI i (by omega)⟩ (by omega) ⟨rfl, rfl, congrArg (Value.int .i64) (wsucc (by omega)), trivial⟩
  · have : x = 5 := by omega
    subst this
    refine LoadX.fbA (sz := 1600) hB 0 rfl (by decide) ?_; conv => whnf
    refine Ob.mk obA ?_; conv => whnf
    refine StoreX.fbL (q := 1600) hB 0 rfl (by decide) ?_; conv => whnf
    refine LoadX.fbA (sz := 1600) (hput_same ..) 0 rfl (by decide) ?_; conv => whnf
    refine RetX.drop (Ext.keep e1 hc0) ?_
    rw [show fnb 1600 (chiB g) = fnb 1600 _ from fnb_ext fun i hi => ?_] at hk
    exact hk
    simp only [Nat.zero_add, Nat.sub_zero, Nat.zero_le, true_and]
    rw [if_pos hi]
    exact (hI i (by omega)).symm
set_option maxRecDepth 100000 in
set_option maxHeartbeats 4000000 in
theorem rho_ok {m : Nat} {g : Nat → Bool} {t : TypeId} (hb : h m = some (fnb 1600 g, t)) (hk : K (.agg (fnb 1600 (rhoB g)).toArray) h) : CallX Hval.prog 331 [.pointer (some ⟨m, 0, none⟩)] h K := by
  refine CallX.of_xf T_ok Hval.func331 rfl (by kernel_rfl) (Nat.le_of_ble_eq_true rfl) ?_; conv => whnf
  refine BoxX.ext fun c hc ec => ?_; conv => whnf
  have hc0 : h c = Option.none := hc.at
  have hcm : c ≠ m := fun e => by rw [e, hb] at hc0; cases hc0
  refine LoopX.st T_ok Hval.func331 (σ := Nat) (fun s => [(0, .pointer (some ⟨m, 0, none⟩)), (2, .pointer (some ⟨c, 0, none⟩)), (6, .int .i64 s)])
    (fun s h' => s ≤ 5 ∧ ∃ B, h' c = some (fnb 1600 B, 370) ∧ Ext h h' ∧ ∀ i, i < 320 * s → B i = rhoB g i) (fun s => 5 - s) 0 ⟨rfl, rfl, rfl, trivial⟩ ⟨by omega, fun _ => false, by rw [hput_same]; exact congrArg (fun z => some (z, 370)) z370_fn, ec, fun i hi => by omega⟩ ?_
  rintro x ρ h' ⟨hx, B, hB, e1, hI⟩ ih
  conv => whnf
  refine CondX.decI (fun hx5 => ?_) (fun hx5 => ?_) <;> conv => whnf
  · have hx5 : x < 5 := by omega
    refine LoopX.st T_ok Hval.func331 (σ := Nat) (fun s => [(0, .pointer (some ⟨m, 0, none⟩)), (2, .pointer (some ⟨c, 0, none⟩)), (6, .int .i64 x), (3, .int .i64 x), (9, .int .i64 s)])
      (fun s h' => s ≤ 5 ∧ ∃ B, h' c = some (fnb 1600 B, 370) ∧ Ext h h' ∧ ∀ i, i < 320 * x + 64 * s → B i = rhoB g i) (fun s => 5 - s) 0 ⟨rfl, rfl, rfl, rfl, rfl, trivial⟩ ⟨by omega, B, hB, e1, hI⟩ ?_
    clear hI e1 hB B h'
    rintro y ρ h' ⟨hy, B, hB, e1, hI⟩ ih2
    conv => whnf
    refine CondX.decI (fun hy5 => ?_) (fun hy5 => ?_) <;> conv => whnf
    · have hy5 : y < 5 := by omega
      have hA := e1 _ _ hb
      rw [wrap_u8, wrap_u8, show ((x : Int) % 256) = (x : Int) by omega, show ((y : Int) % 256) = (y : Int) by omega]
      refine offset_ok hx5 hy5 ?_; conv => whnf
      have ho := offN_lt x y hx5 hy5
      refine Ob.mk (by first | decide | omega) ?_; conv => whnf
      refine DrawX.go T_ok hM Hval.func331 (tb := dr331) rfl (by kernel_rfl) ?_; conv => whnf
      rw [tm64, Nat.mod_eq_of_lt ho]
      generalize hof : offN x y = k at ho
      repeat (refine Ob.mk (by first | decide | omega) ?_; conv => whnf)
      rw [wrap_u8, show (64 - (k : Int)) % 256 = ((64 - k : Nat) : Int) by omega]
      repeat (refine Ob.mk (by first | decide | omega) ?_; conv => whnf)
      refine CopyX.fb hB hA (320 * x + 64 * y + k) (320 * x + 64 * y) (64 - k) (by simp only [soff, sz367, sz368, sz4]; split <;> omega) (by simp only [soff, sz367, sz368, sz4]; split <;> omega) (by rw [Int.toNat_natCast, Int.toNat_natCast]; exact Nat.min_eq_left (by omega)) (by omega) (by omega) ?_; conv => whnf
      repeat (refine Ob.mk (by first | decide | omega) ?_; conv => whnf)
      have hB2 := hput_same (h := h') (b := c) (x := (fnb 1600 (fun j => if 320 * x + 64 * y + k ≤ j ∧ j < 320 * x + 64 * y + k + (64 - k) then g (320 * x + 64 * y + (j - (320 * x + 64 * y + k))) else B j), 370))
      have e2 := Ext.keep (x := (fnb 1600 (fun j => if 320 * x + 64 * y + k ≤ j ∧ j < 320 * x + 64 * y + k + (64 - k) then g (320 * x + 64 * y + (j - (320 * x + 64 * y + k))) else B j), 370)) e1 hc0
      generalize hput h' c (fnb 1600 (fun j => if 320 * x + 64 * y + k ≤ j ∧ j < 320 * x + 64 * y + k + (64 - k) then g (320 * x + 64 * y + (j - (320 * x + 64 * y + k))) else B j), 370) = h2 at hB2 e2 ⊢
      refine DrawX.go T_ok hM Hval.func331 (tb := dr331) rfl (by kernel_rfl) ?_; conv => whnf
      repeat (refine Ob.mk (by first | decide | omega) ?_; conv => whnf)
      rw [wrap_u8, show (64 - (k : Int)) % 256 = ((64 - k : Nat) : Int) by omega]
      repeat (refine Ob.mk (by first | decide | omega) ?_; conv => whnf)
      refine CopyX.fb hB2 (e2 _ _ hb) (320 * x + 64 * y) (if k = 0 then 320 * x + 64 * y else 320 * x + 64 * y + (64 - k)) k (by simp only [soff, sz367, sz368, sz4]; split <;> omega) (by simp only [soff, sz367, sz368, sz4]; split <;> split <;> omega) (by rw [Int.toNat_natCast, Int.toNat_natCast]; show min _ _ = _; omega) (by omega) (by split <;> omega) ?_; conv => whnf
      repeat (refine Ob.mk (by first | decide | omega) ?_; conv => whnf)
      refine ih2 (y + 1) _ _ ⟨by omega, _, hput_same .., Ext.keep e2 hc0, fun i hi => ?_⟩ (by omega) ⟨rfl, rfl, rfl, rfl, congrArg (Value.int .i64) (wsucc (by omega)), trivial⟩
      by_cases q : 320 * x + 64 * y ≤ i
      · unfold rhoB
        rw [show i / 320 = x by omega, show i / 64 % 5 = y by omega, show 64 * (i / 64) = 320 * x + 64 * y by omega, hof]
        by_cases q2 : i < 320 * x + 64 * y + k
        · rw [if_pos (by omega)]
          congr 1
          split <;> omega
        · rw [if_neg (by omega), if_pos (by omega)]
          congr 1
          omega
      · rw [if_neg (by omega), if_neg (by omega)]
        exact hI i (by omega)
    · have : y = 5 := by omega
      subst this
      exact ih (x + 1) _ _ ⟨by omega, B, hB, e1, fun i hi => hI i (by omega)⟩ (by omega) ⟨rfl, rfl, congrArg (Value.int .i64) (wsucc (by omega)), trivial⟩
  · have : x = 5 := by omega
    subst this
    refine LoadX.fbA (sz := 1600) hB 0 rfl (by decide) ?_; conv => whnf
    refine Ob.mk obA ?_; conv => whnf
    refine StoreX.fbL (q := 1600) hB 0 rfl (by decide) ?_; conv => whnf
    refine LoadX.fbA (sz := 1600) (hput_same ..) 0 rfl (by decide) ?_; conv => whnf
    refine RetX.drop (Ext.keep e1 hc0) ?_
    rw [show fnb 1600 (rhoB g) = fnb 1600 _ from fnb_ext fun i hi => ?_] at hk
    exact hk
    simp only [Nat.zero_add, Nat.sub_zero, Nat.zero_le, true_and]
    rw [if_pos hi]
    exact (hI i (by omega)).symm
set_option maxRecDepth 100000 in
set_option maxHeartbeats 4000000 in
theorem iota_ok {m i : Nat} {g : Nat → Bool} {t : TypeId} (hi : i < 24) (hb : h m = some (fnb 1600 g, t)) (hk : K (.tuple #[]) (hput h m (fnb 1600 (iotaB (constN i) g), t))) : CallX Hval.prog 334 [.pointer (some ⟨m, 0, none⟩), .int .u8 i] h K := by
  refine CallX.of_xf T_ok Hval.func334 rfl (by kernel_rfl) (Nat.le_of_ble_eq_true rfl) ?_; conv => whnf
  refine const_ok hi ?_; conv => whnf
  refine LoopX.st T_ok Hval.func334 (σ := Nat) (fun s => [(0, .pointer (some ⟨m, 0, none⟩)), (4, .int .u64 (constN i)), (8, .int .i64 s)])
    (fun s h' => s ≤ 64 ∧ ∃ A, h' = hput h m (fnb 1600 A, t) ∧ ∀ j, A j = if j < s then (g j != (constN i).testBit j) else g j) (fun s => 64 - s) 0 ⟨rfl, rfl, rfl, trivial⟩ ⟨by omega, g, (hput_id hb).symm, fun j => by rw [if_neg (by omega)]⟩ ?_
  rintro z ρ h' ⟨hz, A, rfl, hI⟩ ih
  conv => whnf
  refine CondX.decI (fun hz5 => ?_) (fun hz5 => ?_) <;> conv => whnf
  · have hz5 : z < 64 := by omega
    refine DrawX.go T_ok hM Hval.func334 (tb := dr334) rfl (by kernel_rfl) ?_; conv => whnf
    repeat (refine Ob.mk (by first | decide | omega) ?_; conv => whnf)
    refine LoadX.fb (hput_same ..) z (by (try simp only [sz367, sz368, sz4]); omega) (by omega) ?_; conv => whnf
    repeat (refine Ob.mk (by first | decide | omega) ?_; conv => whnf)
    rw [bit64 hz5 (constN_lt i)]
    refine StoreX.fb (hput_same ..) z (by (try simp only [sz367, sz368, sz4]); omega) (by omega) ?_; conv => whnf
    rw [hput_hput]
    refine ih (z + 1) _ _ ⟨by omega, _, rfl, fun j => ?_⟩ (by omega) ⟨rfl, rfl, congrArg (Value.int .i64) (wsucc (by omega)), trivial⟩
    unfold updB
    by_cases e : j = z
    · subst e
      rw [if_pos rfl, if_pos (by omega), hI, if_neg (by omega)]
      rfl
    · rw [if_neg e, hI]
      by_cases q : j < z
      · rw [if_pos q, if_pos (by omega)]
      · rw [if_neg q, if_neg (by omega)]
  · have : z = 64 := by omega
    subst this
    rw [show fnb 1600 (iotaB (constN i) g) = fnb 1600 A from fnb_ext fun j hj => (hI j).symm] at hk
    exact RetX.same hk
end
end Go.Proofs.YgvalwGreat.X
