import Derived.Test.YgvalwGreatTy
import Derived.Laws.Externs
set_option linter.unusedVariables false
set_option linter.unusedSimpArgs false
namespace Go.Proofs.YgvalwGreat.X
open Go

theorem wrap_u64 (x : Int) : IntKind.u64.wrap x = x % 18446744073709551616 := by
  simp [IntKind.wrap, IntKind.signed, IntKind.bits]

set_option maxRecDepth 100000 in
theorem words_ok {h : Hp} {K : Value → Hp → Prop} {n : Int} (h0 : 0 ≤ n) (h1 : n < 18446744073709551616) (hk : K (.int .u64 ((n + 31) / 32)) h) :
    CallX Hval.prog 151 [.int .u64 n] h K := by
  refine CallX.of_xf T_ok Hval.func151 rfl (by kernel_rfl) (Nat.le_of_ble_eq_true rfl) ?_
  conv => whnf
  repeat' (first
    | (refine Ob.mk (by decide) ?_; conv => whnf)
    | (refine CondX.mk (fun hb => ?_) (fun hb => ?_) <;> conv => whnf))
  · simp only [wrap_u64, bne_iff_ne, ne_eq] at hb ⊢
    rw [Int.tmod_eq_emod_of_nonneg h0] at hb
    rw [Int.tdiv_eq_ediv_of_nonneg h0]
    have : ((n / 32) % 18446744073709551616 + 1) % 18446744073709551616 = (n + 31) / 32 := by omega
    rw [this]; exact RetX.same hk
  · simp only [wrap_u64, bne_eq_false_iff_eq] at hb ⊢
    rw [Int.tmod_eq_emod_of_nonneg h0] at hb
    rw [Int.tdiv_eq_ediv_of_nonneg h0]
    have : (n / 32) % 18446744073709551616 = (n + 31) / 32 := by omega
    rw [this]; exact RetX.same hk

set_option maxRecDepth 100000 in
theorem bitsAdd64_ok {h : Hp} {K : Value → Hp → Prop} {x y c : Int} (hx : 0 ≤ x) (hy : 0 ≤ y) (hc0 : 0 ≤ c) (hc : c ≤ 1)
    (hk : K (.tuple #[.int .u64 ((x + y + c) % 18446744073709551616), .int .u64 ((x + y + c) / 18446744073709551616)]) h) :
    CallX Hval.prog 225 [.int .u64 x, .int .u64 y, .int .u64 c] h K := by
  refine ⟨fun w hs => ?_⟩
  obtain ⟨x, rfl⟩ := Int.eq_ofNat_of_zero_le hx
  obtain ⟨y, rfl⟩ := Int.eq_ofNat_of_zero_le hy
  obtain ⟨c, rfl⟩ := Int.eq_ofNat_of_zero_le hc0
  have hr : (callFunc 225 [.int .u64 (x : Int), .int .u64 (y : Int), .int .u64 (c : Int)].toArray).run Hval.prog w = .ok (.value (.tuple #[.int .u64 (((x : Int) + y + c) % 18446744073709551616), .int .u64 (((x : Int) + y + c) / 18446744073709551616)])) w := by
    rw [run_callFunc_extern Hval.func225 (by kernel_rfl) (by kernel_rfl) (by kernel_rfl) (e := add64Entry) (by kernel_rfl)]
    have := run_add64 (P := Hval.prog) (w := w) x y c (by omega) (by omega) (by omega) (by omega)
    rw [this]
    simp only [Result.andThen]
  rw [hr]
  exact ⟨h, hk, hs, Fr.refl _ _⟩
def sub64Entry : Array Value → Sem Value := fun args => do
  let (x, y, b) ← Extern.MathBitsCarry.three "Sub64" args
  pure (Extern.MathBitsCarry.pair ((x + Extern.MathBitsCarry.m64 - y - b) % Extern.MathBitsCarry.m64) (if x < y + b then 1 else 0))
theorem run_sub64 {P : Program} (x y b : Nat) (hb : b ≤ 1) (w : World) :
    (sub64Entry #[.int .u64 x, .int .u64 y, .int .u64 b]).run P w =
      .ok (.tuple #[.int .u64 (((x + 18446744073709551616 - y - b) % 18446744073709551616 : Nat) : Int), .int .u64 ((if x < y + b then 1 else 0 : Nat) : Int)]) w := by
  have : b = 0 ∨ b = 1 := by omega
  rcases this with rfl | rfl <;> rfl

/-- A borrow. -/
def bor (x y : Int) : Int := if x < y then 1 else 0
theorem bor_01 (x y : Int) : 0 ≤ bor x y ∧ bor x y ≤ 1 := by unfold bor; split <;> omega

set_option maxRecDepth 100000 in
theorem bitsSub64_ok {h : Hp} {K : Value → Hp → Prop} {x y c : Int} (hx : 0 ≤ x) (hy : 0 ≤ y) (hy1 : y < 18446744073709551616) (hc0 : 0 ≤ c) (hc : c ≤ 1)
    (hk : K (.tuple #[.int .u64 ((x - y - c) % 18446744073709551616), .int .u64 (bor x (y + c))]) h) :
    CallX Hval.prog 326 [.int .u64 x, .int .u64 y, .int .u64 c] h K := by
  refine ⟨fun w hs => ?_⟩
  obtain ⟨x, rfl⟩ := Int.eq_ofNat_of_zero_le hx
  obtain ⟨y, rfl⟩ := Int.eq_ofNat_of_zero_le hy
  obtain ⟨c, rfl⟩ := Int.eq_ofNat_of_zero_le hc0
  have hr : (callFunc 326 [.int .u64 (x : Int), .int .u64 (y : Int), .int .u64 (c : Int)].toArray).run Hval.prog w = .ok (.value (.tuple #[.int .u64 (((x : Int) - y - c) % 18446744073709551616), .int .u64 (bor (x : Int) (y + c))])) w := by
    rw [run_callFunc_extern Hval.func326 (by kernel_rfl) (by kernel_rfl) (by kernel_rfl) (e := sub64Entry) (by kernel_rfl)]
    have := run_sub64 (P := Hval.prog) x y c (by omega) w
    rw [this]
    simp only [Result.andThen]
    have e1 : (((x + 18446744073709551616 - y - c) % 18446744073709551616 : Nat) : Int) = ((x : Int) - y - c) % 18446744073709551616 := by omega
    have e2 : ((if x < y + c then 1 else 0 : Nat) : Int) = bor (x : Int) (y + c) := by unfold bor; split <;> split <;> omega
    rw [e1, e2]
  rw [hr]
  exact ⟨h, hk, hs, Fr.refl _ _⟩

set_option maxRecDepth 100000 in
theorem add64_ok {h : Hp} {K : Value → Hp → Prop} {x y c : Int} (hx : 0 ≤ x) (hy : 0 ≤ y) (hc0 : 0 ≤ c) (hc : c ≤ 1)
    (hk : K (.tuple #[.int .u64 ((x + y + c) % 18446744073709551616), .int .u64 ((x + y + c) / 18446744073709551616)]) h) :
    CallX Hval.prog 153 [.int .u64 x, .int .u64 y, .int .u64 c] h K := by
  refine CallX.of_xf T_ok Hval.func153 rfl (by kernel_rfl) (Nat.le_of_ble_eq_true rfl) ?_
  conv => whnf
  refine bitsAdd64_ok hx hy hc0 hc ?_
  conv => whnf
  exact RetX.same hk

set_option maxRecDepth 100000 in
theorem sub64_ok {h : Hp} {K : Value → Hp → Prop} {x y c : Int} (hx : 0 ≤ x) (hy : 0 ≤ y) (hy1 : y < 18446744073709551616) (hc0 : 0 ≤ c) (hc : c ≤ 1)
    (hk : K (.tuple #[.int .u64 ((x - y - c) % 18446744073709551616), .int .u64 (bor x (y + c))]) h) :
    CallX Hval.prog 226 [.int .u64 x, .int .u64 y, .int .u64 c] h K := by
  refine CallX.of_xf T_ok Hval.func226 rfl (by kernel_rfl) (Nat.le_of_ble_eq_true rfl) ?_
  conv => whnf
  refine bitsSub64_ok hx hy hy1 hc0 hc ?_
  conv => whnf
  exact RetX.same hk

/-- A word by its value. -/
def encW (v : Int) : Value := .agg #[.int .u64 (v % 18446744073709551616), .int .u64 (v / 18446744073709551616 % 18446744073709551616), .int .u64 (v / 340282366920938463463374607431768211456 % 18446744073709551616), .int .u64 (v / 6277101735386680763835789423207666416102355444464034512896 % 18446744073709551616)]
def wv (a0 a1 a2 a3 : Int) : Int := a0 + a1 * 18446744073709551616 + a2 * 340282366920938463463374607431768211456 + a3 * 6277101735386680763835789423207666416102355444464034512896
theorem encW_eq {v l0 l1 l2 l3 : Int} (h0 : 0 ≤ l0) (h0' : l0 < 18446744073709551616) (h1 : 0 ≤ l1) (h1' : l1 < 18446744073709551616) (h2 : 0 ≤ l2) (h2' : l2 < 18446744073709551616) (h3 : 0 ≤ l3) (h3' : l3 < 18446744073709551616)
    (hv : wv l0 l1 l2 l3 = v) : Value.agg #[.int .u64 l0, .int .u64 l1, .int .u64 l2, .int .u64 l3] = encW v := by
  unfold wv at hv
  unfold encW
  have e0 : l0 = v % 18446744073709551616 := by omega
  have e1 : l1 = v / 18446744073709551616 % 18446744073709551616 := by omega
  have e2 : l2 = v / 340282366920938463463374607431768211456 % 18446744073709551616 := by omega
  have e3 : l3 = v / 6277101735386680763835789423207666416102355444464034512896 % 18446744073709551616 := by omega
  rw [← e0, ← e1, ← e2, ← e3]
theorem tup2 {a b c d : Value} (h1 : a = c) (h2 : b = d) : Value.tuple #[a, b] = Value.tuple #[c, d] := by rw [h1, h2]
def U (x : Int) : Prop := 0 ≤ x ∧ x < 18446744073709551616

set_option maxHeartbeats 1000000 in
set_option maxRecDepth 100000 in
theorem addOver_ok {h : Hp} {K : Value → Hp → Prop} {a0 a1 a2 a3 b0 b1 b2 b3 : Int} (ha0 : U a0) (ha1 : U a1) (ha2 : U a2) (ha3 : U a3) (hb0 : U b0) (hb1 : U b1) (hb2 : U b2) (hb3 : U b3)
    (hk : K (.tuple #[encW ((wv a0 a1 a2 a3 + wv b0 b1 b2 b3) % 115792089237316195423570985008687907853269984665640564039457584007913129639936), .bool (decide (115792089237316195423570985008687907853269984665640564039457584007913129639936 ≤ wv a0 a1 a2 a3 + wv b0 b1 b2 b3))]) h) :
    CallX Hval.prog 146 [.agg #[.int .u64 a0, .int .u64 a1, .int .u64 a2, .int .u64 a3], .agg #[.int .u64 b0, .int .u64 b1, .int .u64 b2, .int .u64 b3]] h K := by
  obtain ⟨ha0, ha0'⟩ := ha0; obtain ⟨ha1, ha1'⟩ := ha1; obtain ⟨ha2, ha2'⟩ := ha2; obtain ⟨ha3, ha3'⟩ := ha3
  obtain ⟨hb0, hb0'⟩ := hb0; obtain ⟨hb1, hb1'⟩ := hb1; obtain ⟨hb2, hb2'⟩ := hb2; obtain ⟨hb3, hb3'⟩ := hb3
  refine CallX.of_xf T_ok Hval.func146 rfl (by kernel_rfl) (Nat.le_of_ble_eq_true rfl) ?_
  conv => whnf
  refine BoxX.mk fun n1 hn1 => ?_
  conv => whnf
  repeat' (first
    | (refine Ob.mk (by first | decide | exact ⟨rfl, rfl⟩) ?_; conv => whnf)
    | (refine BoxX.on fun n hn hbd => ?_; conv => whnf)
    | (refine LoadX.of _ (by (repeat (refine (ldV_ne (by omega)).trans ?_)); exact (ldV_same _ _ _ _ _ _ _).trans rfl) ?_; conv => whnf)
    | (refine add64_ok (by omega) (by omega) (by omega) (by omega) ?_; conv => whnf)
    | (refine StoreX.same (Nat.le_of_ble_eq_true rfl) ?_; conv => whnf))
  refine RetX.drop (h' := h) (by intro b x hb; have hlt := hn1 b x hb; (repeat (rw [hput_ne (by omega)])); exact hb) ?_
  refine cast (congrArg (fun v => K v h) ?_) hk
  refine (tup2 (encW_eq (by omega) (by omega) (by omega) (by omega) (by omega) (by omega) (by omega) (by omega) ?_) ?_).symm
  · unfold wv; omega
  · congr 1; unfold wv; rw [Bool.eq_iff_iff]; simp only [bne_iff_ne, ne_eq, decide_eq_true_eq]; omega
end Go.Proofs.YgvalwGreat.X
