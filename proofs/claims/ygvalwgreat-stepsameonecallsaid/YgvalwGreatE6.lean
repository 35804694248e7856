import Derived.Test.YgvalwGreatE5
set_option linter.unusedVariables false
set_option linter.unusedSimpArgs false
namespace Go.Proofs.YgvalwGreat.X
open Go

/-- Limbs: their cells, their range, their value. -/
def ul (l : List Int) : List Value := l.map (Value.int .u64)
def isL (l : List Int) : Prop := ∀ d ∈ l, U d
def lv : List Int → Int
  | [] => 0
  | d :: l => d + 18446744073709551616 * lv l
theorem ul_len (l : List Int) : (ul l).length = l.length := by simp [ul]
theorem ones_ul : ∀ l : List Int, ones (ul l) = true
  | [] => rfl
  | _ :: l => ones_append (a := [_]) rfl (ones_ul l)
theorem lv_append (a b : List Int) : lv (a ++ b) = lv a + 18446744073709551616 ^ a.length * lv b := by
  induction a with
  | nil => simp [lv]
  | cons d a ih =>
    simp only [List.cons_append, lv, ih, List.length_cons, Int.pow_succ]
    rw [Int.mul_add, Int.add_assoc, Int.mul_comm (18446744073709551616 ^ a.length) 18446744073709551616, Int.mul_assoc]
theorem isL.cons {d : Int} {l : List Int} (h : isL (d :: l)) : U d ∧ isL l := ⟨h d (List.mem_cons_self ..), fun x hx => h x (List.mem_cons_of_mem _ hx)⟩
theorem isL.append {a b : List Int} (ha : isL a) (hb : isL b) : isL (a ++ b) := fun x hx => (List.mem_append.1 hx).elim (ha x) (hb x)
theorem lv_bd {l : List Int} (h : isL l) : 0 ≤ lv l ∧ lv l < 18446744073709551616 ^ l.length := by
  induction l with
  | nil => simp [lv]
  | cons d l ih =>
    obtain ⟨⟨h0, h1⟩, hl⟩ := h.cons
    have := ih hl
    simp only [lv, List.length_cons, Int.pow_succ]
    generalize (18446744073709551616 : Int) ^ l.length = B at *
    omega
theorem wc_ul {v : Int} (h0 : 0 ≤ v) (h1 : v < W) : ∃ l : List Int, l.length = 4 ∧ isL l ∧ lv l = v ∧ wc v = ul l := by
  obtain ⟨a0, a1, a2, a3, h0, h1, h2, h3, e, ew⟩ := limbs h0 h1
  refine ⟨[a0, a1, a2, a3], rfl, fun d hd => ?_, ?_, ew⟩
  · simp only [List.mem_cons, List.not_mem_nil, or_false] at hd
    rcases hd with rfl | rfl | rfl | rfl <;> assumption
  · rw [← e]; simp only [lv, wv]; omega
theorem ul_wc {l : List Int} (hl : l.length = 4) (hL : isL l) : ul l = wc (lv l) := by
  match l, hl with
  | [a, b, c, d], _ =>
    have h0 := hL a (by simp); have h1 := hL b (by simp); have h2 := hL c (by simp); have h3 := hL d (by simp)
    exact wc_eq h0 h1 h2 h3 (by simp only [lv, wv]; omega)
section
variable {h : Hp} {K : Value → Hp → Prop} {a b : Nat} {x y : Int}

theorem mul_row (x a0 a1 a2 a3 : Int) : x * wv a0 a1 a2 a3 = x * a0 + 18446744073709551616 * (x * a1) + 340282366920938463463374607431768211456 * (x * a2) + 6277101735386680763835789423207666416102355444464034512896 * (x * a3) := by
  unfold wv; grind
set_option maxHeartbeats 8000000 in
set_option maxRecDepth 100000 in
set_option maxHeartbeats 4000000 in
theorem row_ok {m : Nat} {c0 c1 c2 c3 : Int} {t : TypeId} (hx : U x) (hy0 : 0 ≤ y) (hy : y < W) (hb : h m = some (wc y, t)) (h0 : U c0) (h1 : U c1) (h2 : U c2) (h3 : U c3)
    (hk : ∀ r0 r1 r2 r3 r4 : Int, U r0 → U r1 → U r2 → U r3 → U r4 → wv r0 r1 r2 r3 + r4 * W = x * y + wv c0 c1 c2 c3 → K (.tuple #[.int .u64 r0, .int .u64 r1, .int .u64 r2, .int .u64 r3, .int .u64 r4]) h) :
    CallX Hval.prog 324 [.int .u64 x, .pointer (some ⟨m, 0, none⟩), .int .u64 c0, .int .u64 c1, .int .u64 c2, .int .u64 c3] h K := by
  obtain ⟨b0, b1, b2, b3, ⟨ub0, vb0⟩, ⟨ub1, vb1⟩, ⟨ub2, vb2⟩, ⟨ub3, vb3⟩, ey, ewy⟩ := limbs hy0 hy
  rw [ewy] at hb
  unfold U at hx h0 h1 h2 h3
  obtain ⟨hx, hx'⟩ := hx; obtain ⟨h0, h0'⟩ := h0; obtain ⟨h1, h1'⟩ := h1; obtain ⟨h2, h2'⟩ := h2; obtain ⟨h3, h3'⟩ := h3
  refine CallX.of_xf T_ok Hval.func324 rfl (by kernel_rfl) (Nat.le_of_ble_eq_true rfl) ?_; conv => whnf
  repeat' (first
    | (refine Ob.mk (by decide) ?_; conv => whnf)
    | (refine LoadX.of _ (ldV_blk hb rfl) ?_; conv => whnf)
    | (refine mul64_rel (by omega) (by omega) (by omega) (by omega) ?_; intro _ _ _ _ _ _ _; conv => whnf)
    | (refine add64_rel (by omega) (by omega) (by omega) (by omega) (by omega) (by omega) ?_; intro _ _ _ _ _ _ _; conv => whnf))
  have exy : x * y = x * b0 + 18446744073709551616 * (x * b1) + 340282366920938463463374607431768211456 * (x * b2) + 6277101735386680763835789423207666416102355444464034512896 * (x * b3) := by rw [← ey]; exact mul_row ..
  have hbx : x * b3 ≤ 18446744073709551615 * 18446744073709551615 := Int.mul_le_mul (by omega) (by omega) ub3 (by omega)
  have hXY : x * y ≤ 18446744073709551615 * (W - 1) := Int.mul_le_mul (by omega) (by omega) hy0 (by omega)
  refine RetX.same (hk _ _ _ _ _ ⟨by assumption, by assumption⟩ ⟨by assumption, by assumption⟩ ⟨by assumption, by assumption⟩ ⟨by assumption, by assumption⟩ (by rw [wrap_u64']; exact U_mod _) ?_)
  simp only [wrap_u64', Int.emod_add_emod]
  rw [exy]
  rw [exy] at hXY
  clear exy ey ewy hk hb hy
  generalize x * b0 = p0 at *
  generalize x * b1 = p1 at *
  generalize x * b2 = p2 at *
  generalize x * b3 = p3 at *
  unfold wv
  rw [W_val] at *
  omega
end
end Go.Proofs.YgvalwGreat.X
