import Derived.Test.YgvalwGreatE20
set_option linter.unusedVariables false
set_option linter.unusedSimpArgs false
namespace Go.Proofs.YgvalwGreat.X
open Go

section
variable {h : Hp} {K : Value → Hp → Prop} {l lu lV : List Int} {mx mu mv n j : Nat} {tx tu tv : TypeId}
set_option maxRecDepth 100000 in
set_option maxHeartbeats 4000000 in
theorem short_ok {top y : Nat} (hb : h mx = some (ul l, tx)) (hl : l.length = 8) (hL : isL l) (htop : top ≤ 8) (hz : ∀ i, top ≤ i → l.getD i 0 = 0) (hy0 : 0 < y) (hy : y < 18446744073709551616)
    (hk : ∀ (l' : List Int) (r : Nat), l'.length = 8 → isL l' → r < y → lv l = lv l' * y + r → K (.int .u64 r) (hput h mx (ul l', tx))) : CallX Hval.prog 387 [.pointer (some ⟨mx, 0, none⟩), .int .u8 top, .int .u64 y] h K := by
  refine CallX.of_xf T_ok Hval.func387 rfl (by kernel_rfl) (Nat.le_of_ble_eq_true rfl) ?_; conv => whnf
  refine LoopX.st T_ok Hval.func387 (σ := Nat × List Int × Nat) (fun z => [(0, .pointer (some ⟨mx, 0, none⟩)), (2, .int .u64 y), (7, .int .u64 z.2.2), (8, .int .u8 z.1)])
    (fun z h' => z.1 ≤ 8 ∧ h' = hput h mx (ul (l.take z.1 ++ z.2.1), tx) ∧ z.2.1.length = 8 - z.1 ∧ isL z.2.1 ∧ z.2.2 < y ∧ lv (l.drop z.1) = lv z.2.1 * y + z.2.2) (fun z => z.1) (top, l.drop top, 0)
    ⟨rfl, rfl, rfl, rfl, trivial⟩ ⟨htop, ?_, by simp [hl], fun d hd => hL d (List.mem_of_mem_drop hd), hy0, ?_⟩ ?_
  · dsimp only
    rw [List.take_append_drop]; exact (hput_id hb).symm
  · dsimp only
    rw [lv_zeros (l := l.drop top) fun i => by rw [List.getD_eq_getElem?_getD, List.getElem?_drop, ← List.getD_eq_getElem?_getD]; exact hz _ (by omega)]
    simp
  rintro ⟨i, D, r⟩ ρ h' ⟨hi, rfl, hD, hLD, hr, hI⟩ ih
  dsimp only at hi hD hLD hr hI ⊢
  conv => whnf
  refine CondX.decI (fun hc => ?_) (fun hc => ?_) <;> conv => whnf
  · have e4 : IntKind.u8.wrap (((i : Nat) : Int) - 1) = ((i - 1 : Nat) : Int) := by rw [wrap_u8]; omega
    have hb1 : hput h mx (ul (l.take i ++ D), tx) mx = some ([] ++ (ul (l.take i ++ D) ++ []), tx) := by rw [hput_same]; simp
    have hlen : (l.take i ++ D).length = 8 := by simp; omega
    have hg : (l.take i ++ D).getD (i - 1) 0 = l.getD (i - 1) 0 := by
      rw [List.getD_eq_getElem?_getD, List.getElem?_append_left (by simp; omega), List.getElem?_take_of_lt (by omega), ← List.getD_eq_getElem?_getD]
    obtain ⟨x, hx⟩ := Int.eq_ofNat_of_zero_le (hL.get (i - 1)).1
    have hx1 := (hL.get (i - 1)).2
    rw [hx] at hx1
    rw [e4]
    refine Ob.mk (by omega) ?_; conv => whnf
    refine LoadX.lim hb1 (i - 1) (by rw [Int.toNat_natCast, show (24, y24).snd.size = 1 from rfl, Nat.mul_one]; simp) (by omega) ?_; conv => whnf
    rw [hg, hx]
    refine nDiv64_ok (by omega) (by omega) hy (fun hge => by omega) fun hlt => ?_; conv => whnf
    have hq : (r * 18446744073709551616 + x) / y < 18446744073709551616 := (Nat.div_lt_iff_lt_mul hy0).2 (by
      have := Nat.mul_le_mul_right 18446744073709551616 (show r + 1 ≤ y from hlt)
      rw [Nat.add_mul, Nat.one_mul, Nat.mul_comm y] at this
      omega)
    have hdm := Nat.div_add_mod (r * 18446744073709551616 + x) y
    have hrm := Nat.mod_lt (r * 18446744073709551616 + x) hy0
    generalize (r * 18446744073709551616 + x) / y = q at *
    generalize (r * 18446744073709551616 + x) % y = r2 at *
    rw [e4]
    refine Ob.mk (by omega) ?_; conv => whnf
    refine StoreX.lim hb1 (i - 1) (by rw [Int.toNat_natCast, show (24, y24).snd.size = 1 from rfl, Nat.mul_one]; simp) (by omega) ?_; conv => whnf
    rw [hput_hput, List.nil_append, List.append_nil]
    have htk : l.take i = l.take (i - 1) ++ [(x : Int)] := by
      rw [show i = (i - 1) + 1 by omega, List.take_succ_eq_append_getElem (by omega)]
      congr 2
      rw [← hx, List.getD_eq_getElem?_getD, List.getElem?_eq_getElem (by omega)]; rfl
    have hdr : l.drop (i - 1) = (x : Int) :: l.drop i := by
      rw [List.drop_eq_getElem_cons (by omega), show i - 1 + 1 = i by omega]
      congr 1
      rw [← hx, List.getD_eq_getElem?_getD, List.getElem?_eq_getElem (by omega)]; rfl
    refine ih (i - 1, (q : Int) :: D, r2) _ _ ⟨by dsimp only; omega, ?_, by simp [hD]; omega, fun d hd => ?_, hrm, ?_⟩ (by dsimp only; omega) ⟨rfl, rfl, rfl, congrArg (Value.int .u8) e4, trivial⟩
    · dsimp only
      congr 3
      rw [htk, List.set_append_left _ _ (by simp; omega), List.set_append_right _ _ (by simp; omega)]
      simp
      rw [show i - 1 - min (i - 1) l.length = 0 by omega]
      rfl
    · rcases List.mem_cons.1 hd with rfl | hd
      · exact ⟨by omega, by omega⟩
      · exact hLD d hd
    · dsimp only
      rw [hdr, lv, lv, hI]
      have hdm2 : (y : Int) * q + r2 = r * 18446744073709551616 + x := by
        have := congrArg (Nat.cast (R := Int)) hdm
        simp only [Int.natCast_add, Int.natCast_mul] at this
        exact this
      clear hdm hdr htk ih hk hb1 hg hq
      grind
  · have hi0 : i = 0 := by omega
    subst hi0
    rw [List.take_zero, List.nil_append]
    rw [List.drop_zero] at hI
    exact RetX.same (hk D r (by omega) hLD hr hI)
set_option maxRecDepth 100000 in
set_option maxHeartbeats 4000000 in
theorem divMid_ok (hu : h mu = some (ul lu, tu)) (hv : h mv = some (ul lV, tv)) (hLu : isL lu) (hLv : isL lV) (hnu : lu.length = 9) (hnv : lV.length = 4) (hn : 2 ≤ n) (hn4 : n ≤ 4) (hj : j + n ≤ 8) (hV : Used lV n) (htop : 9223372036854775808 ≤ lV.getD (n - 1) 0) (hz : ∀ i, j + n + 1 ≤ i → i < 9 → lu.getD i 0 = 0)
    (hlt : lv ((lu.drop (j + 1)).take n) < lv (lV.take n)) (hk : K (.bool true) h) :
    CallX Hval.prog 394 [.pointer (some ⟨mu, 0, none⟩), .pointer (some ⟨mv, 0, none⟩), .int .u8 n, .int .u8 j] h K := by
  refine CallX.of_xf T_ok Hval.func394 rfl (by kernel_rfl) (Nat.le_of_ble_eq_true rfl) ?_; conv => whnf
  repeat (first | (refine CondX.tt ?_; conv => whnf) | (refine CondX.ff ?_; conv => whnf))
  refine CondX.dF (by omega) ?_; conv => whnf
  repeat (first | (refine CondX.tt ?_; conv => whnf) | (refine CondX.ff ?_; conv => whnf))
  refine CondX.dF (by omega) ?_; conv => whnf
  repeat (first | (refine CondX.tt ?_; conv => whnf) | (refine CondX.ff ?_; conv => whnf))
  have e1 : IntKind.u8.wrap (8 - ((n : Nat) : Int)) = ((8 - n : Nat) : Int) := by rw [wrap_u8]; omega
  rw [e1]
  refine CondX.dF (by omega) ?_; conv => whnf
  repeat (first | (refine CondX.tt ?_; conv => whnf) | (refine CondX.ff ?_; conv => whnf))
  refine LoadX.all (c := ul lV) hv (by rw [ul_len, hnv]; rfl) ?_; conv => whnf
  repeat (first | (refine CondX.tt ?_; conv => whnf) | (refine CondX.ff ?_; conv => whnf))
  refine eLimbs_ok hnv fun n2 hu2 => ?_; conv => whnf
  repeat (first | (refine CondX.tt ?_; conv => whnf) | (refine CondX.ff ?_; conv => whnf))
  have hnn : n2 = n := by
    have a1 := hu2.top; have a2 := hV.top
    rcases Nat.lt_trichotomy n2 n with hh | hh | hh
    · exact absurd (hu2.zero (n - 1) (by omega)) (a2 (by omega))
    · exact hh
    · exact absurd (hV.zero (n2 - 1) (by omega)) (a1 (by omega))
  subst hnn
  refine CondX.neI (fun hh => absurd rfl hh) fun _ => ?_
  conv => whnf
  refine DrawX.go T_ok hM Hval.func394 (tb := dr394) rfl (by kernel_rfl) ?_; conv => whnf
  refine midHolds_ok (tu := tu) (tv := tv) (capu := 9) (capv := 4) (preU := []) (postU := []) (preV := []) (postV := []) (Nu := 9) (Nv := 4) (by rw [hu]; simp) (by rw [hv]; simp) hLu hLv hnu hnv (by omega) hn4 (by omega) (by omega) htop hz hlt ?_; conv => whnf
  exact RetX.same hk
end
end Go.Proofs.YgvalwGreat.X
