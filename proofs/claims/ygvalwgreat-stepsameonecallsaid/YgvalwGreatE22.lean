import Derived.Test.YgvalwGreatE21
set_option linter.unusedVariables false
set_option linter.unusedSimpArgs false
namespace Go.Proofs.YgvalwGreat.X
open Go

section
variable {h : Hp} {K : Value → Hp → Prop} {lu lV : List Int} {mu mv n j : Nat} {tu tv : TypeId}
set_option maxRecDepth 100000 in
set_option maxHeartbeats 4000000 in
theorem eRound_ok (hu : h mu = some (ul lu, tu)) (hv : h mv = some (ul lV, tv)) (hne : mu ≠ mv) (hLu : isL lu) (hLv : isL lV) (hnu : lu.length = 9) (hnv : lV.length = 4) (hn : 2 ≤ n) (hn4 : n ≤ 4) (hj : j + n ≤ 8) (hV : Used lV n) (htop : 9223372036854775808 ≤ lV.getD (n - 1) 0) (hz : ∀ i, j + n + 1 ≤ i → i < 9 → lu.getD i 0 = 0)
    (hlt : lv ((lu.drop (j + 1)).take n) < lv (lV.take n))
    (hk : ∀ (q : Nat) (l' : List Int) (f : Int) (bk : Bool), q < 18446744073709551616 → l'.length = n + 1 → isL l' → lv ((lu.drop j).take (n + 1)) = q * lv (lV.take n) + lv l' → lv l' < lv (lV.take n) → K (.tuple #[.int .u64 q, .int .u8 f, .bool bk]) (hput h mu (ul (lu.take j ++ (l' ++ lu.drop (j + n + 1))), tu))) :
    CallX Hval.prog 388 [.pointer (some ⟨mu, 0, none⟩), .pointer (some ⟨mv, 0, none⟩), .int .u8 n, .int .u8 j] h K := by
  refine CallX.of_xf T_ok Hval.func388 rfl (by kernel_rfl) (Nat.le_of_ble_eq_true rfl) ?_; conv => whnf
  refine divMid_ok hu hv hLu hLv hnu hnv hn hn4 hj hV htop hz hlt ?_; conv => whnf
  repeat (first | (refine CondX.tt ?_; conv => whnf) | (refine CondX.ff ?_; conv => whnf))
  have e1 : IntKind.u8.wrap (IntKind.u8.wrap (((j : Nat) : Int) + ((n : Nat) : Int)) + 1) = ((j + n + 1 : Nat) : Int) := by rw [wrap_u8, wrap_u8]; omega
  refine DrawX.go T_ok hM Hval.func388 (tb := dr388) rfl (by kernel_rfl) ?_; conv => whnf
  rw [e1]
  refine Ob.mk (by omega) ?_; conv => whnf
  refine Ob.mk (by omega) ?_; conv => whnf
  obtain ⟨p, rfl⟩ : ∃ p, n = p + 2 := ⟨n - 2, by omega⟩
  have q1 : soff 0 (((j : Nat) : Int)).toNat (((j + (p + 2) + 1 : Nat) : Int)).toNat (24, y24).snd.size = (ul (lu.take j)).length := by
    rw [Int.toNat_natCast, Int.toNat_natCast, ul_len, List.length_take, Nat.min_eq_left (by omega)]
    unfold soff
    rw [if_neg (by omega), show (24, y24).snd.size = 1 from rfl]; omega
  have q2 : (((j + (p + 2) + 1 : Nat) : Int)).toNat - (((j : Nat) : Int)).toNat = p + 3 := by rw [Int.toNat_natCast, Int.toNat_natCast]; omega
  have q3 : soff 0 0 (((p + 2 : Nat) : Int)).toNat (24, y24).snd.size = ([] : List Value).length := by
    unfold soff
    rw [Int.toNat_natCast, if_neg (by omega)]; simp
  have q4 : (((p + 2 : Nat) : Int)).toNat - 0 = p + 2 := by rw [Int.toNat_natCast]; rfl
  rw [q1, q2, q3, q4]
  have hus : ul lu = ul (lu.take j) ++ (ul ((lu.drop j).take (p + 3)) ++ ul (lu.drop (j + (p + 2) + 1))) := by
    unfold ul
    rw [← List.map_append, ← List.map_append]
    congr 1
    rw [show j + (p + 2) + 1 = j + (p + 3) by omega, ← List.drop_drop, List.take_append_drop, List.take_append_drop]
  have hvs : ul lV = [] ++ (ul (lV.take (p + 2)) ++ ul (lV.drop (p + 2))) := by
    unfold ul
    rw [List.nil_append, ← List.map_append, List.take_append_drop]
  have hu' := hu
  have hv' := hv
  rw [hus] at hu'
  rw [hvs] at hv'
  have hA : isL ((lu.drop j).take (p + 3)) := fun x hx => hLu x (List.mem_of_mem_drop (List.mem_of_mem_take hx))
  have hB : isL (lV.take (p + 2)) := fun x hx => hLv x (List.mem_of_mem_take hx)
  have hAl : ((lu.drop j).take (p + 3)).length = p + 3 := by simp; omega
  have hBl : (lV.take (p + 2)).length = p + 2 := by simp; omega
  have hBg : (lV.take (p + 2)).getD (p + 1) 0 = lV.getD (p + 1) 0 := by
    rw [List.getD_eq_getElem?_getD, List.getElem?_take_of_lt (by omega), ← List.getD_eq_getElem?_getD]
  refine round_ok hu' hv' hne hA hB hAl hBl (by omega) (by rw [hBg]; exact htop) ?_ fun q l' f bk hq hl' hLl' ee el => ?_
  · have e : (lu.drop j).take (p + 3) = lu.getD j 0 :: (lu.drop (j + 1)).take (p + 2) := by
      rw [List.drop_eq_getElem_cons (by omega), List.take_succ_cons, List.getD_eq_getElem?_getD, List.getElem?_eq_getElem (by omega)]; rfl
    have := hLu.get j
    rw [e, lv]
    unfold U at this
    generalize lv ((lu.drop (j + 1)).take (p + 2)) = a at *
    generalize lv (lV.take (p + 2)) = b at *
    omega
  · conv => whnf
    have hfu : ul (lu.take j) ++ (ul l' ++ ul (lu.drop (j + (p + 2) + 1))) = ul (lu.take j ++ (l' ++ lu.drop (j + (p + 2) + 1))) := by unfold ul; rw [List.map_append, List.map_append]
    rw [hfu]
    exact RetX.same (hk q l' f bk hq hl' hLl' ee el)
end
end Go.Proofs.YgvalwGreat.X
