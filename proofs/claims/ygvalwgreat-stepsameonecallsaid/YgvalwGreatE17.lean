import Derived.Test.YgvalwGreatE16
set_option linter.unusedVariables false
set_option linter.unusedSimpArgs false
namespace Go.Proofs.YgvalwGreat.X
open Go

theorem lv_take_succ {l : List Int} {k : Nat} (hk : k < l.length) : lv (l.take (k + 1)) = lv (l.take k) + 18446744073709551616 ^ k * l.getD k 0 := by
  rw [List.take_succ_eq_append_getElem hk, lv_append, List.length_take, Nat.min_eq_left (by omega), List.getD_eq_getElem?_getD, List.getElem?_eq_getElem hk]
  simp [lv]
theorem lv_snoc (A : List Int) (d : Int) : lv (A ++ [d]) = lv A + 18446744073709551616 ^ A.length * d := by rw [lv_append]; simp [lv]
theorem getD_app {A l : List Int} {k : Nat} (hA : A.length = k) : (A ++ l.drop k).getD k 0 = l.getD k 0 := by
  rw [List.getD_eq_getElem?_getD, List.getElem?_append_right (by omega), hA, Nat.sub_self, List.getElem?_drop, Nat.add_zero, ← List.getD_eq_getElem?_getD]
theorem set_app {A l : List Int} {k : Nat} {d : Int} (hA : A.length = k) (hk : k < l.length) : (A ++ l.drop k).set k d = (A ++ [d]) ++ l.drop (k + 1) := by
  rw [List.set_append_right _ _ (by omega), hA, Nat.sub_self, List.drop_eq_getElem_cons hk, List.set_cons_zero, List.append_assoc]
  rfl
theorem isL_snoc {A : List Int} {d : Int} (hA : isL A) (hd : U d) : isL (A ++ [d]) := hA.append fun x hx => by rw [List.mem_singleton.1 hx]; exact hd
section
variable {h : Hp} {K : Value → Hp → Prop} {preU postU preV postV : List Value} {lu lV : List Int} {mu mv n capu capv : Nat} {tu tv : TypeId} {q : Int}
set_option maxRecDepth 100000 in
set_option maxHeartbeats 4000000 in
theorem takeTimes_ok (hu : h mu = some (preU ++ (ul lu ++ postU), tu)) (hv : h mv = some (preV ++ (ul lV ++ postV), tv)) (hne : mu ≠ mv) (hLu : isL lu) (hLv : isL lV) (hnu : lu.length = n + 1) (hnv : lV.length = n) (hn : n < 2 ^ 30) (hq : U q)
    (hk : ∀ (l' : List Int) (b : Int), l'.length = n + 1 → isL l' → (b = 0 ∨ b = 1) → lv l' = lv lu - q * lv lV + b * 18446744073709551616 ^ (n + 1) → K (.bool (b != 0)) (hput h mu (preU ++ (ul l' ++ postU), tu))) :
    CallX Hval.prog 392 [.slice (some ⟨mu, preU.length, none⟩) (n + 1) capu, .slice (some ⟨mv, preV.length, none⟩) n capv, .int .u64 q] h K := by
  refine CallX.of_xf T_ok Hval.func392 rfl (by kernel_rfl) (Nat.le_of_ble_eq_true rfl) ?_; conv => whnf
  refine LoopX.st T_ok Hval.func392 (σ := Nat × List Int × Int × Int) (fun z => [(0, .slice (some ⟨mu, preU.length, none⟩) (n + 1) capu), (1, .slice (some ⟨mv, preV.length, none⟩) n capv), (2, .int .u64 q), (7, .int .u64 z.2.2.1), (8, .int .u64 z.2.2.2), (17, .slice (some ⟨mv, preV.length, none⟩) n capv), (18, .int .i64 n), (19, .int .i64 z.1)])
    (fun z h' => z.1 ≤ n ∧ h' = hput h mu (preU ++ (ul (z.2.1 ++ lu.drop z.1) ++ postU), tu) ∧ z.2.1.length = z.1 ∧ isL z.2.1 ∧ U z.2.2.1 ∧ (0 ≤ z.2.2.2 ∧ z.2.2.2 ≤ 1) ∧ lv (lu.take z.1) - q * lv (lV.take z.1) = lv z.2.1 - (z.2.2.1 + z.2.2.2) * 18446744073709551616 ^ z.1) (fun z => n - z.1) (0, [], 0, 0)
    ⟨rfl, rfl, rfl, rfl, rfl, rfl, rfl, rfl, trivial⟩ ⟨Nat.zero_le _, (hput_id hu).symm, rfl, fun d hd => (by cases hd), ⟨by decide, by decide⟩, ⟨by decide, by decide⟩, by simp [lv]⟩ ?_
  rintro ⟨k, A, c, b⟩ ρ h' ⟨hk1, rfl, hA, hLA, hc, hb, hI⟩ ih
  dsimp only at hk1 hA hLA hc hb hI ⊢
  conv => whnf
  have hu1 := hput_same h mu (preU ++ (ul (A ++ lu.drop k) ++ postU), tu)
  have hv1 : hput h mu (preU ++ (ul (A ++ lu.drop k) ++ postU), tu) mv = some (preV ++ (ul lV ++ postV), tv) := by rw [hput_ne (Ne.symm hne)]; exact hv
  have hgu := getD_app (l := lu) hA
  refine CondX.decI (fun hlt => ?_) (fun hlt => ?_) <;> conv => whnf
  · have hlt : k < n := by omega
    refine IdxX.at (by omega) (by omega) ?_; conv => whnf
    refine LoadX.lim hv1 k (by simp [show y24.size = 1 from rfl]) (by omega) ?_; conv => whnf
    have hx := hLv.get k
    refine mulAdd_ok hq hx hc (by unfold U; omega) fun lo hi hlo hhi e1 => ?_; conv => whnf
    refine IdxX.at (by omega) (by omega) ?_; conv => whnf
    refine LoadX.lim hu1 k (by simp [show y24.size = 1 from rfl]) (by simp; omega) ?_; conv => whnf
    rw [hgu]
    have hy := hLu.get k
    refine sub64_rel hy.1 hy.2 hlo.1 hlo.2 hb.1 hb.2 fun d b2 hd0 hd1 hb0 hb1 e2 => ?_; conv => whnf
    refine IdxX.at (by omega) (by omega) ?_; conv => whnf
    refine StoreX.lim hu1 k (by simp [show y24.size = 1 from rfl]) (by simp; omega) ?_; conv => whnf
    rw [hput_hput, set_app hA (by omega)]
    refine ih (k + 1, A ++ [d], hi, b2) _ _ ⟨by dsimp only; omega, rfl, by simp [hA], isL_snoc hLA ⟨hd0, hd1⟩, hhi, ⟨hb0, hb1⟩, ?_⟩ (by dsimp only; omega) ⟨rfl, rfl, rfl, rfl, rfl, rfl, rfl, congrArg (Value.int .i64) (wsucc (by omega)), trivial⟩
    dsimp only
    rw [lv_take_succ (by omega), lv_take_succ (by omega), lv_snoc, hA, Int.pow_succ]
    generalize lu.getD k 0 = y at *
    generalize lV.getD k 0 = x at *
    generalize (18446744073709551616 : Int) ^ k = P at *
    generalize lv (lu.take k) = a1 at *
    generalize lv (lV.take k) = a2 at *
    generalize lv A = a3 at *
    clear ih hk hu1 hv1 hgu
    grind
  · have hkn : k = n := by omega
    subst hkn
    have hgu2 : (A ++ lu.drop k).getD k 0 = lu.getD k 0 := hgu
    refine IdxX.at (by omega) (by omega) ?_; conv => whnf
    refine LoadX.lim hu1 k (by simp [show y24.size = 1 from rfl]) (by simp; omega) ?_; conv => whnf
    rw [hgu]
    have hy := hLu.get k
    refine sub64_rel hy.1 hy.2 hc.1 hc.2 hb.1 hb.2 fun d b2 hd0 hd1 hb0 hb1 e2 => ?_; conv => whnf
    refine IdxX.at (by omega) (by omega) ?_; conv => whnf
    refine StoreX.lim hu1 k (by simp [show y24.size = 1 from rfl]) (by simp; omega) ?_; conv => whnf
    rw [hput_hput, set_app hA (by omega), List.drop_of_length_le (by omega), List.append_nil]
    refine RetX.same (hk (A ++ [d]) b2 (by simp [hA]) (isL_snoc hLA ⟨hd0, hd1⟩) (by omega) ?_)
    have e3 : lv lu = lv (lu.take k) + 18446744073709551616 ^ k * lu.getD k 0 := by rw [← lv_take_succ (by omega), List.take_of_length_le (by omega)]
    have e4 : lv (lV.take k) = lv lV := by rw [List.take_of_length_le (by omega)]
    rw [e4] at hI
    rw [lv_snoc, hA, e3, Int.pow_succ]
    generalize lu.getD k 0 = y at *
    generalize (18446744073709551616 : Int) ^ k = P at *
    generalize lv (lu.take k) = a1 at *
    generalize lv lV = a2 at *
    generalize lv A = a3 at *
    clear ih hk hu1 hv1 hgu hgu2
    grind
set_option maxRecDepth 100000 in
set_option maxHeartbeats 4000000 in
theorem putBack_ok (hu : h mu = some (preU ++ (ul lu ++ postU), tu)) (hv : h mv = some (preV ++ (ul lV ++ postV), tv)) (hne : mu ≠ mv) (hLu : isL lu) (hLv : isL lV) (hnu : lu.length = n + 1) (hnv : lV.length = n) (hn : n < 2 ^ 30)
    (hk : ∀ (l' : List Int) (b : Int), l'.length = n + 1 → isL l' → (b = 0 ∨ b = 1) → lv l' = lv lu + lv lV - b * 18446744073709551616 ^ (n + 1) → K (.tuple #[]) (hput h mu (preU ++ (ul l' ++ postU), tu))) :
    CallX Hval.prog 393 [.slice (some ⟨mu, preU.length, none⟩) (n + 1) capu, .slice (some ⟨mv, preV.length, none⟩) n capv] h K := by
  refine CallX.of_xf T_ok Hval.func393 rfl (by kernel_rfl) (Nat.le_of_ble_eq_true rfl) ?_; conv => whnf
  refine LoopX.st T_ok Hval.func393 (σ := Nat × List Int × Int) (fun z => [(0, .slice (some ⟨mu, preU.length, none⟩) (n + 1) capu), (1, .slice (some ⟨mv, preV.length, none⟩) n capv), (4, .int .u64 z.2.2), (9, .slice (some ⟨mv, preV.length, none⟩) n capv), (10, .int .i64 n), (11, .int .i64 z.1)])
    (fun z h' => z.1 ≤ n ∧ h' = hput h mu (preU ++ (ul (z.2.1 ++ lu.drop z.1) ++ postU), tu) ∧ z.2.1.length = z.1 ∧ isL z.2.1 ∧ (0 ≤ z.2.2 ∧ z.2.2 ≤ 1) ∧ lv (lu.take z.1) + lv (lV.take z.1) = lv z.2.1 + z.2.2 * 18446744073709551616 ^ z.1) (fun z => n - z.1) (0, [], 0)
    ⟨rfl, rfl, rfl, rfl, rfl, rfl, trivial⟩ ⟨Nat.zero_le _, (hput_id hu).symm, rfl, fun d hd => (by cases hd), ⟨by decide, by decide⟩, by simp [lv]⟩ ?_
  rintro ⟨k, A, c⟩ ρ h' ⟨hk1, rfl, hA, hLA, hc, hI⟩ ih
  dsimp only at hk1 hA hLA hc hI ⊢
  conv => whnf
  have hu1 := hput_same h mu (preU ++ (ul (A ++ lu.drop k) ++ postU), tu)
  have hv1 : hput h mu (preU ++ (ul (A ++ lu.drop k) ++ postU), tu) mv = some (preV ++ (ul lV ++ postV), tv) := by rw [hput_ne (Ne.symm hne)]; exact hv
  have hgu := getD_app (l := lu) hA
  have hy := hLu.get k
  refine CondX.decI (fun hlt => ?_) (fun hlt => ?_) <;> conv => whnf
  · have hlt : k < n := by omega
    refine IdxX.at (by omega) (by omega) ?_; conv => whnf
    refine LoadX.lim hv1 k (by simp [show y24.size = 1 from rfl]) (by omega) ?_; conv => whnf
    have hx := hLv.get k
    refine IdxX.at (by omega) (by omega) ?_; conv => whnf
    refine LoadX.lim hu1 k (by simp [show y24.size = 1 from rfl]) (by simp; omega) ?_; conv => whnf
    rw [hgu]
    refine add64_rel hy.1 hy.2 hx.1 hx.2 hc.1 hc.2 fun d b2 hd0 hd1 hb0 hb1 e2 => ?_; conv => whnf
    refine IdxX.at (by omega) (by omega) ?_; conv => whnf
    refine StoreX.lim hu1 k (by simp [show y24.size = 1 from rfl]) (by simp; omega) ?_; conv => whnf
    rw [hput_hput, set_app hA (by omega)]
    refine ih (k + 1, A ++ [d], b2) _ _ ⟨by dsimp only; omega, rfl, by simp [hA], isL_snoc hLA ⟨hd0, hd1⟩, ⟨hb0, hb1⟩, ?_⟩ (by dsimp only; omega) ⟨rfl, rfl, rfl, rfl, rfl, congrArg (Value.int .i64) (wsucc (by omega)), trivial⟩
    dsimp only
    rw [lv_take_succ (by omega), lv_take_succ (by omega), lv_snoc, hA, Int.pow_succ]
    generalize lu.getD k 0 = y at *
    generalize lV.getD k 0 = x at *
    generalize (18446744073709551616 : Int) ^ k = P at *
    generalize lv (lu.take k) = a1 at *
    generalize lv (lV.take k) = a2 at *
    generalize lv A = a3 at *
    clear ih hk hu1 hv1 hgu
    grind
  · have hkn : k = n := by omega
    subst hkn
    refine IdxX.at (by omega) (by omega) ?_; conv => whnf
    refine LoadX.lim hu1 k (by simp [show y24.size = 1 from rfl]) (by simp; omega) ?_; conv => whnf
    rw [hgu]
    refine IdxX.at (by omega) (by omega) ?_; conv => whnf
    refine StoreX.lim hu1 k (by simp [show y24.size = 1 from rfl]) (by simp; omega) ?_; conv => whnf
    rw [hput_hput, set_app hA (by omega), List.drop_of_length_le (by omega), List.append_nil]
    obtain ⟨d, b2, hd, hb2, ed⟩ : ∃ d b2 : Int, U d ∧ (b2 = 0 ∨ b2 = 1) ∧ IntKind.u64.wrap (lu.getD k 0 + c) = d ∧ True ∧ b2 * 18446744073709551616 + d = lu.getD k 0 + c := by
      rw [wrap_u64']
      unfold U at hy
      generalize lu.getD k 0 = y at *
      exact ⟨(y + c) % 18446744073709551616, (y + c) / 18446744073709551616, U_mod _, by omega, rfl, trivial, by omega⟩
    obtain ⟨ed, -, e2⟩ := ed
    rw [ed]
    refine RetX.same (hk (A ++ [d]) b2 (by simp [hA]) (isL_snoc hLA hd) hb2 ?_)
    have e3 : lv lu = lv (lu.take k) + 18446744073709551616 ^ k * lu.getD k 0 := by rw [← lv_take_succ (by omega), List.take_of_length_le (by omega)]
    have e4 : lv (lV.take k) = lv lV := by rw [List.take_of_length_le (by omega)]
    rw [e4] at hI
    rw [lv_snoc, hA, e3, Int.pow_succ]
    clear ed
    generalize lu.getD k 0 = y at *
    generalize (18446744073709551616 : Int) ^ k = P at *
    generalize lv (lu.take k) = a1 at *
    generalize lv lV = a2 at *
    generalize lv A = a3 at *
    clear ih hk hu1 hv1 hgu
    grind
end
end Go.Proofs.YgvalwGreat.X
