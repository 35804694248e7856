import Derived.Test.YgvalwGreatW3
set_option linter.unusedVariables false
set_option linter.unusedSimpArgs false
namespace Go.Proofs.YgvalwGreat.X
open Go

section
variable {h : Hp} {K : Value → Hp → Prop} {la lb : List Int} {ma mb : Nat} {ta tb : TypeId}
theorem lv_take_next {l : List Int} {i : Nat} (hi : i < l.length) : lv (l.take (i + 1)) = lv (l.take i) + 18446744073709551616 ^ i * l.getD i 0 := lv_take_succ hi
theorem isL_set0 {l : List Int} {k : Nat} {v : Int} (hL : isL l) (h0 : 0 ≤ v) (h1 : v < 18446744073709551616) : isL (l.set k v) := hL.set ⟨h0, h1⟩
set_option maxRecDepth 100000 in
set_option maxHeartbeats 4000000 in
theorem mul1024_ok (ha : h ma = some (ul la, ta)) (hb : h mb = some (ul lb, tb)) (hla : la.length = 8) (hlb : lb.length = 8) (hLa : isL la) (hLb : isL lb)
    (hk : ∀ p : List Int, p.length = 16 → isL p → lv p = lv la * lv lb → K (.agg (ul p).toArray) h) : CallX Hval.prog 337 [.pointer (some ⟨ma, 0, none⟩), .pointer (some ⟨mb, 0, none⟩)] h K := by
  refine CallX.of_xf T_ok Hval.func337 rfl (by kernel_rfl) (Nat.le_of_ble_eq_true rfl) ?_; conv => whnf
  refine BoxX.mk fun m4 hm4 => ?_; conv => whnf
  refine BoxX.on fun m5 h45 hm5 => ?_; conv => whnf
  have ha4 : ma < m4 := hm4 ma _ ha
  have hb4 : mb < m4 := hm4 mb _ hb
  obtain ⟨h0, hh0⟩ : ∃ h0 : Hp, h0 = hput h m4 ((376, y376).snd.zero, 376) := ⟨_, rfl⟩
  erw [← hh0]
  have pa : ∀ y, hput h0 m5 y ma = some ([] ++ (ul la ++ []), ta) := fun y => by rw [hput_ne (by omega), hh0, hput_ne (by omega), ha]; simp
  have pb : ∀ y, hput h0 m5 y mb = some ([] ++ (ul lb ++ []), tb) := fun y => by rw [hput_ne (by omega), hh0, hput_ne (by omega), hb]; simp
  have p4 : h0 m4 = some ((376, y376).snd.zero, 376) := by rw [hh0, hput_same]
  have hold : ∀ y, Ext h (hput h0 m5 y) := fun y b z hbz => by
    have := hm4 b z hbz
    rw [hput_ne (by omega), hh0, hput_ne (by omega)]; exact hbz
  rw [show (376, y376).snd.zero = ul (List.replicate 16 0) from rfl]
  refine LoopX.st T_ok Hval.func337 (σ := Nat × List Int) (fun z => [(1, .pointer (some ⟨mb, 0, none⟩)), (4, .pointer (some ⟨m4, 0, none⟩)), (5, .pointer (some ⟨m5, 0, none⟩)), (13, .pointer (some ⟨ma, 0, none⟩)), (14, .int .i64 z.1)])
    (fun z h' => h' = hput h0 m5 (ul z.2, 376) ∧ z.1 ≤ 8 ∧ z.2.length = 16 ∧ isL z.2 ∧ lv z.2 = lv (la.take z.1) * lv lb ∧ ∀ j, z.1 + 8 ≤ j → z.2.getD j 0 = 0) (fun z => 8 - z.1) (0, List.replicate 16 0) ⟨rfl, rfl, rfl, rfl, rfl, trivial⟩
    ⟨rfl, by omega, rfl, isL_zeros 16, by dsimp only; rw [lv_rep, List.take_zero]; simp [lv], fun j _ => by rw [List.getD_eq_getElem?_getD, List.getElem?_replicate]; split <;> rfl⟩ ?_
  rintro ⟨i, p⟩ ρ h' ⟨rfl, hi, hp, hLp, hv, hz⟩ ih
  dsimp only at hi hp hLp hv hz ⊢
  conv => whnf
  refine CondX.decI (fun hc => ?_) (fun hc => ?_) <;> conv => whnf
  · refine DrawX.go T_ok hM Hval.func337 (tb := dr337) rfl (by kernel_rfl) ?_; conv => whnf
    refine Ob.mk (by omega) ?_; conv => whnf
    refine LoadX.lim (pa _) i (by rw [Int.toNat_natCast, show (24, y24).snd.size = 1 from rfl, Nat.mul_one]; simp) (by omega) ?_; conv => whnf
    have hxU := hLa.get i
    generalize hx : la.getD i 0 = x at *
    refine LoopX.st T_ok Hval.func337 (σ := Nat × List Int × Int) (fun z => [(1, .pointer (some ⟨mb, 0, none⟩)), (4, .pointer (some ⟨m4, 0, none⟩)), (5, .pointer (some ⟨m5, 0, none⟩)), (6, .int .i64 i), (7, .int .u64 x), (8, .int .u64 z.2.2), (13, .pointer (some ⟨ma, 0, none⟩)), (14, .int .i64 i), (20, .pointer (some ⟨mb, 0, none⟩)), (21, .int .i64 z.1)])
      (fun z h' => h' = hput h0 m5 (ul z.2.1, 376) ∧ z.1 ≤ 8 ∧ z.2.1.length = 16 ∧ isL z.2.1 ∧ U z.2.2 ∧ lv z.2.1 + 18446744073709551616 ^ (i + z.1) * z.2.2 = lv (la.take i) * lv lb + 18446744073709551616 ^ i * (x * lv (lb.take z.1)) ∧ ∀ j, i + 8 ≤ j → z.2.1.getD j 0 = 0) (fun z => 8 - z.1) (0, p, 0) ⟨rfl, rfl, rfl, rfl, rfl, rfl, rfl, rfl, rfl, rfl, trivial⟩
      ⟨rfl, by omega, hp, hLp, ⟨Int.le_refl 0, show (0 : Int) < 18446744073709551616 by decide⟩, by dsimp only; rw [List.take_zero, hv]; simp [lv], hz⟩ ?_
    clear hv hz hLp hp
    rintro ⟨k, p, c⟩ ρ2 h' ⟨rfl, hk8, hp, hLp, hc2, hv, hz⟩ ih2
    dsimp only at hk8 hp hLp hc2 hv hz ⊢
    conv => whnf
    refine CondX.decI (fun hc3 => ?_) (fun hc3 => ?_) <;> conv => whnf
    · refine DrawX.go T_ok hM Hval.func337 (tb := dr337) rfl (by kernel_rfl) ?_; conv => whnf
      refine Ob.mk (by omega) ?_; conv => whnf
      refine LoadX.lim (pb _) k (by rw [Int.toNat_natCast, show (24, y24).snd.size = 1 from rfl, Nat.mul_one]; simp) (by omega) ?_; conv => whnf
      have e1 : IntKind.i64.wrap (((i : Nat) : Int) + ((k : Nat) : Int)) = ((i + k : Nat) : Int) := by rw [wrap_i64 (by omega) (by omega)]; omega
      rw [e1]
      refine Ob.mk (by omega) ?_; conv => whnf
      have q5 : hput h0 m5 (ul p, 376) m5 = some ([] ++ (ul p ++ []), 376) := by rw [hput_same]; simp
      refine LoadX.lim q5 (i + k) (by rw [Int.toNat_natCast, show (24, y24).snd.size = 1 from rfl, Nat.mul_one]; simp) (by omega) ?_; conv => whnf
      refine mulAdd_ok hxU (hLb.get k) (hLp.get (i + k)) hc2 fun lo hi' hlo hhi e => ?_; conv => whnf
      rw [e1]
      refine Ob.mk (by omega) ?_; conv => whnf
      refine StoreX.lim q5 (i + k) (by rw [Int.toNat_natCast, show (24, y24).snd.size = 1 from rfl, Nat.mul_one]; simp) (by omega) ?_; conv => whnf
      rw [hput_hput, List.nil_append, List.append_nil]
      have e2 : IntKind.i64.wrap (((k : Nat) : Int) + 1) = ((k + 1 : Nat) : Int) := by rw [wrap_i64 (by omega) (by omega)]; omega
      refine ih2 (k + 1, p.set (i + k) lo, hi') _ _ ⟨rfl, by dsimp only; omega, by simp [hp], hLp.set hlo, hhi, ?_, fun j hj => ?_⟩ (by dsimp only; omega) ⟨rfl, rfl, rfl, rfl, rfl, rfl, rfl, rfl, rfl, congrArg (Value.int .i64) e2, trivial⟩
      · dsimp only
        rw [lv_set (by omega), lv_take_next (i := k) (by omega), show i + (k + 1) = i + k + 1 by omega, Int.pow_succ]
        have hpw : (18446744073709551616 : Int) ^ (i + k) = 18446744073709551616 ^ i * 18446744073709551616 ^ k := Int.pow_add ..
        rw [hpw] at hv ⊢
        generalize (18446744073709551616 : Int) ^ i = Bi at *
        generalize (18446744073709551616 : Int) ^ k = Bk at *
        generalize lv (la.take i) * lv lb = T at *
        generalize lv (lb.take k) = L at *
        generalize lb.getD k 0 = y at *
        generalize p.getD (i + k) 0 = pk at *
        generalize lv p = V at *
        generalize (18446744073709551616 : Int) = B at *
        clear ih ih2 hz hc2 hlo hhi hxU pa pb p4 hold q5 hk
        grind
      · dsimp only
        rw [List.getD_eq_getElem?_getD, List.getElem?_set_ne (by omega), ← List.getD_eq_getElem?_getD]; exact hz j hj
    · have hk0 : k = 8 := by omega
      subst hk0
      have e1 : IntKind.i64.wrap (((i : Nat) : Int) + 8) = ((i + 8 : Nat) : Int) := by rw [wrap_i64 (by omega) (by omega)]; omega
      rw [e1]
      refine Ob.mk (by omega) ?_; conv => whnf
      have q5 : hput h0 m5 (ul p, 376) m5 = some ([] ++ (ul p ++ []), 376) := by rw [hput_same]; simp
      refine StoreX.lim q5 (i + 8) (by rw [Int.toNat_natCast, show (24, y24).snd.size = 1 from rfl, Nat.mul_one]; simp) (by omega) ?_; conv => whnf
      rw [hput_hput, List.nil_append, List.append_nil]
      have e2 : IntKind.i64.wrap (((i : Nat) : Int) + 1) = ((i + 1 : Nat) : Int) := by rw [wrap_i64 (by omega) (by omega)]; omega
      refine ih (i + 1, p.set (i + 8) c) _ _ ⟨rfl, by dsimp only; omega, by simp [hp], hLp.set hc2, ?_, fun j hj => ?_⟩ (by dsimp only; omega) ⟨rfl, rfl, rfl, rfl, congrArg (Value.int .i64) e2, trivial⟩
      · dsimp only
        rw [lv_set (by omega), hz (i + 8) (Nat.le_refl _), lv_take_next (i := i) (by omega), hx]
        rw [List.take_of_length_le (show lb.length ≤ 8 by omega)] at hv
        generalize (18446744073709551616 : Int) ^ (i + 8) = P at *
        generalize (18446744073709551616 : Int) ^ i = Q at *
        generalize lv (la.take i) = T at *
        generalize lv lb = L at *
        generalize lv p = V at *
        clear ih ih2 hz hc2 hxU pa pb p4 hold q5 hk
        grind
      · dsimp only at hj ⊢
        rw [List.getD_eq_getElem?_getD, List.getElem?_set_ne (by omega), ← List.getD_eq_getElem?_getD]; exact hz j (by omega)
  · have hi8 : i = 8 := by omega
    subst hi8
    clear ih
    refine LoadX.all (c := ul p) (hput_same ..) (by rw [ul_len, hp]; rfl) ?_; conv => whnf
    refine Ob.mk ⟨by rw [List.size_toArray, ul_len, hp]; rfl, ones_ul _⟩ ?_; conv => whnf
    refine StoreX.at (show hput h0 m5 (ul p, 376) m4 = _ by rw [hput_ne (by omega)]; exact p4) (by rw [List.toList_toArray, ul_len, hp]; exact Nat.le_of_ble_eq_true rfl) ?_; conv => whnf
    rw [setSeg_all (by rw [List.toList_toArray, ul_len, hp]; rfl), List.toList_toArray]
    refine LoadX.all (c := ul p) (hput_same ..) (by rw [ul_len, hp]; rfl) ?_; conv => whnf
    refine RetX.drop (h' := h) (fun b z hbz => ?_) (hk p hp hLp (by rw [hv, List.take_of_length_le (by omega)]))
    have := hm4 b z hbz
    rw [hput_ne (by omega)]; exact hold _ b z hbz
end
end Go.Proofs.YgvalwGreat.X
