import Derived.Test.YgvalwGreatM13
set_option linter.unusedVariables false
set_option linter.unusedSimpArgs false
namespace Go.Proofs.YgvalwGreat.X
open Go

section
variable {h : Hp} {K : Value → Hp → Prop}
set_option maxRecDepth 100000 in
set_option maxHeartbeats 4000000 in
theorem natvAtM_ok {a : List Int} (ha : a.length = 20) (hk : K (.int .u8 (natK a)) h) : CallX Hval.prog 79 [.agg (bcells a).toArray] h K := by
  refine CallX.of_xf T_ok Hval.func79 rfl (by kernel_rfl) (Nat.le_of_ble_eq_true rfl) ?_; conv => whnf
  refine BoxX.mk fun m1 hm1 => ?_; conv => whnf
  refine LoadX.arr (l := a) (t := 31) (by rw [hput_same]) ha ?_; conv => whnf
  refine Ob.mk ⟨by simp [bcells, ha], by rfl, by simpa using intCells_bcells a, by rfl⟩ ?_; conv => whnf
  refine CondX.mk (fun hc => ?_) (fun hc => ?_) <;> conv => whnf
  · have hc : eqCells (bcells a) (bcells (adr 4)) = true := hc
    rw [eqCells_bcells] at hc
    have hc := of_decide_eq_true hc
    subst hc
    repeat (first | (refine CondX.tt ?_; conv => whnf) | (refine CondX.ff ?_; conv => whnf))
    refine Ob.mk (by first | decide | omega) ?_; conv => whnf
    refine LoadX.own (.int .u8 4) rfl ?_; conv => whnf
    exact RetX.drop (Ext.bd hm1) hk
  · have hc : eqCells (bcells a) (bcells (adr 4)) = false := hc
    rw [eqCells_bcells] at hc
    have hc := of_decide_eq_false hc
    refine LoadX.arr (l := a) (t := 31) (by rw [hput_same]) ha ?_; conv => whnf
    repeat (first | (refine CondX.tt ?_; conv => whnf) | (refine CondX.ff ?_; conv => whnf))
    refine Ob.mk ⟨by simp [bcells, ha], by rfl, by simpa using intCells_bcells a, by rfl⟩ ?_; conv => whnf
    repeat (first | (refine CondX.tt ?_; conv => whnf) | (refine CondX.ff ?_; conv => whnf))
    refine CondX.mk (fun hd => ?_) (fun hd => ?_) <;> conv => whnf
    · have hd : eqCells (bcells a) (bcells (adr 5)) = true := hd
      rw [eqCells_bcells] at hd
      have hd := of_decide_eq_true hd
      subst hd
      refine Ob.mk (by first | decide | omega) ?_; conv => whnf
      refine LoadX.own (.int .u8 5) rfl ?_; conv => whnf
      exact RetX.drop (Ext.bd hm1) hk
    · have hd : eqCells (bcells a) (bcells (adr 5)) = false := hd
      rw [eqCells_bcells] at hd
      have hd := of_decide_eq_false hd
      refine RetX.drop (Ext.bd hm1) ?_
      unfold natK at hk
      rw [if_neg hc, if_neg hd] at hk
      exact hk
set_option maxRecDepth 100000 in
set_option maxHeartbeats 4000000 in
theorem sentGas_okM {g : Int} {a : Nat} (g0 : 0 ≤ g) (g1 : g < 18446744073709551616) (ha : (a : Int) < W) (hk : K (.int .u64 (min (a : Int) (g - g / 64))) h) : CallX Hval.prog 298 [.int .u64 g, .agg (wc a).toArray] h K := by
  refine CallX.of_xf T_ok Hval.func298 rfl (by kernel_rfl) (Nat.le_of_ble_eq_true rfl) ?_; conv => whnf
  refine BoxX.ext fun n1 hn1 en1 => ?_; conv => whnf
  repeat (refine Ob.mk (by first | decide | omega) ?_; conv => whnf)
  rw [show Int.tdiv g 64 = g / 64 from Int.tdiv_eq_ediv_of_nonneg g0, show IntKind.u64.wrap (g / 64) = g / 64 by rw [wrap_u64']; omega, show IntKind.u64.wrap (g - g / 64) = g - g / 64 by rw [wrap_u64']; omega]
  refine LoadX.all (c := wc a) (hput_same ..) rfl ?_; conv => whnf
  refine eU64_ok ha ?_; conv => whnf
  have fin : ∀ x, min (a : Int) (g - g / 64) = x → K (.int .u64 x) h := fun x hx => by rw [← hx]; exact hk
  by_cases hc : (a : Int) < 18446744073709551616
  · rw [decide_eq_true hc, if_pos hc]
    repeat (first | ((with_reducible refine CondX.tt ?_); conv => whnf) | ((with_reducible refine CondX.ff ?_); conv => whnf) | ((with_reducible refine CondX.nT ?_); conv => whnf) | ((with_reducible refine CondX.nF ?_); conv => whnf) | (with_reducible refine CondX.bF ?_) | (with_reducible refine CondX.bT ?_))
    refine CondX.decI (fun h1 => ?_) (fun h1 => ?_) <;> conv => whnf
    · exact RetX.drop (Ext.bd hn1) (fin _ (by omega))
    · exact RetX.drop (Ext.bd hn1) (fin _ (by omega))
  · rw [decide_eq_false hc]
    repeat (first | ((with_reducible refine CondX.tt ?_); conv => whnf) | ((with_reducible refine CondX.ff ?_); conv => whnf) | ((with_reducible refine CondX.nT ?_); conv => whnf) | ((with_reducible refine CondX.nF ?_); conv => whnf) | (with_reducible refine CondX.bF ?_) | (with_reducible refine CondX.bT ?_))
    exact RetX.drop (Ext.bd hn1) (fin _ (by omega))
set_option maxRecDepth 100000 in
set_option maxHeartbeats 4000000 in
theorem depositM_ok {g : Int} {s : Sl} {l : List Int} (g0 : 0 ≤ g) (g1 : g < 18446744073709551616) (hs : BytS h s l) (hk : K (.tuple #[.int .u64 (depI g l).1, .int .u8 (depI g l).2]) h) : CallX Hval.prog 239 [.int .u64 g, sl s] h K := by
  have hl := hs.len
  have hr := hs.room
  have fin : ∀ x y, depI g l = (x, y) → K (.tuple #[.int .u64 x, .int .u8 y]) h := fun x y hx => by rw [hx] at hk; exact hk
  refine CallX.of_xf T_ok Hval.func239 rfl (by kernel_rfl) (Nat.le_of_ble_eq_true rfl) ?_; conv => whnf
  rw [show IntKind.u64.wrap (s.2.1 : Int) = s.2.1 by rw [wrap_u64']; omega, show IntKind.u64.wrap (200 * (s.2.1 : Int)) = 200 * s.2.1 by rw [wrap_u64']; omega]
  refine CondX.decI (fun h1 => ?_) (fun h1 => ?_) <;> conv => whnf
  · exact RetX.same (fin 0 10 (by unfold depI; rw [if_pos (by omega)]))
  refine CondX.decI (fun h2 => ?_) (fun h2 => ?_) <;> conv => whnf
  · repeat (first | ((with_reducible refine CondX.tt ?_); conv => whnf) | ((with_reducible refine CondX.ff ?_); conv => whnf) | ((with_reducible refine CondX.nT ?_); conv => whnf) | ((with_reducible refine CondX.nF ?_); conv => whnf) | (with_reducible refine CondX.bF ?_) | (with_reducible refine CondX.bT ?_))
    obtain ⟨b, off, hbo⟩ := rd_base hs.rd (by omega)
    rw [hbo]
    refine IdxX.at (by omega) (by omega) ?_; conv => whnf
    repeat (first | ((with_reducible refine CondX.tt ?_); conv => whnf) | ((with_reducible refine CondX.ff ?_); conv => whnf) | ((with_reducible refine CondX.nT ?_); conv => whnf) | ((with_reducible refine CondX.nF ?_); conv => whnf) | (with_reducible refine CondX.bF ?_) | (with_reducible refine CondX.bT ?_))
    refine LoadX.byte hs hbo 0 rfl (by omega) rfl ?_; conv => whnf
    repeat (first | ((with_reducible refine CondX.tt ?_); conv => whnf) | ((with_reducible refine CondX.ff ?_); conv => whnf) | ((with_reducible refine CondX.nT ?_); conv => whnf) | ((with_reducible refine CondX.nF ?_); conv => whnf) | (with_reducible refine CondX.bF ?_) | (with_reducible refine CondX.bT ?_))
    refine CondX.eqI (fun hq => ?_) (fun hq => ?_) <;> conv => whnf
    · have hh : l.head? = some 239 := by
        cases l with
        | nil => simp at hl; omega
        | cons d l => simpa using hq
      exact RetX.same (fin 0 11 (by unfold depI; rw [if_neg (by omega), if_pos hh]))
    · have hhd : ¬ (l.head? = some 239) := by
        cases l with
        | nil => simp
        | cons d l => simpa using hq
      refine CondX.decI (fun h3 => ?_) (fun h3 => ?_) <;> conv => whnf
      · exact RetX.same (fin 0 2 (by unfold depI; rw [if_neg (by omega), if_neg hhd, if_pos (by omega)]))
      · rw [show IntKind.u64.wrap (g - 200 * (s.2.1 : Int)) = g - 200 * l.length by rw [wrap_u64']; omega]
        exact RetX.same (fin _ 0 (by unfold depI; rw [if_neg (by omega), if_neg hhd, if_neg (by omega)]))
  · repeat (first | ((with_reducible refine CondX.tt ?_); conv => whnf) | ((with_reducible refine CondX.ff ?_); conv => whnf) | ((with_reducible refine CondX.nT ?_); conv => whnf) | ((with_reducible refine CondX.nF ?_); conv => whnf) | (with_reducible refine CondX.bF ?_) | (with_reducible refine CondX.bT ?_))
    have hhd : ¬ (l.head? = some 239) := by
      have : l = [] := List.eq_nil_of_length_eq_zero (by omega)
      rw [this]; simp
    refine CondX.decI (fun h3 => ?_) (fun h3 => ?_) <;> conv => whnf
    · exact RetX.same (fin 0 2 (by unfold depI; rw [if_neg (by omega), if_neg hhd, if_pos (by omega)]))
    · rw [show IntKind.u64.wrap (g - 200 * (s.2.1 : Int)) = g - 200 * l.length by rw [wrap_u64']; omega]
      exact RetX.same (fin _ 0 (by unfold depI; rw [if_neg (by omega), if_neg hhd, if_neg (by omega)]))
def flatB (o : Int) : Bool := decide ((o < 32 ∧ o ≠ 10) ∨ (95 ≤ o ∧ o ≤ 159) ∨ (88 ≤ o ∧ o ≤ 91))
set_option maxRecDepth 100000 in
set_option maxHeartbeats 4000000 in
theorem flat_ok {o : Int} (h0 : 0 ≤ o) (hk : K (.bool (flatB o)) h) : CallX Hval.prog 250 [.int .u8 o] h K := by
  have fin : ∀ b : Bool, flatB o = b → K (.bool b) h := fun b hb => by rw [← hb]; exact hk
  have tt : ((o < 32 ∧ o ≠ 10) ∨ (95 ≤ o ∧ o ≤ 159) ∨ (88 ≤ o ∧ o ≤ 91)) → flatB o = true := fun hh => decide_eq_true hh
  have ff : ¬ ((o < 32 ∧ o ≠ 10) ∨ (95 ≤ o ∧ o ≤ 159) ∨ (88 ≤ o ∧ o ≤ 91)) → flatB o = false := fun hh => decide_eq_false hh
  refine CallX.of_xf T_ok Hval.func250 rfl (by kernel_rfl) (Nat.le_of_ble_eq_true rfl) ?_; conv => whnf
  repeat' (first | ((with_reducible refine CondX.tt ?_); conv => whnf) | ((with_reducible refine CondX.ff ?_); conv => whnf) | (with_reducible refine CondX.bF ?_) | (with_reducible refine CondX.bT ?_) | (refine CondX.neI (fun _ => ?_) (fun _ => ?_) <;> conv => whnf) | (refine CondX.decI (fun _ => ?_) (fun _ => ?_) <;> conv => whnf))
  all_goals (refine RetX.same (fin _ ?_); rw [Bool.eq_iff_iff]; simp [flatB]; try omega)
set_option maxRecDepth 100000 in
set_option maxHeartbeats 4000000 in
theorem reach2_ok {a b c d : Nat} (ha : (a : Int) < W) (hb : (b : Int) < W) (hc : (c : Int) < W) (hd : (d : Int) < W) (hk : K (.tuple #[.int .u64 (max (rchW a b) (rchW c d)), .bool (rchOk a b && rchOk c d)]) h) : CallX Hval.prog 339 [.agg (wc a).toArray, .agg (wc b).toArray, .agg (wc c).toArray, .agg (wc d).toArray] h K := by
  refine CallX.of_xf T_ok Hval.func339 rfl (by kernel_rfl) (Nat.le_of_ble_eq_true rfl) ?_; conv => whnf
  refine BoxX.ext fun n1 hn1 en1 => ?_; conv => whnf
  refine BoxX.ext fun n2 hn2 en2 => ?_; conv => whnf
  refine BoxX.ext fun n3 hn3 en3 => ?_; conv => whnf
  refine BoxX.ext fun n4 hn4 en4 => ?_; conv => whnf
  have hdr := ((en1.trans en2).trans en3).trans en4
  refine LoadX.all (c := wc a) (en4 _ _ (en3 _ _ (en2 _ _ (hput_same ..)))) rfl ?_; conv => whnf
  refine LoadX.all (c := wc b) (en4 _ _ (en3 _ _ (hput_same ..))) rfl ?_; conv => whnf
  refine reach_okM ha hb ?_; conv => whnf
  refine LoadX.all (c := wc c) (en4 _ _ (hput_same ..)) rfl ?_; conv => whnf
  refine LoadX.all (c := wc d) (hput_same ..) rfl ?_; conv => whnf
  refine reach_okM hc hd ?_; conv => whnf
  have e : (if rchW c d > rchW a b then rchW c d else rchW a b) = max (rchW a b) (rchW c d) := by
    split <;> omega
  rw [e]
  cases hx : rchOk a b with
  | true =>
    repeat (first | (refine CondX.tt ?_; conv => whnf) | (refine CondX.ff ?_; conv => whnf))
    rw [hx] at hk
    exact RetX.drop hdr hk
  | false =>
    repeat (first | (refine CondX.tt ?_; conv => whnf) | (refine CondX.ff ?_; conv => whnf))
    rw [hx] at hk
    exact RetX.drop hdr hk
set_option maxRecDepth 100000 in
set_option maxHeartbeats 4000000 in
theorem addrOf_okM {a : Nat} (ha : (a : Int) < W) (hk : K (.agg (bcells (addrI a)).toArray) h) : CallX Hval.prog 276 [.agg (wc a).toArray] h K := by
  have hbl : (be 32 (a : Int)).length = 32 := be_length ..
  refine CallX.of_xf T_ok Hval.func276 rfl (by kernel_rfl) (Nat.le_of_ble_eq_true rfl) ?_; conv => whnf
  refine BoxX.ext fun n1 hn1 en1 => ?_; conv => whnf
  refine BoxX.ext fun n2 hn2 en2 => ?_; conv => whnf
  refine LoadX.all (c := wc a) (en2 _ _ (hput_same ..)) rfl ?_; conv => whnf
  refine eBE32_ok (by omega) ha ?_; conv => whnf
  refine BoxX.ext fun n3 hn3 en3 => ?_; conv => whnf
  refine Ob.mk ⟨by show (bcells (be 32 (a : Int))).length = 32; rw [bcells_length, hbl], ones_bcells _⟩ ?_; conv => whnf
  refine StoreX.whole (c := (32, y32).snd.zero) (t := 32) (hput_same ..) (by show (bcells (be 32 (a : Int))).length = 32; rw [bcells_length, hbl]) ?_
  rw [hput_hput]; conv => whnf
  repeat (refine Ob.mk (by first | decide | omega) ?_; conv => whnf)
  have hd12 : (be 32 (a : Int)).drop 12 = addrI a := by
    unfold addrI
    rw [be_mod, show (32 : Nat) = 20 + 12 from rfl, be_app 20 12, List.drop_append, List.drop_of_length_le (by rw [be_length]; exact Nat.le_refl _), List.nil_append, be_length]
    rfl
  have hld : ldV true 20 (hput (hput (hput h n1 ((wc a).toArray.toList, 75)) n2 ((31, y31).snd.zero, 31)) n3 ((bcells (be 32 (a : Int))).toArray.toList, 32)) n3 12 = some (.agg (bcells (addrI a)).toArray) := by
    simp only [ldV, hput_same]
    rw [if_pos (by show 12 + 20 ≤ (bcells (be 32 (a : Int))).length; rw [bcells_length, hbl]; decide)]
    show some (Value.agg (seg (bcells (be 32 (a : Int))) 12 20).toArray) = _
    rw [bcells_seg, hd12, List.take_of_length_le (by rw [addrI_length]; exact Nat.le_refl _)]
  refine LoadX.of _ hld ?_; conv => whnf
  have hal : (bcells (addrI a)).length = 20 := by rw [bcells_length, addrI_length]
  refine Ob.mk ⟨hal, ones_bcells _⟩ ?_; conv => whnf
  have hn23 : n2 ≠ n3 := fun e => by have := hn3.at; rw [← e, hput_same] at this; cases this
  refine StoreX.whole (c := (31, y31).snd.zero) (t := 31) (by rw [hput_ne hn23]; exact hput_same ..) hal ?_; conv => whnf
  refine LoadX.all (c := bcells (addrI a)) (hput_same ..) (by rw [hal]; rfl) ?_; conv => whnf
  have hn2h : h n2 = none := by
    cases hx : h n2 with
    | none => rfl
    | some y => have := en1 _ _ hx; rw [hn2.at] at this; cases this
  have hn3h : h n3 = none := by
    cases hx : h n3 with
    | none => rfl
    | some y => have := en2 _ _ (en1 _ _ hx); rw [hn3.at] at this; cases this
  exact RetX.drop (h' := h) (Ext.keep (Ext.keep (en1.trans en2) hn3h) hn2h) hk
end
end Go.Proofs.YgvalwGreat.X
