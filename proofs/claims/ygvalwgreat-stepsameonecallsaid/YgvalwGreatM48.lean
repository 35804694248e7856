import Derived.Test.YgvalwGreatM47
set_option linter.unusedVariables false
set_option linter.unusedSimpArgs false
namespace Go.Proofs.YgvalwGreat.X
open Go

section
variable {h : Hp} {K : Value → Hp → Prop}
theorem ovl_head {p a z : List Int} {n : Nat} (hp : p.length = n) : ovl (p ++ (List.replicate a.length 0 ++ z)) n a = p ++ (a ++ z) := by
  unfold ovl
  subst hp
  rw [List.take_left' rfl, ← List.append_assoc, List.drop_left' (by rw [List.length_append, List.length_replicate]), List.append_assoc]
set_option maxRecDepth 100000 in
set_option maxHeartbeats 4000000 in
theorem createM_ok {a : List Int} {x : Int} (ha : a.length = 20) (hB : isB a) (hx0 : 0 ≤ x) (hx : x < 128) (hk : K (.agg (bcells (createI a x)).toArray) h) : CallX Hval.prog 69 [.agg (bcells a).toArray, .int .u64 x] h K := by
  refine CallX.of_xf T_ok Hval.func69 rfl (by kernel_rfl) (Nat.le_of_ble_eq_true rfl) ?_; conv => whnf
  refine BoxX.ext fun m hm em => ?_; conv => whnf
  refine BoxX.ext fun r hr er => ?_; conv => whnf
  rw [List.toList_toArray] at em hr er ⊢
  have hAm : hput (hput h m (bcells a, 31)) r ((31, y31).snd.zero, 31) m = some (bcells a, 31) := er _ _ (hput_same ..)
  have hAr : hput (hput h m (bcells a, 31)) r ((31, y31).snd.zero, 31) r = some ((31, y31).snd.zero, 31) := hput_same ..
  have eA : Ext h (hput (hput h m (bcells a, 31)) r ((31, y31).snd.zero, 31)) := em.trans er
  have hr0 : h r = Option.none := by
    cases e : h r with
    | none => rfl
    | some x => have := em _ _ e; rw [hr.at] at this; cases this
  generalize hput (hput h m (bcells a, 31)) r ((31, y31).snd.zero, 31) = hA at hAm hAr eA ⊢
  clear em er hr hm
  refine BoxX.mk fun b hb => ?_; conv => whnf
  erw [show (32, y32).snd.zero = bcells (List.replicate 32 0) from rfl]
  repeat (refine Ob.mk (by first | decide | omega) ?_; conv => whnf)
  refine StoreX.byte 1 rfl (by simp) ?_; conv => whnf
  rw [show (List.replicate 32 (0 : Int)).set 1 148 = [0, 148] ++ (List.replicate 20 0 ++ List.replicate 10 0) from rfl]
  refine DrawX.go T_ok hM Hval.func69 (tb := dr69) rfl (by kernel_rfl) ?_; conv => whnf
  repeat (refine Ob.mk (by first | decide | omega) ?_; conv => whnf)
  have hbt : Byt (hput hA b (bcells ([0, 148] ++ (List.replicate 20 0 ++ List.replicate 10 0)), 32)) (some ⟨m, 0, none⟩) 20 20 a := ⟨rd_own_at (Ext.bd hb _ _ hAm) (by rw [bcells_length, ha]), hB, Nat.le_refl _, (fun hc => by cases hc), by omega⟩
  refine CopyX.bytes (o := 2) hbt (by simp) ?_; conv => whnf
  rw [show Nat.min (20 - 0) (Int.toNat 22 - Int.toNat 2) = 20 from rfl, List.take_of_length_le (by omega)]
  have eo : ovl ([0, 148] ++ (List.replicate 20 0 ++ List.replicate 10 0)) 2 a = 0 :: 148 :: (a ++ 0 :: List.replicate 9 0) := by
    have := ovl_head (p := [0, 148]) (a := a) (z := List.replicate 10 0) (n := 2) rfl
    rw [ha] at this
    exact this
  erw [eo]
  clear hbt
  by_cases hx00 : x = 0
  · have hx00 := hx00
    subst hx00
    refine CondX.eqT rfl ?_; conv => whnf
    repeat (first | (refine CondX.tt ?_; conv => whnf) | (refine CondX.ff ?_; conv => whnf))
    have ecr : createI a 0 = hashedI (214 :: 148 :: (a ++ [128])) := rfl
    have e1 : ((0 :: 148 :: (a ++ 0 :: List.replicate 9 0)).set 22 128).set 0 214 = 214 :: 148 :: (a ++ 128 :: List.replicate 9 0) := by
      rw [List.set_cons_succ, List.set_cons_succ, List.set_append_right _ _ (by omega), ha]; rfl
    repeat (refine Ob.mk (by first | decide | omega) ?_; conv => whnf)
    refine StoreX.byte 22 rfl (by simp [ha]) ?_; conv => whnf
    repeat (refine Ob.mk (by first | decide | omega) ?_; conv => whnf)
    refine StoreX.byte 0 rfl (by simp [ha]) ?_; conv => whnf
    rw [show IntKind.u8.wrap (192 + IntKind.u8.wrap (IntKind.i64.wrap (21 + 1))) = 214 from rfl]
    rw [e1]
    have hisL : isB (214 :: 148 :: (a ++ 128 :: List.replicate 9 0)) := isB.cons (by omega) (by omega) (isB.cons (by omega) (by omega) (hB.append (isB.cons (by omega) (by omega) (isB_zeros 9))))
    rw [show IntKind.i64.wrap (22 + 1) = 23 from rfl]
    repeat (refine Ob.mk (by first | decide | omega) ?_; conv => whnf)
    have hbt := (own_all (h := hA) (m := b) (t := 32) (n := 32) hisL (by simp [ha]) (by simp [ha])).slice (lo := 0) (hh := 23) (m := 32) (by omega) (by omega) (by omega) (by omega)
    have e2 : ((214 :: 148 :: (a ++ 128 :: List.replicate 9 0)).drop 0).take (23 - 0) = 214 :: 148 :: (a ++ [128]) := by
      rw [List.drop_zero, show 23 - 0 = 21 + 1 + 1 from rfl, List.take_succ_cons, List.take_succ_cons, List.take_append, ha, List.take_of_length_le (by omega)]; rfl
    rw [e2] at hbt
    have hHr : hput hA b (bcells (214 :: 148 :: (a ++ 128 :: List.replicate 9 0)), 32) r = some ((31, y31).snd.zero, 31) := by rw [hput_ne (fun e => by rw [e, hb.at] at hAr; cases hAr)]; exact hAr
    have hHe : Ext h (hput hA b (bcells (214 :: 148 :: (a ++ 128 :: List.replicate 9 0)), 32)) := eA.trans (Ext.bd hb)
    generalize hput hA b (bcells (214 :: 148 :: (a ++ 128 :: List.replicate 9 0)), 32) = hZ at *
    refine sum_ok hbt ?_; conv => whnf
    refine BoxX.ext fun m9 hm9 em9 => ?_; conv => whnf
    refine Ob.mk ⟨by rw [List.size_toArray, bcells_length, kSum_len]; rfl, ones_bcells _⟩ ?_; conv => whnf
    refine StoreX.at (hput_same ..) (by rw [List.toList_toArray, bcells_length, kSum_len]; exact Nat.le_of_ble_eq_true rfl) ?_; conv => whnf
    rw [List.toList_toArray, setSeg_all (by rw [bcells_length, kSum_len]; rfl), hput_hput]
    repeat (refine Ob.mk (by first | decide | omega) ?_; conv => whnf)
    have hld : ldV true 20 (hput hZ m9 (bcells (kSum (214 :: 148 :: (a ++ [128]))), 32)) m9 12 = some (.agg (bcells (hashedI (214 :: 148 :: (a ++ [128])))).toArray) := by
      simp only [ldV, hput_same]
      rw [if_pos (by rw [bcells_length, kSum_len]; decide), bcells_seg, List.take_of_length_le (by rw [List.length_drop, kSum_len]; decide)]
      rfl
    refine LoadX.of _ hld ?_; conv => whnf
    have hmr : r ≠ m9 := fun e => by have := hm9.at; rw [← e, hHr] at this; cases this
    refine Ob.mk ⟨by rw [List.size_toArray, bcells_length, hashedI_len]; rfl, ones_bcells _⟩ ?_; conv => whnf
    refine StoreX.at (b := r) (show _ = some ((31, y31).snd.zero, 31) by rw [hput_ne hmr, hHr]) (by rw [List.toList_toArray, bcells_length, hashedI_len]; exact Nat.le_of_ble_eq_true rfl) ?_; conv => whnf
    rw [List.toList_toArray, setSeg_all (by rw [bcells_length, hashedI_len]; rfl)]
    refine LoadX.arr (hput_same ..) (hashedI_len _) ?_; conv => whnf
    refine RetX.drop (Ext.keep (hHe.trans (Ext.bd hm9)) hr0) ?_
    rw [ecr] at hk
    exact hk
  · refine CondX.eqF hx00 ?_; conv => whnf
    repeat (first | (refine CondX.tt ?_; conv => whnf) | (refine CondX.ff ?_; conv => whnf))
    refine CondX.dT (by omega) ?_; conv => whnf
    repeat (first | (refine CondX.tt ?_; conv => whnf) | (refine CondX.ff ?_; conv => whnf))
    have ew : IntKind.u8.wrap x = x := by rw [wrap_u8]; omega
    rw [ew]
    have ecr : createI a x = hashedI (214 :: 148 :: (a ++ [x])) := by
      unfold createI rlpI
      rw [if_neg hx00, if_pos hx]; rfl
    have e1 : ((0 :: 148 :: (a ++ 0 :: List.replicate 9 0)).set 22 x).set 0 214 = 214 :: 148 :: (a ++ x :: List.replicate 9 0) := by
      rw [List.set_cons_succ, List.set_cons_succ, List.set_append_right _ _ (by omega), ha]; rfl
    repeat (refine Ob.mk (by first | decide | omega) ?_; conv => whnf)
    refine StoreX.byte 22 rfl (by simp [ha]) ?_; conv => whnf
    repeat (refine Ob.mk (by first | decide | omega) ?_; conv => whnf)
    refine StoreX.byte 0 rfl (by simp [ha]) ?_; conv => whnf
    rw [show IntKind.u8.wrap (192 + IntKind.u8.wrap (IntKind.i64.wrap (21 + 1))) = 214 from rfl]
    rw [e1]
    have hisL : isB (214 :: 148 :: (a ++ x :: List.replicate 9 0)) := isB.cons (by omega) (by omega) (isB.cons (by omega) (by omega) (hB.append (isB.cons (by omega) (by omega) (isB_zeros 9))))
    rw [show IntKind.i64.wrap (22 + 1) = 23 from rfl]
    repeat (refine Ob.mk (by first | decide | omega) ?_; conv => whnf)
    have hbt := (own_all (h := hA) (m := b) (t := 32) (n := 32) hisL (by simp [ha]) (by simp [ha])).slice (lo := 0) (hh := 23) (m := 32) (by omega) (by omega) (by omega) (by omega)
    have e2 : ((214 :: 148 :: (a ++ x :: List.replicate 9 0)).drop 0).take (23 - 0) = 214 :: 148 :: (a ++ [x]) := by
      rw [List.drop_zero, show 23 - 0 = 21 + 1 + 1 from rfl, List.take_succ_cons, List.take_succ_cons, List.take_append, ha, List.take_of_length_le (by omega)]; rfl
    rw [e2] at hbt
    have hHr : hput hA b (bcells (214 :: 148 :: (a ++ x :: List.replicate 9 0)), 32) r = some ((31, y31).snd.zero, 31) := by rw [hput_ne (fun e => by rw [e, hb.at] at hAr; cases hAr)]; exact hAr
    have hHe : Ext h (hput hA b (bcells (214 :: 148 :: (a ++ x :: List.replicate 9 0)), 32)) := eA.trans (Ext.bd hb)
    generalize hput hA b (bcells (214 :: 148 :: (a ++ x :: List.replicate 9 0)), 32) = hZ at *
    refine sum_ok hbt ?_; conv => whnf
    refine BoxX.ext fun m9 hm9 em9 => ?_; conv => whnf
    refine Ob.mk ⟨by rw [List.size_toArray, bcells_length, kSum_len]; rfl, ones_bcells _⟩ ?_; conv => whnf
    refine StoreX.at (hput_same ..) (by rw [List.toList_toArray, bcells_length, kSum_len]; exact Nat.le_of_ble_eq_true rfl) ?_; conv => whnf
    rw [List.toList_toArray, setSeg_all (by rw [bcells_length, kSum_len]; rfl), hput_hput]
    repeat (refine Ob.mk (by first | decide | omega) ?_; conv => whnf)
    have hld : ldV true 20 (hput hZ m9 (bcells (kSum (214 :: 148 :: (a ++ [x]))), 32)) m9 12 = some (.agg (bcells (hashedI (214 :: 148 :: (a ++ [x])))).toArray) := by
      simp only [ldV, hput_same]
      rw [if_pos (by rw [bcells_length, kSum_len]; decide), bcells_seg, List.take_of_length_le (by rw [List.length_drop, kSum_len]; decide)]
      rfl
    refine LoadX.of _ hld ?_; conv => whnf
    have hmr : r ≠ m9 := fun e => by have := hm9.at; rw [← e, hHr] at this; cases this
    refine Ob.mk ⟨by rw [List.size_toArray, bcells_length, hashedI_len]; rfl, ones_bcells _⟩ ?_; conv => whnf
    refine StoreX.at (b := r) (show _ = some ((31, y31).snd.zero, 31) by rw [hput_ne hmr, hHr]) (by rw [List.toList_toArray, bcells_length, hashedI_len]; exact Nat.le_of_ble_eq_true rfl) ?_; conv => whnf
    rw [List.toList_toArray, setSeg_all (by rw [bcells_length, hashedI_len]; rfl)]
    refine LoadX.arr (hput_same ..) (hashedI_len _) ?_; conv => whnf
    refine RetX.drop (Ext.keep (hHe.trans (Ext.bd hm9)) hr0) ?_
    rw [ecr] at hk
    exact hk
set_option maxRecDepth 100000 in
set_option maxHeartbeats 4000000 in
theorem create2M_ok {a l : List Int} {x : Int} {b2 : Option Addr} {n2 c2 : Nat} (ha : a.length = 20) (hB : isB a) (hx0 : 0 ≤ x) (hx : x < W) (hl : Byt h b2 n2 c2 l) (hk : K (.agg (bcells (create2I a x l)).toArray) h) : CallX Hval.prog 292 [.agg (bcells a).toArray, .agg (wc x).toArray, .slice b2 n2 c2] h K := by
  refine CallX.of_xf T_ok Hval.func292 rfl (by kernel_rfl) (Nat.le_of_ble_eq_true rfl) ?_; conv => whnf
  refine BoxX.ext fun m hm em => ?_; conv => whnf
  refine BoxX.ext fun m4 hm4 em4 => ?_; conv => whnf
  refine BoxX.ext fun r hr er => ?_; conv => whnf
  rw [List.toList_toArray] at em hr er hm4 em4 ⊢
  have hAm : hput (hput (hput h m (bcells a, 31)) m4 ((wc x).toArray.toList, 75)) r ((31, y31).snd.zero, 31) m = some (bcells a, 31) := er _ _ (em4 _ _ (hput_same ..))
  have hA4 : hput (hput (hput h m (bcells a, 31)) m4 ((wc x).toArray.toList, 75)) r ((31, y31).snd.zero, 31) m4 = some (wc x, 75) := er _ _ (hput_same ..)
  have hAr : hput (hput (hput h m (bcells a, 31)) m4 ((wc x).toArray.toList, 75)) r ((31, y31).snd.zero, 31) r = some ((31, y31).snd.zero, 31) := hput_same ..
  have eA : Ext h (hput (hput (hput h m (bcells a, 31)) m4 ((wc x).toArray.toList, 75)) r ((31, y31).snd.zero, 31)) := (em.trans em4).trans er
  have hr0 : h r = Option.none := by
    cases e : h r with
    | none => rfl
    | some x => have := (em.trans em4) _ _ e; rw [hr.at] at this; cases this
  generalize hput (hput (hput h m (bcells a, 31)) m4 ((wc x).toArray.toList, 75)) r ((31, y31).snd.zero, 31) = hA at hAm hA4 hAr eA ⊢
  clear em er hr hm em4 hm4
  refine BoxX.mk fun b hb => ?_; conv => whnf
  erw [show (399, y399).snd.zero = bcells (List.replicate 85 0) from rfl]
  repeat (refine Ob.mk (by first | decide | omega) ?_; conv => whnf)
  refine StoreX.byte 0 rfl (by simp) ?_; conv => whnf
  rw [show (List.replicate 85 (0 : Int)).set 0 255 = [255] ++ (List.replicate 20 0 ++ List.replicate 64 0) from rfl]
  refine DrawX.go T_ok hM Hval.func292 (tb := dr292) rfl (by kernel_rfl) ?_; conv => whnf
  repeat (refine Ob.mk (by first | decide | omega) ?_; conv => whnf)
  have hbt : Byt (hput hA b (bcells ([255] ++ (List.replicate 20 0 ++ List.replicate 64 0)), 399)) (some ⟨m, 0, none⟩) 20 20 a := ⟨rd_own_at (Ext.bd hb _ _ hAm) (by rw [bcells_length, ha]), hB, Nat.le_refl _, (fun hc => by cases hc), by omega⟩
  refine CopyX.bytes (o := 1) hbt (by simp) ?_; conv => whnf
  rw [show Nat.min (20 - 0) (Int.toNat 21 - Int.toNat 1) = 20 from rfl, List.take_of_length_le (by omega)]
  have eo : ovl ([255] ++ (List.replicate 20 0 ++ List.replicate 64 0)) 1 a = [255] ++ (a ++ List.replicate 64 0) := by
    have := ovl_head (p := [255]) (a := a) (z := List.replicate 64 0) (n := 1) rfl
    rw [ha] at this
    exact this
  erw [eo]
  clear hbt
  have n4b : m4 ≠ b := fun e => by rw [e, hb.at] at hA4; cases hA4
  refine DrawX.go T_ok hM Hval.func292 (tb := dr292) rfl (by kernel_rfl) ?_; conv => whnf
  repeat (refine Ob.mk (by first | decide | omega) ?_; conv => whnf)
  refine LoadX.all (c := wc x) (by rw [hput_ne n4b]; exact hA4) rfl ?_; conv => whnf
  refine eBE32_ok hx0 hx ?_; conv => whnf
  refine Ob.mk ⟨by rw [List.size_toArray, bcells_length, be_length]; rfl, ones_bcells _⟩ ?_; conv => whnf
  rw [show soff 0 (Int.toNat 21) 85 (5, y5).snd.size = 21 from rfl]
  refine StoreX.same (by rw [List.toList_toArray, bcells_length, bcells_length, be_length]; simp [ha]) ?_; conv => whnf
  rw [List.toList_toArray, setSeg_ovl]
  have eo2 : ovl ([255] ++ (a ++ List.replicate 64 0)) 21 (be 32 x) = ([255] ++ a) ++ (be 32 x ++ List.replicate 32 0) := by
    have := ovl_head (p := [255] ++ a) (a := be 32 x) (z := List.replicate 32 0) (n := 21) (by simp [ha])
    rw [be_length] at this
    rw [List.append_assoc] at this
    exact this
  rw [eo2]
  repeat (refine Ob.mk (by exact ldV_all (c := wc x) (by rw [hput_ne n4b]; exact hA4) rfl) ?_; conv => whnf)
  have eB : ∀ y, Ext hA (hput hA b y) := fun y => Ext.new hb.at
  refine DrawX.go T_ok hM Hval.func292 (tb := dr292) rfl (by kernel_rfl) ?_; conv => whnf
  repeat (refine Ob.mk (by first | decide | omega) ?_; conv => whnf)
  refine sum_ok (hl.ext (eA.trans (eB _))) ?_; conv => whnf
  refine Ob.mk ⟨by rw [List.size_toArray, bcells_length, kSum_len]; rfl, ones_bcells _⟩ ?_; conv => whnf
  rw [show soff 0 (Int.toNat 53) 85 (5, y5).snd.size = 53 from rfl]
  refine StoreX.same (by rw [List.toList_toArray, bcells_length, bcells_length, kSum_len]; simp [ha, be_length]) ?_; conv => whnf
  rw [List.toList_toArray, setSeg_ovl]
  have eo3 : ovl (([255] ++ a) ++ (be 32 x ++ List.replicate 32 0)) 53 (kSum l) = 255 :: (a ++ (be 32 x ++ kSum l)) := by
    have := ovl_head (p := ([255] ++ a) ++ be 32 x) (a := kSum l) (z := []) (n := 53) (by simp [ha, be_length])
    rw [kSum_len, List.append_nil, List.append_nil, List.append_assoc] at this
    rw [this, List.append_assoc, List.append_assoc]
    rfl
  rw [eo3]
  repeat (refine Ob.mk (by first | decide | omega) ?_; conv => whnf)
  have hisL : isB (255 :: (a ++ (be 32 x ++ kSum l))) := isB.cons (by omega) (by omega) (hB.append ((isB_be 32 x).append (kSum_isB l)))
  have hlen : (255 :: (a ++ (be 32 x ++ kSum l))).length = 85 := by simp [ha, kSum_len, be_length]
  have hbt := own_all (h := hA) (m := b) (t := 399) (n := 85) hisL hlen.symm (by rw [hlen]; decide)
  have hHr : hput hA b (bcells (255 :: (a ++ (be 32 x ++ kSum l))), 399) r = some ((31, y31).snd.zero, 31) := by rw [hput_ne (fun e => by rw [e, hb.at] at hAr; cases hAr)]; exact hAr
  have hHe : Ext h (hput hA b (bcells (255 :: (a ++ (be 32 x ++ kSum l))), 399)) := eA.trans (Ext.bd hb)
  generalize hput hA b (bcells (255 :: (a ++ (be 32 x ++ kSum l))), 399) = hZ at *
  refine sum_ok hbt ?_; conv => whnf
  have ecr : create2I a x l = hashedI (255 :: (a ++ (be 32 x ++ kSum l))) := rfl
  refine BoxX.ext fun m9 hm9 em9 => ?_; conv => whnf
  refine Ob.mk ⟨by rw [List.size_toArray, bcells_length, kSum_len]; rfl, ones_bcells _⟩ ?_; conv => whnf
  refine StoreX.at (hput_same ..) (by rw [List.toList_toArray, bcells_length, kSum_len]; exact Nat.le_of_ble_eq_true rfl) ?_; conv => whnf
  rw [List.toList_toArray, setSeg_all (by rw [bcells_length, kSum_len]; rfl), hput_hput]
  repeat (refine Ob.mk (by first | decide | omega) ?_; conv => whnf)
  have hld : ldV true 20 (hput hZ m9 (bcells (kSum (255 :: (a ++ (be 32 x ++ kSum l)))), 32)) m9 12 = some (.agg (bcells (hashedI (255 :: (a ++ (be 32 x ++ kSum l))))).toArray) := by
    simp only [ldV, hput_same]
    rw [if_pos (by rw [bcells_length, kSum_len]; decide), bcells_seg, List.take_of_length_le (by rw [List.length_drop, kSum_len]; decide)]
    rfl
  refine LoadX.of _ hld ?_; conv => whnf
  have hmr : r ≠ m9 := fun e => by have := hm9.at; rw [← e, hHr] at this; cases this
  refine Ob.mk ⟨by rw [List.size_toArray, bcells_length, hashedI_len]; rfl, ones_bcells _⟩ ?_; conv => whnf
  refine StoreX.at (b := r) (show _ = some ((31, y31).snd.zero, 31) by rw [hput_ne hmr, hHr]) (by rw [List.toList_toArray, bcells_length, hashedI_len]; exact Nat.le_of_ble_eq_true rfl) ?_; conv => whnf
  rw [List.toList_toArray, setSeg_all (by rw [bcells_length, hashedI_len]; rfl)]
  refine LoadX.arr (hput_same ..) (hashedI_len _) ?_; conv => whnf
  refine RetX.drop (Ext.keep (hHe.trans (Ext.bd hm9)) hr0) ?_
  rw [ecr] at hk
  exact hk
end
end Go.Proofs.YgvalwGreat.X
