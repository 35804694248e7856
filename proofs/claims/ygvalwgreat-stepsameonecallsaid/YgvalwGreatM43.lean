import Derived.Test.YgvalwGreatM42
set_option linter.unusedVariables false
set_option linter.unusedSimpArgs false
namespace Go.Proofs.YgvalwGreat.X
open Go

section
variable {hi hi' hm hm' hb hb' h : Hp} {K : Value → Hp → Prop} {v v' : VS} {eb : Nat} {m m' : MS} {t : Nat} {mems : Nat → List Int} {stale stale' mem' orig a : List Int} {w w' : AW} {sn : List AW} {s0 l0 S S' x o : Int} {A : Nat → Nat}

set_option maxRecDepth 100000 in
set_option maxHeartbeats 4000000 in
theorem x_60 (P : OpS hi hm hb eb m t w sn v mems stale 60 A S S') (hk : PlK hi eb m t w sn mems orig 60 S' s0 l0 K) : CallX Hval.prog 190 [.pointer (some ⟨eb, 0, none⟩)] (join (join hi hm) hb) K := by
  have hft : A 3 ≠ 0 → A 1 + A 3 ≤ (mems t).length := fun h1 => by
    have := P.fit
    have e : reachI 60 (fun i => (A i : Int)) = endI (A 1) (A 3) := rfl
    rw [e] at this
    unfold endI at this
    rw [if_neg (by omega)] at this
    omega
  have X := P.X
  have M := X.M
  have h7 := M.t7
  have F := M.f
  have q : ∀ i, (A i : Int) < W := fun i => P.hA i ▸ (argM_W M i).2
  have hs64 := F.sp
  have hpc := P.pc
  have hmf := X.mm.top.few
  simp only [List.length_append] at hmf
  have hrm := P.R.room (by have := P.le; have := P.hS; omega)
  refine CallX.of_xf T_ok Hval.func190 rfl (by kernel_rfl) (Nat.le_of_ble_eq_true rfl) ?_; conv => whnf
  refine running_ok M (Ext.jl _ _) ?_; conv => whnf
  repeat (first | (refine CondX.tt ?_; conv => whnf) | (refine CondX.ff ?_; conv => whnf))
  refine arg_okM (i := 0) M (Ext.jl _ _) (by decide) ?_
  rw [P.hA]; conv => whnf
  refine BoxX.jj M.A.V.dj X.dj fun n1 he hd hdd => ?_; conv => whnf
  refine Ob.mk ⟨rfl, rfl⟩ ?_; conv => whnf
  refine StoreX.fr (StoreX.jx (x := wc (A 0)) (Nat.le_of_ble_eq_true rfl) rfl ?_); conv => whnf
  have eI1 := he (wc (A 0), 75)
  have dI1 := hd (wc (A 0), 75)
  have dJ1 := hdd (wc (A 0), 75)
  have b1 : (hput hi n1 (wc (A 0), 75)) n1 = some (wc (A 0), 75) := hput_same ..
  have nf1 := ext_no he
  clear he hd hdd
  generalize hput hi n1 (wc (A 0), 75) = h1 at *
  refine arg_okM (i := 1) M ((Ext.j2 eI1 dI1 (Ext.refl hm)).trans (Ext.jl _ _)) (by decide) ?_
  rw [P.hA]; conv => whnf
  refine BoxX.jj dI1 dJ1 fun n2 he hd hdd => ?_; conv => whnf
  refine Ob.mk ⟨rfl, rfl⟩ ?_; conv => whnf
  refine StoreX.fr (StoreX.jx (x := wc (A 1)) (Nat.le_of_ble_eq_true rfl) rfl ?_); conv => whnf
  have eI2 := eI1.trans (he (wc (A 1), 75))
  have dI2 := hd (wc (A 1), 75)
  have dJ2 := hdd (wc (A 1), 75)
  have b2 : (hput h1 n2 (wc (A 1), 75)) n2 = some (wc (A 1), 75) := hput_same ..
  have b1' := b1
  have b1 : (hput h1 n2 (wc (A 1), 75)) n1 = some (wc (A 0), 75) := he _ _ _ b1
  have nf2 := ext_no he
  have n12 := ne_of b1' nf2
  clear b1'
  clear he hd hdd
  generalize hput h1 n2 (wc (A 1), 75) = h2 at *
  refine arg_okM (i := 2) M ((Ext.j2 eI2 dI2 (Ext.refl hm)).trans (Ext.jl _ _)) (by decide) ?_
  rw [P.hA]; conv => whnf
  refine BoxX.jj dI2 dJ2 fun n3 he hd hdd => ?_; conv => whnf
  refine Ob.mk ⟨rfl, rfl⟩ ?_; conv => whnf
  refine StoreX.fr (StoreX.jx (x := wc (A 2)) (Nat.le_of_ble_eq_true rfl) rfl ?_); conv => whnf
  have eI := eI2.trans (he (wc (A 2), 75))
  have dI := hd (wc (A 2), 75)
  have dJ := hdd (wc (A 2), 75)
  have b3 : (hput h2 n3 (wc (A 2), 75)) n3 = some (wc (A 2), 75) := hput_same ..
  have b2' := b2
  have b2 : (hput h2 n3 (wc (A 2), 75)) n2 = some (wc (A 1), 75) := he _ _ _ b2
  have n23 := ne_of b2' (ext_no he)
  clear b2'
  have b1' := b1
  have b1 : (hput h2 n3 (wc (A 2), 75)) n1 = some (wc (A 0), 75) := he _ _ _ b1
  have nf3 := ext_no he
  have n13 := ne_of b1' nf3
  clear b1'
  clear he hd hdd
  generalize hput h2 n3 (wc (A 2), 75) = h3 at *
  have hMe : Ext (join hi hm) (join (join h3 hm) hb) := (Ext.j2 eI dI (Ext.refl hm)).trans (Ext.jl _ _)
  have hbE := M.blk hMe
  have hbJ := M.blk (Ext.j2 eI dI (Ext.refl hm))
  refine opcodeM_ok M hMe ?_
  rw [P.ho]; conv => whnf
  repeat (first | (refine CondX.tt ?_; conv => whnf) | (refine CondX.ff ?_; conv => whnf))
  refine LoadX.all (c := wc (A 0)) (join_l (join_l b1)) rfl ?_; conv => whnf
  refine addrOf_okM (q 0) ?_; conv => whnf
  obtain ⟨ad, ead⟩ : ∃ ad, ad = addrI (A 0) := ⟨_, rfl⟩
  have hal : ad.length = 20 := by rw [ead]; exact addrI_length _
  have haB : isB ad := by rw [ead]; exact isB_addrI _
  rw [← ead]
  have alen : (bcells ad).length = (31, y31).snd.size := by rw [bcells_len, hal]; rfl
  refine BoxX.jj dI dJ fun n5 he hd hdd => ?_; conv => whnf
  refine Ob.mk ⟨by rw [List.size_toArray, bcells_len, hal]; rfl, ones_bcells _⟩ ?_; conv => whnf
  refine StoreX.fr (StoreX.jx (x := bcells ad) (by rw [List.toList_toArray, bcells_len, hal]; exact Nat.le_of_ble_eq_true rfl) (setSeg_all (by rw [List.toList_toArray, bcells_len, hal]; rfl)) ?_); conv => whnf
  have eI4 := eI.trans (he (bcells ad, 31))
  have dI4 := hd (bcells ad, 31)
  have dJ4 := hdd (bcells ad, 31)
  have b5 : hput h3 n5 (bcells ad, 31) n5 = some (bcells ad, 31) := hput_same ..
  have b1 := he (bcells ad, 31) _ _ b1
  have b2 := he (bcells ad, 31) _ _ b2
  have b3 := he (bcells ad, 31) _ _ b3
  clear he hd hdd
  generalize hput h3 n5 (bcells ad, 31) = h4 at *
  refine LoadX.all (join_l (join_l b5)) alen ?_; conv => whnf
  refine CallX.fj dJ4 (warmAcct_cb eI4 dI4 hal haB M (by omega) (by omega) fun hm2 v2 d2 M2 u2 hh2 dd2 => ?_); conv => whnf
  repeat (first | (refine CondX.tt ?_; conv => whnf) | (refine CondX.ff ?_; conv => whnf))
  have hMe : Ext (join hi hm2) (join (join h4 hm2) hb) := (Ext.j2 eI4 d2 (Ext.refl hm2)).trans (Ext.jl _ _)
  have hbE := M2.blk hMe
  refine DrawX.go T_ok hM Hval.func190 (tb := dr190) rfl (by kernel_rfl) ?_; conv => whnf
  refine LoadX.fx hbE 0 rfl (by omega) mR_S ?_; conv => whnf
  refine LoadX.all (join_l (join_l b5)) alen ?_; conv => whnf
  refine code_own hal haB M2.A hMe fun s5 h5 e5 hs5 hw5 => ?_
  obtain ⟨h6, e6, d6, dd6, rfl, hsrc⟩ := own_j d2 dd2 e5 hs5 hw5
  conv => whnf
  have hq1 : ∀ a, s5.1 = some a → a.block ≠ n1 := fun a ha e => by have := (join_none (join_none (hw5 a ha)).1).1; rw [e, b1] at this; cases this
  have hq2 : ∀ a, s5.1 = some a → a.block ≠ n2 := fun a ha e => by have := (join_none (join_none (hw5 a ha)).1).1; rw [e, b2] at this; cases this
  have hq3 : ∀ a, s5.1 = some a → a.block ≠ n3 := fun a ha e => by have := (join_none (join_none (hw5 a ha)).1).1; rw [e, b3] at this; cases this
  have eI6 := eI4.trans e6
  have b1 := e6 _ _ b1
  have b2 := e6 _ _ b2
  have b3 := e6 _ _ b3
  have b5 := e6 _ _ b5
  have hMe6 : Ext (join hi hm2) (join (join h6 hm2) hb) := (Ext.j2 eI6 d6 (Ext.refl hm2)).trans (Ext.jl _ _)
  have hbE6 := M2.blk hMe6
  repeat (refine Ob.mk (by first | exact ldV_fn hbE6 0 rfl (by omega) | exact ldV_all (join_l (join_l b5)) (by rw [alen])) ?_; conv => whnf)
  refine LoadX.all (c := wc (A 1)) (join_l (join_l b2)) rfl ?_; conv => whnf
  refine Ob.mk ⟨rfl, rfl⟩ ?_; conv => whnf
  have f1 := nf1
  have f2 := none_of eI1 nf2
  have f3 := none_of eI2 nf3
  refine StoreX.bw b1 rfl ?_; conv => whnf
  have eI7 : Ext hi (hput h6 n1 (wc (A 1), 75)) := hput_ext f1 eI6
  have d7 : Dj (hput h6 n1 (wc (A 1), 75)) hm2 := Dj.pl b1 d6
  have dd7 : Dj (join (hput h6 n1 (wc (A 1), 75)) hm2) hb := by rw [← join_put]; exact Dj.put_l dd6 (join_l b1)
  have b2 : hput h6 n1 (wc (A 1), 75) n2 = some (wc (A 1), 75) := by rw [hput_ne n12.symm]; exact b2
  have b3 : hput h6 n1 (wc (A 1), 75) n3 = some (wc (A 2), 75) := by rw [hput_ne n13.symm]; exact b3
  have b1 : hput h6 n1 (wc (A 1), 75) n1 = some (wc (A 1), 75) := hput_same ..
  have hsrc : BytS (hput h6 n1 (wc (A 1), 75)) s5 ((warmW w ad).acct ad).code := hsrc.move fun a ha => hput_ne (hq1 a ha)
  generalize hput h6 n1 (wc (A 1), 75) = h7' at *
  refine LoadX.all (c := wc (A 2)) (join_l (join_l b3)) rfl ?_; conv => whnf
  refine Ob.mk ⟨rfl, rfl⟩ ?_; conv => whnf
  refine StoreX.bw b2 rfl ?_; conv => whnf
  have eI8 : Ext hi (hput h7' n2 (wc (A 2), 75)) := hput_ext f2 eI7
  have d8 : Dj (hput h7' n2 (wc (A 2), 75)) hm2 := Dj.pl b2 d7
  have dd8 : Dj (join (hput h7' n2 (wc (A 2), 75)) hm2) hb := by rw [← join_put]; exact Dj.put_l dd7 (join_l b2)
  have b1 : hput h7' n2 (wc (A 2), 75) n1 = some (wc (A 1), 75) := by rw [hput_ne n12]; exact b1
  have b3 : hput h7' n2 (wc (A 2), 75) n3 = some (wc (A 2), 75) := by rw [hput_ne n23.symm]; exact b3
  have b2 : hput h7' n2 (wc (A 2), 75) n2 = some (wc (A 2), 75) := hput_same ..
  have hsrc : BytS (hput h7' n2 (wc (A 2), 75)) s5 ((warmW w ad).acct ad).code := hsrc.move fun a ha => hput_ne (hq2 a ha)
  generalize hput h7' n2 (wc (A 2), 75) = h8 at *
  refine arg_okM (i := 3) M2 ((Ext.j2 eI8 d8 (Ext.refl hm2)).trans (Ext.jl _ _)) (by decide) ?_
  rw [P.hA]; conv => whnf
  refine Ob.mk ⟨rfl, rfl⟩ ?_; conv => whnf
  refine StoreX.bw b3 rfl ?_; conv => whnf
  have eI9 : Ext hi (hput h8 n3 (wc (A 3), 75)) := hput_ext f3 eI8
  have d9 : Dj (hput h8 n3 (wc (A 3), 75)) hm2 := Dj.pl b3 d8
  have dd9 : Dj (join (hput h8 n3 (wc (A 3), 75)) hm2) hb := by rw [← join_put]; exact Dj.put_l dd8 (join_l b3)
  have b1 : hput h8 n3 (wc (A 3), 75) n1 = some (wc (A 1), 75) := by rw [hput_ne n13]; exact b1
  have b2 : hput h8 n3 (wc (A 3), 75) n2 = some (wc (A 2), 75) := by rw [hput_ne n23]; exact b2
  have b3 : hput h8 n3 (wc (A 3), 75) n3 = some (wc (A 3), 75) := hput_same ..
  have hsrc : BytS (hput h8 n3 (wc (A 3), 75)) s5 ((warmW w ad).acct ad).code := hsrc.move fun a ha => hput_ne (hq3 a ha)
  generalize hput h8 n3 (wc (A 3), 75) = h9 at *
  have hsrl := hsrc.room
  have hbJ := M2.blk (Ext.j2 eI9 d9 (Ext.refl hm2))
  have hwv : effW w (m.fr t).self 60 (opA (frM m sn mems t) 60) = warmW w ad := by rw [opA_eq P.hA (T := 4) rfl, ead]; rfl
  have hRv := P.up u2 (by have h1 := cW_acc (w := w) (a := ad); have e : bareA w (m.fr t).self 60 (fun i => (A i : Int)) = accA w ad + 3 * (((A 3 : Int) + 31) / 32) := by rw [ead]; rfl
                          rw [e]; omega)
  repeat (first | (refine CondX.tt ?_; conv => whnf) | (refine CondX.ff ?_; conv => whnf))
  refine LoadX.all (c := wc (A 3)) (join_l (join_l b3)) rfl ?_; conv => whnf
  refine eIsZero_ok (q 3) ?_; conv => whnf
  by_cases hz : A 3 = 0
  · rw [decide_eq_true hz]
    repeat (first | (refine CondX.tt ?_; conv => whnf) | (refine CondX.ff ?_; conv => whnf))
    refine settleN_w (x := 0) (tk := 4) (st := 1) eI9 d9 dd9 M2 (Int.ofNat_le.1 P.sp) (by omega) fun hmx g1 g2 Mx => ?_; conv => whnf
    refine RetX.drop (h' := join (join hi hmx) hb) (Ext.jj eI9 g1 g2) (fin_eff X (T := 4) rfl rfl (by omega) rfl Mx (Dj.back (Ext.j2 eI9 g1 (Ext.refl hmx)) g2) (Ext.refl hi) u2.has X.mm.top hwv ?_ hRv hk)
    rw [opA_eq P.hA (T := 4) rfl]
    show cpM (mems t) (A 1) _ (A 2) (A 3) = _
    unfold cpM; rw [if_pos (by omega)]
  · rw [decide_eq_false hz]
    repeat (first | (refine CondX.tt ?_; conv => whnf) | (refine CondX.ff ?_; conv => whnf))
    have hfit := hft hz
    refine DrawX.go T_ok hM Hval.func190 (tb := dr190) rfl (by kernel_rfl) ?_; conv => whnf
    refine LoadX.all (c := wc (A 1)) (join_l (join_l b1)) rfl ?_; conv => whnf
    refine LoadX.all (c := wc (A 2)) (join_l (join_l b2)) rfl ?_; conv => whnf
    refine LoadX.all (c := wc (A 3)) (join_l (join_l b3)) rfl ?_; conv => whnf
    refine small_okM (q 1) (by omega) ?_; conv => whnf
    repeat (refine Ob.mk (by first | exact ldV_all (c := wc (A 1)) (join_l (join_l b1)) rfl | exact ldV_all (c := wc (A 2)) (join_l (join_l b2)) rfl | exact ldV_all (c := wc (A 3)) (join_l (join_l b3)) rfl) ?_; conv => whnf)
    refine source_ok (q 2) ?_; conv => whnf
    repeat (refine Ob.mk (by first | exact ldV_all (c := wc (A 1)) (join_l (join_l b1)) rfl | exact ldV_all (c := wc (A 2)) (join_l (join_l b2)) rfl | exact ldV_all (c := wc (A 3)) (join_l (join_l b3)) rfl) ?_; conv => whnf)
    refine small_okM (q 3) (by omega) ?_; conv => whnf
    repeat (refine Ob.mk (by first | exact ldV_all (c := wc (A 1)) (join_l (join_l b1)) rfl | exact ldV_all (c := wc (A 2)) (join_l (join_l b2)) rfl | exact ldV_all (c := wc (A 3)) (join_l (join_l b3)) rfl) ?_; conv => whnf)
    refine awrite_ok (off := A 1) (n := A 3) (fr := srcI (A 2)) hbJ X.mm.top dd9 h7 (by omega) hfit (hsrc.ext (Ext.jl h9 hm2)) (srcI_lt _) fun hbx d2x B2 => ?_; conv => whnf
    repeat (refine Ob.mk (by first | exact ldV_all (c := wc (A 1)) (join_l (join_l b1)) rfl | exact ldV_all (c := wc (A 2)) (join_l (join_l b2)) rfl | exact ldV_all (c := wc (A 3)) (join_l (join_l b3)) rfl) ?_; conv => whnf)
    repeat (first | (refine CondX.tt ?_; conv => whnf) | (refine CondX.ff ?_; conv => whnf))
    refine settleN_w (x := 0) (tk := 4) (st := 1) eI9 d9 d2x M2 (Int.ofNat_le.1 P.sp) (by omega) fun hmx g1 g2 Mx => ?_; conv => whnf
    refine RetX.drop (h' := join (join hi hmx) hbx) (Ext.jj eI9 g1 g2) (fin_eff X (T := 4) rfl rfl (by omega) rfl Mx (Dj.back (Ext.j2 eI9 g1 (Ext.refl hmx)) g2) (Ext.refl hi) u2.has B2 hwv ?_ hRv hk)
    rw [opA_eq P.hA (T := 4) rfl]
    show cpM (mems t) (A 1) (w.acct (addrI (A 0))).code (A 2) (A 3) = ovl (mems t) (A 1) (cutN ((warmW w ad).acct ad).code (srcI (A 2)) (A 3))
    unfold cpM
    rw [if_neg (by omega), srcI_cut hsrc.room hsrc.len, Int.toNat_natCast, Int.toNat_natCast, writeI_ovl (by rw [cutN_length]; exact hfit) (by intro hh; have := congrArg List.length hh; rw [cutN_length, List.length_nil] at this; omega), ead]
    rfl
end
end Go.Proofs.YgvalwGreat.X
