import Derived.Test.YgvalwGreatM41
set_option linter.unusedVariables false
set_option linter.unusedSimpArgs false
namespace Go.Proofs.YgvalwGreat.X
open Go

section
variable {hi hi' hm hm' hb hb' h : Hp} {K : Value → Hp → Prop} {v v' : VS} {eb : Nat} {m m' : MS} {t : Nat} {mems : Nat → List Int} {stale stale' mem' orig a : List Int} {w w' : AW} {sn : List AW} {s0 l0 S S' x o : Int} {A : Nat → Nat}
theorem StoreX.bw {n : Nat} {c vs : List Value} {ty : TypeId} {KK : Hp → Prop} (hx : hi n = some (c, ty)) (hl : vs.length = c.length) (hk : KK (join (join (hput hi n (vs, ty)) hm) hb)) : StoreX (join (join hi hm) hb) n 0 vs KK := by
  refine ⟨c, ty, join_l (join_l hx), by omega, ?_⟩
  rw [setSeg_all hl.symm, join_put, join_put]; exact hk
theorem hput_ext {h0 : Hp} {n : Nat} {y} (h1 : h0 n = none) (he : Ext h0 hi) : Ext h0 (hput hi n y) := fun b x hx => by
  by_cases hb : b = n
  · subst hb; rw [h1] at hx; cases hx
  · rw [hput_ne hb]; exact he _ _ hx
theorem Dj.pl {n : Nat} {x y} (hx : hi n = some x) (hd : Dj hi hm) : Dj (hput hi n y) hm := Dj.put_l hd hx
theorem ext_no {n : Nat} (he : ∀ y, Ext hi (hput hi n y)) : hi n = none := by
  cases hx : hi n with
  | none => rfl
  | some x =>
    have h1 := he ([], 0) _ _ hx
    have h2 := he ([], 1) _ _ hx
    rw [hput_same] at h1 h2
    have := (h1.trans h2.symm)
    cases this
theorem none_of {h0 h1 : Hp} {n : Nat} (he : Ext h0 h1) (hn : h1 n = none) : h0 n = none := by
  cases hx : h0 n with
  | none => rfl
  | some x => rw [he _ _ hx] at hn; cases hn
theorem ne_of {h0 : Hp} {n k : Nat} {x} (h1 : h0 n = some x) (h2 : h0 k = none) : n ≠ k := fun e => by subst e; rw [h1] at h2; cases h2

set_option maxRecDepth 100000 in
set_option maxHeartbeats 4000000 in
theorem x_55 (P : OpS hi hm hb eb m t w sn v mems stale 55 A S S') (hk : PlK hi eb m t w sn mems orig 55 S' s0 l0 K) : CallX Hval.prog 190 [.pointer (some ⟨eb, 0, none⟩)] (join (join hi hm) hb) K := by
  have hft : A 2 ≠ 0 → A 0 + A 2 ≤ (mems t).length := fun h1 => by
    have := P.fit
    have e : reachI 55 (fun i => (A i : Int)) = endI (A 0) (A 2) := rfl
    rw [e] at this
    unfold endI at this
    rw [if_neg (by omega)] at this
    omega
  have X := P.X
  have M := X.M
  have h7 := M.t7
  have F := M.f
  have q : ∀ i, (A i : Int) < W := fun i => P.hA i ▸ (argM_W M i).2
  have hs64 := F.sp
  have hpc := P.pc
  have hmf := X.mm.top.few
  simp only [List.length_append] at hmf
  have hrm := P.R.room (by have := P.le; have := P.hS; omega)
  refine CallX.of_xf T_ok Hval.func190 rfl (by kernel_rfl) (Nat.le_of_ble_eq_true rfl) ?_; conv => whnf
  refine running_ok M (Ext.jl _ _) ?_; conv => whnf
  repeat (first | (refine CondX.tt ?_; conv => whnf) | (refine CondX.ff ?_; conv => whnf))
  refine arg_okM (i := 0) M (Ext.jl _ _) (by decide) ?_
  rw [P.hA]; conv => whnf
  refine BoxX.jj M.A.V.dj X.dj fun n1 he hd hdd => ?_; conv => whnf
  refine Ob.mk ⟨rfl, rfl⟩ ?_; conv => whnf
  refine StoreX.fr (StoreX.jx (x := wc (A 0)) (Nat.le_of_ble_eq_true rfl) rfl ?_); conv => whnf
  have eI1 := he (wc (A 0), 75)
  have dI1 := hd (wc (A 0), 75)
  have dJ1 := hdd (wc (A 0), 75)
  have b1 : (hput hi n1 (wc (A 0), 75)) n1 = some (wc (A 0), 75) := hput_same ..
  have nf1 := ext_no he
  clear he hd hdd
  generalize hput hi n1 (wc (A 0), 75) = h1 at *
  refine arg_okM (i := 1) M ((Ext.j2 eI1 dI1 (Ext.refl hm)).trans (Ext.jl _ _)) (by decide) ?_
  rw [P.hA]; conv => whnf
  refine BoxX.jj dI1 dJ1 fun n2 he hd hdd => ?_; conv => whnf
  refine Ob.mk ⟨rfl, rfl⟩ ?_; conv => whnf
  refine StoreX.fr (StoreX.jx (x := wc (A 1)) (Nat.le_of_ble_eq_true rfl) rfl ?_); conv => whnf
  have eI2 := eI1.trans (he (wc (A 1), 75))
  have dI2 := hd (wc (A 1), 75)
  have dJ2 := hdd (wc (A 1), 75)
  have b2 : (hput h1 n2 (wc (A 1), 75)) n2 = some (wc (A 1), 75) := hput_same ..
  have b1' := b1
  have b1 : (hput h1 n2 (wc (A 1), 75)) n1 = some (wc (A 0), 75) := he _ _ _ b1
  have nf2 := ext_no he
  have n12 := ne_of b1' nf2
  clear b1'
  clear he hd hdd
  generalize hput h1 n2 (wc (A 1), 75) = h2 at *
  refine arg_okM (i := 2) M ((Ext.j2 eI2 dI2 (Ext.refl hm)).trans (Ext.jl _ _)) (by decide) ?_
  rw [P.hA]; conv => whnf
  refine BoxX.jj dI2 dJ2 fun n3 he hd hdd => ?_; conv => whnf
  refine Ob.mk ⟨rfl, rfl⟩ ?_; conv => whnf
  refine StoreX.fr (StoreX.jx (x := wc (A 2)) (Nat.le_of_ble_eq_true rfl) rfl ?_); conv => whnf
  have eI := eI2.trans (he (wc (A 2), 75))
  have dI := hd (wc (A 2), 75)
  have dJ := hdd (wc (A 2), 75)
  have b3 : (hput h2 n3 (wc (A 2), 75)) n3 = some (wc (A 2), 75) := hput_same ..
  have b2' := b2
  have b2 : (hput h2 n3 (wc (A 2), 75)) n2 = some (wc (A 1), 75) := he _ _ _ b2
  have n23 := ne_of b2' (ext_no he)
  clear b2'
  have b1' := b1
  have b1 : (hput h2 n3 (wc (A 2), 75)) n1 = some (wc (A 0), 75) := he _ _ _ b1
  have nf3 := ext_no he
  have n13 := ne_of b1' nf3
  clear b1'
  clear he hd hdd
  generalize hput h2 n3 (wc (A 2), 75) = h3 at *
  have hMe : Ext (join hi hm) (join (join h3 hm) hb) := (Ext.j2 eI dI (Ext.refl hm)).trans (Ext.jl _ _)
  have hbE := M.blk hMe
  have hbJ := M.blk (Ext.j2 eI dI (Ext.refl hm))
  refine opcodeM_ok M hMe ?_
  rw [P.ho]; conv => whnf
  repeat (first | (refine CondX.tt ?_; conv => whnf) | (refine CondX.ff ?_; conv => whnf))
  refine LoadX.fx hbE (1803 + t * 65 + 54) rfl (by omega) (mR_is h7) ?_; conv => whnf
  repeat (first | (refine CondX.tt ?_; conv => whnf) | (refine CondX.ff ?_; conv => whnf))
  have hsrc := F.input
  refine LoadX.all (c := wc (A 2)) (join_l (join_l b3)) rfl ?_; conv => whnf
  refine eIsZero_ok (q 2) ?_; conv => whnf
  by_cases hz : A 2 = 0
  · rw [decide_eq_true hz]
    repeat (first | (refine CondX.tt ?_; conv => whnf) | (refine CondX.ff ?_; conv => whnf))
    have B2 := X.mm.top
    refine settleN_w (x := 0) (tk := 3) (st := 1) eI dI dJ M (Int.ofNat_le.1 P.sp) (by omega) fun hm2 g1 g2 M2 => ?_; conv => whnf
    refine RetX.drop (h' := join (join hi hm2) hb) (Ext.jj eI g1 g2) (fin_eff X (T := 3) rfl rfl (by omega) rfl M2 (Dj.back (Ext.j2 eI g1 (Ext.refl hm2)) g2) (Ext.refl hi) (fun _ h => h) B2 rfl ?_ P.R' hk)
    rw [opA_eq P.hA (T := 3) rfl]
    show cpM (mems t) (A 0) (m.fr t).input (A 1) (A 2) = _
    unfold cpM; rw [if_pos (by omega)]
  · rw [decide_eq_false hz]
    repeat (first | (refine CondX.tt ?_; conv => whnf) | (refine CondX.ff ?_; conv => whnf))
    have hfit := hft hz
    refine DrawX.go T_ok hM Hval.func190 (tb := dr190) rfl (by kernel_rfl) ?_; conv => whnf
    refine LoadX.all (c := wc (A 0)) (join_l (join_l b1)) rfl ?_; conv => whnf
    refine LoadX.all (c := wc (A 1)) (join_l (join_l b2)) rfl ?_; conv => whnf
    refine LoadX.all (c := wc (A 2)) (join_l (join_l b3)) rfl ?_; conv => whnf
    refine small_okM (q 0) (by omega) ?_; conv => whnf
    repeat (refine Ob.mk (by first | exact ldV_all (c := wc (A 0)) (join_l (join_l b1)) rfl | exact ldV_all (c := wc (A 1)) (join_l (join_l b2)) rfl | exact ldV_all (c := wc (A 2)) (join_l (join_l b3)) rfl) ?_; conv => whnf)
    refine source_ok (q 1) ?_; conv => whnf
    repeat (refine Ob.mk (by first | exact ldV_all (c := wc (A 0)) (join_l (join_l b1)) rfl | exact ldV_all (c := wc (A 1)) (join_l (join_l b2)) rfl | exact ldV_all (c := wc (A 2)) (join_l (join_l b3)) rfl) ?_; conv => whnf)
    refine small_okM (q 2) (by omega) ?_; conv => whnf
    repeat (refine Ob.mk (by first | exact ldV_all (c := wc (A 0)) (join_l (join_l b1)) rfl | exact ldV_all (c := wc (A 1)) (join_l (join_l b2)) rfl | exact ldV_all (c := wc (A 2)) (join_l (join_l b3)) rfl) ?_; conv => whnf)
    refine awrite_ok (off := A 0) (n := A 2) (fr := srcI (A 1)) hbJ X.mm.top dJ h7 (by omega) hfit ((hsrc.ext eI).ext (Ext.jl h3 hm)) (srcI_lt _) fun hb2 d2 B2 => ?_; conv => whnf
    repeat (refine Ob.mk (by first | exact ldV_all (c := wc (A 0)) (join_l (join_l b1)) rfl | exact ldV_all (c := wc (A 1)) (join_l (join_l b2)) rfl | exact ldV_all (c := wc (A 2)) (join_l (join_l b3)) rfl) ?_; conv => whnf)
    repeat (first | (refine CondX.tt ?_; conv => whnf) | (refine CondX.ff ?_; conv => whnf))
    refine settleN_w (x := 0) (tk := 3) (st := 1) eI dI d2 M (Int.ofNat_le.1 P.sp) (by omega) fun hm2 g1 g2 M2 => ?_; conv => whnf
    refine RetX.drop (h' := join (join hi hm2) hb2) (Ext.jj eI g1 g2) (fin_eff X (T := 3) rfl rfl (by omega) rfl M2 (Dj.back (Ext.j2 eI g1 (Ext.refl hm2)) g2) (Ext.refl hi) (fun _ h => h) B2 rfl ?_ P.R' hk)
    rw [opA_eq P.hA (T := 3) rfl]
    show cpM (mems t) (A 0) (m.fr t).input (A 1) (A 2) = _
    unfold cpM
    rw [if_neg (by omega), srcI_cut hsrc.room hsrc.len, Int.toNat_natCast, Int.toNat_natCast, writeI_ovl (by rw [cutN_length]; exact hfit) (by intro hh; have := congrArg List.length hh; rw [cutN_length, List.length_nil] at this; omega)]
set_option maxRecDepth 100000 in
set_option maxHeartbeats 4000000 in
theorem x_57 (P : OpS hi hm hb eb m t w sn v mems stale 57 A S S') (hk : PlK hi eb m t w sn mems orig 57 S' s0 l0 K) : CallX Hval.prog 190 [.pointer (some ⟨eb, 0, none⟩)] (join (join hi hm) hb) K := by
  have hft : A 2 ≠ 0 → A 0 + A 2 ≤ (mems t).length := fun h1 => by
    have := P.fit
    have e : reachI 57 (fun i => (A i : Int)) = endI (A 0) (A 2) := rfl
    rw [e] at this
    unfold endI at this
    rw [if_neg (by omega)] at this
    omega
  have X := P.X
  have M := X.M
  have h7 := M.t7
  have F := M.f
  have q : ∀ i, (A i : Int) < W := fun i => P.hA i ▸ (argM_W M i).2
  have hs64 := F.sp
  have hpc := P.pc
  have hmf := X.mm.top.few
  simp only [List.length_append] at hmf
  have hrm := P.R.room (by have := P.le; have := P.hS; omega)
  refine CallX.of_xf T_ok Hval.func190 rfl (by kernel_rfl) (Nat.le_of_ble_eq_true rfl) ?_; conv => whnf
  refine running_ok M (Ext.jl _ _) ?_; conv => whnf
  repeat (first | (refine CondX.tt ?_; conv => whnf) | (refine CondX.ff ?_; conv => whnf))
  refine arg_okM (i := 0) M (Ext.jl _ _) (by decide) ?_
  rw [P.hA]; conv => whnf
  refine BoxX.jj M.A.V.dj X.dj fun n1 he hd hdd => ?_; conv => whnf
  refine Ob.mk ⟨rfl, rfl⟩ ?_; conv => whnf
  refine StoreX.fr (StoreX.jx (x := wc (A 0)) (Nat.le_of_ble_eq_true rfl) rfl ?_); conv => whnf
  have eI1 := he (wc (A 0), 75)
  have dI1 := hd (wc (A 0), 75)
  have dJ1 := hdd (wc (A 0), 75)
  have b1 : (hput hi n1 (wc (A 0), 75)) n1 = some (wc (A 0), 75) := hput_same ..
  have nf1 := ext_no he
  clear he hd hdd
  generalize hput hi n1 (wc (A 0), 75) = h1 at *
  refine arg_okM (i := 1) M ((Ext.j2 eI1 dI1 (Ext.refl hm)).trans (Ext.jl _ _)) (by decide) ?_
  rw [P.hA]; conv => whnf
  refine BoxX.jj dI1 dJ1 fun n2 he hd hdd => ?_; conv => whnf
  refine Ob.mk ⟨rfl, rfl⟩ ?_; conv => whnf
  refine StoreX.fr (StoreX.jx (x := wc (A 1)) (Nat.le_of_ble_eq_true rfl) rfl ?_); conv => whnf
  have eI2 := eI1.trans (he (wc (A 1), 75))
  have dI2 := hd (wc (A 1), 75)
  have dJ2 := hdd (wc (A 1), 75)
  have b2 : (hput h1 n2 (wc (A 1), 75)) n2 = some (wc (A 1), 75) := hput_same ..
  have b1' := b1
  have b1 : (hput h1 n2 (wc (A 1), 75)) n1 = some (wc (A 0), 75) := he _ _ _ b1
  have nf2 := ext_no he
  have n12 := ne_of b1' nf2
  clear b1'
  clear he hd hdd
  generalize hput h1 n2 (wc (A 1), 75) = h2 at *
  refine arg_okM (i := 2) M ((Ext.j2 eI2 dI2 (Ext.refl hm)).trans (Ext.jl _ _)) (by decide) ?_
  rw [P.hA]; conv => whnf
  refine BoxX.jj dI2 dJ2 fun n3 he hd hdd => ?_; conv => whnf
  refine Ob.mk ⟨rfl, rfl⟩ ?_; conv => whnf
  refine StoreX.fr (StoreX.jx (x := wc (A 2)) (Nat.le_of_ble_eq_true rfl) rfl ?_); conv => whnf
  have eI := eI2.trans (he (wc (A 2), 75))
  have dI := hd (wc (A 2), 75)
  have dJ := hdd (wc (A 2), 75)
  have b3 : (hput h2 n3 (wc (A 2), 75)) n3 = some (wc (A 2), 75) := hput_same ..
  have b2' := b2
  have b2 : (hput h2 n3 (wc (A 2), 75)) n2 = some (wc (A 1), 75) := he _ _ _ b2
  have n23 := ne_of b2' (ext_no he)
  clear b2'
  have b1' := b1
  have b1 : (hput h2 n3 (wc (A 2), 75)) n1 = some (wc (A 0), 75) := he _ _ _ b1
  have nf3 := ext_no he
  have n13 := ne_of b1' nf3
  clear b1'
  clear he hd hdd
  generalize hput h2 n3 (wc (A 2), 75) = h3 at *
  have hMe : Ext (join hi hm) (join (join h3 hm) hb) := (Ext.j2 eI dI (Ext.refl hm)).trans (Ext.jl _ _)
  have hbE := M.blk hMe
  have hbJ := M.blk (Ext.j2 eI dI (Ext.refl hm))
  refine opcodeM_ok M hMe ?_
  rw [P.ho]; conv => whnf
  repeat (first | (refine CondX.tt ?_; conv => whnf) | (refine CondX.ff ?_; conv => whnf))
  refine LoadX.fx hbE (1803 + t * 65 + 53) rfl (by omega) (mR_cs h7) ?_; conv => whnf
  repeat (first | (refine CondX.tt ?_; conv => whnf) | (refine CondX.ff ?_; conv => whnf))
  have hsrc := F.code
  refine LoadX.all (c := wc (A 2)) (join_l (join_l b3)) rfl ?_; conv => whnf
  refine eIsZero_ok (q 2) ?_; conv => whnf
  by_cases hz : A 2 = 0
  · rw [decide_eq_true hz]
    repeat (first | (refine CondX.tt ?_; conv => whnf) | (refine CondX.ff ?_; conv => whnf))
    have B2 := X.mm.top
    refine settleN_w (x := 0) (tk := 3) (st := 1) eI dI dJ M (Int.ofNat_le.1 P.sp) (by omega) fun hm2 g1 g2 M2 => ?_; conv => whnf
    refine RetX.drop (h' := join (join hi hm2) hb) (Ext.jj eI g1 g2) (fin_eff X (T := 3) rfl rfl (by omega) rfl M2 (Dj.back (Ext.j2 eI g1 (Ext.refl hm2)) g2) (Ext.refl hi) (fun _ h => h) B2 rfl ?_ P.R' hk)
    rw [opA_eq P.hA (T := 3) rfl]
    show cpM (mems t) (A 0) (m.fr t).code (A 1) (A 2) = _
    unfold cpM; rw [if_pos (by omega)]
  · rw [decide_eq_false hz]
    repeat (first | (refine CondX.tt ?_; conv => whnf) | (refine CondX.ff ?_; conv => whnf))
    have hfit := hft hz
    refine DrawX.go T_ok hM Hval.func190 (tb := dr190) rfl (by kernel_rfl) ?_; conv => whnf
    refine LoadX.all (c := wc (A 0)) (join_l (join_l b1)) rfl ?_; conv => whnf
    refine LoadX.all (c := wc (A 1)) (join_l (join_l b2)) rfl ?_; conv => whnf
    refine LoadX.all (c := wc (A 2)) (join_l (join_l b3)) rfl ?_; conv => whnf
    refine small_okM (q 0) (by omega) ?_; conv => whnf
    repeat (refine Ob.mk (by first | exact ldV_all (c := wc (A 0)) (join_l (join_l b1)) rfl | exact ldV_all (c := wc (A 1)) (join_l (join_l b2)) rfl | exact ldV_all (c := wc (A 2)) (join_l (join_l b3)) rfl) ?_; conv => whnf)
    refine source_ok (q 1) ?_; conv => whnf
    repeat (refine Ob.mk (by first | exact ldV_all (c := wc (A 0)) (join_l (join_l b1)) rfl | exact ldV_all (c := wc (A 1)) (join_l (join_l b2)) rfl | exact ldV_all (c := wc (A 2)) (join_l (join_l b3)) rfl) ?_; conv => whnf)
    refine small_okM (q 2) (by omega) ?_; conv => whnf
    repeat (refine Ob.mk (by first | exact ldV_all (c := wc (A 0)) (join_l (join_l b1)) rfl | exact ldV_all (c := wc (A 1)) (join_l (join_l b2)) rfl | exact ldV_all (c := wc (A 2)) (join_l (join_l b3)) rfl) ?_; conv => whnf)
    refine awrite_ok (off := A 0) (n := A 2) (fr := srcI (A 1)) hbJ X.mm.top dJ h7 (by omega) hfit ((hsrc.ext eI).ext (Ext.jl h3 hm)) (srcI_lt _) fun hb2 d2 B2 => ?_; conv => whnf
    repeat (refine Ob.mk (by first | exact ldV_all (c := wc (A 0)) (join_l (join_l b1)) rfl | exact ldV_all (c := wc (A 1)) (join_l (join_l b2)) rfl | exact ldV_all (c := wc (A 2)) (join_l (join_l b3)) rfl) ?_; conv => whnf)
    repeat (first | (refine CondX.tt ?_; conv => whnf) | (refine CondX.ff ?_; conv => whnf))
    refine settleN_w (x := 0) (tk := 3) (st := 1) eI dI d2 M (Int.ofNat_le.1 P.sp) (by omega) fun hm2 g1 g2 M2 => ?_; conv => whnf
    refine RetX.drop (h' := join (join hi hm2) hb2) (Ext.jj eI g1 g2) (fin_eff X (T := 3) rfl rfl (by omega) rfl M2 (Dj.back (Ext.j2 eI g1 (Ext.refl hm2)) g2) (Ext.refl hi) (fun _ h => h) B2 rfl ?_ P.R' hk)
    rw [opA_eq P.hA (T := 3) rfl]
    show cpM (mems t) (A 0) (m.fr t).code (A 1) (A 2) = _
    unfold cpM
    rw [if_neg (by omega), srcI_cut hsrc.room hsrc.len, Int.toNat_natCast, Int.toNat_natCast, writeI_ovl (by rw [cutN_length]; exact hfit) (by intro hh; have := congrArg List.length hh; rw [cutN_length, List.length_nil] at this; omega)]
set_option maxRecDepth 100000 in
set_option maxHeartbeats 4000000 in
theorem x_62 (P : OpS hi hm hb eb m t w sn v mems stale 62 A S S') (hk : PlK hi eb m t w sn mems orig 62 S' s0 l0 K) : CallX Hval.prog 190 [.pointer (some ⟨eb, 0, none⟩)] (join (join hi hm) hb) K := by
  have hft : A 2 ≠ 0 → A 0 + A 2 ≤ (mems t).length := fun h1 => by
    have := P.fit
    have e : reachI 62 (fun i => (A i : Int)) = endI (A 0) (A 2) := rfl
    rw [e] at this
    unfold endI at this
    rw [if_neg (by omega)] at this
    omega
  have X := P.X
  have M := X.M
  have h7 := M.t7
  have F := M.f
  have q : ∀ i, (A i : Int) < W := fun i => P.hA i ▸ (argM_W M i).2
  have hs64 := F.sp
  have hpc := P.pc
  have hmf := X.mm.top.few
  simp only [List.length_append] at hmf
  have hrm := P.R.room (by have := P.le; have := P.hS; omega)
  refine CallX.of_xf T_ok Hval.func190 rfl (by kernel_rfl) (Nat.le_of_ble_eq_true rfl) ?_; conv => whnf
  refine running_ok M (Ext.jl _ _) ?_; conv => whnf
  repeat (first | (refine CondX.tt ?_; conv => whnf) | (refine CondX.ff ?_; conv => whnf))
  refine arg_okM (i := 0) M (Ext.jl _ _) (by decide) ?_
  rw [P.hA]; conv => whnf
  refine BoxX.jj M.A.V.dj X.dj fun n1 he hd hdd => ?_; conv => whnf
  refine Ob.mk ⟨rfl, rfl⟩ ?_; conv => whnf
  refine StoreX.fr (StoreX.jx (x := wc (A 0)) (Nat.le_of_ble_eq_true rfl) rfl ?_); conv => whnf
  have eI1 := he (wc (A 0), 75)
  have dI1 := hd (wc (A 0), 75)
  have dJ1 := hdd (wc (A 0), 75)
  have b1 : (hput hi n1 (wc (A 0), 75)) n1 = some (wc (A 0), 75) := hput_same ..
  have nf1 := ext_no he
  clear he hd hdd
  generalize hput hi n1 (wc (A 0), 75) = h1 at *
  refine arg_okM (i := 1) M ((Ext.j2 eI1 dI1 (Ext.refl hm)).trans (Ext.jl _ _)) (by decide) ?_
  rw [P.hA]; conv => whnf
  refine BoxX.jj dI1 dJ1 fun n2 he hd hdd => ?_; conv => whnf
  refine Ob.mk ⟨rfl, rfl⟩ ?_; conv => whnf
  refine StoreX.fr (StoreX.jx (x := wc (A 1)) (Nat.le_of_ble_eq_true rfl) rfl ?_); conv => whnf
  have eI2 := eI1.trans (he (wc (A 1), 75))
  have dI2 := hd (wc (A 1), 75)
  have dJ2 := hdd (wc (A 1), 75)
  have b2 : (hput h1 n2 (wc (A 1), 75)) n2 = some (wc (A 1), 75) := hput_same ..
  have b1' := b1
  have b1 : (hput h1 n2 (wc (A 1), 75)) n1 = some (wc (A 0), 75) := he _ _ _ b1
  have nf2 := ext_no he
  have n12 := ne_of b1' nf2
  clear b1'
  clear he hd hdd
  generalize hput h1 n2 (wc (A 1), 75) = h2 at *
  refine arg_okM (i := 2) M ((Ext.j2 eI2 dI2 (Ext.refl hm)).trans (Ext.jl _ _)) (by decide) ?_
  rw [P.hA]; conv => whnf
  refine BoxX.jj dI2 dJ2 fun n3 he hd hdd => ?_; conv => whnf
  refine Ob.mk ⟨rfl, rfl⟩ ?_; conv => whnf
  refine StoreX.fr (StoreX.jx (x := wc (A 2)) (Nat.le_of_ble_eq_true rfl) rfl ?_); conv => whnf
  have eI := eI2.trans (he (wc (A 2), 75))
  have dI := hd (wc (A 2), 75)
  have dJ := hdd (wc (A 2), 75)
  have b3 : (hput h2 n3 (wc (A 2), 75)) n3 = some (wc (A 2), 75) := hput_same ..
  have b2' := b2
  have b2 : (hput h2 n3 (wc (A 2), 75)) n2 = some (wc (A 1), 75) := he _ _ _ b2
  have n23 := ne_of b2' (ext_no he)
  clear b2'
  have b1' := b1
  have b1 : (hput h2 n3 (wc (A 2), 75)) n1 = some (wc (A 0), 75) := he _ _ _ b1
  have nf3 := ext_no he
  have n13 := ne_of b1' nf3
  clear b1'
  clear he hd hdd
  generalize hput h2 n3 (wc (A 2), 75) = h3 at *
  have hMe : Ext (join hi hm) (join (join h3 hm) hb) := (Ext.j2 eI dI (Ext.refl hm)).trans (Ext.jl _ _)
  have hbE := M.blk hMe
  have hbJ := M.blk (Ext.j2 eI dI (Ext.refl hm))
  refine opcodeM_ok M hMe ?_
  rw [P.ho]; conv => whnf
  repeat (first | (refine CondX.tt ?_; conv => whnf) | (refine CondX.ff ?_; conv => whnf))
  refine LoadX.fx hbE 2259 rfl (by omega) mR_ret ?_; conv => whnf
  repeat (first | (refine CondX.tt ?_; conv => whnf) | (refine CondX.ff ?_; conv => whnf))
  have hsrc := M.ret
  refine LoadX.all (c := wc (A 2)) (join_l (join_l b3)) rfl ?_; conv => whnf
  refine eIsZero_ok (q 2) ?_; conv => whnf
  by_cases hz : A 2 = 0
  · rw [decide_eq_true hz]
    repeat (first | (refine CondX.tt ?_; conv => whnf) | (refine CondX.ff ?_; conv => whnf))
    have B2 := X.mm.top
    refine settleN_w (x := 0) (tk := 3) (st := 1) eI dI dJ M (Int.ofNat_le.1 P.sp) (by omega) fun hm2 g1 g2 M2 => ?_; conv => whnf
    refine RetX.drop (h' := join (join hi hm2) hb) (Ext.jj eI g1 g2) (fin_eff X (T := 3) rfl rfl (by omega) rfl M2 (Dj.back (Ext.j2 eI g1 (Ext.refl hm2)) g2) (Ext.refl hi) (fun _ h => h) B2 rfl ?_ P.R' hk)
    rw [opA_eq P.hA (T := 3) rfl]
    show cpM (mems t) (A 0) m.ret (A 1) (A 2) = _
    unfold cpM; rw [if_pos (by omega)]
  · rw [decide_eq_false hz]
    repeat (first | (refine CondX.tt ?_; conv => whnf) | (refine CondX.ff ?_; conv => whnf))
    have hfit := hft hz
    refine DrawX.go T_ok hM Hval.func190 (tb := dr190) rfl (by kernel_rfl) ?_; conv => whnf
    refine LoadX.all (c := wc (A 0)) (join_l (join_l b1)) rfl ?_; conv => whnf
    refine LoadX.all (c := wc (A 1)) (join_l (join_l b2)) rfl ?_; conv => whnf
    refine LoadX.all (c := wc (A 2)) (join_l (join_l b3)) rfl ?_; conv => whnf
    refine small_okM (q 0) (by omega) ?_; conv => whnf
    repeat (refine Ob.mk (by first | exact ldV_all (c := wc (A 0)) (join_l (join_l b1)) rfl | exact ldV_all (c := wc (A 1)) (join_l (join_l b2)) rfl | exact ldV_all (c := wc (A 2)) (join_l (join_l b3)) rfl) ?_; conv => whnf)
    refine source_ok (q 1) ?_; conv => whnf
    repeat (refine Ob.mk (by first | exact ldV_all (c := wc (A 0)) (join_l (join_l b1)) rfl | exact ldV_all (c := wc (A 1)) (join_l (join_l b2)) rfl | exact ldV_all (c := wc (A 2)) (join_l (join_l b3)) rfl) ?_; conv => whnf)
    refine small_okM (q 2) (by omega) ?_; conv => whnf
    repeat (refine Ob.mk (by first | exact ldV_all (c := wc (A 0)) (join_l (join_l b1)) rfl | exact ldV_all (c := wc (A 1)) (join_l (join_l b2)) rfl | exact ldV_all (c := wc (A 2)) (join_l (join_l b3)) rfl) ?_; conv => whnf)
    refine awrite_ok (off := A 0) (n := A 2) (fr := srcI (A 1)) hbJ X.mm.top dJ h7 (by omega) hfit ((hsrc.ext eI).ext (Ext.jl h3 hm)) (srcI_lt _) fun hb2 d2 B2 => ?_; conv => whnf
    repeat (refine Ob.mk (by first | exact ldV_all (c := wc (A 0)) (join_l (join_l b1)) rfl | exact ldV_all (c := wc (A 1)) (join_l (join_l b2)) rfl | exact ldV_all (c := wc (A 2)) (join_l (join_l b3)) rfl) ?_; conv => whnf)
    repeat (first | (refine CondX.tt ?_; conv => whnf) | (refine CondX.ff ?_; conv => whnf))
    refine settleN_w (x := 0) (tk := 3) (st := 1) eI dI d2 M (Int.ofNat_le.1 P.sp) (by omega) fun hm2 g1 g2 M2 => ?_; conv => whnf
    refine RetX.drop (h' := join (join hi hm2) hb2) (Ext.jj eI g1 g2) (fin_eff X (T := 3) rfl rfl (by omega) rfl M2 (Dj.back (Ext.j2 eI g1 (Ext.refl hm2)) g2) (Ext.refl hi) (fun _ h => h) B2 rfl ?_ P.R' hk)
    rw [opA_eq P.hA (T := 3) rfl]
    show cpM (mems t) (A 0) m.ret (A 1) (A 2) = _
    unfold cpM
    rw [if_neg (by omega), srcI_cut hsrc.room hsrc.len, Int.toNat_natCast, Int.toNat_natCast, writeI_ovl (by rw [cutN_length]; exact hfit) (by intro hh; have := congrArg List.length hh; rw [cutN_length, List.length_nil] at this; omega)]
set_option maxRecDepth 100000 in
set_option maxHeartbeats 4000000 in
theorem x_94 (P : OpS hi hm hb eb m t w sn v mems stale 94 A S S') (hk : PlK hi eb m t w sn mems orig 94 S' s0 l0 K) : CallX Hval.prog 190 [.pointer (some ⟨eb, 0, none⟩)] (join (join hi hm) hb) K := by
  have hft : A 2 ≠ 0 → A 0 + A 2 ≤ (mems t).length ∧ A 1 + A 2 ≤ (mems t).length := fun h1 => by
    have := P.fit
    have e : reachI 94 (fun i => (A i : Int)) = max (endI (A 0) (A 2)) (endI (A 1) (A 2)) := rfl
    rw [e] at this
    unfold endI at this
    rw [if_neg (by omega), if_neg (by omega)] at this
    omega
  have X := P.X
  have M := X.M
  have h7 := M.t7
  have F := M.f
  have q : ∀ i, (A i : Int) < W := fun i => P.hA i ▸ (argM_W M i).2
  have hs64 := F.sp
  have hpc := P.pc
  have hmf := X.mm.top.few
  simp only [List.length_append] at hmf
  have hrm := P.R.room (by have := P.le; have := P.hS; omega)
  refine CallX.of_xf T_ok Hval.func190 rfl (by kernel_rfl) (Nat.le_of_ble_eq_true rfl) ?_; conv => whnf
  refine running_ok M (Ext.jl _ _) ?_; conv => whnf
  repeat (first | (refine CondX.tt ?_; conv => whnf) | (refine CondX.ff ?_; conv => whnf))
  refine arg_okM (i := 0) M (Ext.jl _ _) (by decide) ?_
  rw [P.hA]; conv => whnf
  refine BoxX.jj M.A.V.dj X.dj fun n1 he hd hdd => ?_; conv => whnf
  refine Ob.mk ⟨rfl, rfl⟩ ?_; conv => whnf
  refine StoreX.fr (StoreX.jx (x := wc (A 0)) (Nat.le_of_ble_eq_true rfl) rfl ?_); conv => whnf
  have eI1 := he (wc (A 0), 75)
  have dI1 := hd (wc (A 0), 75)
  have dJ1 := hdd (wc (A 0), 75)
  have b1 : (hput hi n1 (wc (A 0), 75)) n1 = some (wc (A 0), 75) := hput_same ..
  have nf1 := ext_no he
  clear he hd hdd
  generalize hput hi n1 (wc (A 0), 75) = h1 at *
  refine arg_okM (i := 1) M ((Ext.j2 eI1 dI1 (Ext.refl hm)).trans (Ext.jl _ _)) (by decide) ?_
  rw [P.hA]; conv => whnf
  refine BoxX.jj dI1 dJ1 fun n2 he hd hdd => ?_; conv => whnf
  refine Ob.mk ⟨rfl, rfl⟩ ?_; conv => whnf
  refine StoreX.fr (StoreX.jx (x := wc (A 1)) (Nat.le_of_ble_eq_true rfl) rfl ?_); conv => whnf
  have eI2 := eI1.trans (he (wc (A 1), 75))
  have dI2 := hd (wc (A 1), 75)
  have dJ2 := hdd (wc (A 1), 75)
  have b2 : (hput h1 n2 (wc (A 1), 75)) n2 = some (wc (A 1), 75) := hput_same ..
  have b1' := b1
  have b1 : (hput h1 n2 (wc (A 1), 75)) n1 = some (wc (A 0), 75) := he _ _ _ b1
  have nf2 := ext_no he
  have n12 := ne_of b1' nf2
  clear b1'
  clear he hd hdd
  generalize hput h1 n2 (wc (A 1), 75) = h2 at *
  refine arg_okM (i := 2) M ((Ext.j2 eI2 dI2 (Ext.refl hm)).trans (Ext.jl _ _)) (by decide) ?_
  rw [P.hA]; conv => whnf
  refine BoxX.jj dI2 dJ2 fun n3 he hd hdd => ?_; conv => whnf
  refine Ob.mk ⟨rfl, rfl⟩ ?_; conv => whnf
  refine StoreX.fr (StoreX.jx (x := wc (A 2)) (Nat.le_of_ble_eq_true rfl) rfl ?_); conv => whnf
  have eI := eI2.trans (he (wc (A 2), 75))
  have dI := hd (wc (A 2), 75)
  have dJ := hdd (wc (A 2), 75)
  have b3 : (hput h2 n3 (wc (A 2), 75)) n3 = some (wc (A 2), 75) := hput_same ..
  have b2' := b2
  have b2 : (hput h2 n3 (wc (A 2), 75)) n2 = some (wc (A 1), 75) := he _ _ _ b2
  have n23 := ne_of b2' (ext_no he)
  clear b2'
  have b1' := b1
  have b1 : (hput h2 n3 (wc (A 2), 75)) n1 = some (wc (A 0), 75) := he _ _ _ b1
  have nf3 := ext_no he
  have n13 := ne_of b1' nf3
  clear b1'
  clear he hd hdd
  generalize hput h2 n3 (wc (A 2), 75) = h3 at *
  have hMe : Ext (join hi hm) (join (join h3 hm) hb) := (Ext.j2 eI dI (Ext.refl hm)).trans (Ext.jl _ _)
  have hbE := M.blk hMe
  have hbJ := M.blk (Ext.j2 eI dI (Ext.refl hm))
  refine opcodeM_ok M hMe ?_
  rw [P.ho]; conv => whnf
  repeat (first | (refine CondX.tt ?_; conv => whnf) | (refine CondX.ff ?_; conv => whnf))
  refine DrawX.go T_ok hM Hval.func190 (tb := dr190) rfl (by kernel_rfl) ?_; conv => whnf
  refine LoadX.all (c := wc (A 2)) (join_l (join_l b3)) rfl ?_; conv => whnf
  refine eIsZero_ok (q 2) ?_; conv => whnf
  repeat (refine Ob.mk (by first | exact ldV_all (c := wc (A 0)) (join_l (join_l b1)) rfl | exact ldV_all (c := wc (A 1)) (join_l (join_l b2)) rfl | exact ldV_all (c := wc (A 2)) (join_l (join_l b3)) rfl) ?_; conv => whnf)
  by_cases hz : A 2 = 0
  · rw [decide_eq_true hz]
    repeat (first | (refine CondX.tt ?_; conv => whnf) | (refine CondX.ff ?_; conv => whnf))
    have B2 := X.mm.top
    refine settleN_w (x := 0) (tk := 3) (st := 1) eI dI dJ M (Int.ofNat_le.1 P.sp) (by omega) fun hm2 g1 g2 M2 => ?_; conv => whnf
    refine RetX.drop (h' := join (join hi hm2) hb) (Ext.jj eI g1 g2) (fin_eff X (T := 3) rfl rfl (by omega) rfl M2 (Dj.back (Ext.j2 eI g1 (Ext.refl hm2)) g2) (Ext.refl hi) (fun _ h => h) B2 rfl ?_ P.R' hk)
    rw [opA_eq P.hA (T := 3) rfl]
    show cpM (mems t) (A 0) (mems t) (A 1) (A 2) = _
    unfold cpM; rw [if_pos (by omega)]
  · rw [decide_eq_false hz]
    repeat (first | (refine CondX.tt ?_; conv => whnf) | (refine CondX.ff ?_; conv => whnf))
    obtain ⟨hf1, hf2⟩ := hft hz
    refine LoadX.all (c := wc (A 0)) (join_l (join_l b1)) rfl ?_; conv => whnf
    repeat (first | (refine CondX.tt ?_; conv => whnf) | (refine CondX.ff ?_; conv => whnf))
    refine LoadX.all (c := wc (A 1)) (join_l (join_l b2)) rfl ?_; conv => whnf
    repeat (first | (refine CondX.tt ?_; conv => whnf) | (refine CondX.ff ?_; conv => whnf))
    refine LoadX.all (c := wc (A 2)) (join_l (join_l b3)) rfl ?_; conv => whnf
    repeat (first | (refine CondX.tt ?_; conv => whnf) | (refine CondX.ff ?_; conv => whnf))
    refine small_okM (q 0) (by omega) ?_; conv => whnf
    repeat (refine Ob.mk (by first | exact ldV_all (c := wc (A 0)) (join_l (join_l b1)) rfl | exact ldV_all (c := wc (A 1)) (join_l (join_l b2)) rfl | exact ldV_all (c := wc (A 2)) (join_l (join_l b3)) rfl) ?_; conv => whnf)
    repeat (first | (refine CondX.tt ?_; conv => whnf) | (refine CondX.ff ?_; conv => whnf))
    refine small_okM (q 1) (by omega) ?_; conv => whnf
    repeat (refine Ob.mk (by first | exact ldV_all (c := wc (A 0)) (join_l (join_l b1)) rfl | exact ldV_all (c := wc (A 1)) (join_l (join_l b2)) rfl | exact ldV_all (c := wc (A 2)) (join_l (join_l b3)) rfl) ?_; conv => whnf)
    repeat (first | (refine CondX.tt ?_; conv => whnf) | (refine CondX.ff ?_; conv => whnf))
    refine small_okM (q 2) (by omega) ?_; conv => whnf
    repeat (refine Ob.mk (by first | exact ldV_all (c := wc (A 0)) (join_l (join_l b1)) rfl | exact ldV_all (c := wc (A 1)) (join_l (join_l b2)) rfl | exact ldV_all (c := wc (A 2)) (join_l (join_l b3)) rfl) ?_; conv => whnf)
    repeat (first | (refine CondX.tt ?_; conv => whnf) | (refine CondX.ff ?_; conv => whnf))
    refine amove_ok (dst := A 0) (src := A 1) (n := A 2) hbJ X.mm.top dJ h7 (by omega) hf1 hf2 fun hb2 d2 B2 => ?_; conv => whnf
    repeat (refine Ob.mk (by first | exact ldV_all (c := wc (A 0)) (join_l (join_l b1)) rfl | exact ldV_all (c := wc (A 1)) (join_l (join_l b2)) rfl | exact ldV_all (c := wc (A 2)) (join_l (join_l b3)) rfl) ?_; conv => whnf)
    repeat (first | (refine CondX.tt ?_; conv => whnf) | (refine CondX.ff ?_; conv => whnf))
    refine settleN_w (x := 0) (tk := 3) (st := 1) eI dI d2 M (Int.ofNat_le.1 P.sp) (by omega) fun hm2 g1 g2 M2 => ?_; conv => whnf
    refine RetX.drop (h' := join (join hi hm2) hb2) (Ext.jj eI g1 g2) (fin_eff X (T := 3) rfl rfl (by omega) rfl M2 (Dj.back (Ext.j2 eI g1 (Ext.refl hm2)) g2) (Ext.refl hi) (fun _ h => h) B2 rfl ?_ P.R' hk)
    rw [opA_eq P.hA (T := 3) rfl]
    show cpM (mems t) (A 0) (mems t) (A 1) (A 2) = _
    unfold cpM
    rw [if_neg (by omega), Int.toNat_natCast, Int.toNat_natCast, writeI_ovl (by rw [cutN_length]; exact hf1) (by intro hh; have := congrArg List.length hh; rw [cutN_length, List.length_nil] at this; omega), cutN_in hf2]
end
end Go.Proofs.YgvalwGreat.X
