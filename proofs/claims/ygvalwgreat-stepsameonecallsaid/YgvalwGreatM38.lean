import Derived.Test.YgvalwGreatM37
set_option linter.unusedVariables false
set_option linter.unusedSimpArgs false
namespace Go.Proofs.YgvalwGreat.X
open Go


section
variable {hi hi' hm hm' hb hb' h : Hp} {K : Value → Hp → Prop} {v v' : VS} {eb : Nat} {m m' : MS} {t : Nat} {mems : Nat → List Int} {stale stale' mem' orig a : List Int} {w w' : AW} {sn : List AW} {s0 l0 S S' x o : Int} {A : Nat → Nat}
set_option maxRecDepth 100000 in
set_option maxHeartbeats 4000000 in
theorem x_49 (ho1 : o = 49) (P : OpS hi hm hb eb m t w sn v mems stale o A S S') (hk : PlK hi eb m t w sn mems orig o S' s0 l0 K) : CallX Hval.prog 188 [.pointer (some ⟨eb, 0, none⟩)] (join (join hi hm) hb) K := by
  have ho : o = 49 ∨ o = 59 ∨ o = 63 := .inl ho1
  have har : (arI o).1 = (1 : Nat) := by rw [ho1]; rfl
  have X := P.X
  have M := X.M
  have h7 := M.t7
  have q : ∀ i, (A i : Int) < W := fun i => P.hA i ▸ (argM_W M i).2
  have hsp : 1 ≤ (m.fr t).sp := Int.ofNat_le.1 (har ▸ P.sp)
  have hs64 := M.f.sp
  have hpc := P.pc
  have hrm := P.R.room (by have := P.le; have := P.hS; omega)
  have hro := P.room
  refine CallX.fj X.dj ?_
  refine CallX.of_xf T_ok Hval.func188 rfl (by kernel_rfl) (Nat.le_of_ble_eq_true rfl) ?_; conv => whnf
  refine running_ok M (Ext.refl _) ?_; conv => whnf
  repeat (first | (refine CondX.tt ?_; conv => whnf) | (refine CondX.ff ?_; conv => whnf))
  refine arg_okM (i := 0) M (Ext.refl _) (by decide) ?_
  rw [P.hA]; conv => whnf
  refine addrOf_okM (q 0) ?_; conv => whnf
  obtain ⟨ad, ead⟩ : ∃ ad, ad = addrI (A 0) := ⟨_, rfl⟩
  have hal : ad.length = 20 := by rw [ead]; exact addrI_length _
  have haB : isB ad := by rw [ead]; exact isB_addrI _
  rw [← ead]
  have alen : (bcells ad).length = (31, y31).snd.size := by rw [bcells_len, hal]; rfl
  refine BoxX.wj M.A.V.dj fun n1 hd1 he1 => ?_; conv => whnf
  refine Ob.mk ⟨by rw [List.size_toArray, bcells_len, hal]; rfl, ones_bcells _⟩ ?_; conv => whnf
  refine StoreX.jx (x := bcells ad) (by rw [List.toList_toArray, bcells_len, hal]; exact Nat.le_of_ble_eq_true rfl) (setSeg_all (by rw [List.toList_toArray, bcells_len, hal]; rfl)) ?_; conv => whnf
  have eI := he1 (bcells ad, 31)
  have dI := hd1 (bcells ad, 31)
  have bx1 : hput hi n1 (bcells ad, 31) n1 = some (bcells ad, 31) := hput_same ..
  generalize hput hi n1 (bcells ad, 31) = h1 at *
  refine LoadX.all (join_l bx1) alen ?_; conv => whnf
  refine warmAcct_cb eI dI hal haB M (by omega) (by omega) fun hm2 v2 d2 M2 u2 hh2 => ?_; conv => whnf
  repeat (first | (refine CondX.tt ?_; conv => whnf) | (refine CondX.ff ?_; conv => whnf))
  refine BoxX.wj d2 fun n2 hd2 he2 => ?_; conv => whnf
  refine Ob.mk ⟨rfl, rfl⟩ ?_; conv => whnf
  refine StoreX.jx (x := wc 0) (Nat.le_of_ble_eq_true rfl) rfl ?_; conv => whnf
  have hMe : ∀ y, Ext (join hi hm2) (join (hput h1 n2 y) hm2) := fun y => Ext.j2 (eI.trans (he2 y)) (hd2 y) (Ext.refl hm2)
  have bx2 : ∀ y, hput h1 n2 y n1 = some (bcells ad, 31) := fun y => he2 y _ _ bx1
  refine opcodeM_ok M2 (hMe _) ?_
  rw [P.ho]; conv => whnf
  repeat (first | (refine CondX.tt ?_; conv => whnf) | (refine CondX.ff ?_; conv => whnf))
  have hwv : valW w (m.fr t).self o (opA (frM m sn mems t) o) = warmW w ad := by rw [opA_eq P.hA (T := 1) har, ead]; unfold valW; rw [if_pos ho]; rfl
  have hRv := P.up u2 (by have := cW_acc (w := w) (a := ad); have e : bareA w (m.fr t).self o (fun i => (A i : Int)) = accA w ad := by { rw [ead]; unfold bareA; rw [if_neg (by omega), if_neg (by omega), if_neg (by omega), if_neg (by omega), if_neg (by omega), if_neg (by omega), if_neg (by omega), if_neg (by omega), if_neg (by omega), if_neg (by omega), if_pos ho] }; rw [e]; exact this)
  refine CondX.eqT ho1 ?_; conv => whnf
  refine DrawX.go T_ok hM Hval.func188 (tb := dr188) rfl (by kernel_rfl) ?_; conv => whnf
  refine LoadX.fx (M2.blk (hMe _)) 0 rfl (by omega) mR_S ?_; conv => whnf
  refine LoadX.all (join_l (bx2 _)) alen ?_; conv => whnf
  refine balance_ok hal haB M2.A (hMe _) ?_; conv => whnf
  repeat (refine Ob.mk (by first | exact ldV_fn (M2.blk (hMe _)) 0 rfl (by omega) | exact ldV_all (join_l (bx2 _)) (by rw [alen])) ?_; conv => whnf)
  obtain ⟨xx, exx⟩ : ∃ xx, ((warmW w ad).acct ad).bal = xx := ⟨_, rfl⟩
  rw [exx]
  have hX : 0 ≤ xx ∧ xx < W := by rw [← exx]; exact (M2.A.balW' ad).1
  refine Ob.mk ⟨rfl, rfl⟩ ?_; conv => whnf
  refine StoreX.jx (x := wc xx) (Nat.le_of_ble_eq_true rfl) (setSeg_all (by rfl)) ?_; conv => whnf
  refine LoadX.all (c := wc xx) (join_l (hput_same ..)) rfl ?_; conv => whnf
  refine settleS_b (tk := 1) (st := 1) (eI.trans (he2 _)) (hd2 _) M2 hsp (by omega) (by omega) hX fun hm3 d3 M3 => ?_; conv => whnf
  refine RetX.drop (h' := join hi hm3) (Ext.j2 (eI.trans (he2 _)) d3 (Ext.refl hm3)) fun dj3 => fin_val X (T := 1) har (by rcases ho with rfl | rfl | rfl <;> rfl) (by omega) (by rcases ho with rfl | rfl | rfl <;> rfl) M3 dj3 (Ext.refl hi) u2.has hwv ?_ hRv hk
  rw [opA_eq P.hA (T := 1) har, ho1, ← exx, ead]
  rfl
set_option maxRecDepth 100000 in
set_option maxHeartbeats 4000000 in
theorem x_59 (ho1 : o = 59) (P : OpS hi hm hb eb m t w sn v mems stale o A S S') (hk : PlK hi eb m t w sn mems orig o S' s0 l0 K) : CallX Hval.prog 188 [.pointer (some ⟨eb, 0, none⟩)] (join (join hi hm) hb) K := by
  have ho : o = 49 ∨ o = 59 ∨ o = 63 := .inr (.inl ho1)
  have har : (arI o).1 = (1 : Nat) := by rw [ho1]; rfl
  have X := P.X
  have M := X.M
  have h7 := M.t7
  have q : ∀ i, (A i : Int) < W := fun i => P.hA i ▸ (argM_W M i).2
  have hsp : 1 ≤ (m.fr t).sp := Int.ofNat_le.1 (har ▸ P.sp)
  have hs64 := M.f.sp
  have hpc := P.pc
  have hrm := P.R.room (by have := P.le; have := P.hS; omega)
  have hro := P.room
  refine CallX.fj X.dj ?_
  refine CallX.of_xf T_ok Hval.func188 rfl (by kernel_rfl) (Nat.le_of_ble_eq_true rfl) ?_; conv => whnf
  refine running_ok M (Ext.refl _) ?_; conv => whnf
  repeat (first | (refine CondX.tt ?_; conv => whnf) | (refine CondX.ff ?_; conv => whnf))
  refine arg_okM (i := 0) M (Ext.refl _) (by decide) ?_
  rw [P.hA]; conv => whnf
  refine addrOf_okM (q 0) ?_; conv => whnf
  obtain ⟨ad, ead⟩ : ∃ ad, ad = addrI (A 0) := ⟨_, rfl⟩
  have hal : ad.length = 20 := by rw [ead]; exact addrI_length _
  have haB : isB ad := by rw [ead]; exact isB_addrI _
  rw [← ead]
  have alen : (bcells ad).length = (31, y31).snd.size := by rw [bcells_len, hal]; rfl
  refine BoxX.wj M.A.V.dj fun n1 hd1 he1 => ?_; conv => whnf
  refine Ob.mk ⟨by rw [List.size_toArray, bcells_len, hal]; rfl, ones_bcells _⟩ ?_; conv => whnf
  refine StoreX.jx (x := bcells ad) (by rw [List.toList_toArray, bcells_len, hal]; exact Nat.le_of_ble_eq_true rfl) (setSeg_all (by rw [List.toList_toArray, bcells_len, hal]; rfl)) ?_; conv => whnf
  have eI := he1 (bcells ad, 31)
  have dI := hd1 (bcells ad, 31)
  have bx1 : hput hi n1 (bcells ad, 31) n1 = some (bcells ad, 31) := hput_same ..
  generalize hput hi n1 (bcells ad, 31) = h1 at *
  refine LoadX.all (join_l bx1) alen ?_; conv => whnf
  refine warmAcct_cb eI dI hal haB M (by omega) (by omega) fun hm2 v2 d2 M2 u2 hh2 => ?_; conv => whnf
  repeat (first | (refine CondX.tt ?_; conv => whnf) | (refine CondX.ff ?_; conv => whnf))
  refine BoxX.wj d2 fun n2 hd2 he2 => ?_; conv => whnf
  refine Ob.mk ⟨rfl, rfl⟩ ?_; conv => whnf
  refine StoreX.jx (x := wc 0) (Nat.le_of_ble_eq_true rfl) rfl ?_; conv => whnf
  have hMe : ∀ y, Ext (join hi hm2) (join (hput h1 n2 y) hm2) := fun y => Ext.j2 (eI.trans (he2 y)) (hd2 y) (Ext.refl hm2)
  have bx2 : ∀ y, hput h1 n2 y n1 = some (bcells ad, 31) := fun y => he2 y _ _ bx1
  refine opcodeM_ok M2 (hMe _) ?_
  rw [P.ho]; conv => whnf
  repeat (first | (refine CondX.tt ?_; conv => whnf) | (refine CondX.ff ?_; conv => whnf))
  have hwv : valW w (m.fr t).self o (opA (frM m sn mems t) o) = warmW w ad := by rw [opA_eq P.hA (T := 1) har, ead]; unfold valW; rw [if_pos ho]; rfl
  have hRv := P.up u2 (by have := cW_acc (w := w) (a := ad); have e : bareA w (m.fr t).self o (fun i => (A i : Int)) = accA w ad := by { rw [ead]; unfold bareA; rw [if_neg (by omega), if_neg (by omega), if_neg (by omega), if_neg (by omega), if_neg (by omega), if_neg (by omega), if_neg (by omega), if_neg (by omega), if_neg (by omega), if_neg (by omega), if_pos ho] }; rw [e]; exact this)
  refine CondX.eqF (by omega) ?_; conv => whnf
  refine CondX.eqT ho1 ?_; conv => whnf
  refine DrawX.go T_ok hM Hval.func188 (tb := dr188) rfl (by kernel_rfl) ?_; conv => whnf
  refine LoadX.fx (M2.blk (hMe _)) 0 rfl (by omega) mR_S ?_; conv => whnf
  refine LoadX.all (join_l (bx2 _)) alen ?_; conv => whnf
  refine code_own hal haB M2.A (hMe _) fun s4 h4 e4 hs4 hw4 => ?_
  obtain ⟨h5, e5, d5, rfl, hs5⟩ := own_j2 (hd2 _) e4 hs4 hw4
  conv => whnf
  have b5 := e5 _ _ (hput_same h1 n2 (wc 0, 75))
  have e6 : h5 = hput h5 n2 (wc 0, 75) := (hput_id b5).symm
  have hd6 : ∀ y, Dj (hput h5 n2 y) hm2 := fun y => by rw [e6] at d5; exact d5.hp
  have he6 : ∀ y, Ext h1 (hput h5 n2 y) := fun y b x hx => by
    have hne : b ≠ n2 := fun hh => by
      subst hh
      have := he2 (wc 1, 75) _ _ hx
      have h7 := he2 (wc 0, 75) _ _ hx
      rw [hput_same] at this h7
      cases this
      cases h7
    rw [hput_ne hne]
    exact e5 _ _ (he2 _ _ _ hx)
  have bx5 : ∀ y, hput h5 n2 y n1 = some (bcells ad, 31) := fun y => he6 y _ _ bx1
  have hMe5 : ∀ y, Ext (join hi hm2) (join (hput h5 n2 y) hm2) := fun y => Ext.j2 (eI.trans (he6 y)) (hd6 y) (Ext.refl hm2)
  have x6 : Ext h5 (hput h5 n2 (wc 0, 75)) := by rw [← e6]; exact Ext.refl _
  rw [e6]
  repeat (refine Ob.mk (by first | exact ldV_fn (M2.blk (hMe5 _)) 0 rfl (by omega) | exact ldV_all (join_l (bx5 _)) (by rw [alen])) ?_; conv => whnf)
  have hcl := hs5.len
  have hcr := hs5.room
  refine Ob.mk ⟨by omega, by omega⟩ ?_; conv => whnf
  rw [show IntKind.u64.wrap ((s4.2.1 : Nat) : Int) = ((s4.2.1 : Nat) : Int) by rw [wrap_u64']; omega]
  obtain ⟨xx, exx⟩ : ∃ xx, s4.2.1 = xx := ⟨_, rfl⟩
  rw [exx] at hcr hcl ⊢
  have hX : 0 ≤ (xx : Int) ∧ (xx : Int) < W := ⟨by omega, Int.lt_trans (b := 2 ^ 40) (by omega) (by rw [W_val]; decide)⟩
  refine StoreX.jx (x := wc xx) (Nat.le_of_ble_eq_true rfl) (by rw [wc_lim (x := (xx : Int)) (by omega) (by omega)]; rfl) ?_; conv => whnf
  refine LoadX.all (c := wc xx) (join_l (hput_same ..)) rfl ?_; conv => whnf
  refine settleS_b (tk := 1) (st := 1) (eI.trans (he6 _)) (hd6 _) M2 hsp (by omega) (by omega) hX fun hm3 d3 M3 => ?_; conv => whnf
  refine RetX.drop (h' := join hi hm3) (Ext.j2 (eI.trans (he6 _)) d3 (Ext.refl hm3)) fun dj3 => fin_val X (T := 1) har (by rcases ho with rfl | rfl | rfl <;> rfl) (by omega) (by rcases ho with rfl | rfl | rfl <;> rfl) M3 dj3 (Ext.refl hi) u2.has hwv ?_ hRv hk
  rw [opA_eq P.hA (T := 1) har, ho1, ← hcl, ead]
  rfl
set_option maxRecDepth 100000 in
set_option maxHeartbeats 4000000 in
theorem x_63 (ho1 : o = 63) (P : OpS hi hm hb eb m t w sn v mems stale o A S S') (hk : PlK hi eb m t w sn mems orig o S' s0 l0 K) : CallX Hval.prog 188 [.pointer (some ⟨eb, 0, none⟩)] (join (join hi hm) hb) K := by
  have ho : o = 49 ∨ o = 59 ∨ o = 63 := .inr (.inr ho1)
  have har : (arI o).1 = (1 : Nat) := by rw [ho1]; rfl
  have X := P.X
  have M := X.M
  have h7 := M.t7
  have q : ∀ i, (A i : Int) < W := fun i => P.hA i ▸ (argM_W M i).2
  have hsp : 1 ≤ (m.fr t).sp := Int.ofNat_le.1 (har ▸ P.sp)
  have hs64 := M.f.sp
  have hpc := P.pc
  have hrm := P.R.room (by have := P.le; have := P.hS; omega)
  have hro := P.room
  refine CallX.fj X.dj ?_
  refine CallX.of_xf T_ok Hval.func188 rfl (by kernel_rfl) (Nat.le_of_ble_eq_true rfl) ?_; conv => whnf
  refine running_ok M (Ext.refl _) ?_; conv => whnf
  repeat (first | (refine CondX.tt ?_; conv => whnf) | (refine CondX.ff ?_; conv => whnf))
  refine arg_okM (i := 0) M (Ext.refl _) (by decide) ?_
  rw [P.hA]; conv => whnf
  refine addrOf_okM (q 0) ?_; conv => whnf
  obtain ⟨ad, ead⟩ : ∃ ad, ad = addrI (A 0) := ⟨_, rfl⟩
  have hal : ad.length = 20 := by rw [ead]; exact addrI_length _
  have haB : isB ad := by rw [ead]; exact isB_addrI _
  rw [← ead]
  have alen : (bcells ad).length = (31, y31).snd.size := by rw [bcells_len, hal]; rfl
  refine BoxX.wj M.A.V.dj fun n1 hd1 he1 => ?_; conv => whnf
  refine Ob.mk ⟨by rw [List.size_toArray, bcells_len, hal]; rfl, ones_bcells _⟩ ?_; conv => whnf
  refine StoreX.jx (x := bcells ad) (by rw [List.toList_toArray, bcells_len, hal]; exact Nat.le_of_ble_eq_true rfl) (setSeg_all (by rw [List.toList_toArray, bcells_len, hal]; rfl)) ?_; conv => whnf
  have eI := he1 (bcells ad, 31)
  have dI := hd1 (bcells ad, 31)
  have bx1 : hput hi n1 (bcells ad, 31) n1 = some (bcells ad, 31) := hput_same ..
  generalize hput hi n1 (bcells ad, 31) = h1 at *
  refine LoadX.all (join_l bx1) alen ?_; conv => whnf
  refine warmAcct_cb eI dI hal haB M (by omega) (by omega) fun hm2 v2 d2 M2 u2 hh2 => ?_; conv => whnf
  repeat (first | (refine CondX.tt ?_; conv => whnf) | (refine CondX.ff ?_; conv => whnf))
  refine BoxX.wj d2 fun n2 hd2 he2 => ?_; conv => whnf
  refine Ob.mk ⟨rfl, rfl⟩ ?_; conv => whnf
  refine StoreX.jx (x := wc 0) (Nat.le_of_ble_eq_true rfl) rfl ?_; conv => whnf
  have hMe : ∀ y, Ext (join hi hm2) (join (hput h1 n2 y) hm2) := fun y => Ext.j2 (eI.trans (he2 y)) (hd2 y) (Ext.refl hm2)
  have bx2 : ∀ y, hput h1 n2 y n1 = some (bcells ad, 31) := fun y => he2 y _ _ bx1
  refine opcodeM_ok M2 (hMe _) ?_
  rw [P.ho]; conv => whnf
  repeat (first | (refine CondX.tt ?_; conv => whnf) | (refine CondX.ff ?_; conv => whnf))
  have hwv : valW w (m.fr t).self o (opA (frM m sn mems t) o) = warmW w ad := by rw [opA_eq P.hA (T := 1) har, ead]; unfold valW; rw [if_pos ho]; rfl
  have hRv := P.up u2 (by have := cW_acc (w := w) (a := ad); have e : bareA w (m.fr t).self o (fun i => (A i : Int)) = accA w ad := by { rw [ead]; unfold bareA; rw [if_neg (by omega), if_neg (by omega), if_neg (by omega), if_neg (by omega), if_neg (by omega), if_neg (by omega), if_neg (by omega), if_neg (by omega), if_neg (by omega), if_neg (by omega), if_pos ho] }; rw [e]; exact this)
  refine CondX.eqF (by omega) ?_; conv => whnf
  refine CondX.eqF (by omega) ?_; conv => whnf
  refine CondX.eqT ho1 ?_; conv => whnf
  refine DrawX.go T_ok hM Hval.func188 (tb := dr188) rfl (by kernel_rfl) ?_; conv => whnf
  refine LoadX.fx (M2.blk (hMe _)) 0 rfl (by omega) mR_S ?_; conv => whnf
  refine LoadX.all (join_l (bx2 _)) alen ?_; conv => whnf
  refine isEmpty_ok hal haB M2.A (hMe _) ?_
  cases hem : emptyAA ((warmW w ad).acct ad) with
  | true =>
    conv => whnf
    repeat (refine Ob.mk (by first | exact ldV_fn (M2.blk (hMe _)) 0 rfl (by omega) | exact ldV_all (join_l (bx2 _)) (by rw [alen])) ?_; conv => whnf)
    repeat (first | (refine CondX.tt ?_; conv => whnf) | (refine CondX.ff ?_; conv => whnf))
    have hX : 0 ≤ (0 : Int) ∧ (0 : Int) < W := ⟨by omega, W_pos⟩
    refine LoadX.all (c := wc 0) (join_l (hput_same ..)) rfl ?_; conv => whnf
    refine settleS_b (tk := 1) (st := 1) (eI.trans (he2 _)) (hd2 _) M2 hsp (by omega) (by omega) hX fun hm3 d3 M3 => ?_; conv => whnf
    refine RetX.drop (h' := join hi hm3) (Ext.j2 (eI.trans (he2 _)) d3 (Ext.refl hm3)) fun dj3 => fin_val X (T := 1) har (by rcases ho with rfl | rfl | rfl <;> rfl) (by omega) (by rcases ho with rfl | rfl | rfl <;> rfl) M3 dj3 (Ext.refl hi) u2.has hwv ?_ hRv hk
    rw [opA_eq P.hA (T := 1) har, ho1]
    rw [ead] at hem
    show accV 63 (w.acct (addrI (A 0))).nonce (w.acct (addrI (A 0))).bal (w.acct (addrI (A 0))).code = 0
    have hem : (w.acct (addrI (A 0))).nonce = 0 ∧ (w.acct (addrI (A 0))).bal = 0 ∧ (w.acct (addrI (A 0))).code = [] := of_decide_eq_true hem
    unfold accV
    rw [if_neg (by omega), if_neg (by omega), if_pos hem]
  | false =>
    conv => whnf
    repeat (refine Ob.mk (by first | exact ldV_fn (M2.blk (hMe _)) 0 rfl (by omega) | exact ldV_all (join_l (bx2 _)) (by rw [alen])) ?_; conv => whnf)
    repeat (first | (refine CondX.tt ?_; conv => whnf) | (refine CondX.ff ?_; conv => whnf))
    refine DrawX.go T_ok hM Hval.func188 (tb := dr188) rfl (by kernel_rfl) ?_; conv => whnf
    refine LoadX.fx (M2.blk (hMe _)) 0 rfl (by omega) mR_S ?_; conv => whnf
    refine LoadX.all (join_l (bx2 _)) alen ?_; conv => whnf
    refine code_own hal haB M2.A (hMe _) fun s4 h4 e4 hs4 hw4 => ?_
    obtain ⟨h5, e5, d5, rfl, hs5⟩ := own_j2 (hd2 _) e4 hs4 hw4
    conv => whnf
    have b5 := e5 _ _ (hput_same h1 n2 (wc 0, 75))
    have e6 : h5 = hput h5 n2 (wc 0, 75) := (hput_id b5).symm
    have hd6 : ∀ y, Dj (hput h5 n2 y) hm2 := fun y => by rw [e6] at d5; exact d5.hp
    have he6 : ∀ y, Ext h1 (hput h5 n2 y) := fun y b x hx => by
      have hne : b ≠ n2 := fun hh => by
        subst hh
        have := he2 (wc 1, 75) _ _ hx
        have h7 := he2 (wc 0, 75) _ _ hx
        rw [hput_same] at this h7
        cases this
        cases h7
      rw [hput_ne hne]
      exact e5 _ _ (he2 _ _ _ hx)
    have bx5 : ∀ y, hput h5 n2 y n1 = some (bcells ad, 31) := fun y => he6 y _ _ bx1
    have hMe5 : ∀ y, Ext (join hi hm2) (join (hput h5 n2 y) hm2) := fun y => Ext.j2 (eI.trans (he6 y)) (hd6 y) (Ext.refl hm2)
    have x6 : Ext h5 (hput h5 n2 (wc 0, 75)) := by rw [← e6]; exact Ext.refl _
    rw [e6]
    repeat (refine Ob.mk (by first | exact ldV_fn (M2.blk (hMe5 _)) 0 rfl (by omega) | exact ldV_all (join_l (bx5 _)) (by rw [alen])) ?_; conv => whnf)
    refine sum_ok ((hs5.ext x6).ext (Ext.jl _ _)) ?_; conv => whnf
    repeat (refine Ob.mk (by first | exact ldV_fn (M2.blk (hMe5 _)) 0 rfl (by omega) | exact ldV_all (join_l (bx5 _)) (by rw [alen])) ?_; conv => whnf)
    have hk32 := And.intro (kSum_len ((warmW w ad).acct ad).code) (kSum_isB ((warmW w ad).acct ad).code)
    refine fromBytes_ok hk32.1 hk32.2 ?_; conv => whnf
    repeat (refine Ob.mk (by first | exact ldV_fn (M2.blk (hMe5 _)) 0 rfl (by omega) | exact ldV_all (join_l (bx5 _)) (by rw [alen])) ?_; conv => whnf)
    obtain ⟨xx, exx⟩ : ∃ xx, bv (kSum ((warmW w ad).acct ad).code) = xx := ⟨_, rfl⟩
    rw [exx]
    have hX : 0 ≤ xx ∧ xx < W := by rw [← exx]; exact bv32 hk32.1 hk32.2
    refine Ob.mk ⟨rfl, rfl⟩ ?_; conv => whnf
    refine StoreX.jx (x := wc xx) (Nat.le_of_ble_eq_true rfl) (setSeg_all (by rfl)) ?_; conv => whnf
    refine LoadX.all (c := wc xx) (join_l (hput_same ..)) rfl ?_; conv => whnf
    refine settleS_b (tk := 1) (st := 1) (eI.trans (he6 _)) (hd6 _) M2 hsp (by omega) (by omega) hX fun hm3 d3 M3 => ?_; conv => whnf
    refine RetX.drop (h' := join hi hm3) (Ext.j2 (eI.trans (he6 _)) d3 (Ext.refl hm3)) fun dj3 => fin_val X (T := 1) har (by rcases ho with rfl | rfl | rfl <;> rfl) (by omega) (by rcases ho with rfl | rfl | rfl <;> rfl) M3 dj3 (Ext.refl hi) u2.has hwv ?_ hRv hk
    rw [opA_eq P.hA (T := 1) har, ho1, ← exx, ead]
    rw [ead] at hem
    show accV 63 (w.acct (addrI (A 0))).nonce (w.acct (addrI (A 0))).bal (w.acct (addrI (A 0))).code = bv (kSum (w.acct (addrI (A 0))).code)
    have hem : ¬ ((w.acct (addrI (A 0))).nonce = 0 ∧ (w.acct (addrI (A 0))).bal = 0 ∧ (w.acct (addrI (A 0))).code = []) := of_decide_eq_false hem
    unfold accV
    rw [if_neg (by omega), if_neg (by omega), if_neg hem]
end
end Go.Proofs.YgvalwGreat.X
