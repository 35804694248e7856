import Derived.Test.YgvalwGreatM46
set_option linter.unusedVariables false
set_option linter.unusedSimpArgs false
namespace Go.Proofs.YgvalwGreat.X
open Go

section
variable {hi hi' hm hm' hb hb' h h0 h1 : Hp} {K : Value → Hp → Prop} {v v' : VS} {eb : Nat} {m m' : MS} {t : Nat} {mems : Nat → List Int} {stale stale' mem' orig a : List Int} {w w' : AW} {sn : List AW} {s0 l0 S S' x o st : Int} {A : Nat → Nat} {s : Sl} {l : List Int}
/-- The continuation of an instruction that ends its frame. -/
def LvK (hi : Hp) (eb : Nat) (m : MS) (t : Nat) (w : AW) (sn : List AW) (mems : Nat → List Int) (st : Int) (l : List Int) (S' s0 l0 : Int) (K : Value → Hp → Prop) : Prop := EnK hi eb m (S' + ((m.fr t).gas - lvGA (frM m sn mems t) st l)) (leaveA (absM m t w sn mems s0 l0) (frsM m t sn mems) (frM m sn mems t) st l) s0 l0 (K (.tuple #[]))
theorem OpS.hS' (P : OpS hi hm hb eb m t w sn v mems stale o A S S') : 0 ≤ S' ∧ S' ≤ 1048576 := ⟨by have := P.le; have := P.hS; omega, P.hS.2⟩
set_option maxRecDepth 100000 in
set_option maxHeartbeats 4000000 in
theorem x_0 (hgs : ∀ i, i ≤ t → (m.fr i).gas ≤ 1048576) (P : OpS hi hm hb eb m t w sn v mems stale 0 A S S') (hk : LvK hi eb m t w sn mems 0 [] S' s0 l0 K) : CallX Hval.prog 199 [.pointer (some ⟨eb, 0, none⟩)] (join (join hi hm) hb) K := by
  have X := P.X
  have M := X.M
  have h7 := M.t7
  have q : ∀ i, (A i : Int) < W := fun i => P.hA i ▸ (argM_W M i).2
  have hMe : Ext (join hi hm) (join (join hi hm) hb) := Ext.jl _ _
  refine CallX.of_xf T_ok Hval.func199 rfl (by kernel_rfl) (Nat.le_of_ble_eq_true rfl) ?_; conv => whnf
  refine running_ok M hMe ?_; conv => whnf
  repeat (first | (refine CondX.tt ?_; conv => whnf) | (refine CondX.ff ?_; conv => whnf))
  refine opcodeM_ok M hMe ?_
  rw [P.ho]; conv => whnf
  repeat (first | (refine CondX.tt ?_; conv => whnf) | (refine CondX.ff ?_; conv => whnf))
  refine mend_ok (s0 := s0) (l0 := l0) (so := nilS) X hgs P.hS' P.R' (Byt_nil hi) (by omega) (by omega) (hk.map fun h' hh => ?_)
  conv => whnf
  exact RetX.same hh
set_option maxRecDepth 100000 in
set_option maxHeartbeats 4000000 in
theorem x_243 (hgs : ∀ i, i ≤ t → (m.fr i).gas ≤ 1048576) (P : OpS hi hm hb eb m t w sn v mems stale 243 A S S') (hk : LvK hi eb m t w sn mems 0 (cutN (mems t) (A 0) (A 1)) S' s0 l0 K) : CallX Hval.prog 199 [.pointer (some ⟨eb, 0, none⟩)] (join (join hi hm) hb) K := by
  have X := P.X
  have M := X.M
  have h7 := M.t7
  have q : ∀ i, (A i : Int) < W := fun i => P.hA i ▸ (argM_W M i).2
  have hMe : Ext (join hi hm) (join (join hi hm) hb) := Ext.jl _ _
  refine CallX.of_xf T_ok Hval.func199 rfl (by kernel_rfl) (Nat.le_of_ble_eq_true rfl) ?_; conv => whnf
  refine running_ok M hMe ?_; conv => whnf
  repeat (first | (refine CondX.tt ?_; conv => whnf) | (refine CondX.ff ?_; conv => whnf))
  refine opcodeM_ok M hMe ?_
  rw [P.ho]; conv => whnf
  repeat (first | (refine CondX.tt ?_; conv => whnf) | (refine CondX.ff ?_; conv => whnf))
  refine arg_okM (i := 0) M hMe (by decide) ?_
  rw [P.hA]; conv => whnf
  refine arg_okM (i := 1) M hMe (by decide) ?_
  rw [P.hA]; conv => whnf
  refine read_own (M.blk hMe) X.mm.top (Ext.jr X.dj) h7 (q 0) (q 1) (P.fit1 (by omega)) fun sD h' e1 hsD hwD => ?_
  obtain ⟨h2, eI, d1, d2, rfl, hsD2⟩ := own_j M.A.V.dj X.dj e1 hsD hwD
  conv => whnf
  repeat (first | (refine CondX.tt ?_; conv => whnf) | (refine CondX.ff ?_; conv => whnf))
  have X2 := X.exti eI d1 d2
  refine mend_ok (s0 := s0) (l0 := l0) (st := 0) X2 hgs P.hS' P.R' hsD2 (by omega) (by omega) ((hk.ext eI).map fun h' hh => ?_)
  conv => whnf
  exact RetX.same hh
set_option maxRecDepth 100000 in
set_option maxHeartbeats 4000000 in
theorem x_253 (hgs : ∀ i, i ≤ t → (m.fr i).gas ≤ 1048576) (P : OpS hi hm hb eb m t w sn v mems stale 253 A S S') (hk : LvK hi eb m t w sn mems 1 (cutN (mems t) (A 0) (A 1)) S' s0 l0 K) : CallX Hval.prog 199 [.pointer (some ⟨eb, 0, none⟩)] (join (join hi hm) hb) K := by
  have X := P.X
  have M := X.M
  have h7 := M.t7
  have q : ∀ i, (A i : Int) < W := fun i => P.hA i ▸ (argM_W M i).2
  have hMe : Ext (join hi hm) (join (join hi hm) hb) := Ext.jl _ _
  refine CallX.of_xf T_ok Hval.func199 rfl (by kernel_rfl) (Nat.le_of_ble_eq_true rfl) ?_; conv => whnf
  refine running_ok M hMe ?_; conv => whnf
  repeat (first | (refine CondX.tt ?_; conv => whnf) | (refine CondX.ff ?_; conv => whnf))
  refine opcodeM_ok M hMe ?_
  rw [P.ho]; conv => whnf
  repeat (first | (refine CondX.tt ?_; conv => whnf) | (refine CondX.ff ?_; conv => whnf))
  refine arg_okM (i := 0) M hMe (by decide) ?_
  rw [P.hA]; conv => whnf
  refine arg_okM (i := 1) M hMe (by decide) ?_
  rw [P.hA]; conv => whnf
  refine read_own (M.blk hMe) X.mm.top (Ext.jr X.dj) h7 (q 0) (q 1) (P.fit1 (by omega)) fun sD h' e1 hsD hwD => ?_
  obtain ⟨h2, eI, d1, d2, rfl, hsD2⟩ := own_j M.A.V.dj X.dj e1 hsD hwD
  conv => whnf
  repeat (first | (refine CondX.tt ?_; conv => whnf) | (refine CondX.ff ?_; conv => whnf))
  have X2 := X.exti eI d1 d2
  refine mend_ok (s0 := s0) (l0 := l0) (st := 1) X2 hgs P.hS' P.R' hsD2 (by omega) (by omega) ((hk.ext eI).map fun h' hh => ?_)
  conv => whnf
  exact RetX.same hh
theorem MA.of (M : MA hi hm eb m t w sn v) (A' : VA hi hm' eb (mC eb m) w' sn v') : MA hi hm' eb m t w' sn v' := ⟨A', M.phase, M.top, M.t7, M.fok, M.stw, M.ret⟩
theorem EX.wd (X : EX hi hm hb eb m t w sn v mems stale) (A' : VA hi hm' eb (mC eb m) w' sn v') (hd : Dj (join hi hm') hb) (hu : ∀ b, hasA v b = true → hasA v' b = true) : EX hi hm' hb eb m t w' sn v' mems stale :=
  ⟨X.M.of A', hd, X.mm, X.sn1, X.sn2, fun i hi => hu _ (X.has i hi), X.wait⟩
theorem gone_same {w : AW} {a : List Int} (h : w.gone a = true) : goneW w a = w := by
  unfold goneW
  split
  · have : (fun b => w.gone b || decide (b = a)) = w.gone := by
      funext b
      by_cases hb : b = a
      · subst hb; rw [h]; rfl
      · rw [decide_eq_false hb, Bool.or_false]
    rw [this]
  · rfl
theorem gone_new {w : AW} {a : List Int} (h : w.made a = true) : gnW w a true = goneW w a := by
  unfold goneW gnW
  rw [if_pos h]
  have : (fun b => if b = a then true else w.gone b) = (fun b => w.gone b || decide (b = a)) := by
    funext b
    by_cases hb : b = a
    · rw [if_pos hb, decide_eq_true hb, Bool.or_true]
    · rw [if_neg hb, decide_eq_false hb, Bool.or_false]
  rw [this]
set_option maxRecDepth 100000 in
set_option maxHeartbeats 4000000 in
theorem x_255 (hbal : (w.acct (m.fr t).self).bal = 0) (hgs : ∀ i, i ≤ t → (m.fr i).gas ≤ 1048576) (P : OpS hi hm hb eb m t w sn v mems stale 255 A S S') (hk : LvK hi eb m t (goneW (warmW w (addrI (A 0))) (m.fr t).self) sn mems 0 [] S' s0 l0 K) : CallX Hval.prog 197 [.pointer (some ⟨eb, 0, none⟩)] (join (join hi hm) hb) K := by
  have h7 := P.X.M.t7
  have F := P.X.M.f
  have hsf := F.self
  have q : ∀ i, (A i : Int) < W := fun i => P.hA i ▸ (argM_W P.X.M i).2
  have hrm := P.R.room (by have := P.le; have := P.hS; omega)
  refine CallX.of_xf T_ok Hval.func197 rfl (by kernel_rfl) (Nat.le_of_ble_eq_true rfl) ?_; conv => whnf
  refine running_ok P.X.M (Ext.jl _ _) ?_; conv => whnf
  repeat (first | (refine CondX.tt ?_; conv => whnf) | (refine CondX.ff ?_; conv => whnf))
  refine arg_okM (i := 0) P.X.M (Ext.jl _ _) (by decide) ?_
  rw [P.hA]; conv => whnf
  refine addrOf_okM (q 0) ?_; conv => whnf
  obtain ⟨ad, ead⟩ : ∃ ad, ad = addrI (A 0) := ⟨_, rfl⟩
  have hal : ad.length = 20 := by rw [ead]; exact addrI_length _
  have haB : isB ad := by rw [ead]; exact isB_addrI _
  rw [← ead] at hk ⊢
  have alen : (bcells ad).length = (31, y31).snd.size := by rw [bcells_len, hal]; rfl
  refine BoxX.jj P.X.M.A.V.dj P.X.dj fun n5 he hd hdd => ?_; conv => whnf
  refine Ob.mk ⟨by rw [List.size_toArray, bcells_len, hal]; rfl, ones_bcells _⟩ ?_; conv => whnf
  refine StoreX.fr (StoreX.jx (x := bcells ad) (by rw [List.toList_toArray, bcells_len, hal]; exact Nat.le_of_ble_eq_true rfl) (setSeg_all (by rw [List.toList_toArray, bcells_len, hal]; rfl)) ?_); conv => whnf
  have eI := he (bcells ad, 31)
  have X := P.X.exti eI (hd (bcells ad, 31)) (hdd (bcells ad, 31))
  have b5 : hput hi n5 (bcells ad, 31) n5 = some (bcells ad, 31) := hput_same ..
  clear he hd hdd
  generalize hput hi n5 (bcells ad, 31) = h4 at *
  have hk := hk.ext eI
  refine LoadX.all (join_l (join_l b5)) alen ?_; conv => whnf
  have uc := cW_acc (w := w) (a := ad)
  refine CallX.fj X.dj (warmAcct_c hal haB X.M (by omega) (by omega) fun hm2 v2 M2 u2 hh2 d2 => ?_); conv => whnf
  have X2 := X.wd M2.A d2 u2.has
  have hMe : Ext (join h4 hm2) (join (join h4 hm2) hb) := Ext.jl _ _
  have hbE := M2.blk hMe
  have hcost : S + 5000 + (if w.warmA ad = true then 0 else 2600) ≤ S' := by
    have h1 := P.cost
    have h2 : bareA w (m.fr t).self 255 (fun i => A i) = destroyCA w (m.fr t).self (A 0) := rfl
    rw [h2] at h1
    unfold destroyCA at h1
    rw [← ead] at h1
    have h3 : (0 : Int) ≤ (if emptyAA (w.acct ad) = true ∧ (w.acct (m.fr t).self).bal ≠ 0 then 25000 else 0) := by split <;> omega
    omega
  have hcl : cldW w ad ≤ 1 ∧ 2500 * ((cldW w ad : Nat) : Int) ≤ (if w.warmA ad = true then 0 else 2600) := by unfold cldW; split <;> omega
  refine DrawX.go T_ok hM Hval.func197 (tb := dr197) rfl (by kernel_rfl) ?_; conv => whnf
  repeat (first | (refine CondX.tt ?_; conv => whnf) | (refine CondX.ff ?_; conv => whnf))
  refine LoadX.all (join_l (join_l b5)) alen ?_; conv => whnf
  repeat (first | (refine CondX.tt ?_; conv => whnf) | (refine CondX.ff ?_; conv => whnf))
  refine LoadX.fnA hbE (1803 + t * 65 + 9) rfl (by show _ + 20 ≤ _; omega) ?_
  rw [show (31, y31).snd.size = 20 from rfl, mR_self h7 hsf.1]; conv => whnf
  repeat (first | (refine CondX.tt ?_; conv => whnf) | (refine CondX.ff ?_; conv => whnf))
  refine Ob.mk ⟨by show (bcells _).length = 20; rw [bcells_len]; exact hal, by show (bcells _).length = 20; rw [bcells_len]; exact hsf.1, intCells_bcells _, intCells_bcells _⟩ ?_; conv => whnf
  repeat (first | (refine CondX.tt ?_; conv => whnf) | (refine CondX.ff ?_; conv => whnf))
  refine CondX.mk (fun hc => ?_) (fun hc => ?_) <;> conv => whnf
  · refine DrawX.go T_ok hM Hval.func197 (tb := dr197) rfl (by kernel_rfl) ?_; conv => whnf
    refine LoadX.fnA hbE (1803 + t * 65 + 9) rfl (by show _ + 20 ≤ _; omega) ?_
    rw [show (31, y31).snd.size = 20 from rfl, mR_self h7 hsf.1]; conv => whnf
    refine LoadX.all (join_l (join_l b5)) alen ?_; conv => whnf
    refine LoadX.fx hbE 0 rfl (by omega) mR_S ?_; conv => whnf
    refine LoadX.fnA hbE (1803 + t * 65 + 9) rfl (by show _ + 20 ≤ _; omega) ?_
    rw [show (31, y31).snd.size = 20 from rfl, mR_self h7 hsf.1]; conv => whnf
    refine balance_ok hsf.1 hsf.2 M2.A hMe ?_
    rw [show ((warmW w ad).acct (m.fr t).self).bal = 0 from hbal]; conv => whnf
    repeat (refine Ob.mk (by first | exact ldV_all (c := bcells ad) (join_l (join_l b5)) alen | exact ldV_fn hbE 0 rfl (by omega) | exact (ldV_fnA hbE (1803 + t * 65 + 9) rfl (by show _ + 20 ≤ _; omega)).trans (congrArg (fun y => some (Value.agg (List.toArray y))) (mR_self h7 hsf.1))) ?_; conv => whnf)
    refine move_ok0 ?_; conv => whnf
    refine DrawX.go T_ok hM Hval.func197 (tb := dr197) rfl (by kernel_rfl) ?_; conv => whnf
    repeat (first | (refine CondX.tt ?_; conv => whnf) | (refine CondX.ff ?_; conv => whnf))
    refine LoadX.fx hbE 0 rfl (by omega) mR_S ?_; conv => whnf
    repeat (first | (refine CondX.tt ?_; conv => whnf) | (refine CondX.ff ?_; conv => whnf))
    refine LoadX.fnA hbE (1803 + t * 65 + 9) rfl (by show _ + 20 ≤ _; omega) ?_
    rw [show (31, y31).snd.size = 20 from rfl, mR_self h7 hsf.1]; conv => whnf
    repeat (first | (refine CondX.tt ?_; conv => whnf) | (refine CondX.ff ?_; conv => whnf))
    refine isMade_ok hsf.1 hsf.2 M2.A hMe ?_
    cases hmd : (warmW w ad).made (m.fr t).self with
    | false =>
      conv => whnf
      repeat (first | (refine CondX.tt ?_; conv => whnf) | (refine CondX.ff ?_; conv => whnf))
      have hgw : goneW (warmW w ad) (m.fr t).self = warmW w ad := by unfold goneW; rw [if_neg (by rw [hmd]; decide)]
      rw [hgw] at hk
      refine mend_ok (s0 := s0) (l0 := l0) (so := nilS) X2 hgs P.hS' (P.R.up u2 (by omega) (by omega) (by omega) (by omega)) (Byt_nil h4) (by omega) (by omega) (hk.map fun h' hh => ?_)
      conv => whnf
      exact RetX.same hh
    | true =>
      conv => whnf
      repeat (first | (refine CondX.tt ?_; conv => whnf) | (refine CondX.ff ?_; conv => whnf))
      refine LoadX.fx hbE 0 rfl (by omega) mR_S ?_; conv => whnf
      repeat (first | (refine CondX.tt ?_; conv => whnf) | (refine CondX.ff ?_; conv => whnf))
      refine LoadX.fnA hbE (1803 + t * 65 + 9) rfl (by show _ + 20 ≤ _; omega) ?_
      rw [show (31, y31).snd.size = 20 from rfl, mR_self h7 hsf.1]; conv => whnf
      repeat (first | (refine CondX.tt ?_; conv => whnf) | (refine CondX.ff ?_; conv => whnf))
      refine isGone_ok hsf.1 hsf.2 M2.A hMe ?_
      cases hgn : (warmW w ad).gone (m.fr t).self with
      | true =>
        conv => whnf
        repeat (first | (refine CondX.tt ?_; conv => whnf) | (refine CondX.ff ?_; conv => whnf))
        rw [gone_same hgn] at hk
        refine mend_ok (s0 := s0) (l0 := l0) (so := nilS) X2 hgs P.hS' (P.R.up u2 (by omega) (by omega) (by omega) (by omega)) (Byt_nil h4) (by omega) (by omega) (hk.map fun h' hh => ?_)
        conv => whnf
        exact RetX.same hh
      | false =>
        conv => whnf
        repeat (first | (refine CondX.tt ?_; conv => whnf) | (refine CondX.ff ?_; conv => whnf))
        refine DrawX.go T_ok hM Hval.func197 (tb := dr197) rfl (by kernel_rfl) ?_; conv => whnf
        refine LoadX.fx hbE 0 rfl (by omega) mR_S ?_; conv => whnf
        refine LoadX.fnA hbE (1803 + t * 65 + 9) rfl (by show _ + 20 ≤ _; omega) ?_
        rw [show (31, y31).snd.size = 20 from rfl, mR_self h7 hsf.1]; conv => whnf
        have hn0 : newA v2 (m.fr t).self = 0 := by unfold newA; rw [if_pos (X2.has t (Nat.le_refl _))]
        have ua := u2.a
        have uj := u2.j
        refine CallX.fj X2.dj (markGone_ok hsf.1 hsf.2 M2.A (by omega) (by omega) fun hm3 v3 A3 u3 hh3 d3 => ?_); conv => whnf
        repeat (first | (refine CondX.tt ?_; conv => whnf) | (refine CondX.ff ?_; conv => whnf))
        rw [hn0] at u3
        rw [gone_new hmd] at A3
        have X3 := X2.wd A3 d3 u3.has
        refine mend_ok (s0 := s0) (l0 := l0) (so := nilS) X3 hgs P.hS' (P.R.up (u2.trans u3) (by omega) (by omega) (by omega) (by omega)) (Byt_nil h4) (by omega) (by omega) (hk.map fun h' hh => ?_)
        conv => whnf
        exact RetX.same hh
  · refine DrawX.go T_ok hM Hval.func197 (tb := dr197) rfl (by kernel_rfl) ?_; conv => whnf
    repeat (first | (refine CondX.tt ?_; conv => whnf) | (refine CondX.ff ?_; conv => whnf))
    refine LoadX.fx hbE 0 rfl (by omega) mR_S ?_; conv => whnf
    repeat (first | (refine CondX.tt ?_; conv => whnf) | (refine CondX.ff ?_; conv => whnf))
    refine LoadX.fnA hbE (1803 + t * 65 + 9) rfl (by show _ + 20 ≤ _; omega) ?_
    rw [show (31, y31).snd.size = 20 from rfl, mR_self h7 hsf.1]; conv => whnf
    repeat (first | (refine CondX.tt ?_; conv => whnf) | (refine CondX.ff ?_; conv => whnf))
    refine isMade_ok hsf.1 hsf.2 M2.A hMe ?_
    cases hmd : (warmW w ad).made (m.fr t).self with
    | false =>
      conv => whnf
      repeat (first | (refine CondX.tt ?_; conv => whnf) | (refine CondX.ff ?_; conv => whnf))
      have hgw : goneW (warmW w ad) (m.fr t).self = warmW w ad := by unfold goneW; rw [if_neg (by rw [hmd]; decide)]
      rw [hgw] at hk
      refine mend_ok (s0 := s0) (l0 := l0) (so := nilS) X2 hgs P.hS' (P.R.up u2 (by omega) (by omega) (by omega) (by omega)) (Byt_nil h4) (by omega) (by omega) (hk.map fun h' hh => ?_)
      conv => whnf
      exact RetX.same hh
    | true =>
      conv => whnf
      repeat (first | (refine CondX.tt ?_; conv => whnf) | (refine CondX.ff ?_; conv => whnf))
      refine LoadX.fx hbE 0 rfl (by omega) mR_S ?_; conv => whnf
      repeat (first | (refine CondX.tt ?_; conv => whnf) | (refine CondX.ff ?_; conv => whnf))
      refine LoadX.fnA hbE (1803 + t * 65 + 9) rfl (by show _ + 20 ≤ _; omega) ?_
      rw [show (31, y31).snd.size = 20 from rfl, mR_self h7 hsf.1]; conv => whnf
      repeat (first | (refine CondX.tt ?_; conv => whnf) | (refine CondX.ff ?_; conv => whnf))
      refine isGone_ok hsf.1 hsf.2 M2.A hMe ?_
      cases hgn : (warmW w ad).gone (m.fr t).self with
      | true =>
        conv => whnf
        repeat (first | (refine CondX.tt ?_; conv => whnf) | (refine CondX.ff ?_; conv => whnf))
        rw [gone_same hgn] at hk
        refine mend_ok (s0 := s0) (l0 := l0) (so := nilS) X2 hgs P.hS' (P.R.up u2 (by omega) (by omega) (by omega) (by omega)) (Byt_nil h4) (by omega) (by omega) (hk.map fun h' hh => ?_)
        conv => whnf
        exact RetX.same hh
      | false =>
        conv => whnf
        repeat (first | (refine CondX.tt ?_; conv => whnf) | (refine CondX.ff ?_; conv => whnf))
        refine DrawX.go T_ok hM Hval.func197 (tb := dr197) rfl (by kernel_rfl) ?_; conv => whnf
        refine LoadX.fx hbE 0 rfl (by omega) mR_S ?_; conv => whnf
        refine LoadX.fnA hbE (1803 + t * 65 + 9) rfl (by show _ + 20 ≤ _; omega) ?_
        rw [show (31, y31).snd.size = 20 from rfl, mR_self h7 hsf.1]; conv => whnf
        have hn0 : newA v2 (m.fr t).self = 0 := by unfold newA; rw [if_pos (X2.has t (Nat.le_refl _))]
        have ua := u2.a
        have uj := u2.j
        refine CallX.fj X2.dj (markGone_ok hsf.1 hsf.2 M2.A (by omega) (by omega) fun hm3 v3 A3 u3 hh3 d3 => ?_); conv => whnf
        repeat (first | (refine CondX.tt ?_; conv => whnf) | (refine CondX.ff ?_; conv => whnf))
        rw [hn0] at u3
        rw [gone_new hmd] at A3
        have X3 := X2.wd A3 d3 u3.has
        refine mend_ok (s0 := s0) (l0 := l0) (so := nilS) X3 hgs P.hS' (P.R.up (u2.trans u3) (by omega) (by omega) (by omega) (by omega)) (Byt_nil h4) (by omega) (by omega) (hk.map fun h' hh => ?_)
        conv => whnf
        exact RetX.same hh
end
end Go.Proofs.YgvalwGreat.X
