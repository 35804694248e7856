import Derived.Test.YgvalwGreatM27
set_option linter.unusedVariables false
set_option linter.unusedSimpArgs false
namespace Go.Proofs.YgvalwGreat.X
open Go

section
variable {hi hm hb h : Hp} {K : Value → Hp → Prop} {v : VS} {eb : Nat} {m : MS} {w : AW} {sn : List AW} {f : MF} {a b : List Int}
set_option maxRecDepth 100000 in
set_option maxHeartbeats 4000000 in
theorem move_ok0 (hk : K (.bool true) h) : CallX Hval.prog 168 [.pointer (some ⟨eb, 0, none⟩), .agg (bcells a).toArray, .agg (bcells b).toArray, .agg (wc 0).toArray] h K := by
  refine CallX.of_xf T_ok Hval.func168 rfl (by kernel_rfl) (Nat.le_of_ble_eq_true rfl) ?_; conv => whnf
  refine BoxX.ext fun n1 hn1 en1 => ?_; conv => whnf
  refine BoxX.ext fun n2 hn2 en2 => ?_; conv => whnf
  refine BoxX.ext fun n3 hn3 en3 => ?_; conv => whnf
  refine LoadX.all (c := wc 0) (hput_same ..) rfl ?_; conv => whnf
  refine eIsZero_ok (a := 0) W_pos ?_; conv => whnf
  repeat (first | (refine CondX.tt ?_; conv => whnf) | (refine CondX.ff ?_; conv => whnf))
  exact RetX.drop (h' := h) ((en1.trans en2).trans en3) hk
theorem fU_depth (x : Int) : updV (fcell f) 1 (.int .u8 x) = fcell { f with depth := x } := by
  funext i; unfold updV fcell
  by_cases h : i = 1
  · subst h; rfl
  · simp only [if_neg h]
theorem fU_sb (x : Nat) : updV (fcell f) 5 (.int .u16 x) = fcell { f with sb := x } := by
  funext i; unfold updV fcell
  by_cases h : i = 5
  · subst h; rfl
  · simp only [if_neg h]
theorem fU_snap (x : Nat) : updV (fcell f) 8 (.int .i32 x) = fcell { f with snap := x } := by
  funext i; unfold updV fcell
  by_cases h : i = 8
  · subst h; rfl
  · simp only [if_neg h]
theorem fU_dst (d : Nat → Int) : updL (fcell f) 55 8 (fun i => .int .u64 (d i)) = fcell { f with dst := d } := by
  funext i; unfold updL fcell
  by_cases h : 55 ≤ i ∧ i < 55 + 8
  · rw [if_pos h, if_neg (by omega), if_neg (by omega), if_neg (by omega), if_neg (by omega), if_neg (by omega), if_neg (by omega), if_neg (by omega), if_neg (by omega), if_neg (by omega), if_neg (by omega), if_neg (by omega), if_neg (by omega), if_neg (by omega), if_neg (by omega), if_pos (by omega)]
  · rw [if_neg h]
    by_cases h1 : i < 55
    · dsimp only
      by_cases h53 : i = 53
      · subst h53; rfl
      · by_cases h54 : i = 54
        · subst h54; rfl
        · have h2 : i < 53 := by omega
          simp only [if_pos h2]
    · dsimp only
      simp only [if_neg (show ¬ i < 63 by omega)]
theorem mU_frame {t : Nat} {f' : MF} (h : t < 7) : updL (eC (mC eb m) v) (1803 + t * 65) 65 (fcell f') = eC (mC eb { m with fr := updN m.fr t f' }) v := by
  funext k
  unfold updL
  by_cases hk : 1803 ≤ k ∧ k < 2258
  · obtain ⟨t', j', ht', hj', rfl⟩ : ∃ t' j', t' < 7 ∧ j' < 65 ∧ k = 1803 + t' * 65 + j' := ⟨(k - 1803) / 65, (k - 1803) % 65, by omega, by omega, by omega⟩
    rw [mR_fr ht' hj', mR_fr ht' hj']
    dsimp only
    unfold updN
    by_cases he : t' = t
    · subst he
      rw [if_pos (by omega), if_pos rfl, show 1803 + t' * 65 + j' - (1803 + t' * 65) = j' by omega]
    · rw [if_neg (by omega), if_neg he]
  · rw [if_neg (by omega)]
    unfold eC
    by_cases h1 : k < 2435
    · rw [if_pos h1, if_pos h1]; exact (mC_fr _ (by omega)).symm
    · rw [if_neg h1, if_neg h1]
      by_cases h2 : k < 27019
      · rw [if_pos h2, if_pos h2]
      · rw [if_neg h2, if_neg h2]; exact (mC_fr _ (by omega)).symm
def entF (f : MF) (k : Nat) (D : Nat → Int) (s : Nat) : MF := { f with depth := k, sb := 64 * k, dst := D, snap := s }
def entM (m : MS) (k : Nat) (f : MF) (D : Nat → Int) (s : Nat) : MS := { m with base := updN m.base (k + 1) (m.base k), mtop := ((k + 1 : Nat) : Int), fr := updN m.fr k (entF f k D s), top := k, phase := 1, retS := nilS, ret := [] }
/-- A frame, as a word of 65 cells. -/
def fB (f : MF) : List Value := fnv 65 (fcell f)
theorem fB_len : (fB f).length = 65 := fnv_len ..
theorem fB_set {f' : MF} {k o : Nat} {x : Value} (ho : o = k) (hk : k < 65) (hu : updV (fcell f) k x = fcell f') : setSeg (fB f) o [x] = fB f' := by rw [ho, fB, fnv_set hk, hu]; rfl
theorem fB_setL {f' : MF} {k o q : Nat} {g : Nat → Value} {vs : List Value} (hv : vs = fnv q g) (ho : o = k) (hk : k + q ≤ 65) (hu : updL (fcell f) k q g = fcell f') : setSeg (fB f) o vs = fB f' := by rw [ho, hv, fB, fnv_setL hk, hu]; rfl
/-- A change of a frame in its box. -/
theorem StoreX.frm {f' : MF} {n k o : Nat} {x : Value} {ty : TypeId} {KK : Hp → Prop} (ho : o = k) (hk : k < 65) (hu : updV (fcell f) k x = fcell f') (hK : KK (join (hput hi n (fB f', ty)) hm)) : StoreX (join (hput hi n (fB f, ty)) hm) n o [x] KK :=
  StoreX.jx (by rw [fB_len, ho]; exact hk) (fB_set ho hk hu) hK
theorem StoreX.frmL {f' : MF} {n k o q : Nat} {vs : List Value} {g : Nat → Value} {ty : TypeId} {KK : Hp → Prop} (hv : vs = fnv q g) (ho : o = k) (hk : k + q ≤ 65) (hu : updL (fcell f) k q g = fcell f') (hK : KK (join (hput hi n (fB f', ty)) hm)) : StoreX (join (hput hi n (fB f, ty)) hm) n o vs KK :=
  StoreX.jx (by rw [fB_len, ho, hv, fnv_len]; exact hk) (fB_setL hv ho hk hu) hK
structure UpE (v v' : VS) (cr : Bool) : Prop where
  a : v'.aL.length ≤ v.aL.length
  s : v'.sL.length ≤ v.sL.length
  t : v'.tL.length ≤ v.tL.length
  j : v'.jL.length ≤ v.jL.length + (if cr = true then 2 else 0)
  has : ∀ b, hasA v b = true → hasA v' b = true
theorem ones_fB : ones (fB f) = true := by
  refine ones_fnv fun i hi => ?_
  have h4 : ∀ j, j < 4 → ones [(wc f.val).getD j (.bool false)] = true := fun j hj => by
    have h4 : j = 0 ∨ j = 1 ∨ j = 2 ∨ j = 3 := by omega
    rcases h4 with rfl | rfl | rfl | rfl <;> rfl
  by_cases h : 49 ≤ i ∧ i < 53
  · unfold fcell
    rw [if_neg (by omega), if_neg (by omega), if_neg (by omega), if_neg (by omega), if_neg (by omega), if_neg (by omega), if_neg (by omega), if_neg (by omega), if_neg (by omega), if_neg (by omega), if_neg (by omega), if_pos (by omega)]
    exact h4 (i - 49) (by omega)
  · by_cases h1 : i < 49
    · unfold fcell
      simp only [if_pos h1]
      repeat' split
      all_goals rfl
    · have h2 : i = 53 ∨ i = 54 ∨ i = 55 ∨ i = 56 ∨ i = 57 ∨ i = 58 ∨ i = 59 ∨ i = 60 ∨ i = 61 ∨ i = 62 ∨ i = 63 ∨ i = 64 := by omega
      rcases h2 with rfl | rfl | rfl | rfl | rfl | rfl | rfl | rfl | rfl | rfl | rfl | rfl <;> rfl
theorem fB_self (hl : f.self.length = 20) : (fnv 20 fun i => fcell f (9 + i)) = bcells f.self := by
  refine (list_fnv (by rw [bcells_length, hl]) fun i hi => ?_).symm
  unfold fcell bcells
  rw [if_neg (by omega), if_neg (by omega), if_neg (by omega), if_neg (by omega), if_neg (by omega), if_neg (by omega), if_neg (by omega), if_neg (by omega), if_neg (by omega), if_pos (by omega), show 9 + i - 9 = i by omega, List.getElem?_map, List.getD_eq_getElem?_getD, List.getElem?_eq_getElem (by omega)]; rfl
theorem fB_caller (hl : f.caller.length = 20) : (fnv 20 fun i => fcell f (29 + i)) = bcells f.caller := by
  refine (list_fnv (by rw [bcells_length, hl]) fun i hi => ?_).symm
  unfold fcell bcells
  rw [if_neg (by omega), if_neg (by omega), if_neg (by omega), if_neg (by omega), if_neg (by omega), if_neg (by omega), if_neg (by omega), if_neg (by omega), if_neg (by omega), if_neg (by omega), if_pos (by omega), show 29 + i - 29 = i by omega, List.getElem?_map, List.getD_eq_getElem?_getD, List.getElem?_eq_getElem (by omega)]; rfl
theorem fB_val : (fnv 4 fun i => fcell f (49 + i)) = wc f.val := by
  have e : ∀ i, i < 4 → fcell f (49 + i) = wcD f.val i := fun i hi => by
    unfold fcell
    rw [if_neg (by omega), if_neg (by omega), if_neg (by omega), if_neg (by omega), if_neg (by omega), if_neg (by omega), if_neg (by omega), if_neg (by omega), if_neg (by omega), if_neg (by omega), if_neg (by omega), if_pos (by omega), show 49 + i - 49 = i by omega]
  rw [fnv_ext e]; rfl
section
variable {hi0 : Hp} {mc mc' : Nat → Value} {KK : Hp → Prop} {o k : Nat}
theorem VA.stb {x : Value} (A : VA hi0 hm eb mc w sn v) (hd : Dj hi hm) (hu : updV (eC mc v) k x = eC mc' v) (ho : o = k) (hk : k < 27024) (hK : ∀ hm', VA hi0 hm' eb mc' w sn v → Dj hi hm' → KK (join hi hm')) : StoreX (join hi hm) eb o [x] KK := by
  refine StoreX.jf hd A.V.blk k ho hk fun hd2 => ?_
  rw [hu] at hd2 ⊢
  exact hK _ (A.setM mc') hd2
theorem VA.stbL {t : Nat} {f' : MF} {vs : List Value} (A : VA hi0 hm eb (mC eb m) w sn v) (hd : Dj hi hm) (hv : vs = fB f') (ho : o = 1803 + t * 65) (h7 : t < 7) (hK : ∀ hm', VA hi0 hm' eb (mC eb { m with fr := updN m.fr t f' }) w sn v → Dj hi hm' → KK (join hi hm')) : StoreX (join hi hm) eb o vs KK := by
  refine StoreX.jfL hd A.V.blk hv (1803 + t * 65) ho (by omega) fun hd2 => ?_
  rw [mU_frame h7] at hd2 ⊢
  exact hK _ (A.setM _) hd2
end
set_option maxRecDepth 100000 in
set_option maxHeartbeats 4000000 in
theorem enter_okM {k : Nat} (A : VA hi hm eb (mC eb m) w sn v) (h7 : k < 7) (htop : m.top = (k : Int) - 1) (hmt : m.mtop = k) (hcode : BytS hi f.cs f.code) (hcl : f.code.length ≤ 512) (hself : f.self.length = 20 ∧ isB f.self) (hcaller : f.caller.length = 20) (hval : f.val = 0) (hsn : sn.length < 16000) (hrA : v.aL.length < 2500) (hrJ : v.jL.length < 65500) (hhas : crK f.kind = true → hasA v f.self = true)
    (hk : ∀ hm' v' D, DstOK D f.code → VA hi hm' eb (mC eb (entM m k f D sn.length)) (entW w (crK f.kind) f.self) (sn ++ [w]) v' → UpE v v' (crK f.kind) → K (.bool true) (join hi hm')) : CallX Hval.prog 82 [.pointer (some ⟨eb, 0, none⟩), .agg (fB f).toArray] (join hi hm) K := by
  refine CallX.of_xf T_ok Hval.func82 rfl (by kernel_rfl) (Nat.le_of_ble_eq_true rfl) ?_; conv => whnf
  refine BoxX.wj A.V.dj fun n1 hd1 he1 => ?_; conv => whnf
  have hbE : ∀ y, (join (hput hi n1 y) hm) eb = some (fnv 27024 (eC (mC eb m) v), 101) := fun y => A.blk (Ext.j2 (he1 y) (hd1 y) (Ext.refl _))
  refine LoadX.fx (hbE _) 2258 rfl (by omega) (x := .int .i8 ((k : Int) - 1)) (mR_top.trans (congrArg _ htop)) ?_; conv => whnf
  rw [show IntKind.i64.wrap ((k : Int) - 1) = (k : Int) - 1 from wrap_i64 (by omega) (by omega), show IntKind.i64.wrap ((k : Int) - 1 + 1) = (k : Int) by rw [wrap_i64 (by omega) (by omega)]; omega]
  refine CondX.dF (by omega) ?_; conv => whnf
  repeat (first | (refine CondX.tt ?_; conv => whnf) | (refine CondX.ff ?_; conv => whnf))
  refine CondX.dF (by omega) ?_; conv => whnf
  repeat (first | (refine CondX.tt ?_; conv => whnf) | (refine CondX.ff ?_; conv => whnf))
  refine LoadX.fx (hbE _) 0 rfl (by omega) mR_S ?_; conv => whnf
  repeat (first | (refine CondX.tt ?_; conv => whnf) | (refine CondX.ff ?_; conv => whnf))
  rw [show IntKind.u8.wrap (k : Int) = k by rw [wrap_u8]; omega]
  refine StoreX.frm (f := f) rfl (by decide) (fU_depth _) ?_; conv => whnf
  rw [show IntKind.i64.wrap ((k : Int) * 64) = ((64 * k : Nat) : Int) by rw [wrap_i64 (by omega) (by omega)]; omega, show IntKind.u16.wrap ((64 * k : Nat) : Int) = ((64 * k : Nat) : Int) by rw [wrap_u16]; omega]
  refine StoreX.frm rfl (by decide) (fU_sb _) ?_; conv => whnf
  refine LoadX.fx (join_l (hput_same ..)) 53 rfl (by decide) (x := sl f.cs) rfl ?_; conv => whnf
  refine scan_ok ((hcode.ext (he1 _)).ext (Ext.jl _ _)) hcl fun D hD1 hD2 => ?_; conv => whnf
  refine Ob.mk ⟨rfl, rfl⟩ ?_; conv => whnf
  refine StoreX.frmL (g := fun i => .int .u64 (D i)) rfl rfl (by decide) (fU_dst (fun i => (D i : Int))) ?_; conv => whnf
  refine LoadX.fx (hbE _) 0 rfl (by omega) mR_S ?_; conv => whnf
  refine CallX.bx (hi0 := hi) (he1 _) (hd1 _) (Q := fun y hm' => ∃ v', VA hi hm' eb (mC eb m) w (sn ++ [w]) v' ∧ v'.aL = v.aL ∧ v'.sL = v.sL ∧ v'.tL = v.tL ∧ v'.jL = v.jL ∧ y = .int .i32 sn.length) (snap_ok A (by omega) fun hm' v' A' e1 e2 e3 e4 => ⟨hm', rfl, A'.V.dj, v', A', e1, e2, e3, e4, rfl⟩) ?_
  rintro y hm2 hd2 ⟨v2, A2, e1, e2, e3, e4, rfl⟩; conv => whnf
  refine StoreX.frm (f' := entF f k (fun i => (D i : Int)) sn.length) rfl (by decide) (fU_snap _) ?_; conv => whnf
  refine LoadX.fx (join_l (hput_same ..)) 8 rfl (by decide) (x := .int .i32 sn.length) rfl ?_; conv => whnf
  refine CondX.dT (by omega) ?_; conv => whnf
  repeat (first | (refine CondX.tt ?_; conv => whnf) | (refine CondX.ff ?_; conv => whnf))
  refine CallX.bx (hi0 := hi) (he1 _) hd2.hp (Q := fun y hm' => VA hi hm' eb (mC eb { m with base := updN m.base (k + 1) (m.base k), mtop := ((k + 1 : Nat) : Int) }) w (sn ++ [w]) v2 ∧ y = .bool true) (arEnter_ok A2 hmt h7 fun hm' A' => ⟨hm', rfl, A'.V.dj, A', rfl⟩) ?_
  rintro y hm3 hd3 ⟨A3, rfl⟩; conv => whnf
  repeat (first | (refine CondX.tt ?_; conv => whnf) | (refine CondX.ff ?_; conv => whnf))
  refine DrawX.go T_ok hM Hval.func82 (tb := dr82) rfl (by kernel_rfl) ?_; conv => whnf
  refine LoadX.all (join_l (hput_same ..)) rfl ?_; conv => whnf
  refine Ob.mk ⟨by omega, by omega⟩ ?_; conv => whnf
  refine Ob.mk ⟨rfl, ones_fB⟩ ?_; conv => whnf
  refine A3.stbL (f' := entF f k (fun i => (D i : Int)) sn.length) hd3 rfl rfl h7 fun hm4 A4 hd4 => ?_; conv => whnf
  rw [show IntKind.i8.wrap (k : Int) = k from wrap_i8 (by omega) (by omega)]
  refine A4.stb hd4 (eU_top _) rfl (by omega) fun hm5 A5 hd5 => ?_; conv => whnf
  refine A5.stb hd5 (eU_phase _) rfl (by omega) fun hm6 A6 hd6 => ?_; conv => whnf
  refine A6.stb hd6 (eU_ret nilS []) rfl (by omega) fun hm7 A7 hd7 => ?_; conv => whnf
  have A7 : VA hi hm7 eb (mC eb (entM m k f (fun i => (D i : Int)) sn.length)) w (sn ++ [w]) v2 := A7
  have hDst : DstOK (fun i => (D i : Int)) f.code := ⟨D, fun _ => rfl, hD1, hD2⟩
  repeat (first | (refine CondX.tt ?_; conv => whnf) | (refine CondX.ff ?_; conv => whnf))
  refine LoadX.fx (join_l (hput_same ..)) 0 rfl (by decide) (x := .int .u8 f.kind) rfl ?_; conv => whnf
  repeat (first | (refine CondX.tt ?_; conv => whnf) | (refine CondX.ff ?_; conv => whnf))
  refine createsM_ok ?_
  cases hc : crK f.kind with
  | false =>
    rw [hc] at hk
    conv => whnf
    repeat (first | (refine CondX.tt ?_; conv => whnf) | (refine CondX.ff ?_; conv => whnf))
    have hUp : UpE v v2 false := ⟨Nat.le_of_eq (by rw [e1]), Nat.le_of_eq (by rw [e2]), Nat.le_of_eq (by rw [e3]), by rw [e4]; exact Nat.le_add_right _ _, fun b hb => by unfold hasA at hb ⊢; rw [e1]; exact hb⟩
    refine LoadX.fx (join_l (hput_same ..)) 0 rfl (by decide) (x := .int .u8 f.kind) rfl ?_; conv => whnf
    repeat (first | (refine CondX.tt ?_; conv => whnf) | (refine CondX.ff ?_; conv => whnf))
    by_cases h3 : f.kind = 3
    · refine CondX.neI (fun hh => absurd h3 hh) (fun _ => ?_); conv => whnf
      repeat (first | (refine CondX.tt ?_; conv => whnf) | (refine CondX.ff ?_; conv => whnf))
      exact RetX.drop (h' := join hi hm7) (Ext.j2 (he1 _) hd7 (Ext.refl _)) (hk hm7 v2 _ hDst A7 hUp)
    · refine CondX.neI (fun _ => ?_) (fun hh => absurd hh h3); conv => whnf
      repeat (first | (refine CondX.tt ?_; conv => whnf) | (refine CondX.ff ?_; conv => whnf))
      refine LoadX.fx (join_l (hput_same ..)) 0 rfl (by decide) (x := .int .u8 f.kind) rfl ?_; conv => whnf
      repeat (first | (refine CondX.tt ?_; conv => whnf) | (refine CondX.ff ?_; conv => whnf))
      by_cases h7' : f.kind = 7
      · refine CondX.neI (fun hh => absurd h7' hh) (fun _ => ?_); conv => whnf
        repeat (first | (refine CondX.tt ?_; conv => whnf) | (refine CondX.ff ?_; conv => whnf))
        exact RetX.drop (h' := join hi hm7) (Ext.j2 (he1 _) hd7 (Ext.refl _)) (hk hm7 v2 _ hDst A7 hUp)
      · refine CondX.neI (fun _ => ?_) (fun hh => absurd hh h7'); conv => whnf
        repeat (first | (refine CondX.tt ?_; conv => whnf) | (refine CondX.ff ?_; conv => whnf))
        refine LoadX.fnA (join_l (hput_same ..)) 29 rfl (by decide) ?_
        rw [show (31, y31).snd.size = 20 from rfl]
        erw [fB_caller (f := entF f k (fun i => (D i : Int)) sn.length) hcaller]; conv => whnf
        refine LoadX.fnA (join_l (hput_same ..)) 9 rfl (by decide) ?_
        rw [show (31, y31).snd.size = 20 from rfl]
        erw [fB_self (f := entF f k (fun i => (D i : Int)) sn.length) hself.1]; conv => whnf
        refine LoadX.fnA (join_l (hput_same ..)) 49 rfl (by decide) ?_
        rw [show (75, y75).snd.size = 4 from rfl]
        erw [fB_val (f := entF f k (fun i => (D i : Int)) sn.length)]
        rw [show (entF f k (fun i => (D i : Int)) sn.length).val = 0 from hval]; conv => whnf
        refine move_ok0 ?_; conv => whnf
        repeat (first | (refine CondX.tt ?_; conv => whnf) | (refine CondX.ff ?_; conv => whnf))
        exact RetX.drop (h' := join hi hm7) (Ext.j2 (he1 _) hd7 (Ext.refl _)) (hk hm7 v2 _ hDst A7 hUp)
  | true =>
    rw [hc] at hk
    have hkd : f.kind = 1 ∨ f.kind = 5 ∨ f.kind = 6 := by unfold crK at hc; exact of_decide_eq_true hc
    conv => whnf
    repeat (first | (refine CondX.tt ?_; conv => whnf) | (refine CondX.ff ?_; conv => whnf))
    refine DrawX.go T_ok hM Hval.func82 (tb := dr82) rfl (by kernel_rfl) ?_; conv => whnf
    refine LoadX.fx (A7.blk (Ext.j2 (he1 _) hd7 (Ext.refl _))) 0 rfl (by omega) mR_S ?_; conv => whnf
    refine LoadX.fnA (join_l (hput_same ..)) 9 rfl (by decide) ?_
    rw [show (31, y31).snd.size = 20 from rfl]
    erw [fB_self (f := entF f k (fun i => (D i : Int)) sn.length) hself.1]; conv => whnf
    have hrA2 : v2.aL.length < 2500 := by rw [e1]; exact hrA
    have hrJ2 : v2.jL.length < 65500 := by rw [e4]; exact hrJ
    have hH2 : hasA v2 f.self = true := by unfold hasA; rw [e1]; exact hhas hc
    have hn2 : newA v2 f.self = 0 := by unfold newA; rw [if_pos hH2]
    refine CallX.bx (hi0 := hi) (he1 _) hd7 (Q := fun y hm' => ∃ v', VA hi hm' eb (mC eb (entM m k f (fun i => (D i : Int)) sn.length)) (nonceW w f.self 1) (sn ++ [w]) v' ∧ Up v2 v' (newA v2 f.self) 0 0 1 ∧ hasA v' f.self = true ∧ y = .bool true) (putNonce_ok (n := 1) hself.1 hself.2 (by decide) A7 (by omega) (by omega) fun hm' v' A' u' h' => ⟨hm', rfl, A'.V.dj, v', A', u', h', rfl⟩) ?_
    rintro y hm8 hd8 ⟨v8, A8, u8, hH8, rfl⟩; conv => whnf
    repeat (first | (refine CondX.tt ?_; conv => whnf) | (refine CondX.ff ?_; conv => whnf))
    refine LoadX.fx (A8.blk (Ext.j2 (he1 _) hd8 (Ext.refl _))) 0 rfl (by omega) mR_S ?_; conv => whnf
    repeat (first | (refine CondX.tt ?_; conv => whnf) | (refine CondX.ff ?_; conv => whnf))
    refine LoadX.fnA (join_l (hput_same ..)) 9 rfl (by decide) ?_
    rw [show (31, y31).snd.size = 20 from rfl]
    erw [fB_self (f := entF f k (fun i => (D i : Int)) sn.length) hself.1]; conv => whnf
    repeat (first | (refine CondX.tt ?_; conv => whnf) | (refine CondX.ff ?_; conv => whnf))
    rw [hn2] at u8
    have hn8 : newA v8 f.self = 0 := by unfold newA; rw [if_pos hH8]
    refine CallX.bx (hi0 := hi) (he1 _) hd8 (Q := fun y hm' => ∃ v', VA hi hm' eb (mC eb (entM m k f (fun i => (D i : Int)) sn.length)) (mdW (nonceW w f.self 1) f.self true) (sn ++ [w]) v' ∧ Up v8 v' (newA v8 f.self) 0 0 1 ∧ y = .bool true) (markMade_ok hself.1 hself.2 A8 (by have := u8.a; omega) (by have := u8.j; omega) fun hm' v' A' u' h' => ⟨hm', rfl, A'.V.dj, v', A', u', rfl⟩) ?_
    rintro y hm9 hd9 ⟨v9, A9, u9, rfl⟩; conv => whnf
    repeat (first | (refine CondX.tt ?_; conv => whnf) | (refine CondX.ff ?_; conv => whnf))
    rw [hn8] at u9
    have u := u8.trans u9
    have hUp : UpE v v9 true := ⟨by have := u.a; rw [e1] at this; exact this, by have := u.s; rw [e2] at this; exact this, by have := u.t; rw [e3] at this; exact this, by have := u.j; rw [e4] at this; exact this, fun b hb => u.has b (by unfold hasA at hb ⊢; rw [e1]; exact hb)⟩
    refine LoadX.fx (join_l (hput_same ..)) 0 rfl (by decide) (x := .int .u8 f.kind) rfl ?_; conv => whnf
    repeat (first | (refine CondX.tt ?_; conv => whnf) | (refine CondX.ff ?_; conv => whnf))
    refine CondX.neI (fun _ => ?_) (fun hh => absurd hh (by omega)); conv => whnf
    repeat (first | (refine CondX.tt ?_; conv => whnf) | (refine CondX.ff ?_; conv => whnf))
    refine LoadX.fx (join_l (hput_same ..)) 0 rfl (by decide) (x := .int .u8 f.kind) rfl ?_; conv => whnf
    repeat (first | (refine CondX.tt ?_; conv => whnf) | (refine CondX.ff ?_; conv => whnf))
    refine CondX.neI (fun _ => ?_) (fun hh => absurd hh (by omega)); conv => whnf
    repeat (first | (refine CondX.tt ?_; conv => whnf) | (refine CondX.ff ?_; conv => whnf))
    refine LoadX.fnA (join_l (hput_same ..)) 29 rfl (by decide) ?_
    rw [show (31, y31).snd.size = 20 from rfl]
    erw [fB_caller (f := entF f k (fun i => (D i : Int)) sn.length) hcaller]; conv => whnf
    refine LoadX.fnA (join_l (hput_same ..)) 9 rfl (by decide) ?_
    rw [show (31, y31).snd.size = 20 from rfl]
    erw [fB_self (f := entF f k (fun i => (D i : Int)) sn.length) hself.1]; conv => whnf
    refine LoadX.fnA (join_l (hput_same ..)) 49 rfl (by decide) ?_
    rw [show (75, y75).snd.size = 4 from rfl]
    erw [fB_val (f := entF f k (fun i => (D i : Int)) sn.length)]
    rw [show (entF f k (fun i => (D i : Int)) sn.length).val = 0 from hval]; conv => whnf
    refine move_ok0 ?_; conv => whnf
    repeat (first | (refine CondX.tt ?_; conv => whnf) | (refine CondX.ff ?_; conv => whnf))
    refine RetX.drop (h' := join hi hm9) (Ext.j2 (he1 _) hd9 (Ext.refl _)) (hk hm9 v9 _ hDst ?_ hUp)
    have e : entW w true f.self = mdW (nonceW w f.self 1) f.self true := by
      unfold entW mdW nonceW
      rw [if_pos rfl]
      congr 1
      funext b
      by_cases hb : b = f.self
      · rw [if_pos hb, decide_eq_true hb, Bool.or_true]
      · rw [if_neg hb, decide_eq_false hb, Bool.or_false]
    rw [e]; exact A9
end
end Go.Proofs.YgvalwGreat.X
