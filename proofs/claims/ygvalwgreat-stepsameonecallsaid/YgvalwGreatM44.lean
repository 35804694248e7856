import Derived.Test.YgvalwGreatM43
set_option linter.unusedVariables false
set_option linter.unusedSimpArgs false
namespace Go.Proofs.YgvalwGreat.X
open Go


section
variable {hi hi' hm hm' hb hb' h : Hp} {K : Value → Hp → Prop} {v v' : VS} {eb : Nat} {m m' : MS} {t : Nat} {mems : Nat → List Int} {stale stale' mem' orig a : List Int} {w w' : AW} {sn : List AW} {s0 l0 S S' x o : Int} {A : Nat → Nat}
theorem StoreX.bw2 {n : Nat} {c vs : List Value} {ty : TypeId} {KK : Hp → Prop} (hx : hi n = some (c, ty)) (hl : vs.length = c.length) (hk : KK (join (hput hi n (vs, ty)) hm)) : StoreX (join hi hm) n 0 vs KK := by
  refine ⟨c, ty, join_l hx, by omega, ?_⟩
  rw [setSeg_all hl.symm, join_put]; exact hk
theorem newS_le (v : VS) (a : List Int) (k : Int) : newS v a k ≤ 1 := by unfold newS; split <;> omega
theorem warmSW_id {k : Int} (h : w.warmS a k = true) : warmSW w a k = w := by
  unfold warmSW
  congr 1
  funext b j
  by_cases hb : b = a ∧ j = k
  · rw [hb.1, hb.2, h]; rfl
  · rw [decide_eq_false hb, Bool.or_false]
theorem sstoreC_ge (v n : Int) (c : Bool) : (100 : Int) + 2100 * (if c = true then 1 else 0) ≤ sstoreC v n c := by
  unfold sstoreC
  cases c <;> simp <;> split <;> omega
theorem slotW_id {k x : Int} (h : (w.acct a).slot k = x) : slotW w a k x = w := by
  unfold slotW
  congr 1
  funext b
  unfold updA
  split
  · rename_i hb; subst hb
    have : updS (w.acct b).slot k x = (w.acct b).slot := by funext j; unfold updS; split
                                                            · rename_i hj; subst hj; exact h.symm
                                                            · rfl
    rw [this]
  · rfl
theorem warmS_newS {mc : Nat → Value} {k : Int} (A : VA hi hm eb mc w sn v) (hh : hasA v a = true) (h : w.warmS a k = true) : newS v a k = 0 := by
  rw [← A.abs] at h
  have h : (gS v.core a k).warm = true := h
  obtain ⟨i, hi⟩ := has_core hh
  unfold gS at h
  rw [hi] at h
  dsimp only at h
  unfold newS atA
  rw [hi]
  cases hx : idxS v.core.sL i k with
  | some j => rw [show v.sL = v.core.sL from rfl, hx]; rfl
  | none => rw [hx] at h; cases h
set_option maxRecDepth 100000 in
set_option maxHeartbeats 4000000 in
theorem x_84 (ho1 : o = 84) (P : OpS hi hm hb eb m t w sn v mems stale o A S S') (hk : PlK hi eb m t w sn mems orig o S' s0 l0 K) : CallX Hval.prog 193 [.pointer (some ⟨eb, 0, none⟩)] (join (join hi hm) hb) K := by
  have har : (arI o).1 = (1 : Nat) := by rw [ho1]; rfl
  have X := P.X
  have M := X.M
  have h7 := M.t7
  have q : ∀ i, (A i : Int) < W := fun i => P.hA i ▸ (argM_W M i).2
  have hsp : _ ≤ (m.fr t).sp := Int.ofNat_le.1 (har ▸ P.sp)
  have hs64 := M.f.sp
  have hpc := P.pc
  have hrm := P.R.room (by have := P.le; have := P.hS; omega)
  have hro := P.room
  refine CallX.fj X.dj ?_
  refine CallX.of_xf T_ok Hval.func193 rfl (by kernel_rfl) (Nat.le_of_ble_eq_true rfl) ?_; conv => whnf
  refine running_ok M (Ext.refl _) ?_; conv => whnf
  repeat (first | (refine CondX.tt ?_; conv => whnf) | (refine CondX.ff ?_; conv => whnf))
  have F := M.f
  have hsf := F.self
  refine arg_okM (i := 0) M (Ext.refl _) (by decide) ?_
  rw [P.hA]; conv => whnf
  refine BoxX.wj M.A.V.dj fun n1 hd1 he1 => ?_; conv => whnf
  refine Ob.mk ⟨rfl, rfl⟩ ?_; conv => whnf
  refine StoreX.jx (x := wc (A 0)) (Nat.le_of_ble_eq_true rfl) rfl ?_; conv => whnf
  have eI1 := he1 (wc (A 0), 75)
  have dI1 := hd1 (wc (A 0), 75)
  have b1 : hput hi n1 (wc (A 0), 75) n1 = some (wc (A 0), 75) := hput_same ..
  generalize hput hi n1 (wc (A 0), 75) = h1 at *
  refine DrawX.go T_ok hM Hval.func193 (tb := dr193) rfl (by kernel_rfl) ?_; conv => whnf
  refine LoadX.fx (M.blk (Ext.j2 eI1 dI1 (Ext.refl hm))) 0 rfl (by omega) mR_S ?_; conv => whnf
  refine LoadX.fnA (M.blk (Ext.j2 eI1 dI1 (Ext.refl hm))) (1803 + t * 65 + 9) rfl (by show _ + 20 ≤ _; omega) ?_
  rw [show (31, y31).snd.size = 20 from rfl, mR_self h7 hsf.1]; conv => whnf
  refine LoadX.all (c := wc (A 0)) (join_l b1) rfl ?_; conv => whnf
  have hvW := M.A.slotW (m.fr t).self (A 0)
  obtain ⟨vl, evl⟩ : ∃ vl : Nat, (w.acct (m.fr t).self).slot (A 0) = vl := ⟨((w.acct (m.fr t).self).slot (A 0)).toNat, by omega⟩
  obtain ⟨wm, ewm⟩ : ∃ wm, w.warmS (m.fr t).self (A 0) = wm := ⟨_, rfl⟩
  rw [evl] at hvW
  refine peek_ok hsf.1 hsf.2 (q 0) M.A (Ext.j2 eI1 dI1 (Ext.refl hm)) ?_
  rw [evl, ewm]; conv => whnf
  repeat (refine Ob.mk (by first | exact ldV_fn (M.blk (Ext.j2 eI1 dI1 (Ext.refl hm))) 0 rfl (by omega) | exact (ldV_fnA (M.blk (Ext.j2 eI1 dI1 (Ext.refl hm))) (1803 + t * 65 + 9) rfl (by show _ + 20 ≤ _; omega)).trans (congrArg (fun y => some (Value.agg y.toArray)) (mR_self h7 hsf.1)) | exact ldV_all (c := wc (A 0)) (join_l b1) rfl) ?_; conv => whnf)
  refine BoxW.j dI1 fun n4 hn4 hm4 d4 e4 => ?_; conv => whnf
  refine BoxW.j d4 fun n5 hn5 hm5 d5 e5 => ?_; conv => whnf
  have z5 : hput (hput h1 n4 ((75, y75).snd.zero, 75)) n5 ((75, y75).snd.zero, 75) n5 = some ((75, y75).snd.zero, 75) := hput_same ..
  have z4 : hput (hput h1 n4 ((75, y75).snd.zero, 75)) n5 ((75, y75).snd.zero, 75) n4 = some ((75, y75).snd.zero, 75) := e5 _ _ (hput_same ..)
  have z1 := e5 _ _ (e4 _ _ b1)
  have n14 := ne_of b1 hn4
  have n15 := ne_of (e4 _ _ b1) hn5
  have n45 : n4 ≠ n5 := ne_of (hput_same ..) hn5
  have f1 := ext_no he1
  have f4 := none_of eI1 hn4
  have f5 := none_of (eI1.trans e4) hn5
  have eI2 := (eI1.trans e4).trans e5
  generalize hput (hput h1 n4 ((75, y75).snd.zero, 75)) n5 ((75, y75).snd.zero, 75) = h2 at *
  refine Ob.mk ⟨rfl, rfl⟩ ?_; conv => whnf
  refine StoreX.bw2 z4 rfl ?_; conv => whnf
  have eI3 : Ext hi (hput h2 n4 (wc vl, 75)) := hput_ext f4 eI2
  have d3 : Dj (hput h2 n4 (wc vl, 75)) hm := Dj.pl z4 d5
  have b5 : hput h2 n4 (wc vl, 75) n5 = some ((75, y75).snd.zero, 75) := by rw [hput_ne n45.symm]; exact z5
  have b1 : hput h2 n4 (wc vl, 75) n1 = some (wc (A 0), 75) := by rw [hput_ne n14]; exact z1
  have b4 : hput h2 n4 (wc vl, 75) n4 = some (wc vl, 75) := hput_same ..
  generalize hput h2 n4 (wc vl, 75) = h3 at *
  refine Ob.mk ⟨rfl, rfl⟩ ?_; conv => whnf
  refine StoreX.bw2 b5 rfl ?_; conv => whnf
  have eI : Ext hi (hput h3 n5 (wc 0, 75)) := hput_ext f5 eI3
  have dI : Dj (hput h3 n5 (wc 0, 75)) hm := Dj.pl b5 d3
  have b4 : hput h3 n5 (wc 0, 75) n4 = some (wc vl, 75) := by rw [hput_ne n45]; exact b4
  have b1 : hput h3 n5 (wc 0, 75) n1 = some (wc (A 0), 75) := by rw [hput_ne n15]; exact b1
  have b5 : hput h3 n5 (wc 0, 75) n5 = some (wc 0, 75) := hput_same ..
  generalize hput h3 n5 (wc 0, 75) = hX at *
  clear eI1 eI2 eI3 d3 d4 d5 dI1 e4 e5 z1 z4 z5
  have eI1 := eI
  have dI1 := dI
  refine DrawX.go T_ok hM Hval.func193 (tb := dr193) rfl (by kernel_rfl) ?_; conv => whnf
  have hself := X.has t (Nat.le_refl _)
  have hn0 : newA v (m.fr t).self = 0 := by unfold newA; rw [if_pos hself]
  cases wm with
  | true =>
    repeat (first | (refine CondX.tt ?_; conv => whnf) | (refine CondX.ff ?_; conv => whnf))
    have M2 := M
    have u2 : Up v v 0 0 0 0 := Up.refl
    have hwW : warmSW w (m.fr t).self (A 0) = w := warmSW_id ewm
    have dI2 := dI
    have hns := P.R
    refine opcodeM_ok M2 (Ext.j2 eI dI2 (Ext.refl hm)) ?_
    rw [P.ho, ho1]; conv => whnf
    repeat (first | (refine CondX.tt ?_; conv => whnf) | (refine CondX.ff ?_; conv => whnf))
    refine LoadX.all (c := wc vl) (join_l b4) rfl ?_; conv => whnf
    refine settleS_b (tk := 1) (st := 1) eI dI2 M2 hsp (by have h2 : ((m.fr t).sp : Int) - ((1 : Nat) : Int) + 1 ≤ 64 := by { have := P.room; rw [har, ho1] at this; exact this }; omega) (by omega) hvW fun hm3 d3 M3 => ?_; conv => whnf
    refine RetX.drop (h' := join hi hm3) (Ext.j2 eI d3 (Ext.refl hm3)) fun dj3 => fin_val X (T := 1) har (by rw [ho1]; rfl) (by omega) (by rw [ho1]; rfl) M3 dj3 (Ext.refl hi) u2.has ?_ ?_ (P.R.up u2 ?_ ?_ ?_ ?_) hk
    · rw [opA_eq P.hA har, ho1]; exact hwW
    · rw [opA_eq P.hA har, ho1]; exact evl
    all_goals (have := P.cost; rw [ho1] at this; have e : bareA w (m.fr t).self 84 (fun i => (A i : Int)) = if w.warmS (m.fr t).self (A 0) = true then 100 else 2100 := rfl; rw [e, ewm] at this; simp at this; omega)
  | false =>
    repeat (first | (refine CondX.tt ?_; conv => whnf) | (refine CondX.ff ?_; conv => whnf))
    refine LoadX.fx (M.blk (Ext.j2 eI1 dI1 (Ext.refl hm))) 0 rfl (by omega) mR_S ?_; conv => whnf
    repeat (first | (refine CondX.tt ?_; conv => whnf) | (refine CondX.ff ?_; conv => whnf))
    refine LoadX.fnA (M.blk (Ext.j2 eI1 dI1 (Ext.refl hm))) (1803 + t * 65 + 9) rfl (by show _ + 20 ≤ _; omega) ?_
    rw [show (31, y31).snd.size = 20 from rfl, mR_self h7 hsf.1]; conv => whnf
    repeat (first | (refine CondX.tt ?_; conv => whnf) | (refine CondX.ff ?_; conv => whnf))
    refine LoadX.all (c := wc (A 0)) (join_l b1) rfl ?_; conv => whnf
    repeat (first | (refine CondX.tt ?_; conv => whnf) | (refine CondX.ff ?_; conv => whnf))
    refine CallX.bx (hi0 := hi) eI dI (Q := fun y hm' => ∃ v', VA hi hm' eb (mC eb m) (wrmSW w (m.fr t).self (A 0) true) sn v' ∧ Up v v' (newA v (m.fr t).self) (newS v (m.fr t).self (A 0)) 0 1 ∧ y = .bool true) (warmSlot_ok' hsf.1 hsf.2 (q 0) M.A (by omega) (by omega) (by omega) fun hm' v' A' u' h' => ⟨hm', rfl, A'.V.dj, v', A', u', rfl⟩) ?_
    rintro y hm2 dI2 ⟨v2, A2, u2, rfl⟩; conv => whnf
    have M2 := M.setV (Ext.refl hi) A2
    rw [hn0] at u2
    have u2 := u2.le (a' := 0) (b' := 1) (c' := 0) (d' := 1) (by omega) (newS_le ..) (by omega) (by omega)
    have hwW : warmSW w (m.fr t).self (A 0) = wrmSW w (m.fr t).self (A 0) true := warmSW_eq ..
    repeat (first | (refine CondX.tt ?_; conv => whnf) | (refine CondX.ff ?_; conv => whnf))
    refine opcodeM_ok M2 (Ext.j2 eI dI2 (Ext.refl hm2)) ?_
    rw [P.ho, ho1]; conv => whnf
    repeat (first | (refine CondX.tt ?_; conv => whnf) | (refine CondX.ff ?_; conv => whnf))
    refine LoadX.all (c := wc vl) (join_l b4) rfl ?_; conv => whnf
    refine settleS_b (tk := 1) (st := 1) eI dI2 M2 hsp (by have h2 : ((m.fr t).sp : Int) - ((1 : Nat) : Int) + 1 ≤ 64 := by { have := P.room; rw [har, ho1] at this; exact this }; omega) (by omega) hvW fun hm3 d3 M3 => ?_; conv => whnf
    refine RetX.drop (h' := join hi hm3) (Ext.j2 eI d3 (Ext.refl hm3)) fun dj3 => fin_val X (T := 1) har (by rw [ho1]; rfl) (by omega) (by rw [ho1]; rfl) M3 dj3 (Ext.refl hi) u2.has ?_ ?_ (P.R.up u2 ?_ ?_ ?_ ?_) hk
    · rw [opA_eq P.hA har, ho1]; exact hwW
    · rw [opA_eq P.hA har, ho1]; exact evl
    all_goals (have := P.cost; rw [ho1] at this; have e : bareA w (m.fr t).self 84 (fun i => (A i : Int)) = if w.warmS (m.fr t).self (A 0) = true then 100 else 2100 := rfl; rw [e, ewm] at this; simp at this; omega)
set_option maxRecDepth 100000 in
set_option maxHeartbeats 4000000 in
theorem x_85 (href : w.ref ≤ 208666624) (ho1 : o = 85) (P : OpS hi hm hb eb m t w sn v mems stale o A S S') (hk : PlK hi eb m t w sn mems orig o S' s0 l0 K) : CallX Hval.prog 193 [.pointer (some ⟨eb, 0, none⟩)] (join (join hi hm) hb) K := by
  have har : (arI o).1 = (2 : Nat) := by rw [ho1]; rfl
  have X := P.X
  have M := X.M
  have h7 := M.t7
  have q : ∀ i, (A i : Int) < W := fun i => P.hA i ▸ (argM_W M i).2
  have hsp : _ ≤ (m.fr t).sp := Int.ofNat_le.1 (har ▸ P.sp)
  have hs64 := M.f.sp
  have hpc := P.pc
  have hrm := P.R.room (by have := P.le; have := P.hS; omega)
  have hro := P.room
  refine CallX.fj X.dj ?_
  refine CallX.of_xf T_ok Hval.func193 rfl (by kernel_rfl) (Nat.le_of_ble_eq_true rfl) ?_; conv => whnf
  refine running_ok M (Ext.refl _) ?_; conv => whnf
  repeat (first | (refine CondX.tt ?_; conv => whnf) | (refine CondX.ff ?_; conv => whnf))
  have F := M.f
  have hsf := F.self
  refine arg_okM (i := 0) M (Ext.refl _) (by decide) ?_
  rw [P.hA]; conv => whnf
  refine BoxX.wj M.A.V.dj fun n1 hd1 he1 => ?_; conv => whnf
  refine Ob.mk ⟨rfl, rfl⟩ ?_; conv => whnf
  refine StoreX.jx (x := wc (A 0)) (Nat.le_of_ble_eq_true rfl) rfl ?_; conv => whnf
  have eI1 := he1 (wc (A 0), 75)
  have dI1 := hd1 (wc (A 0), 75)
  have b1 : hput hi n1 (wc (A 0), 75) n1 = some (wc (A 0), 75) := hput_same ..
  generalize hput hi n1 (wc (A 0), 75) = h1 at *
  refine DrawX.go T_ok hM Hval.func193 (tb := dr193) rfl (by kernel_rfl) ?_; conv => whnf
  refine LoadX.fx (M.blk (Ext.j2 eI1 dI1 (Ext.refl hm))) 0 rfl (by omega) mR_S ?_; conv => whnf
  refine LoadX.fnA (M.blk (Ext.j2 eI1 dI1 (Ext.refl hm))) (1803 + t * 65 + 9) rfl (by show _ + 20 ≤ _; omega) ?_
  rw [show (31, y31).snd.size = 20 from rfl, mR_self h7 hsf.1]; conv => whnf
  refine LoadX.all (c := wc (A 0)) (join_l b1) rfl ?_; conv => whnf
  have hvW := M.A.slotW (m.fr t).self (A 0)
  obtain ⟨vl, evl⟩ : ∃ vl : Nat, (w.acct (m.fr t).self).slot (A 0) = vl := ⟨((w.acct (m.fr t).self).slot (A 0)).toNat, by omega⟩
  obtain ⟨wm, ewm⟩ : ∃ wm, w.warmS (m.fr t).self (A 0) = wm := ⟨_, rfl⟩
  rw [evl] at hvW
  refine peek_ok hsf.1 hsf.2 (q 0) M.A (Ext.j2 eI1 dI1 (Ext.refl hm)) ?_
  rw [evl, ewm]; conv => whnf
  repeat (refine Ob.mk (by first | exact ldV_fn (M.blk (Ext.j2 eI1 dI1 (Ext.refl hm))) 0 rfl (by omega) | exact (ldV_fnA (M.blk (Ext.j2 eI1 dI1 (Ext.refl hm))) (1803 + t * 65 + 9) rfl (by show _ + 20 ≤ _; omega)).trans (congrArg (fun y => some (Value.agg y.toArray)) (mR_self h7 hsf.1)) | exact ldV_all (c := wc (A 0)) (join_l b1) rfl) ?_; conv => whnf)
  refine BoxW.j dI1 fun n4 hn4 hm4 d4 e4 => ?_; conv => whnf
  refine BoxW.j d4 fun n5 hn5 hm5 d5 e5 => ?_; conv => whnf
  have z5 : hput (hput h1 n4 ((75, y75).snd.zero, 75)) n5 ((75, y75).snd.zero, 75) n5 = some ((75, y75).snd.zero, 75) := hput_same ..
  have z4 : hput (hput h1 n4 ((75, y75).snd.zero, 75)) n5 ((75, y75).snd.zero, 75) n4 = some ((75, y75).snd.zero, 75) := e5 _ _ (hput_same ..)
  have z1 := e5 _ _ (e4 _ _ b1)
  have n14 := ne_of b1 hn4
  have n15 := ne_of (e4 _ _ b1) hn5
  have n45 : n4 ≠ n5 := ne_of (hput_same ..) hn5
  have f1 := ext_no he1
  have f4 := none_of eI1 hn4
  have f5 := none_of (eI1.trans e4) hn5
  have eI2 := (eI1.trans e4).trans e5
  generalize hput (hput h1 n4 ((75, y75).snd.zero, 75)) n5 ((75, y75).snd.zero, 75) = h2 at *
  refine Ob.mk ⟨rfl, rfl⟩ ?_; conv => whnf
  refine StoreX.bw2 z4 rfl ?_; conv => whnf
  have eI3 : Ext hi (hput h2 n4 (wc vl, 75)) := hput_ext f4 eI2
  have d3 : Dj (hput h2 n4 (wc vl, 75)) hm := Dj.pl z4 d5
  have b5 : hput h2 n4 (wc vl, 75) n5 = some ((75, y75).snd.zero, 75) := by rw [hput_ne n45.symm]; exact z5
  have b1 : hput h2 n4 (wc vl, 75) n1 = some (wc (A 0), 75) := by rw [hput_ne n14]; exact z1
  have b4 : hput h2 n4 (wc vl, 75) n4 = some (wc vl, 75) := hput_same ..
  generalize hput h2 n4 (wc vl, 75) = h3 at *
  refine Ob.mk ⟨rfl, rfl⟩ ?_; conv => whnf
  refine StoreX.bw2 b5 rfl ?_; conv => whnf
  have eI : Ext hi (hput h3 n5 (wc 0, 75)) := hput_ext f5 eI3
  have dI : Dj (hput h3 n5 (wc 0, 75)) hm := Dj.pl b5 d3
  have b4 : hput h3 n5 (wc 0, 75) n4 = some (wc vl, 75) := by rw [hput_ne n45]; exact b4
  have b1 : hput h3 n5 (wc 0, 75) n1 = some (wc (A 0), 75) := by rw [hput_ne n15]; exact b1
  have b5 : hput h3 n5 (wc 0, 75) n5 = some (wc 0, 75) := hput_same ..
  generalize hput h3 n5 (wc 0, 75) = hX at *
  clear eI1 eI2 eI3 d3 d4 d5 dI1 e4 e5 z1 z4 z5
  have eI1 := eI
  have dI1 := dI
  refine DrawX.go T_ok hM Hval.func193 (tb := dr193) rfl (by kernel_rfl) ?_; conv => whnf
  have hself := X.has t (Nat.le_refl _)
  have hn0 : newA v (m.fr t).self = 0 := by unfold newA; rw [if_pos hself]
  cases wm with
  | true =>
    repeat (first | (refine CondX.tt ?_; conv => whnf) | (refine CondX.ff ?_; conv => whnf))
    have M2 := M
    have u2 : Up v v 0 0 0 0 := Up.refl
    have hwW : warmSW w (m.fr t).self (A 0) = w := warmSW_id ewm
    have dI2 := dI
    have hns := P.R
    refine opcodeM_ok M2 (Ext.j2 eI dI2 (Ext.refl hm)) ?_
    rw [P.ho, ho1]; conv => whnf
    repeat (first | (refine CondX.tt ?_; conv => whnf) | (refine CondX.ff ?_; conv => whnf))
    refine arg_okM (i := 1) M2 (Ext.j2 eI dI2 (Ext.refl hm)) (by decide) ?_
    rw [P.hA]; conv => whnf
    refine BoxX.wj dI2 fun n7 hd7 he7 => ?_; conv => whnf
    refine Ob.mk ⟨rfl, rfl⟩ ?_; conv => whnf
    refine StoreX.jx (x := wc (A 1)) (Nat.le_of_ble_eq_true rfl) rfl ?_; conv => whnf
    have e7 := he7 (wc (A 1), 75)
    have dI7 := hd7 (wc (A 1), 75)
    have b7 : hput hX n7 (wc (A 1), 75) n7 = some (wc (A 1), 75) := hput_same ..
    have b1 := e7 _ _ b1
    have b4 := e7 _ _ b4
    have b5 := e7 _ _ b5
    have eI7 := eI.trans e7
    generalize hput hX n7 (wc (A 1), 75) = hY at *
    refine LoadX.all (c := wc 0) (join_l b5) rfl ?_; conv => whnf
    refine LoadX.all (c := wc vl) (join_l b4) rfl ?_; conv => whnf
    refine LoadX.all (c := wc (A 1)) (join_l b7) rfl ?_; conv => whnf
    refine sstoreE_ok (x := vl) (n := A 1) hvW.2 (q 1) ?_; conv => whnf
    refine DrawX.go T_ok hM Hval.func193 (tb := dr193) rfl (by kernel_rfl) ?_; conv => whnf
    refine LoadX.all (c := wc (A 1)) (join_l b7) rfl ?_; conv => whnf
    refine LoadX.all (c := wc vl) (join_l b4) rfl ?_; conv => whnf
    refine Ob.mk ⟨rfl, rfl, rfl, rfl⟩ ?_; conv => whnf
    rw [show eqCells (wc (A 1)).toArray.toList (wc vl).toArray.toList = decide ((A 1 : Int) = vl) from eqCells_wc (by omega) (q 1) (by omega) hvW.2]
    rw [← hwW] at M2
    have hn2 : newA v (m.fr t).self = 0 := by unfold newA; rw [if_pos (u2.has _ hself)]
    have hs2 : newS v (m.fr t).self (A 0) = 0 := warmS_newS M2.A (u2.has _ hself) (by show (w.warmS _ _ || decide _) = true; rw [decide_eq_true ⟨rfl, rfl⟩, Bool.or_true])
    have hcost := P.cost
    rw [ho1, show bareA w (m.fr t).self 85 (fun i => (A i : Int)) = sstoreC ((w.acct (m.fr t).self).slot (A 0)) (A 1) (!w.warmS (m.fr t).self (A 0)) from rfl, evl, ewm] at hcost
    have hc85 := sstoreC_ge vl (A 1) (!true)
    have hc86 : (100 : Int) + 2100 * 0 ≤ sstoreC vl (A 1) (!true) := hc85
    by_cases heq : (A 1 : Int) = vl
    · rw [decide_eq_true heq]
      repeat (first | (refine CondX.tt ?_; conv => whnf) | (refine CondX.ff ?_; conv => whnf))
      have hp0 : sstoreP vl (A 1) = 0 := by unfold sstoreP; rw [if_neg (fun hh => hh.1 heq)]
      rw [hp0]
      repeat (first | (refine CondX.tt ?_; conv => whnf) | (refine CondX.ff ?_; conv => whnf))
      refine settleN_b (x := 0) (tk := 2) (st := 1) eI7 dI7 M2 hsp (by omega) fun hm3 d3 M3 => ?_; conv => whnf
      refine RetX.drop (h' := join hi hm3) (Ext.j2 eI7 d3 (Ext.refl hm3)) fun dj3 => fin_eff X (T := 2) har (by rw [ho1]; rfl) ⟨by omega, fun hh => by omega, by omega⟩ (by rw [ho1]; rfl) M3 dj3 (Ext.refl hi) u2.has X.mm.top ?_ (by rw [ho1]; rfl) (P.R.up u2 (by omega) (by omega) (by omega) (by omega)) hk
      rw [opA_eq P.hA har, ho1]
      show storesW w (m.fr t).self (A 0) (A 1) = _
      unfold storesW
      rw [show ({ w with ref := w.ref + sstoreP ((w.acct (m.fr t).self).slot (A 0)) (A 1) } : AW) = w by rw [evl, hp0, Int.add_zero]]
      exact slotW_id (by show (w.acct _).slot _ = _; rw [evl, heq])
    · rw [decide_eq_false heq]
      repeat (first | (refine CondX.tt ?_; conv => whnf) | (refine CondX.ff ?_; conv => whnf))
      refine LoadX.fx (M2.blk (Ext.j2 eI7 dI7 (Ext.refl hm))) 0 rfl (by omega) mR_S ?_; conv => whnf
      repeat (first | (refine CondX.tt ?_; conv => whnf) | (refine CondX.ff ?_; conv => whnf))
      refine LoadX.fnA (M2.blk (Ext.j2 eI7 dI7 (Ext.refl hm))) (1803 + t * 65 + 9) rfl (by show _ + 20 ≤ _; omega) ?_
      rw [show (31, y31).snd.size = 20 from rfl, mR_self h7 hsf.1]; conv => whnf
      repeat (first | (refine CondX.tt ?_; conv => whnf) | (refine CondX.ff ?_; conv => whnf))
      refine LoadX.all (c := wc (A 0)) (join_l b1) rfl ?_; conv => whnf
      repeat (first | (refine CondX.tt ?_; conv => whnf) | (refine CondX.ff ?_; conv => whnf))
      refine LoadX.all (c := wc (A 1)) (join_l b7) rfl ?_; conv => whnf
      repeat (first | (refine CondX.tt ?_; conv => whnf) | (refine CondX.ff ?_; conv => whnf))
      refine CallX.bx (hi0 := hi) eI7 dI7 (Q := fun y hm' => ∃ v', VA hi hm' eb (mC eb m) (slotW (warmSW w (m.fr t).self (A 0)) (m.fr t).self (A 0) (A 1)) sn v' ∧ Up v v' (newA v (m.fr t).self) (newS v (m.fr t).self (A 0)) 0 1 ∧ y = .bool true) (store_ok' hsf.1 hsf.2 (q 0) (q 1) M2.A (by have := u2.a; omega) (by have := u2.s; omega) (by have := u2.j; omega) fun hm' v' A' u' h' => ⟨hm', rfl, A'.V.dj, v', A', u', rfl⟩) ?_
      rintro y hm9 dI9 ⟨v9, A9, u9, rfl⟩; conv => whnf
      rw [hn2, hs2] at u9
      have u9 := u2.trans u9
      have M9 := M2.setV (Ext.refl hi) A9
      repeat (refine Ob.mk (by first | exact ldV_all (c := wc (A 1)) (join_l b7) rfl | exact ldV_all (c := wc vl) (join_l b4) rfl | exact ldV_all (c := wc (A 0)) (join_l b1) rfl) ?_; conv => whnf)
      repeat (first | (refine CondX.tt ?_; conv => whnf) | (refine CondX.ff ?_; conv => whnf))
      by_cases hp0 : sstoreP vl (A 1) = 0
      · rw [hp0]
        repeat (first | (refine CondX.tt ?_; conv => whnf) | (refine CondX.ff ?_; conv => whnf))
        refine settleN_b (x := 0) (tk := 2) (st := 1) eI7 dI9 M9 hsp (by omega) fun hm3 d3 M3 => ?_; conv => whnf
        refine RetX.drop (h' := join hi hm3) (Ext.j2 eI7 d3 (Ext.refl hm3)) fun dj3 => fin_eff X (T := 2) har (by rw [ho1]; rfl) ⟨by omega, fun hh => by omega, by omega⟩ (by rw [ho1]; rfl) M3 dj3 (Ext.refl hi) u9.has X.mm.top ?_ (by rw [ho1]; rfl) (P.R.up u9 (by omega) (by omega) (by omega) (by omega)) hk
        rw [opA_eq P.hA har, ho1]
        show storesW w (m.fr t).self (A 0) (A 1) = _
        unfold storesW
        rw [show ({ w with ref := w.ref + sstoreP ((w.acct (m.fr t).self).slot (A 0)) (A 1) } : AW) = w by rw [evl, hp0, Int.add_zero]]
      · have hp1 : sstoreP vl (A 1) = 19900 := by unfold sstoreP at hp0 ⊢; split <;> simp_all
        rw [hp1]
        repeat (first | (refine CondX.tt ?_; conv => whnf) | (refine CondX.ff ?_; conv => whnf))
        refine LoadX.fx (M9.blk (Ext.j2 eI7 dI9 (Ext.refl hm9))) 0 rfl (by omega) mR_S ?_; conv => whnf
        repeat (first | (refine CondX.tt ?_; conv => whnf) | (refine CondX.ff ?_; conv => whnf))
        refine CallX.bx (hi0 := hi) eI7 dI9 (Q := fun y hm' => ∃ v', VA hi hm' eb (mC eb m) { slotW (warmSW w (m.fr t).self (A 0)) (m.fr t).self (A 0) (A 1) with ref := w.ref + 19900 } sn v' ∧ Up v9 v' 0 0 0 1 ∧ y = .bool true) (refundUp_ok (n := 19900) (by omega) M9.A (by show w.ref + 19900 ≤ _; omega) (by have := u9.j; omega) fun hm' v' A' u' => ⟨hm', rfl, A'.V.dj, v', A', u', rfl⟩) ?_
        rintro y hm10 dI10 ⟨v10, A10, u10, rfl⟩; conv => whnf
        have u10 := u9.trans u10
        have M10 := M9.setV (Ext.refl hi) A10
        repeat (refine Ob.mk (by first | exact ldV_all (c := wc (A 1)) (join_l b7) rfl | exact ldV_all (c := wc vl) (join_l b4) rfl | exact ldV_all (c := wc (A 0)) (join_l b1) rfl) ?_; conv => whnf)
        repeat (first | (refine CondX.tt ?_; conv => whnf) | (refine CondX.ff ?_; conv => whnf))
        refine settleN_b (x := 0) (tk := 2) (st := 1) eI7 dI10 M10 hsp (by omega) fun hm3 d3 M3 => ?_; conv => whnf
        refine RetX.drop (h' := join hi hm3) (Ext.j2 eI7 d3 (Ext.refl hm3)) fun dj3 => fin_eff X (T := 2) har (by rw [ho1]; rfl) ⟨by omega, fun hh => by omega, by omega⟩ (by rw [ho1]; rfl) M3 dj3 (Ext.refl hi) u10.has X.mm.top ?_ (by rw [ho1]; rfl) (P.R.up u10 (by omega) (by omega) (by omega) (by omega)) hk
        rw [opA_eq P.hA har, ho1]
        show storesW w (m.fr t).self (A 0) (A 1) = _
        unfold storesW
        rw [evl, hp1]
        rfl
  | false =>
    repeat (first | (refine CondX.tt ?_; conv => whnf) | (refine CondX.ff ?_; conv => whnf))
    refine LoadX.fx (M.blk (Ext.j2 eI1 dI1 (Ext.refl hm))) 0 rfl (by omega) mR_S ?_; conv => whnf
    repeat (first | (refine CondX.tt ?_; conv => whnf) | (refine CondX.ff ?_; conv => whnf))
    refine LoadX.fnA (M.blk (Ext.j2 eI1 dI1 (Ext.refl hm))) (1803 + t * 65 + 9) rfl (by show _ + 20 ≤ _; omega) ?_
    rw [show (31, y31).snd.size = 20 from rfl, mR_self h7 hsf.1]; conv => whnf
    repeat (first | (refine CondX.tt ?_; conv => whnf) | (refine CondX.ff ?_; conv => whnf))
    refine LoadX.all (c := wc (A 0)) (join_l b1) rfl ?_; conv => whnf
    repeat (first | (refine CondX.tt ?_; conv => whnf) | (refine CondX.ff ?_; conv => whnf))
    refine CallX.bx (hi0 := hi) eI dI (Q := fun y hm' => ∃ v', VA hi hm' eb (mC eb m) (wrmSW w (m.fr t).self (A 0) true) sn v' ∧ Up v v' (newA v (m.fr t).self) (newS v (m.fr t).self (A 0)) 0 1 ∧ y = .bool true) (warmSlot_ok' hsf.1 hsf.2 (q 0) M.A (by omega) (by omega) (by omega) fun hm' v' A' u' h' => ⟨hm', rfl, A'.V.dj, v', A', u', rfl⟩) ?_
    rintro y hm2 dI2 ⟨v2, A2, u2, rfl⟩; conv => whnf
    have M2 := M.setV (Ext.refl hi) A2
    rw [hn0] at u2
    have u2 := u2.le (a' := 0) (b' := 1) (c' := 0) (d' := 1) (by omega) (newS_le ..) (by omega) (by omega)
    have hwW : warmSW w (m.fr t).self (A 0) = wrmSW w (m.fr t).self (A 0) true := warmSW_eq ..
    repeat (first | (refine CondX.tt ?_; conv => whnf) | (refine CondX.ff ?_; conv => whnf))
    refine opcodeM_ok M2 (Ext.j2 eI dI2 (Ext.refl hm2)) ?_
    rw [P.ho, ho1]; conv => whnf
    repeat (first | (refine CondX.tt ?_; conv => whnf) | (refine CondX.ff ?_; conv => whnf))
    refine arg_okM (i := 1) M2 (Ext.j2 eI dI2 (Ext.refl hm2)) (by decide) ?_
    rw [P.hA]; conv => whnf
    refine BoxX.wj dI2 fun n7 hd7 he7 => ?_; conv => whnf
    refine Ob.mk ⟨rfl, rfl⟩ ?_; conv => whnf
    refine StoreX.jx (x := wc (A 1)) (Nat.le_of_ble_eq_true rfl) rfl ?_; conv => whnf
    have e7 := he7 (wc (A 1), 75)
    have dI7 := hd7 (wc (A 1), 75)
    have b7 : hput hX n7 (wc (A 1), 75) n7 = some (wc (A 1), 75) := hput_same ..
    have b1 := e7 _ _ b1
    have b4 := e7 _ _ b4
    have b5 := e7 _ _ b5
    have eI7 := eI.trans e7
    generalize hput hX n7 (wc (A 1), 75) = hY at *
    refine LoadX.all (c := wc 0) (join_l b5) rfl ?_; conv => whnf
    refine LoadX.all (c := wc vl) (join_l b4) rfl ?_; conv => whnf
    refine LoadX.all (c := wc (A 1)) (join_l b7) rfl ?_; conv => whnf
    refine sstoreE_ok (x := vl) (n := A 1) hvW.2 (q 1) ?_; conv => whnf
    refine DrawX.go T_ok hM Hval.func193 (tb := dr193) rfl (by kernel_rfl) ?_; conv => whnf
    refine LoadX.all (c := wc (A 1)) (join_l b7) rfl ?_; conv => whnf
    refine LoadX.all (c := wc vl) (join_l b4) rfl ?_; conv => whnf
    refine Ob.mk ⟨rfl, rfl, rfl, rfl⟩ ?_; conv => whnf
    rw [show eqCells (wc (A 1)).toArray.toList (wc vl).toArray.toList = decide ((A 1 : Int) = vl) from eqCells_wc (by omega) (q 1) (by omega) hvW.2]
    rw [← hwW] at M2
    have hn2 : newA v2 (m.fr t).self = 0 := by unfold newA; rw [if_pos (u2.has _ hself)]
    have hs2 : newS v2 (m.fr t).self (A 0) = 0 := warmS_newS M2.A (u2.has _ hself) (by show (w.warmS _ _ || decide _) = true; rw [decide_eq_true ⟨rfl, rfl⟩, Bool.or_true])
    have hcost := P.cost
    rw [ho1, show bareA w (m.fr t).self 85 (fun i => (A i : Int)) = sstoreC ((w.acct (m.fr t).self).slot (A 0)) (A 1) (!w.warmS (m.fr t).self (A 0)) from rfl, evl, ewm] at hcost
    have hc85 := sstoreC_ge vl (A 1) (!false)
    have hc86 : (100 : Int) + 2100 * 1 ≤ sstoreC vl (A 1) (!false) := hc85
    by_cases heq : (A 1 : Int) = vl
    · rw [decide_eq_true heq]
      repeat (first | (refine CondX.tt ?_; conv => whnf) | (refine CondX.ff ?_; conv => whnf))
      have hp0 : sstoreP vl (A 1) = 0 := by unfold sstoreP; rw [if_neg (fun hh => hh.1 heq)]
      rw [hp0]
      repeat (first | (refine CondX.tt ?_; conv => whnf) | (refine CondX.ff ?_; conv => whnf))
      refine settleN_b (x := 0) (tk := 2) (st := 1) eI7 dI7 M2 hsp (by omega) fun hm3 d3 M3 => ?_; conv => whnf
      refine RetX.drop (h' := join hi hm3) (Ext.j2 eI7 d3 (Ext.refl hm3)) fun dj3 => fin_eff X (T := 2) har (by rw [ho1]; rfl) ⟨by omega, fun hh => by omega, by omega⟩ (by rw [ho1]; rfl) M3 dj3 (Ext.refl hi) u2.has X.mm.top ?_ (by rw [ho1]; rfl) (P.R.up u2 (by omega) (by omega) (by omega) (by omega)) hk
      rw [opA_eq P.hA har, ho1]
      show storesW w (m.fr t).self (A 0) (A 1) = _
      unfold storesW
      rw [show ({ w with ref := w.ref + sstoreP ((w.acct (m.fr t).self).slot (A 0)) (A 1) } : AW) = w by rw [evl, hp0, Int.add_zero]]
      exact slotW_id (by show (w.acct _).slot _ = _; rw [evl, heq])
    · rw [decide_eq_false heq]
      repeat (first | (refine CondX.tt ?_; conv => whnf) | (refine CondX.ff ?_; conv => whnf))
      refine LoadX.fx (M2.blk (Ext.j2 eI7 dI7 (Ext.refl hm2))) 0 rfl (by omega) mR_S ?_; conv => whnf
      repeat (first | (refine CondX.tt ?_; conv => whnf) | (refine CondX.ff ?_; conv => whnf))
      refine LoadX.fnA (M2.blk (Ext.j2 eI7 dI7 (Ext.refl hm2))) (1803 + t * 65 + 9) rfl (by show _ + 20 ≤ _; omega) ?_
      rw [show (31, y31).snd.size = 20 from rfl, mR_self h7 hsf.1]; conv => whnf
      repeat (first | (refine CondX.tt ?_; conv => whnf) | (refine CondX.ff ?_; conv => whnf))
      refine LoadX.all (c := wc (A 0)) (join_l b1) rfl ?_; conv => whnf
      repeat (first | (refine CondX.tt ?_; conv => whnf) | (refine CondX.ff ?_; conv => whnf))
      refine LoadX.all (c := wc (A 1)) (join_l b7) rfl ?_; conv => whnf
      repeat (first | (refine CondX.tt ?_; conv => whnf) | (refine CondX.ff ?_; conv => whnf))
      refine CallX.bx (hi0 := hi) eI7 dI7 (Q := fun y hm' => ∃ v', VA hi hm' eb (mC eb m) (slotW (warmSW w (m.fr t).self (A 0)) (m.fr t).self (A 0) (A 1)) sn v' ∧ Up v2 v' (newA v2 (m.fr t).self) (newS v2 (m.fr t).self (A 0)) 0 1 ∧ y = .bool true) (store_ok' hsf.1 hsf.2 (q 0) (q 1) M2.A (by have := u2.a; omega) (by have := u2.s; omega) (by have := u2.j; omega) fun hm' v' A' u' h' => ⟨hm', rfl, A'.V.dj, v', A', u', rfl⟩) ?_
      rintro y hm9 dI9 ⟨v9, A9, u9, rfl⟩; conv => whnf
      rw [hn2, hs2] at u9
      have u9 := u2.trans u9
      have M9 := M2.setV (Ext.refl hi) A9
      repeat (refine Ob.mk (by first | exact ldV_all (c := wc (A 1)) (join_l b7) rfl | exact ldV_all (c := wc vl) (join_l b4) rfl | exact ldV_all (c := wc (A 0)) (join_l b1) rfl) ?_; conv => whnf)
      repeat (first | (refine CondX.tt ?_; conv => whnf) | (refine CondX.ff ?_; conv => whnf))
      by_cases hp0 : sstoreP vl (A 1) = 0
      · rw [hp0]
        repeat (first | (refine CondX.tt ?_; conv => whnf) | (refine CondX.ff ?_; conv => whnf))
        refine settleN_b (x := 0) (tk := 2) (st := 1) eI7 dI9 M9 hsp (by omega) fun hm3 d3 M3 => ?_; conv => whnf
        refine RetX.drop (h' := join hi hm3) (Ext.j2 eI7 d3 (Ext.refl hm3)) fun dj3 => fin_eff X (T := 2) har (by rw [ho1]; rfl) ⟨by omega, fun hh => by omega, by omega⟩ (by rw [ho1]; rfl) M3 dj3 (Ext.refl hi) u9.has X.mm.top ?_ (by rw [ho1]; rfl) (P.R.up u9 (by omega) (by omega) (by omega) (by omega)) hk
        rw [opA_eq P.hA har, ho1]
        show storesW w (m.fr t).self (A 0) (A 1) = _
        unfold storesW
        rw [show ({ w with ref := w.ref + sstoreP ((w.acct (m.fr t).self).slot (A 0)) (A 1) } : AW) = w by rw [evl, hp0, Int.add_zero]]
      · have hp1 : sstoreP vl (A 1) = 19900 := by unfold sstoreP at hp0 ⊢; split <;> simp_all
        rw [hp1]
        repeat (first | (refine CondX.tt ?_; conv => whnf) | (refine CondX.ff ?_; conv => whnf))
        refine LoadX.fx (M9.blk (Ext.j2 eI7 dI9 (Ext.refl hm9))) 0 rfl (by omega) mR_S ?_; conv => whnf
        repeat (first | (refine CondX.tt ?_; conv => whnf) | (refine CondX.ff ?_; conv => whnf))
        refine CallX.bx (hi0 := hi) eI7 dI9 (Q := fun y hm' => ∃ v', VA hi hm' eb (mC eb m) { slotW (warmSW w (m.fr t).self (A 0)) (m.fr t).self (A 0) (A 1) with ref := w.ref + 19900 } sn v' ∧ Up v9 v' 0 0 0 1 ∧ y = .bool true) (refundUp_ok (n := 19900) (by omega) M9.A (by show w.ref + 19900 ≤ _; omega) (by have := u9.j; omega) fun hm' v' A' u' => ⟨hm', rfl, A'.V.dj, v', A', u', rfl⟩) ?_
        rintro y hm10 dI10 ⟨v10, A10, u10, rfl⟩; conv => whnf
        have u10 := u9.trans u10
        have M10 := M9.setV (Ext.refl hi) A10
        repeat (refine Ob.mk (by first | exact ldV_all (c := wc (A 1)) (join_l b7) rfl | exact ldV_all (c := wc vl) (join_l b4) rfl | exact ldV_all (c := wc (A 0)) (join_l b1) rfl) ?_; conv => whnf)
        repeat (first | (refine CondX.tt ?_; conv => whnf) | (refine CondX.ff ?_; conv => whnf))
        refine settleN_b (x := 0) (tk := 2) (st := 1) eI7 dI10 M10 hsp (by omega) fun hm3 d3 M3 => ?_; conv => whnf
        refine RetX.drop (h' := join hi hm3) (Ext.j2 eI7 d3 (Ext.refl hm3)) fun dj3 => fin_eff X (T := 2) har (by rw [ho1]; rfl) ⟨by omega, fun hh => by omega, by omega⟩ (by rw [ho1]; rfl) M3 dj3 (Ext.refl hi) u10.has X.mm.top ?_ (by rw [ho1]; rfl) (P.R.up u10 (by omega) (by omega) (by omega) (by omega)) hk
        rw [opA_eq P.hA har, ho1]
        show storesW w (m.fr t).self (A 0) (A 1) = _
        unfold storesW
        rw [evl, hp1]
        rfl
end
end Go.Proofs.YgvalwGreat.X
