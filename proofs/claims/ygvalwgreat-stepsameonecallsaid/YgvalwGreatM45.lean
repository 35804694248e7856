import Derived.Test.YgvalwGreatM44
set_option linter.unusedVariables false
set_option linter.unusedSimpArgs false
namespace Go.Proofs.YgvalwGreat.X
open Go


section
variable {hi hi' hm hm' hb hb' h : Hp} {K : Value → Hp → Prop} {v v' : VS} {eb : Nat} {m m' : MS} {t : Nat} {mems : Nat → List Int} {stale stale' mem' orig a : List Int} {w w' : AW} {sn : List AW} {s0 l0 S S' x o : Int} {A : Nat → Nat}
set_option maxRecDepth 100000 in
set_option maxHeartbeats 4000000 in
theorem x_92 (ho1 : o = 92) (P : OpS hi hm hb eb m t w sn v mems stale o A S S') (hk : PlK hi eb m t w sn mems orig o S' s0 l0 K) : CallX Hval.prog 196 [.pointer (some ⟨eb, 0, none⟩)] (join (join hi hm) hb) K := by
  have har : (arI o).1 = (1 : Nat) := by rw [ho1]; rfl
  have X := P.X
  have M := X.M
  have h7 := M.t7
  have q : ∀ i, (A i : Int) < W := fun i => P.hA i ▸ (argM_W M i).2
  have hsp : _ ≤ (m.fr t).sp := Int.ofNat_le.1 (har ▸ P.sp)
  have hs64 := M.f.sp
  have hpc := P.pc
  have hrm := P.R.room (by have := P.le; have := P.hS; omega)
  have hro := P.room
  refine CallX.fj X.dj ?_
  refine CallX.of_xf T_ok Hval.func196 rfl (by kernel_rfl) (Nat.le_of_ble_eq_true rfl) ?_; conv => whnf
  refine running_ok M (Ext.refl _) ?_; conv => whnf
  repeat (first | (refine CondX.tt ?_; conv => whnf) | (refine CondX.ff ?_; conv => whnf))
  have F := M.f
  have hsf := F.self
  refine arg_okM (i := 0) M (Ext.refl _) (by decide) ?_
  rw [P.hA]; conv => whnf
  refine BoxX.wj M.A.V.dj fun n1 hd1 he1 => ?_; conv => whnf
  refine Ob.mk ⟨rfl, rfl⟩ ?_; conv => whnf
  refine StoreX.jx (x := wc (A 0)) (Nat.le_of_ble_eq_true rfl) rfl ?_; conv => whnf
  have eI1 := he1 (wc (A 0), 75)
  have dI1 := hd1 (wc (A 0), 75)
  have b1 : hput hi n1 (wc (A 0), 75) n1 = some (wc (A 0), 75) := hput_same ..
  have f1 := ext_no he1
  clear hd1 he1
  generalize hput hi n1 (wc (A 0), 75) = h1 at *
  refine DrawX.go T_ok hM Hval.func196 (tb := dr196) rfl (by kernel_rfl) ?_; conv => whnf
  refine LoadX.fx (M.blk (Ext.j2 eI1 dI1 (Ext.refl hm))) 0 rfl (by omega) mR_S ?_; conv => whnf
  refine LoadX.fnA (M.blk (Ext.j2 eI1 dI1 (Ext.refl hm))) (1803 + t * 65 + 9) rfl (by show _ + 20 ≤ _; omega) ?_
  rw [show (31, y31).snd.size = 20 from rfl, mR_self h7 hsf.1]; conv => whnf
  refine LoadX.all (c := wc (A 0)) (join_l b1) rfl ?_; conv => whnf
  have hvW := M.A.tempW' (m.fr t).self (A 0)
  obtain ⟨vl, evl⟩ : ∃ vl : Nat, w.temp (m.fr t).self (A 0) = vl := ⟨(w.temp (m.fr t).self (A 0)).toNat, by omega⟩
  rw [evl] at hvW
  refine tload_ok' hsf.1 hsf.2 (q 0) M.A (Ext.j2 eI1 dI1 (Ext.refl hm)) ?_
  rw [evl]; conv => whnf
  repeat (refine Ob.mk (by first | exact ldV_fn (M.blk (Ext.j2 eI1 dI1 (Ext.refl hm))) 0 rfl (by omega) | exact (ldV_fnA (M.blk (Ext.j2 eI1 dI1 (Ext.refl hm))) (1803 + t * 65 + 9) rfl (by show _ + 20 ≤ _; omega)).trans (congrArg (fun y => some (Value.agg y.toArray)) (mR_self h7 hsf.1)) | exact ldV_all (c := wc (A 0)) (join_l b1) rfl) ?_; conv => whnf)
  refine BoxW.j dI1 fun n4 hn4 hm4 d4 e4 => ?_; conv => whnf
  have z4 : hput h1 n4 ((75, y75).snd.zero, 75) n4 = some ((75, y75).snd.zero, 75) := hput_same ..
  have z1 := e4 _ _ b1
  have n14 := ne_of b1 hn4
  have f4 := none_of eI1 hn4
  have eI2 := eI1.trans e4
  generalize hput h1 n4 ((75, y75).snd.zero, 75) = h2 at *
  refine Ob.mk ⟨rfl, rfl⟩ ?_; conv => whnf
  refine StoreX.bw2 z4 rfl ?_; conv => whnf
  have eI : Ext hi (hput h2 n4 (wc vl, 75)) := hput_ext f4 eI2
  have dI : Dj (hput h2 n4 (wc vl, 75)) hm := Dj.pl z4 d4
  have b1 : hput h2 n4 (wc vl, 75) n1 = some (wc (A 0), 75) := by rw [hput_ne n14]; exact z1
  have b4 : hput h2 n4 (wc vl, 75) n4 = some (wc vl, 75) := hput_same ..
  generalize hput h2 n4 (wc vl, 75) = hX at *
  clear eI1 eI2 d4 dI1 e4 z1 z4
  refine opcodeM_ok M (Ext.j2 eI dI (Ext.refl hm)) ?_
  rw [P.ho, ho1]; conv => whnf
  repeat (first | (refine CondX.tt ?_; conv => whnf) | (refine CondX.ff ?_; conv => whnf))
  refine LoadX.all (c := wc vl) (join_l b4) rfl ?_; conv => whnf
  refine settleS_b (tk := 1) (st := 1) eI dI M hsp (by have h2 : ((m.fr t).sp : Int) - ((1 : Nat) : Int) + 1 ≤ 64 := by { have := P.room; rw [har, ho1] at this; exact this }; omega) (by omega) hvW fun hm3 d3 M3 => ?_; conv => whnf
  refine RetX.drop (h' := join hi hm3) (Ext.j2 eI d3 (Ext.refl hm3)) fun dj3 => fin_val X (T := 1) har (by rw [ho1]; rfl) (by omega) (by rw [ho1]; rfl) M3 dj3 (Ext.refl hi) (fun _ h => h) ?_ ?_ P.R' hk
  · rw [ho1]; rfl
  · rw [opA_eq P.hA har, ho1]; exact evl
theorem tempW_id {k x : Int} (h : w.temp a k = x) : tempW w a k x = w := by
  unfold tempW
  congr 1
  funext b j
  split
  · rename_i hb; rw [hb.1, hb.2]; exact h.symm
  · rfl
set_option maxRecDepth 100000 in
set_option maxHeartbeats 4000000 in
theorem x_93 (ho1 : o = 93) (P : OpS hi hm hb eb m t w sn v mems stale o A S S') (hk : PlK hi eb m t w sn mems orig o S' s0 l0 K) : CallX Hval.prog 196 [.pointer (some ⟨eb, 0, none⟩)] (join (join hi hm) hb) K := by
  have har : (arI o).1 = (2 : Nat) := by rw [ho1]; rfl
  have X := P.X
  have M := X.M
  have h7 := M.t7
  have q : ∀ i, (A i : Int) < W := fun i => P.hA i ▸ (argM_W M i).2
  have hsp : _ ≤ (m.fr t).sp := Int.ofNat_le.1 (har ▸ P.sp)
  have hs64 := M.f.sp
  have hpc := P.pc
  have hrm := P.R.room (by have := P.le; have := P.hS; omega)
  have hro := P.room
  refine CallX.fj X.dj ?_
  refine CallX.of_xf T_ok Hval.func196 rfl (by kernel_rfl) (Nat.le_of_ble_eq_true rfl) ?_; conv => whnf
  refine running_ok M (Ext.refl _) ?_; conv => whnf
  repeat (first | (refine CondX.tt ?_; conv => whnf) | (refine CondX.ff ?_; conv => whnf))
  have F := M.f
  have hsf := F.self
  refine arg_okM (i := 0) M (Ext.refl _) (by decide) ?_
  rw [P.hA]; conv => whnf
  refine BoxX.wj M.A.V.dj fun n1 hd1 he1 => ?_; conv => whnf
  refine Ob.mk ⟨rfl, rfl⟩ ?_; conv => whnf
  refine StoreX.jx (x := wc (A 0)) (Nat.le_of_ble_eq_true rfl) rfl ?_; conv => whnf
  have eI1 := he1 (wc (A 0), 75)
  have dI1 := hd1 (wc (A 0), 75)
  have b1 : hput hi n1 (wc (A 0), 75) n1 = some (wc (A 0), 75) := hput_same ..
  have f1 := ext_no he1
  clear hd1 he1
  generalize hput hi n1 (wc (A 0), 75) = h1 at *
  refine DrawX.go T_ok hM Hval.func196 (tb := dr196) rfl (by kernel_rfl) ?_; conv => whnf
  refine LoadX.fx (M.blk (Ext.j2 eI1 dI1 (Ext.refl hm))) 0 rfl (by omega) mR_S ?_; conv => whnf
  refine LoadX.fnA (M.blk (Ext.j2 eI1 dI1 (Ext.refl hm))) (1803 + t * 65 + 9) rfl (by show _ + 20 ≤ _; omega) ?_
  rw [show (31, y31).snd.size = 20 from rfl, mR_self h7 hsf.1]; conv => whnf
  refine LoadX.all (c := wc (A 0)) (join_l b1) rfl ?_; conv => whnf
  have hvW := M.A.tempW' (m.fr t).self (A 0)
  obtain ⟨vl, evl⟩ : ∃ vl : Nat, w.temp (m.fr t).self (A 0) = vl := ⟨(w.temp (m.fr t).self (A 0)).toNat, by omega⟩
  rw [evl] at hvW
  refine tload_ok' hsf.1 hsf.2 (q 0) M.A (Ext.j2 eI1 dI1 (Ext.refl hm)) ?_
  rw [evl]; conv => whnf
  repeat (refine Ob.mk (by first | exact ldV_fn (M.blk (Ext.j2 eI1 dI1 (Ext.refl hm))) 0 rfl (by omega) | exact (ldV_fnA (M.blk (Ext.j2 eI1 dI1 (Ext.refl hm))) (1803 + t * 65 + 9) rfl (by show _ + 20 ≤ _; omega)).trans (congrArg (fun y => some (Value.agg y.toArray)) (mR_self h7 hsf.1)) | exact ldV_all (c := wc (A 0)) (join_l b1) rfl) ?_; conv => whnf)
  refine BoxW.j dI1 fun n4 hn4 hm4 d4 e4 => ?_; conv => whnf
  have z4 : hput h1 n4 ((75, y75).snd.zero, 75) n4 = some ((75, y75).snd.zero, 75) := hput_same ..
  have z1 := e4 _ _ b1
  have n14 := ne_of b1 hn4
  have f4 := none_of eI1 hn4
  have eI2 := eI1.trans e4
  generalize hput h1 n4 ((75, y75).snd.zero, 75) = h2 at *
  refine Ob.mk ⟨rfl, rfl⟩ ?_; conv => whnf
  refine StoreX.bw2 z4 rfl ?_; conv => whnf
  have eI : Ext hi (hput h2 n4 (wc vl, 75)) := hput_ext f4 eI2
  have dI : Dj (hput h2 n4 (wc vl, 75)) hm := Dj.pl z4 d4
  have b1 : hput h2 n4 (wc vl, 75) n1 = some (wc (A 0), 75) := by rw [hput_ne n14]; exact z1
  have b4 : hput h2 n4 (wc vl, 75) n4 = some (wc vl, 75) := hput_same ..
  generalize hput h2 n4 (wc vl, 75) = hX at *
  clear eI1 eI2 d4 dI1 e4 z1 z4
  refine opcodeM_ok M (Ext.j2 eI dI (Ext.refl hm)) ?_
  rw [P.ho, ho1]; conv => whnf
  repeat (first | (refine CondX.tt ?_; conv => whnf) | (refine CondX.ff ?_; conv => whnf))
  refine arg_okM (i := 1) M (Ext.j2 eI dI (Ext.refl hm)) (by decide) ?_
  rw [P.hA]; conv => whnf
  refine BoxX.wj dI fun n7 hd7 he7 => ?_; conv => whnf
  refine Ob.mk ⟨rfl, rfl⟩ ?_; conv => whnf
  refine StoreX.jx (x := wc (A 1)) (Nat.le_of_ble_eq_true rfl) rfl ?_; conv => whnf
  have e7 := he7 (wc (A 1), 75)
  have dI7 := hd7 (wc (A 1), 75)
  have b7 : hput hX n7 (wc (A 1), 75) n7 = some (wc (A 1), 75) := hput_same ..
  have b1 := e7 _ _ b1
  have b4 := e7 _ _ b4
  have eI7 := eI.trans e7
  generalize hput hX n7 (wc (A 1), 75) = hY at *
  have hcost := P.cost
  rw [ho1, show bareA w (m.fr t).self 93 (fun i => (A i : Int)) = 100 from rfl] at hcost
  refine DrawX.go T_ok hM Hval.func196 (tb := dr196) rfl (by kernel_rfl) ?_; conv => whnf
  refine LoadX.all (c := wc (A 1)) (join_l b7) rfl ?_; conv => whnf
  refine LoadX.all (c := wc vl) (join_l b4) rfl ?_; conv => whnf
  refine Ob.mk ⟨rfl, rfl, rfl, rfl⟩ ?_; conv => whnf
  rw [show eqCells (wc (A 1)).toArray.toList (wc vl).toArray.toList = decide ((A 1 : Int) = vl) from eqCells_wc (by omega) (q 1) (by omega) hvW.2]
  by_cases heq : (A 1 : Int) = vl
  · rw [decide_eq_true heq]
    repeat (first | (refine CondX.tt ?_; conv => whnf) | (refine CondX.ff ?_; conv => whnf))
    have u2 : Up v v 0 0 0 0 := Up.refl
    refine settleN_b (x := 0) (tk := 2) (st := 1) eI7 dI7 M hsp (by omega) fun hm3 d3 M3 => ?_; conv => whnf
    refine RetX.drop (h' := join hi hm3) (Ext.j2 eI7 d3 (Ext.refl hm3)) fun dj3 => fin_eff X (T := 2) har (by rw [ho1]; rfl) ⟨by omega, fun hh => by omega, by omega⟩ (by rw [ho1]; rfl) M3 dj3 (Ext.refl hi) u2.has X.mm.top ?_ (by rw [ho1]; rfl) (P.R.up u2 (by omega) (by omega) (by omega) (by omega)) hk
    rw [opA_eq P.hA har, ho1]
    show tempW w (m.fr t).self (A 0) (A 1) = _
    exact tempW_id (by rw [evl, heq])
  · rw [decide_eq_false heq]
    repeat (first | (refine CondX.tt ?_; conv => whnf) | (refine CondX.ff ?_; conv => whnf))
    have hself := X.has t (Nat.le_refl _)
    have hn2 : newA v (m.fr t).self = 0 := by unfold newA; rw [if_pos hself]
    refine LoadX.fx (M.blk (Ext.j2 eI7 dI7 (Ext.refl hm))) 0 rfl (by omega) mR_S ?_; conv => whnf
    repeat (first | (refine CondX.tt ?_; conv => whnf) | (refine CondX.ff ?_; conv => whnf))
    refine LoadX.fnA (M.blk (Ext.j2 eI7 dI7 (Ext.refl hm))) (1803 + t * 65 + 9) rfl (by show _ + 20 ≤ _; omega) ?_
    rw [show (31, y31).snd.size = 20 from rfl, mR_self h7 hsf.1]; conv => whnf
    repeat (first | (refine CondX.tt ?_; conv => whnf) | (refine CondX.ff ?_; conv => whnf))
    refine LoadX.all (c := wc (A 0)) (join_l b1) rfl ?_; conv => whnf
    repeat (first | (refine CondX.tt ?_; conv => whnf) | (refine CondX.ff ?_; conv => whnf))
    refine LoadX.all (c := wc (A 1)) (join_l b7) rfl ?_; conv => whnf
    repeat (first | (refine CondX.tt ?_; conv => whnf) | (refine CondX.ff ?_; conv => whnf))
    refine CallX.bx (hi0 := hi) eI7 dI7 (Q := fun y hm' => ∃ v', VA hi hm' eb (mC eb m) (tempW w (m.fr t).self (A 0) (A 1)) sn v' ∧ Up v v' (newA v (m.fr t).self) 0 1 1 ∧ y = .bool true) (tstore_ok' hsf.1 hsf.2 (q 0) (q 1) M.A (by omega) (by omega) (by omega) fun hm' v' A' u' h' => ⟨hm', rfl, A'.V.dj, v', A', u', rfl⟩) ?_
    rintro y hm9 dI9 ⟨v9, A9, u9, rfl⟩; conv => whnf
    rw [hn2] at u9
    have M9 := M.setV (Ext.refl hi) A9
    repeat (refine Ob.mk (by first | exact ldV_all (c := wc (A 1)) (join_l b7) rfl | exact ldV_all (c := wc vl) (join_l b4) rfl | exact ldV_all (c := wc (A 0)) (join_l b1) rfl) ?_; conv => whnf)
    repeat (first | (refine CondX.tt ?_; conv => whnf) | (refine CondX.ff ?_; conv => whnf))
    refine settleN_b (x := 0) (tk := 2) (st := 1) eI7 dI9 M9 hsp (by omega) fun hm3 d3 M3 => ?_; conv => whnf
    refine RetX.drop (h' := join hi hm3) (Ext.j2 eI7 d3 (Ext.refl hm3)) fun dj3 => fin_eff X (T := 2) har (by rw [ho1]; rfl) ⟨by omega, fun hh => by omega, by omega⟩ (by rw [ho1]; rfl) M3 dj3 (Ext.refl hi) u9.has X.mm.top ?_ (by rw [ho1]; rfl) (P.R.up u9 (by omega) (by omega) (by omega) (by omega)) hk
    rw [opA_eq P.hA har, ho1]
    show tempW w (m.fr t).self (A 0) (A 1) = _
    rfl
end
end Go.Proofs.YgvalwGreat.X
