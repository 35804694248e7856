import Derived.Test.YgvalwGreatE52
set_option linter.unusedVariables false
set_option linter.unusedSimpArgs false
namespace Go.Proofs.YgvalwGreat.X
open Go


section
variable {h hi hm : Hp} {K : Value → Hp → Prop} {mc : Nat → Value} {v : VS} {eb : Nat} {w : AW} {sn : List AW} {a : List Int}
set_option maxRecDepth 100000 in
set_option maxHeartbeats 4000000 in
theorem eEmpty_ok {m o : Nat} {x : EA} (hn : ldV false 1 h m (o + 20) = some (.int .u64 x.nonce)) (hb : ldV true 4 h m (o + 21) = some (.agg (wc x.bal).toArray)) (hc : ldV false 1 h m (o + 25) = some (sl x.cs)) (hbr : 0 ≤ x.bal ∧ x.bal < W) (hcs : BytS h x.cs x.code)
    (hk : K (.bool (emptyAA ⟨x.nonce, x.bal, x.code, fun _ => 0⟩)) h) : CallX Hval.prog 357 [.pointer (some ⟨m, o, none⟩)] h K := by
  have hcl := hcs.len
  refine CallX.of_xf T_ok Hval.func357 rfl (by kernel_rfl) (Nat.le_of_ble_eq_true rfl) ?_; conv => whnf
  refine LoadX.of _ hn ?_; conv => whnf
  refine CondX.eqI (fun h1 => ?_) (fun h1 => ?_) <;> conv => whnf
  · repeat (first | (refine CondX.tt ?_; conv => whnf) | (refine CondX.ff ?_; conv => whnf))
    refine LoadX.of _ hb ?_; conv => whnf
    repeat (first | (refine CondX.tt ?_; conv => whnf) | (refine CondX.ff ?_; conv => whnf))
    refine eIsZero' hbr.1 hbr.2 ?_; conv => whnf
    repeat (first | (refine CondX.tt ?_; conv => whnf) | (refine CondX.ff ?_; conv => whnf))
    refine CondX.decI (fun h2 => ?_) (fun h2 => ?_) <;> conv => whnf
    · repeat (first | (refine CondX.tt ?_; conv => whnf) | (refine CondX.ff ?_; conv => whnf))
      refine LoadX.of _ hc ?_; conv => whnf
      repeat (first | (refine CondX.tt ?_; conv => whnf) | (refine CondX.ff ?_; conv => whnf))
      refine RetX.same ?_
      refine cast (congrArg (fun b => K (.bool b) h) ?_) hk
      show decide _ = ((x.cs.2.1 : Int) == 0)
      have : x.code = [] ↔ (x.cs.2.1 : Int) = 0 := ⟨fun e => by rw [e] at hcl; simp at hcl; omega, fun e => List.eq_nil_of_length_eq_zero (by omega)⟩
      rw [Bool.eq_iff_iff, decide_eq_true_iff, beq_iff_eq]
      exact ⟨fun e => this.1 e.2.2, fun e => ⟨h1, h2, this.2 e⟩⟩
    · repeat (first | (refine CondX.tt ?_; conv => whnf) | (refine CondX.ff ?_; conv => whnf))
      refine RetX.same ?_
      refine cast (congrArg (fun b => K (.bool b) h) ?_) hk
      unfold emptyAA; simp [h2]
  · repeat (first | (refine CondX.tt ?_; conv => whnf) | (refine CondX.ff ?_; conv => whnf))
    refine RetX.same ?_
    refine cast (congrArg (fun b => K (.bool b) h) ?_) hk
    unfold emptyAA; simp [h1]
set_option maxRecDepth 100000 in
set_option maxHeartbeats 4000000 in
theorem isEmpty_ok (hl : a.length = 20) (hB : isB a) (A : VA hi hm eb mc w sn v) (he : Ext (join hi hm) h) (hk : K (.bool (emptyAA (w.acct a))) h) : CallX Hval.prog 278 [.pointer (some ⟨eb, 2435, none⟩), .agg (bcells a).toArray] h K := by
  have hal := A.V.aT.len
  rw [List.length_map] at hal
  have alen : (bcells a).length = (31, y31).snd.size := by rw [bcells_len, hl]; rfl
  have hmean := A.abs
  subst hmean
  refine CallX.of_xf T_ok Hval.func278 rfl (by kernel_rfl) (Nat.le_of_ble_eq_true rfl) ?_; conv => whnf
  refine BoxX.ext fun n1 hn1 en1 => ?_; conv => whnf
  refine LoadX.all (c := bcells a) (hput_same ..) alen ?_; conv => whnf
  have he1 := he.trans en1
  refine findA hl hB he1 A.V (fun i hi' h1 => ?_) (fun h1 p _ _ => ?_) <;> conv => whnf
  · refine CondX.dF (by omega) ?_; conv => whnf
    repeat (first | (refine CondX.tt ?_; conv => whnf) | (refine CondX.ff ?_; conv => whnf))
    refine LoadX.fn (A.blk he1) 2435 rfl (by omega) ?_
    rw [eC_a]; conv => whnf
    repeat (first | (refine CondX.tt ?_; conv => whnf) | (refine CondX.ff ?_; conv => whnf))
    refine IdxX.tag A.V.aT (by omega) (by omega) fun m hma => ?_; conv => whnf
    repeat (first | (refine CondX.tt ?_; conv => whnf) | (refine CondX.ff ?_; conv => whnf))
    refine eEmpty_ok (x := v.aL.getD i dA) (A.fld he1 hi' hma 0 (by omega)) (A.fldB he1 hi' hma) (A.fld he1 hi' hma 5 (by omega)) (A.V.cok.awf _ (getDm hi')).2.2 (((A.V.ac _ (getDm (d := dA) hi')).ext (Ext.jl hi hm)).ext he1) ?_; conv => whnf
    repeat (first | (refine CondX.tt ?_; conv => whnf) | (refine CondX.ff ?_; conv => whnf))
    refine RetX.drop (h' := h) (Ext.bd hn1) ?_
    refine cast (congrArg (fun b => K (.bool b) h) ?_) hk
    show emptyAA ⟨(gA v.core a).nonce, (gA v.core a).bal, (gA v.core a).code, _⟩ = _
    rw [gA_some (c := v.core) h1]
    rfl
  · refine CondX.dT (by omega) ?_; conv => whnf
    repeat (first | (refine CondX.tt ?_; conv => whnf) | (refine CondX.ff ?_; conv => whnf))
    refine RetX.drop (h' := h) (Ext.bd hn1) ?_
    refine cast (congrArg (fun b => K (.bool b) h) ?_) hk
    show emptyAA ⟨(gA v.core a).nonce, (gA v.core a).bal, (gA v.core a).code, _⟩ = _
    rw [gA_none (c := v.core) h1]
    rfl
/-- Two boxes of a reader. -/
theorem gS_some {c : VCore} {i j : Nat} {k : Int} (h1 : idxA c.aL a = some i) (h2 : idxS c.sL i k = some j) : gS c a k = c.sL.getD j dS := by unfold gS; rw [h1]; dsimp only; rw [h2]
theorem gS_no {c : VCore} {i : Nat} {k : Int} (h1 : idxA c.aL a = some i) (h2 : idxS c.sL i k = none) : gS c a k = dS := by unfold gS; rw [h1]; dsimp only; rw [h2]
theorem gS_none {c : VCore} {k : Int} (h1 : idxA c.aL a = none) : gS c a k = dS := by unfold gS; rw [h1]
theorem gT_some {c : VCore} {i j : Nat} {k : Int} (h1 : idxA c.aL a = some i) (h2 : idxT c.tL i k = some j) : gT c a k = c.tL.getD j dT := by unfold gT; rw [h1]; dsimp only; rw [h2]
theorem gT_no {c : VCore} {i : Nat} {k : Int} (h1 : idxA c.aL a = some i) (h2 : idxT c.tL i k = none) : gT c a k = dT := by unfold gT; rw [h1]; dsimp only; rw [h2]
theorem gT_none {c : VCore} {k : Int} (h1 : idxA c.aL a = none) : gT c a k = dT := by unfold gT; rw [h1]
set_option maxRecDepth 100000 in
set_option maxHeartbeats 4000000 in
theorem peekSlot_ok {k : Nat} (hl : a.length = 20) (hB : isB a) (hkW : (k : Int) < W) (A : VA hi hm eb mc w sn v) (he : Ext (join hi hm) h) (hk1 : ∀ j : Nat, j < v.sL.length → gS v.core a k = v.sL.getD j dS → K (.int .i32 j) h) (hk2 : gS v.core a k = dS → K (.int .i32 (-1)) h) : CallX Hval.prog 228 [.pointer (some ⟨eb, 2435, none⟩), .agg (bcells a).toArray, .agg (wc k).toArray] h K := by
  have alen : (bcells a).length = (31, y31).snd.size := by rw [bcells_len, hl]; rfl
  refine CallX.of_xf T_ok Hval.func228 rfl (by kernel_rfl) (Nat.le_of_ble_eq_true rfl) ?_; conv => whnf
  refine BoxX.ext fun n1 hn1 en1 => ?_; conv => whnf
  refine BoxX.ext fun n2 hn2 en2 => ?_; conv => whnf
  have hne : n1 ≠ n2 := fun e => by have := hn2.at; rw [← e, hput_same] at this; cases this
  have bx1 : hput (hput h n1 ((bcells a).toArray.toList, 31)) n2 ((wc k).toArray.toList, 75) n1 = some (bcells a, 31) := by rw [hput_ne hne]; exact hput_same ..
  have bx2 : hput (hput h n1 ((bcells a).toArray.toList, 31)) n2 ((wc k).toArray.toList, 75) n2 = some (wc k, 75) := hput_same ..
  have hdr : Ext h (hput (hput h n1 ((bcells a).toArray.toList, 31)) n2 ((wc k).toArray.toList, 75)) := en1.trans en2
  have he1 := he.trans hdr
  generalize hput (hput h n1 ((bcells a).toArray.toList, 31)) n2 ((wc k).toArray.toList, 75) = h1 at *
  refine LoadX.all bx1 alen ?_; conv => whnf
  have hfA : v.aL.length ≤ 2560 := A.V.cok.fewA
  refine findA hl hB he1 A.V (fun i hi' g1 => ?_) (fun g1 p _ _ => ?_) <;> conv => whnf
  · refine CondX.dF (by omega) ?_; conv => whnf
    refine LoadX.all bx2 rfl ?_; conv => whnf
    refine findS (by omega) hkW he1 A.V (fun j hj g2 => ?_) (fun g2 p _ _ => ?_) <;> conv => whnf
    · exact RetX.drop hdr (hk1 j hj (gS_some (c := v.core) g1 g2))
    · exact RetX.drop hdr (hk2 (gS_no (c := v.core) g1 g2))
  · refine CondX.dT (by omega) ?_; conv => whnf
    exact RetX.drop hdr (hk2 (gS_none (c := v.core) g1))
theorem VA.fldS (A : VA hi hm eb mc w sn v) (he : Ext (join hi hm) h) {i m : Nat} (hi' : i < v.sL.length) (hma : v.sS.1 = some ⟨m, 0, none⟩) (q : Nat) (hq : q + 4 ≤ 14) : ldV true 4 h m (0 + i * 14 + q) = some (.agg (X.seg (slCells (v.sL.getD i dS)) q 4).toArray) := by
  have hal := A.V.sT.len
  rw [List.length_map] at hal
  rw [((A.V.sT.arr A.V.dj).ext he).seg hma (by omega) hq, getMap (d := dS) hi']
theorem VA.fldW (A : VA hi hm eb mc w sn v) (he : Ext (join hi hm) h) {i m : Nat} (hi' : i < v.sL.length) (hma : v.sS.1 = some ⟨m, 0, none⟩) : ldV false 1 h m (0 + i * 14 + 13) = some (.bool (v.sL.getD i dS).warm) := by
  have hal := A.V.sT.len
  rw [List.length_map] at hal
  rw [((A.V.sT.arr A.V.dj).ext he).fld hma (by omega) (by omega), getMap (d := dS) hi']; rfl
set_option maxRecDepth 100000 in
set_option maxHeartbeats 4000000 in
theorem eWarmSlot_ok {k : Nat} (hl : a.length = 20) (hB : isB a) (hkW : (k : Int) < W) (A : VA hi hm eb mc w sn v) (he : Ext (join hi hm) h) (hk : K (.bool (w.warmS a k)) h) : CallX Hval.prog 159 [.pointer (some ⟨eb, 2435, none⟩), .agg (bcells a).toArray, .agg (wc k).toArray] h K := by
  have hsl := A.V.sT.len
  rw [List.length_map] at hsl
  have hmean := A.abs
  subst hmean
  have alen : (bcells a).length = (31, y31).snd.size := by rw [bcells_len, hl]; rfl
  refine CallX.of_xf T_ok Hval.func159 rfl (by kernel_rfl) (Nat.le_of_ble_eq_true rfl) ?_; conv => whnf
  refine BoxX.ext fun n1 hn1 en1 => ?_; conv => whnf
  refine BoxX.ext fun n2 hn2 en2 => ?_; conv => whnf
  have hne : n1 ≠ n2 := fun e => by have := hn2.at; rw [← e, hput_same] at this; cases this
  have bx1 : hput (hput h n1 ((bcells a).toArray.toList, 31)) n2 ((wc k).toArray.toList, 75) n1 = some (bcells a, 31) := by rw [hput_ne hne]; exact hput_same ..
  have bx2 : hput (hput h n1 ((bcells a).toArray.toList, 31)) n2 ((wc k).toArray.toList, 75) n2 = some (wc k, 75) := hput_same ..
  have hdr : Ext h (hput (hput h n1 ((bcells a).toArray.toList, 31)) n2 ((wc k).toArray.toList, 75)) := en1.trans en2
  have he1 := he.trans hdr
  generalize hput (hput h n1 ((bcells a).toArray.toList, 31)) n2 ((wc k).toArray.toList, 75) = h1 at *
  refine LoadX.all bx1 alen ?_; conv => whnf
  refine LoadX.all bx2 rfl ?_; conv => whnf
  refine peekSlot_ok hl hB hkW A he1 (fun j hj g => ?_) (fun g => ?_) <;> conv => whnf
  · refine CondX.dT (by omega) ?_; conv => whnf
    repeat (first | (refine CondX.tt ?_; conv => whnf) | (refine CondX.ff ?_; conv => whnf))
    refine LoadX.fn (A.blk he1) 2436 rfl (by omega) ?_
    rw [eC_s]; conv => whnf
    repeat (first | (refine CondX.tt ?_; conv => whnf) | (refine CondX.ff ?_; conv => whnf))
    refine IdxX.tag A.V.sT (by omega) (by omega) fun m hma => ?_; conv => whnf
    repeat (first | (refine CondX.tt ?_; conv => whnf) | (refine CondX.ff ?_; conv => whnf))
    refine LoadX.of _ (A.fldW he1 hj hma) ?_; conv => whnf
    repeat (first | (refine CondX.tt ?_; conv => whnf) | (refine CondX.ff ?_; conv => whnf))
    refine RetX.drop hdr ?_
    have hk := hk
    rw [show (absC v.core).warmS a k = (gS v.core a k).warm from rfl, g] at hk
    exact hk
  · refine CondX.dF (by omega) ?_; conv => whnf
    repeat (first | (refine CondX.tt ?_; conv => whnf) | (refine CondX.ff ?_; conv => whnf))
    refine RetX.drop hdr ?_
    have hk := hk
    rw [show (absC v.core).warmS a k = (gS v.core a k).warm from rfl, g] at hk
    exact hk
set_option maxRecDepth 100000 in
set_option maxHeartbeats 4000000 in
theorem peek_ok {k : Nat} (hl : a.length = 20) (hB : isB a) (hkW : (k : Int) < W) (A : VA hi hm eb mc w sn v) (he : Ext (join hi hm) h) (hk : K (.tuple #[.agg (wc ((w.acct a).slot k)).toArray, .agg (wc 0).toArray, .bool (w.warmS a k)]) h) : CallX Hval.prog 287 [.pointer (some ⟨eb, 2435, none⟩), .agg (bcells a).toArray, .agg (wc k).toArray] h K := by
  have hsl := A.V.sT.len
  rw [List.length_map] at hsl
  have hmean := A.abs
  subst hmean
  have alen : (bcells a).length = (31, y31).snd.size := by rw [bcells_len, hl]; rfl
  refine CallX.of_xf T_ok Hval.func287 rfl (by kernel_rfl) (Nat.le_of_ble_eq_true rfl) ?_; conv => whnf
  refine BoxX.ext fun n1 hn1 en1 => ?_; conv => whnf
  refine BoxX.ext fun n2 hn2 en2 => ?_; conv => whnf
  have hne : n1 ≠ n2 := fun e => by have := hn2.at; rw [← e, hput_same] at this; cases this
  have bx1 : hput (hput h n1 ((bcells a).toArray.toList, 31)) n2 ((wc k).toArray.toList, 75) n1 = some (bcells a, 31) := by rw [hput_ne hne]; exact hput_same ..
  have bx2 : hput (hput h n1 ((bcells a).toArray.toList, 31)) n2 ((wc k).toArray.toList, 75) n2 = some (wc k, 75) := hput_same ..
  have hdr : Ext h (hput (hput h n1 ((bcells a).toArray.toList, 31)) n2 ((wc k).toArray.toList, 75)) := en1.trans en2
  have he1 := he.trans hdr
  generalize hput (hput h n1 ((bcells a).toArray.toList, 31)) n2 ((wc k).toArray.toList, 75) = h1 at *
  refine BoxX.ext fun n3 hn3 en3 => ?_; conv => whnf
  refine BoxX.ext fun n4 hn4 en4 => ?_; conv => whnf
  have hn34 : n3 ≠ n4 := fun e => by have := hn4.at; rw [← e, hput_same] at this; cases this
  have he2 := (he1.trans en3).trans en4
  refine LoadX.all ((en3.trans en4) _ _ bx1) alen ?_; conv => whnf
  refine LoadX.all ((en3.trans en4) _ _ bx2) rfl ?_; conv => whnf
  refine peekSlot_ok hl hB hkW A he2 (fun j hj g => ?_) (fun g => ?_) <;> conv => whnf
  · refine CondX.dT (by omega) ?_; conv => whnf
    refine LoadX.fn (A.blk he2) 2436 rfl (by omega) ?_
    rw [eC_s]; conv => whnf
    refine IdxX.tag A.V.sT (by omega) (by omega) fun m hma => ?_; conv => whnf
    refine DrawX.go T_ok hM Hval.func287 (tb := dr287) rfl (by kernel_rfl) ?_; conv => whnf
    refine LoadX.of (.agg (wc (v.sL.getD j dS).val).toArray) (A.fldS he2 hj hma 5 (by omega)) ?_; conv => whnf
    refine LoadX.of (.agg (wc (v.sL.getD j dS).orig).toArray) (A.fldS he2 hj hma 9 (by omega)) ?_; conv => whnf
    refine LoadX.of _ (A.fldW he2 hj hma) ?_; conv => whnf
    refine Ob.mk ⟨rfl, rfl⟩ ?_; conv => whnf
    refine StoreX.whole (c := (75, y75).snd.zero) (t := 75) (by rw [hput_ne hn34]; exact hput_same ..) rfl ?_; conv => whnf
    have he3 := he1.trans (Ext.keep (x := ((wc (v.sL.getD j dS).val).toArray.toList, 75)) (en3.trans en4) hn3.at)
    repeat (refine Ob.mk (by first | exact ⟨rfl, rfl⟩ | exact A.fldS he3 hj hma 5 (by omega) | exact A.fldS he3 hj hma 9 (by omega) | exact A.fldW he3 hj hma) ?_; conv => whnf)
    refine StoreX.whole (c := (75, y75).snd.zero) (t := 75) (by rw [hput_ne hn34.symm]; exact hput_same ..) rfl ?_; conv => whnf
    have hn4' : h1 n4 = none := by
      cases hx : h1 n4 with
      | none => rfl
      | some y => have := en3 _ _ hx; rw [hn4.at] at this; cases this
    have he4 := he1.trans (Ext.keep (x := ((wc (v.sL.getD j dS).orig).toArray.toList, 75)) (Ext.keep (x := ((wc (v.sL.getD j dS).val).toArray.toList, 75)) (en3.trans en4) hn3.at) hn4')
    repeat (refine Ob.mk (by first | exact ⟨rfl, rfl⟩ | exact A.fldS he4 hj hma 5 (by omega) | exact A.fldS he4 hj hma 9 (by omega) | exact A.fldW he4 hj hma) ?_; conv => whnf)
    refine LoadX.all (c := wc (v.sL.getD j dS).val) (by rw [hput_ne hn34]; exact hput_same ..) rfl ?_; conv => whnf
    refine LoadX.all (c := wc (v.sL.getD j dS).orig) (hput_same ..) rfl ?_; conv => whnf
    refine RetX.drop (h' := h) (hdr.trans (Ext.keep (Ext.keep (en3.trans en4) hn3.at) hn4')) ?_
    have hk := hk
    rw [show (absC v.core).warmS a k = (gS v.core a k).warm from rfl, show ((absC v.core).acct a).slot k = (gS v.core a k).val from rfl, g] at hk
    rw [A.orig _ (getDm hj)]
    exact hk
  · refine CondX.dF (by omega) ?_; conv => whnf
    refine Ob.mk ⟨rfl, rfl⟩ ?_; conv => whnf
    refine StoreX.whole (c := (75, y75).snd.zero) (t := 75) (by rw [hput_ne hn34]; exact hput_same ..) rfl ?_; conv => whnf
    refine Ob.mk ⟨rfl, rfl⟩ ?_; conv => whnf
    refine StoreX.whole (c := (75, y75).snd.zero) (t := 75) (by rw [hput_ne hn34.symm]; exact hput_same ..) rfl ?_; conv => whnf
    refine LoadX.all (c := wc 0) (by rw [hput_ne hn34]; exact hput_same ..) rfl ?_; conv => whnf
    refine LoadX.all (c := wc 0) (hput_same ..) rfl ?_; conv => whnf
    have hn4' : h1 n4 = none := by
      cases hx : h1 n4 with
      | none => rfl
      | some y => have := en3 _ _ hx; rw [hn4.at] at this; cases this
    refine RetX.drop (h' := h) (hdr.trans (Ext.keep (Ext.keep (en3.trans en4) hn3.at) hn4')) ?_
    have hk := hk
    rw [show (absC v.core).warmS a k = (gS v.core a k).warm from rfl, show ((absC v.core).acct a).slot k = (gS v.core a k).val from rfl, g] at hk
    exact hk
set_option maxRecDepth 100000 in
set_option maxHeartbeats 4000000 in
theorem tload_ok' {k : Nat} (hl : a.length = 20) (hB : isB a) (hkW : (k : Int) < W) (A : VA hi hm eb mc w sn v) (he : Ext (join hi hm) h) (hk : K (.agg (wc (w.temp a k)).toArray) h) : CallX Hval.prog 293 [.pointer (some ⟨eb, 2435, none⟩), .agg (bcells a).toArray, .agg (wc k).toArray] h K := by
  have hsl := A.V.tT.len
  rw [List.length_map] at hsl
  have hfA : v.aL.length ≤ 2560 := A.V.cok.fewA
  have hmean := A.abs
  subst hmean
  have alen : (bcells a).length = (31, y31).snd.size := by rw [bcells_len, hl]; rfl
  refine CallX.of_xf T_ok Hval.func293 rfl (by kernel_rfl) (Nat.le_of_ble_eq_true rfl) ?_; conv => whnf
  refine BoxX.ext fun n1 hn1 en1 => ?_; conv => whnf
  refine BoxX.ext fun n2 hn2 en2 => ?_; conv => whnf
  have hne : n1 ≠ n2 := fun e => by have := hn2.at; rw [← e, hput_same] at this; cases this
  have bx1 : hput (hput h n1 ((bcells a).toArray.toList, 31)) n2 ((wc k).toArray.toList, 75) n1 = some (bcells a, 31) := by rw [hput_ne hne]; exact hput_same ..
  have bx2 : hput (hput h n1 ((bcells a).toArray.toList, 31)) n2 ((wc k).toArray.toList, 75) n2 = some (wc k, 75) := hput_same ..
  have hdr : Ext h (hput (hput h n1 ((bcells a).toArray.toList, 31)) n2 ((wc k).toArray.toList, 75)) := en1.trans en2
  have he1 := he.trans hdr
  generalize hput (hput h n1 ((bcells a).toArray.toList, 31)) n2 ((wc k).toArray.toList, 75) = h1 at *
  refine BoxX.ext fun n3 hn3 en3 => ?_; conv => whnf
  have he2 := he1.trans en3
  have hZ : gT v.core a k = dT → K (.agg #[.int .u64 0, .int .u64 0, .int .u64 0, .int .u64 0]) h := fun g => by
    have hk := hk
    rw [show (absC v.core).temp a k = (gT v.core a k).val from rfl, g] at hk
    exact hk
  refine LoadX.all (en3 _ _ bx1) alen ?_; conv => whnf
  refine findA hl hB he2 A.V (fun i hi' g1 => ?_) (fun g1 p _ _ => ?_) <;> conv => whnf
  · refine CondX.dF (by omega) ?_; conv => whnf
    refine LoadX.all (en3 _ _ bx2) rfl ?_; conv => whnf
    refine findT (by omega) hkW he2 A.V (fun j hj g2 => ?_) (fun _ g2 => ?_) (fun _ g2 p _ _ => ?_) <;> conv => whnf
    · refine CondX.dT (by omega) ?_; conv => whnf
      refine LoadX.fn (A.blk he2) 27017 rfl (by omega) ?_
      rw [eC_t]; conv => whnf
      refine IdxX.tag A.V.tT (by omega) (by omega) fun m hma => ?_; conv => whnf
      refine LoadX.of (.agg (wc (v.tL.getD j dT).val).toArray) (by
        have := ((A.V.tT.arr A.V.dj).ext he2).seg (o := 5) (n := 4) hma (k := j) (by omega) (by omega)
        rw [getMap (d := dT) hj] at this
        exact this) ?_; conv => whnf
      refine Ob.mk ⟨rfl, rfl⟩ ?_; conv => whnf
      refine StoreX.whole (c := (75, y75).snd.zero) (t := 75) (hput_same ..) rfl ?_; conv => whnf
      refine LoadX.all (c := wc (v.tL.getD j dT).val) (hput_same ..) rfl ?_; conv => whnf
      refine RetX.drop (h' := h) (hdr.trans (Ext.keep en3 hn3.at)) ?_
      have hk := hk
      rw [show (absC v.core).temp a k = (gT v.core a k).val from rfl, gT_some (c := v.core) g1 g2] at hk
      exact hk
    · refine CondX.dF (by omega) ?_; conv => whnf
      refine Ob.mk ⟨rfl, rfl⟩ ?_; conv => whnf
      refine StoreX.whole (c := (75, y75).snd.zero) (t := 75) (hput_same ..) rfl ?_; conv => whnf
      refine LoadX.all (c := wc 0) (hput_same ..) rfl ?_; conv => whnf
      exact RetX.drop (h' := h) (hdr.trans (Ext.keep en3 hn3.at)) (hZ (gT_no (c := v.core) g1 g2))
    · refine CondX.dF (by omega) ?_; conv => whnf
      refine Ob.mk ⟨rfl, rfl⟩ ?_; conv => whnf
      refine StoreX.whole (c := (75, y75).snd.zero) (t := 75) (hput_same ..) rfl ?_; conv => whnf
      refine LoadX.all (c := wc 0) (hput_same ..) rfl ?_; conv => whnf
      exact RetX.drop (h' := h) (hdr.trans (Ext.keep en3 hn3.at)) (hZ (gT_no (c := v.core) g1 g2))
  · refine CondX.dT (by omega) ?_; conv => whnf
    refine Ob.mk ⟨rfl, rfl⟩ ?_; conv => whnf
    refine StoreX.whole (c := (75, y75).snd.zero) (t := 75) (hput_same ..) rfl ?_; conv => whnf
    refine LoadX.all (c := wc 0) (hput_same ..) rfl ?_; conv => whnf
    exact RetX.drop (h' := h) (hdr.trans (Ext.keep en3 hn3.at)) (hZ (gT_none (c := v.core) g1))
end
end Go.Proofs.YgvalwGreat.X
