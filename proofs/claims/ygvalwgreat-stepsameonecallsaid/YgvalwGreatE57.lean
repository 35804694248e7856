import Derived.Test.YgvalwGreatE56
set_option linter.unusedVariables false
set_option linter.unusedSimpArgs false
namespace Go.Proofs.YgvalwGreat.X
open Go

/-- What undoing an entry does to the lists. -/
def undoC (c : VCore) (e : EJ) : VCore := match e.kind with
  | 0 => { c with aL := c.aL.set e.at_ { c.aL.getD e.at_ dA with bal := e.w } }
  | 1 => { c with aL := c.aL.set e.at_ { c.aL.getD e.at_ dA with nonce := e.n } }
  | 2 => { c with aL := c.aL.set e.at_ { c.aL.getD e.at_ dA with code := e.b, cs := e.bs } }
  | 3 => { c with sL := c.sL.set e.at_ { c.sL.getD e.at_ dS with val := e.w } }
  | 4 => { c with aL := c.aL.set e.at_ { c.aL.getD e.at_ dA with warm := e.flag } }
  | 5 => { c with sL := c.sL.set e.at_ { c.sL.getD e.at_ dS with warm := e.flag } }
  | 6 => { c with ref := e.n }
  | 7 => { c with nl := c.nl - 1 }
  | 8 => { c with tL := c.tL.set e.at_ { c.tL.getD e.at_ dT with val := e.w } }
  | 9 => { c with aL := c.aL.set e.at_ { c.aL.getD e.at_ dA with made := e.flag } }
  | _ => { c with aL := c.aL.set e.at_ { c.aL.getD e.at_ dA with gone := e.flag } }
section
variable {hi hm : Hp} {K : Value → Hp → Prop} {mc : Nat → Value} {v : VS} {eb j mj : Nat} {e : EJ}
def UK (hi : Hp) (eb : Nat) (mc : Nat → Value) (v : VS) (e : EJ) (K : Value → Hp → Prop) : Prop :=
  ∀ hm' v', VOK hi hm' eb mc v' → v'.core = undoC v.core e → v'.jS = v.jS → ((∀ x ∈ v.sL, x.orig = 0) → ∀ x ∈ v'.sL, x.orig = 0) → K (.bool true) (join hi hm')
theorem VOK.ldj (V : VOK hi hm eb mc v) (hj : j < v.jL.length) (hmj : v.jS.1 = some ⟨mj, 0, none⟩) (he : e = v.jL.getD j ⟨0, 0, 0, 0, nilS, [], false⟩) (o : Nat) (ho : o < 9) : ldV false 1 (join hi hm) mj (j * 9 + o) = (jCells e)[o]? := by
  have hjl := V.jT.len
  rw [List.length_map] at hjl
  have := (V.jT.arr V.dj).fld (m := 1) (o := o) hmj (k := j) (by omega) ho
  rw [Nat.zero_add] at this
  rw [this, getMap (d := ⟨0, 0, 0, 0, nilS, [], false⟩) hj, ← he]
theorem VOK.ldw (V : VOK hi hm eb mc v) (hj : j < v.jL.length) (hmj : v.jS.1 = some ⟨mj, 0, none⟩) (he : e = v.jL.getD j ⟨0, 0, 0, 0, nilS, [], false⟩) : ldV true 4 (join hi hm) mj (j * 9 + 3) = some (.agg (wc e.w).toArray) := by
  have hjl := V.jT.len
  rw [List.length_map] at hjl
  have := (V.jT.arr V.dj).seg (o := 3) (n := 4) hmj (k := j) (by omega) (by omega)
  rw [Nat.zero_add] at this
  rw [this, getMap (d := ⟨0, 0, 0, 0, nilS, [], false⟩) hj, ← he]; rfl
set_option maxRecDepth 100000 in
set_option maxHeartbeats 4000000 in
theorem undo_0 (V : VOK hi hm eb mc v) (hj : j < v.jL.length) (hmj : v.jS.1 = some ⟨mj, 0, none⟩) (he : e = v.jL.getD j ⟨0, 0, 0, 0, nilS, [], false⟩) (hkd : e.kind = 0) (hk : UK hi eb mc v e K) : CallX Hval.prog 368 [.pointer (some ⟨eb, 2435, none⟩), .pointer (some ⟨mj, j * 9, none⟩)] (join hi hm) K := by
  have hem : e ∈ v.jL := by rw [he]; exact getDm hj
  obtain ⟨eok, hnr, hwr⟩ := V.cok.jwf e hem
  have hb := join_hm V.dj V.blk
  have lk : ldV false 1 (join hi hm) mj (j * 9 + 0) = some (.int .u8 0) := by rw [V.ldj hj hmj he 0 (by omega)]; show some (Value.int .u8 (e.kind : Int)) = _; rw [hkd]; rfl
  have la : ldV false 1 (join hi hm) mj (j * 9 + 1) = some (.int .i32 e.at_) := V.ldj hj hmj he 1 (by omega)
  refine CallX.of_xf T_ok Hval.func368 rfl (by kernel_rfl) (Nat.le_of_ble_eq_true rfl) ?_; conv => whnf
  refine LoadX.of _ lk ?_; conv => whnf
  repeat (first | (refine CondX.tt ?_; conv => whnf) | (refine CondX.ff ?_; conv => whnf))
  have hi2 : e.at_ < v.aL.length := eok.2.2.1 (by unfold EJ.tgtA; omega)
  have hal := V.aT.len
  rw [List.length_map] at hal
  have hat := eok.2.1
  have w64 : IntKind.i64.wrap (e.at_ : Int) = e.at_ := wrap_i64 (by omega) (by omega)
  refine DrawX.go T_ok hM Hval.func368 (tb := dr368) rfl (by kernel_rfl) ?_; conv => whnf
  refine LoadX.of _ la ?_; conv => whnf
  refine CondX.dF (by omega) ?_; conv => whnf
  repeat (first | (refine CondX.tt ?_; conv => whnf) | (refine CondX.ff ?_; conv => whnf))
  refine LoadX.of _ la ?_; conv => whnf
  repeat (first | (refine CondX.tt ?_; conv => whnf) | (refine CondX.ff ?_; conv => whnf))
  refine LoadX.fn hb 2435 rfl (by omega) ?_
  rw [eC_a]; conv => whnf
  repeat (first | (refine CondX.tt ?_; conv => whnf) | (refine CondX.ff ?_; conv => whnf))
  rw [w64]
  refine CondX.dF (by omega) ?_; conv => whnf
  repeat (first | (refine CondX.tt ?_; conv => whnf) | (refine CondX.ff ?_; conv => whnf))
  refine DrawX.go T_ok hM Hval.func368 (tb := dr368) rfl (by kernel_rfl) ?_; conv => whnf
  refine LoadX.fn hb 2435 rfl (by omega) ?_
  rw [eC_a]; conv => whnf
  refine LoadX.of _ la ?_; conv => whnf
  refine IdxX.tag V.aT (by omega) (by omega) fun mb hmb => ?_; conv => whnf
  refine LoadX.of _ lk ?_; conv => whnf
  repeat (first | (refine CondX.tt ?_; conv => whnf) | (refine CondX.ff ?_; conv => whnf))
  refine LoadX.of (.agg (wc e.w).toArray) (V.ldw hj hmj he) ?_; conv => whnf
  refine Ob.mk ⟨rfl, rfl⟩ ?_; conv => whnf
  refine StoreX.tag V.dj V.aT hmb (k := e.at_) (o := 21) (new := aCells { v.aL.getD e.at_ dA with bal := e.w }) (by omega) (Nat.le_of_ble_eq_true rfl) (by show 0 + e.at_ * 29 + 21 = _; omega) (by rw [getMap (d := dA) hi2]; exact aS_bal (V.cok.awf _ (getDm hi2)).1.1 e.w) (aCells_one _) fun hm4 hd5 aT4 kp4 => ?_; conv => whnf
  have hxw := V.cok.awf _ (getDm (d := dA) hi2)
  have CA : COK { v.core with aL := v.aL.set e.at_ { v.aL.getD e.at_ dA with bal := e.w } } := cokA V.cok hi2 rfl hxw.2.1 hwr
  have V4 := V.modA (Ext.refl hi) hd5 kp4 (i := e.at_) (x := { v.aL.getD e.at_ dA with bal := e.w }) hi2 rfl (by rw [List.map_set]; exact aT4) (V.ac (v.aL.getD e.at_ dA) (getDm hi2)) CA
  exact RetX.same (hk _ _ V4 (by simp only [undoC, hkd]; rfl) rfl fun h => h)
set_option maxRecDepth 100000 in
set_option maxHeartbeats 4000000 in
theorem undo_1 (V : VOK hi hm eb mc v) (hj : j < v.jL.length) (hmj : v.jS.1 = some ⟨mj, 0, none⟩) (he : e = v.jL.getD j ⟨0, 0, 0, 0, nilS, [], false⟩) (hkd : e.kind = 1) (hk : UK hi eb mc v e K) : CallX Hval.prog 368 [.pointer (some ⟨eb, 2435, none⟩), .pointer (some ⟨mj, j * 9, none⟩)] (join hi hm) K := by
  have hem : e ∈ v.jL := by rw [he]; exact getDm hj
  obtain ⟨eok, hnr, hwr⟩ := V.cok.jwf e hem
  have hb := join_hm V.dj V.blk
  have lk : ldV false 1 (join hi hm) mj (j * 9 + 0) = some (.int .u8 1) := by rw [V.ldj hj hmj he 0 (by omega)]; show some (Value.int .u8 (e.kind : Int)) = _; rw [hkd]; rfl
  have la : ldV false 1 (join hi hm) mj (j * 9 + 1) = some (.int .i32 e.at_) := V.ldj hj hmj he 1 (by omega)
  refine CallX.of_xf T_ok Hval.func368 rfl (by kernel_rfl) (Nat.le_of_ble_eq_true rfl) ?_; conv => whnf
  refine LoadX.of _ lk ?_; conv => whnf
  repeat (first | (refine CondX.tt ?_; conv => whnf) | (refine CondX.ff ?_; conv => whnf))
  have hi2 : e.at_ < v.aL.length := eok.2.2.1 (by unfold EJ.tgtA; omega)
  have hal := V.aT.len
  rw [List.length_map] at hal
  have hat := eok.2.1
  have w64 : IntKind.i64.wrap (e.at_ : Int) = e.at_ := wrap_i64 (by omega) (by omega)
  refine DrawX.go T_ok hM Hval.func368 (tb := dr368) rfl (by kernel_rfl) ?_; conv => whnf
  refine LoadX.of _ la ?_; conv => whnf
  refine CondX.dF (by omega) ?_; conv => whnf
  repeat (first | (refine CondX.tt ?_; conv => whnf) | (refine CondX.ff ?_; conv => whnf))
  refine LoadX.of _ la ?_; conv => whnf
  repeat (first | (refine CondX.tt ?_; conv => whnf) | (refine CondX.ff ?_; conv => whnf))
  refine LoadX.fn hb 2435 rfl (by omega) ?_
  rw [eC_a]; conv => whnf
  repeat (first | (refine CondX.tt ?_; conv => whnf) | (refine CondX.ff ?_; conv => whnf))
  rw [w64]
  refine CondX.dF (by omega) ?_; conv => whnf
  repeat (first | (refine CondX.tt ?_; conv => whnf) | (refine CondX.ff ?_; conv => whnf))
  refine DrawX.go T_ok hM Hval.func368 (tb := dr368) rfl (by kernel_rfl) ?_; conv => whnf
  refine LoadX.fn hb 2435 rfl (by omega) ?_
  rw [eC_a]; conv => whnf
  refine LoadX.of _ la ?_; conv => whnf
  refine IdxX.tag V.aT (by omega) (by omega) fun mb hmb => ?_; conv => whnf
  refine LoadX.of _ lk ?_; conv => whnf
  repeat (first | (refine CondX.tt ?_; conv => whnf) | (refine CondX.ff ?_; conv => whnf))
  refine LoadX.of (.int .u64 e.n) (V.ldj hj hmj he 2 (by omega)) ?_; conv => whnf
  refine StoreX.tag V.dj V.aT hmb (k := e.at_) (o := 20) (new := aCells { v.aL.getD e.at_ dA with nonce := e.n }) (by omega) (Nat.le_of_ble_eq_true rfl) (by show 0 + e.at_ * 29 + 20 = _; omega) (by rw [getMap (d := dA) hi2]; exact aS_nonce (V.cok.awf _ (getDm hi2)).1.1 e.n) (aCells_one _) fun hm4 hd5 aT4 kp4 => ?_; conv => whnf
  have hxw := V.cok.awf _ (getDm (d := dA) hi2)
  have CA : COK { v.core with aL := v.aL.set e.at_ { v.aL.getD e.at_ dA with nonce := e.n } } := cokA V.cok hi2 rfl hnr hxw.2.2
  have V4 := V.modA (Ext.refl hi) hd5 kp4 (i := e.at_) (x := { v.aL.getD e.at_ dA with nonce := e.n }) hi2 rfl (by rw [List.map_set]; exact aT4) (V.ac (v.aL.getD e.at_ dA) (getDm hi2)) CA
  exact RetX.same (hk _ _ V4 (by simp only [undoC, hkd]; rfl) rfl fun h => h)
set_option maxRecDepth 100000 in
set_option maxHeartbeats 4000000 in
theorem undo_2 (V : VOK hi hm eb mc v) (hj : j < v.jL.length) (hmj : v.jS.1 = some ⟨mj, 0, none⟩) (he : e = v.jL.getD j ⟨0, 0, 0, 0, nilS, [], false⟩) (hkd : e.kind = 2) (hk : UK hi eb mc v e K) : CallX Hval.prog 368 [.pointer (some ⟨eb, 2435, none⟩), .pointer (some ⟨mj, j * 9, none⟩)] (join hi hm) K := by
  have hem : e ∈ v.jL := by rw [he]; exact getDm hj
  obtain ⟨eok, hnr, hwr⟩ := V.cok.jwf e hem
  have hb := join_hm V.dj V.blk
  have lk : ldV false 1 (join hi hm) mj (j * 9 + 0) = some (.int .u8 2) := by rw [V.ldj hj hmj he 0 (by omega)]; show some (Value.int .u8 (e.kind : Int)) = _; rw [hkd]; rfl
  have la : ldV false 1 (join hi hm) mj (j * 9 + 1) = some (.int .i32 e.at_) := V.ldj hj hmj he 1 (by omega)
  refine CallX.of_xf T_ok Hval.func368 rfl (by kernel_rfl) (Nat.le_of_ble_eq_true rfl) ?_; conv => whnf
  refine LoadX.of _ lk ?_; conv => whnf
  repeat (first | (refine CondX.tt ?_; conv => whnf) | (refine CondX.ff ?_; conv => whnf))
  have hi2 : e.at_ < v.aL.length := eok.2.2.1 (by unfold EJ.tgtA; omega)
  have hal := V.aT.len
  rw [List.length_map] at hal
  have hat := eok.2.1
  have w64 : IntKind.i64.wrap (e.at_ : Int) = e.at_ := wrap_i64 (by omega) (by omega)
  refine DrawX.go T_ok hM Hval.func368 (tb := dr368) rfl (by kernel_rfl) ?_; conv => whnf
  refine LoadX.of _ la ?_; conv => whnf
  refine CondX.dF (by omega) ?_; conv => whnf
  repeat (first | (refine CondX.tt ?_; conv => whnf) | (refine CondX.ff ?_; conv => whnf))
  refine LoadX.of _ la ?_; conv => whnf
  repeat (first | (refine CondX.tt ?_; conv => whnf) | (refine CondX.ff ?_; conv => whnf))
  refine LoadX.fn hb 2435 rfl (by omega) ?_
  rw [eC_a]; conv => whnf
  repeat (first | (refine CondX.tt ?_; conv => whnf) | (refine CondX.ff ?_; conv => whnf))
  rw [w64]
  refine CondX.dF (by omega) ?_; conv => whnf
  repeat (first | (refine CondX.tt ?_; conv => whnf) | (refine CondX.ff ?_; conv => whnf))
  refine DrawX.go T_ok hM Hval.func368 (tb := dr368) rfl (by kernel_rfl) ?_; conv => whnf
  refine LoadX.fn hb 2435 rfl (by omega) ?_
  rw [eC_a]; conv => whnf
  refine LoadX.of _ la ?_; conv => whnf
  refine IdxX.tag V.aT (by omega) (by omega) fun mb hmb => ?_; conv => whnf
  refine LoadX.of _ lk ?_; conv => whnf
  repeat (first | (refine CondX.tt ?_; conv => whnf) | (refine CondX.ff ?_; conv => whnf))
  refine LoadX.of (sl e.bs) (V.ldj hj hmj he 7 (by omega)) ?_; conv => whnf
  refine StoreX.tag V.dj V.aT hmb (k := e.at_) (o := 25) (new := aCells { v.aL.getD e.at_ dA with code := e.b, cs := e.bs }) (by omega) (Nat.le_of_ble_eq_true rfl) (by show 0 + e.at_ * 29 + 25 = _; omega) (by rw [getMap (d := dA) hi2]; exact aS_code (V.cok.awf _ (getDm hi2)).1.1 e.bs e.b) (aCells_one _) fun hm4 hd5 aT4 kp4 => ?_; conv => whnf
  have hxw := V.cok.awf _ (getDm (d := dA) hi2)
  have CA : COK { v.core with aL := v.aL.set e.at_ { v.aL.getD e.at_ dA with code := e.b, cs := e.bs } } := cokA V.cok hi2 rfl hxw.2.1 hxw.2.2
  have V4 := V.modA (Ext.refl hi) hd5 kp4 (i := e.at_) (x := { v.aL.getD e.at_ dA with code := e.b, cs := e.bs }) hi2 rfl (by rw [List.map_set]; exact aT4) (V.jc e hem) CA
  exact RetX.same (hk _ _ V4 (by simp only [undoC, hkd]; rfl) rfl fun h => h)
set_option maxRecDepth 100000 in
set_option maxHeartbeats 4000000 in
theorem undo_4 (V : VOK hi hm eb mc v) (hj : j < v.jL.length) (hmj : v.jS.1 = some ⟨mj, 0, none⟩) (he : e = v.jL.getD j ⟨0, 0, 0, 0, nilS, [], false⟩) (hkd : e.kind = 4) (hk : UK hi eb mc v e K) : CallX Hval.prog 368 [.pointer (some ⟨eb, 2435, none⟩), .pointer (some ⟨mj, j * 9, none⟩)] (join hi hm) K := by
  have hem : e ∈ v.jL := by rw [he]; exact getDm hj
  obtain ⟨eok, hnr, hwr⟩ := V.cok.jwf e hem
  have hb := join_hm V.dj V.blk
  have lk : ldV false 1 (join hi hm) mj (j * 9 + 0) = some (.int .u8 4) := by rw [V.ldj hj hmj he 0 (by omega)]; show some (Value.int .u8 (e.kind : Int)) = _; rw [hkd]; rfl
  have la : ldV false 1 (join hi hm) mj (j * 9 + 1) = some (.int .i32 e.at_) := V.ldj hj hmj he 1 (by omega)
  refine CallX.of_xf T_ok Hval.func368 rfl (by kernel_rfl) (Nat.le_of_ble_eq_true rfl) ?_; conv => whnf
  refine LoadX.of _ lk ?_; conv => whnf
  repeat (first | (refine CondX.tt ?_; conv => whnf) | (refine CondX.ff ?_; conv => whnf))
  have hi2 : e.at_ < v.aL.length := eok.2.2.1 (by unfold EJ.tgtA; omega)
  have hal := V.aT.len
  rw [List.length_map] at hal
  have hat := eok.2.1
  have w64 : IntKind.i64.wrap (e.at_ : Int) = e.at_ := wrap_i64 (by omega) (by omega)
  refine DrawX.go T_ok hM Hval.func368 (tb := dr368) rfl (by kernel_rfl) ?_; conv => whnf
  refine LoadX.of _ la ?_; conv => whnf
  refine CondX.dF (by omega) ?_; conv => whnf
  repeat (first | (refine CondX.tt ?_; conv => whnf) | (refine CondX.ff ?_; conv => whnf))
  refine LoadX.of _ la ?_; conv => whnf
  repeat (first | (refine CondX.tt ?_; conv => whnf) | (refine CondX.ff ?_; conv => whnf))
  refine LoadX.fn hb 2435 rfl (by omega) ?_
  rw [eC_a]; conv => whnf
  repeat (first | (refine CondX.tt ?_; conv => whnf) | (refine CondX.ff ?_; conv => whnf))
  rw [w64]
  refine CondX.dF (by omega) ?_; conv => whnf
  repeat (first | (refine CondX.tt ?_; conv => whnf) | (refine CondX.ff ?_; conv => whnf))
  refine DrawX.go T_ok hM Hval.func368 (tb := dr368) rfl (by kernel_rfl) ?_; conv => whnf
  refine LoadX.fn hb 2435 rfl (by omega) ?_
  rw [eC_a]; conv => whnf
  refine LoadX.of _ la ?_; conv => whnf
  refine IdxX.tag V.aT (by omega) (by omega) fun mb hmb => ?_; conv => whnf
  refine LoadX.of _ lk ?_; conv => whnf
  repeat (first | (refine CondX.tt ?_; conv => whnf) | (refine CondX.ff ?_; conv => whnf))
  refine LoadX.of (.bool e.flag) (V.ldj hj hmj he 8 (by omega)) ?_; conv => whnf
  refine StoreX.tag V.dj V.aT hmb (k := e.at_) (o := 26) (new := aCells { v.aL.getD e.at_ dA with warm := e.flag }) (by omega) (Nat.le_of_ble_eq_true rfl) (by show 0 + e.at_ * 29 + 26 = _; omega) (by rw [getMap (d := dA) hi2]; exact aS_warm (V.cok.awf _ (getDm hi2)).1.1 e.flag) (aCells_one _) fun hm4 hd5 aT4 kp4 => ?_; conv => whnf
  have hxw := V.cok.awf _ (getDm (d := dA) hi2)
  have CA : COK { v.core with aL := v.aL.set e.at_ { v.aL.getD e.at_ dA with warm := e.flag } } := cokA V.cok hi2 rfl hxw.2.1 hxw.2.2
  have V4 := V.modA (Ext.refl hi) hd5 kp4 (i := e.at_) (x := { v.aL.getD e.at_ dA with warm := e.flag }) hi2 rfl (by rw [List.map_set]; exact aT4) (V.ac (v.aL.getD e.at_ dA) (getDm hi2)) CA
  exact RetX.same (hk _ _ V4 (by simp only [undoC, hkd]; rfl) rfl fun h => h)
set_option maxRecDepth 100000 in
set_option maxHeartbeats 4000000 in
theorem undo_9 (V : VOK hi hm eb mc v) (hj : j < v.jL.length) (hmj : v.jS.1 = some ⟨mj, 0, none⟩) (he : e = v.jL.getD j ⟨0, 0, 0, 0, nilS, [], false⟩) (hkd : e.kind = 9) (hk : UK hi eb mc v e K) : CallX Hval.prog 368 [.pointer (some ⟨eb, 2435, none⟩), .pointer (some ⟨mj, j * 9, none⟩)] (join hi hm) K := by
  have hem : e ∈ v.jL := by rw [he]; exact getDm hj
  obtain ⟨eok, hnr, hwr⟩ := V.cok.jwf e hem
  have hb := join_hm V.dj V.blk
  have lk : ldV false 1 (join hi hm) mj (j * 9 + 0) = some (.int .u8 9) := by rw [V.ldj hj hmj he 0 (by omega)]; show some (Value.int .u8 (e.kind : Int)) = _; rw [hkd]; rfl
  have la : ldV false 1 (join hi hm) mj (j * 9 + 1) = some (.int .i32 e.at_) := V.ldj hj hmj he 1 (by omega)
  refine CallX.of_xf T_ok Hval.func368 rfl (by kernel_rfl) (Nat.le_of_ble_eq_true rfl) ?_; conv => whnf
  refine LoadX.of _ lk ?_; conv => whnf
  repeat (first | (refine CondX.tt ?_; conv => whnf) | (refine CondX.ff ?_; conv => whnf))
  have hi2 : e.at_ < v.aL.length := eok.2.2.1 (by unfold EJ.tgtA; omega)
  have hal := V.aT.len
  rw [List.length_map] at hal
  have hat := eok.2.1
  have w64 : IntKind.i64.wrap (e.at_ : Int) = e.at_ := wrap_i64 (by omega) (by omega)
  refine DrawX.go T_ok hM Hval.func368 (tb := dr368) rfl (by kernel_rfl) ?_; conv => whnf
  refine LoadX.of _ la ?_; conv => whnf
  refine CondX.dF (by omega) ?_; conv => whnf
  repeat (first | (refine CondX.tt ?_; conv => whnf) | (refine CondX.ff ?_; conv => whnf))
  refine LoadX.of _ la ?_; conv => whnf
  repeat (first | (refine CondX.tt ?_; conv => whnf) | (refine CondX.ff ?_; conv => whnf))
  refine LoadX.fn hb 2435 rfl (by omega) ?_
  rw [eC_a]; conv => whnf
  repeat (first | (refine CondX.tt ?_; conv => whnf) | (refine CondX.ff ?_; conv => whnf))
  rw [w64]
  refine CondX.dF (by omega) ?_; conv => whnf
  repeat (first | (refine CondX.tt ?_; conv => whnf) | (refine CondX.ff ?_; conv => whnf))
  refine DrawX.go T_ok hM Hval.func368 (tb := dr368) rfl (by kernel_rfl) ?_; conv => whnf
  refine LoadX.fn hb 2435 rfl (by omega) ?_
  rw [eC_a]; conv => whnf
  refine LoadX.of _ la ?_; conv => whnf
  refine IdxX.tag V.aT (by omega) (by omega) fun mb hmb => ?_; conv => whnf
  refine LoadX.of _ lk ?_; conv => whnf
  repeat (first | (refine CondX.tt ?_; conv => whnf) | (refine CondX.ff ?_; conv => whnf))
  refine LoadX.of (.bool e.flag) (V.ldj hj hmj he 8 (by omega)) ?_; conv => whnf
  refine StoreX.tag V.dj V.aT hmb (k := e.at_) (o := 27) (new := aCells { v.aL.getD e.at_ dA with made := e.flag }) (by omega) (Nat.le_of_ble_eq_true rfl) (by show 0 + e.at_ * 29 + 27 = _; omega) (by rw [getMap (d := dA) hi2]; exact aS_made (V.cok.awf _ (getDm hi2)).1.1 e.flag) (aCells_one _) fun hm4 hd5 aT4 kp4 => ?_; conv => whnf
  have hxw := V.cok.awf _ (getDm (d := dA) hi2)
  have CA : COK { v.core with aL := v.aL.set e.at_ { v.aL.getD e.at_ dA with made := e.flag } } := cokA V.cok hi2 rfl hxw.2.1 hxw.2.2
  have V4 := V.modA (Ext.refl hi) hd5 kp4 (i := e.at_) (x := { v.aL.getD e.at_ dA with made := e.flag }) hi2 rfl (by rw [List.map_set]; exact aT4) (V.ac (v.aL.getD e.at_ dA) (getDm hi2)) CA
  exact RetX.same (hk _ _ V4 (by simp only [undoC, hkd]; rfl) rfl fun h => h)
set_option maxRecDepth 100000 in
set_option maxHeartbeats 4000000 in
theorem undo_10 (V : VOK hi hm eb mc v) (hj : j < v.jL.length) (hmj : v.jS.1 = some ⟨mj, 0, none⟩) (he : e = v.jL.getD j ⟨0, 0, 0, 0, nilS, [], false⟩) (hkd : e.kind = 10) (hk : UK hi eb mc v e K) : CallX Hval.prog 368 [.pointer (some ⟨eb, 2435, none⟩), .pointer (some ⟨mj, j * 9, none⟩)] (join hi hm) K := by
  have hem : e ∈ v.jL := by rw [he]; exact getDm hj
  obtain ⟨eok, hnr, hwr⟩ := V.cok.jwf e hem
  have hb := join_hm V.dj V.blk
  have lk : ldV false 1 (join hi hm) mj (j * 9 + 0) = some (.int .u8 10) := by rw [V.ldj hj hmj he 0 (by omega)]; show some (Value.int .u8 (e.kind : Int)) = _; rw [hkd]; rfl
  have la : ldV false 1 (join hi hm) mj (j * 9 + 1) = some (.int .i32 e.at_) := V.ldj hj hmj he 1 (by omega)
  refine CallX.of_xf T_ok Hval.func368 rfl (by kernel_rfl) (Nat.le_of_ble_eq_true rfl) ?_; conv => whnf
  refine LoadX.of _ lk ?_; conv => whnf
  repeat (first | (refine CondX.tt ?_; conv => whnf) | (refine CondX.ff ?_; conv => whnf))
  have hi2 : e.at_ < v.aL.length := eok.2.2.1 (by unfold EJ.tgtA; omega)
  have hal := V.aT.len
  rw [List.length_map] at hal
  have hat := eok.2.1
  have w64 : IntKind.i64.wrap (e.at_ : Int) = e.at_ := wrap_i64 (by omega) (by omega)
  refine DrawX.go T_ok hM Hval.func368 (tb := dr368) rfl (by kernel_rfl) ?_; conv => whnf
  refine LoadX.of _ la ?_; conv => whnf
  refine CondX.dF (by omega) ?_; conv => whnf
  repeat (first | (refine CondX.tt ?_; conv => whnf) | (refine CondX.ff ?_; conv => whnf))
  refine LoadX.of _ la ?_; conv => whnf
  repeat (first | (refine CondX.tt ?_; conv => whnf) | (refine CondX.ff ?_; conv => whnf))
  refine LoadX.fn hb 2435 rfl (by omega) ?_
  rw [eC_a]; conv => whnf
  repeat (first | (refine CondX.tt ?_; conv => whnf) | (refine CondX.ff ?_; conv => whnf))
  rw [w64]
  refine CondX.dF (by omega) ?_; conv => whnf
  repeat (first | (refine CondX.tt ?_; conv => whnf) | (refine CondX.ff ?_; conv => whnf))
  refine DrawX.go T_ok hM Hval.func368 (tb := dr368) rfl (by kernel_rfl) ?_; conv => whnf
  refine LoadX.fn hb 2435 rfl (by omega) ?_
  rw [eC_a]; conv => whnf
  refine LoadX.of _ la ?_; conv => whnf
  refine IdxX.tag V.aT (by omega) (by omega) fun mb hmb => ?_; conv => whnf
  refine LoadX.of _ lk ?_; conv => whnf
  repeat (first | (refine CondX.tt ?_; conv => whnf) | (refine CondX.ff ?_; conv => whnf))
  refine LoadX.of (.bool e.flag) (V.ldj hj hmj he 8 (by omega)) ?_; conv => whnf
  refine StoreX.tag V.dj V.aT hmb (k := e.at_) (o := 28) (new := aCells { v.aL.getD e.at_ dA with gone := e.flag }) (by omega) (Nat.le_of_ble_eq_true rfl) (by show 0 + e.at_ * 29 + 28 = _; omega) (by rw [getMap (d := dA) hi2]; exact aS_gone (V.cok.awf _ (getDm hi2)).1.1 e.flag) (aCells_one _) fun hm4 hd5 aT4 kp4 => ?_; conv => whnf
  have hxw := V.cok.awf _ (getDm (d := dA) hi2)
  have CA : COK { v.core with aL := v.aL.set e.at_ { v.aL.getD e.at_ dA with gone := e.flag } } := cokA V.cok hi2 rfl hxw.2.1 hxw.2.2
  have V4 := V.modA (Ext.refl hi) hd5 kp4 (i := e.at_) (x := { v.aL.getD e.at_ dA with gone := e.flag }) hi2 rfl (by rw [List.map_set]; exact aT4) (V.ac (v.aL.getD e.at_ dA) (getDm hi2)) CA
  exact RetX.same (hk _ _ V4 (by simp only [undoC, hkd]; rfl) rfl fun h => h)
set_option maxRecDepth 100000 in
set_option maxHeartbeats 4000000 in
theorem undo_3 (V : VOK hi hm eb mc v) (hj : j < v.jL.length) (hmj : v.jS.1 = some ⟨mj, 0, none⟩) (he : e = v.jL.getD j ⟨0, 0, 0, 0, nilS, [], false⟩) (hkd : e.kind = 3) (hk : UK hi eb mc v e K) : CallX Hval.prog 368 [.pointer (some ⟨eb, 2435, none⟩), .pointer (some ⟨mj, j * 9, none⟩)] (join hi hm) K := by
  have hem : e ∈ v.jL := by rw [he]; exact getDm hj
  obtain ⟨eok, hnr, hwr⟩ := V.cok.jwf e hem
  have hb := join_hm V.dj V.blk
  have lk : ldV false 1 (join hi hm) mj (j * 9 + 0) = some (.int .u8 3) := by rw [V.ldj hj hmj he 0 (by omega)]; show some (Value.int .u8 (e.kind : Int)) = _; rw [hkd]; rfl
  have la : ldV false 1 (join hi hm) mj (j * 9 + 1) = some (.int .i32 e.at_) := V.ldj hj hmj he 1 (by omega)
  refine CallX.of_xf T_ok Hval.func368 rfl (by kernel_rfl) (Nat.le_of_ble_eq_true rfl) ?_; conv => whnf
  refine LoadX.of _ lk ?_; conv => whnf
  repeat (first | (refine CondX.tt ?_; conv => whnf) | (refine CondX.ff ?_; conv => whnf))
  have hi2 : e.at_ < v.sL.length := eok.2.2.2.1 (by omega)
  have hal := V.sT.len
  rw [List.length_map] at hal
  have hat := eok.2.1
  have w64 : IntKind.i64.wrap (e.at_ : Int) = e.at_ := wrap_i64 (by omega) (by omega)
  refine DrawX.go T_ok hM Hval.func368 (tb := dr368) rfl (by kernel_rfl) ?_; conv => whnf
  refine LoadX.of _ la ?_; conv => whnf
  refine CondX.dF (by omega) ?_; conv => whnf
  repeat (first | (refine CondX.tt ?_; conv => whnf) | (refine CondX.ff ?_; conv => whnf))
  refine LoadX.of _ la ?_; conv => whnf
  repeat (first | (refine CondX.tt ?_; conv => whnf) | (refine CondX.ff ?_; conv => whnf))
  refine LoadX.fn hb 2436 rfl (by omega) ?_
  rw [eC_s]; conv => whnf
  repeat (first | (refine CondX.tt ?_; conv => whnf) | (refine CondX.ff ?_; conv => whnf))
  rw [w64]
  refine CondX.dF (by omega) ?_; conv => whnf
  repeat (first | (refine CondX.tt ?_; conv => whnf) | (refine CondX.ff ?_; conv => whnf))
  refine LoadX.of _ lk ?_; conv => whnf
  repeat (first | (refine CondX.tt ?_; conv => whnf) | (refine CondX.ff ?_; conv => whnf))
  refine DrawX.go T_ok hM Hval.func368 (tb := dr368) rfl (by kernel_rfl) ?_; conv => whnf
  refine LoadX.fn hb 2436 rfl (by omega) ?_
  rw [eC_s]; conv => whnf
  refine LoadX.of _ la ?_; conv => whnf
  refine LoadX.of (.agg (wc e.w).toArray) (V.ldw hj hmj he) ?_; conv => whnf
  refine IdxX.tag V.sT (by omega) (by omega) fun mb hmb => ?_; conv => whnf
  refine Ob.mk ⟨rfl, rfl⟩ ?_; conv => whnf
  refine StoreX.tag V.dj V.sT hmb (k := e.at_) (o := 5) (new := slCells { v.sL.getD e.at_ dS with val := e.w }) (by omega) (Nat.le_of_ble_eq_true rfl) (by show 0 + e.at_ * 14 + 5 = _; omega) (by rw [getMap (d := dS) hi2]; rfl) rfl fun hm4 hd5 aT4 kp4 => ?_; conv => whnf
  have hxw := V.cok.swf _ (getDm (d := dS) hi2)
  have CA : COK { v.core with sL := v.sL.set e.at_ { v.sL.getD e.at_ dS with val := e.w } } := cokS V.cok hi2 rfl rfl hwr hxw.2.2.2
  have V4 := V.modS hd5 kp4 (i := e.at_) (x := { v.sL.getD e.at_ dS with val := e.w }) hi2 rfl rfl (by rw [List.map_set]; exact aT4) CA
  refine RetX.same (hk _ _ V4 (by simp only [undoC, hkd]; rfl) rfl fun h y hy => ?_)
  rcases mem_set hy with h1 | h1
  · rw [h1]; exact h (v.sL.getD e.at_ dS) (getDm hi2)
  · exact h y h1
set_option maxRecDepth 100000 in
set_option maxHeartbeats 4000000 in
theorem undo_5 (V : VOK hi hm eb mc v) (hj : j < v.jL.length) (hmj : v.jS.1 = some ⟨mj, 0, none⟩) (he : e = v.jL.getD j ⟨0, 0, 0, 0, nilS, [], false⟩) (hkd : e.kind = 5) (hk : UK hi eb mc v e K) : CallX Hval.prog 368 [.pointer (some ⟨eb, 2435, none⟩), .pointer (some ⟨mj, j * 9, none⟩)] (join hi hm) K := by
  have hem : e ∈ v.jL := by rw [he]; exact getDm hj
  obtain ⟨eok, hnr, hwr⟩ := V.cok.jwf e hem
  have hb := join_hm V.dj V.blk
  have lk : ldV false 1 (join hi hm) mj (j * 9 + 0) = some (.int .u8 5) := by rw [V.ldj hj hmj he 0 (by omega)]; show some (Value.int .u8 (e.kind : Int)) = _; rw [hkd]; rfl
  have la : ldV false 1 (join hi hm) mj (j * 9 + 1) = some (.int .i32 e.at_) := V.ldj hj hmj he 1 (by omega)
  refine CallX.of_xf T_ok Hval.func368 rfl (by kernel_rfl) (Nat.le_of_ble_eq_true rfl) ?_; conv => whnf
  refine LoadX.of _ lk ?_; conv => whnf
  repeat (first | (refine CondX.tt ?_; conv => whnf) | (refine CondX.ff ?_; conv => whnf))
  have hi2 : e.at_ < v.sL.length := eok.2.2.2.1 (by omega)
  have hal := V.sT.len
  rw [List.length_map] at hal
  have hat := eok.2.1
  have w64 : IntKind.i64.wrap (e.at_ : Int) = e.at_ := wrap_i64 (by omega) (by omega)
  refine DrawX.go T_ok hM Hval.func368 (tb := dr368) rfl (by kernel_rfl) ?_; conv => whnf
  refine LoadX.of _ la ?_; conv => whnf
  refine CondX.dF (by omega) ?_; conv => whnf
  repeat (first | (refine CondX.tt ?_; conv => whnf) | (refine CondX.ff ?_; conv => whnf))
  refine LoadX.of _ la ?_; conv => whnf
  repeat (first | (refine CondX.tt ?_; conv => whnf) | (refine CondX.ff ?_; conv => whnf))
  refine LoadX.fn hb 2436 rfl (by omega) ?_
  rw [eC_s]; conv => whnf
  repeat (first | (refine CondX.tt ?_; conv => whnf) | (refine CondX.ff ?_; conv => whnf))
  rw [w64]
  refine CondX.dF (by omega) ?_; conv => whnf
  repeat (first | (refine CondX.tt ?_; conv => whnf) | (refine CondX.ff ?_; conv => whnf))
  refine LoadX.of _ lk ?_; conv => whnf
  repeat (first | (refine CondX.tt ?_; conv => whnf) | (refine CondX.ff ?_; conv => whnf))
  refine DrawX.go T_ok hM Hval.func368 (tb := dr368) rfl (by kernel_rfl) ?_; conv => whnf
  refine LoadX.fn hb 2436 rfl (by omega) ?_
  rw [eC_s]; conv => whnf
  refine LoadX.of _ la ?_; conv => whnf
  refine LoadX.of (.bool e.flag) (V.ldj hj hmj he 8 (by omega)) ?_; conv => whnf
  refine IdxX.tag V.sT (by omega) (by omega) fun mb hmb => ?_; conv => whnf
  refine StoreX.tag V.dj V.sT hmb (k := e.at_) (o := 13) (new := slCells { v.sL.getD e.at_ dS with warm := e.flag }) (by omega) (Nat.le_of_ble_eq_true rfl) (by show 0 + e.at_ * 14 + 13 = _; omega) (by rw [getMap (d := dS) hi2]; rfl) rfl fun hm4 hd5 aT4 kp4 => ?_; conv => whnf
  have hxw := V.cok.swf _ (getDm (d := dS) hi2)
  have CA : COK { v.core with sL := v.sL.set e.at_ { v.sL.getD e.at_ dS with warm := e.flag } } := cokS V.cok hi2 rfl rfl hxw.2.2.1 hxw.2.2.2
  have V4 := V.modS hd5 kp4 (i := e.at_) (x := { v.sL.getD e.at_ dS with warm := e.flag }) hi2 rfl rfl (by rw [List.map_set]; exact aT4) CA
  refine RetX.same (hk _ _ V4 (by simp only [undoC, hkd]; rfl) rfl fun h y hy => ?_)
  rcases mem_set hy with h1 | h1
  · rw [h1]; exact h (v.sL.getD e.at_ dS) (getDm hi2)
  · exact h y h1
set_option maxRecDepth 100000 in
set_option maxHeartbeats 4000000 in
theorem undo_8 (V : VOK hi hm eb mc v) (hj : j < v.jL.length) (hmj : v.jS.1 = some ⟨mj, 0, none⟩) (he : e = v.jL.getD j ⟨0, 0, 0, 0, nilS, [], false⟩) (hkd : e.kind = 8) (hk : UK hi eb mc v e K) : CallX Hval.prog 368 [.pointer (some ⟨eb, 2435, none⟩), .pointer (some ⟨mj, j * 9, none⟩)] (join hi hm) K := by
  have hem : e ∈ v.jL := by rw [he]; exact getDm hj
  obtain ⟨eok, hnr, hwr⟩ := V.cok.jwf e hem
  have hb := join_hm V.dj V.blk
  have lk : ldV false 1 (join hi hm) mj (j * 9 + 0) = some (.int .u8 8) := by rw [V.ldj hj hmj he 0 (by omega)]; show some (Value.int .u8 (e.kind : Int)) = _; rw [hkd]; rfl
  have la : ldV false 1 (join hi hm) mj (j * 9 + 1) = some (.int .i32 e.at_) := V.ldj hj hmj he 1 (by omega)
  refine CallX.of_xf T_ok Hval.func368 rfl (by kernel_rfl) (Nat.le_of_ble_eq_true rfl) ?_; conv => whnf
  refine LoadX.of _ lk ?_; conv => whnf
  repeat (first | (refine CondX.tt ?_; conv => whnf) | (refine CondX.ff ?_; conv => whnf))
  have hi2 : e.at_ < v.tL.length := eok.2.2.2.2 hkd
  have hal := V.tT.len
  rw [List.length_map] at hal
  have hat := eok.2.1
  have w64 : IntKind.i64.wrap (e.at_ : Int) = e.at_ := wrap_i64 (by omega) (by omega)
  refine DrawX.go T_ok hM Hval.func368 (tb := dr368) rfl (by kernel_rfl) ?_; conv => whnf
  refine LoadX.of _ la ?_; conv => whnf
  refine CondX.dF (by omega) ?_; conv => whnf
  repeat (first | (refine CondX.tt ?_; conv => whnf) | (refine CondX.ff ?_; conv => whnf))
  refine LoadX.of _ la ?_; conv => whnf
  repeat (first | (refine CondX.tt ?_; conv => whnf) | (refine CondX.ff ?_; conv => whnf))
  refine LoadX.fn hb 27017 rfl (by omega) ?_
  rw [eC_t]; conv => whnf
  repeat (first | (refine CondX.tt ?_; conv => whnf) | (refine CondX.ff ?_; conv => whnf))
  rw [w64]
  refine CondX.dF (by omega) ?_; conv => whnf
  repeat (first | (refine CondX.tt ?_; conv => whnf) | (refine CondX.ff ?_; conv => whnf))
  refine DrawX.go T_ok hM Hval.func368 (tb := dr368) rfl (by kernel_rfl) ?_; conv => whnf
  refine LoadX.fn hb 27017 rfl (by omega) ?_
  rw [eC_t]; conv => whnf
  refine LoadX.of _ la ?_; conv => whnf
  refine LoadX.of (.agg (wc e.w).toArray) (V.ldw hj hmj he) ?_; conv => whnf
  refine IdxX.tag V.tT (by omega) (by omega) fun mb hmb => ?_; conv => whnf
  refine Ob.mk ⟨rfl, rfl⟩ ?_; conv => whnf
  refine StoreX.tag V.dj V.tT hmb (k := e.at_) (o := 5) (new := tpCells { v.tL.getD e.at_ dT with val := e.w }) (by omega) (Nat.le_of_ble_eq_true rfl) (by show 0 + e.at_ * 9 + 5 = _; omega) (by rw [getMap (d := dT) hi2]; rfl) rfl fun hm4 hd5 aT4 kp4 => ?_; conv => whnf
  have CA : COK { v.core with tL := v.tL.set e.at_ { v.tL.getD e.at_ dT with val := e.w } } := cokT V.cok hi2 rfl rfl hwr
  have V4 := V.modT hd5 kp4 (i := e.at_) (x := { v.tL.getD e.at_ dT with val := e.w }) hi2 rfl rfl (by rw [List.map_set]; exact aT4) CA
  exact RetX.same (hk _ _ V4 (by simp only [undoC, hkd]; rfl) rfl fun h => h)
set_option maxRecDepth 100000 in
set_option maxHeartbeats 4000000 in
theorem undo_6 (V : VOK hi hm eb mc v) (hj : j < v.jL.length) (hmj : v.jS.1 = some ⟨mj, 0, none⟩) (he : e = v.jL.getD j ⟨0, 0, 0, 0, nilS, [], false⟩) (hkd : e.kind = 6) (hk : UK hi eb mc v e K) : CallX Hval.prog 368 [.pointer (some ⟨eb, 2435, none⟩), .pointer (some ⟨mj, j * 9, none⟩)] (join hi hm) K := by
  have hem : e ∈ v.jL := by rw [he]; exact getDm hj
  obtain ⟨eok, hnr, hwr⟩ := V.cok.jwf e hem
  have hb := join_hm V.dj V.blk
  have lk : ldV false 1 (join hi hm) mj (j * 9 + 0) = some (.int .u8 6) := by rw [V.ldj hj hmj he 0 (by omega)]; show some (Value.int .u8 (e.kind : Int)) = _; rw [hkd]; rfl
  have la : ldV false 1 (join hi hm) mj (j * 9 + 1) = some (.int .i32 e.at_) := V.ldj hj hmj he 1 (by omega)
  refine CallX.of_xf T_ok Hval.func368 rfl (by kernel_rfl) (Nat.le_of_ble_eq_true rfl) ?_; conv => whnf
  refine LoadX.of _ lk ?_; conv => whnf
  repeat (first | (refine CondX.tt ?_; conv => whnf) | (refine CondX.ff ?_; conv => whnf))
  refine LoadX.of (.int .u64 e.n) (V.ldj hj hmj he 2 (by omega)) ?_; conv => whnf
  refine StoreX.jf V.dj V.blk 27015 rfl (by omega) fun hd5 => ?_
  rw [eU_ref] at hd5 ⊢; conv => whnf
  have V4 := V.setB (COK.setB V.cok (r := e.n) (n := v.nm) (m := v.mks) hnr V.cok.nm V.cok.mks)
  exact RetX.same (hk _ _ V4 (by simp only [undoC, hkd]; rfl) rfl fun h => h)
theorem COK.setN {c : VCore} (C : COK c) {n : Nat} (h : n ≤ c.nl) : COK { c with nl := n } := ⟨C.fewA, C.fewS, C.fewT, C.fewJ, Nat.le_trans h C.fewL, C.awf, C.swf, C.twf, C.jwf, C.adis, C.sdis, C.tdis, C.ref, C.nm, C.mks⟩
/-- A change of the logs. -/
theorem VOK.setL {hi' hm' : Hp} (V : VOK hi hm eb mc v) (hei : Ext hi hi') (hd : Dj hi' hm') (k : KpT 286 hm hm') {s' : Sl} {lL' : List (List Value)} (lT : ArrT hm' 286 s' 22 lL') (cok : COK { v.core with nl := lL'.length }) :
    VOK hi' (hput hm' eb (fnv 27024 (eC mc { v with lS := s', lL := lL' }), 101)) eb mc { v with lS := s', lL := lL' } := by
  have hb : hm' eb = some (fnv 27024 (eC mc v), 101) := k _ _ _ (by decide) V.blk
  have kp : KpT 101 hm' (hput hm' eb (fnv 27024 (eC mc { v with lS := s', lL := lL' }), 101)) := KpT.put hb
  refine ⟨hd.put hb, hput_same .., (V.aT.kp k (by decide)).kp kp (by decide), (V.sT.kp k (by decide)).kp kp (by decide), (V.jT.kp k (by decide)).kp kp (by decide), lT.kp kp (by decide), (V.tT.kp k (by decide)).kp kp (by decide), ?_, V.atab, V.stab, fun x hx => (V.ac x hx).ext hei, fun x hx => (V.jc x hx).ext hei, cok⟩
  rcases V.ttT with h1 | ⟨m, h1, h2, h3⟩
  · exact .inl h1
  · exact .inr ⟨m, h1, kp _ _ _ (by decide) (k _ _ _ (by decide) h2), h3⟩
/-- An array without its last element. -/
theorem ArrT.pop {e : TypeId} {s : Sl} {sz : Nat} {es : List (List Value)} (a : ArrT hm e s sz es) {n : Nat} (hn : n + 1 = s.2.1) : ArrT hm e (s.1, n, s.2.2) sz (es.take n) := by
  have hl := a.len
  refine ⟨fun x hx => a.szs x (List.mem_of_mem_take hx), fun x hx => a.one x (List.mem_of_mem_take hx), by rw [List.length_take]; show min n es.length = n; omega, ?_⟩
  rcases a.blk with h1 | ⟨m, pad, h1, h2, h3, h4⟩
  · rw [h1.2.2] at hl; simp at hl; omega
  · refine .inr ⟨m, es.getD n [] ++ pad, h1, ?_, by show n ≤ s.2.2; omega, ?_⟩
    · rw [h2, flat_split (k := n) (by omega), List.drop_of_length_le (by omega), List.flatten_nil, List.append_nil, List.append_assoc]
    · have hg : (es.getD n []).length = sz := a.szs _ (getDm (by omega))
      rw [List.length_append, hg]
      show (s.2.2 - n) * sz ≤ _
      rw [show s.2.2 - n = (s.2.2 - s.2.1) + 1 by omega, Nat.add_mul, Nat.one_mul]
      omega
set_option maxRecDepth 100000 in
set_option maxHeartbeats 4000000 in
theorem undo_7 (V : VOK hi hm eb mc v) (hj : j < v.jL.length) (hmj : v.jS.1 = some ⟨mj, 0, none⟩) (he : e = v.jL.getD j ⟨0, 0, 0, 0, nilS, [], false⟩) (hkd : e.kind = 7) (h1l : 1 ≤ v.lL.length) (hk : UK hi eb mc v e K) : CallX Hval.prog 368 [.pointer (some ⟨eb, 2435, none⟩), .pointer (some ⟨mj, j * 9, none⟩)] (join hi hm) K := by
  have hem : e ∈ v.jL := by rw [he]; exact getDm hj
  obtain ⟨eok, hnr, hwr⟩ := V.cok.jwf e hem
  have hb := join_hm V.dj V.blk
  have lk : ldV false 1 (join hi hm) mj (j * 9 + 0) = some (.int .u8 7) := by rw [V.ldj hj hmj he 0 (by omega)]; show some (Value.int .u8 (e.kind : Int)) = _; rw [hkd]; rfl
  have la : ldV false 1 (join hi hm) mj (j * 9 + 1) = some (.int .i32 e.at_) := V.ldj hj hmj he 1 (by omega)
  refine CallX.of_xf T_ok Hval.func368 rfl (by kernel_rfl) (Nat.le_of_ble_eq_true rfl) ?_; conv => whnf
  refine LoadX.of _ lk ?_; conv => whnf
  repeat (first | (refine CondX.tt ?_; conv => whnf) | (refine CondX.ff ?_; conv => whnf))
  have hal := V.lT.len
  have hfl : v.lL.length ≤ 2800 := V.cok.fewL
  refine LoadX.fn hb 27016 rfl (by omega) ?_
  rw [eC_l]; conv => whnf
  refine CondX.eqI (fun hc => by omega) (fun hc => ?_); conv => whnf
  refine DrawX.go T_ok hM Hval.func368 (tb := dr368) rfl (by kernel_rfl) ?_; conv => whnf
  refine LoadX.fn hb 27016 rfl (by omega) ?_
  rw [eC_l]; conv => whnf
  refine LoadX.fn hb 27016 rfl (by omega) ?_
  rw [eC_l]; conv => whnf
  rw [show IntKind.i64.wrap ((v.lS.2.1 : Int) - 1) = ((v.lS.2.1 - 1 : Nat) : Int) by rw [wrap_i64 (by omega) (by omega)]; omega]
  have hP := V.lT.pop (n := v.lS.2.1 - 1) (by omega)
  obtain ⟨ml, hml, hcap⟩ : ∃ ml, v.lS.1 = some ⟨ml, 0, none⟩ ∧ v.lS.2.1 ≤ v.lS.2.2 := by
    rcases V.lT.blk with h1 | ⟨m, pad, h1, h2, h3, h4⟩
    · rw [h1.2.2] at hal; simp at hal; omega
    · exact ⟨m, h1, h3⟩
  rw [hml] at hP ⊢
  refine SlcX.at hcap 0 (v.lS.2.1 - 1) v.lS.2.2 rfl rfl rfl (by omega) (by omega) (by omega) (.inl rfl) ?_; conv => whnf
  have es : soff 0 0 v.lS.2.2 (286, y286).snd.size = 0 := by unfold soff; split <;> simp
  rw [es]
  refine StoreX.jf V.dj V.blk 27016 rfl (by omega) fun hd5 => ?_
  rw [show Value.slice (some ⟨ml, 0, none⟩) (v.lS.2.1 - 1 - 0) (v.lS.2.2 - 0) = sl (some ⟨ml, 0, none⟩, v.lS.2.1 - 1, v.lS.2.2) from rfl, eU_l] at hd5 ⊢; conv => whnf
  have hlt : (v.lL.take (v.lS.2.1 - 1)).length = v.lL.length - 1 := by rw [List.length_take]; omega
  have V4 := V.setL (Ext.refl hi) V.dj (fun b c t _ h => h) hP (COK.setN V.cok (by rw [hlt]; show v.lL.length - 1 ≤ v.lL.length; omega))
  refine RetX.same (hk _ _ V4 ?_ rfl fun h => h)
  simp only [undoC, hkd]
  show ({ v.core with nl := (v.lL.take (v.lS.2.1 - 1)).length } : VCore) = _
  rw [hlt]; rfl
theorem undo_ok (V : VOK hi hm eb mc v) (hj : j < v.jL.length) (hmj : v.jS.1 = some ⟨mj, 0, none⟩) (he : e = v.jL.getD j ⟨0, 0, 0, 0, nilS, [], false⟩) (h7 : e.kind = 7 → 1 ≤ v.lL.length) (hk : UK hi eb mc v e K) : CallX Hval.prog 368 [.pointer (some ⟨eb, 2435, none⟩), .pointer (some ⟨mj, j * 9, none⟩)] (join hi hm) K := by
  have hem : e ∈ v.jL := by rw [he]; exact getDm hj
  have h10 := (V.cok.jwf e hem).1.1
  have hc : e.kind = 0 ∨ e.kind = 1 ∨ e.kind = 2 ∨ e.kind = 3 ∨ e.kind = 4 ∨ e.kind = 5 ∨ e.kind = 6 ∨ e.kind = 7 ∨ e.kind = 8 ∨ e.kind = 9 ∨ e.kind = 10 := by omega
  rcases hc with h | h | h | h | h | h | h | h | h | h | h
  · exact undo_0 V hj hmj he h hk
  · exact undo_1 V hj hmj he h hk
  · exact undo_2 V hj hmj he h hk
  · exact undo_3 V hj hmj he h hk
  · exact undo_4 V hj hmj he h hk
  · exact undo_5 V hj hmj he h hk
  · exact undo_6 V hj hmj he h hk
  · exact undo_7 V hj hmj he h (h7 h) hk
  · exact undo_8 V hj hmj he h hk
  · exact undo_9 V hj hmj he h hk
  · exact undo_10 V hj hmj he h hk
theorem undoC_all {c : VCore} (C : COK c) (C' : COK (undoC c e)) (eok : e.ok c) : absC (undoC c e) = eW c e (absC c) ∧ Nm c (undoC c e) ∧ (undoC c e).jL = c.jL ∧ (undoC c e).nm = c.nm ∧ (undoC c e).mks = c.mks ∧ (undoC c e).aL.length = c.aL.length ∧ (undoC c e).sL.length = c.sL.length ∧ (undoC c e).tL.length = c.tL.length ∧ (undoC c e).nl = c.nl - (if e.kind = 7 then 1 else 0) := by
  obtain ⟨h0, h1, h2, h3, h4⟩ := eok
  unfold EJ.tgtA at h2
  have hc : e.kind = 0 ∨ e.kind = 1 ∨ e.kind = 2 ∨ e.kind = 3 ∨ e.kind = 4 ∨ e.kind = 5 ∨ e.kind = 6 ∨ e.kind = 7 ∨ e.kind = 8 ∨ e.kind = 9 ∨ e.kind = 10 := by omega
  rcases hc with h | h | h | h | h | h | h | h | h | h | h
  · rw [show undoC c e = { c with aL := c.aL.set e.at_ { c.aL.getD e.at_ dA with bal := e.w } } by simp only [undoC, h]] at C' ⊢
    exact ⟨(by simp only [eW, h]; exact set_bal C (h2 (by omega)) _ C'), Nm.setA (h2 (by omega)) rfl, rfl, rfl, rfl, List.length_set .., rfl, rfl, (by rw [if_neg (by omega)]; rfl)⟩
  · rw [show undoC c e = { c with aL := c.aL.set e.at_ { c.aL.getD e.at_ dA with nonce := e.n } } by simp only [undoC, h]] at C' ⊢
    exact ⟨(by simp only [eW, h]; exact set_nonce C (h2 (by omega)) _ C'), Nm.setA (h2 (by omega)) rfl, rfl, rfl, rfl, List.length_set .., rfl, rfl, (by rw [if_neg (by omega)]; rfl)⟩
  · rw [show undoC c e = { c with aL := c.aL.set e.at_ { c.aL.getD e.at_ dA with code := e.b, cs := e.bs } } by simp only [undoC, h]] at C' ⊢
    exact ⟨(by simp only [eW, h]; exact set_code C (h2 (by omega)) _ _ C'), Nm.setA (h2 (by omega)) rfl, rfl, rfl, rfl, List.length_set .., rfl, rfl, (by rw [if_neg (by omega)]; rfl)⟩
  · rw [show undoC c e = { c with sL := c.sL.set e.at_ { c.sL.getD e.at_ dS with val := e.w } } by simp only [undoC, h]] at C' ⊢
    exact ⟨(by simp only [eW, h]; exact set_val C (h3 (by omega)) _ C'), Nm.setS (h3 (by omega)) rfl rfl, rfl, rfl, rfl, rfl, List.length_set .., rfl, (by rw [if_neg (by omega)]; rfl)⟩
  · rw [show undoC c e = { c with aL := c.aL.set e.at_ { c.aL.getD e.at_ dA with warm := e.flag } } by simp only [undoC, h]] at C' ⊢
    exact ⟨(by simp only [eW, h]; exact set_warm C (h2 (by omega)) _ C'), Nm.setA (h2 (by omega)) rfl, rfl, rfl, rfl, List.length_set .., rfl, rfl, (by rw [if_neg (by omega)]; rfl)⟩
  · rw [show undoC c e = { c with sL := c.sL.set e.at_ { c.sL.getD e.at_ dS with warm := e.flag } } by simp only [undoC, h]] at C' ⊢
    exact ⟨(by simp only [eW, h]; exact set_swarm C (h3 (by omega)) _ C'), Nm.setS (h3 (by omega)) rfl rfl, rfl, rfl, rfl, rfl, List.length_set .., rfl, (by rw [if_neg (by omega)]; rfl)⟩
  · rw [show undoC c e = { c with ref := e.n } by simp only [undoC, h]] at C' ⊢
    exact ⟨(by simp only [eW, h]; exact rfl), Nm.of_eq rfl rfl rfl, rfl, rfl, rfl, rfl, rfl, rfl, (by rw [if_neg (by omega)]; rfl)⟩
  · rw [show undoC c e = { c with nl := c.nl - 1 } by simp only [undoC, h]] at C' ⊢
    exact ⟨(by simp only [eW, h]; exact rfl), Nm.of_eq rfl rfl rfl, rfl, rfl, rfl, rfl, rfl, rfl, (by rw [if_pos h])⟩
  · rw [show undoC c e = { c with tL := c.tL.set e.at_ { c.tL.getD e.at_ dT with val := e.w } } by simp only [undoC, h]] at C' ⊢
    exact ⟨(by simp only [eW, h]; exact set_tval C (h4 (by omega)) _ C'), Nm.setT (h4 (by omega)) rfl rfl, rfl, rfl, rfl, rfl, rfl, List.length_set .., (by rw [if_neg (by omega)]; rfl)⟩
  · rw [show undoC c e = { c with aL := c.aL.set e.at_ { c.aL.getD e.at_ dA with made := e.flag } } by simp only [undoC, h]] at C' ⊢
    exact ⟨(by simp only [eW, h]; exact set_made C (h2 (by omega)) _ C'), Nm.setA (h2 (by omega)) rfl, rfl, rfl, rfl, List.length_set .., rfl, rfl, (by rw [if_neg (by omega)]; rfl)⟩
  · rw [show undoC c e = { c with aL := c.aL.set e.at_ { c.aL.getD e.at_ dA with gone := e.flag } } by simp only [undoC, h]] at C' ⊢
    exact ⟨(by simp only [eW, h]; exact set_gone C (h2 (by omega)) _ C'), Nm.setA (h2 (by omega)) rfl, rfl, rfl, rfl, List.length_set .., rfl, rfl, (by rw [if_neg (by omega)]; rfl)⟩
end
end Go.Proofs.YgvalwGreat.X
