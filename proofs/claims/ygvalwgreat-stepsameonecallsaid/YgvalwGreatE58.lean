import Derived.Test.YgvalwGreatE57
set_option linter.unusedVariables false
set_option linter.unusedSimpArgs false
namespace Go.Proofs.YgvalwGreat.X
open Go

section
variable {hi hm : Hp} {K : Value → Hp → Prop} {mc : Nat → Value} {v : VS} {eb : Nat} {w : AW} {sn : List AW}
set_option maxRecDepth 100000 in
set_option maxHeartbeats 4000000 in
theorem live_ok {h : Hp} {id : Int} (hb : h eb = some (fnv 27024 (eC mc v), 101)) (h0 : 0 ≤ id) (h1 : id < v.nm) (h2 : id < 16384) (hk : K (.bool true) h) : CallX Hval.prog 328 [.pointer (some ⟨eb, 2435, none⟩), .int .i32 id] h K := by
  refine CallX.of_xf T_ok Hval.func328 rfl (by kernel_rfl) (Nat.le_of_ble_eq_true rfl) ?_; conv => whnf
  refine CondX.dT (by omega) ?_; conv => whnf
  repeat (first | (refine CondX.tt ?_; conv => whnf) | (refine CondX.ff ?_; conv => whnf))
  refine LoadX.fn hb 27014 rfl (by omega) ?_
  rw [eC_nm]; conv => whnf
  repeat (first | (refine CondX.tt ?_; conv => whnf) | (refine CondX.ff ?_; conv => whnf))
  refine CondX.dT (by omega) ?_; conv => whnf
  repeat (first | (refine CondX.tt ?_; conv => whnf) | (refine CondX.ff ?_; conv => whnf))
  rw [decide_eq_true h2]
  exact RetX.same hk
def lastE (v : VS) : EJ := v.jL.getD (v.jL.length - 1) ⟨0, 0, 0, 0, nilS, [], false⟩
theorem COK.takeJ {c : VCore} (C : COK c) (n : Nat) : COK { c with jL := c.jL.take n } := ⟨C.fewA, C.fewS, C.fewT, Nat.le_trans (by show (c.jL.take n).length ≤ c.jL.length; rw [List.length_take]; omega) C.fewJ, C.fewL, C.awf, C.swf, C.twf, fun x hx => C.jwf x (List.mem_of_mem_take hx), C.adis, C.sdis, C.tdis, C.ref, C.nm, C.mks⟩
theorem take_last {l : List EJ} {d : EJ} (h : 0 < l.length) : l.take (l.length - 1) ++ [l.getD (l.length - 1) d] = l := by
  obtain ⟨k, hk⟩ : ∃ k, l.length = k + 1 := ⟨l.length - 1, by omega⟩
  rw [hk, Nat.add_sub_cancel, List.getD_eq_getElem?_getD, List.getElem?_eq_getElem (by omega)]
  show l.take k ++ [l[k]] = l
  rw [List.take_append_getElem]
  exact List.take_of_length_le (by omega)
set_option maxRecDepth 100000 in
set_option maxHeartbeats 4000000 in
theorem undoOne_ok {id n : Nat} (V : VOK hi hm eb mc v) (hnm : v.nm = ((id + 1 : Nat) : Int)) (hid : id < 16384) (hmk : v.mks id = n) (h7 : n7 v.jL ≤ v.lL.length)
    (hk1 : v.jL.length ≤ n → K (.bool false) (join hi hm))
    (hk2 : n < v.jL.length → COK (undoC v.core (lastE v)) → ∀ hm' v', VOK hi hm' eb mc v' → v'.core = { undoC v.core (lastE v) with jL := v.jL.take (v.jL.length - 1) } → ((∀ x ∈ v.sL, x.orig = 0) → ∀ x ∈ v'.sL, x.orig = 0) → K (.bool true) (join hi hm')) :
    CallX Hval.prog 329 [.pointer (some ⟨eb, 2435, none⟩)] (join hi hm) K := by
  have hjl := V.jT.len
  rw [List.length_map] at hjl
  have hfj : v.jL.length ≤ 65536 := V.cok.fewJ
  have hn6 : (n : Int) ≤ 65536 := by rw [← hmk]; exact (V.cok.mks id (by show (id : Int) < v.nm; omega)).2
  have hb := join_hm V.dj V.blk
  refine CallX.of_xf T_ok Hval.func329 rfl (by kernel_rfl) (Nat.le_of_ble_eq_true rfl) ?_; conv => whnf
  refine LoadX.fn hb 10629 rfl (by omega) ?_
  rw [eC_j]; conv => whnf
  refine DrawX.go T_ok hM Hval.func329 (tb := dr329) rfl (by kernel_rfl) ?_; conv => whnf
  refine CondX.eqI (fun h0 => ?_) (fun h0 => ?_) <;> conv => whnf
  · repeat (first | (refine CondX.tt ?_; conv => whnf) | (refine CondX.ff ?_; conv => whnf))
    exact RetX.same (hk1 (by omega))
  · repeat (first | (refine CondX.tt ?_; conv => whnf) | (refine CondX.ff ?_; conv => whnf))
    refine LoadX.fn hb 27014 rfl (by omega) ?_
    rw [eC_nm]; conv => whnf
    repeat (first | (refine CondX.tt ?_; conv => whnf) | (refine CondX.ff ?_; conv => whnf))
    have ei : IntKind.i32.wrap (v.nm - 1) = id := by rw [wrap_i32 (by omega) (by omega)]; omega
    rw [ei]
    refine live_ok hb (by omega) (by omega) (by omega) ?_; conv => whnf
    repeat (refine Ob.mk (by first | exact ldV_fn hb 27014 rfl (by omega) | exact ldV_fn hb 10629 rfl (by omega)) ?_; conv => whnf)
    repeat (first | (refine CondX.tt ?_; conv => whnf) | (refine CondX.ff ?_; conv => whnf))
    refine LoadX.fn hb 27014 rfl (by omega) ?_
    rw [eC_nm]; conv => whnf
    repeat (first | (refine CondX.tt ?_; conv => whnf) | (refine CondX.ff ?_; conv => whnf))
    rw [ei]
    refine Ob.mk ⟨by omega, by omega⟩ ?_; conv => whnf
    repeat (first | (refine CondX.tt ?_; conv => whnf) | (refine CondX.ff ?_; conv => whnf))
    refine LoadX.fn hb (10630 + id) (by rw [Int.toNat_natCast, show (fd 8195 89).offset = 8195 from rfl, show (21, y21).snd.size = 1 from rfl]; omega) (by omega) ?_
    rw [eC_mk _ _ hid, hmk]; conv => whnf
    repeat (first | (refine CondX.tt ?_; conv => whnf) | (refine CondX.ff ?_; conv => whnf))
    rw [show IntKind.i64.wrap (n : Int) = n from wrap_i64 (by omega) (by omega)]
    refine CondX.decI (fun hc => ?_) (fun hc => ?_) <;> conv => whnf
    · exact RetX.same (hk1 (by omega))
    · refine LoadX.fn hb 10629 rfl (by omega) ?_
      rw [eC_j]; conv => whnf
      have e1 : IntKind.i64.wrap ((v.jS.2.1 : Int) - 1) = ((v.jL.length - 1 : Nat) : Int) := by rw [wrap_i64 (by omega) (by omega)]; omega
      rw [e1]
      refine IdxX.tag V.jT (by omega) (by omega) fun mj hmj => ?_; conv => whnf
      have ep : 0 + (((v.jL.length - 1 : Nat) : Int)).toNat * (250, y250).snd.size = (v.jL.length - 1) * 9 := by rw [Int.toNat_natCast, Nat.zero_add]; rfl
      rw [ep]
      have hL7 : (lastE v).kind = 7 → 1 ≤ v.lL.length := fun h => by
        have h1 := n7_app (v.jL.take (v.jL.length - 1)) (lastE v)
        rw [if_pos h, show v.jL.take (v.jL.length - 1) ++ [lastE v] = v.jL from take_last (by omega)] at h1
        omega
      refine undo_ok V (j := v.jL.length - 1) (e := lastE v) (by omega) hmj rfl hL7 fun hm' v' V' hc' hjS hor => ?_; conv => whnf
      repeat (first | (refine CondX.tt ?_; conv => whnf) | (refine CondX.ff ?_; conv => whnf))
      have hjl' := V'.jT.len
      rw [List.length_map] at hjl'
      have eok := (V.cok.jwf (lastE v) (getDm (l := v.jL) (by omega))).1
      have hall := undoC_all V.cok (by rw [← hc']; exact V'.cok) eok
      have hjL : v'.jL = v.jL := (congrArg VCore.jL hc').trans hall.2.2.1
      refine LoadX.fn (join_hm V'.dj V'.blk) 10629 rfl (by omega) ?_
      rw [eC_j, hjS]; conv => whnf
      have hP := V'.jT.pop (n := v.jL.length - 1) (by rw [hjS]; omega)
      rw [hjS, hjL] at hP
      obtain ⟨ml, hml, hcap⟩ : ∃ ml, v.jS.1 = some ⟨ml, 0, none⟩ ∧ v.jS.2.1 ≤ v.jS.2.2 := by
        rcases V.jT.blk with h1 | ⟨m, pad, h1, h2, h3, h4⟩
        · have := congrArg List.length h1.2.2; rw [List.length_map, List.length_nil] at this; omega
        · exact ⟨m, h1, h3⟩
      rw [hml] at hP ⊢
      refine SlcX.at hcap 0 (v.jL.length - 1) v.jS.2.2 rfl (show IntKind.i64.wrap _ = _ from e1) rfl (by omega) (by omega) (by omega) (.inl rfl) ?_; conv => whnf
      have es : soff 0 0 v.jS.2.2 (250, y250).snd.size = 0 := by unfold soff; split <;> simp
      rw [es]
      refine StoreX.jf V'.dj V'.blk 10629 rfl (by omega) fun hd5 => ?_
      rw [show Value.slice (some ⟨ml, 0, none⟩) (v.jL.length - 1 - 0) (v.jS.2.2 - 0) = sl (some ⟨ml, 0, none⟩, v.jL.length - 1, v.jS.2.2) from rfl, eU_j] at hd5 ⊢; conv => whnf
      have V4 := V'.setJ V'.dj (fun b c t _ h => h) (s' := (some ⟨ml, 0, none⟩, v.jL.length - 1, v.jS.2.2)) (jL' := v.jL.take (v.jL.length - 1)) (by rw [List.map_take]; exact hP) (fun y hy => V'.jc y (by rw [hjL]; exact List.mem_of_mem_take hy)) (by
        have := V'.cok.takeJ (v.jL.length - 1)
        rw [show v'.core.jL = v.jL from hjL] at this
        exact this)
      refine RetX.same (hk2 (by omega) (by rw [← hc']; exact V'.cok) _ _ V4 ?_ hor)
      show ({ v'.core with jL := v.jL.take (v.jL.length - 1) } : VCore) = _
      rw [hc']
/-- What stands after undoing: the world as it was. -/
structure Bk (c c1 : VCore) : Prop where
  nm : Nm c c1
  jl : ∃ m, m ≤ c.jL.length ∧ c1.jL = c.jL.take m
  bk : ∀ n, n ≤ c1.jL.length → back c1 n = back c n
  n1 : c1.nm = c.nm
  mks : c1.mks = c.mks
  la : c1.aL.length = c.aL.length
  ls : c1.sL.length = c.sL.length
  lt : c1.tL.length = c.tL.length
  lg : n7 c1.jL ≤ c1.nl
theorem Bk.step {c : VCore} (B : Bk c v.core) (C : COK v.core) (hj : 0 < v.jL.length) (C' : COK (undoC v.core (lastE v))) : Bk c { undoC v.core (lastE v) with jL := v.jL.take (v.jL.length - 1) } := by
  have eok := (C.jwf (lastE v) (getDm (l := v.jL) (by omega))).1
  obtain ⟨u1, u2, u3, u4, u5, u6, u7, u8, u9⟩ := undoC_all C C' eok
  have n2 : Nm v.core { undoC v.core (lastE v) with jL := v.jL.take (v.jL.length - 1) } := ⟨u2.a, u2.s, u2.t⟩
  obtain ⟨m, hm, hjl⟩ := B.jl
  have hjm : v.jL = c.jL.take m := hjl
  have hlm : v.jL.length = m := by rw [hjm, List.length_take]; omega
  refine ⟨B.nm.trans n2, ⟨m - 1, by omega, ?_⟩, fun n hn => ?_, u4.trans B.n1, u5.trans B.mks, u6.trans B.la, u7.trans B.ls, u8.trans B.lt, ?_⟩
  · show v.jL.take (v.jL.length - 1) = _
    rw [hlm, hjm, List.take_take, Nat.min_eq_left (by omega)]
  · have hn' : n ≤ (v.jL.take (v.jL.length - 1)).length := hn
    rw [back_pop (c := v.core) (c' := { undoC v.core (lastE v) with jL := v.jL.take (v.jL.length - 1) }) (e := lastE v) C n2 (take_last hj).symm u1 hn']
    exact B.bk n (by rw [List.length_take] at hn'; show n ≤ v.jL.length; omega)
  · show n7 (v.jL.take (v.jL.length - 1)) ≤ (undoC v.core (lastE v)).nl
    have h1 := n7_app (v.jL.take (v.jL.length - 1)) (lastE v)
    rw [show v.jL.take (v.jL.length - 1) ++ [lastE v] = v.jL from take_last hj] at h1
    have h2 : n7 v.jL ≤ v.core.nl := B.lg
    rw [u9]
    omega
set_option maxRecDepth 100000 in
set_option maxHeartbeats 4000000 in
theorem revertTo_ok {id : Nat} {x : AW} (A : VA hi hm eb mc w sn v) (hx : sn[id]? = some x)
    (hk : ∀ hm' v', VA hi hm' eb mc x (sn.take id) v' → (v'.aL.length = v.aL.length ∧ v'.sL.length = v.sL.length ∧ v'.tL.length = v.tL.length ∧ v'.jL.length ≤ v.jL.length ∧ ∀ b, hasA v b = true → hasA v' b = true) → K (.bool true) (join hi hm')) : CallX Hval.prog 231 [.pointer (some ⟨eb, 2435, none⟩), .int .i32 id] (join hi hm) K := by
  have V := A.V
  have hnm : v.nm = sn.length := A.hist.nm
  have hidl : id < sn.length := (List.getElem?_eq_some_iff.1 hx).1
  have hn16 : v.nm ≤ 16384 := V.cok.nm.2
  obtain ⟨n, hmk, hnj, hbk⟩ := A.hist.at_ id x hx
  refine CallX.of_xf T_ok Hval.func231 rfl (by kernel_rfl) (Nat.le_of_ble_eq_true rfl) ?_; conv => whnf
  refine live_ok (join_hm V.dj V.blk) (by omega) (by omega) (by omega) ?_; conv => whnf
  repeat (first | (refine CondX.tt ?_; conv => whnf) | (refine CondX.ff ?_; conv => whnf))
  rw [show IntKind.i32.wrap ((id : Int) + 1) = ((id + 1 : Nat) : Int) by rw [wrap_i32 (by omega) (by omega)]; omega]
  refine StoreX.jf V.dj V.blk 27014 rfl (by omega) fun hd5 => ?_
  rw [eU_nm] at hd5 ⊢; conv => whnf
  have V1 := V.setB (r := v.ref) (n := ((id + 1 : Nat) : Int)) (m := v.mks) (COK.setB V.cok V.cok.ref ⟨by omega, by omega⟩ fun i hi => V.cok.mks i (by show (i : Int) < v.nm; omega))
  have B1 : Bk { v.core with nm := ((id + 1 : Nat) : Int) } { v.core with nm := ((id + 1 : Nat) : Int) } := ⟨Nm.of_eq rfl rfl rfl, ⟨v.jL.length, Nat.le_refl _, (List.take_length ..).symm⟩, fun _ _ => rfl, rfl, rfl, rfl, rfl, rfl, A.hist.lg⟩
  refine LoopX.st T_ok Hval.func231 (σ := VS × Hp) (fun _ => [(0, .pointer (some ⟨eb, 2435, none⟩)), (1, .int .i32 id)]) (fun s h' => VOK hi s.2 eb mc s.1 ∧ h' = join hi s.2 ∧ Bk { v.core with nm := ((id + 1 : Nat) : Int) } s.1.core ∧ n ≤ s.1.jL.length ∧ ∀ x ∈ s.1.sL, x.orig = 0) (fun s => s.1.jL.length) ({ v with nm := ((id + 1 : Nat) : Int) }, _) ⟨rfl, rfl, trivial⟩ ⟨V1, rfl, B1, hnj, A.orig⟩ ?_
  rintro ⟨v1, hm1⟩ ρ h' ⟨W1, rfl, B, hn1, ho1⟩ ih
  dsimp only at W1 B hn1 ho1 ih ⊢
  conv => whnf
  refine undoOne_ok (id := id) (n := n) W1 B.n1 (by omega) ((congrFun B.mks id).trans hmk) B.lg (fun hc => ?_) (fun hc hC2 hm2 v2 W2 hc2 ho2 => ?_) <;> conv => whnf
  · repeat (first | (refine CondX.tt ?_; conv => whnf) | (refine CondX.ff ?_; conv => whnf))
    refine StoreX.jf W1.dj W1.blk 27014 rfl (by omega) fun hd6 => ?_
    rw [eU_nm] at hd6 ⊢; conv => whnf
    have hn1m : v1.nm = ((id + 1 : Nat) : Int) := B.n1
    have VF := W1.setB (r := v1.ref) (n := (id : Int)) (m := v1.mks) (COK.setB W1.cok W1.cok.ref ⟨by omega, by omega⟩ fun i hi => W1.cok.mks i (by show (i : Int) < v1.nm; omega))
    have hjn : v1.jL.length = n := by omega
    refine RetX.same (hk _ _ ⟨VF, ?_, ⟨?_, fun i y hy => ?_, fun i j hij hj => ?_, B.lg⟩, ho1⟩ ⟨B.la, B.ls, B.lt, (by show v1.jL.length ≤ v.jL.length; have h9 : n ≤ v.jL.length := hnj; omega), fun b hb => has_nm (v := v) VF.cok ⟨B.nm.a, B.nm.s, B.nm.t⟩ b hb⟩)
    · show absC v1.core = x
      have h1 := B.bk n (by show n ≤ v1.jL.length; omega)
      rw [show back v1.core n = absC v1.core by unfold back; rw [List.drop_of_length_le (by show v1.jL.length ≤ n; omega)]; rfl] at h1
      rw [h1]; exact hbk
    · show (id : Int) = (sn.take id).length
      rw [List.length_take, Nat.min_eq_left (by omega)]
    · have hil : i < id := by
        have := (List.getElem?_eq_some_iff.1 hy).1
        rw [List.length_take] at this; omega
      rw [List.getElem?_take_of_lt hil] at hy
      obtain ⟨m, g1, g2, g3⟩ := A.hist.at_ i y hy
      have hmn : v.core.mks i ≤ v.core.mks id := A.hist.mono i id (by omega) hidl
      have hle : m ≤ n := by rw [g1, hmk] at hmn; omega
      refine ⟨m, (congrFun B.mks i).trans g1, by show m ≤ v1.jL.length; omega, ?_⟩
      exact (B.bk m (by show m ≤ v1.jL.length; omega)).trans g3
    · rw [List.length_take] at hj
      show v1.core.mks i ≤ v1.core.mks j
      rw [B.mks]
      exact A.hist.mono i j hij (by omega)
  · repeat (first | (refine CondX.tt ?_; conv => whnf) | (refine CondX.ff ?_; conv => whnf))
    have B2 := B.step W1.cok (by omega) hC2
    rw [← hc2] at B2
    have hl2 : v2.jL.length = v1.jL.length - 1 := by
      show v2.core.jL.length = _
      rw [hc2]; show (v1.jL.take (v1.jL.length - 1)).length = _; rw [List.length_take]; omega
    exact ih (v2, hm2) _ _ ⟨W2, rfl, B2, by dsimp only; omega, ho2 ho1⟩ (by dsimp only; omega) ⟨rfl, rfl, trivial⟩
end
end Go.Proofs.YgvalwGreat.X
