import Derived.Test.YgvalwGreatE46
set_option linter.unusedVariables false
set_option linter.unusedSimpArgs false
namespace Go.Proofs.YgvalwGreat.X
open Go

section
variable {c : VCore} {i : Nat}
theorem mem_set {α : Type} {l : List α} {i : Nat} {x y : α} (h : y ∈ l.set i x) : y = x ∨ y ∈ l := (List.mem_or_eq_of_mem_set h).symm
theorem cokA (C : COK c) {x : EA} (h : i < c.aL.length) (hx : x.addr = (c.aL.getD i dA).addr) (hn : 0 ≤ x.nonce ∧ x.nonce < 18446744073709551616) (hb : 0 ≤ x.bal ∧ x.bal < W) : COK { c with aL := c.aL.set i x } := by
  have hl : (c.aL.set i x).length = c.aL.length := List.length_set ..
  have hg : ∀ j, ((c.aL.set i x).getD j dA).addr = (c.aL.getD j dA).addr := fun j => by rw [getD_set h]; split <;> rename_i hh; rw [hx, hh]; rfl
  refine ⟨by show (c.aL.set i x).length ≤ _; rw [hl]; exact C.fewA, C.fewS, C.fewT, C.fewJ, C.fewL, fun y hy => ?_, fun y hy => ?_, fun y hy => ?_, fun y hy => ?_, fun m j hm hj he => ?_, C.sdis, C.tdis, C.ref, C.nm, C.mks⟩
  · rcases mem_set hy with rfl | hy
    · exact ⟨by rw [hx]; exact (C.awf _ (getDm h)).1, hn, hb⟩
    · exact C.awf y hy
  · have := C.swf y hy; exact ⟨by show y.acct < (c.aL.set i x).length; rw [hl]; exact this.1, this.2⟩
  · have := C.twf y hy; exact ⟨by show y.acct < (c.aL.set i x).length; rw [hl]; exact this.1, this.2⟩
  · obtain ⟨⟨h1, h2, h3, h4, h5⟩, h6⟩ := C.jwf y hy
    exact ⟨⟨h1, h2, fun g => by have := h3 g; show y.at_ < (c.aL.set i x).length; rw [hl]; exact this, h4, h5⟩, h6⟩
  · dsimp only at hm hj he
    rw [hl] at hm hj
    rw [hg, hg] at he
    exact C.adis m j hm hj he
theorem cokS (C : COK c) {x : ESl} (h : i < c.sL.length) (hx : x.acct = (c.sL.getD i dS).acct) (hx2 : x.key = (c.sL.getD i dS).key) (hv : 0 ≤ x.val ∧ x.val < W) (ho : 0 ≤ x.orig ∧ x.orig < W) : COK { c with sL := c.sL.set i x } := by
  have hl : (c.sL.set i x).length = c.sL.length := List.length_set ..
  have hg : ∀ j, ((c.sL.set i x).getD j dS).acct = (c.sL.getD j dS).acct := fun j => by rw [getD_set h]; split <;> rename_i hh; rw [hx, hh]; rfl
  have hg2 : ∀ j, ((c.sL.set i x).getD j dS).key = (c.sL.getD j dS).key := fun j => by rw [getD_set h]; split <;> rename_i hh; rw [hx2, hh]; rfl
  refine ⟨C.fewA, by show (c.sL.set i x).length ≤ _; rw [hl]; exact C.fewS, C.fewT, C.fewJ, C.fewL, C.awf, fun y hy => ?_, C.twf, fun y hy => ?_, C.adis, fun m j hm hj he hk => ?_, C.tdis, C.ref, C.nm, C.mks⟩
  · rcases mem_set hy with rfl | hy
    · exact ⟨by rw [hx]; exact (C.swf _ (getDm h)).1, by rw [hx2]; exact (C.swf _ (getDm h)).2.1, hv, ho⟩
    · exact C.swf y hy
  · obtain ⟨⟨h1, h2, h3, h4, h5⟩, h6⟩ := C.jwf y hy
    exact ⟨⟨h1, h2, h3, fun g => by have := h4 g; show y.at_ < (c.sL.set i x).length; rw [hl]; exact this, h5⟩, h6⟩
  · dsimp only at hm hj he hk
    rw [hl] at hm hj
    rw [hg, hg] at he
    rw [hg2, hg2] at hk
    exact C.sdis m j hm hj he hk
theorem cokT (C : COK c) {x : ET} (h : i < c.tL.length) (hx : x.acct = (c.tL.getD i dT).acct) (hx2 : x.key = (c.tL.getD i dT).key) (hv : 0 ≤ x.val ∧ x.val < W) : COK { c with tL := c.tL.set i x } := by
  have hl : (c.tL.set i x).length = c.tL.length := List.length_set ..
  have hg : ∀ j, ((c.tL.set i x).getD j dT).acct = (c.tL.getD j dT).acct := fun j => by rw [getD_set h]; split <;> rename_i hh; rw [hx, hh]; rfl
  have hg2 : ∀ j, ((c.tL.set i x).getD j dT).key = (c.tL.getD j dT).key := fun j => by rw [getD_set h]; split <;> rename_i hh; rw [hx2, hh]; rfl
  refine ⟨C.fewA, C.fewS, by show (c.tL.set i x).length ≤ _; rw [hl]; exact C.fewT, C.fewJ, C.fewL, C.awf, C.swf, fun y hy => ?_, fun y hy => ?_, C.adis, C.sdis, fun m j hm hj he hk => ?_, C.ref, C.nm, C.mks⟩
  · rcases mem_set hy with rfl | hy
    · exact ⟨by rw [hx]; exact (C.twf _ (getDm h)).1, by rw [hx2]; exact (C.twf _ (getDm h)).2.1, hv⟩
    · exact C.twf y hy
  · obtain ⟨⟨h1, h2, h3, h4, h5⟩, h6⟩ := C.jwf y hy
    exact ⟨⟨h1, h2, h3, h4, fun g => by have := h5 g; show y.at_ < (c.tL.set i x).length; rw [hl]; exact this⟩, h6⟩
  · dsimp only at hm hj he hk
    rw [hl] at hm hj
    rw [hg, hg] at he
    rw [hg2, hg2] at hk
    exact C.tdis m j hm hj he hk
theorem cokJ (C : COK c) {e : EJ} (h : e.ok c) (hn : 0 ≤ e.n ∧ e.n < 18446744073709551616) (hw : 0 ≤ e.w ∧ e.w < W) (hr : c.jL.length < 65536) : COK { c with jL := c.jL ++ [e] } := by
  refine ⟨C.fewA, C.fewS, C.fewT, by show (c.jL ++ [e]).length ≤ _; simp; omega, C.fewL, C.awf, C.swf, C.twf, fun y hy => ?_, C.adis, C.sdis, C.tdis, C.ref, C.nm, C.mks⟩
  rcases List.mem_append.1 hy with h1 | h1
  · exact C.jwf y h1
  · rw [List.mem_singleton.1 h1]; exact ⟨h, hn, hw⟩
end
section
variable {hi hi' hm hm' : Hp} {K : Value → Hp → Prop} {mc : Nat → Value} {v : VS} {eb : Nat}
theorem flat_split {es : List (List Value)} {k : Nat} (hk : k < es.length) : es.flatten = (es.take k).flatten ++ (es.getD k [] ++ (es.drop (k + 1)).flatten) := by
  induction es generalizing k with
  | nil => exact absurd hk (by simp)
  | cons x l ih =>
    cases k with
    | zero => rfl
    | succ k =>
      show x ++ l.flatten = (x ++ (l.take k).flatten) ++ _
      rw [ih (k := k) (by simpa using hk), List.append_assoc]; rfl
theorem flat_set {es : List (List Value)} {k : Nat} {x : List Value} (hk : k < es.length) : (es.set k x).flatten = (es.take k).flatten ++ (x ++ (es.drop (k + 1)).flatten) := by
  induction es generalizing k with
  | nil => exact absurd hk (by simp)
  | cons y l ih =>
    cases k with
    | zero => rfl
    | succ k =>
      show y ++ (l.set k x).flatten = (y ++ (l.take k).flatten) ++ _
      rw [ih (k := k) (by simpa using hk), List.append_assoc]; rfl
theorem setSeg_mid {p m q vs : List Value} {o : Nat} (h : o + vs.length ≤ m.length) : setSeg (p ++ (m ++ q)) (p.length + o) vs = p ++ (setSeg m o vs ++ q) := by
  unfold setSeg
  rw [List.take_length_add_append, List.take_append_of_le_length (by omega), Nat.add_assoc, List.drop_length_add_append, List.drop_append_of_le_length h]
  simp only [List.append_assoc]
theorem setSeg_len {m vs : List Value} {o : Nat} (h : o + vs.length ≤ m.length) : (setSeg m o vs).length = m.length := by
  unfold setSeg; simp; omega
/-- A store into an element of an array. -/
theorem StoreX.tag {e : TypeId} {sz m k o o' : Nat} {s : Sl} {es : List (List Value)} {vs new : List Value} {KK : Hp → Prop} (hd : Dj hi hm) (a : ArrT hm e s sz es) (he : s.1 = some ⟨m, 0, none⟩) (hk : k < s.2.1) (ho : o + vs.length ≤ sz) (hoo : o' = k * sz + o)
    (hnew : setSeg (es.getD k []) o vs = new) (hon : ones new = true)
    (hK : ∀ hm', Dj hi hm' → ArrT hm' e s sz (es.set k new) → KpT e hm hm' → KK (join hi hm')) : StoreX (join hi hm) m o' vs KK := by
  subst hoo hnew
  have hkl : k < es.length := by rw [a.len]; exact hk
  have hgl : (es.getD k []).length = sz := a.szs _ (getDm hkl)
  rcases a.blk with h1 | ⟨m', pad, h1, hb, h3, h4⟩
  · rw [h1.1] at he; cases he
  · rw [h1] at he; cases he
    have hfl : (es.take k).flatten.length = k * sz := by
      rw [flat_len fun x hx => a.szs x (List.mem_of_mem_take hx), List.length_take, Nat.min_eq_left (by omega)]
    have e1 : setSeg (es.flatten ++ pad) (k * sz + o) vs = (es.set k (setSeg (es.getD k []) o vs)).flatten ++ pad := by
      rw [flat_split hkl, flat_set hkl, List.append_assoc, List.append_assoc, ← hfl, setSeg_mid (by omega)]
      simp only [List.append_assoc]
    refine StoreX.jm hd hb ?_ ?_
    · have := flat_len a.szs
      rw [List.length_append, this]
      have h5 : (k + 1) * sz ≤ es.length * sz := Nat.mul_le_mul_right _ (by omega)
      rw [Nat.add_mul] at h5
      omega
    · rw [e1]
      refine hK _ (hd.put hb) ⟨fun x hx => ?_, fun x hx => ?_, by rw [List.length_set]; exact a.len, .inr ⟨_, pad, h1, hput_same .., h3, h4⟩⟩ (KpT.put hb)
      · rcases mem_set hx with rfl | hx
        · rw [setSeg_len (by omega)]; exact hgl
        · exact a.szs x hx
      · rcases mem_set hx with rfl | hx
        · exact hon
        · exact a.one x hx
theorem VOK.modA (V : VOK hi hm eb mc v) (he : Ext hi hi') (hd : Dj hi' hm') (k : KpT 230 hm hm') {i : Nat} {x : EA} (h : i < v.aL.length) (hx : x.addr = (v.aL.getD i dA).addr) (aT : ArrT hm' 230 v.aS 29 ((v.aL.set i x).map aCells)) (hb : BytS hi' x.cs x.code) (cok : COK { v.core with aL := v.aL.set i x }) : VOK hi' hm' eb mc { v with aL := v.aL.set i x } := by
  have h1 := V.setA he hd k (s' := v.aS) (aL' := v.aL.set i x) (tab' := v.atab) aT ?_ ?_ cok
  · have hb : hm' eb = some (fnv 27024 (eC mc v), 101) := k _ _ _ (by decide) V.blk
    rw [show hput hm' eb (fnv 27024 (eC mc { v with aS := v.aS, aL := v.aL.set i x, atab := v.atab }), 101) = hm' from hput_id hb] at h1
    exact h1
  · rw [List.length_set]
    have : (fun j => homeA ((v.aL.set i x).getD j dA).addr) = fun j => homeA (v.aL.getD j dA).addr := by
      funext j; rw [getD_set h]; split <;> rename_i hh; rw [hx, hh]; rfl
    rw [this]; exact V.atab
  · intro y hy
    rcases mem_set hy with rfl | hy
    · exact hb
    · exact (V.ac y hy).ext he
theorem VOK.modS (V : VOK hi hm eb mc v) (hd : Dj hi hm') (k : KpT 233 hm hm') {i : Nat} {x : ESl} (h : i < v.sL.length) (hx : x.acct = (v.sL.getD i dS).acct) (hx2 : x.key = (v.sL.getD i dS).key) (sT : ArrT hm' 233 v.sS 14 ((v.sL.set i x).map slCells)) (cok : COK { v.core with sL := v.sL.set i x }) : VOK hi hm' eb mc { v with sL := v.sL.set i x } := by
  have h1 := V.setS (Ext.refl hi) hd k (s' := v.sS) (sL' := v.sL.set i x) (tab' := v.stab) sT ?_ cok
  · have hb : hm' eb = some (fnv 27024 (eC mc v), 101) := k _ _ _ (by decide) V.blk
    rw [show hput hm' eb (fnv 27024 (eC mc { v with sS := v.sS, sL := v.sL.set i x, stab := v.stab }), 101) = hm' from hput_id hb] at h1
    exact h1
  · rw [List.length_set]
    have : (fun j => mixS ((v.sL.set i x).getD j dS).acct ((v.sL.set i x).getD j dS).key.toNat % 4096) = fun j => mixS (v.sL.getD j dS).acct (v.sL.getD j dS).key.toNat % 4096 := by
      funext j; rw [getD_set h]; split <;> rename_i hh; rw [hx, hx2, hh]; rfl
    rw [this]; exact V.stab
theorem VOK.modT (V : VOK hi hm eb mc v) (hd : Dj hi hm') (k : KpT 401 hm hm') {i : Nat} {x : ET} (h : i < v.tL.length) (hx : x.acct = (v.tL.getD i dT).acct) (hx2 : x.key = (v.tL.getD i dT).key) (tT : ArrT hm' 401 v.tS 9 ((v.tL.set i x).map tpCells)) (cok : COK { v.core with tL := v.tL.set i x }) : VOK hi hm' eb mc { v with tL := v.tL.set i x } := by
  have hb : hm' eb = some (fnv 27024 (eC mc v), 101) := k _ _ _ (by decide) V.blk
  refine ⟨hd, hb, V.aT.kp k (by decide), V.sT.kp k (by decide), V.jT.kp k (by decide), V.lT.kp k (by decide), tT, ?_, V.atab, V.stab, V.ac, V.jc, cok⟩
  rcases V.ttT with h1 | ⟨m, h1, h2, h3⟩
  · refine .inl ⟨h1.1, ?_⟩
    show v.tL.set i x = []
    rw [h1.2] at h; exact absurd h (by simp)
  · refine .inr ⟨m, h1, k _ _ _ (by decide) h2, ?_⟩
    have : (fun j => mixS ((v.tL.set i x).getD j dT).acct ((v.tL.set i x).getD j dT).key.toNat % 16384) = fun j => mixS (v.tL.getD j dT).acct (v.tL.getD j dT).key.toNat % 16384 := by
      funext j; rw [getD_set h]; split <;> rename_i hh; rw [hx, hx2, hh]; rfl
    dsimp only
    rw [List.length_set, this]; exact h3
/-- A change of the journal. -/
theorem VOK.setJ (V : VOK hi hm eb mc v) (hd : Dj hi hm') (k : KpT 250 hm hm') {s' : Sl} {jL' : List EJ} (jT : ArrT hm' 250 s' 9 (jL'.map jCells)) (jc : ∀ x ∈ jL', BytS hi x.bs x.b) (cok : COK { v.core with jL := jL' }) :
    VOK hi (hput hm' eb (fnv 27024 (eC mc { v with jS := s', jL := jL' }), 101)) eb mc { v with jS := s', jL := jL' } := by
  have hb : hm' eb = some (fnv 27024 (eC mc v), 101) := k _ _ _ (by decide) V.blk
  have kp : KpT 101 hm' (hput hm' eb (fnv 27024 (eC mc { v with jS := s', jL := jL' }), 101)) := KpT.put hb
  refine ⟨hd.put hb, hput_same .., (V.aT.kp k (by decide)).kp kp (by decide), (V.sT.kp k (by decide)).kp kp (by decide), jT.kp kp (by decide), (V.lT.kp k (by decide)).kp kp (by decide), (V.tT.kp k (by decide)).kp kp (by decide), ?_, V.atab, V.stab, V.ac, jc, cok⟩
  rcases V.ttT with h1 | ⟨m, h1, h2, h3⟩
  · exact .inl h1
  · exact .inr ⟨m, h1, kp _ _ _ (by decide) (k _ _ _ (by decide) h2), h3⟩
end
end Go.Proofs.YgvalwGreat.X
