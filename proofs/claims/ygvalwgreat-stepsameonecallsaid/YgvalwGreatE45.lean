import Derived.Test.YgvalwGreatEB
set_option linter.unusedVariables false
set_option linter.unusedSimpArgs false
namespace Go.Proofs.YgvalwGreat.X
open Go

/-- WHAT A VAULT MEANS: the abstract world. -/
def gA (c : VCore) (a : List Int) : EA := match idxA c.aL a with
  | some i => c.aL.getD i dA
  | none => zA a
def gS (c : VCore) (a : List Int) (k : Int) : ESl := match idxA c.aL a with
  | some i => (match idxS c.sL i k with
    | some j => c.sL.getD j dS
    | none => dS)
  | none => dS
def gT (c : VCore) (a : List Int) (k : Int) : ET := match idxA c.aL a with
  | some i => (match idxT c.tL i k with
    | some j => c.tL.getD j dT
    | none => dT)
  | none => dT
def absC (c : VCore) : AW := ⟨fun a => ⟨(gA c a).nonce, (gA c a).bal, (gA c a).code, fun k => (gS c a k).val⟩, fun a => (gA c a).warm, fun a k => (gS c a k).warm, c.ref, c.nl, fun a k => (gT c a k).val, fun a => (gA c a).made, fun a => (gA c a).gone⟩
section
variable {c c' : VCore} {a b : List Int} {i j : Nat} {k : Int}
theorem getDm {α : Type} {l : List α} {d : α} {i : Nat} (h : i < l.length) : l.getD i d ∈ l := by
  rw [List.getD_eq_getElem?_getD, List.getElem?_eq_getElem h]; exact List.getElem_mem h
theorem getD_set {α : Type} {l : List α} {d x : α} {i : Nat} (h : i < l.length) (j : Nat) : (l.set i x).getD j d = if j = i then x else l.getD j d := by
  rw [List.getD_eq_getElem?_getD, List.getD_eq_getElem?_getD]
  by_cases hj : j = i
  · subst hj; rw [if_pos rfl, List.getElem?_set_self h]; rfl
  · rw [if_neg hj, List.getElem?_set_ne (Ne.symm hj)]
theorem idxA_is (C : COK c) (h : i < c.aL.length) (ha : (c.aL.getD i dA).addr = a) : idxA c.aL a = some i :=
  idx_some h (decide_eq_true ha) fun j hj hp => C.adis j i hj h ((of_decide_eq_true hp).trans ha.symm)
theorem idxA_get (h : idxA c.aL a = some i) : i < c.aL.length ∧ (c.aL.getD i dA).addr = a := ⟨(idx_get (d := dA) h).1, of_decide_eq_true (idx_get (d := dA) h).2⟩
theorem idxA_no (h : idxA c.aL a = none) : ∀ j, j < c.aL.length → (c.aL.getD j dA).addr ≠ a := fun j hj => of_decide_eq_false (idx_no (d := dA) h j hj)
theorem idxS_is (C : COK c) (h : j < c.sL.length) (h1 : (c.sL.getD j dS).acct = i) (h2 : (c.sL.getD j dS).key = k) : idxS c.sL i k = some j :=
  idx_some h (decide_eq_true ⟨h1, h2⟩) fun m hm hp => C.sdis m j hm h ((of_decide_eq_true hp).1.trans h1.symm) ((of_decide_eq_true hp).2.trans h2.symm)
theorem idxS_get (h : idxS c.sL i k = some j) : j < c.sL.length ∧ (c.sL.getD j dS).acct = i ∧ (c.sL.getD j dS).key = k := ⟨(idx_get (d := dS) h).1, of_decide_eq_true (idx_get (d := dS) h).2⟩
theorem idxS_no (h : idxS c.sL i k = none) : ∀ j, j < c.sL.length → ¬ ((c.sL.getD j dS).acct = i ∧ (c.sL.getD j dS).key = k) := fun j hj => of_decide_eq_false (idx_no (d := dS) h j hj)
theorem idxT_is (C : COK c) (h : j < c.tL.length) (h1 : (c.tL.getD j dT).acct = i) (h2 : (c.tL.getD j dT).key = k) : idxT c.tL i k = some j :=
  idx_some h (decide_eq_true ⟨h1, h2⟩) fun m hm hp => C.tdis m j hm h ((of_decide_eq_true hp).1.trans h1.symm) ((of_decide_eq_true hp).2.trans h2.symm)
theorem idxT_get (h : idxT c.tL i k = some j) : j < c.tL.length ∧ (c.tL.getD j dT).acct = i ∧ (c.tL.getD j dT).key = k := ⟨(idx_get (d := dT) h).1, of_decide_eq_true (idx_get (d := dT) h).2⟩
theorem idxT_no (h : idxT c.tL i k = none) : ∀ j, j < c.tL.length → ¬ ((c.tL.getD j dT).acct = i ∧ (c.tL.getD j dT).key = k) := fun j hj => of_decide_eq_false (idx_no (d := dT) h j hj)
/-- Names: what the places of the arenas stand for; they never change. -/
structure Nm (c c' : VCore) : Prop where
  a : ∀ i, i < c.aL.length → i < c'.aL.length ∧ (c'.aL.getD i dA).addr = (c.aL.getD i dA).addr
  s : ∀ i, i < c.sL.length → i < c'.sL.length ∧ (c'.sL.getD i dS).acct = (c.sL.getD i dS).acct ∧ (c'.sL.getD i dS).key = (c.sL.getD i dS).key
  t : ∀ i, i < c.tL.length → i < c'.tL.length ∧ (c'.tL.getD i dT).acct = (c.tL.getD i dT).acct ∧ (c'.tL.getD i dT).key = (c.tL.getD i dT).key
theorem Nm.of_eq (h1 : c'.aL = c.aL) (h2 : c'.sL = c.sL) (h3 : c'.tL = c.tL) : Nm c c' := ⟨fun i h => by rw [h1]; exact ⟨h, rfl⟩, fun i h => by rw [h2]; exact ⟨h, rfl, rfl⟩, fun i h => by rw [h3]; exact ⟨h, rfl, rfl⟩⟩
theorem Nm.trans {c'' : VCore} (h1 : Nm c c') (h2 : Nm c' c'') : Nm c c'' :=
  ⟨fun i h => ⟨(h2.a i (h1.a i h).1).1, (h2.a i (h1.a i h).1).2.trans (h1.a i h).2⟩, fun i h => ⟨(h2.s i (h1.s i h).1).1, (h2.s i (h1.s i h).1).2.1.trans (h1.s i h).2.1, (h2.s i (h1.s i h).1).2.2.trans (h1.s i h).2.2⟩,
   fun i h => ⟨(h2.t i (h1.t i h).1).1, (h2.t i (h1.t i h).1).2.1.trans (h1.t i h).2.1, (h2.t i (h1.t i h).1).2.2.trans (h1.t i h).2.2⟩⟩
theorem Nm.setA {x : EA} (h : i < c.aL.length) (hx : x.addr = (c.aL.getD i dA).addr) : Nm c { c with aL := c.aL.set i x } :=
  ⟨fun j hj => ⟨by show j < (c.aL.set i x).length; rw [List.length_set]; exact hj, by show ((c.aL.set i x).getD j dA).addr = _; rw [getD_set h]; split <;> rename_i hh; rw [hx, hh]; rfl⟩, fun j hj => ⟨hj, rfl, rfl⟩, fun j hj => ⟨hj, rfl, rfl⟩⟩
theorem Nm.setS {x : ESl} (h : i < c.sL.length) (hx : x.acct = (c.sL.getD i dS).acct) (hx2 : x.key = (c.sL.getD i dS).key) : Nm c { c with sL := c.sL.set i x } :=
  ⟨fun j hj => ⟨hj, rfl⟩, fun j hj => ⟨by show j < (c.sL.set i x).length; rw [List.length_set]; exact hj, by show ((c.sL.set i x).getD j dS).acct = _; rw [getD_set h]; split <;> rename_i hh; rw [hx, hh]; rfl, by show ((c.sL.set i x).getD j dS).key = _; rw [getD_set h]; split <;> rename_i hh; rw [hx2, hh]; rfl⟩, fun j hj => ⟨hj, rfl, rfl⟩⟩
theorem Nm.setT {x : ET} (h : i < c.tL.length) (hx : x.acct = (c.tL.getD i dT).acct) (hx2 : x.key = (c.tL.getD i dT).key) : Nm c { c with tL := c.tL.set i x } :=
  ⟨fun j hj => ⟨hj, rfl⟩, fun j hj => ⟨hj, rfl, rfl⟩, fun j hj => ⟨by show j < (c.tL.set i x).length; rw [List.length_set]; exact hj, by show ((c.tL.set i x).getD j dT).acct = _; rw [getD_set h]; split <;> rename_i hh; rw [hx, hh]; rfl, by show ((c.tL.set i x).getD j dT).key = _; rw [getD_set h]; split <;> rename_i hh; rw [hx2, hh]; rfl⟩⟩
theorem Nm.addA {x : EA} : Nm c { c with aL := c.aL ++ [x] } := ⟨fun j hj => ⟨by show j < (c.aL ++ [x]).length; simp; omega, by show ((c.aL ++ [x]).getD j dA).addr = _; rw [getDa hj]⟩, fun j hj => ⟨hj, rfl, rfl⟩, fun j hj => ⟨hj, rfl, rfl⟩⟩
theorem Nm.addS {x : ESl} : Nm c { c with sL := c.sL ++ [x] } := ⟨fun j hj => ⟨hj, rfl⟩, fun j hj => ⟨by show j < (c.sL ++ [x]).length; simp; omega, by show ((c.sL ++ [x]).getD j dS).acct = _; rw [getDa hj], by show ((c.sL ++ [x]).getD j dS).key = _; rw [getDa hj]⟩, fun j hj => ⟨hj, rfl, rfl⟩⟩
theorem Nm.addT {x : ET} : Nm c { c with tL := c.tL ++ [x] } := ⟨fun j hj => ⟨hj, rfl⟩, fun j hj => ⟨hj, rfl, rfl⟩, fun j hj => ⟨by show j < (c.tL ++ [x]).length; simp; omega, by show ((c.tL ++ [x]).getD j dT).acct = _; rw [getDa hj], by show ((c.tL ++ [x]).getD j dT).key = _; rw [getDa hj]⟩⟩
/-- Names decide where an address lies. -/
theorem Nm.idxA (C' : COK c') (n : Nm c c') (h : idxA c.aL a = some i) : idxA c'.aL a = some i :=
  idxA_is C' (n.a i (idxA_get h).1).1 ((n.a i (idxA_get h).1).2.trans (idxA_get h).2)
theorem Nm.idxS (C' : COK c') (n : Nm c c') (h : idxS c.sL i k = some j) : idxS c'.sL i k = some j :=
  idxS_is C' (n.s j (idxS_get h).1).1 ((n.s j (idxS_get h).1).2.1.trans (idxS_get h).2.1) ((n.s j (idxS_get h).1).2.2.trans (idxS_get h).2.2)
theorem Nm.idxT (C' : COK c') (n : Nm c c') (h : idxT c.tL i k = some j) : idxT c'.tL i k = some j :=
  idxT_is C' (n.t j (idxT_get h).1).1 ((n.t j (idxT_get h).1).2.1.trans (idxT_get h).2.1) ((n.t j (idxT_get h).1).2.2.trans (idxT_get h).2.2)
theorem idxA_same (C' : COK c') (n : Nm c c') (hl : c'.aL.length = c.aL.length) : idxA c'.aL a = idxA c.aL a := by
  cases h : idxA c.aL a with
  | some i => exact n.idxA C' h
  | none =>
    refine idx_none (d := dA) fun j hj => decide_eq_false ?_
    have h2 := n.a j (by omega)
    rw [h2.2]; exact idxA_no h j (by omega)
theorem idxS_same (C' : COK c') (n : Nm c c') (hl : c'.sL.length = c.sL.length) : idxS c'.sL i k = idxS c.sL i k := by
  cases h : idxS c.sL i k with
  | some i => exact n.idxS C' h
  | none =>
    refine idx_none (d := dS) fun j hj => decide_eq_false ?_
    have h2 := n.s j (by omega)
    rw [h2.2.1, h2.2.2]; exact idxS_no h j (by omega)
theorem idxT_same (C' : COK c') (n : Nm c c') (hl : c'.tL.length = c.tL.length) : idxT c'.tL i k = idxT c.tL i k := by
  cases h : idxT c.tL i k with
  | some i => exact n.idxT C' h
  | none =>
    refine idx_none (d := dT) fun j hj => decide_eq_false ?_
    have h2 := n.t j (by omega)
    rw [h2.2.1, h2.2.2]; exact idxT_no h j (by omega)
/-- Laying an empty account changes nothing. -/
theorem abs_addA (C : COK c) (C' : COK { c with aL := c.aL ++ [zA b] }) (hn : idxA c.aL b = none) : absC { c with aL := c.aL ++ [zA b] } = absC c := by
  have key : ∀ a, (gA { c with aL := c.aL ++ [zA b] } a = gA c a) ∧ (∀ k, gS { c with aL := c.aL ++ [zA b] } a k = gS c a k) ∧ (∀ k, gT { c with aL := c.aL ++ [zA b] } a k = gT c a k) := by
    intro a
    cases h : idxA c.aL a with
    | some i =>
      have h2 : idxA (c.aL ++ [zA b]) a = some i := Nm.idxA C' Nm.addA h
      have h3 := (idxA_get h).1
      unfold gA gS gT
      dsimp only
      rw [h, h2]
      exact ⟨getDa h3, fun _ => rfl, fun _ => rfl⟩
    | none =>
      by_cases hab : a = b
      · subst hab
        have h2 : idxA (c.aL ++ [zA a]) a = some c.aL.length := idxA_is (c := { c with aL := c.aL ++ [zA a] }) C' (by simp) (by dsimp only; rw [getDl]; rfl)
        unfold gA gS gT
        dsimp only
        rw [h, h2]
        refine ⟨getDl, fun k => ?_, fun k => ?_⟩
        · dsimp only
          rw [show idxS c.sL c.aL.length k = none from idx_none (d := dS) fun j hj => decide_eq_false fun hh => by
            have := (C.swf _ (getDm (d := dS) hj)).1; omega]
        · dsimp only
          rw [show idxT c.tL c.aL.length k = none from idx_none (d := dT) fun j hj => decide_eq_false fun hh => by
            have := (C.twf _ (getDm (d := dT) hj)).1; omega]
      · have h2 : idxA (c.aL ++ [zA b]) a = none := idx_none (d := dA) fun j hj => decide_eq_false (by
          rw [List.length_append, List.length_singleton] at hj
          by_cases hj2 : j = c.aL.length
          · rw [hj2, getDl]; exact fun hh => hab hh.symm
          · rw [getDa (by omega)]; exact idxA_no h j (by omega))
        unfold gA gS gT
        dsimp only
        rw [h, h2]
        exact ⟨rfl, fun _ => rfl, fun _ => rfl⟩
  unfold absC
  simp only [fun a => (key a).1, fun a => (key a).2.1, fun a => (key a).2.2]
theorem abs_addS (C' : COK { c with sL := c.sL ++ [zS i k] }) (hn : idxS c.sL i k = none) : absC { c with sL := c.sL ++ [zS i k] } = absC c := by
  have key : ∀ a q, (gS { c with sL := c.sL ++ [zS i k] } a q).val = (gS c a q).val ∧ (gS { c with sL := c.sL ++ [zS i k] } a q).warm = (gS c a q).warm := by
    intro a q
    unfold gS
    dsimp only
    cases h : idxA c.aL a with
    | none => exact ⟨rfl, rfl⟩
    | some m =>
      dsimp only
      cases h2 : idxS c.sL m q with
      | some j =>
        rw [show idxS (c.sL ++ [zS i k]) m q = some j from Nm.idxS C' Nm.addS h2]
        dsimp only
        rw [getDa (idxS_get h2).1]
        exact ⟨rfl, rfl⟩
      | none =>
        by_cases hh : i = m ∧ k = q
        · obtain ⟨rfl, rfl⟩ := hh
          rw [show idxS (c.sL ++ [zS i k]) i k = some c.sL.length from idxS_is (c := { c with sL := c.sL ++ [zS i k] }) C' (by simp) (by dsimp only; rw [getDl]; rfl) (by dsimp only; rw [getDl]; rfl)]
          dsimp only
          rw [getDl]
          exact ⟨rfl, rfl⟩
        · rw [show idxS (c.sL ++ [zS i k]) m q = none from idx_none (d := dS) fun j hj => decide_eq_false (by
            rw [List.length_append, List.length_singleton] at hj
            by_cases hj2 : j = c.sL.length
            · rw [hj2, getDl]; exact hh
            · rw [getDa (by omega)]; exact idxS_no h2 j (by omega))]
          exact ⟨rfl, rfl⟩
  unfold absC
  simp only [fun a q => (key a q).1, fun a q => (key a q).2]
  rfl
theorem abs_addT (C' : COK { c with tL := c.tL ++ [zT i k] }) (hn : idxT c.tL i k = none) : absC { c with tL := c.tL ++ [zT i k] } = absC c := by
  have key : ∀ a q, (gT { c with tL := c.tL ++ [zT i k] } a q).val = (gT c a q).val := by
    intro a q
    unfold gT
    dsimp only
    cases h : idxA c.aL a with
    | none => rfl
    | some m =>
      dsimp only
      cases h2 : idxT c.tL m q with
      | some j =>
        rw [show idxT (c.tL ++ [zT i k]) m q = some j from Nm.idxT C' Nm.addT h2]
        dsimp only
        rw [getDa (idxT_get h2).1]
      | none =>
        by_cases hh : i = m ∧ k = q
        · obtain ⟨rfl, rfl⟩ := hh
          rw [show idxT (c.tL ++ [zT i k]) i k = some c.tL.length from idxT_is (c := { c with tL := c.tL ++ [zT i k] }) C' (by simp) (by dsimp only; rw [getDl]; rfl) (by dsimp only; rw [getDl]; rfl)]
          dsimp only
          rw [getDl]
          rfl
        · rw [show idxT (c.tL ++ [zT i k]) m q = none from idx_none (d := dT) fun j hj => decide_eq_false (by
            rw [List.length_append, List.length_singleton] at hj
            by_cases hj2 : j = c.tL.length
            · rw [hj2, getDl]; exact hh
            · rw [getDa (by omega)]; exact idxT_no h2 j (by omega))]
  unfold absC
  simp only [fun a q => key a q]
  rfl
/-- Setters on the abstract world. -/
def putW (w : AW) (a : List Int) (x : EA) : AW := { w with acct := updA w.acct a ⟨x.nonce, x.bal, x.code, (w.acct a).slot⟩, warmA := fun b => if b = a then x.warm else w.warmA b, made := fun b => if b = a then x.made else w.made b, gone := fun b => if b = a then x.gone else w.gone b }
def putSW (w : AW) (a : List Int) (k v : Int) (b : Bool) : AW := { w with acct := updA w.acct a { w.acct a with slot := updS (w.acct a).slot k v }, warmS := fun x q => if x = a ∧ q = k then b else w.warmS x q }
theorem abs_setA {x : EA} (C' : COK { c with aL := c.aL.set i x }) (h : i < c.aL.length) (hx : x.addr = (c.aL.getD i dA).addr) : absC { c with aL := c.aL.set i x } = putW (absC c) x.addr x := by
  have hid : ∀ a, idxA (c.aL.set i x) a = idxA c.aL a := fun a => idxA_same C' (Nm.setA h hx) (by show (c.aL.set i x).length = _; rw [List.length_set])
  have key : ∀ a, gA { c with aL := c.aL.set i x } a = if a = x.addr then x else gA c a := by
    intro a
    unfold gA
    dsimp only
    cases h2 : idxA c.aL a with
    | some j =>
      rw [hid, h2]
      dsimp only
      rw [getD_set h]
      have h3 := idxA_get h2
      by_cases hj : j = i
      · subst hj; rw [if_pos rfl, if_pos (h3.2.symm.trans hx.symm)]
      · rw [if_neg hj, if_neg]
        intro ha
        have h4 := hid a
        rw [h2] at h4
        have h5 := idxA_is (c := { c with aL := c.aL.set i x }) (i := i) C' (by show i < (c.aL.set i x).length; rw [List.length_set]; exact h) (a := a) (by show ((c.aL.set i x).getD i dA).addr = a; rw [getD_set h, if_pos rfl]; exact ha.symm)
        rw [show idxA ({ c with aL := c.aL.set i x } : VCore).aL a = idxA (c.aL.set i x) a from rfl, h4] at h5
        injection h5 with h5
        exact hj h5
    | none =>
      rw [hid, h2]
      dsimp only
      rw [if_neg]
      intro ha
      exact idxA_no h2 i h (hx.symm.trans ha.symm)
  have kS : ∀ a q, gS { c with aL := c.aL.set i x } a q = gS c a q := fun a q => by unfold gS; dsimp only; rw [hid]
  have kT : ∀ a q, gT { c with aL := c.aL.set i x } a q = gT c a q := fun a q => by unfold gT; dsimp only; rw [hid]
  unfold absC putW updA
  simp only [key, kS, kT]
  congr 1
  · funext b; split <;> rename_i hb
    · subst hb; rfl
    · rfl
  · funext b; split <;> rfl
  · funext b; split <;> rfl
  · funext b; split <;> rfl
theorem abs_setS {x : ESl} (C : COK c) (C' : COK { c with sL := c.sL.set i x }) (h : i < c.sL.length) (hx : x.acct = (c.sL.getD i dS).acct) (hx2 : x.key = (c.sL.getD i dS).key) : absC { c with sL := c.sL.set i x } = putSW (absC c) (c.aL.getD x.acct dA).addr x.key x.val x.warm := by
  have hid : ∀ m q, idxS (c.sL.set i x) m q = idxS c.sL m q := fun m q => idxS_same C' (Nm.setS h hx hx2) (by show (c.sL.set i x).length = _; rw [List.length_set])
  have hac : x.acct < c.aL.length := by rw [hx]; exact (C.swf _ (getDm h)).1
  have key : ∀ a q, gS { c with sL := c.sL.set i x } a q = if a = (c.aL.getD x.acct dA).addr ∧ q = x.key then x else gS c a q := by
    intro a q
    unfold gS
    dsimp only
    cases h2 : idxA c.aL a with
    | none => rw [if_neg]; exact fun hh => idxA_no h2 _ hac hh.1.symm
    | some m =>
      have h3 := idxA_get h2
      dsimp only
      rw [hid]
      by_cases hh : a = (c.aL.getD x.acct dA).addr ∧ q = x.key
      · have hm : m = x.acct := C.adis m x.acct h3.1 hac (h3.2.trans hh.1)
        have h5 : idxS c.sL m q = some i := idxS_is C h (by rw [hm, hx]) (by rw [hh.2, hx2])
        rw [h5, if_pos hh]
        dsimp only
        rw [getD_set h, if_pos rfl]
      · rw [if_neg hh]
        cases h4 : idxS c.sL m q with
        | none => rfl
        | some j =>
          dsimp only
          rw [getD_set h, if_neg]
          intro hj
          have h5 := idxS_get h4
          subst hj
          refine hh ⟨?_, ?_⟩
          · rw [hx, h5.2.1, h3.2]
          · rw [hx2, h5.2.2]
  have kA : ∀ a, gA { c with sL := c.sL.set i x } a = gA c a := fun a => rfl
  have kT : ∀ a q, gT { c with sL := c.sL.set i x } a q = gT c a q := fun a q => rfl
  unfold absC putSW updA updS
  simp only [key, kA, kT]
  congr 1
  · funext b; split <;> rename_i hb
    · subst hb
      congr 1
      funext q
      by_cases hq : q = x.key
      · rw [if_pos ⟨rfl, hq⟩, if_pos hq]
      · rw [if_neg (fun hh => hq hh.2), if_neg hq]
    · congr 1
      funext q
      rw [if_neg (fun hh => hb hh.1)]
  · funext b q; split <;> rfl
theorem abs_setT {x : ET} (C : COK c) (C' : COK { c with tL := c.tL.set i x }) (h : i < c.tL.length) (hx : x.acct = (c.tL.getD i dT).acct) (hx2 : x.key = (c.tL.getD i dT).key) : absC { c with tL := c.tL.set i x } = tempW (absC c) (c.aL.getD x.acct dA).addr x.key x.val := by
  have hid : ∀ m q, idxT (c.tL.set i x) m q = idxT c.tL m q := fun m q => idxT_same C' (Nm.setT h hx hx2) (by show (c.tL.set i x).length = _; rw [List.length_set])
  have hac : x.acct < c.aL.length := by rw [hx]; exact (C.twf _ (getDm h)).1
  have key : ∀ a q, gT { c with tL := c.tL.set i x } a q = if a = (c.aL.getD x.acct dA).addr ∧ q = x.key then x else gT c a q := by
    intro a q
    unfold gT
    dsimp only
    cases h2 : idxA c.aL a with
    | none => rw [if_neg]; exact fun hh => idxA_no h2 _ hac hh.1.symm
    | some m =>
      have h3 := idxA_get h2
      dsimp only
      rw [hid]
      by_cases hh : a = (c.aL.getD x.acct dA).addr ∧ q = x.key
      · have hm : m = x.acct := C.adis m x.acct h3.1 hac (h3.2.trans hh.1)
        have h5 : idxT c.tL m q = some i := idxT_is C h (by rw [hm, hx]) (by rw [hh.2, hx2])
        rw [h5, if_pos hh]
        dsimp only
        rw [getD_set h, if_pos rfl]
      · rw [if_neg hh]
        cases h4 : idxT c.tL m q with
        | none => rfl
        | some j =>
          dsimp only
          rw [getD_set h, if_neg]
          intro hj
          have h5 := idxT_get h4
          subst hj
          refine hh ⟨?_, ?_⟩
          · rw [hx, h5.2.1, h3.2]
          · rw [hx2, h5.2.2]
  have kA : ∀ a, gA { c with tL := c.tL.set i x } a = gA c a := fun a => rfl
  have kS : ∀ a q, gS { c with tL := c.tL.set i x } a q = gS c a q := fun a q => rfl
  unfold absC tempW
  simp only [key, kA, kS]
  congr 1
  funext b q; split <;> rfl
end
end Go.Proofs.YgvalwGreat.X
