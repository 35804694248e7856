import Derived.Test.YgvalwGreatF54
set_option linter.unusedVariables false
set_option linter.unusedSimpArgs false
namespace Go.Proofs.YgvalwGreat.X
open Go

/-- THE ABSTRACT WORLD: lookups alone. -/
structure AA where
  nonce : Int
  bal : Int
  code : List Int
  slot : Int → Int
structure AW where
  acct : List Int → AA
  warmA : List Int → Bool
  warmS : List Int → Int → Bool
  ref : Int
  nlogs : Nat
  temp : List Int → Int → Int
  made : List Int → Bool
  gone : List Int → Bool
def absA (x : YAcct) : AA := ⟨x.nonce, x.bal, x.code, fun k => (getS x.slots k).val⟩
def absW (w : YW) : AW :=
  ⟨fun a => absA (getA w.acc a), fun a => decide (a ∈ w.wa), fun a k => hasM w.ws a k, w.ref, w.logs.length, fun a k => (getT w.temps a k).val, fun a => decide (a ∈ w.made), fun a => decide (a ∈ w.gone)⟩
def aa0 : AA := ⟨0, 0, [], fun _ => 0⟩
def updA (f : List Int → AA) (a : List Int) (x : AA) : List Int → AA := fun b => if b = a then x else f b

theorem absA_dfl (a : List Int) : absA (dfl a) = aa0 := by
  unfold absA dfl aa0 getS; simp
theorem absA_lone {x : YAcct} (h : lone x = true) : absA x = aa0 := by
  unfold lone at h
  simp only [Bool.and_eq_true, decide_eq_true_eq] at h
  obtain ⟨⟨h1, h2, h3⟩, h4⟩ := h
  unfold absA aa0 getS
  simp [h1, h2, h3, h4]
theorem absA_put {xs ys : List YAcct} {x : YAcct} (h : PutR xs x (lone x) ys) (b : List Int) : absA (getA ys b) = updA (fun a => absA (getA xs a)) x.addr (absA x) b := by
  unfold updA
  have hf := h.find b
  unfold getA
  rw [hf]
  by_cases hb : b = x.addr
  · rw [if_pos hb, if_pos hb]
    by_cases hl : lone x = true
    · rw [if_pos hl, Option.getD_none, absA_dfl, absA_lone hl]
    · rw [if_neg hl]; rfl
  · rw [if_neg hb, if_neg hb]

theorem find_map {α β : Type} {f : α → β} {p : β → Bool} : ∀ {xs ys : List α}, xs.map f = ys.map f → (xs.find? fun x => p (f x)).map f = (ys.find? fun x => p (f x)).map f
  | [], [], _ => rfl
  | [], _ :: _, h => by simp at h
  | _ :: _, [], h => by simp at h
  | x :: xs, y :: ys, h => by
    simp only [List.map_cons, List.cons.injEq] at h
    have ih := find_map (p := p) h.2
    simp only [List.find?_cons, h.1]
    split
    · simp [h.1]
    · exact ih
theorem getS_map {xs ys : List YSlot} (h : xs.map YSlot.v = ys.map YSlot.v) (k : Int) : (getS xs k).val = (getS ys k).val := by
  have := find_map (f := YSlot.v) (p := fun v => decide (v.1 = k)) h
  have e : ∀ zs : List YSlot, (getS zs k).val = (((zs.find? fun x => decide ((YSlot.v x).1 = k)).map YSlot.v).map Prod.snd).getD 0 := fun zs => by
    unfold getS
    show ((zs.find? fun s => decide (s.key = k)).getD _).val = (((zs.find? fun s => decide (s.key = k)).map YSlot.v).map Prod.snd).getD 0
    cases zs.find? fun s => decide (s.key = k) <;> rfl
  rw [e, e, this]
theorem absA_v {x y : YAcct} (h : x.v = y.v) : absA x = absA y := by
  unfold YAcct.v at h
  simp only [AV.mk.injEq] at h
  obtain ⟨h1, h2, h3, h4, h5⟩ := h
  unfold absA
  rw [h2, h3, h4]
  congr 1
  funext k
  exact getS_map h5 k
theorem getA_map {xs ys : List YAcct} (h : xs.map YAcct.v = ys.map YAcct.v) (a : List Int) : absA (getA xs a) = absA (getA ys a) := by
  have := find_map (f := YAcct.v) (p := fun v => decide (v.addr = a)) h
  apply absA_v
  have e : ∀ zs : List YAcct, (getA zs a).v = (((zs.find? fun x => decide ((YAcct.v x).addr = a)).map YAcct.v)).getD (dfl a).v := fun zs => by
    unfold getA
    show ((zs.find? fun s => decide (s.addr = a)).getD _).v = ((zs.find? fun s => decide (s.addr = a)).map YAcct.v).getD _
    cases zs.find? fun s => decide (s.addr = a) <;> rfl
  rw [e, e, this]
theorem getT_map {xs ys : List YTemp} (h : xs.map YTemp.v = ys.map YTemp.v) (a : List Int) (k : Int) : (getT xs a k).val = (getT ys a k).val := by
  have := find_map (f := YTemp.v) (p := fun v => decide ((v.1, v.2.1) = (a, k))) h
  have e : ∀ zs : List YTemp, (getT zs a k).val = (((zs.find? fun x => decide (((YTemp.v x).1, (YTemp.v x).2.1) = (a, k))).map YTemp.v).map fun v => v.2.2).getD 0 := fun zs => by
    unfold getT
    show ((zs.find? fun s => decide (s.id = (a, k))).getD _).val = (((zs.find? fun s => decide (s.id = (a, k))).map YTemp.v).map fun v => v.2.2).getD 0
    cases zs.find? fun s => decide (s.id = (a, k)) <;> rfl
  rw [e, e, this]
theorem hasM_map {xs ys : List YMark} (h : xs.map YMark.id = ys.map YMark.id) (a : List Int) (k : Int) : hasM xs a k = hasM ys a k := by
  have e : ∀ zs : List YMark, hasM zs a k = (zs.map YMark.id).any fun v => decide (v = (a, k)) := fun zs => by
    unfold hasM
    rw [List.any_map]
    congr 1
    funext x
    simp [YMark.id]
  rw [e, e, h]
theorem absW_same {w w' : YW} (h : w.same w') : absW w' = absW w := by
  unfold absW
  rw [h.wa, h.ref, h.logs, h.made, h.gone]
  congr 1
  · funext a; exact getA_map h.acc a
  · funext a k; exact hasM_map h.ws a k
  · funext a k; exact getT_map h.temps a k

/-- A slot set. -/
def updS (f : Int → Int) (k v : Int) : Int → Int := fun j => if j = k then v else f j
theorem getS_ins {xs ys : List YSlot} {x : YSlot} (h : InsR YSlot.key xs x (decide (x.val = 0)) ys) (j : Int) : (getS ys j).val = updS (fun j => (getS xs j).val) x.key x.val j := by
  unfold updS
  have hf := h.find j
  unfold getS
  rw [hf]
  by_cases hj : j = x.key
  · rw [if_pos hj, if_pos hj]
    by_cases hv : x.val = 0
    · simp [hv]
    · simp [hv]
  · rw [if_neg hj, if_neg hj]
theorem getT_ins {xs ys : List YTemp} {x : YTemp} (h : InsR YTemp.id xs x (decide (x.val = 0)) ys) (a : List Int) (j : Int) : (getT ys a j).val = if a = x.addr ∧ j = x.key then x.val else (getT xs a j).val := by
  have hf := h.find (a, j)
  unfold getT
  rw [hf]
  by_cases hj : a = x.addr ∧ j = x.key
  · rw [if_pos hj, if_pos (by simp [YTemp.id, hj.1, hj.2])]
    by_cases hv : x.val = 0
    · simp [hv]
    · simp [hv]
  · rw [if_neg hj, if_neg (by simpa [YTemp.id] using hj)]
theorem hasM_ins {xs ys : List YMark} {x : YMark} (h : InsR YMark.id xs x false ys) (a : List Int) (j : Int) : hasM ys a j = (hasM xs a j || decide (a = x.addr ∧ j = x.key)) := by
  rw [hasM_find, hasM_find, h.find (a, j)]
  by_cases hj : a = x.addr ∧ j = x.key
  · rw [if_pos (by simp [YMark.id, hj.1, hj.2])]
    simp [hj]
  · rw [if_neg (by simpa [YMark.id] using hj)]
    simp [hj]
theorem mem_with {az az' : List (List Int)} {a : List Int} (h : ∀ b, b ∈ az' ↔ b ∈ az ∨ b = a) (b : List Int) : decide (b ∈ az') = (decide (b ∈ az) || decide (b = a)) := by
  rw [Bool.eq_iff_iff]; simp [h]
end Go.Proofs.YgvalwGreat.X
