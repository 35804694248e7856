import Derived.Test.YgvalwGreatF33
set_option linter.unusedVariables false
set_option linter.unusedSimpArgs false
namespace Go.Proofs.YgvalwGreat.X
open Go

/-- The list behind an insertion by a key: 'e' tells whether the record is left out. -/
structure InsR {α κ : Type} [DecidableEq κ] (key : α → κ) (xs : List α) (x : α) (e : Bool) (ys : List α) : Prop where
  find : ∀ b, (ys.find? fun y => key y = b) = if b = key x then (if e then none else some x) else (xs.find? fun y => key y = b)
  mem : ∀ y ∈ ys, y = x ∨ y ∈ xs
  len : ys.length ≤ xs.length + 1
structure InsI {α κ : Type} [DecidableEq κ] (key : α → κ) (xs : List α) (x : α) (e : Bool) (i : Nat) (laid : Bool) (bz : List α) : Prop where
  find : ∀ b, (bz.find? fun y => key y = b) = if b = key x then (if laid && !e then some x else none) else ((xs.take i).find? fun y => key y = b)
  mem : ∀ y ∈ bz, y = x ∨ y ∈ xs
  len : bz.length ≤ i + (if laid && !e then 1 else 0)
  el : e = true → laid = true
section
variable {α κ : Type} [DecidableEq κ] {key : α → κ} {xs : List α} {x y : α} {e laid : Bool} {i : Nat} {bz : List α}
theorem InsI.zero : InsI key xs x e 0 e [] := ⟨fun b => (by cases e <;> simp), fun y hy => (by cases hy), (by simp), id⟩
theorem InsI.ins (p : InsI key xs x e i false bz) : InsI key xs x e i true (bz ++ [x]) := by
  have he : e = false := by cases e with | false => rfl | true => exact absurd (p.el rfl) (by decide)
  subst he
  refine ⟨fun b => ?_, fun y hy => ?_, ?_, fun h => by cases h⟩
  · rw [List.find?_append, p.find]
    by_cases hb : b = key x
    · subst hb; simp
    · have hb' : key x ≠ b := fun h => hb h.symm
      simp [hb, hb']
  · rcases List.mem_append.1 hy with h1 | h1
    · exact p.mem y h1
    · exact .inl (List.mem_singleton.1 h1)
  · have := p.len
    simp at this ⊢; omega
theorem InsI.keep (p : InsI key xs x e i laid bz) (hi : i < xs.length) (hy : xs[i] = y) (hne : key y ≠ key x) : InsI key xs x e (i + 1) laid (bz ++ [y]) := by
  refine ⟨fun b => ?_, fun z hz => ?_, ?_, p.el⟩
  · rw [List.find?_append, p.find, List.take_add_one, List.getElem?_eq_getElem hi, hy, List.find?_append]
    by_cases hb : b = key x
    · subst hb; simp [hne]
    · simp [hb]
  · rcases List.mem_append.1 hz with h1 | h1
    · exact p.mem z h1
    · rw [List.mem_singleton.1 h1, ← hy]; exact .inr (List.getElem_mem _)
  · have := p.len
    simp only [List.length_append, List.length_singleton]; omega
theorem InsI.skip (p : InsI key xs x e i laid bz) (hi : i < xs.length) (hy : xs[i] = y) (hne : key y = key x) : InsI key xs x e (i + 1) laid bz := by
  refine ⟨fun b => ?_, p.mem, by have := p.len; omega, p.el⟩
  rw [p.find, List.take_add_one, List.getElem?_eq_getElem hi, hy, List.find?_append]
  by_cases hb : b = key x
  · subst hb; simp
  · have hb' : ¬ (key y = b) := by rw [hne]; exact fun h => hb h.symm
    simp [hb, hb']
theorem InsI.fin (p : InsI key xs x e i true bz) (hi : xs.length ≤ i) (hi2 : i ≤ xs.length) : InsR key xs x e bz := by
  refine ⟨fun b => ?_, p.mem, ?_⟩
  · rw [p.find, List.take_of_length_le hi]
    cases e <;> simp
  · have := p.len
    cases e <;> simp at this <;> omega
end


structure YTemp where
  addr : List Int
  ks : Sl
  vs : Sl
  key : Int
  val : Int
def tempCells (x : YTemp) : List Value := bcells x.addr ++ [sl x.ks, sl x.vs]
structure YTemp.ok (h : Hp) (x : YTemp) : Prop where
  addr : x.addr.length = 20
  key : NtS h x.ks x.key
  val : NtS h x.vs x.val
theorem YTemp.ok.ext {h h' : Hp} (he : Ext h h') {x : YTemp} (a : x.ok h) : x.ok h' := ⟨a.addr, a.key.ext he, a.val.ext he⟩
structure TempL (h : Hp) (s : Sl) (xs : List YTemp) : Prop where
  arr : Arr h s 22 (xs.map tempCells)
  each : ∀ x ∈ xs, x.ok h
theorem TempL.ext {h h' : Hp} (he : Ext h h') {s xs} (a : TempL h s xs) : TempL h' s xs := ⟨a.arr.ext he, fun x hx => (a.each x hx).ext he⟩
theorem TempL.n {h : Hp} {s : Sl} {xs} (a : TempL h s xs) : xs.length = s.2.1 := by have := a.arr.len; simpa using this
theorem tempCells_len {x : YTemp} (hx : x.addr.length = 20) : (tempCells x).length = 22 := by simp [tempCells, bcells, hx]
theorem tempCells_one (x : YTemp) : ones (tempCells x) = true := ones_append (ones_bcells _) rfl
def YTemp.id (x : YTemp) : List Int × Int := (x.addr, x.key)
/-- The transient slot of a key. -/
def getT (xs : List YTemp) (a : List Int) (k : Int) : YTemp := (xs.find? fun x => x.id = (a, k)).getD ⟨a, nilS, nilS, k, 0⟩
theorem getT_ok {h : Hp} {xs : List YTemp} (hs : ∀ s ∈ xs, s.ok h) {a : List Int} {k : Int} : NtS h (getT xs a k).vs (getT xs a k).val := by
  unfold getT
  cases hf : xs.find? fun x => x.id = (a, k) with
  | none => exact Nt_nil h
  | some x => exact (hs x (List.mem_of_find?_eq_some hf)).val

section
variable {h : Hp} {K : Value → Hp → Prop}
set_option maxRecDepth 100000 in
set_option maxHeartbeats 4000000 in
theorem tload_ok {c o : Nat} {cells : List Value} {t : TypeId} {s sk : Sl} {xs : List YTemp} {a : List Int} {k : Int} (hc : h c = some (cells, t)) (ho : cells[o + 5]? = some (sl s)) (hA : TempL h s xs) (ha : a.length = 20) (hr : s.2.1 < 2 ^ 40)
    (hkey : NtS h sk k) (hk : K (sl (getT xs a k).vs) h) : CallX Hval.prog 216 [.pointer (some ⟨c, o, none⟩), .agg (bcells a).toArray, sl sk] h K := by
  refine CallX.of_xf T_ok Hval.func216 rfl (by kernel_rfl) (Nat.le_of_ble_eq_true rfl) ?_; conv => whnf
  have hn := hA.n
  refine BoxX.mk fun m hm => ?_; conv => whnf
  have hE : Ext h (hput h m (bcells a, 31)) := Ext.bd hm
  refine LoadX.blk (hE _ _ hc) (sl s) ho ?_; conv => whnf
  refine LoopX.st T_ok Hval.func216 (σ := Nat) (fun i => [(2, sl sk), (4, .pointer (some ⟨m, 0, none⟩)), (12, sl s), (13, .int .i64 s.2.1), (14, .int .i64 i)])
    (fun i h' => i ≤ s.2.1 ∧ Ext (hput h m (bcells a, 31)) h' ∧ ∀ j, (hj : j < xs.length) → j < i → ¬ (xs[j].addr = a ∧ xs[j].key = k)) (fun i => s.2.1 - i) 0
    ⟨rfl, rfl, rfl, rfl, rfl, trivial⟩ ⟨Nat.zero_le _, Ext.refl _, fun j _ hj => by omega⟩ ?_
  rintro i ρ h' ⟨hi, he, hne⟩ ih
  conv => whnf
  have hA' := hA.ext (hE.trans he)
  have hl1 : h' m = some (bcells a, 31) := he _ _ (hput_same ..)
  refine CondX.decI (fun hc => ?_) (fun hc => ?_) <;> conv => whnf
  · have hc : i < s.2.1 := by omega
    refine IdxX.arr hA'.arr (by omega) (by omega) (by omega) fun b off e => ?_; conv => whnf
    refine LoadX.elt hA'.arr e i rfl hc ?_; conv => whnf
    rw [getD_map (by omega)]
    have hyo := hA.each _ (List.getElem_mem (show i < xs.length by omega))
    generalize hy : xs[i]'(by omega) = y at *
    have ylen := tempCells_len hyo.addr
    have yone := tempCells_one y
    refine BoxX.mk fun m3 hm3 => ?_; conv => whnf
    refine Ob.mk ⟨by rw [List.size_toArray, ylen]; rfl, yone⟩ ?_; conv => whnf
    refine StoreX.same (by rw [List.toList_toArray, ylen]; decide) ?_; conv => whnf
    rw [setSeg_all (by rw [List.toList_toArray, ylen]; rfl)]
    have hE3 := (hE.trans he).trans (Ext.bd (x := (tempCells y, 263)) hm3)
    have hne1 : m ≠ m3 := by have := hm3 _ _ hl1; omega
    refine LoadX.adr (a := y.addr) (r := [sl y.ks, sl y.vs]) (t := 263) (hput_same ..) hyo.addr ?_; conv => whnf
    refine LoadX.arr (l := a) (t := 31) (by rw [hput_ne hne1]; exact hl1) ha ?_; conv => whnf
    refine Ob.mk ⟨by simp [bcells, hyo.addr], by simp [bcells, ha], by simpa using intCells_bcells y.addr, by simpa using intCells_bcells a⟩ ?_; conv => whnf
    have next : ¬ (y.addr = a ∧ y.key = k) → ∀ j, (hj : j < xs.length) → j < i + 1 → ¬ (xs[j].addr = a ∧ xs[j].key = k) := fun hq j hj hji => by
      by_cases e : j = i
      · subst e; rw [hy]; exact hq
      · exact hne j hj (by omega)
    refine CondX.mk (fun hq => ?_) (fun hq => ?_) <;> conv => whnf
    · have hq := of_decide_eq_true (eqAddr hq)
      repeat (first | (refine CondX.tt ?_; conv => whnf) | (refine CondX.ff ?_; conv => whnf))
      refine LoadX.fld (a := y.addr) (r := [sl y.ks, sl y.vs]) (t := 263) (hput_same ..) hyo.addr 0 rfl (v := sl y.ks) rfl ?_; conv => whnf
      repeat (first | (refine CondX.tt ?_; conv => whnf) | (refine CondX.ff ?_; conv => whnf))
      refine cmpN (hyo.key.ext hE3) (hkey.ext hE3) ?_; conv => whnf
      repeat (first | (refine CondX.tt ?_; conv => whnf) | (refine CondX.ff ?_; conv => whnf))
      rw [cmp_eq]
      refine CondX.decI (fun hq2 => ?_) (fun hq2 => ?_) <;> conv => whnf
      · have hget : getT xs a k = y := by
          unfold getT
          have : xs.find? (fun x => x.id = (a, k)) = some y := by
            rw [List.find?_eq_some_iff_getElem]
            refine ⟨by simp [YTemp.id, hq, hq2], i, by omega, hy, fun j hj => ?_⟩
            have := hne j (by omega) hj
            rw [decide_eq_false (by simpa [YTemp.id] using this)]; rfl
          rw [this]; rfl
        refine LoadX.fld (a := y.addr) (r := [sl y.ks, sl y.vs]) (t := 263) (hput_same ..) hyo.addr 1 rfl (v := sl y.vs) rfl ?_; conv => whnf
        rw [hget] at hk
        exact RetX.drop hE3 hk
      · refine ih (i + 1) _ _ ⟨by omega, he.trans (Ext.bd hm3), next fun h => hq2 h.2⟩ (by omega) ⟨rfl, rfl, rfl, rfl, congrArg (Value.int .i64) (wsucc (by omega)), trivial⟩
    · have hq := of_decide_eq_false (eqAddr hq)
      repeat (first | (refine CondX.tt ?_; conv => whnf) | (refine CondX.ff ?_; conv => whnf))
      refine ih (i + 1) _ _ ⟨by omega, he.trans (Ext.bd hm3), next fun h => hq h.1⟩ (by omega) ⟨rfl, rfl, rfl, rfl, congrArg (Value.int .i64) (wsucc (by omega)), trivial⟩
  · have hget : getT xs a k = ⟨a, nilS, nilS, k, 0⟩ := by
      unfold getT
      have : xs.find? (fun x => x.id = (a, k)) = none := by
        rw [List.find?_eq_none]
        intro z hz
        obtain ⟨j, hj, e⟩ := List.getElem_of_mem hz
        have := hne j hj (by omega)
        rw [e] at this
        simpa [YTemp.id] using this
      rw [this]; rfl
    rw [hget] at hk
    exact RetX.drop (hE.trans he) hk
end
end Go.Proofs.YgvalwGreat.X
