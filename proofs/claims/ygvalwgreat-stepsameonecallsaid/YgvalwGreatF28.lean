import Derived.Test.YgvalwGreatF27
set_option linter.unusedVariables false
set_option linter.unusedSimpArgs false
namespace Go.Proofs.YgvalwGreat.X
open Go

section
variable {h : Hp} {K : Value → Hp → Prop}

theorem getD_map {α : Type} {f : α → List Value} {xs : List α} {k : Nat} (hk : k < xs.length) : (xs.map f).getD k [] = f (xs[k]'hk) := by
  simp [List.getElem?_eq_getElem hk]

/-- A list of addresses. -/
structure Adrs (h : Hp) (s : Sl) (az : List (List Int)) : Prop where
  arr : Arr h s 20 (az.map bcells)
  len : ∀ a ∈ az, a.length = 20
theorem Adrs.ext {h h' : Hp} (he : Ext h h') {s az} (a : Adrs h s az) : Adrs h' s az := ⟨a.arr.ext he, a.len⟩
theorem Adrs.n {s : Sl} {az} (a : Adrs h s az) : az.length = s.2.1 := by have := a.arr.len; simpa using this
theorem Adrs_nil (h : Hp) : Adrs h (none, 0, 0) [] := ⟨Arr_nil h 20, fun a ha => by cases ha⟩


set_option maxRecDepth 100000 in
set_option maxHeartbeats 4000000 in
theorem listed_ok {s : Sl} {az : List (List Int)} {a : List Int} (hA : Adrs h s az) (ha : a.length = 20) (hr : s.2.1 < 2 ^ 40) (hk : K (.bool (decide (a ∈ az))) h) :
    CallX Hval.prog 131 [sl s, .agg (bcells a).toArray] h K := by
  refine CallX.of_xf T_ok Hval.func131 rfl (by kernel_rfl) (Nat.le_of_ble_eq_true rfl) ?_; conv => whnf
  have hn := hA.n
  refine BoxX.mk fun m hm => ?_; conv => whnf
  refine LoopX.st T_ok Hval.func131 (σ := Nat) (fun i => [(3, .pointer (some ⟨m, 0, none⟩)), (7, sl s), (8, .int .i64 s.2.1), (9, .int .i64 i)])
    (fun i h' => i ≤ s.2.1 ∧ Ext (hput h m (bcells a, 31)) h' ∧ ∀ j, (hj : j < az.length) → j < i → az[j] ≠ a) (fun i => s.2.1 - i) 0
    ⟨rfl, rfl, rfl, rfl, trivial⟩ ⟨Nat.zero_le _, Ext.refl _, fun j _ hj => by omega⟩ ?_
  rintro i ρ h' ⟨hi, he, hne⟩ ih
  conv => whnf
  have hA' := hA.ext ((Ext.bd hm).trans he)
  have hm' : h' m = some (bcells a, 31) := he _ _ (hput_same ..)
  refine CondX.decI (fun hc => ?_) (fun hc => ?_) <;> conv => whnf
  · have hc : i < s.2.1 := by omega
    refine IdxX.arr hA'.arr (by omega) (by omega) (by omega) fun b off e => ?_; conv => whnf
    refine LoadX.elt hA'.arr e i rfl hc ?_; conv => whnf
    rw [getD_map (by omega)]
    have hxl := hA.len _ (List.getElem_mem (show i < az.length by omega))
    generalize hx : az[i]'(by omega) = x at *
    refine BoxX.mk fun m2 hm2 => ?_; conv => whnf
    refine Ob.mk ⟨by rw [List.size_toArray, bcells_length, hxl]; rfl, ones_bcells _⟩ ?_; conv => whnf
    refine StoreX.same (by rw [List.toList_toArray, bcells_length, hxl]; decide) ?_; conv => whnf
    rw [setSeg_all (by rw [List.toList_toArray, bcells_length, hxl]; rfl)]
    refine LoadX.arr (l := x) (t := 31) (hput_same ..) hxl ?_; conv => whnf
    have hne2 : m ≠ m2 := by have := hm2 _ _ hm'; omega
    refine LoadX.arr (l := a) (t := 31) (by rw [hput_ne hne2]; exact hm') ha ?_; conv => whnf
    refine Ob.mk ⟨by simp [bcells, hxl], by simp [bcells, ha], by simpa using intCells_bcells x, by simpa using intCells_bcells a⟩ ?_; conv => whnf
    refine CondX.mk (fun hq => ?_) (fun hq => ?_) <;> conv => whnf
    · have hq : eqCells (bcells x) (bcells a) = true := hq
      rw [eqCells_bcells] at hq
      have hq := of_decide_eq_true hq
      have : a ∈ az := by rw [← hq, ← hx]; exact List.getElem_mem _
      rw [decide_eq_true this] at hk
      exact RetX.drop (((Ext.bd hm).trans he).trans (Ext.bd hm2)) hk
    · have hq : eqCells (bcells x) (bcells a) = false := hq
      rw [eqCells_bcells] at hq
      have hq := of_decide_eq_false hq
      refine ih (i + 1) _ _ ⟨by omega, he.trans (Ext.bd hm2), fun j hj hji => ?_⟩ (by omega) ⟨rfl, rfl, rfl, congrArg (Value.int .i64) (wsucc (by omega)), trivial⟩
      by_cases e : j = i
      · subst e; rw [hx]; exact hq
      · exact hne j hj (by omega)
  · have : a ∉ az := by
      intro hm
      obtain ⟨j, hj, e⟩ := List.getElem_of_mem hm
      exact hne j hj (by omega) e
    rw [decide_eq_false this] at hk
    exact RetX.drop ((Ext.bd hm).trans he) hk
end
end Go.Proofs.YgvalwGreat.X
