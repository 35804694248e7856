import Derived.Test.YgvalwGreatR5
import Derived.ProofKit
import Derived.Deep.Matrix
import Derived.SizedLaws
import Derived.ReadAgain
set_option linter.unusedVariables false
set_option linter.unusedSimpArgs false
namespace Go.Proofs.YgvalwGreat
open Go.ChangeShapes Go.WideShapes Go.ChangeAt Go.RowKit Go.Deep

/-- All cells of a world, to read. -/
def roW (W : World) : X.Hp := fun b => match W.heap[b]? with
  | some (.cells c t _) => some (c.toList, t)
  | _ => none
theorem roW_ok (W : World) : X.RO (roW W) X.hNil W := fun b c t hb => by
  unfold roW at hb
  split at hb
  · rename_i c' t' fr h
    cases hb
    refine ⟨rfl, (Array.getElem?_eq_some_iff.1 h).1, fun o => ?_⟩
    simp [World.cell?, h]
  · cases hb
theorem Hval.cells5 : Hval.prog.cellsOf 5 = 1 := by kernel_rfl
theorem Hval.cells23 : Hval.prog.cellsOf 23 = 1 := by kernel_rfl
theorem Hval.bytes5 : Hval.prog.bytesOf 5 = 1 := by kernel_rfl
theorem Hval.bytes23 : Hval.prog.bytesOf 23 = 24 := by kernel_rfl
theorem roW_rd {W : World} {a : Addr} {n : Nat} {cs : List Value} (hl : cs.length = n) (hn : n ≠ 0) (hc : ∀ i, i < n → W.cell? (a.add i) = cs[i]?) : a.spot = none ∧ X.rd (roW W) (some a) n = some cs := by
  obtain ⟨b, o, sp⟩ := a
  have h0 := hc 0 (by omega)
  rw [List.getElem?_eq_getElem (by omega)] at h0
  simp only [Addr.add, if_true, World.cell?] at h0
  cases hb : W.heap[b]? with
  | none => rw [hb] at h0; simp at h0
  | some ob =>
    rw [hb] at h0
    cases ob with
    | cells c t fr =>
      cases sp with
      | some s => simp at h0
      | none =>
        have hcell : ∀ i, i < n → c[o + i]? = cs[i]? := fun i hi => by
          have := hc i hi
          rw [X.add_none] at this
          simpa [World.cell?, hb] using this
        refine ⟨rfl, ?_⟩
        have hr : roW W b = some (c.toList, t) := by unfold roW; rw [hb]
        have hle : o + n ≤ c.size := by
          have := hcell (n - 1) (by omega)
          rw [List.getElem?_eq_getElem (by omega)] at this
          have := (Array.getElem?_eq_some_iff.1 this).1
          omega
        simp only [X.rd, hr]
        rw [if_pos (by simpa using hle)]
        congr 1
        apply List.ext_getElem?
        intro i
        by_cases hi : i < n
        · rw [X.seg_get hi, ← hcell i hi]; simp
        · rw [List.getElem?_eq_none (by rw [X.seg_length (by simpa using hle)]; omega), List.getElem?_eq_none (by omega)]
    | _ => simp at h0
theorem u8_wf {n : Int} (h : (Lit.int .u8 n).wf = true) : 0 ≤ n ∧ n < 256 := by
  simp [Lit.wf, IntKind.min, IntKind.max, IntKind.signed, IntKind.bits] at h
  omega
theorem row_bytes {W : World} {ad : Addr} {l c : Nat} {zs : List Int} (hl : l ≤ c) (hz : zs.length = c) (hw : ∀ n ∈ zs, (Lit.int .u8 n).wf = true) (hcell : ∀ i, i < l → W.cell? (ad.add i) = some (.int .u8 (zs.getD i 0))) : X.BytI (roW W) (some ad, l, c) (zs.take l) := by
  have hlen : (zs.take l).length = l := by rw [List.length_take]; omega
  refine ⟨fun hn => (roW_rd (by rw [X.bcells_length, hlen]) hn fun i hi => ?_).2, fun n hn => u8_wf (hw n (List.mem_of_mem_take hn)), hlen⟩
  have hi : i < l := hi
  rw [hcell i hi]
  simp [X.bcells, hi, List.getElem?_eq_getElem (show i < zs.length by omega), List.getD_eq_getElem?_getD]
theorem weightsAll_mem {H : Type} {P : Program} {e : TypeId} {d : DataW H} : ∀ {l : List (DataW H)}, d ∈ l → ∀ n ∈ d.weights P e, n ∈ DataW.weightsAll P e l
  | [], hd, _, _ => by cases hd
  | x :: r, hd, n, hn => by
    simp only [DataW.weightsAll, List.mem_append]
    rcases List.mem_cons.1 hd with rfl | h
    · exact .inl hn
    · exact .inr (weightsAll_mem h n hn)
theorem flat_one {α : Type} (f : α → Value) : ∀ l : List α, (l.map fun x => [f x]).flatten = l.map f
  | [] => rfl
  | x :: r => by simp only [List.map_cons, List.flatten_cons, flat_one f r, List.singleton_append]
theorem bytes_le {n : Nat} (h : n ≤ reachBytes) : n ≤ 2 ^ 47 := by
  have : reachBytes = 0x7ffffffff000 := rfl
  omega
section
variable {H : Type} {enc : TypeId × Value → H} {W : World} {a : Option Addr} {l c : Nat} {d : DataW H} {ps : List MemPlace}
theorem row_data (h : DataW.Trod enc Hval.prog W 0 (fun _ => true) true 23 (.slice a l c) d ps) (hw : ∀ n ∈ d.weights Hval.prog 23, n ≤ reachBytes) : ∃ x, X.BytI (roW W) (a, l, c) x ∧ l ≤ 2 ^ 47 := by
  obtain ⟨fuel, hf⟩ := h
  rcases open_ints Hval.underlying23 Hval.underlying5 Hval.cells5 hf with ⟨hcs, hx⟩ | ⟨ad, len, cap, zs, hcs, hb, hl, hm, hz, hx, hcell, hwf⟩
  · simp [Value.cells] at hcs
    obtain ⟨rfl, rfl, rfl⟩ := hcs
    exact ⟨[], ⟨fun h => absurd rfl h, fun d hd => (by cases hd), rfl⟩, by decide⟩
  · simp [Value.cells] at hcs
    obtain ⟨rfl, rfl, rfl⟩ := hcs
    simp only [if_true] at hz
    simp only [Prod.mk.injEq] at hx
    obtain ⟨rfl, -⟩ := hx
    have hs := hw _ (by rw [DataW.weights, Hval.underlying23]; exact List.mem_cons_self ..)
    rw [Hval.bytes5, Nat.mul_one] at hs
    simp only [lits, List.length_map, List.length_take, List.length_drop] at hs
    exact ⟨_, row_bytes hl hz hwf fun i hi => hcell i (by omega), bytes_le (by omega)⟩
theorem row_codes (h : DataW.Trod enc Hval.prog W 0 (fun _ => true) true 22 (.slice a l c) d ps) (hw : ∀ n ∈ d.weights Hval.prog 22, n ≤ reachBytes) : ∃ cs, X.SlI (roW W) (a, l, c) cs ∧ l < 2 ^ 50 := by
  obtain ⟨fuel, hf⟩ := h
  rcases open_int_rows Hval.underlying22 Hval.underlying23 Hval.underlying5 Hval.cells23 Hval.cells5 hf with ⟨hcs, hx⟩ | ⟨ad, len, cap, A, L, C, Z, hcs, hb, hl, hm, hx, hrow⟩
  · simp [Value.cells] at hcs
    obtain ⟨rfl, rfl, rfl⟩ := hcs
    exact ⟨[], ⟨fun h => absurd rfl h, rfl, fun p hp => by cases hp⟩, by decide⟩
  · simp [Value.cells] at hcs
    obtain ⟨rfl, rfl, rfl⟩ := hcs
    simp only [Prod.mk.injEq] at hx
    obtain ⟨rfl, -⟩ := hx
    have h0 := hw _ (by rw [DataW.weights, Hval.underlying22]; exact List.mem_cons_self ..)
    rw [Hval.bytes23] at h0
    simp only [List.length_map, List.length_range] at h0
    have h0 := bytes_le h0
    refine ⟨(List.range l).map fun r => ((A r, L r, C r), (Z r).take (L r)), ⟨fun hn => ⟨?_, by simp, ?_, ?_, hl, fun h => by cases h⟩, by simp, fun p hp => ?_⟩, by omega⟩
    · have e : (List.map X.p1C ((List.range l).map fun r => ((A r, L r, C r), (Z r).take (L r)))).flatten = (List.range l).map fun r => X.sl (A r, L r, C r) := by
        rw [List.map_map]; exact flat_one (fun r => X.sl (A r, L r, C r)) _
      rw [e, Nat.mul_one]
      refine (roW_rd (by simp) hn fun i hi => ?_).2
      have hi : i < l := hi
      rw [(hrow i (by omega)).1, List.getElem?_map, List.getElem?_range hi]; rfl
    · intro e he
      obtain ⟨x, -, rfl⟩ := List.mem_map.1 he
      rfl
    · intro e he
      obtain ⟨x, -, rfl⟩ := List.mem_map.1 he
      rfl
    · obtain ⟨r, hr, rfl⟩ := List.mem_map.1 hp
      have hr := List.mem_range.1 hr
      obtain ⟨-, hLC, -, hZ, hwf, hno, hso⟩ := hrow r (by omega)
      dsimp only
      cases hA : A r with
      | none =>
        have hL : L r = 0 := by have := hno hA; omega
        rw [hL]
        exact ⟨⟨fun h => absurd rfl h, fun d hd => (by cases hd), rfl⟩, by decide⟩
      | some ad' =>
        have hcell := (hso ad' hA).2
        refine ⟨row_bytes hLC hZ hwf fun i hi => hcell i (by omega), bytes_le ?_⟩
        have hin : intRow .u8 (A r) (L r) (Z r) ∈ (List.range l).map fun r => (intRow .u8 (A r) (L r) (Z r) : DataW H) := List.mem_map.2 ⟨r, List.mem_range.2 hr, rfl⟩
        have hs := hw (((lits .u8 ((Z r).take (L r)) : List (DataW H)).length + (lits .u8 ((Z r).drop (L r)) : List (DataW H)).length) * Hval.prog.bytesOf 5) (by
          rw [DataW.weights, Hval.underlying22]
          refine List.mem_cons_of_mem _ (List.mem_append.2 (.inl (weightsAll_mem hin _ ?_)))
          rw [hA, intRow, DataW.weights, Hval.underlying23]
          exact List.mem_cons_self ..)
        rw [Hval.bytes5, Nat.mul_one] at hs
        simp only [lits, List.length_map, List.length_take, List.length_drop] at hs
        show L r ≤ reachBytes
        omega
end
end Go.Proofs.YgvalwGreat
