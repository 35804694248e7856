import Derived.Test.YgvalwGreatF62
set_option linter.unusedVariables false
set_option linter.unusedSimpArgs false
namespace Go.Proofs.YgvalwGreat.X
open Go

theorem fillL_one {place : Nat → Option (Nat × Nat)} {cells : List Value} {i off : Nat} {v : Value} {rest : List (Nat × Value)} (hp : place i = some (off, 1)) (hv : v.cells = #[v]) (hl : off + 1 ≤ cells.length) :
    fillL place cells ((i, v) :: rest) = fillL place (setSeg cells off [v]) rest := by
  simp only [fillL, hp, hv]
  rw [if_pos ⟨by simp, hl⟩]
theorem fillL_agg {place : Nat → Option (Nat × Nat)} {cells v : List Value} {i off n : Nat} {rest : List (Nat × Value)} (hp : place i = some (off, n)) (hv : v.length = n) (hl : off + n ≤ cells.length) :
    fillL place cells ((i, .agg v.toArray) :: rest) = fillL place (setSeg cells off v) rest := by
  have hc : (Value.agg v.toArray).cells = v.toArray := rfl
  simp only [fillL, hp, hc, List.size_toArray, hv]
  rw [if_pos ⟨trivial, hl⟩]
theorem frame_fill {H : List Value} {T U : List Int} (hH : H.length = 12) (hT : T.length = 20) (hU : U.length = 20) {R : List Value} (hR : R.length = 48) : setSeg (setSeg (H ++ R) 12 (bcells T)) 32 (bcells U) = H ++ (bcells T ++ (bcells U ++ R.drop 40)) := by
  have eT : (bcells T).length = 20 := by rw [bcells_length, hT]
  have eU : (bcells U).length = 20 := by rw [bcells_length, hU]
  have h1 : setSeg (H ++ R) 12 (bcells T) = H ++ (bcells T ++ R.drop 20) := by
    simp only [setSeg, eT]
    rw [← hH, List.take_left, ← List.drop_drop, List.drop_left, List.append_assoc]
  rw [h1]
  simp only [setSeg, eU]
  have e2 : (H ++ (bcells T ++ R.drop 20)).take 32 = H ++ bcells T := by
    rw [← List.append_assoc, show 32 = (H ++ bcells T).length by simp [hH, eT], List.take_left]
  have e3 : (H ++ (bcells T ++ R.drop 20)).drop (32 + 20) = R.drop 40 := by
    rw [← List.append_assoc, ← List.drop_drop, show 32 = (H ++ bcells T).length by simp [hH, eT], List.drop_left, List.drop_drop]
  rw [e2, e3, List.append_assoc, List.append_assoc]
theorem fCells_self {f : YF} {T : List Int} (h1 : f.self.length = 20) (hT : T.length = 20) : setSeg ([] ++ (fCells f ++ [])) 12 (bcells T) = [] ++ (fCells { f with self := T } ++ []) := by
  have e : (bcells f.self).length = 20 := by rw [bcells_length, h1]
  have eT : (bcells T).length = 20 := by rw [bcells_length, hT]
  simp only [List.nil_append, List.append_nil]
  show setSeg (_ ++ (bcells f.self ++ (bcells f.caller ++ f.saved.cells))) 12 (bcells T) = _ ++ (bcells T ++ (bcells f.caller ++ f.saved.cells))
  simp only [setSeg, eT]
  rw [show (12 : Nat) = [Value.int .u8 f.kind, .int .u8 f.natv, .bool f.static, sl f.pcS, sl f.gasS, sl f.valS, sl f.ooS, sl f.olS, sl f.stS, sl f.memS, sl f.codeS, sl f.inS].length by rfl, List.take_left, ← List.drop_drop, List.drop_left, ← e, List.drop_left, List.append_assoc]
theorem fCells_caller {f : YF} {T : List Int} (h1 : f.self.length = 20) (h2 : f.caller.length = 20) (hT : T.length = 20) : setSeg ([] ++ (fCells f ++ [])) 32 (bcells T) = [] ++ (fCells { f with caller := T } ++ []) := by
  have e : (bcells f.self).length = 20 := by rw [bcells_length, h1]
  have e2 : (bcells f.caller).length = 20 := by rw [bcells_length, h2]
  have eT : (bcells T).length = 20 := by rw [bcells_length, hT]
  simp only [List.nil_append, List.append_nil]
  have hs : fCells f = ([Value.int .u8 f.kind, .int .u8 f.natv, .bool f.static, sl f.pcS, sl f.gasS, sl f.valS, sl f.ooS, sl f.olS, sl f.stS, sl f.memS, sl f.codeS, sl f.inS] ++ bcells f.self) ++ (bcells f.caller ++ f.saved.cells) := by simp [fCells]
  have hs' : fCells { f with caller := T } = ([Value.int .u8 f.kind, .int .u8 f.natv, .bool f.static, sl f.pcS, sl f.gasS, sl f.valS, sl f.ooS, sl f.olS, sl f.stS, sl f.memS, sl f.codeS, sl f.inS] ++ bcells f.self) ++ (bcells T ++ f.saved.cells) := by simp [fCells]
  have hl : ([Value.int .u8 f.kind, .int .u8 f.natv, .bool f.static, sl f.pcS, sl f.gasS, sl f.valS, sl f.ooS, sl f.olS, sl f.stS, sl f.memS, sl f.codeS, sl f.inS] ++ bcells f.self).length = 32 := by simp [e]
  rw [hs, hs']
  generalize ([Value.int .u8 f.kind, .int .u8 f.natv, .bool f.static, sl f.pcS, sl f.gasS, sl f.valS, sl f.ooS, sl f.olS, sl f.stS, sl f.memS, sl f.codeS, sl f.inS] ++ bcells f.self) = L at *
  simp only [setSeg, eT]
  rw [← hl, List.take_left, ← List.drop_drop, List.drop_left, ← e2, List.drop_left, List.append_assoc]
theorem nilW_ok (h : Hp) : nilW.ok h h := ⟨⟨Arr_nil h 24, fun x hx => by cases hx⟩, Adrs_nil h, ⟨Arr_nil h 21, fun x hx => by cases hx⟩, Nt_nil h, Arr_nil h 22, fun x hx => (by cases hx), ⟨Arr_nil h 22, fun x hx => by cases hx⟩, Adrs_nil h, Adrs_nil h⟩
/-- A fresh child. -/
def chF (kind : Int) (static : Bool) (vS : Sl) (v : Int) (self caller : List Int) : YF := ⟨kind, 0, static, nilS, nilS, vS, nilS, nilS, nilS, nilS, nilS, nilS, self, caller, nilW, 0, 0, v, 0, 0, [], [], []⟩
theorem chF_ok {h : Hp} {kind : Int} {static : Bool} {vS : Sl} {v : Int} {self caller : List Int} (hv : NtS h vS v) (h1 : self.length = 20) (h2 : caller.length = 20) : (chF kind static vS v self caller).ok h :=
  ⟨Nt_nil h, Nt_nil h, hv, Nt_nil h, Nt_nil h, Arr_nil h 1, fun p hp => (by cases hp), Nat.zero_le _, Byt_nil h, Byt_nil h, h1, h2, nilW_ok h, rfl⟩
end Go.Proofs.YgvalwGreat.X
