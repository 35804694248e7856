import Derived.Test.YgvalwGreatS5
set_option linter.unusedVariables false
set_option linter.unusedSimpArgs false
namespace Go.Proofs.YgvalwGreat.X
open Go

theorem fnv_app (a b : Nat) (g : Nat → Value) : fnv (a + b) g = fnv a g ++ fnv b (fun i => g (a + i)) := by
  unfold fnv
  rw [List.range_add, List.map_append, List.map_map]
  rfl
theorem fnv_const {n : Nat} {g : Nat → Value} {x : Value} (h : ∀ i, i < n → g i = x) : fnv n g = List.replicate n x := by
  rw [fnv_ext (g' := fun _ => x) h]
  unfold fnv
  rw [List.map_const', List.length_range]
theorem fnv_getD (l : List Value) (d : Value) : fnv l.length (fun i => l.getD i d) = l := by
  apply List.ext_getElem?
  intro i
  by_cases hi : i < l.length
  · rw [fnv_get hi, List.getElem?_eq_getElem hi, List.getD_eq_getElem?_getD, List.getElem?_eq_getElem hi]; rfl
  · rw [List.getElem?_eq_none (by rw [fnv_len]; omega), List.getElem?_eq_none (by omega)]
theorem zeros_sg (x : Value) (n : Nat) : zeros [x] n = List.replicate n x := by
  unfold zeros
  induction n with
  | zero => rfl
  | succ n ih => rw [List.replicate_succ, List.flatten_cons, ih]; rfl
def v00 (ta ts : Nat → Int) : VS := ⟨nilS, [], nilS, [], ta, ts, nilS, [], fun _ => 0, 0, 0, nilS, [], nilS, [], nilS, fun _ => 0⟩
def f00 : MF := ⟨0, 0, 0, false, 0, 0, 0, 0, 0, z20, z20, 0, nilS, [], nilS, [], fun _ => 0, 0, 0⟩
def m00 (top : Int) (env tree : Nat → Value) : MS := ⟨nilS, fun _ => 0, 0, fun _ => 0, fun _ => f00, top, nilS, [], env, z20, 0, 0, 0, 0, 0, 0, 0, 0, 0, z20, tree⟩
def env00 (i : Nat) : Value := z36.getD i (.bool false)
def mZ (k : Nat) : Value := if k = 0 then .pointer none else mC 0 (m00 0 env00 fun _ => .bool false) k
theorem z84_fnv : z84 = fnv 2435 mZ := by kernel_rfl
theorem z94_fnv : z94 = fnv 24584 (vC (v00 (fun _ => 0) fun _ => 0)) := by
  have h1 : ∀ n, fnv n (fun _ => Value.int .i32 0) = zeros z21 n := fun n => by
    rw [fnv_const (x := Value.int .i32 0) (fun _ _ => rfl)]
    exact (zeros_sg _ n).symm
  show _ = fnv (2 + (4096 + (4096 + (1 + (16384 + 5))))) _
  rw [fnv_app, fnv_app, fnv_app, fnv_app, fnv_app]
  rw [fnv_ext (n := 4096) (g := fun i => vC (v00 (fun _ => 0) fun _ => 0) (2 + i)) (g' := fun _ => Value.int .i32 0) fun i hi => ?_,
    fnv_ext (n := 4096) (g := fun i => vC (v00 (fun _ => 0) fun _ => 0) (2 + (4096 + i))) (g' := fun _ => Value.int .i32 0) fun i hi => ?_,
    fnv_ext (n := 16384) (g := fun i => vC (v00 (fun _ => 0) fun _ => 0) (2 + (4096 + (4096 + (1 + i))))) (g' := fun _ => Value.int .i32 0) fun i hi => ?_, h1, h1]
  · have e0 : fnv 2 (vC (v00 (fun _ => 0) fun _ => 0)) = z85 ++ z86 := rfl
    have e1 : fnv 1 (fun i => vC (v00 (fun _ => 0) fun _ => 0) (2 + (4096 + (4096 + i)))) = z88 := rfl
    have e2 : fnv 5 (fun i => vC (v00 (fun _ => 0) fun _ => 0) (2 + (4096 + (4096 + (1 + (16384 + i)))))) = z21 ++ (z24 ++ (z90 ++ (z91 ++ z92))) := rfl
    rw [e0, e1, e2]
    unfold z94 z87 z89
    simp only [List.flatten_cons, List.flatten_nil, List.append_assoc, List.append_nil]
  · unfold vC; rw [if_neg (by omega), if_neg (by omega), if_neg (by omega), if_neg (by omega), if_neg (by omega), if_pos (by omega)]; rfl
  · unfold vC; rw [if_neg (by omega), if_neg (by omega), if_neg (by omega), if_pos (by omega)]; rfl
  · unfold vC; rw [if_neg (by omega), if_neg (by omega), if_pos (by omega)]; rfl
def mc00 (k : Nat) : Value := if k < 2435 then mZ k else z99.getD (k - 27019) (.bool false)
theorem z101_fnv : z101 = fnv 27024 (eC mc00 (v00 (fun _ => 0) fun _ => 0)) := by
  have e3 : fnv 5 (fun i => eC mc00 (v00 (fun _ => 0) fun _ => 0) (2435 + (24584 + i))) = z99 := rfl
  unfold z101
  rw [show (27024 : Nat) = 2435 + (24584 + 5) from rfl, fnv_app, fnv_app, e3, z84_fnv, z94_fnv]
  simp only [List.flatten_cons, List.flatten_nil, List.append_nil]
  have f1 : fnv 2435 mZ = fnv 2435 (eC mc00 (v00 (fun _ => 0) fun _ => 0)) := fnv_ext fun i hi => by
    rw [eM hi]; unfold mc00; rw [if_pos hi]
  have f2 : fnv 24584 (vC (v00 (fun _ => 0) fun _ => 0)) = fnv 24584 (fun i => eC mc00 (v00 (fun _ => 0) fun _ => 0) (2435 + i)) := fnv_ext fun i hi => by
    unfold eC
    rw [if_neg (by omega), if_pos (by omega), show 2435 + i - 2435 = i by omega]
  rw [f1, f2]
end Go.Proofs.YgvalwGreat.X
