import Derived.Test.YgvalwGreatRowF
import Derived.Test.YgvalwGreatRow0
import Derived.WideKeyArgs
set_option linter.unusedVariables false
set_option linter.unusedSimpArgs false
namespace Go.Proofs.YgvalwGreat
open Go.ChangeShapes Go.WideShapes Go.ChangeAt Go.RowKit Go.Deep

theorem Hval.own : ownKnob Hval.prog.godebug = none := by kernel_rfl
theorem Hval.laidOut : laidOutB Hval.prog = true := fact_laid
theorem Hval.read5 : Hval.prog.readableRec 5 = true := by kernel_rfl
theorem Hval.read22 : Hval.prog.readableRec 22 = true := by kernel_rfl
theorem Hval.read23 : Hval.prog.readableRec 23 = true := by kernel_rfl
theorem Hval.read24 : Hval.prog.readableRec 24 = true := by kernel_rfl
theorem Hval.in5 : (5 : TypeId) < Hval.prog.types.size := of_decide_eq_true (by kernel_rfl)
theorem Hval.in22 : (22 : TypeId) < Hval.prog.types.size := of_decide_eq_true (by kernel_rfl)
theorem Hval.in23 : (23 : TypeId) < Hval.prog.types.size := of_decide_eq_true (by kernel_rfl)
theorem Hval.in24 : (24 : TypeId) < Hval.prog.types.size := of_decide_eq_true (by kernel_rfl)
/-- A call that returns 'true' and keeps every old block. -/
theorem same_kept {W W' : World} (hk : ∀ b, b < W.heap.size → W'.heap[b]? = W.heap[b]?) {p : MemPlace} (hp : p.block < W.heap.size) : W.sameAt W' p := by
  cases p with
  | cell b off => show W'.cell? _ = W.cell? _; simp only [World.cell?]; rw [hk b hp]
  | map b => exact hk b hp
theorem kept_but {W W' : World} (hk : ∀ b, b < W.heap.size → W'.heap[b]? = W.heap[b]?) (ho : W'.os = W.os) (hout : W'.output = W.output) (may : MemPlace → Prop) : W.keptBut W' may := by
  refine ⟨ho, hout, fun i hi => ?_⟩
  rw [hk i hi, Array.getElem?_eq_getElem hi]
  cases W.heap[i] <;> first | exact ⟨rfl, rfl, rfl, fun _ _ => rfl⟩ | exact .inr ⟨rfl, rfl⟩ | rfl
theorem calls_of_run {P : Program} {f : FuncId} {fn : Func} (hf : P.funcs[f]? = some fn) (hb : fn.body.isSome = true) (hn : (fn.name == "runtime.NumGoroutine") = false) {R h : X.Hp} {args : List Value} {K : Value → X.Hp → Prop} (c : X.CallR R P f args h K) {w : World} (hs : X.Sub h w) (hr : X.RO R h w) : Calls P f args.toArray w (X.RetK h w K) := by
  have hc := c.run w hs hr
  have : (callFunc f args.toArray).run P w = .ok (.enter f args.toArray) w := by
    have hb' : fn.body.isNone = false := by cases hh : fn.body <;> simp_all
    simp only [callFunc, Sem.run_bind, run_program, Result.andThen_ok, hf, hn, Bool.false_eq_true, if_false, hb', Sem.run_pure]
  rw [this] at hc
  exact hc.2
theorem shut_true {H : Type} {enc : TypeId × Value → H} {W : World} {base : Nat} {sp : Nat → Bool} {held : Bool} : DataW.Trod enc Hval.prog W base sp held 4 (.bool true) (.lit (.bool true)) [] := ⟨1, by simp [DataW.trod, Value.cells, Hval.underlying4]⟩
set_option maxRecDepth 100000 in
theorem stepSameOneCall_lifted (os : Os) (started : os.Started) (H : Type) (enc : TypeId × Value → H) :
    ReturnsInHanded {} Hval.checked os 3 .any (Rows.stepSameOneCallSpec.pre6 enc Hval.prog Hval.f3 Rows.stepSameOneCallRow.domain false) (Rows.stepSameOneCallSpec.post enc Hval.prog Hval.f3 false true false false) := by
  refine returnsInHanded_of_change_sized (C := Hval.checked) Hval.own started (by kernel_rfl) Hval.func3
    (ChangeSpec.witness6 (enc := enc) (C := Hval.checked) false ⟨#[], #[.slice none 0 0, .slice none 0 0, .int .u64 0], []⟩ 8 (by kernel_rfl) (by kernel_rfl) (by kernel_rfl) (by kernel_rfl)) ?_
  intro W base args ds gs before hval0 hW hcnd hsz _
  have hval : ∀ (j : Nat) t v, Hval.f3.params[j]? = some t → args[j]? = some v → Value.okWide Hval.prog W .any base t v := hval0
  have hW' := hW
  obtain ⟨p, q, hA0, hV, rfl, hfz, hnd⟩ := hW
  have hA : DataW.TrodAll enc Hval.prog W 0 (fun _ => true) true Hval.f3.params.toList args.toList ds p := hA0
  have hlt : ∀ x ∈ p ++ q, x.block < W.heap.size := hW'.lt
  rw [Hval.params3] at hA hval
  obtain ⟨v1, v2, v3, d1, d2, d3, p1, p2, p3, rfl, rfl, rfl, h1, h2, h3⟩ := trodAll_three hA
  obtain ⟨rfl, rfl⟩ := trodVars_none hV
  obtain ⟨g, rfl, rfl, rfl, wg⟩ := open_int Hval.underlying24 (hval 2 24 v3 rfl rfl) h3
  obtain ⟨a2, l2, c2, rfl⟩ := okWide_slice Hval.underlying23 (hval 1 23 v2 rfl rfl)
  obtain ⟨a1, l1, c1, rfl⟩ := okWide_slice Hval.underlying22 (hval 0 22 v1 rfl rfl)
  obtain ⟨d, hD, hDr⟩ := row_data h2 fun n hn => by simpa using List.all_eq_true.1 hsz n (DataW.weights_mem_each (j := 1) (t := 23) rfl rfl n hn)
  obtain ⟨cs, hC, hCr⟩ := row_codes h1 fun n hn => by simpa using List.all_eq_true.1 hsz n (DataW.weights_mem_each (j := 0) (t := 22) rfl rfl n hn)
  have hg : 0 ≤ g ∧ g < 18446744073709551616 := by
    simp [Lit.wf, IntKind.min, IntKind.max, IntKind.signed, IntKind.bits] at wg
    omega
  have hcall := calls_of_run Hval.func3 (by kernel_rfl) (by kernel_rfl) (X.sameinR_ok (h := X.hNil) (K := fun v _ => v = .bool true) hC hCr hD hDr hg (fun _ => rfl)) (w := W) (fun b c t hb => by cases hb) (roW_ok W)
  refine Calls.mono (P := Hval.prog) hcall fun e W2 hr => ?_
  obtain ⟨v, h', rfl, rfl, -, F⟩ := hr
  have hk : ∀ b, b < W.heap.size → W2.heap[b]? = W.heap[b]? := fun b hb => F.keep b hb rfl
  have hst : ∀ {t : TypeId} {v : Value} {d : DataW H} {ps : List MemPlace}, Hval.prog.readableRec t = true → t < Hval.prog.types.size → DataW.Trod enc Hval.prog W 0 (fun _ => true) true t v d ps → (∀ x ∈ ps, x.block < W.heap.size) → DataW.Trod enc Hval.prog W2 0 (fun b => decide (b < W.heap.size)) true t v d ps :=
    fun hr hi ht hp => WideElems.Trod_stays Hval.laidOut hr hi ht (fun x hx => same_kept hk (hp x hx)) fun x hx => decide_eq_true (hp x hx)
  simp only [List.append_nil, List.nil_append, List.mem_append] at hlt
  refine ⟨_, rfl, _, _, _, [], p1 ++ (p2 ++ ([] ++ [])), [], hW', ?_, ?_, rfl, kept_but hk F.os F.out _, fun h => by cases h⟩
  · exact trodAll_mk1 shut_true
  · exact ⟨_, _, hst Hval.read22 Hval.in22 h1 (fun x hx => hlt x (.inl hx)), ⟨_, _, hst Hval.read23 Hval.in23 h2 (fun x hx => hlt x (.inr hx)), ⟨_, _, hst Hval.read24 Hval.in24 h3 (fun x hx => by cases hx), rfl, rfl⟩, rfl⟩, rfl⟩
theorem stepSameOneCall_holds : Rows.StepSameOneCallSaid :=
  OpenClaim.holds_of_wide 3 Hval.f3 rfl rfl rfl rfl rfl rfl rfl ⟨rfl, rfl, rfl, rfl, rfl⟩ rfl rfl rfl rfl rfl fact_name Hval.func3 facts fact_inst fact_wrap
    (fun os started H enc _ => stepSameOneCall_lifted os started H enc)
end Go.Proofs.YgvalwGreat
