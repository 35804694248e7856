import Derived.Test.YgvakwGreatRowF
import Derived.Test.YgvakwGreatRow0
import Derived.WideKeyArgs
set_option linter.unusedVariables false
set_option linter.unusedSimpArgs false
namespace Go.Proofs.YgvakwGreat
open Go.ChangeShapes Go.WideShapes Go.ChangeAt Go.RowKit Go.Deep

theorem Hvak.own : ownKnob Hvak.prog.godebug = none := by kernel_rfl
theorem Hvak.laidOut : laidOutB Hvak.prog = true := fact_laid
theorem Hvak.read5 : Hvak.prog.readableRec 5 = true := by kernel_rfl
theorem Hvak.read22 : Hvak.prog.readableRec 22 = true := by kernel_rfl
theorem Hvak.read23 : Hvak.prog.readableRec 23 = true := by kernel_rfl
theorem Hvak.read24 : Hvak.prog.readableRec 24 = true := by kernel_rfl
theorem Hvak.in5 : (5 : TypeId) < Hvak.prog.types.size := of_decide_eq_true (by kernel_rfl)
theorem Hvak.in22 : (22 : TypeId) < Hvak.prog.types.size := of_decide_eq_true (by kernel_rfl)
theorem Hvak.in23 : (23 : TypeId) < Hvak.prog.types.size := of_decide_eq_true (by kernel_rfl)
theorem Hvak.in24 : (24 : TypeId) < Hvak.prog.types.size := of_decide_eq_true (by kernel_rfl)
/-- A call that returns 'true' and keeps every old block. -/
theorem same_kept {W W' : World} (hk : ∀ b, b < W.heap.size → W'.heap[b]? = W.heap[b]?) {p : MemPlace} (hp : p.block < W.heap.size) : W.sameAt W' p := by
  cases p with
  | cell b off => show W'.cell? _ = W.cell? _; simp only [World.cell?]; rw [hk b hp]
  | map b => exact hk b hp
theorem kept_but {W W' : World} (hk : ∀ b, b < W.heap.size → W'.heap[b]? = W.heap[b]?) (ho : W'.os = W.os) (hout : W'.output = W.output) (may : MemPlace → Prop) : W.keptBut W' may := by
  refine ⟨ho, hout, fun i hi => ?_⟩
  rw [hk i hi, Array.getElem?_eq_getElem hi]
  cases W.heap[i] <;> first | exact ⟨rfl, rfl, rfl, fun _ _ => rfl⟩ | exact .inr ⟨rfl, rfl⟩ | rfl
theorem calls_of_run {P : Program} {f : FuncId} {fn : Func} (hf : P.funcs[f]? = some fn) (hb : fn.body.isSome = true) (hn : (fn.name == "runtime.NumGoroutine") = false) {R h : X.Hp} {args : List Value} {K : Value → X.Hp → Prop} (c : X.CallR R P f args h K) {w : World} (hs : X.Sub h w) (hr : X.RO R h w) : Calls P f args.toArray w (X.RetK h w K) := by
  have hc := c.run w hs hr
  have : (callFunc f args.toArray).run P w = .ok (.enter f args.toArray) w := by
    have hb' : fn.body.isNone = false := by cases hh : fn.body <;> simp_all
    simp only [callFunc, Sem.run_bind, run_program, Result.andThen_ok, hf, hn, Bool.false_eq_true, if_false, hb', Sem.run_pure]
  rw [this] at hc
  exact hc.2
theorem shut_true {H : Type} {enc : TypeId × Value → H} {W : World} {base : Nat} {sp : Nat → Bool} {held : Bool} : DataW.Trod enc Hvak.prog W base sp held 4 (.bool true) (.lit (.bool true)) [] := ⟨1, by simp [DataW.trod, Value.cells, Hvak.underlying4]⟩
set_option maxRecDepth 100000 in
theorem stepSameIn_lifted (os : Os) (started : os.Started) (H : Type) (enc : TypeId × Value → H) :
    ReturnsInHanded {} Hvak.checked os 3 .any (Rows.stepSameInSpec.pre6 enc Hvak.prog Hvak.f3 Rows.stepSameInRow.domain false) (Rows.stepSameInSpec.post enc Hvak.prog Hvak.f3 false true false false) := by
  refine returnsInHanded_of_change_sized (C := Hvak.checked) Hvak.own started (by kernel_rfl) Hvak.func3
    (ChangeSpec.witness6 (enc := enc) (C := Hvak.checked) false ⟨#[], #[.int .u8 0, .slice none 0 0, .slice none 0 0, .int .u64 0], []⟩ 8 (by kernel_rfl) (by kernel_rfl) (by kernel_rfl) (by kernel_rfl)) ?_
  intro W base args ds gs before hval0 hW hcnd hsz _
  have hval : ∀ (j : Nat) t v, Hvak.f3.params[j]? = some t → args[j]? = some v → Value.okWide Hvak.prog W .any base t v := hval0
  have hW' := hW
  obtain ⟨p, q, hA0, hV, rfl, hfz, hnd⟩ := hW
  have hA : DataW.TrodAll enc Hvak.prog W 0 (fun _ => true) true Hvak.f3.params.toList args.toList ds p := hA0
  have hlt : ∀ x ∈ p ++ q, x.block < W.heap.size := hW'.lt
  rw [Hvak.params3] at hA hval
  obtain ⟨v0, v1, v2, v3, d0, d1, d2, d3, p0, p1, p2, p3, rfl, rfl, rfl, h0, h1, h2, h3⟩ := trodAll_four hA
  obtain ⟨rfl, rfl⟩ := trodVars_none hV
  obtain ⟨a, rfl, rfl, rfl, wa⟩ := open_int Hvak.underlying5 (hval 0 5 v0 rfl rfl) h0
  obtain ⟨g, rfl, rfl, rfl, wg⟩ := open_int Hvak.underlying24 (hval 3 24 v3 rfl rfl) h3
  obtain ⟨a2, l2, c2, rfl⟩ := okWide_slice Hvak.underlying23 (hval 2 23 v2 rfl rfl)
  obtain ⟨a1, l1, c1, rfl⟩ := okWide_slice Hvak.underlying22 (hval 1 22 v1 rfl rfl)
  obtain ⟨d, hD, hDr⟩ := row_data h2 fun n hn => by simpa using List.all_eq_true.1 hsz n (DataW.weights_mem_each (j := 2) (t := 23) rfl rfl n hn)
  obtain ⟨cs, hC, hCr⟩ := row_codes h1 fun n hn => by simpa using List.all_eq_true.1 hsz n (DataW.weights_mem_each (j := 1) (t := 22) rfl rfl n hn)
  have hg : 0 ≤ g ∧ g < 18446744073709551616 := by
    simp [Lit.wf, IntKind.min, IntKind.max, IntKind.signed, IntKind.bits] at wg
    omega
  have hcall := calls_of_run Hvak.func3 (by kernel_rfl) (by kernel_rfl) (X.sameinR_ok (h := X.hNil) (o := a) (K := fun v _ => v = .bool true) hC hCr hD hDr hg (fun _ => rfl)) (w := W) (fun b c t hb => by cases hb) (roW_ok W)
  refine Calls.mono (P := Hvak.prog) hcall fun e W2 hr => ?_
  obtain ⟨v, h', rfl, rfl, -, F⟩ := hr
  have hk : ∀ b, b < W.heap.size → W2.heap[b]? = W.heap[b]? := fun b hb => F.keep b hb rfl
  have hst : ∀ {t : TypeId} {v : Value} {d : DataW H} {ps : List MemPlace}, Hvak.prog.readableRec t = true → t < Hvak.prog.types.size → DataW.Trod enc Hvak.prog W 0 (fun _ => true) true t v d ps → (∀ x ∈ ps, x.block < W.heap.size) → DataW.Trod enc Hvak.prog W2 0 (fun b => decide (b < W.heap.size)) true t v d ps :=
    fun hr hi ht hp => WideElems.Trod_stays Hvak.laidOut hr hi ht (fun x hx => same_kept hk (hp x hx)) fun x hx => decide_eq_true (hp x hx)
  simp only [List.append_nil, List.nil_append, List.mem_append] at hlt
  refine ⟨_, rfl, _, _, _, [], [] ++ (p1 ++ (p2 ++ ([] ++ []))), [], hW', ?_, ?_, rfl, kept_but hk F.os F.out _, fun h => by cases h⟩
  · exact trodAll_mk1 shut_true
  · exact ⟨_, _, hst Hvak.read5 Hvak.in5 h0 (fun x hx => by cases hx), ⟨_, _, hst Hvak.read22 Hvak.in22 h1 (fun x hx => hlt x (.inl hx)), ⟨_, _, hst Hvak.read23 Hvak.in23 h2 (fun x hx => hlt x (.inr hx)), ⟨_, _, hst Hvak.read24 Hvak.in24 h3 (fun x hx => by cases hx), rfl, rfl⟩, rfl⟩, rfl⟩, rfl⟩
theorem stepSameIn_holds : Rows.StepSameInSaid :=
  OpenClaim.holds_of_wide 3 Hvak.f3 rfl rfl rfl rfl rfl rfl rfl ⟨rfl, rfl, rfl, rfl, rfl⟩ rfl rfl rfl rfl rfl fact_name Hvak.func3 facts fact_inst fact_wrap
    (fun os started H enc _ => stepSameIn_lifted os started H enc)
end Go.Proofs.YgvakwGreat
