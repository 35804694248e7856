import Derived.Test.YgvalwGreatF60
set_option linter.unusedVariables false
set_option linter.unusedSimpArgs false
namespace Go.Proofs.YgvalwGreat.X
open Go

section
variable {hi hm : Hp} {K : Value → Hp → Prop}
set_option maxRecDepth 100000 in
set_option maxHeartbeats 4000000 in
theorem wait_ok (hd : Dj hi hm) {b : Nat} {pre post : List Value} {f : YF} {t : TypeId} {so sn : Sl} {x y : Int} {k : Nat} (hb : hm b = some (pre ++ (fCells f ++ post), t)) (hok : f.ok hi) (hx : NtS hi so x) (hy : NtS hi sn y) (hkl : k ≤ f.st.length)
    (hk : ∀ hi' f', Ext hi hi' → f'.ok hi' → (∃ s s1 s2, f' = { f with stS := s, st := f.st.take (f.st.length - k), ooS := s1, oo := if y = 0 then 0 else x, olS := s2, ol := y }) → Dj hi' (hput hm b (pre ++ (fCells f' ++ post), t)) → K (.tuple #[]) (join hi' (hput hm b (pre ++ (fCells f' ++ post), t)))) :
    CallX Hval.prog 210 [.pointer (some ⟨b, pre.length, none⟩), .int .i64 k, sl so, sl sn] (join hi hm) K := by
  refine CallX.of_xf T_ok Hval.func210 rfl (by kernel_rfl) (Nat.le_of_ble_eq_true rfl) ?_; conv => whnf
  have hn := hok.n
  have hsr := hok.stR
  refine LoadX.mid (join_hm hd hb) 8 (by decide) rfl (v := sl f.stS) rfl ?_; conv => whnf
  refine LoadX.mid (join_hm hd hb) 8 (by decide) rfl (v := sl f.stS) rfl ?_; conv => whnf
  have e1 : IntKind.i64.wrap ((f.stS.2.1 : Int) - (k : Int)) = ((f.st.length - k : Nat) : Int) := by rw [wrap_i64 (by omega) (by omega)]; omega
  rw [e1]
  have hst := hok.st.ext (Ext.jl hi hm)
  refine SlcX.gen hst.rd hst.nil hst.le 0 (f.st.length - k) (f.st.length - k) rfl rfl rfl (Nat.zero_le _) (Nat.le_refl _) (by have := hst.le; omega) (.inr (by simp)) ?_; conv => whnf
  rw [bsh_zero]
  have hA : ∀ {h}, Arr h f.stS 1 (f.st.map stCells) → Arr h (f.stS.1, f.st.length - k, f.st.length - k) 1 ((f.st.take (f.st.length - k)).map stCells) := fun {h} a => by
    refine ⟨?_, by simp, fun e he => ?_, fun e he => ?_, Nat.le_refl _, fun hnil => ?_⟩
    · rw [List.map_take]; exact a.pre (n := f.st.length - k) (by omega)
    · obtain ⟨q, -, rfl⟩ := List.mem_map.1 he; rfl
    · obtain ⟨q, -, rfl⟩ := List.mem_map.1 he; rfl
    · have := a.nil hnil; have := a.le; show f.st.length - k = 0; omega
  refine StoreX.mid (f := f) hd hb 8 (by decide) rfl { f with stS := (f.stS.1, f.st.length - k, f.st.length - k), st := f.st.take (f.st.length - k) } rfl fun hd1 => ?_; conv => whnf
  refine CallX.fj hd1 (normN hx fun b2 n2 c2 hi2 e2 g2 hd2 => ?_); conv => whnf
  refine StoreX.mid (f := { f with stS := (f.stS.1, f.st.length - k, f.st.length - k), st := f.st.take (f.st.length - k) }) hd2 (hput_same ..) 6 (by decide) rfl { f with stS := (f.stS.1, f.st.length - k, f.st.length - k), st := f.st.take (f.st.length - k), ooS := (b2, n2, c2), oo := x } rfl fun hd3 => ?_; conv => whnf
  rw [hput_hput] at hd3 ⊢
  refine CallX.fj hd3 (normN (hy.ext e2) fun b4 n4 c4 hi4 e4 g4 hd4 => ?_); conv => whnf
  refine StoreX.mid (f := { f with stS := (f.stS.1, f.st.length - k, f.st.length - k), st := f.st.take (f.st.length - k), ooS := (b2, n2, c2), oo := x }) hd4 (hput_same ..) 7 (by decide) rfl { f with stS := (f.stS.1, f.st.length - k, f.st.length - k), st := f.st.take (f.st.length - k), ooS := (b2, n2, c2), oo := x, olS := (b4, n4, c4), ol := y } rfl fun hd5 => ?_; conv => whnf
  rw [hput_hput] at hd5 ⊢
  have eX := e2.trans e4
  refine isZero_ok ((hy.ext eX).ext (Ext.jl _ _)) ?_; conv => whnf
  have ho := hok.ext eX
  have hstE : ∀ p ∈ f.st.take (f.st.length - k), NtS hi4 p.1 p.2 := fun p hp => ho.stE p (List.mem_of_mem_take hp)
  have hst64 : (f.st.take (f.st.length - k)).length ≤ 64 := by simp; omega
  refine CondX.decI (fun hq => ?_) (fun hq => ?_) <;> conv => whnf
  · refine StoreX.mid (f := { f with stS := (f.stS.1, f.st.length - k, f.st.length - k), st := f.st.take (f.st.length - k), ooS := (b2, n2, c2), oo := x, olS := (b4, n4, c4), ol := y }) hd5 (hput_same ..) 6 (by decide) rfl { f with stS := (f.stS.1, f.st.length - k, f.st.length - k), st := f.st.take (f.st.length - k), ooS := nilS, oo := 0, olS := (b4, n4, c4), ol := y } rfl fun hd6 => ?_; conv => whnf
    rw [hput_hput] at hd6 ⊢
    refine RetX.same (hk hi4 _ eX ⟨ho.pc, ho.gas, ho.val, Nt_nil _, g4, hA ho.st, hstE, hst64, ho.code, ho.input, ho.self, ho.caller, ho.saved⟩ ⟨(f.stS.1, f.st.length - k, f.st.length - k), nilS, (b4, n4, c4), by rw [if_pos hq]⟩ hd6)
  · refine RetX.same (hk hi4 _ eX ⟨ho.pc, ho.gas, ho.val, g2.ext e4, g4, hA ho.st, hstE, hst64, ho.code, ho.input, ho.self, ho.caller, ho.saved⟩ ⟨(f.stS.1, f.st.length - k, f.st.length - k), (b2, n2, c2), (b4, n4, c4), by rw [if_neg hq]⟩ hd5)
end
end Go.Proofs.YgvalwGreat.X
