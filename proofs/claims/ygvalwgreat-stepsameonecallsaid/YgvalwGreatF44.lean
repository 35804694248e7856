import Derived.Test.YgvalwGreatF43
set_option linter.unusedVariables false
set_option linter.unusedSimpArgs false
namespace Go.Proofs.YgvalwGreat.X
open Go

theorem AppendX.full {h : Hp} {e : TypeId} {sz bytes len : Nat} {z : List Value} {base : Option Addr} {nw : Option (List Value)} {old new : List Value} {K : Value → Hp → Prop} (hold : rd h base (len * sz) = some old) (hnw : nw = some new) (hby : 0 < bytes) (hroom : (len + 1) * bytes ≤ 2 ^ 47)
    (hk : ∀ nc m, len + 1 ≤ nc → Bd h m → K (.slice (some ⟨m, 0, none⟩) (len + 1) nc) (hput h m (old ++ new ++ zeros z (nc - (len + 1)), e))) : AppendX h e sz bytes z base len len nw 1 K :=
  ⟨hby, old, new, hold, hnw, hroom, fun hle => absurd hle (by omega), fun _ nc hnc m hm => hk nc m hnc hm⟩
theorem Arr.pre {h : Hp} {s : Sl} {sz : Nat} {es : List (List Value)} (a : Arr h s sz es) {n : Nat} (hn : n ≤ s.2.1) : X.rd h s.1 (n * sz) = some (es.take n).flatten := by
  have h1 := rd_bsh (l := 0) (k := n) (m := n) (sz := sz) a.rd (by rw [Nat.zero_add]; exact Nat.mul_le_mul_right _ hn) (fun h => h)
  rw [bsh_zero] at h1
  rw [h1]
  congr 1
  have hl := flat_len a.szs
  have ht : ∀ e ∈ es.take n, e.length = sz := fun e he => a.szs e (List.mem_of_mem_take he)
  have hl2 := flat_len ht
  have e1 : es.flatten = (es.take n).flatten ++ (es.drop n).flatten := by rw [← List.flatten_append, List.take_append_drop]
  have hnl : (es.take n).length = n := by rw [List.length_take, a.len]; omega
  rw [hnl] at hl2
  simp only [seg, Nat.zero_mul, List.drop_zero]
  rw [e1, ← hl2, List.take_left]
theorem Dj.hn {hi hm : Hp} (hd : Dj hi hm) {m : Nat} {x} (hmn : hm m = none) : Dj (hput hi m x) hm := fun c => by
  by_cases hc : c = m
  · subst hc; exact .inr hmn
  · rw [hput_ne hc]; exact hd c

section
variable {hi hm : Hp} {K : Value → Hp → Prop}
set_option maxRecDepth 100000 in
set_option maxHeartbeats 4000000 in
theorem answer_ok (hd : Dj hi hm) {b : Nat} {pre post : List Value} {f : YF} {t : TypeId} {sw : Sl} {w : Int} {k : Nat} (hb : hm b = some (pre ++ (fCells f ++ post), t)) (hok : f.ok hi) (hw : NtS hi sw w) (hkl : k ≤ f.st.length) (hk64 : f.st.length - k + 1 ≤ 64) (hpc : f.pc + 1 < big)
    (hk : ∀ hi' f', Ext hi hi' → f'.ok hi' → (∃ s s', f' = { f with stS := s, st := f.st.take (f.st.length - k) ++ [(sw, w)], pcS := s', pc := f.pc + 1 }) → Dj hi' (hput hm b (pre ++ (fCells f' ++ post), t)) → K (.tuple #[]) (join hi' (hput hm b (pre ++ (fCells f' ++ post), t)))) :
    CallX Hval.prog 126 [.pointer (some ⟨b, pre.length, none⟩), .int .i64 k, sl sw] (join hi hm) K := by
  refine CallX.of_xf T_ok Hval.func126 rfl (by kernel_rfl) (Nat.le_of_ble_eq_true rfl) ?_; conv => whnf
  have hn := hok.n
  have hsr := hok.stR
  refine LoadX.mid (join_hm hd hb) 8 (by decide) rfl (v := sl f.stS) rfl ?_; conv => whnf
  refine LoadX.mid (join_hm hd hb) 8 (by decide) rfl (v := sl f.stS) rfl ?_; conv => whnf
  have e1 : IntKind.i64.wrap ((f.stS.2.1 : Int) - (k : Int)) = ((f.st.length - k : Nat) : Int) := by rw [wrap_i64 (by omega) (by omega)]; omega
  rw [e1]
  have hst := hok.st.ext (Ext.jl hi hm)
  refine SlcX.gen hst.rd hst.nil hst.le 0 (f.st.length - k) (f.st.length - k) rfl rfl rfl (Nat.zero_le _) (Nat.le_refl _) (by have := hst.le; omega) (.inr (by simp)) ?_; conv => whnf
  rw [bsh_zero]
  refine Ob.mk (by first | decide | omega) ?_; conv => whnf
  refine BoxX.j hd fun m8 hi8 hm8 hd8 he8 => ?_; conv => whnf
  have hst8 := (hok.st.ext he8).ext (Ext.jl _ hm)
  refine AppendX.full (sz := 1) (bytes := 24) (len := f.st.length - k) (hst8.pre (by omega)) (show rd _ (some ⟨m8, 0, none⟩) (1 * 1) = some [sl sw] from rd_ext (Ext.jl _ hm) (rd_own (v := [sl sw]) rfl)) (by decide) (by omega) fun nc mN hnc hmN => ?_; conv => whnf
  obtain ⟨hinN, hmnN⟩ := join_none (hmN.none (Nat.le_refl _))
  rw [join_put]
  have hze : (zeros z106 (nc - (f.st.length - k + 1))).length = (nc - (f.st.length - k + 1)) * 1 := zeros_len ..
  generalize hPad : zeros z106 (nc - (f.st.length - k + 1)) = pad at hze
  have hPad' : zeros (106, y106).snd.zero (nc - (f.st.length - k - 0 + 1)) = pad := hPad
  erw [hPad']
  have hdN : Dj (hput (hput hi m8 ([sl sw], 106)) mN (((f.st.map stCells).take (f.st.length - k)).flatten ++ [sl sw] ++ pad, 106)) hm := Dj.hn (hd8.hp) hmnN
  have heN : Ext hi (hput (hput hi m8 ([sl sw], 106)) mN (((f.st.map stCells).take (f.st.length - k)).flatten ++ [sl sw] ++ pad, 106)) := (Ext.new hi8).trans (Ext.new hinN)
  have hAN : Arr (hput (hput hi m8 ([sl sw], 106)) mN (((f.st.map stCells).take (f.st.length - k)).flatten ++ [sl sw] ++ pad, 106)) (some ⟨mN, 0, none⟩, f.st.length - k + 1, nc) 1 ((f.st.take (f.st.length - k) ++ [(sw, w)]).map stCells) := by
    have B : Bld (fun _ => none) (hput (hput hi m8 ([sl sw], 106)) mN (((f.st.map stCells).take (f.st.length - k)).flatten ++ [sl sw] ++ pad, 106)) 1 (some ⟨mN, 0, none⟩, f.st.length - k + 1, nc) ((f.st.take (f.st.length - k) ++ [(sw, w)]).map stCells) := by
      refine ⟨fun c x hc => (by cases hc), fun e he => ?_, fun e he => ?_, ?_, .inr ⟨mN, pad, 106, rfl, rfl, ?_, hnc, Nat.le_of_eq hze.symm⟩⟩
      · obtain ⟨q, -, rfl⟩ := List.mem_map.1 he; rfl
      · obtain ⟨q, -, rfl⟩ := List.mem_map.1 he; rfl
      · simp <;> omega
      · rw [hput_same]; simp [stCells, List.map_take]
    exact B.arr
  refine StoreX.mid (f := f) hdN hb 8 (by decide) rfl { f with stS := (some ⟨mN, 0, none⟩, f.st.length - k + 1, nc), st := f.st.take (f.st.length - k) ++ [(sw, w)] } rfl fun hd9 => ?_; conv => whnf
  refine DrawX.go T_ok hM Hval.func126 (tb := dr126) rfl (by kernel_rfl) ?_; conv => whnf
  refine LoadX.mid (join_hm hd9 (hput_same ..)) 3 (by decide) rfl (v := sl f.pcS) rfl ?_; conv => whnf
  refine CallX.fj hd9 (num_ok (by omega) (by omega) fun b1 n1 c1 hi1 f1 g1 hd1 => ?_); conv => whnf
  refine Ob.mk (ldV_mid (join_hm hd1 (hput_same ..)) 3 (by decide) rfl (v := sl f.pcS) rfl) ?_; conv => whnf
  refine CallX.fj hd1 (addN ((hok.pc.ext heN).ext f1) g1 hpc fun b2 n2 c2 hi2 f2 g2 hd2 => ?_); conv => whnf
  refine StoreX.mid (f := { f with stS := (some ⟨mN, 0, none⟩, f.st.length - k + 1, nc), st := f.st.take (f.st.length - k) ++ [(sw, w)] }) hd2 (hput_same ..) 3 (by decide) rfl { f with stS := (some ⟨mN, 0, none⟩, f.st.length - k + 1, nc), st := f.st.take (f.st.length - k) ++ [(sw, w)], pcS := (b2, n2, c2), pc := f.pc + 1 } rfl fun hd3 => ?_; conv => whnf
  rw [hput_hput] at hd3 ⊢
  have heA := (heN.trans f1).trans f2
  have ho := hok.ext heA
  refine RetX.same (hk hi2 _ heA ⟨g2, ho.gas, ho.val, ho.oo, ho.ol, (hAN.ext f1).ext f2, fun p hp => ?_, ?_, ho.code, ho.input, ho.self, ho.caller, ho.saved⟩ ⟨_, _, rfl⟩ hd3)
  · rcases List.mem_append.1 hp with h1 | h1
    · exact ho.stE p (List.mem_of_mem_take h1)
    · rw [List.mem_singleton.1 h1]; exact hw.ext heA
  · simp <;> omega
end
end Go.Proofs.YgvalwGreat.X
