import Derived.Test.YgvalwGreatF57
set_option linter.unusedVariables false
set_option linter.unusedSimpArgs false
namespace Go.Proofs.YgvalwGreat.X
open Go

section
variable {hi hm : Hp} {K : Value → Hp → Prop} {c : Nat} {tc : TypeId} {s : YS} {base : List (YF × List Int)} {f : YF} {m ret : List Int} {left : Int}
def preC (base : List (YF × List Int)) : List Value := (base.map fun q => fCells q.1).flatten
theorem StOK.preL (S : StOK hi hm c tc s (base ++ [(f, m)]) ret left) : (preC base).length = base.length * 60 := by
  unfold preC
  rw [flat_len (sz := 60)]
  · simp
  · intro x hx
    obtain ⟨q, hq, rfl⟩ := List.mem_map.1 hx
    have := S.ok q (by simp [hq])
    exact fCells_len this.self this.caller
theorem StOK.top (S : StOK hi hm c tc s (base ++ [(f, m)]) ret left) : ∃ fb pad tf, at0 s.frS fb ∧ hm fb = some (preC base ++ (fCells f ++ pad), tf) ∧ s.frS.2.1 = base.length + 1 ∧ (s.frS.2.2 - s.frS.2.1) * 60 ≤ pad.length ∧ s.frS.2.1 ≤ s.frS.2.2 := by
  have hn := S.frA.len
  rcases S.frA.blk with ⟨-, -, h3⟩ | ⟨mm, pad, t, h1, -, h3, h4, h5⟩
  · simp at h3
  · refine ⟨mm, pad, t, h1, ?_, ?_, h5, h4⟩
    · rw [h3]; simp [preC]
    · simpa using hn.symm
theorem StOK.okT (S : StOK hi hm c tc s (base ++ [(f, m)]) ret left) : f.ok hi := S.ok (f, m) (by simp)
theorem StOK.memT (S : StOK hi hm c tc s (base ++ [(f, m)]) ret left) : MemB hm f.memS m := S.mem (f, m) (by simp)

/-- The immutable part grows. -/
theorem StOK.ext {frs : List (YF × List Int)} (S : StOK hi hm c tc s frs ret left) {hi' : Hp} (he : Ext hi hi') (hd : Dj hi' hm) : StOK hi' hm c tc s frs ret left := by
  have hlg := S.lgK he (hm' := hm) fun b y hb _ _ _ => hb
  have b := S.now.up he
  exact ⟨hd, S.chain, ⟨b.acc, b.wa, b.ws, b.ref, lg_arr hd hlg, b.logsE, b.temps, b.made, b.gone⟩, S.frA, S.frC, fun q hq => (S.ok q hq).ext he, S.mem, S.memC, S.dis, hlg, S.ret.ext he, S.left.ext he⟩

/-- The top frame turns, its memory's block does not. -/
theorem StOK.setTop (S : StOK hi hm c tc s (base ++ [(f, m)]) ret left) {fb : Nat} {pad : List Value} {tf : TypeId} (hfb : at0 s.frS fb) (hb : hm fb = some (preC base ++ (fCells f ++ pad), tf)) {f' : YF} (hok : f'.ok hi) (hmS : f'.memS = f.memS) :
    StOK hi (hput hm fb (preC base ++ (fCells f' ++ pad), tf)) c tc s (base ++ [(f', m)]) ret left := by
  have hu : ∀ b, at0 s.frS b → b = fb := fun b hb => by
    have : some (⟨b, 0, none⟩ : Addr) = some ⟨fb, 0, none⟩ := hb.symm.trans hfb
    cases this; rfl
  have hcf : c ≠ fb := S.frC fb hfb
  have hd := S.dj.put (y := (preC base ++ (fCells f' ++ pad), tf)) hb
  have hmem : ∀ q ∈ base ++ [(f', m)], ∃ q0 ∈ base ++ [(f, m)], q.1.memS = q0.1.memS ∧ q.2 = q0.2 := fun q hq => by
    rcases List.mem_append.1 hq with h5 | h5
    · exact ⟨q, by simp [h5], rfl, rfl⟩
    · rw [List.mem_singleton.1 h5]; exact ⟨(f, m), by simp, hmS, rfl⟩
  have hlg : ArrF hi s.w.sL 22 (s.w.logs.map logCells) ∨ (ArrM (hput hm fb (preC base ++ (fCells f' ++ pad), tf)) s.w.sL 22 (s.w.logs.map logCells) ∧ ∀ lb, at0 s.w.sL lb → lb ≠ c ∧ (∀ fb, at0 s.frS fb → lb ≠ fb) ∧ ∀ q ∈ base ++ [(f', m)], ¬ at0 q.1.memS lb) := by
    rcases S.lgK (Ext.refl _) (hm' := hput hm fb (preC base ++ (fCells f' ++ pad), tf)) fun b y hb' _ hbf _ => by rw [hput_ne (hbf fb hfb)]; exact hb' with h3 | ⟨h3, h4⟩
    · exact .inl h3
    · refine .inr ⟨h3, fun lb hlb => ⟨(h4 lb hlb).1, (h4 lb hlb).2.1, fun q hq => ?_⟩⟩
      obtain ⟨q0, h5, h6, -⟩ := hmem q hq
      rw [h6]; exact (h4 lb hlb).2.2 q0 h5
  have w := S.now
  refine ⟨hd, by rw [hput_ne hcf]; exact S.chain, ⟨w.acc, w.wa, w.ws, w.ref, lg_arr hd hlg, w.logsE, w.temps, w.made, w.gone⟩, ?_, S.frC, fun q hq => ?_, fun q hq => ?_, fun q hq => ?_, ?_, hlg, S.ret, S.left⟩
  · have hn := S.frA.len
    have hl60 : ∀ x ∈ (base ++ [(f', m)]).map (fun q => fCells q.1), x.length = 60 := fun x hx => by
      obtain ⟨q, hq, rfl⟩ := List.mem_map.1 hx
      rcases List.mem_append.1 hq with h5 | h5
      · have := S.ok q (by simp [h5]); exact fCells_len this.self this.caller
      · rw [List.mem_singleton.1 h5]; exact fCells_len hok.self hok.caller
    rcases S.frA.blk with ⟨-, -, h3⟩ | ⟨mm, pad', t, h1, -, h3, h4, h5⟩
    · simp at h3
    · obtain rfl := hu mm h1
      rw [hb] at h3
      have he : preC base ++ (fCells f ++ pad) = (preC base ++ fCells f) ++ pad' := by
        have := congrArg Prod.fst (Option.some.inj h3)
        simpa [preC] using this
      have hpp : pad = pad' := by
        rw [← List.append_assoc] at he
        exact List.append_cancel_left he
      subst hpp
      refine ⟨fun b x hb => (by cases hb), hl60, fun x hx => ?_, by simpa using hn, .inr ⟨mm, pad, tf, h1, rfl, ?_, h4, h5⟩⟩
      · obtain ⟨q, hq, rfl⟩ := List.mem_map.1 hx
        exact fCells_one _
      · rw [hput_same]; simp [preC]
  · rcases List.mem_append.1 hq with h5 | h5
    · exact S.ok q (by simp [h5])
    · rw [List.mem_singleton.1 h5]; exact hok
  · obtain ⟨q0, h5, h6, h7⟩ := hmem q hq
    rw [h6, h7]
    refine (S.mem q0 h5).keep fun mb x hmb hx => ?_
    rw [hput_ne ((S.memC q0 h5 mb hmb).2 fb hfb)]; exact hx
  · obtain ⟨q0, h5, h6, -⟩ := hmem q hq
    rw [h6]; exact S.memC q0 h5
  · have hdis := S.dis
    rw [List.pairwise_append] at hdis ⊢
    refine ⟨hdis.1, by simp, fun q hq r hr => ?_⟩
    rw [List.mem_singleton.1 hr]
    show ∀ mb, at0 q.1.memS mb → ¬ at0 f'.memS mb
    rw [hmS]; exact hdis.2.2 q hq (f, m) (by simp)
end
end Go.Proofs.YgvalwGreat.X
