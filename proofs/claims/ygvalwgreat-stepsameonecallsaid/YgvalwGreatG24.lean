import Derived.Test.YgvalwGreatG23
set_option linter.unusedVariables false
set_option linter.unusedSimpArgs false
namespace Go.Proofs.YgvalwGreat.X
open Go

section
variable {hi hm : Hp} {K : Value → Hp → Prop} {c : Nat} {tc : TypeId} {s : YS} {base : List (YF × List Int)} {f : YF} {m ret : List Int} {left : Int} {N : Nat}
/-- A grown memory. -/
theorem StOK.setGrow {hm' : Hp} {f' : YF} {m' : List Int} {fb : Nat} {pad : List Value} {tf : TypeId} (S : StOK hi hm c tc s (base ++ [(f, m)]) ret left) (hfb : at0 s.frS fb) (hb : hm fb = some (preC base ++ (fCells f ++ pad), tf)) (hd : Dj hi hm') (hf : ∃ s1, f' = { f with memS := s1 }) (hb' : hm' fb = some (preC base ++ (fCells f' ++ pad), tf)) (hM : MemB hm' f'.memS m')
    (hnew : ∀ mb, f'.memS.1 = some ⟨mb, 0, none⟩ → hm mb = none ∨ f.memS.1 = some ⟨mb, 0, none⟩) (hkeep : ∀ b y, hm b = some y → b ≠ fb → hm' b = some y) : StOK hi hm' c tc s (base ++ [(f', m')]) ret left := by
  obtain ⟨s1, hf⟩ := hf
  have hu : ∀ b, at0 s.frS b → b = fb := fun b hb => by
    have : some (⟨b, 0, none⟩ : Addr) = some ⟨fb, 0, none⟩ := hb.symm.trans hfb
    cases this; rfl
  have hft : (f, m) ∈ base ++ [(f, m)] := by simp
  have hmem : ∀ q ∈ base ++ [(f', m')], q ∈ base ∨ q = (f', m') := fun q hq => by simpa using hq
  have hcf : c ≠ fb := S.frC fb hfb
  have hdis := S.dis
  rw [List.pairwise_append] at hdis
  have hfc : fCells f' = fCells f' := rfl
  have hok' : f'.ok hi := by
    have q := S.okT
    rw [hf]; exact ⟨q.pc, q.gas, q.val, q.oo, q.ol, q.st, q.stE, q.stR, q.code, q.input, q.self, q.caller, q.saved⟩
  have sep : ∀ b y, hm b = some y → (∀ mb, f.memS.1 = some ⟨mb, 0, none⟩ → b ≠ mb) → ¬ at0 f'.memS b := fun b y hb hn h => by
    rcases hnew b h with h1 | h1
    · rw [hb] at h1; cases h1
    · exact hn b h1 rfl
  have hlg : ArrF hi s.w.sL 22 (s.w.logs.map logCells) ∨ (ArrM hm' s.w.sL 22 (s.w.logs.map logCells) ∧ ∀ lb, at0 s.w.sL lb → lb ≠ c ∧ (∀ fb, at0 s.frS fb → lb ≠ fb) ∧ ∀ q ∈ base ++ [(f', m')], ¬ at0 q.1.memS lb) := by
    rcases S.lg with h1 | ⟨h1, h2⟩
    · exact .inl h1
    · refine .inr ⟨h1.mono fun lb x hs hb => hkeep lb x hb ((h2 lb hs).2.1 fb hfb), fun lb hlb => ⟨(h2 lb hlb).1, (h2 lb hlb).2.1, fun q hq => ?_⟩⟩
      rcases hmem q hq with h5 | h5
      · exact (h2 lb hlb).2.2 q (by simp [h5])
      · rw [h5]
        rcases h1.blk with ⟨h3, -⟩ | ⟨mm, pad, t, h3, -, h4, -⟩
        · rw [at0, h3] at hlb; cases hlb
        · have : some (⟨lb, 0, none⟩ : Addr) = some ⟨mm, 0, none⟩ := hlb.symm.trans h3
          cases this
          exact sep lb _ h4 fun mb hmb he => (h2 lb hlb).2.2 _ hft (by rw [he]; exact hmb)
  have w := S.now
  refine ⟨hd, hkeep _ _ S.chain hcf, ⟨w.acc, w.wa, w.ws, w.ref, lg_arr hd hlg, w.logsE, w.temps, w.made, w.gone⟩, ?_, S.frC, fun q hq => ?_, fun q hq => ?_, fun q hq => ?_, ?_, hlg, S.ret, S.left⟩
  · have hn := S.frA.len
    rcases S.frA.blk with ⟨-, -, h3⟩ | ⟨mm, pad', t, h1, -, h3, h4, h5⟩
    · simp at h3
    · obtain rfl := hu mm h1
      rw [hb] at h3
      have he : preC base ++ (fCells f ++ pad) = (preC base ++ fCells f) ++ pad' := by
        have := congrArg Prod.fst (Option.some.inj h3)
        simpa [preC] using this
      have hpp : pad = pad' := by
        rw [← List.append_assoc] at he
        exact List.append_cancel_left he
      subst hpp
      refine ⟨fun b x hb => (by cases hb), fun x hx => ?_, fun x hx => ?_, by simpa using hn, .inr ⟨mm, pad, tf, h1, rfl, ?_, h4, h5⟩⟩
      · obtain ⟨q, hq, rfl⟩ := List.mem_map.1 hx
        rcases hmem q hq with h6 | h6
        · have := S.ok q (by simp [h6]); exact fCells_len this.self this.caller
        · rw [h6]; exact fCells_len hok'.self hok'.caller
      · obtain ⟨q, hq, rfl⟩ := List.mem_map.1 hx
        exact fCells_one _
      · rw [hb']; simp [preC]
  · rcases hmem q hq with h5 | h5
    · exact S.ok q (by simp [h5])
    · rw [h5]; exact hok'
  · rcases hmem q hq with h5 | h5
    · exact (S.mem q (by simp [h5])).keep fun mb x hmb hx => hkeep mb x hx ((S.memC q (by simp [h5]) mb hmb).2 fb hfb)
    · rw [h5]; exact hM
  · intro mb hmb
    rcases hmem q hq with h5 | h5
    · exact S.memC q (by simp [h5]) mb hmb
    · rw [h5] at hmb
      rcases hnew mb hmb with h6 | h6
      · refine ⟨fun e => ?_, fun fb' hfb' e => ?_⟩
        · rw [e, S.chain] at h6; cases h6
        · rw [e, hu fb' hfb', hb] at h6; cases h6
      · exact S.memC (f, m) hft mb h6
  · rw [List.pairwise_append]
    refine ⟨hdis.1, by simp, fun q hq r hr => ?_⟩
    rw [List.mem_singleton.1 hr]
    intro mb hmb h
    obtain ⟨-, -, h6 | ⟨mb', h6, h7⟩⟩ := S.mem q (by simp [hq])
    · rw [at0, h6.1] at hmb; cases hmb
    · have : some (⟨mb, 0, none⟩ : Addr) = some ⟨mb', 0, none⟩ := hmb.symm.trans (by rw [h6])
      cases this
      exact sep mb _ h7 (fun mb2 hmb2 he => hdis.2.2 q hq (f, m) (by simp) mb hmb (by rw [he]; exact hmb2)) h
end
end Go.Proofs.YgvalwGreat.X
