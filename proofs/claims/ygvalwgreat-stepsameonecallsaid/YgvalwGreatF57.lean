import Derived.Test.YgvalwGreatF56
set_option linter.unusedVariables false
set_option linter.unusedSimpArgs false
namespace Go.Proofs.YgvalwGreat.X
open Go

/-- The lists of a world are no longer than so much. -/
structure YW.sz (N : Nat) (w : YW) : Prop where
  acc : w.acc.length ≤ N
  each : ∀ x ∈ w.acc, x.slots.length ≤ N
  wa : w.wa.length ≤ N
  ws : w.ws.length ≤ N
  logs : w.logs.length ≤ N
  temps : w.temps.length ≤ N
  made : w.made.length ≤ N
  gone : w.gone.length ≤ N
theorem YW.sz.mono {N M : Nat} (h : N ≤ M) {w : YW} (a : w.sz N) : w.sz M :=
  ⟨Nat.le_trans a.acc h, fun x hx => Nat.le_trans (a.each x hx) h, Nat.le_trans a.wa h, Nat.le_trans a.ws h, Nat.le_trans a.logs h, Nat.le_trans a.temps h, Nat.le_trans a.made h, Nat.le_trans a.gone h⟩
theorem YW.sz.room {h hl : Hp} {N : Nat} {w : YW} (hw : w.ok h hl) (a : w.sz N) (hN : N < 2 ^ 30) : w.room := by
  have n1 := hw.acc.n; have n2 := hw.wa.n; have n3 := hw.ws.n; have n5 := hw.temps.n; have n6 := hw.made.n; have n7 := hw.gone.n
  have n4 : w.logs.length = w.sL.2.1 := by have := hw.logs.len; simpa using this
  have := a.acc; have := a.wa; have := a.ws; have := a.logs; have := a.temps; have := a.made; have := a.gone
  refine ⟨by omega, fun x hx => ?_, by omega, by omega, by omega, by omega, by omega, by omega⟩
  have h1 : x.slots.length = x.ss.2.1 := by have := (hw.acc.each x hx).slots.len; simpa using this
  have := a.each x hx
  omega
theorem LvW.sz {hi' : Hp} {w w' : YW} {f : YF} {st : Int} {l : List Int} {N : Nat} (h : LvW hi' w w' f st l) (a : w.sz N) (b : f.saved.sz N) : w'.sz (N + 1) := by
  by_cases h1 : lvS f st l = 0
  · by_cases h2 : crK f.kind = true ∧ l ≠ []
    · obtain ⟨sC, sA, ys, q1, q2, q3⟩ := h.code h1 h2.1 h2.2
      rw [q1]
      have := a.mono (Nat.le_succ N)
      refine ⟨?_, fun x hx => ?_, this.wa, this.ws, this.logs, this.temps, this.made, this.gone⟩
      · exact Nat.le_trans q3.len (Nat.succ_le_succ a.acc)
      · rcases q3.mem x hx with rfl | h3
        · show (getA w.acc f.self).slots.length ≤ N + 1
          unfold getA
          cases hf : w.acc.find? fun x => x.addr = f.self with
          | none => simp [dfl]
          | some y => exact Nat.le_succ_of_le (a.each y (List.mem_of_find?_eq_some hf))
        · exact Nat.le_succ_of_le (a.each x h3)
    · rw [h.keep h1 h2]; exact a.mono (Nat.le_succ N)
  · rw [h.back h1]; exact b.mono (Nat.le_succ N)

theorem LvW.logs {hi' : Hp} {w w' : YW} {f : YF} {st : Int} {l : List Int} (h : LvW hi' w w' f st l) : w' = f.saved ∨ (w'.sL = w.sL ∧ w'.logs = w.logs) := by
  by_cases h1 : lvS f st l = 0
  · by_cases h2 : crK f.kind = true ∧ l ≠ []
    · obtain ⟨sC, sA, ys, q1, q2, q3⟩ := h.code h1 h2.1 h2.2
      rw [q1]; exact .inr ⟨rfl, rfl⟩
    · rw [h.keep h1 h2]; exact .inr ⟨rfl, rfl⟩
  · exact .inl (h.back h1)
theorem LvW.wok {hi hl hi' hl' : Hp} {w w' : YW} {f : YF} {st : Int} {l : List Int} (h : LvW hi' w w' f st l) (hw : w.ok hi hl) (hs : f.saved.ok hi hi) (he : Ext hi hi') (hlg : Arr hl' w'.sL 22 (w'.logs.map logCells)) : w'.ok hi' hl' := by
  by_cases h1 : lvS f st l = 0
  · have b := hw.up he
    by_cases h2 : crK f.kind = true ∧ l ≠ []
    · obtain ⟨sC, sA, ys, q1, q2, q3⟩ := h.code h1 h2.1 h2.2
      rw [q1] at hlg ⊢
      exact ⟨q2, b.wa, b.ws, b.ref, hlg, b.logsE, b.temps, b.made, b.gone⟩
    · rw [h.keep h1 h2] at hlg ⊢
      exact ⟨b.acc, b.wa, b.ws, b.ref, hlg, b.logsE, b.temps, b.made, b.gone⟩
  · have b := hs.up he
    rw [h.back h1] at hlg ⊢
    exact ⟨b.acc, b.wa, b.ws, b.ref, hlg, b.logsE, b.temps, b.made, b.gone⟩

structure StN (N : Nat) (s : YS) (frs : List (YF × List Int)) : Prop where
  now : s.w.sz N
  saved : ∀ q ∈ frs, q.1.saved.sz N

section
variable {hi hm : Hp} {K : Value → Hp → Prop} {c : Nat} {tc : TypeId}
/-- Where the world of a state lies, when other blocks turn. -/
theorem StOK.lgK {s : YS} {frs : List (YF × List Int)} {ret : List Int} {left : Int} (S : StOK hi hm c tc s frs ret left) {hi' hm' : Hp} (he : Ext hi hi')
    (hk : ∀ b y, hm b = some y → b ≠ c → (∀ fb, at0 s.frS fb → b ≠ fb) → (∀ q ∈ frs, ¬ at0 q.1.memS b) → hm' b = some y) :
    ArrF hi' s.w.sL 22 (s.w.logs.map logCells) ∨ (ArrM hm' s.w.sL 22 (s.w.logs.map logCells) ∧ ∀ lb, at0 s.w.sL lb → lb ≠ c ∧ (∀ fb, at0 s.frS fb → lb ≠ fb) ∧ ∀ q ∈ frs, ¬ at0 q.1.memS lb) := by
  rcases S.lg with h1 | ⟨h1, h2⟩
  · exact .inl (h1.ext he)
  · refine .inr ⟨h1.mono fun fb x hs hb => ?_, h2⟩
    obtain ⟨q1, q2, q3⟩ := h2 fb hs
    exact hk fb x hb q1 q2 q3
theorem lg_arr {w : YW} {hi' hm' : Hp} {P : Nat → Prop} (hd : Dj hi' hm') (h : ArrF hi' w.sL 22 (w.logs.map logCells) ∨ (ArrM hm' w.sL 22 (w.logs.map logCells) ∧ ∀ lb, at0 w.sL lb → P lb)) : Arr (join hi' hm') w.sL 22 (w.logs.map logCells) := by
  rcases h with h1 | ⟨h1, -⟩
  · exact h1.1.ext (Ext.jl _ _)
  · exact h1.arr hd

theorem leaveSt_ok {s : YS} {base : List (YF × List Int)} {f : YF} {m ret l : List Int} {left st : Int} {so : Sl} {N : Nat} (S : StOK hi hm c tc s (base ++ [(f, m)]) ret left) (hN : StN N s (base ++ [(f, m)])) (hN30 : N < 2 ^ 30) (hbn : base.length ≤ 100)
    (hgr : f.gas < big) (hst0 : 0 ≤ st) (hst1 : st < 256) (hl : BytS hi so l) (hself : isB f.self) (hpar : ∀ q ∈ base, q.1.gas + f.gas < big ∧ q.1.st.length < 64 ∧ q.1.pc + 1 < big ∧ q.1.ol < 18446744073709551616)
    (hk : ∀ hi' hm' s' frs' left', Ext hi hi' → StOK hi' hm' c tc s' frs' (lvO f st l) left' → StN (N + 1) s' frs' → absW s'.w = lvW (absW s.w) (absW f.saved) (lvS f st l) (crK f.kind) f.self l →
      (∃ w' r fs ph stt lf, s' = { s with w := w', retS := r, frS := fs, phase := ph, status := stt, leftS := lf }) →
      (base = [] → frs' = [] ∧ s'.phase = 2 ∧ s'.status = lvS f st l ∧ left' = lvG f st l) →
      (∀ b0 p pm, base = b0 ++ [(p, pm)] → s'.phase = s.phase ∧ s'.status = s.status ∧ left' = left ∧ ∃ p', frs' = b0 ++ [(p', lvM p pm (lvO f st l))] ∧
        absF (p', lvM p pm (lvO f st l)) = { absF (p, pm) with gas := p.gas + lvG f st l, st := p.st.map Prod.snd ++ [lvF f st l], pc := p.pc + 1, mem := lvM p pm (lvO f st l) }) → K (.tuple #[]) (join hi' hm')) :
    CallX Hval.prog 53 [.pointer (some ⟨c, 0, none⟩), .int .u8 st, sl so] (join hi hm) K := by
  have hokf := S.ok _ (List.mem_append.2 (.inr (List.mem_singleton.2 rfl)))
  have hwr := hN.now.room S.now hN30
  have hfs := hN.saved _ (List.mem_append.2 (.inr (List.mem_singleton.2 rfl)))
  have hfrA : ArrM hm s.frS 60 ((base.map Prod.fst ++ [f]).map fCells) := by
    have := S.frA
    simpa [List.map_append, Function.comp_def] using this
  rcases List.eq_nil_or_concat base with hb | ⟨b0, ⟨p, pm⟩, hb⟩
  · subst hb
    refine leaveLast_ok S.dj S.chain S.now hwr (base := []) rfl (by simp) (by simpa using hfrA) S.frC hokf hgr hst0 hst1 hl fun hi' hm' s' gS oS e hd hs gG gO hLw hc hkeep => ?_
    have hlg : ArrF hi' s'.w.sL 22 (s'.w.logs.map logCells) ∨ (ArrM hm' s'.w.sL 22 (s'.w.logs.map logCells) ∧ ∀ lb, at0 s'.w.sL lb → lb ≠ c ∧ (∀ fb, at0 s'.frS fb → lb ≠ fb) ∧ ∀ q ∈ ([] : List (YF × List Int)), ¬ at0 q.1.memS lb) := by
      rcases hLw.logs with h1 | ⟨h1, h2⟩
      · rw [h1]; exact .inl ⟨hokf.saved.1.logs.ext e, hokf.saved.2⟩
      · rw [h1, h2]
        rcases S.lgK e (hm' := hm') fun b y hb hbc _ _ => hkeep b y hb hbc with h3 | ⟨h3, h4⟩
        · exact .inl h3
        · refine .inr ⟨h3, fun lb hlb => ⟨(h4 lb hlb).1, fun fb hfb => ?_, fun q hq => by cases hq⟩⟩
          rw [hs] at hfb; cases hfb
    have hfrs : s'.frS = nilS := by rw [hs]
    refine hk hi' hm' s' [] (lvG f st l) e ⟨hd, hc, hLw.wok S.now hokf.saved.1 e (lg_arr hd hlg), ?_, fun fb hfb => ?_, fun q hq => (by cases hq), fun q hq => (by cases hq), fun q hq => (by cases hq), List.Pairwise.nil, hlg, ?_, ?_⟩ ⟨hLw.sz hN.now hfs, fun q hq => (by cases hq)⟩ hLw.abs ⟨s'.w, oS, nilS, 2, lvS f st l, gS, hs⟩ (fun _ => ⟨rfl, by rw [hs], by rw [hs], rfl⟩) fun b0 p pm hb => ?_
    · rw [hfrs]; exact ⟨fun b x hb => (by cases hb), fun e he => (by cases he), fun e he => (by cases he), rfl, .inl ⟨rfl, rfl, rfl⟩⟩
    · rw [hfrs] at hfb; cases hfb
    · rw [hs]; exact gO
    · rw [hs]; exact gG
    · simp at hb
  · have hb : base = b0 ++ [(p, pm)] := by simpa using hb
    subst hb
    have hpm : (p, pm) ∈ b0 ++ [(p, pm)] ++ [(f, m)] := by simp
    have hpb : (p, pm) ∈ b0 ++ [(p, pm)] := by simp
    obtain ⟨w1, w2, w3, w4⟩ := hpar _ hpb
    have hp := S.ok _ hpm
    obtain ⟨hfbE, fb, pad, tf, hs, hfb⟩ : True ∧ ∃ fb pad tf, s.frS.1 = some ⟨fb, 0, none⟩ ∧ hm fb = some (((b0 ++ [(p, pm)] ++ [(f, m)]).map fun q => fCells q.1).flatten ++ pad, tf) := by
      rcases S.frA.blk with ⟨-, -, h3⟩ | ⟨mm, pad, t, h1, -, h3, -⟩
      · simp at h3
      · exact ⟨trivial, mm, pad, t, h1, h3⟩
    have hflat : ((b0 ++ [(p, pm)] ++ [(f, m)]).map fun q => fCells q.1).flatten ++ pad = (b0.map fun q => fCells q.1).flatten ++ (fCells p ++ (fCells f ++ pad)) := by simp
    rw [hflat] at hfb
    have hpl : ((b0.map fun q => fCells q.1).flatten).length = (b0.map Prod.fst).length * 60 := by
      rw [flat_len (sz := 60)]
      · simp
      · intro x hx
        obtain ⟨q, hq, rfl⟩ := List.mem_map.1 hx
        have := S.ok q (by simp [hq])
        exact fCells_len this.self this.caller
    have hcfb : fb ≠ c := (S.frC fb hs).symm
    have hmc := S.memC _ hpm
    refine leaveUp_ok S.dj S.chain S.now hwr (base := b0.map Prod.fst ++ [p]) (b0 := b0.map Prod.fst) rfl (by simpa using hbn) (by simpa [List.map_append] using hfrA) S.frC hs hpl hfb hokf hgr hst0 hst1 hl hp w1 w2 w3 w4 (S.mem _ hpm) hself (fun mb h => ⟨(hmc mb h).1, (hmc mb h).2 fb hs⟩) fun hi' hm' s' p' oS e hd hse gO hLw hc hp' hpe hfb' hmem' hkeep => ?_
    obtain ⟨gS, stS, pS, fS, hpe⟩ := hpe
    have hpmS : p'.memS = p.memS := by rw [hpe]
    have hfr' : s'.frS = (s.frS.1, (b0.map Prod.fst ++ [p]).length, (b0.map Prod.fst ++ [p]).length) := by rw [hse]
    have hat : ∀ b, at0 s'.frS b ↔ at0 s.frS b := fun b => by rw [hfr']; exact Iff.rfl
    have hfbu : ∀ b, at0 s.frS b → b = fb := fun b hb => by
      have : some (⟨b, 0, none⟩ : Addr) = some ⟨fb, 0, none⟩ := hb.symm.trans hs
      cases this; rfl
    have hdis := S.dis
    rw [List.append_assoc, List.pairwise_append] at hdis
    obtain ⟨hdis0, hdis1, hdis2⟩ := hdis
    have hb0p : ∀ q ∈ b0, ∀ mb, at0 q.1.memS mb → ¬ at0 p.memS mb := fun q hq => hdis2 q hq (p, pm) (by simp)
    have hkeep' : ∀ b y, hm b = some y → b ≠ c → (∀ fb, at0 s.frS fb → b ≠ fb) → (∀ q ∈ b0 ++ [(p, pm)] ++ [(f, m)], ¬ at0 q.1.memS b) → hm' b = some y := fun b y hb hbc hbf hbm =>
      hkeep b y hb hbc (hbf fb hs) (fun mb h he => hbm _ hpm (by rw [he]; exact h))
    have hlg : ArrF hi' s'.w.sL 22 (s'.w.logs.map logCells) ∨ (ArrM hm' s'.w.sL 22 (s'.w.logs.map logCells) ∧ ∀ lb, at0 s'.w.sL lb → lb ≠ c ∧ (∀ fb, at0 s'.frS fb → lb ≠ fb) ∧ ∀ q ∈ b0 ++ [(p', lvM p pm (lvO f st l))], ¬ at0 q.1.memS lb) := by
      rcases hLw.logs with h1 | ⟨h1, h2⟩
      · rw [h1]; exact .inl ⟨hokf.saved.1.logs.ext e, hokf.saved.2⟩
      · rw [h1, h2]
        rcases S.lgK e hkeep' with h3 | ⟨h3, h4⟩
        · exact .inl h3
        · refine .inr ⟨h3, fun lb hlb => ⟨(h4 lb hlb).1, fun fb' hfb' => (h4 lb hlb).2.1 fb' ((hat fb').1 hfb'), fun q hq => ?_⟩⟩
          rcases List.mem_append.1 hq with h5 | h5
          · exact (h4 lb hlb).2.2 q (by simp [h5])
          · rw [List.mem_singleton.1 h5]
            show ¬ at0 p'.memS lb
            rw [hpmS]; exact (h4 lb hlb).2.2 _ hpm
    refine hk hi' hm' s' (b0 ++ [(p', lvM p pm (lvO f st l))]) left e ⟨hd, hc, hLw.wok S.now hokf.saved.1 e (lg_arr hd hlg), ?_, fun fb' hfb' => S.frC fb' ((hat fb').1 hfb'), fun q hq => ?_, fun q hq => ?_, fun q hq => ?_, ?_, hlg, ?_, ?_⟩ ⟨hLw.sz hN.now hfs, fun q hq => ?_⟩ hLw.abs
      ⟨s'.w, oS, (s.frS.1, (b0.map Prod.fst ++ [p]).length, (b0.map Prod.fst ++ [p]).length), s.phase, s.status, s.leftS, hse⟩ (fun h => by simp at h) fun b0' q qm hb => ?_
    · have hl60 : ∀ x ∈ (b0 ++ [(p', lvM p pm (lvO f st l))]).map (fun q => fCells q.1), x.length = 60 := fun x hx => by
        obtain ⟨q, hq, rfl⟩ := List.mem_map.1 hx
        rcases List.mem_append.1 hq with h5 | h5
        · have := S.ok q (by simp [h5]); exact fCells_len this.self this.caller
        · rw [List.mem_singleton.1 h5]; exact fCells_len hp'.self hp'.caller
      rw [hfr']
      refine ⟨fun b x hb => (by cases hb), hl60, fun x hx => ?_, by simp, .inr ⟨fb, fCells f ++ pad, tf, hs, rfl, ?_, Nat.le_refl _, by simp⟩⟩
      · obtain ⟨q, hq, rfl⟩ := List.mem_map.1 hx
        exact fCells_one _
      · rw [hfb']; simp
    · rcases List.mem_append.1 hq with h5 | h5
      · exact (S.ok q (by simp [h5])).ext e
      · rw [List.mem_singleton.1 h5]; exact hp'
    · rcases List.mem_append.1 hq with h5 | h5
      · refine (S.mem q (by simp [h5])).keep fun mb x hmb hx => ?_
        have h6 := S.memC q (by simp [h5]) mb hmb
        exact hkeep mb x hx h6.1 (h6.2 fb hs) (fun mb' h' he => hb0p q h5 mb hmb (by rw [he]; exact h'))
      · rw [List.mem_singleton.1 h5]
        show MemB hm' p'.memS _
        rw [hpmS]; exact hmem'
    · intro mb hmb
      rcases List.mem_append.1 hq with h5 | h5
      · have h6 := S.memC q (by simp [h5]) mb hmb
        exact ⟨h6.1, fun fb' hfb' => h6.2 fb' ((hat fb').1 hfb')⟩
      · rw [List.mem_singleton.1 h5] at hmb
        have hmb : at0 p'.memS mb := hmb
        rw [hpmS] at hmb
        exact ⟨(hmc mb hmb).1, fun fb' hfb' => (hmc mb hmb).2 fb' ((hat fb').1 hfb')⟩
    · rw [List.pairwise_append]
      refine ⟨hdis0, by simp, fun q hq r hr => ?_⟩
      rw [List.mem_singleton.1 hr]
      intro mb hmb
      show ¬ at0 p'.memS mb
      rw [hpmS]; exact hb0p q hq mb hmb
    · rw [hse]; exact gO
    · rw [hse]; exact S.left.ext e
    · rcases List.mem_append.1 hq with h5 | h5
      · exact (hN.saved q (by simp [h5])).mono (Nat.le_succ N)
      · rw [List.mem_singleton.1 h5]
        show p'.saved.sz (N + 1)
        rw [hpe]; exact (hN.saved _ hpm).mono (Nat.le_succ N)
    · have hb' := List.append_inj' hb rfl
      obtain ⟨rfl, h6⟩ := hb'
      simp only [List.cons.injEq, Prod.mk.injEq, and_true] at h6
      obtain ⟨rfl, rfl⟩ := h6
      refine ⟨by rw [hse], by rw [hse], rfl, p', rfl, ?_⟩
      rw [hpe]
      simp [absF]
end
end Go.Proofs.YgvalwGreat.X
