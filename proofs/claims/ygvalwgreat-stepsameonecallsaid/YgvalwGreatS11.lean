import Derived.Test.YgvalwGreatS10
set_option linter.unusedVariables false
set_option linter.unusedSimpArgs false
namespace Go.Proofs.YgvalwGreat.X
open Go

abbrev VwK (h0 : Hp) (V : VW) (K' : Value → Hp → Prop) : Prop := ∀ h' sS sM sR, Ext h0 h' → VwOK h' V sS sM sR → K' (.agg (V.cells sS sM sR).toArray) h'
/-- Both sides show the same. -/
structure See (h : Hp) (eb c : Nat) (V : VW) : Prop where
  len : (V.self.length = 20 ∧ isB V.self) ∧ (V.caller.length = 20 ∧ isB V.caller) ∧ V.stack.length < 2 ^ 30
  e : ∀ (h0 : Hp) (K' : Value → Hp → Prop), Ext h h0 → VwK h0 V K' → CallX Hval.prog 13 [.pointer (some ⟨eb, 0, none⟩)] h0 K'
  y : ∀ (h0 : Hp) (K' : Value → Hp → Prop), Ext h h0 → VwK h0 V K' → CallX Hval.prog 14 [.pointer (some ⟨c, 0, none⟩)] h0 K'
structure Stop (h : Hp) (eb c : Nat) (V : VW) : Prop where
  see : See h eb c V
  e : ∀ (h0 : Hp) (K' : Value → Hp → Prop), Ext h h0 → K' (.bool false) h0 → CallX Hval.prog 15 [.pointer (some ⟨eb, 0, none⟩)] h0 K'
  y : ∀ (h0 : Hp) (K' : Value → Hp → Prop), Ext h h0 → K' (.bool false) h0 → CallX Hval.prog 16 [.pointer (some ⟨c, 0, none⟩)] h0 K'
section
variable {hz hi hm hb hY h : Hp} {K : Value → Hp → Prop} {eb : Nat} {m : MS} {t : Nat} {w : AW} {sn : List AW} {v : VS} {mems : Nat → List Int} {stale : List Int} {c : Nat} {tc : TypeId} {s : YS} {frs : List (YF × List Int)} {ret : List Int} {left s0 l0 : Int} {N : Nat} {V : VW}
theorem ext_j2 (hd0 : Dj hi hm) {h' : Hp} (he : Ext (join hi hm) h') : ∃ hi', Ext hi hi' ∧ Dj hi' hm ∧ h' = join hi' hm := by
  obtain ⟨hi', e1, d1, e2, -⟩ := own_j2 (s := nilS) (l := []) hd0 he (Byt_nil _) (fun a ha => by cases ha)
  exact ⟨hi', e1, d1, e2⟩
theorem ysee (S : StOK hi hm c tc s frs ret left) (hN : StN N s frs) (hN30 : N < 2 ^ 30) (hph : s.phase = 0 ∨ s.phase = 1 ∨ s.phase = 2) (hsW : ∀ q ∈ frs, stW q.1.st) (hfl : frs.length ≤ 200) (hne : s.phase = 1 → frs ≠ []) (he : Ext (join hi hm) h) (hk : VwK h (viewA (absS s frs ret left)) K) : CallX Hval.prog 14 [.pointer (some ⟨c, 0, none⟩)] h K := by
  obtain ⟨hi', e1, d1, rfl⟩ := ext_j2 S.dj he
  exact yview_ok (S.ext e1 d1) hN hN30 hph hsW hfl hne fun h2 sS sM sR e2 d2 V2 => hk _ sS sM sR (Ext.j2 e2 d2 (Ext.refl _)) ⟨V2.st.ext (Ext.jl _ _), V2.mem.ext (Ext.jl _ _), V2.ret.ext (Ext.jl _ _)⟩
/-- A run that goes on. -/
structure RunI (hz hi hm hb hY : Hp) (eb c : Nat) (m : MS) (t : Nat) (w : AW) (sn : List AW) (v : VS) (mems : Nat → List Int) (stale : List Int) (s : YS) (frs : List (YF × List Int)) (ret : List Int) (left : Int) (N k : Nat) : Prop where
  D : D4 hi hm hb hY
  X : EX hi hm hb eb m t w sn v mems stale
  E : EnvM m sndA
  I : AI 0 w (frsM m t sn mems) (frM m sn mems t)
  R : Rs (sM m t sn mems) v sn
  S : StOK hi hY c 115 s frs ret left
  SN : StN N s frs
  EY : EnvOK hi s
  orig : s.origin = sndA
  eq : absM m t w sn mems s.status left = absS s frs ret left
  mu : muL (frsM m t sn mems ++ [frM m sn mems t]) = k
  bd : N + 4 * k ≤ 40000000
  x0 : Ext hz hi
theorem abs_stW (X : EX hi hm hb eb m t w sn v mems stale) (h1 : frsM m t sn mems ++ [frM m sn mems t] = frs.map absF) : (∀ q ∈ frs, stW q.1.st) ∧ frs.length = t + 1 := by
  constructor
  · intro q hq p hp
    have h2 : absF q ∈ frsM m t sn mems ++ [frM m sn mems t] := by rw [h1]; exact List.mem_map_of_mem hq
    rw [← frsM_succ] at h2
    unfold frsM at h2
    obtain ⟨i, -, hie⟩ := List.mem_map.1 h2
    have h3 : stM m i = q.1.st.map Prod.snd := congrArg AF.st hie
    have h4 : p.2 ∈ stM m i := by rw [h3]; exact List.mem_map_of_mem hp
    unfold stM at h4
    obtain ⟨j, -, hj⟩ := List.mem_map.1 h4
    rw [← hj]; exact (X.M.stw _).2
  · have := congrArg List.length h1
    simp [frsM_len] at this
    omega
theorem see_run {k : Nat} (Q : RunI hz hi hm hb hY eb c m t w sn v mems stale s frs ret left N k) : See (join (join (join hi hm) hb) hY) eb c (viewA (absS s frs ret left)) := by
  have heq := Q.eq
  have hfrs : frsM m t sn mems ++ [frM m sn mems t] = frs.map absF := congrArg AS.frs heq
  have hph : s.phase = 1 := (congrArg AS.phase heq).symm
  obtain ⟨hsW, hfl⟩ := abs_stW Q.X hfrs
  have hF := Q.X.M.f
  have ht7 := Q.X.M.t7
  have hbd := Q.bd
  have hv : (viewA (absM m t w sn mems s.status left)).self = (m.fr t).self ∧ (viewA (absM m t w sn mems s.status left)).caller = (m.fr t).caller ∧ (viewA (absM m t w sn mems s.status left)).stack = stM m t := by
    unfold viewA absM
    simp [frM]
  rw [← heq]
  refine ⟨⟨by rw [hv.1]; exact hF.self, by rw [hv.2.1]; exact hF.caller, by rw [hv.2.2, stM_len]; have := hF.sp; omega⟩, fun h0 K' he hk => ?_, fun h0 K' he hk => ?_⟩
  · refine eview_ok (fun h1 K2 e1 hk2 => view_run Q.X (((Ext.jl _ _).trans he).trans e1) hk2) ⟨by rw [hv.1]; exact hF.self.1, by rw [hv.2.1]; exact hF.caller.1⟩ hk
  · rw [heq] at hk
    refine ysee Q.S Q.SN (by omega) (.inr (.inl hph)) hsW (by omega) (fun _ h => by rw [h] at hfl; simp at hfl) ?_ hk
    rw [Q.D.turn] at he
    exact (Ext.jl _ _).trans he
theorem stop_end (D : D4 hi hm hb hY) (Z : EZ hi hm hb eb m w sn v) (S : StOK hi hY c 115 s frs ret left) (hN : StN N s frs) (hN30 : N < 2 ^ 30) (heq : (⟨w, [], m.ret, 2, m.status, (m.fr 0).gas⟩ : AS) = absS s frs ret left) : Stop (join (join (join hi hm) hb) hY) eb c (viewA (absS s frs ret left)) := by
  have hfrs : [] = frs.map absF := congrArg AS.frs heq
  have hfrs : frs = [] := by simpa using hfrs.symm
  have hph : s.phase = 2 := (congrArg AS.phase heq).symm
  have href := Z.A.V.cok.ref
  have hgas := Z.gas
  have hr2 : w.ref = v.core.ref := by rw [← Z.A.abs]; rfl
  have hv : viewA (⟨w, [], m.ret, 2, m.status, (m.fr 0).gas⟩ : AS) = endV (m.fr 0).gas w.ref m.ret w.nlogs := by
    unfold viewA endV smI
    simp only [if_true]
    rw [if_pos (by omega), if_pos (by omega)]
  have heY : ∀ {h0 : Hp}, Ext (join (join (join hi hm) hb) hY) h0 → Ext (join hi hY) h0 := fun {h0} he => by
    rw [D.turn] at he
    exact (Ext.jl _ _).trans he
  rw [← heq, hv]
  refine ⟨⟨⟨⟨rfl, isB_zeros _⟩, ⟨rfl, isB_zeros _⟩, by show 0 < _; decide⟩, fun h0 K' he hk => ?_, fun h0 K' he hk => ?_⟩, fun h0 K' he hk => ?_, fun h0 K' he hk => ?_⟩
  · refine eview_ok (fun h1 K2 e1 hk2 => view_end Z.A Z.phase Z.ret (((Ext.jl _ _).trans ((Ext.jl _ _).trans he)).trans e1) fun h2 sR e2 hR => hk2 h2 nilS nilS sR e2 ⟨Arr_nil _ 32, Byt_nil _, hR⟩) ⟨rfl, rfl⟩ hk
  · rw [← hv, heq] at hk
    exact ysee S hN hN30 (.inr (.inr hph)) (fun q hq => by rw [hfrs] at hq; cases hq) (by rw [hfrs]; exact Nat.zero_le _) (fun h => by rw [hph] at h; cases h) (heY he) hk
  · exact cstep_no Z.A (by rw [Z.phase]; decide) (((Ext.jl _ _).trans (Ext.jl _ _)).trans he) hk
  · exact ystep_no (heY he _ _ (join_hm S.dj S.chain)) (by rw [hph]; decide) hk
theorem stop_idle (D : D4 hi hm hb hY) (I : EI hi hm hb eb m w v) (Y : YI hi hY c 115 s) : Stop (join (join (join hi hm) hb) hY) eb c idleV := by
  have heY : ∀ {h0 : Hp}, Ext (join (join (join hi hm) hb) hY) h0 → Ext (join hi hY) h0 := fun {h0} he => by
    rw [D.turn] at he
    exact (Ext.jl _ _).trans he
  have hv : viewA (absS s [] [] 0) = idleV := by
    unfold viewA absS
    rw [Y.phase]
    rfl
  refine ⟨⟨⟨⟨rfl, isB_zeros _⟩, ⟨rfl, isB_zeros _⟩, by show 0 < _; decide⟩, fun h0 K' he hk => ?_, fun h0 K' he hk => ?_⟩, fun h0 K' he hk => ?_, fun h0 K' he hk => ?_⟩
  · refine eview_ok (fun h1 K2 e1 hk2 => view_idle I.A I.phase (((Ext.jl _ _).trans ((Ext.jl _ _).trans he)).trans e1) fun h2 e2 => hk2 h2 nilS nilS nilS e2 ⟨Arr_nil _ 32, Byt_nil _, Byt_nil _⟩) ⟨rfl, rfl⟩ hk
  · rw [← hv] at hk
    exact ysee Y.S ⟨Y.sz, fun q hq => by cases hq⟩ (by decide) (.inl Y.phase) (fun q hq => by cases hq) (Nat.zero_le _) (fun h => by rw [Y.phase] at h; cases h) (heY he) hk
  · exact cstep_no I.A (by rw [I.phase]; decide) (((Ext.jl _ _).trans (Ext.jl _ _)).trans he) hk
  · exact ystep_no (heY he _ _ (join_hm Y.S.dj Y.S.chain)) (by rw [Y.phase]; decide) hk
end
end Go.Proofs.YgvalwGreat.X
