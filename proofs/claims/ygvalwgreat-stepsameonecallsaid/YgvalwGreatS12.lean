import Derived.Test.YgvalwGreatS11
set_option linter.unusedVariables false
set_option linter.unusedSimpArgs false
namespace Go.Proofs.YgvalwGreat.X
open Go

section
variable {hz hi hm hb hY h : Hp} {K : Value → Hp → Prop} {eb : Nat} {m : MS} {t : Nat} {w : AW} {sn : List AW} {v : VS} {mems : Nat → List Int} {stale : List Int} {c : Nat} {tc : TypeId} {s : YS} {frs : List (YF × List Int)} {ret : List Int} {left s0 l0 : Int} {N k : Nat} {V : VW}
/-- The engine has stepped, the specification has not yet. -/
structure MidI (hz hi hm hb hY : Hp) (eb c : Nat) (m : MS) (w : AW) (sn : List AW) (v : VS) (a : AS) (s : YS) (base : List (YF × List Int)) (q : YF × List Int) (ret : List Int) (left : Int) (N k : Nat) : Prop where
  D : D4 hi hm hb hY
  R : ER hi hm hb eb m w sn v a s.status left
  E : EnvM m sndA
  Rs : Rs (spn a) v sn
  S : StOK hi hY c 115 s (base ++ [q]) ret left
  SN : StN N s (base ++ [q])
  EY : EnvOK hi s
  orig : s.origin = sndA
  ph : s.phase = 1
  P : StepP (absW s.w) (base.map absF) (absF q)
  st : stW q.1.st
  ha : stepF (absS s (base ++ [q]) ret left) (base.map absF) (absF q) s.origin = a
  ai : AIs a
  mu : muL a.frs < k
  bd : N + 4 * k ≤ 40000000
  x0 : Ext hz hi
theorem run_e (Q : RunI hz hi hm hb hY eb c m t w sn v mems stale s frs ret left N k)
    (hk : ∀ hi' hm' hb' m' w' sn' v' a base q, MidI hz hi' hm' hb' hY eb c m' w' sn' v' a s base q ret left N k → K (.bool true) (join (join (join hi' hm') hb') hY)) : CallX Hval.prog 15 [.pointer (some ⟨eb, 0, none⟩)] (join (join (join hi hm) hb) hY) K := by
  have heq := Q.eq
  have hfrs : frsM m t sn mems ++ [frM m sn mems t] = frs.map absF := congrArg AS.frs heq
  have hph : s.phase = 1 := (congrArg AS.phase heq).symm
  have hw : w = absW s.w := congrArg AS.w heq
  obtain ⟨hsW, hfl⟩ := abs_stW Q.X hfrs
  obtain ⟨base, q, hf⟩ : ∃ base q, frs = base ++ [q] := by
    rcases List.eq_nil_or_concat frs with h1 | ⟨b, q, h1⟩
    · rw [h1] at hfl; simp at hfl
    · exact ⟨b, q, by rw [h1, List.concat_eq_append]⟩
  subst hf
  rw [List.map_append, List.map_singleton] at hfrs
  obtain ⟨hb1, hq1⟩ := List.append_inj' hfrs rfl
  have hq1 : frM m sn mems t = absF q := by simpa using hq1
  have hA : ∀ i, 0 ≤ argA (frM m sn mems t).st i := fun i => by
    show 0 ≤ argA (stM m t) i
    rw [stM_arg]; exact (argM_W Q.X.M i).1
  have hBc : isB (frM m sn mems t).code := Q.X.M.f.code.isB
  have hai := AI.step (a := absM m t w sn mems s.status left) (orig := sndA) Q.I hBc hA
  have hmu := mu_step (a := absM m t w sn mems s.status left) (orig := sndA) Q.I hBc hA
  rw [Q.mu] at hmu
  have hP := stepP_of Q.X Q.I
  refine CallX.fj Q.D.y (cstep_ok (s0 := s.status) (l0 := left) Q.X Q.E Q.I Q.R fun hi' hm' hb' m' w' sn' v' e1 R1 fx Rs1 d1 => ?_)
  have hd : Dj hi' hm' ∧ Dj (join hi' hm') hb' := by
    rcases R1 with ⟨t', mems', st', X', -⟩ | ⟨Z, -⟩
    · exact ⟨X'.M.A.V.dj, X'.dj⟩
    · exact ⟨Z.A.V.dj, Z.dj⟩
  have D' := D4.of hd.1 hd.2 d1
  refine hk hi' hm' hb' m' w' sn' v' _ base q ⟨D', R1, ⟨fx.origin.trans Q.E.origin, Q.E.ol, Q.E.oB, fx.price.trans Q.E.price, fun k hk => by rw [fx.env]; exact Q.E.env k hk⟩, Rs1, Q.S.ext e1 D'.ic, Q.SN, ⟨Q.EY.env, Q.EY.origin, Q.EY.oB, Q.EY.made, Q.EY.price.ext e1⟩, Q.orig, hph, ?_, hsW q (by simp), ?_, hai, hmu, Q.bd, Q.x0.trans e1⟩
  · rw [← hw, ← hb1, ← hq1]; exact hP
  · rw [heq, Q.orig, hb1, hq1]
theorem EZ.exti {hi' : Hp} (Z : EZ hi hm hb eb m w sn v) (he : Ext hi hi') (hd : Dj hi' hm) (hd2 : Dj (join hi' hm) hb) : EZ hi' hm hb eb m w sn v := ⟨Z.A.exti he hd, hd2, Z.phase, Z.top, Z.ret.ext he, Z.st, Z.gas, Z.self⟩
/-- The loop's state. -/
def LI (hz : Hp) (eb c k : Nat) (h : Hp) : Prop := (∃ hi hm hb hY m t w sn v mems stale s frs ret left N, h = join (join (join hi hm) hb) hY ∧ ∃ kk, k = kk + 1 ∧ RunI hz hi hm hb hY eb c m t w sn v mems stale s frs ret left N kk) ∨ (k = 0 ∧ Ext hz h ∧ ∃ V, Stop h eb c V)
theorem mid_y {a : AS} {base : List (YF × List Int)} {q : YF × List Int} (Q : MidI hz hi hm hb hY eb c m w sn v a s base q ret left N k)
    (hk : ∀ k' h', k' ≤ k → LI hz eb c k' h' → K (.bool true) h') : CallX Hval.prog 16 [.pointer (some ⟨c, 0, none⟩)] (join (join (join hi hm) hb) hY) K := by
  have hbd := Q.bd
  rw [Q.D.turn]
  refine CallX.fj Q.D.s (ystep_ok (f := q.1) (m := q.2) Q.S Q.SN (by omega) Q.ph Q.EY Q.P Q.st fun hi' hY' s' frs' ret' left' e1 S' SN' ha' fx d1 => ?_)
  rw [Q.ha] at ha'
  have D' := Q.D.back S'.dj d1
  have hmu := Q.mu
  rw [← D'.turn]
  have EY' : EnvOK hi' s' := ⟨fx.env.trans Q.EY.env, by rw [fx.origin]; exact Q.EY.origin, by rw [fx.origin]; exact Q.EY.oB, by rw [fx.made]; exact Q.EY.made, by rw [fx.priceS]; exact Q.EY.price.ext e1⟩
  rcases Q.R with ⟨t', mems', st', X', hx⟩ | ⟨Z, hz⟩
  · have heq : absM m t' w sn mems' s.status left = absS s' frs' ret' left' := hx.trans ha'.symm
    have h1 : s.status = s'.status := congrArg AS.status heq
    have h2 : left = left' := congrArg AS.left heq
    have hfa : a.frs = frsM m t' sn mems' ++ [frM m sn mems' t'] := congrArg AS.frs hx.symm
    have hwa : a.w = w := congrArg AS.w hx.symm
    have hI : AI 0 w (frsM m t' sn mems') (frM m sn mems' t') := by
      rcases Q.ai with h3 | ⟨b, f, h3, h4⟩
      · rw [h3] at hfa; simp at hfa
      · rw [hfa] at h3
        obtain ⟨g1, g2⟩ := List.append_inj' h3 rfl
        have g2 : frM m sn mems' t' = f := by simpa using g2
        rw [hwa, ← g1, ← g2] at h4
        exact h4
    refine hk (muL a.frs + 1) _ (by omega) (.inl ⟨hi', hm, hb, hY', m, t', w, sn, v, mems', st', s', frs', ret', left', N + 4, rfl, muL a.frs, rfl, ⟨D', X'.exti e1 D'.ia D'.e, Q.E, hI, ?_, S', SN', EY', fx.origin.trans Q.orig, ?_, by rw [hfa], by omega, Q.x0.trans e1⟩⟩)
    · have := Q.Rs
      unfold spn at this
      rw [hfa] at this
      exact this
    · rw [h1, h2] at heq; exact heq
  · exact hk 0 _ (by omega) (.inr ⟨rfl, (Q.x0.trans e1).trans (((Ext.jl _ _).trans (Ext.jl _ _)).trans (Ext.jl _ _)), _, stop_end D' (Z.exti e1 D'.ia D'.e) S' SN' (by omega) (hz.trans ha'.symm)⟩)
theorem run_ext {k : Nat} (Q : RunI hz hi hm hb hY eb c m t w sn v mems stale s frs ret left N k) (he : Ext (join (join (join hi hm) hb) hY) h) : ∃ hi', h = join (join (join hi' hm) hb) hY ∧ RunI hz hi' hm hb hY eb c m t w sn v mems stale s frs ret left N k := by
  obtain ⟨hx, e1, d1, rfl⟩ := ext_j2 Q.D.y he
  obtain ⟨hi', e2, d2, d3, rfl⟩ := ext_j Q.D.ia Q.D.e e1
  have D' := D4.of d2 d3 d1
  exact ⟨hi', rfl, ⟨D', Q.X.exti e2 d2 d3, Q.E, Q.I, Q.R, Q.S.ext e2 D'.ic, Q.SN, ⟨Q.EY.env, Q.EY.origin, Q.EY.oB, Q.EY.made, Q.EY.price.ext e2⟩, Q.orig, Q.eq, Q.mu, Q.bd, Q.x0.trans e2⟩⟩
end
end Go.Proofs.YgvalwGreat.X
