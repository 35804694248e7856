/-
  REGIONS THAT DRAW THEIR ORDER: the steps of the actual run, and the theorem.
-/
import Derived.Test.YgvalwGreatXg
set_option linter.unusedVariables false
set_option linter.unusedSimpArgs false
namespace Go.Proofs.YgvalwGreat.X
open Go

section
variable {P : Program} {T : Nat → Option Ty} {n : Nat} {o : Oper} {ρ ρ0 : Env} {h : Hp} {K : Env → Hp → Prop} {ops : List Oper} {anc : List (List Nat)} {Q : Exit → Act → World → Prop} {val : Nat → Value}
variable {h0 : Hp} {w0 w : World} {bl : Nat → Nat} {dl rem : List Nat} {D L : Nat → Bool} {ρc : Env} {a : Act}

/-- All states of the actual run that a canonical one stands beside. -/
def DZ (P : Program) (T : Nat → Option Ty) (n : Nat) (ops : List Oper) (anc : List (List Nat)) (K : Env → Hp → Prop) (ρ0 : Env) (h0 : Hp) (w0 : World) (L : Nat → Bool) (a : Act) (w : World) : Prop :=
  ∃ val bl dl rem D ρc h, DS P T n ops anc K ρ0 h0 w0 val bl dl rem D ρc h L a w

theorem upV_id (i : Nat) : upV val i (val i) = val := by
  funext j
  by_cases hji : j = i
  · subst hji; rw [upV_self]
  · rw [upV_ne hji]

theorem closed_not (hR : Rg T ops anc) (hL : Closed ops L) {r : Nat} (hLr : L r = false) : ∀ j, ancB anc j r = true → L j = false := by
  intro j hj
  cases hLj : L j
  · rfl
  · obtain ⟨oj, hoj, -⟩ := anc_spec hR.a hj
    have := anc_closed hR.a hR.b hL j oj hoj (hL j oj hoj hLj) r hj
    rw [hLr] at this; cases this

theorem DS.listQuiet (s : DS P T n ops anc K ρ0 h0 w0 val bl dl rem D ρc h L a w) (hR : Rg T ops anc) {r : Nat} {o : Oper} (ho : ops[r]? = some o) (hq : quietB o = true) (hD : D r = true) (hL : L r = false)
    (hdeps : ∀ d ∈ deps o, L d = true) {KK : Act → World → Prop} (hk : ∀ a' w', DZ P T n ops anc K ρ0 h0 w0 (upS L r) a' w' → KK a' w') : wpOp P ops.toArray Q r KK a w := by
  have hy : YQ P T n ops o h (val r) (envS ops ρ0 val L) :=
    (s.pend r o ho hq hD hL).look (fun cs b => hR.sel _ _ cs b ho) (see hR.rw hR.a hR.b ho (anc_closed hR.a hR.b s.clL r o ho hdeps) (closed_not hR s.clL hL))
  have hf : floatB o = false := by
    cases hf : floatB o
    · rfl
    · rw [floatB_quiet hf] at hq; cases hq
  rw [s.act]
  refine hy.wpOp ho s.sub (hk _ _ ⟨val, bl, dl, rem, D, ρc, h, ?_⟩)
  refine { act := ?_, can := s.can, run := s.run, ord := s.ord, all := s.all, not := s.not, mem := s.mem, ndp := s.ndp, clL := closed_up s.clL ho hdeps, clD := s.clD, q := ?_, f := ?_, l := ?_, early := ?_, dist := ?_, pend := ?_, sub := s.sub, fr := s.fr }
  · have := envS_put hR.once (ρ0 := ρ0) (val := val) (S := L) ho (val r)
    rw [upV_id] at this
    rw [this]
  · intro j oj hj hqj hLj
    by_cases hji : j = r
    · subst hji; exact hD
    · rw [upS_ne hji] at hLj; exact s.q j oj hj hqj hLj
  · intro j oj hj hfj hDj
    unfold upS; simp [s.f j oj hj hfj hDj]
  · intro j oj hj hqj hfj
    have hji : j ≠ r := by rintro rfl; rw [ho] at hj; cases hj; rw [hq] at hqj; cases hqj
    rw [upS_ne hji]; exact s.l j oj hj hqj hfj
  · intro j oj hj hfj hLj hDj
    have hji : j ≠ r := by rintro rfl; rw [ho] at hj; cases hj; rw [hf] at hfj; cases hfj
    rw [upS_ne hji] at hLj
    exact s.early j oj hj hfj hLj hDj
  · intro j k oj ok hj hk1 hfj hfk hLj hDj hLk hDk hjk
    have hji : j ≠ r := by rintro rfl; rw [ho] at hj; cases hj; rw [hf] at hfj; cases hfj
    have hki : k ≠ r := by rintro rfl; rw [ho] at hk1; cases hk1; rw [hf] at hfk; cases hfk
    rw [upS_ne hji] at hLj
    rw [upS_ne hki] at hLk
    exact s.dist j k oj ok hj hk1 hfj hfk hLj hDj hLk hDk hjk
  · intro j oj hj hqj hDj hLj
    have hji : j ≠ r := by rintro rfl; rw [upS_self] at hLj; cases hLj
    rw [upS_ne hji] at hLj
    exact s.pend j oj hj hqj hDj hLj

theorem DS.listFloat (hT : TOk P T) (s : DS P T n ops anc K ρ0 h0 w0 val bl dl rem D ρc h L a w) (hR : Rg T ops anc) {r : Nat} {o : Oper} (ho : ops[r]? = some o) (hf : floatB o = true) (hL : L r = false)
    (hty : ∀ t, o.op = .alloc t → ∃ y, T t = some y)
    (hdeps : ∀ d ∈ deps o, L d = true) {KK : Act → World → Prop} (hk : ∀ a' w', DZ P T n ops anc K ρ0 h0 w0 (upS L r) a' w' → KK a' w') : wpOp P ops.toArray Q r KK a w := by
  have hD : D r = false := by
    cases hD : D r
    · rfl
    · rw [s.f r o ho hf hD] at hL; cases hL
  have hq := floatB_quiet hf
  obtain ⟨t, hot⟩ := floatB_alloc hf
  obtain ⟨y, hTt⟩ := hty t hot
  have hg : o.guard = none := by
    unfold floatB at hf
    rw [hot] at hf
    simp at hf
    exact hf.1
  unfold Go.wpOp
  have ho' : ops.toArray[r]? = some o := by simpa using ho
  simp only [ho']
  rw [if_pos (by simp [Region.wanted, hg])]
  left
  have hx : xop P T n o (envS ops ρ0 val L) h (fun ρ' h' => ∃ b, Bd h b ∧ ρ' = put (envS ops ρ0 val L) o.dst (.pointer (some ⟨b, 0, none⟩)) ∧ h' = hput h b (y.zero, t)) := by
    simp only [xop, hot, hTt]
    exact ⟨fun b hb => ⟨b, hb, rfl, rfl⟩⟩
  have := x_alloc (Q := Q) hT hot s.sub hx
  rw [← s.act] at this
  refine Oper.wp_mono ?_ this
  rintro a' w' ⟨ρ', h', rfl, ⟨b, hb, rfl, rfl⟩, hs', hfr⟩
  have hnb : h b = none := by
    cases hhb : h b with
    | none => rfl
    | some x => have := hb b x hhb; omega
  have hle : ∀ c x, h c = some x → hput h b (y.zero, t) c = some x := by
    intro c x hc
    have : c ≠ b := by rintro rfl; rw [hnb] at hc; cases hc
    simp [hput, this, hc]
  have hge : w.heap.size ≤ b := hfr.new b hnb (by simp [hput])
  have hwb : w'.heap[b]? = some (.cells y.zero.toArray t (0, 0)) := hs' b _ _ (by simp [hput])
  have hfr' := hfr.weaken hle
  have keep : ∀ j oj, ops[j]? = some oj → floatB oj = true → L j = true → D j = false → bl j < w.heap.size := by
    intro j oj hj hfj hLj hDj
    obtain ⟨_, _, -, -, -, -, -, e6⟩ := s.early j oj hj hfj hLj hDj
    exact (Array.getElem?_eq_some_iff.1 e6).1
  refine hk _ _ ⟨upV val r (.pointer (some ⟨b, 0, none⟩)), fun j => bif Nat.beq j r then b else bl j, dl, rem, D, ρc, h, ?_⟩
  refine { act := ?_, can := ?_, run := s.run, ord := s.ord, all := s.all, not := s.not, mem := s.mem, ndp := s.ndp, clL := closed_up s.clL ho hdeps, clD := s.clD, q := ?_, f := ?_, l := ?_, early := ?_, dist := ?_, pend := ?_, sub := hs'.weaken hle, fr := s.fr.trans hfr' }
  · rw [envS_put hR.once ho]
  · rw [envS_other hD]; exact s.can
  · intro j oj hj hqj hLj
    have hji : j ≠ r := by rintro rfl; rw [ho] at hj; cases hj; rw [hq] at hqj; cases hqj
    rw [upS_ne hji] at hLj; exact s.q j oj hj hqj hLj
  · intro j oj hj hfj hDj
    unfold upS; simp [s.f j oj hj hfj hDj]
  · intro j oj hj hqj hfj
    have hji : j ≠ r := by rintro rfl; rw [ho] at hj; cases hj; rw [hf] at hfj; cases hfj
    rw [upS_ne hji]; exact s.l j oj hj hqj hfj
  · intro j oj hj hfj hLj hDj
    by_cases hji : j = r
    · subst hji
      rw [ho] at hj; cases hj
      refine ⟨t, y, hot, hTt, ?_, ?_, ?_, ?_⟩
      · simp [upV_self]
      · simpa using hnb
      · have := s.fr.size; simp; omega
      · simpa using hwb
    · rw [upS_ne hji] at hLj
      obtain ⟨t', y', e1, e2, e3, e4, e5, e6⟩ := s.early j oj hj hfj hLj hDj
      refine ⟨t', y', e1, e2, ?_, ?_, ?_, ?_⟩
      · rw [upV_ne hji]; simp [beq_ne hji, e3]
      · simpa [beq_ne hji] using e4
      · simpa [beq_ne hji] using e5
      · simp only [beq_ne hji, cond_false]
        rw [hfr.keep _ (keep j oj hj hfj hLj hDj) e4]; exact e6
  · intro j k oj ok hj hk1 hfj hfk hLj hDj hLk hDk hjk
    by_cases hji : j = r
    · subst hji
      have hki : k ≠ j := Ne.symm hjk
      rw [upS_ne hki] at hLk
      have := keep k ok hk1 hfk hLk hDk
      simp [beq_ne hki]; omega
    · rw [upS_ne hji] at hLj
      by_cases hki : k = r
      · subst hki
        have := keep j oj hj hfj hLj hDj
        simp [beq_ne hji]; omega
      · rw [upS_ne hki] at hLk
        simp [beq_ne hji, beq_ne hki]
        exact s.dist j k oj ok hj hk1 hfj hfk hLj hDj hLk hDk hjk
  · intro j oj hj hqj hDj hLj
    have hji : j ≠ r := by rintro rfl; rw [upS_self] at hLj; cases hLj
    rw [upS_ne hji] at hLj
    rw [upV_ne hji, envS_other]
    · exact s.pend j oj hj hqj hDj hLj
    · cases hc : ancB anc j r
      · rfl
      · have := anc_closed hR.a hR.b s.clD j oj hj (s.clD j oj hj hDj) r hc
        rw [hD] at this; cases this

theorem stabs_spec {l : List Nat} {k : Prop} (hx : stabs T n ops ρ h l k) : k ∧ ∀ i ∈ l, ∀ o, ops[i]? = some o →
    ∃ t x d, o.op = .load t x ∧ o.dst = some d ∧ (Region.wanted o (yielded ops.toArray (actOf n ρ).tmps) = false ∨
      ((∀ vs, ev n ρ (.tmp d) ≠ .tuple vs) ∧ ∃ b off y, ev n ρ x = .pointer (some ⟨b, off, none⟩) ∧ T t = some y ∧ ldV y.agg y.size h b off = some (ev n ρ (.tmp d)))) := by
  induction l with
  | nil => exact ⟨hx, fun i hi => by cases hi⟩
  | cons i l ih =>
    change (match ops[i]? with
    | some o => match o.op, o.dst with
      | .load t x, some d => match ev n ρ (.tmp d) with
        | .tuple _ => match o.guard with
          | none => False
          | some (j, want) => match ops[j]? with
            | none => False
            | some oj => match oj.dst with
              | none => False
              | some dj => match ev n ρ (.tmp dj), want with
                | .bool true, false => stabs T n ops ρ h l k
                | .bool false, true => stabs T n ops ρ h l k
                | .tuple _, _ => stabs T n ops ρ h l k
                | _, _ => False
        | v => match ev n ρ x, T t with
          | .pointer (some ⟨b, off, none⟩), some y => Ob (ldV y.agg y.size h b off = some v) (stabs T n ops ρ h l k)
          | _, _ => False
      | _, _ => False
    | none => False) at hx
    have fin : stabs T n ops ρ h l k → (∀ o, ops[i]? = some o → ∃ t x d, o.op = .load t x ∧ o.dst = some d ∧ (Region.wanted o (yielded ops.toArray (actOf n ρ).tmps) = false ∨
      ((∀ vs, ev n ρ (.tmp d) ≠ .tuple vs) ∧ ∃ b off y, ev n ρ x = .pointer (some ⟨b, off, none⟩) ∧ T t = some y ∧ ldV y.agg y.size h b off = some (ev n ρ (.tmp d))))) → k ∧ ∀ i' ∈ i :: l, ∀ o, ops[i']? = some o →
    ∃ t x d, o.op = .load t x ∧ o.dst = some d ∧ (Region.wanted o (yielded ops.toArray (actOf n ρ).tmps) = false ∨
      ((∀ vs, ev n ρ (.tmp d) ≠ .tuple vs) ∧ ∃ b off y, ev n ρ x = .pointer (some ⟨b, off, none⟩) ∧ T t = some y ∧ ldV y.agg y.size h b off = some (ev n ρ (.tmp d)))) := by
      intro h1 h2
      obtain ⟨h3, h4⟩ := ih h1
      refine ⟨h3, fun i' hi' => ?_⟩
      rcases List.mem_cons.1 hi' with rfl | hi'
      · exact h2
      · exact h4 i' hi'
    split at hx
    · rename_i o ho
      split at hx
      · rename_i t x d hop hdst
        split at hx
        · rename_i vs hev
          split at hx
          · exact hx.elim
          · rename_i j want hg
            split at hx
            · exact hx.elim
            · rename_i oj hj
              split at hx
              · exact hx.elim
              · rename_i dj hdj
                have hy := yielded_ofFn (n := n) (ρ := ρ) ops hj hdj
                have hw : Region.wanted o (yielded ops.toArray (actOf n ρ).tmps) = (yielded ops.toArray (actOf n ρ).tmps j == some want) := by simp [Region.wanted, hg]
                rw [hy] at hw
                split at hx
                · rename_i he
                  rw [he] at hw
                  exact fin hx fun o' ho' => by rw [ho] at ho'; cases ho'; exact ⟨t, x, d, hop, hdst, .inl (hw.trans (by simp))⟩
                · rename_i he
                  rw [he] at hw
                  exact fin hx fun o' ho' => by rw [ho] at ho'; cases ho'; exact ⟨t, x, d, hop, hdst, .inl (hw.trans (by simp))⟩
                · rename_i he
                  rw [he] at hw
                  exact fin hx fun o' ho' => by rw [ho] at ho'; cases ho'; exact ⟨t, x, d, hop, hdst, .inl (hw.trans (by simp))⟩
                · exact hx.elim
        · rename_i hnt
          split at hx
          · rename_i b off y hev hty
            exact fin hx.go fun o' ho' => by
              rw [ho] at ho'; cases ho'
              exact ⟨t, x, d, hop, hdst, .inr ⟨fun vs hvs => hnt vs hvs, b, off, y, hev, hty, hx.ob⟩⟩
          · exact hx.elim
      · exact hx.elim
    · exact hx.elim

end
end Go.Proofs.YgvalwGreat.X
