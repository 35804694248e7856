/-
  REGIONS THAT DRAW THEIR ORDER: the induction.
-/
import Derived.Test.YgvalwGreatXe
set_option linter.unusedVariables false
set_option linter.unusedSimpArgs false
namespace Go.Proofs.YgvalwGreat.X
open Go

/-- What the checks say of a region. -/
structure Rg (T : Nat → Option Ty) (ops : List Oper) (anc : List (List Nat)) : Prop where
  a : ancOk ops anc = true
  b : backOk ops = true
  once : onceB (ops.filterMap (·.dst)) = true
  rw : rwOk ops anc = true
  rd : rdOk T ops anc = true
  sel : ∀ (i : Nat) (o : Oper) cs b, ops[i]? = some o → o.op ≠ .select cs b

section
variable {P : Program} {T : Nat → Option Ty} {n : Nat} {o : Oper} {ρ ρ0 : Env} {h : Hp} {K : Env → Hp → Prop} {ops : List Oper} {anc : List (List Nat)} {Q : Exit → Act → World → Prop} {val : Nat → Value}

theorem rw_spec (hr : rwOk ops anc = true) {i j : Nat} {o' : Oper} (hi : ops[i]? = some o) (hj : ops[j]? = some o') {t : Nat} (ht : t ∈ o.looksAt ops.toArray) (hd : o'.dst = some t) :
    ancB anc i j = true ∨ ancB anc j i = true := by
  unfold rwOk at hr
  rw [List.all_eq_true] at hr
  have h1 := hr i (List.mem_range.2 (List.getElem?_eq_some_iff.1 hi).1)
  rw [hi] at h1
  simp only [List.all_eq_true] at h1
  have h2 := h1 t ht j (List.mem_range.2 (List.getElem?_eq_some_iff.1 hj).1)
  rw [hj] at h2
  simp only [hd, beq_self_eq_true, Bool.not_true, Bool.false_or, Bool.or_eq_true] at h2
  exact h2

theorem rd_spec (hr : rdOk T ops anc = true) {i j : Nat} {o' : Oper} (hi : ops[i]? = some o) (hR : readsB T o = true) (hj : ops[j]? = some o') {t : Nat} (ht : t ∈ o.looksAt ops.toArray) (hd : o'.dst = some t) :
    ancB anc i j = true := by
  unfold rdOk at hr
  rw [List.all_eq_true] at hr
  have h1 := hr i (List.mem_range.2 (List.getElem?_eq_some_iff.1 hi).1)
  rw [hi] at h1
  simp only [hR, Bool.not_true, Bool.false_or, List.all_eq_true] at h1
  have h2 := h1 t ht j (List.mem_range.2 (List.getElem?_eq_some_iff.1 hj).1)
  rw [hj] at h2
  simp only [hd, beq_self_eq_true, Bool.not_true, Bool.false_or] at h2
  exact h2

/-- What operation i sees hangs on its ancestors alone. -/
theorem see {S : Nat → Bool} (hr : rwOk ops anc = true) (hA : ancOk ops anc = true) (hB : backOk ops = true) {i : Nat} (hi : ops[i]? = some o) (h1 : ∀ j, ancB anc i j = true → S j = true) (h2 : ∀ j, ancB anc j i = true → S j = false) :
    ∀ t ∈ o.looksAt ops.toArray, envS ops ρ0 val S t = envS ops ρ0 val (ancB anc i) t := by
  intro t ht
  unfold envS
  cases hw : wr ops t with
  | none => rfl
  | some j =>
    obtain ⟨o', hj, hd⟩ := wr_spec hw
    rcases rw_spec hr hi hj ht hd with hh | hh
    · simp [h1 j hh, hh]
    · have hlt := anc_lt hA hB j i hh
      have : ancB anc i j = false := by
        cases hc : ancB anc i j
        · rfl
        · have := anc_lt hA hB i j hc; omega
      simp [h2 j hh, this]

theorem seeR {S : Nat → Bool} (hr : rdOk T ops anc = true) {i : Nat} (hi : ops[i]? = some o) (hR : readsB T o = true) (h1 : ∀ j, ancB anc i j = true → S j = true) :
    ∀ t ∈ o.looksAt ops.toArray, envS ops ρ0 val S t = envS ops ρ0 val (ancB anc i) t := by
  intro t ht
  unfold envS
  cases hw : wr ops t with
  | none => rfl
  | some j =>
    obtain ⟨o', hj, hd⟩ := wr_spec hw
    have hh := rd_spec hr hi hR hj ht hd
    simp [h1 j hh, hh]

theorem envS_other {S : Nat → Bool} {i : Nat} {v : Value} (hS : S i = false) : envS ops ρ0 (upV val i v) S = envS ops ρ0 val S := by
  funext t
  unfold envS
  cases hw : wr ops t with
  | none => rfl
  | some j =>
    by_cases hji : j = i
    · subst hji; simp [hS]
    · simp [upV, beq_ne hji]

theorem xdr_cons (i : Nat) (rem dl : List Nat) : xdr P T n ops anc (i :: rem) dl ρ h K = (match ops[i]? with
      | none => False
      | some o => match floatB o with
        | true => match o.op with
          | .alloc t => match T t with
            | some y => BoxW h t y.zero fun b h' => xdr P T n ops anc rem (i :: dl) (put ρ o.dst (.pointer (some ⟨b, 0, none⟩))) h' K
            | none => False
          | _ => False
        | false => match quietB o with
          | true => xopg P T n ops o ρ h fun ρ' h' => xdr P T n ops anc rem (i :: dl) ρ' h' K
          | false => xopg P T n ops o ρ h fun ρ' h' => stabs T n ops ρ' h' (dl.filter fun j => (match ops[j]? with | some oj => readsB T oj | none => false) && !ancB anc i j) (xdr P T n ops anc rem (i :: dl) ρ' h' K)) := rfl

/-- The state in a drawn order: the canonical run beside the actual one. -/
structure DS (P : Program) (T : Nat → Option Ty) (n : Nat) (ops : List Oper) (anc : List (List Nat)) (K : Env → Hp → Prop) (ρ0 : Env) (h0 : Hp) (w0 : World)
    (val : Nat → Value) (bl : Nat → Nat) (dl rem : List Nat) (D : Nat → Bool) (ρc : Env) (h : Hp) (L : Nat → Bool) (a : Act) (w : World) : Prop where
  act : a = actOf n (envS ops ρ0 val L)
  can : actOf n ρc = actOf n (envS ops ρ0 val D)
  run : xdr P T n ops anc rem dl ρc h K
  ord : ordB ops anc rem = true
  all : ∀ i, i < ops.length → D i = true ∨ i ∈ rem
  not : ∀ i ∈ rem, D i = false
  mem : ∀ i, D i = true → i ∈ dl
  ndp : rem.Nodup
  clL : Closed ops L
  clD : Closed ops D
  q : ∀ i o, ops[i]? = some o → quietB o = true → L i = true → D i = true
  f : ∀ i o, ops[i]? = some o → floatB o = true → D i = true → L i = true
  l : ∀ i o, ops[i]? = some o → quietB o = false → floatB o = false → L i = D i
  early : ∀ i o, ops[i]? = some o → floatB o = true → L i = true → D i = false →
    ∃ t y, o.op = .alloc t ∧ T t = some y ∧ val i = .pointer (some ⟨bl i, 0, none⟩) ∧ h (bl i) = none ∧ w0.heap.size ≤ bl i ∧ w.heap[bl i]? = some (.cells y.zero.toArray t (0, 0))
  dist : ∀ i j oi oj, ops[i]? = some oi → ops[j]? = some oj → floatB oi = true → floatB oj = true → L i = true → D i = false → L j = true → D j = false → i ≠ j → bl i ≠ bl j
  pend : ∀ i o, ops[i]? = some o → quietB o = true → D i = true → L i = false → YQ P T n ops o h (val i) (envS ops ρ0 val (ancB anc i))
  sub : Sub h w
  fr : Fr h0 w0 h w

variable {h0 : Hp} {w0 w : World} {bl : Nat → Nat} {dl rem : List Nat} {D L : Nat → Bool} {ρc : Env} {a : Act}

theorem floatB_quiet (hf : floatB o = true) : quietB o = false := by
  unfold floatB at hf
  unfold quietB
  split at hf
  · rename_i ho; simp [ho]
  · cases hf

theorem floatB_alloc (hf : floatB o = true) : ∃ t, o.op = .alloc t := by
  unfold floatB at hf
  split at hf
  · rename_i ho; exact ⟨_, ho⟩
  · cases hf

theorem ord_head {i : Nat} {rem : List Nat} (hord : ordB ops anc (i :: rem) = true) :
    ∃ o, ops[i]? = some o ∧ (quietB o = true ∨ ∀ k ∈ rem, ancB anc k i = true ∨ ∃ ok, ops[k]? = some ok ∧ floatB ok = true) ∧ (∀ k ∈ rem, ancB anc i k = false ∧ k ∉ deps o) ∧ ordB ops anc rem = true := by
  simp only [ordB, Bool.and_eq_true] at hord
  obtain ⟨h1, h2⟩ := hord
  split at h1
  · rename_i o ho
    simp only [Bool.and_eq_true, Bool.or_eq_true, List.all_eq_true, Bool.not_eq_true', List.contains_eq_mem, decide_eq_false_iff_not] at h1
    refine ⟨o, ho, ?_, h1.2, h2⟩
    rcases h1.1 with hq | hq
    · exact .inl hq
    · refine .inr fun k hk => ?_
      rcases hq k hk with h3 | h3
      · exact .inl h3
      · split at h3
        · rename_i ok hok; exact .inr ⟨ok, hok, h3⟩
        · cases h3
  · cases h1

theorem closed_up (hL : Closed ops L) {i : Nat} (hi : ops[i]? = some o) (hd : ∀ d ∈ deps o, L d = true) : Closed ops (upS L i) := by
  intro j oj hj hS d hdj
  unfold upS at *
  by_cases hji : j = i
  · subst hji
    rw [hi] at hj; cases hj
    simp [hd d hdj]
  · simp only [beq_ne hji, Bool.false_or] at hS
    simp [hL j oj hj hS d hdj]

theorem upS_self (S : Nat → Bool) (i : Nat) : upS S i i = true := by simp [upS]
theorem upS_ne {S : Nat → Bool} {i j : Nat} (hji : j ≠ i) : upS S i j = S j := by simp [upS, beq_ne hji]
theorem upV_self (i : Nat) (v : Value) : upV val i v i = v := by simp [upV]
theorem upV_ne {i j : Nat} {v : Value} (hji : j ≠ i) : upV val i v j = val j := by simp [upV, beq_ne hji]

/-- The head of the canonical order has all that it waits for behind it. -/
theorem DS.head_deps {i : Nat} (s : DS P T n ops anc K ρ0 h0 w0 val bl dl (i :: rem) D ρc h L a w) (hR : Rg T ops anc) {o : Oper} (ho : ops[i]? = some o) : ∀ d ∈ deps o, D d = true := by
  intro d hd
  obtain ⟨o', ho', -, h2, -⟩ := ord_head s.ord
  rw [ho] at ho'; cases ho'
  have hlt := back_spec hR.b ho hd
  have hil := (List.getElem?_eq_some_iff.1 ho).1
  rcases s.all d (by omega) with h3 | h3
  · exact h3
  · rcases List.mem_cons.1 h3 with rfl | h4
    · omega
    · exact absurd hd (h2 d h4).2

/-- The canonical run goes on over a quiet head. -/
theorem DS.quiet {i : Nat} (hT : TOk P T) (s : DS P T n ops anc K ρ0 h0 w0 val bl dl (i :: rem) D ρc h L a w) (hR : Rg T ops anc) {o : Oper} (ho : ops[i]? = some o) (hq : quietB o = true) :
    ∃ v ρc', DS P T n ops anc K ρ0 h0 w0 (upV val i v) bl (i :: dl) rem (upS D i) ρc' h L a w := by
  have hrun := s.run
  rw [xdr_cons, ho] at hrun
  have hf : floatB o = false := by
    cases hf : floatB o
    · rfl
    · rw [floatB_quiet hf] at hq; cases hq
  simp only [hf, hq] at hrun
  obtain ⟨v, ρc', hy, hc, hk⟩ := xopg_quiet hT hq hrun
  have hDi : D i = false := s.not i (List.mem_cons_self ..)
  have hLi : L i = false := by
    cases hL : L i
    · rfl
    · rw [s.q i o ho hq hL] at hDi; cases hDi
  obtain ⟨o', ho', -, hb, hord⟩ := ord_head s.ord
  rw [ho] at ho'; cases ho'
  have hdeps := s.head_deps hR ho
  have hancD := anc_closed hR.a hR.b s.clD i o ho hdeps
  have hnd := List.nodup_cons.1 s.ndp
  have hself : ancB anc i i = false := by
    cases hc : ancB anc i i
    · rfl
    · have := anc_lt hR.a hR.b i i hc; omega
  refine ⟨v, ρc', ?_⟩
  refine { act := ?_, can := ?_, run := hk, ord := hord, all := ?_, not := ?_, mem := ?_, ndp := hnd.2, clL := s.clL, clD := closed_up s.clD ho hdeps, q := ?_, f := ?_, l := ?_, early := ?_, dist := ?_, pend := ?_, sub := s.sub, fr := s.fr }
  · rw [envS_other hLi]; exact s.act
  · rw [hc, envS_put hR.once ho, ← actOf_put, s.can, actOf_put]
  · intro j hj
    rcases s.all j hj with h1 | h1
    · left; unfold upS; simp [h1]
    · rcases List.mem_cons.1 h1 with rfl | h2
      · left; exact upS_self ..
      · exact .inr h2
  · intro j hj
    have hji : j ≠ i := by rintro rfl; exact hnd.1 hj
    rw [upS_ne hji]; exact s.not j (List.mem_cons_of_mem _ hj)
  · intro j hj
    by_cases hji : j = i
    · subst hji; exact List.mem_cons_self ..
    · rw [upS_ne hji] at hj; exact List.mem_cons_of_mem _ (s.mem j hj)
  · intro j oj hj hqj hLj
    unfold upS; simp [s.q j oj hj hqj hLj]
  · intro j oj hj hfj hDj
    have hji : j ≠ i := by rintro rfl; rw [ho] at hj; cases hj; rw [hf] at hfj; cases hfj
    rw [upS_ne hji] at hDj; exact s.f j oj hj hfj hDj
  · intro j oj hj hqj hfj
    have hji : j ≠ i := by rintro rfl; rw [ho] at hj; cases hj; rw [hq] at hqj; cases hqj
    rw [upS_ne hji]; exact s.l j oj hj hqj hfj
  · intro j oj hj hfj hLj hDj
    have hji : j ≠ i := by rintro rfl; rw [ho] at hj; cases hj; rw [hf] at hfj; cases hfj
    rw [upS_ne hji] at hDj
    rw [upV_ne hji]
    exact s.early j oj hj hfj hLj hDj
  · intro j k oj ok hj hk1 hfj hfk hLj hDj hLk hDk hjk
    have hji : j ≠ i := by rintro rfl; rw [ho] at hj; cases hj; rw [hf] at hfj; cases hfj
    have hki : k ≠ i := by rintro rfl; rw [ho] at hk1; cases hk1; rw [hf] at hfk; cases hfk
    rw [upS_ne hji] at hDj
    rw [upS_ne hki] at hDk
    exact s.dist j k oj ok hj hk1 hfj hfk hLj hDj hLk hDk hjk
  · intro j oj hj hqj hDj hLj
    by_cases hji : j = i
    · subst hji
      rw [ho] at hj; cases hj
      rw [upV_self, envS_other hself]
      have hact : YQ P T n ops o h v (envS ops ρ0 val D) := by
        unfold YQ at *
        rw [← s.can]
        exact hy
      refine hact.look (fun cs b => hR.sel _ _ cs b ho) fun t ht => ?_
      exact (see hR.rw hR.a hR.b ho hancD (fun k hk => by
        cases hDk : D k
        · rfl
        · obtain ⟨ok, hok⟩ : ∃ ok, ops[k]? = some ok := by
            obtain ⟨ok, hok, -⟩ := anc_spec hR.a hk
            exact ⟨ok, hok⟩
          have := anc_closed hR.a hR.b s.clD k ok hok (s.clD k ok hok hDk) j hk
          rw [hDi] at this; cases this) t ht).symm
    · rw [upS_ne hji] at hDj
      rw [upV_ne hji, envS_other]
      · exact s.pend j oj hj hqj hDj hLj
      · cases hc : ancB anc j i
        · rfl
        · have := anc_closed hR.a hR.b s.clD j oj hj (s.clD j oj hj hDj) i hc
          rw [hDi] at this; cases this

theorem YQ.grow {v : Value} {h h' : Hp} (hle : ∀ b x, h b = some x → h' b = some x) (hy : YQ P T n ops o h v ρ) : YQ P T n ops o h' v ρ := by
  rcases hy with ⟨h1, h2, h3⟩ | hy
  · exact .inl ⟨h1, fun w hs => h2 w (hs.weaken hle), h3⟩
  · exact .inr hy

/-- The canonical run goes on over a variable's block that the actual run has already laid. -/
theorem DS.float {i : Nat} (s : DS P T n ops anc K ρ0 h0 w0 val bl dl (i :: rem) D ρc h L a w) (hR : Rg T ops anc) {o : Oper} (ho : ops[i]? = some o) (hf : floatB o = true) (hL : L i = true) :
    ∃ ρc' h', DS P T n ops anc K ρ0 h0 w0 val bl (i :: dl) rem (upS D i) ρc' h' L a w := by
  have hrun := s.run
  rw [xdr_cons, ho] at hrun
  have hDi : D i = false := s.not i (List.mem_cons_self ..)
  obtain ⟨t, y, hot, hTt, hval, hno, hge, hwb⟩ := s.early i o ho hf hL hDi
  simp only [hf, hot, hTt] at hrun
  have hk := hrun.run (bl i) hno
  obtain ⟨o', ho', -, hb, hord⟩ := ord_head s.ord
  rw [ho] at ho'; cases ho'
  have hdeps := s.head_deps hR ho
  have hnd := List.nodup_cons.1 s.ndp
  have hgrow : ∀ b x, h b = some x → hput h (bl i) (y.zero, t) b = some x := by
    intro b x hb
    have : b ≠ bl i := by rintro rfl; rw [hno] at hb; cases hb
    simp [hput, this, hb]
  refine ⟨put ρc o.dst (.pointer (some ⟨bl i, 0, none⟩)), hput h (bl i) (y.zero, t), ?_⟩
  refine { act := s.act, can := ?_, run := hk, ord := hord, all := ?_, not := ?_, mem := ?_, ndp := hnd.2, clL := s.clL, clD := closed_up s.clD ho hdeps, q := ?_, f := ?_, l := ?_, early := ?_, dist := ?_, pend := ?_, sub := ?_, fr := ?_ }
  · have : envS ops ρ0 val (upS D i) = envS ops ρ0 (upV val i (.pointer (some ⟨bl i, 0, none⟩))) (upS D i) := by
      congr 1
      funext j
      by_cases hji : j = i
      · subst hji; rw [upV_self, hval]
      · rw [upV_ne hji]
    rw [this, envS_put hR.once ho, ← actOf_put, s.can, actOf_put]
  · intro j hj
    rcases s.all j hj with h1 | h1
    · left; unfold upS; simp [h1]
    · rcases List.mem_cons.1 h1 with rfl | h2
      · left; exact upS_self ..
      · exact .inr h2
  · intro j hj
    have hji : j ≠ i := by rintro rfl; exact hnd.1 hj
    rw [upS_ne hji]; exact s.not j (List.mem_cons_of_mem _ hj)
  · intro j hj
    by_cases hji : j = i
    · subst hji; exact List.mem_cons_self ..
    · rw [upS_ne hji] at hj; exact List.mem_cons_of_mem _ (s.mem j hj)
  · intro j oj hj hqj hLj
    unfold upS; simp [s.q j oj hj hqj hLj]
  · intro j oj hj hfj hDj
    by_cases hji : j = i
    · subst hji; exact hL
    · rw [upS_ne hji] at hDj; exact s.f j oj hj hfj hDj
  · intro j oj hj hqj hfj
    have hji : j ≠ i := by rintro rfl; rw [ho] at hj; cases hj; rw [hf] at hfj; cases hfj
    rw [upS_ne hji]; exact s.l j oj hj hqj hfj
  · intro j oj hj hfj hLj hDj
    have hji : j ≠ i := by rintro rfl; rw [upS_self] at hDj; cases hDj
    rw [upS_ne hji] at hDj
    obtain ⟨t', y', e1, e2, e3, e4, e5, e6⟩ := s.early j oj hj hfj hLj hDj
    have hne := s.dist j i oj o hj ho hfj hf hLj hDj hL hDi hji
    exact ⟨t', y', e1, e2, e3, by simp [hput, hne, e4], e5, e6⟩
  · intro j k oj ok hj hk1 hfj hfk hLj hDj hLk hDk hjk
    have hji : j ≠ i := by rintro rfl; rw [upS_self] at hDj; cases hDj
    have hki : k ≠ i := by rintro rfl; rw [upS_self] at hDk; cases hDk
    rw [upS_ne hji] at hDj
    rw [upS_ne hki] at hDk
    exact s.dist j k oj ok hj hk1 hfj hfk hLj hDj hLk hDk hjk
  · intro j oj hj hqj hDj hLj
    have hji : j ≠ i := by rintro rfl; rw [hL] at hLj; cases hLj
    rw [upS_ne hji] at hDj
    exact (s.pend j oj hj hqj hDj hLj).grow hgrow
  · intro b c u hbc
    by_cases hbi : b = bl i
    · subst hbi
      simp [hput] at hbc
      obtain ⟨rfl, rfl⟩ := hbc
      exact hwb
    · simp [hput, hbi] at hbc
      exact s.sub b c u hbc
  · refine ⟨s.fr.size, s.fr.keep, fun b hb hb' => ?_, s.fr.os, s.fr.out⟩
    by_cases hbi : b = bl i
    · subst hbi; exact hge
    · simp [hput, hbi] at hb'
      exact s.fr.new b hb hb'

/-- The canonical run goes on until the next operation of the actual run is its head. -/
theorem DS.advance (hT : TOk P T) (hR : Rg T ops anc) {r : Nat} {o : Oper} (hr : ops[r]? = some o) (hnf : floatB o = false) (hLr : L r = false) (hdeps : ∀ d ∈ deps o, L d = true) :
    ∀ (rem dl : List Nat) (val : Nat → Value) (D : Nat → Bool) (ρc : Env) (h : Hp), r ∈ rem → DS P T n ops anc K ρ0 h0 w0 val bl dl rem D ρc h L a w →
      ∃ val dl rem D ρc h, DS P T n ops anc K ρ0 h0 w0 val bl dl (r :: rem) D ρc h L a w := by
  intro rem
  induction rem with
  | nil => intro _ _ _ _ _ hm; cases hm
  | cons i rem ih =>
    intro dl val D ρc h hm s
    by_cases hir : i = r
    · subst hir; exact ⟨_, _, _, _, _, _, s⟩
    have hm' : r ∈ rem := by
      rcases List.mem_cons.1 hm with h1 | h1
      · exact absurd h1.symm hir
      · exact h1
    obtain ⟨oi, hoi, hc, -, -⟩ := ord_head s.ord
    have hanc := anc_closed hR.a hR.b s.clL r o hr hdeps
    have hDi : D i = false := s.not i (List.mem_cons_self ..)
    have listed : quietB oi = false → L i = true := by
      intro hq
      rcases hc with hc | hc
      · rw [hq] at hc; cases hc
      rcases hc r hm' with hc | ⟨ok, hok, hfk⟩
      · exact hanc i hc
      · rw [hr] at hok; cases hok; rw [hnf] at hfk; cases hfk
    cases hq : quietB oi with
    | true =>
      obtain ⟨v, ρc', s'⟩ := s.quiet hT hR hoi hq
      exact ih _ _ _ _ _ hm' s'
    | false =>
      cases hf : floatB oi with
      | true =>
        obtain ⟨ρc', h', s'⟩ := s.float hR hoi hf (listed hq)
        exact ih _ _ _ _ _ hm' s'
      | false =>
        have := s.l i oi hoi hq hf
        rw [hDi, listed hq] at this; cases this

end
end Go.Proofs.YgvalwGreat.X
