/-
  REGIONS THAT DRAW THEIR ORDER: a loud step, and the theorem.
-/
import Derived.Test.YgvalwGreatXh
set_option linter.unusedVariables false
set_option linter.unusedSimpArgs false
namespace Go.Proofs.YgvalwGreat.X
open Go

section
variable {P : Program} {T : Nat → Option Ty} {n : Nat} {o : Oper} {ρ ρ0 : Env} {h : Hp} {K : Env → Hp → Prop} {ops : List Oper} {anc : List (List Nat)} {Q : Exit → Act → World → Prop} {val : Nat → Value}
variable {h0 : Hp} {w0 w : World} {bl : Nat → Nat} {dl rem : List Nat} {D L : Nat → Bool} {ρc : Env} {a : Act}

theorem DS.loud {r : Nat} (hT : TOk P T) (s : DS P T n ops anc K ρ0 h0 w0 val bl dl (r :: rem) D ρc h L a w) (hR : Rg T ops anc) {o : Oper} (ho : ops[r]? = some o) (hf : floatB o = false) (hq : quietB o = false)
    (hdeps : ∀ d ∈ deps o, L d = true) {KK : Act → World → Prop} (hk : ∀ a' w', DZ P T n ops anc K ρ0 h0 w0 (upS L r) a' w' → KK a' w') : wpOp P ops.toArray Q r KK a w := by
  have hrun := s.run
  rw [xdr_cons, ho] at hrun
  simp only [hf, hq] at hrun
  have hDr : D r = false := s.not r (List.mem_cons_self ..)
  have hLr : L r = false := by rw [s.l r o ho hq hf]; exact hDr
  obtain ⟨o', ho', -, hb, hord⟩ := ord_head s.ord
  rw [ho] at ho'; cases ho'
  have hdepsD := s.head_deps hR ho
  have hnd := List.nodup_cons.1 s.ndp
  have hsel := fun cs b => hR.sel _ _ cs b ho
  have hancL := anc_closed hR.a hR.b s.clL r o ho hdeps
  have hancD := anc_closed hR.a hR.b s.clD r o ho hdepsD
  have hlook := look_exec (n := n) (ρ := envS ops ρ0 val L) (ρ' := envS ops ρ0 val D) hsel fun t ht =>
    (see hR.rw hR.a hR.b ho hancL (closed_not hR s.clL hLr) t ht).trans (see hR.rw hR.a hR.b ho hancD (closed_not hR s.clD hDr) t ht).symm
  rw [← s.act, ← s.can] at hlook
  -- what follows in either case
  have fin : ∀ v w', NextK n h w (fun ρ' h' => stabs T n ops ρ' h' (dl.filter fun j => (match ops[j]? with | some oj => readsB T oj | none => false) && !ancB anc r j) (xdr P T n ops anc rem (r :: dl) ρ' h' K)) ((actOf n ρc).put o.dst v) w' →
      DZ P T n ops anc K ρ0 h0 w0 (upS L r) (a.put o.dst v) w' := by
    rintro v w' ⟨ρ', h', hact, hst, hs', hfr⟩
    obtain ⟨hk, hst⟩ := stabs_spec hst
    have hcan : actOf n ρ' = actOf n (envS ops ρ0 (upV val r v) (upS D r)) := by
      rw [← hact, s.can, actOf_put, envS_put hR.once ho]
    have keep : ∀ j oj, ops[j]? = some oj → floatB oj = true → L j = true → D j = false → bl j < w.heap.size := by
      intro j oj hj hfj hLj hDj
      obtain ⟨_, _, -, -, -, -, -, e6⟩ := s.early j oj hj hfj hLj hDj
      exact (Array.getElem?_eq_some_iff.1 e6).1
    refine ⟨upV val r v, bl, r :: dl, rem, upS D r, ρ', h', ?_⟩
    refine { act := ?_, can := hcan, run := hk, ord := hord, all := ?_, not := ?_, mem := ?_, ndp := hnd.2, clL := closed_up s.clL ho hdeps, clD := closed_up s.clD ho hdepsD, q := ?_, f := ?_, l := ?_, early := ?_, dist := ?_, pend := ?_, sub := hs', fr := s.fr.trans hfr }
    · rw [s.act, actOf_put, envS_put hR.once ho]
    · intro j hj
      rcases s.all j hj with h1 | h1
      · left; unfold upS; simp [h1]
      · rcases List.mem_cons.1 h1 with rfl | h2
        · left; exact upS_self ..
        · exact .inr h2
    · intro j hj
      have hji : j ≠ r := by rintro rfl; exact hnd.1 hj
      rw [upS_ne hji]; exact s.not j (List.mem_cons_of_mem _ hj)
    · intro j hj
      by_cases hji : j = r
      · subst hji; exact List.mem_cons_self ..
      · rw [upS_ne hji] at hj; exact List.mem_cons_of_mem _ (s.mem j hj)
    · intro j oj hj hqj hLj
      have hji : j ≠ r := by rintro rfl; rw [ho] at hj; cases hj; rw [hq] at hqj; cases hqj
      rw [upS_ne hji] at hLj
      rw [upS_ne hji]; exact s.q j oj hj hqj hLj
    · intro j oj hj hfj hDj
      have hji : j ≠ r := by rintro rfl; rw [ho] at hj; cases hj; rw [hf] at hfj; cases hfj
      rw [upS_ne hji] at hDj
      rw [upS_ne hji]; exact s.f j oj hj hfj hDj
    · intro j oj hj hqj hfj
      by_cases hji : j = r
      · subst hji; rw [upS_self, upS_self]
      · rw [upS_ne hji, upS_ne hji]; exact s.l j oj hj hqj hfj
    · intro j oj hj hfj hLj hDj
      have hji : j ≠ r := by rintro rfl; rw [ho] at hj; cases hj; rw [hf] at hfj; cases hfj
      rw [upS_ne hji] at hDj hLj
      obtain ⟨t', y', e1, e2, e3, e4, e5, e6⟩ := s.early j oj hj hfj hLj hDj
      have hlt := keep j oj hj hfj hLj hDj
      refine ⟨t', y', e1, e2, ?_, ?_, e5, ?_⟩
      · rw [upV_ne hji]; exact e3
      · cases hh : h' (bl j) with
        | none => rfl
        | some x => have := hfr.new (bl j) e4 (by rw [hh]; simp); omega
      · rw [hfr.keep _ hlt e4]; exact e6
    · intro j k oj ok hj hk1 hfj hfk hLj hDj hLk hDk hjk
      have hji : j ≠ r := by rintro rfl; rw [ho] at hj; cases hj; rw [hf] at hfj; cases hfj
      have hki : k ≠ r := by rintro rfl; rw [ho] at hk1; cases hk1; rw [hf] at hfk; cases hfk
      rw [upS_ne hji] at hDj hLj
      rw [upS_ne hki] at hDk hLk
      exact s.dist j k oj ok hj hk1 hfj hfk hLj hDj hLk hDk hjk
    · intro j oj hj hqj hDj hLj
      have hji : j ≠ r := by rintro rfl; rw [upS_self] at hLj; cases hLj
      rw [upS_ne hji] at hDj hLj
      have hjr : ancB anc j r = false := by
        cases hc : ancB anc j r
        · rfl
        · have := anc_closed hR.a hR.b s.clD j oj hj (s.clD j oj hj hDj) r hc
          rw [hDr] at this; cases this
      rw [upV_ne hji, envS_other hjr]
      have old := s.pend j oj hj hqj hDj hLj
      cases hrd : readsB T oj with
      | false =>
        rcases old with ⟨e1, e2, e3⟩ | old
        · exact .inl ⟨e1, fun w _ => e3 hrd w, fun _ => e3 hrd⟩
        · exact .inr old
      | true =>
        rcases old with ⟨e1, e2, e3⟩ | old
        rotate_left
        · exact .inr old
        have hrj : ancB anc r j = false := by
          cases hc : ancB anc r j
          · rfl
          · rw [hancL j hc] at hLj; cases hLj
        have hmem : j ∈ dl.filter fun j => (match ops[j]? with | some oj => readsB T oj | none => false) && !ancB anc r j := by
          refine List.mem_filter.2 ⟨s.mem j hDj, ?_⟩
          simp [hj, hrd, hrj]
        obtain ⟨t, x, d, hop, hdst, hcase⟩ := hst j hmem oj hj
        have hlk := look_exec (n := n) (ρ := envS ops ρ0 (upV val r v) (upS D r)) (ρ' := envS ops ρ0 (upV val r v) (ancB anc j)) (fun cs b => hR.sel _ _ cs b hj)
          (seeR hR.rd hj hrd fun k hkk => by
            unfold upS
            simp [anc_closed hR.a hR.b s.clD j oj hj (s.clD j oj hj hDj) k hkk])
        rw [envS_other (S := ancB anc j) hjr, ← hcan] at hlk
        rcases hcase with hnw | ⟨hnt, b, off, y, hev, hty, hld⟩
        · rw [hlk.2, e1] at hnw; cases hnw
        · have hval : ev n ρ' (.tmp d) = val j := by
            have h1 : ev n ρ' (.tmp d) = ev n (envS ops ρ0 (upV val r v) (upS D r)) (.tmp d) := by
              rw [← actOf_eval, ← actOf_eval, hcan]
            rw [h1] at hnt
            rw [h1]
            simp only [ev] at hnt ⊢
            cases hlt : Nat.blt d n with
            | false => rw [hlt] at hnt; exact absurd rfl (hnt #[])
            | true =>
              simp only [cond_true, envS, wr_unique hR.once hj hdst]
              rw [upS_ne hji, hDj, upV_ne hji]; rfl
          rw [hval] at hld
          refine .inl ⟨e1, fun w2 hs2 => ?_, fun hc => by rw [hrd] at hc; cases hc⟩
          rw [← hlk.1, actOf_evalF]
          simp [execOp, hop, Instr.loadAt, Instr.sureAddr, hev, loadVar_run hT hty hs2 hld]
  have hg := xopg_sound (Q := fun _ _ _ => False) hT ops s.sub hrun
  unfold Go.wpOp
  have ho2 : ops.toArray[r]? = some o := by simpa using ho
  simp only [ho2]
  rw [hlook.2]
  split at hg
  · rename_i hw
    rw [if_pos hw]
    exact .inl (wp_look hlook.1 (fun v w' hn => hk _ _ (fin v w' hn)) hg)
  · rename_i hw
    rw [if_neg hw]
    exact hk _ _ (fin undef w hg)

/-- How many are not listed yet. -/
def left (L : Nat → Bool) (l : List Nat) : Nat := l.countP fun i => !L i

theorem left_up {r : Nat} (hL : L r = false) : ∀ {l : List Nat}, r ∈ l → left (upS L r) l < left L l := by
  have le : ∀ l : List Nat, left (upS L r) l ≤ left L l := by
    intro l
    refine List.countP_mono_left fun x _ hx => ?_
    by_cases hxr : x = r
    · subst hxr; rw [upS_self] at hx; cases hx
    · rw [upS_ne hxr] at hx; exact hx
  intro l
  induction l with
  | nil => intro h; cases h
  | cons x l ih =>
    intro hm
    unfold left at *
    rw [List.countP_cons, List.countP_cons]
    rcases List.mem_cons.1 hm with rfl | hm
    · have := le l
      unfold left at this
      simp [upS_self, hL]; omega
    · have := ih hm
      by_cases hxr : x = r
      · subst hxr; simp [upS_self, hL]; omega
      · rw [upS_ne hxr]; omega

theorem DS.finish (hR : Rg T ops anc) : ∀ (rem dl : List Nat) (D : Nat → Bool) (ρc : Env) (h : Hp), (∀ i, i < ops.length → L i = true) → DS P T n ops anc K ρ0 h0 w0 val bl dl rem D ρc h L a w →
    NextK n h0 w0 K a w := by
  intro rem
  induction rem with
  | nil =>
    intro dl D ρc h hall s
    refine ⟨ρc, h, ?_, s.run, s.sub, s.fr⟩
    rw [s.act, s.can]
    congr 1
    funext t
    unfold envS
    cases hw : wr ops t with
    | none => rfl
    | some j =>
      obtain ⟨oj, hj, -⟩ := wr_spec hw
      have hlt := (List.getElem?_eq_some_iff.1 hj).1
      have hD : D j = true := by
        rcases s.all j hlt with h1 | h1
        · exact h1
        · cases h1
      simp [hall j hlt, hD]
  | cons i rem ih =>
    intro dl D ρc h hall s
    obtain ⟨oi, hoi, -, -, -⟩ := ord_head s.ord
    have hlt := (List.getElem?_eq_some_iff.1 hoi).1
    have hDi : D i = false := s.not i (List.mem_cons_self ..)
    cases hq : quietB oi with
    | true => rw [s.q i oi hoi hq (hall i hlt)] at hDi; cases hDi
    | false =>
      cases hf : floatB oi with
      | true =>
        obtain ⟨ρc', h', s'⟩ := s.float hR hoi hf (hall i hlt)
        exact ih _ _ _ _ hall s'
      | false =>
        have := s.l i oi hoi hq hf
        rw [hDi, hall i hlt] at this; cases this

def LsB (listed : Array Bool) : Nat → Bool := fun i => listed.getD i false

theorem LsB_set {listed : Array Bool} {r : Nat} (hr : r < listed.size) : LsB (listed.setIfInBounds r true) = upS (LsB listed) r := by
  funext j
  unfold LsB
  by_cases hji : j = r
  · subst hji
    rw [upS_self]
    simp [hr]
  · rw [upS_ne hji, getD_set_ne false (Ne.symm hji)]

theorem draw_any {K' : Env → Hp → Prop} (hKK : ∀ ρ h, K ρ h → K' ρ h) (hT : TOk P T) (hR : Rg T ops anc) (hty : ∀ (i : Nat) (o : Oper) t, ops[i]? = some o → o.op = .alloc t → ∃ y, T t = some y) :
    ∀ (fuel : Nat) (listed : Array Bool) (a : Act) (w : World), listed.size = ops.length → left (LsB listed) (List.range ops.length) ≤ fuel →
      DZ P T n ops anc K ρ0 h0 w0 (LsB listed) a w → wpAny P .any ops.toArray (QN n h0 w0 K') fuel listed a w := by
  intro fuel
  have rdy : ∀ (listed : Array Bool), listed.size = ops.length → ∀ i, i ∈ Region.ready .any ops.toArray listed → ∃ o, ops[i]? = some o ∧ i < ops.length ∧ LsB listed i = false ∧ ∀ d ∈ deps o, LsB listed d = true := by
    intro listed hsz i hi
    obtain ⟨h1, o, h2, h3⟩ := mem_ready.1 hi
    have h2' : ops[i]? = some o := by simpa using h2
    have hlt := (List.getElem?_eq_some_iff.1 h2').1
    refine ⟨o, h2', hlt, ?_, ?_⟩
    · unfold LsB
      have : i < listed.size := by omega
      simp [this] at h1 ⊢
      exact h1
    · intro d hd
      unfold deps at hd
      obtain ⟨e, he, rfl⟩ := List.mem_map.1 hd
      obtain ⟨he1, he2⟩ := List.mem_filter.1 he
      exact h3 e (by simpa using he1) he2
  have done : ∀ (listed : Array Bool) (a : Act) (w : World), listed.size = ops.length → Region.ready .any ops.toArray listed = [] → DZ P T n ops anc K ρ0 h0 w0 (LsB listed) a w → QN n h0 w0 K' .normal a w := by
    intro listed a w hsz hnil hz
    have hall : ∀ i, i < ops.length → LsB listed i = true := by
      intro i
      induction i using Nat.strongRecOn with
      | _ i ih =>
        intro hi
        cases hL : LsB listed i with
        | true => rfl
        | false =>
          have : i ∈ Region.ready .any ops.toArray listed := by
            refine mem_ready.2 ⟨?_, ops[i], by simp [hi], fun e he hb => ?_⟩
            · unfold LsB at hL
              have : i < listed.size := by omega
              simp [this] at hL ⊢
              exact hL
            · have hd : e.on ∈ deps ops[i] := List.mem_map.2 ⟨e, List.mem_filter.2 ⟨by simpa using he, hb⟩, rfl⟩
              have hlt := back_spec hR.b (List.getElem?_eq_getElem hi) hd
              exact ih _ hlt (by omega)
          rw [hnil] at this; cases this
    obtain ⟨val, bl, dl, rem, D, ρc, h, s⟩ := hz
    obtain ⟨ρ', h', e1, e2, e3, e4⟩ := DS.finish hR _ _ _ _ _ hall s
    exact ⟨rfl, ρ', h', e1, hKK _ _ e2, e3, e4⟩
  induction fuel with
  | zero =>
    intro listed a w hsz hfuel hz
    have hnil : Region.ready .any ops.toArray listed = [] := by
      rcases hr : Region.ready .any ops.toArray listed with _ | ⟨i, rs⟩
      · rfl
      · obtain ⟨o, -, hlt, hL, -⟩ := rdy listed hsz i (by rw [hr]; exact List.mem_cons_self ..)
        have := left_up hL (List.mem_range.2 hlt)
        omega
    exact ⟨hnil, done listed a w hsz hnil hz⟩
  | succ fuel ih =>
    intro listed a w hsz hfuel hz
    refine ⟨fun hnil => done listed a w hsz hnil hz, fun r hr => ?_⟩
    obtain ⟨o, ho, hlt, hL, hdeps⟩ := rdy listed hsz r hr
    obtain ⟨val, bl, dl, rem, D, ρc, h, s⟩ := hz
    have hk : ∀ a' w', DZ P T n ops anc K ρ0 h0 w0 (upS (LsB listed) r) a' w' → wpAny P .any ops.toArray (QN n h0 w0 K') fuel (listed.setIfInBounds r true) a' w' := by
      intro a' w' hz'
      rw [← LsB_set (by omega)] at hz'
      refine ih _ _ _ (by simp [hsz]) ?_ hz'
      rw [LsB_set (by omega)]
      have := left_up hL (List.mem_range.2 hlt)
      omega
    cases hq : quietB o with
    | true =>
      have hf : floatB o = false := by
        cases hf : floatB o
        · rfl
        · rw [floatB_quiet hf] at hq; cases hq
      cases hD : D r with
      | true => exact s.listQuiet hR ho hq hD hL hdeps hk
      | false =>
        have hm : r ∈ rem := by
          rcases s.all r hlt with h1 | h1
          · rw [hD] at h1; cases h1
          · exact h1
        obtain ⟨val, dl, rem, D, ρc, h, s⟩ := DS.advance hT hR ho hf hL hdeps _ _ _ _ _ _ hm s
        obtain ⟨v, ρc', s⟩ := s.quiet hT hR ho hq
        exact s.listQuiet hR ho hq (upS_self ..) hL hdeps hk
    | false =>
      cases hf : floatB o with
      | true => exact s.listFloat hT hR ho hf hL (fun t ht => hty r o t ho ht) hdeps hk
      | false =>
        have hm : r ∈ rem := by
          rcases s.all r hlt with h1 | h1
          · rw [← s.l r o ho hq hf, hL] at h1; cases h1
          · exact h1
        obtain ⟨val, dl, rem, D, ρc, h, s⟩ := DS.advance hT hR ho hf hL hdeps _ _ _ _ _ _ hm s
        exact s.loud hT hR ho hf hq hdeps hk

end
end Go.Proofs.YgvalwGreat.X
