import Derived.Test.YgvalwGreatM48
set_option linter.unusedVariables false
set_option linter.unusedSimpArgs false
namespace Go.Proofs.YgvalwGreat.X
open Go

section
variable {hi hi' hm hm' hb hb' h : Hp} {K : Value → Hp → Prop} {v v' : VS} {eb : Nat} {m m' : MS} {t : Nat} {mems : Nat → List Int} {stale stale' mem' orig : List Int} {w w' : AW} {sn : List AW} {s0 l0 S S' x o : Int} {A : Nat → Nat}
theorem EX.rt (X : EX hi hm hb eb m t w sn v mems stale) (A' : VA hi hm' eb (mC eb { m with retS := nilS, ret := [] }) w sn v) (hd : Dj (join hi hm') hb) : EX hi hm' hb eb { m with retS := nilS, ret := [] } t w sn v mems stale :=
  ⟨⟨A', X.M.phase, X.M.top, X.M.t7, X.M.fok, X.M.stw, Byt_nil hi⟩, hd, ⟨X.mm.mtop, X.mm.base, X.mm.buf, X.mm.few⟩, X.sn1, X.sn2, X.has, X.wait⟩
theorem updN_id {α : Type} (f : Nat → α) (t : Nat) : updN f t (f t) = f := by
  funext i; unfold updN; split
  · rename_i h; rw [h]
  · rfl
/-- The top frame's gas and places change. -/
theorem EX.fset {f' : MF} (X : EX hi hm hb eb m t w sn v mems stale) (A' : VA hi hm' eb (mC eb { m with fr := updN m.fr t f' }) w' sn v') (hd : Dj (join hi hm') hb) (F' : FOK hi f' t) (hsf : f'.self = (m.fr t).self) (hsp : f'.snap = (m.fr t).snap) (hu : ∀ b, hasA v b = true → hasA v' b = true) :
    EX hi hm' hb eb { m with fr := updN m.fr t f' } t w' sn v' mems stale ∧ absM { m with fr := updN m.fr t f' } t w' sn mems s0 l0 = ⟨w', frsM m t sn mems ++ [frM { m with fr := updN m.fr t f' } sn mems t], m.ret, 1, s0, l0⟩ := by
  have M' : MA hi hm' eb { m with fr := updN m.fr t f' } t w' sn v' := ⟨A', X.M.phase, X.M.top, X.M.t7, fun i hi => by
    show FOK _ (updN m.fr t f' i) i
    unfold updN; split
    · rename_i h; rw [h]; exact F'
    · exact X.M.fok i hi, X.M.stw, X.M.ret⟩
  have := X.step (s0 := s0) (l0 := l0) (m' := { m with fr := updN m.fr t f' }) (mem' := mems t) (stale' := stale) (hb' := hb) rfl hsf hsp (fun _ _ => rfl) M' hd (by rw [updN_id]; exact ⟨X.mm.mtop, X.mm.base, X.mm.buf, X.mm.few⟩) hu
  rwa [updN_id] at this
/-- A frame's meaning when it enters. -/
def newF (f : MF) (w : AW) : AF := ⟨f.kind, f.natv, f.static, f.pc, f.gas, f.val, f.oo, f.ol, [], [], f.code, f.input, f.self, f.caller, w⟩
theorem enterA_sv {a : AS} {f : AF} {x : AW} : enterA a { f with saved := x } = enterA a f := rfl
theorem ent_ok {f : MF} (X : EX hi hm hb eb m t w sn v mems stale) (h7 : t + 1 < 7) (hW : WtM (m.fr t) (mems t)) (hcode : BytS hi f.cs f.code) (hin : BytS hi f.is f.input) (hcl : f.code.length ≤ 512) (hself : f.self.length = 20 ∧ isB f.self) (hcaller : f.caller.length = 20 ∧ isB f.caller) (hval : f.val = 0) (hgas : 0 ≤ f.gas ∧ f.gas < 18446744073709551616) (hsp : f.sp = 0) (hpc : f.pc = 0) (hhas : hasA v f.self = true) (R : Rs S v sn) (hS : 0 ≤ S ∧ S' ≤ 1048576) (hS1 : S + 100 ≤ S')
    (hk : EnK hi eb m S' (enterA (absM m t w sn mems s0 l0) (newF f w)) s0 l0 (K (.bool true))) : CallX Hval.prog 82 [.pointer (some ⟨eb, 0, none⟩), .agg (fB f).toArray] (join (join hi hm) hb) K := by
  have M := X.M
  have hr := R.room (by omega)
  refine CallX.fj X.dj (enter_okM (k := t + 1) M.A h7 (by rw [M.top]; omega) X.mm.mtop hcode hcl hself hcaller.1 hval (by omega) (by omega) (by omega) (fun _ => hhas) fun hm' v' D hD A' u hd' => ?_)
  have hn : ∀ i, i < t + 1 → updN m.fr (t + 1) (entF f (t + 1) D sn.length) i = m.fr i := fun i hi => by unfold updN; rw [if_neg (by omega)]
  have hn1 : updN m.fr (t + 1) (entF f (t + 1) D sn.length) (t + 1) = entF f (t + 1) D sn.length := updN_same ..
  have eN : ∀ i, i < t + 1 → updN mems (t + 1) [] i = mems i := fun i hi => by unfold updN; rw [if_neg (by omega)]
  have el : ∀ i, i ≤ t + 1 → lowN (updN mems (t + 1) []) i = lowN mems i := fun i hi => lowN_ext fun j hj => eN j (by omega)
  have el2 : lowN (updN mems (t + 1) []) (t + 1 + 1) = lowN mems (t + 1) := by
    show lowN (updN mems (t + 1) []) (t + 1) ++ updN mems (t + 1) [] (t + 1) = _
    rw [el _ (Nat.le_refl _), updN_same, List.append_nil]
  have X' : EX hi hm' hb eb (entM m (t + 1) f D sn.length) (t + 1) (entW w (crK f.kind) f.self) (sn ++ [w]) v' (updN mems (t + 1) []) stale := by
    refine ⟨⟨A', rfl, rfl, h7, fun i hit => ?_, M.stw, Byt_nil hi⟩, hd', ⟨rfl, fun i hi => ?_, ?_, ?_⟩, fun i hi => ?_, fun i j hij hj => ?_, fun i hi => ?_, fun i hi => ?_⟩
    · show FOK hi (updN m.fr (t + 1) (entF f (t + 1) D sn.length) i) i
      by_cases h1 : i < t + 1
      · rw [hn i h1]; exact M.fok i (by omega)
      · have : i = t + 1 := by omega
        subst this
        rw [hn1]
        exact ⟨rfl, by show f.sp ≤ 64; omega, by show f.pc < 2000; omega, hgas, hself, hcaller, by show 0 ≤ f.val ∧ f.val < W; rw [hval]; exact ⟨Int.le_refl 0, W_pos⟩, hcode, hcl, hin, hD⟩
    · show updN m.base (t + 1 + 1) (m.base (t + 1)) i = _
      by_cases h1 : i ≤ t + 1
      · rw [el i h1, show updN m.base (t + 1 + 1) (m.base (t + 1)) i = m.base i by unfold updN; rw [if_neg (by omega)]]; exact X.mm.base i h1
      · have : i = t + 1 + 1 := by omega
        subst this
        rw [updN_same, el2]; exact X.mm.base _ (Nat.le_refl _)
    · rw [el2]; exact X.mm.buf
    · rw [el2]; exact X.mm.few
    · show (updN m.fr (t + 1) (entF f (t + 1) D sn.length) i).snap < _
      rw [List.length_append]
      by_cases h1 : i < t + 1
      · rw [hn i h1]; have := X.sn1 i (by omega); exact Nat.lt_add_right _ this
      · have : i = t + 1 := by omega
        subst this
        rw [hn1]; exact Nat.lt_succ_self _
    · show (updN m.fr (t + 1) (entF f (t + 1) D sn.length) i).snap < (updN m.fr (t + 1) (entF f (t + 1) D sn.length) j).snap
      rw [hn i (by omega)]
      by_cases h1 : j < t + 1
      · rw [hn j h1]; exact X.sn2 i j hij (by omega)
      · have : j = t + 1 := by omega
        subst this
        rw [hn1]; exact X.sn1 i (by omega)
    · show hasA v' (updN m.fr (t + 1) (entF f (t + 1) D sn.length) i).self = true
      by_cases h1 : i < t + 1
      · rw [hn i h1]; exact u.has _ (X.has i (by omega))
      · have : i = t + 1 := by omega
        subst this
        rw [hn1]; exact u.has _ hhas
    · show WtM (updN m.fr (t + 1) (entF f (t + 1) D sn.length) i) (updN mems (t + 1) [] i)
      rw [hn i hi, eN i hi]
      by_cases h1 : i = t
      · rw [h1]; exact hW
      · exact X.wait i (by omega)
  refine hk hi hm' hb _ _ _ v' (Ext.refl _) (.inl ⟨t + 1, _, _, X', ?_⟩) ⟨rfl, rfl, rfl, rfl, rfl, rfl, rfl, rfl, rfl, rfl, rfl⟩ ?_
  · have L : Lo (t + 1) m (entM m (t + 1) f D sn.length) sn (sn ++ [w]) mems (updN mems (t + 1) []) := ⟨hn, fun _ _ => rfl, eN, fun i hi => List.getElem?_append_left (X.sn1 i (by omega))⟩
    unfold absM enterA
    rw [L.frs fun i hi => (M.fok i (by omega)).sp, frsM_succ]
    have e1 : frM (entM m (t + 1) f D sn.length) (sn ++ [w]) (updN mems (t + 1) []) (t + 1) = newF f w := by
      have hst : stM (entM m (t + 1) f D sn.length) (t + 1) = [] := by
        refine List.eq_nil_of_length_eq_zero ?_
        rw [stM_len]
        show (updN m.fr (t + 1) (entF f (t + 1) D sn.length) (t + 1)).sp = 0
        rw [hn1]; exact hsp
      unfold frM newF
      rw [hst, updN_same, show (entM m (t + 1) f D sn.length).fr (t + 1) = entF f (t + 1) D sn.length from hn1]
      have hg : ((sn ++ [w])[(entF f (t + 1) D sn.length).snap]?).getD aw0 = w := by
        show ((sn ++ [w])[sn.length]?).getD aw0 = w
        rw [List.getElem?_append_right (Nat.le_refl _), Nat.sub_self]; rfl
      rw [hg]; rfl
    rw [e1]; rfl
  · obtain ⟨r1, r2, r3, r4, r5⟩ := R
    obtain ⟨u1, u2, u3, u4, -⟩ := u
    refine ⟨by omega, by omega, by omega, ?_, by rw [List.length_append, List.length_singleton]; omega⟩
    split at u4 <;> omega
end
end Go.Proofs.YgvalwGreat.X
