import Derived.Test.YgvalwGreatM32
set_option linter.unusedVariables false
set_option linter.unusedSimpArgs false
namespace Go.Proofs.YgvalwGreat.X
open Go

section
variable {hi hi' hm hm' hb hb' h : Hp} {K : Value → Hp → Prop} {v v' : VS} {eb : Nat} {m m' : MS} {t : Nat} {mems : Nat → List Int} {stale stale' mem' orig : List Int} {w w' : AW} {sn : List AW} {s0 l0 S S' x o : Int} {A : Nat → Nat}
theorem EX.step {f' : MF} (X : EX hi hm hb eb m t w sn v mems stale) (hfr : m'.fr = updN m.fr t f') (hsf : f'.self = (m.fr t).self) (hsp : f'.snap = (m.fr t).snap) (hstk : ∀ i, i < 64 * t → m'.stk i = m.stk i) (M' : MA hi' hm' eb m' t w' sn v') (hd : Dj (join hi' hm') hb') (B : MM hb' m' t (updN mems t mem') stale') (hu : ∀ b, hasA v b = true → hasA v' b = true) :
    EX hi' hm' hb' eb m' t w' sn v' (updN mems t mem') stale' ∧ absM m' t w' sn (updN mems t mem') s0 l0 = ⟨w', frsM m t sn mems ++ [frM m' sn (updN mems t mem') t], m'.ret, 1, s0, l0⟩ := by
  have eF : ∀ i, (m'.fr i).snap = (m.fr i).snap ∧ (m'.fr i).self = (m.fr i).self := fun i => by
    rw [hfr]; unfold updN; split
    · rename_i h; subst h; exact ⟨hsp, hsf⟩
    · exact ⟨rfl, rfl⟩
  have eL : ∀ i, i < t → m'.fr i = m.fr i := fun i hi => by rw [hfr]; unfold updN; rw [if_neg (by omega)]
  have eM : ∀ i, i < t → updN mems t mem' i = mems i := fun i hi => by unfold updN; rw [if_neg (by omega)]
  refine ⟨⟨M', hd, B, fun i hi => ?_, fun i j hij hj => ?_, fun i hi => ?_, fun i hi => ?_⟩, ?_⟩
  · rw [(eF i).1]; exact X.sn1 i hi
  · rw [(eF i).1, (eF j).1]; exact X.sn2 i j hij hj
  · rw [(eF i).2]; exact hu _ (X.has i hi)
  · rw [eL i hi, eM i hi]; exact X.wait i hi
  · unfold absM
    have L : Lo t m m' sn sn mems (updN mems t mem') := ⟨eL, hstk, eM, fun _ _ => rfl⟩
    rw [L.frs fun i hi => (X.M.fok i (by omega)).sp]
def settleF (f : AF) (T : Nat) (g : Option Int) (st : Nat) (mem' : List Int) : AF := { f with st := f.st.take (f.st.length - T) ++ g.toList, pc := f.pc + st, mem := mem' }
theorem EX.settle {T st : Nat} {g : Option Int} (X : EX hi hm hb eb m t w sn v mems stale) (M' : MA hi' hm' eb (settleM m t T g st) t w' sn v') (hd : Dj (join hi' hm') hb') (B : MM hb' m t (updN mems t mem') stale') (hu : ∀ b, hasA v b = true → hasA v' b = true) :
    EX hi' hm' hb' eb (settleM m t T g st) t w' sn v' (updN mems t mem') stale' ∧ absM (settleM m t T g st) t w' sn (updN mems t mem') s0 l0 = ⟨w', frsM m t sn mems ++ [settleF (frM m sn mems t) T g st mem'], m.ret, 1, s0, l0⟩ := by
  cases g with
  | none =>
    have h := X.step (s0 := s0) (l0 := l0) (m' := settleM m t T none st) (f' := { m.fr t with sp := (m.fr t).sp - T, pc := (m.fr t).pc + st }) rfl rfl rfl (fun i _ => rfl) M' hd ⟨B.mtop, B.base, B.buf, B.few⟩ hu
    refine ⟨h.1, h.2.trans ?_⟩
    refine congrArg (fun y => (⟨w', frsM m t sn mems ++ [y], m.ret, 1, s0, l0⟩ : AS)) ?_
    unfold frM settleF
    rw [stM_none, updN_same]
    simp only [settleM, updN_same, Option.toList_none, List.append_nil]
    rfl
  | some x =>
    have h := X.step (s0 := s0) (l0 := l0) (m' := settleM m t T (some x) st) (f' := { m.fr t with sp := (m.fr t).sp - T + 1, pc := (m.fr t).pc + st }) rfl rfl rfl (fun i hi => by show updN m.stk _ x i = _; unfold updN; rw [if_neg (by omega)]) M' hd ⟨B.mtop, B.base, B.buf, B.few⟩ hu
    refine ⟨h.1, h.2.trans ?_⟩
    refine congrArg (fun y => (⟨w', frsM m t sn mems ++ [y], m.ret, 1, s0, l0⟩ : AS)) ?_
    unfold frM settleF
    rw [stM_some, updN_same]
    simp only [settleM, updN_same, Option.toList_some]
    rfl
theorem fixM.settle {T st : Nat} {g : Option Int} : fixM m (settleM m t T g st) := by cases g <;> exact ⟨rfl, rfl, rfl, rfl, rfl, rfl, rfl, rfl, rfl, rfl, rfl⟩
theorem plainA_val {a : AS} {base : List AF} {f : AF} {T st : Nat} (hT : (arI o).1 = T) (hg : (arI o).2.1 = 1) (hnj : o ≠ 86 ∧ o ≠ 87 ∧ ¬ (128 ≤ o ∧ o ≤ 159)) (hst : 1 + immI o = st) : plainA a base f orig o = { a with w := valW a.w f.self o (opA f o), frs := base ++ [settleF f T (some (valA a.w f a.ret orig o (opA f o))) st f.mem] } := by
  unfold plainA
  rw [if_neg (by omega), if_neg (by omega), if_neg (by omega), if_pos hg, hT, hst]
  rfl
theorem plainA_eff {a : AS} {base : List AF} {f : AF} {T st : Nat} (hT : (arI o).1 = T) (hg : (arI o).2.1 = 0) (hnj : o ≠ 86 ∧ (o = 87 → opA f o 1 = 0) ∧ ¬ (128 ≤ o ∧ o ≤ 159)) (hst : 1 + immI o = st) : plainA a base f orig o = { a with w := effW a.w f.self o (opA f o), frs := base ++ [settleF f T none st (effM a.w f a.ret o (opA f o))] } := by
  unfold plainA
  rw [if_neg (by intro hh; rcases hh with h | ⟨h, h2⟩; · omega
                 · exact h2 (hnj.2.1 h)), if_neg (by omega), if_neg (by omega), if_neg (by rw [hg]; decide), hT, hst]
  simp only [settleF, Option.toList_none, List.append_nil, Int.toNat_natCast]
theorem opA_eq (hA : ∀ i, argM m t i = A i) {T : Nat} (hT : (arI o).1 = T) : opA (frM m sn mems t) o = fun i => if i < T then (A i : Int) else 0 := by
  funext i
  unfold opA
  rw [hT, Int.toNat_natCast]
  show (if i < T then argA (stM m t) i else 0) = _
  rw [stM_arg, hA]
/-- An instruction that gives a word has been done. -/
theorem fin_val {T st : Nat} (X : EX hi hm hb eb m t w sn v mems stale) (hT : (arI o).1 = T) (hg : (arI o).2.1 = 1) (hnj : o ≠ 86 ∧ o ≠ 87 ∧ ¬ (128 ≤ o ∧ o ≤ 159)) (hst : 1 + immI o = st) (M' : MA hi' hm' eb (settleM m t T (some x) st) t w' sn v') (hd : Dj (join hi' hm') hb) (hE : Ext hi hi') (hu : ∀ b, hasA v b = true → hasA v' b = true)
    (hw : valW w (m.fr t).self o (opA (frM m sn mems t) o) = w') (hx : valA w (frM m sn mems t) m.ret orig o (opA (frM m sn mems t) o) = x) (R : Rs S v' sn) {KK : Hp → Prop} (hk : EnK hi eb m S (plainA (absM m t w sn mems s0 l0) (frsM m t sn mems) (frM m sn mems t) orig o) s0 l0 KK) : KK (join (join hi' hm') hb) := by
  obtain ⟨X', e⟩ := X.settle (s0 := s0) (l0 := l0) M' hd (X.mm.set X.mm.top fun i _ => rfl) hu
  refine hk hi' hm' hb _ w' sn v' hE (.inl ⟨t, _, _, X', e.trans ?_⟩) fixM.settle R
  rw [plainA_val hT hg hnj hst]
  show _ = (⟨valW w (m.fr t).self o _, _ ++ [settleF _ T (some (valA w _ m.ret orig o _)) st _], m.ret, 1, s0, l0⟩ : AS)
  rw [hw, hx]; rfl
/-- An instruction that gives nothing has been done. -/
theorem fin_eff {T st : Nat} (X : EX hi hm hb eb m t w sn v mems stale) (hT : (arI o).1 = T) (hg : (arI o).2.1 = 0) (hnj : o ≠ 86 ∧ (o = 87 → opA (frM m sn mems t) o 1 = 0) ∧ ¬ (128 ≤ o ∧ o ≤ 159)) (hst : 1 + immI o = st) (M' : MA hi' hm' eb (settleM m t T none st) t w' sn v') (hd : Dj (join hi' hm') hb') (hE : Ext hi hi') (hu : ∀ b, hasA v b = true → hasA v' b = true)
    (B : MBf hb' m t (lowN mems t) mem' stale') (hw : effW w (m.fr t).self o (opA (frM m sn mems t) o) = w') (hx : effM w (frM m sn mems t) m.ret o (opA (frM m sn mems t) o) = mem') (R : Rs S v' sn) {KK : Hp → Prop} (hk : EnK hi eb m S (plainA (absM m t w sn mems s0 l0) (frsM m t sn mems) (frM m sn mems t) orig o) s0 l0 KK) : KK (join (join hi' hm') hb') := by
  obtain ⟨X', e⟩ := X.settle (s0 := s0) (l0 := l0) M' hd (X.mm.set B fun i _ => rfl) hu
  refine hk hi' hm' hb' _ w' sn v' hE (.inl ⟨t, _, _, X', e.trans ?_⟩) fixM.settle R
  rw [plainA_eff hT hg hnj hst]
  show _ = (⟨effW w (m.fr t).self o _, _ ++ [settleF _ T none st (effM w _ m.ret o _)], m.ret, 1, s0, l0⟩ : AS)
  rw [hw, hx]
end
end Go.Proofs.YgvalwGreat.X
