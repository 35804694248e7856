import Derived.Test.YgvalwGreatM50
set_option linter.unusedVariables false
set_option linter.unusedSimpArgs false
namespace Go.Proofs.YgvalwGreat.X
open Go

section
variable {hi hi' hm hm' hb hb' hl h h1 : Hp} {K : Value → Hp → Prop} {KK : Hp → Prop} {v v' : VS} {eb : Nat} {m m' : MS} {t : Nat} {mems : Nat → List Int} {stale stale' mem' orig : List Int} {w w' : AW} {sn : List AW} {s0 l0 S S' x o : Int} {A : Nat → Nat} {a : AS} {f f' : MF}
theorem frsM_fset : frsM { m with fr := updN m.fr t f' } t sn mems = frsM m t sn mems := by
  unfold frsM
  refine List.map_congr_left fun i hi => ?_
  have := List.mem_range.1 hi
  have e : updN m.fr t f' i = m.fr i := by unfold updN; rw [if_neg (by omega)]
  unfold frM stM
  dsimp only
  rw [e]
theorem frsM_settle {T st : Nat} : frsM (settleM m t T none st) t sn mems = frsM m t sn mems := frsM_fset
theorem EX.vset (X : EX hi hm hb eb m t w sn v mems stale) (A' : VA hi hm' eb (mC eb m) w' sn v') (hd : Dj (join hi hm') hb) (hu : ∀ b, hasA v b = true → hasA v' b = true) : EX hi hm' hb eb m t w' sn v' mems stale :=
  ⟨X.M.setV (Ext.refl _) A', hd, X.mm, X.sn1, X.sn2, fun i hi => hu _ (X.has i hi), X.wait⟩
theorem FOK.gol {i : Nat} {g a b : Int} (F : FOK hi f i) (hg : 0 ≤ g ∧ g < 18446744073709551616) : FOK hi { f with gas := g, oo := a, ol := b } i := ⟨F.sb, F.sp, F.pc, hg, F.self, F.caller, F.val, F.code, F.cl, F.input, F.dst⟩
theorem frM_gol {g a b : Int} : frM { m with fr := updN m.fr t { m.fr t with gas := g, oo := a, ol := b } } sn mems t = { frM m sn mems t with gas := g, oo := a, ol := b } := by
  have e : stM { m with fr := updN m.fr t { m.fr t with gas := g, oo := a, ol := b } } t = stM m t := stM_ext (by show (updN m.fr t _ t).sp = _; rw [updN_same]) fun j _ => rfl
  unfold frM
  rw [e]
  simp only [updN_same]
theorem updN_two {α : Type} (f : Nat → α) (t : Nat) (x y : α) : updN (updN f t x) t y = updN f t y := by
  funext i; unfold updN; split <;> rfl
theorem fset_ool : ({ m with fr := updN (updN m.fr t { m.fr t with oo := 0 }) t { updN m.fr t { m.fr t with oo := 0 } t with ol := 0 } } : MS) = { m with fr := updN m.fr t { m.fr t with gas := (m.fr t).gas, oo := 0, ol := 0 } } := by
  rw [updN_same, updN_two]
theorem fset_ools {a b : Int} : ({ m with fr := updN (updN m.fr t { m.fr t with oo := a }) t { updN m.fr t { m.fr t with oo := a } t with ol := b } } : MS) = { m with fr := updN m.fr t { m.fr t with gas := (m.fr t).gas, oo := a, ol := b } } := by
  rw [updN_same, updN_two]
end
end Go.Proofs.YgvalwGreat.X
