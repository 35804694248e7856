import Derived.Test.YgvalwGreatF55
set_option linter.unusedVariables false
set_option linter.unusedSimpArgs false
namespace Go.Proofs.YgvalwGreat.X
open Go

structure AF where
  kind : Int
  natv : Int
  static : Bool
  pc : Int
  gas : Int
  val : Int
  oo : Int
  ol : Int
  st : List Int
  mem : List Int
  code : List Int
  input : List Int
  self : List Int
  caller : List Int
  saved : AW
def absF (q : YF × List Int) : AF := ⟨q.1.kind, q.1.natv, q.1.static, q.1.pc, q.1.gas, q.1.val, q.1.oo, q.1.ol, q.1.st.map Prod.snd, q.2, q.1.code, q.1.input, q.1.self, q.1.caller, absW q.1.saved⟩

def at0 (s : Sl) (b : Nat) : Prop := s.1 = some ⟨b, 0, none⟩
/-- THE SPECIFICATION's STATE lies in the heap. -/
structure StOK (hi hm : Hp) (c : Nat) (tc : TypeId) (s : YS) (frs : List (YF × List Int)) (ret : List Int) (left : Int) : Prop where
  dj : Dj hi hm
  chain : hm c = some (sCells s, tc)
  now : s.w.ok hi (join hi hm)
  frA : ArrM hm s.frS 60 (frs.map fun q => fCells q.1)
  frC : ∀ fb, at0 s.frS fb → c ≠ fb
  ok : ∀ q ∈ frs, q.1.ok hi
  mem : ∀ q ∈ frs, MemB hm q.1.memS q.2
  memC : ∀ q ∈ frs, ∀ mb, at0 q.1.memS mb → mb ≠ c ∧ ∀ fb, at0 s.frS fb → mb ≠ fb
  dis : frs.Pairwise fun q r => ∀ mb, at0 q.1.memS mb → ¬ at0 r.1.memS mb
  lg : ArrF hi s.w.sL 22 (s.w.logs.map logCells) ∨ (ArrM hm s.w.sL 22 (s.w.logs.map logCells) ∧ ∀ lb, at0 s.w.sL lb → lb ≠ c ∧ (∀ fb, at0 s.frS fb → lb ≠ fb) ∧ ∀ q ∈ frs, ¬ at0 q.1.memS lb)
  ret : BytS hi s.retS ret
  left : NtS hi s.leftS left

theorem Dj.back {hi hi' hm : Hp} (he : Ext hi hi') (hd : Dj hi' hm) : Dj hi hm := fun c => by
  rcases hd c with h1 | h1
  · refine .inl ?_
    cases hx : hi c with
    | none => rfl
    | some z => rw [he _ _ hx] at h1; cases h1
  · exact .inr h1
theorem MemB.keep {hm hm' : Hp} {s : Sl} {m : List Int} (a : MemB hm s m) (h : ∀ mb x, at0 s mb → hm mb = some x → hm' mb = some x) : MemB hm' s m := by
  obtain ⟨q1, q2, q3⟩ := a
  refine ⟨q1, q2, ?_⟩
  rcases q3 with q3 | ⟨mb, q4, q5⟩
  · exact .inl q3
  · exact .inr ⟨mb, q4, h mb _ (by rw [q4]; rfl) q5⟩
/-- The logs' list where the heap's other blocks turn. -/
theorem lg_ok {hi hm : Hp} {w : YW} (hd : Dj hi hm) (hw : w.ok hi hi) : w.ok hi (join hi hm) := hw.lg (Ext.jl hi hm)

/-- The world behind a leave, abstractly. -/
def lvW (w saved : AW) (S : Int) (made : Bool) (self : List Int) (l : List Int) : AW :=
  if S ≠ 0 then saved else if made = true ∧ l ≠ [] then { w with acct := updA w.acct self { w.acct self with code := l } } else w
theorem LvW.abs {hi' : Hp} {w w' : YW} {f : YF} {st : Int} {l : List Int} (h : LvW hi' w w' f st l) : absW w' = lvW (absW w) (absW f.saved) (lvS f st l) (crK f.kind) f.self l := by
  unfold lvW
  by_cases h1 : lvS f st l = 0
  · rw [if_neg (by simp [h1])]
    by_cases h2 : crK f.kind = true ∧ l ≠ []
    · rw [if_pos h2]
      obtain ⟨sC, sA, ys, q1, q2, q3⟩ := h.code h1 h2.1 h2.2
      rw [q1]
      unfold absW
      congr 1
      funext b
      rw [absA_put q3]
      show updA _ (withCode (getA w.acc f.self) sC l).addr (absA (withCode (getA w.acc f.self) sC l)) b = _
      have : (withCode (getA w.acc f.self) sC l).addr = f.self := getA_addr
      rw [this]
      rfl
    · rw [if_neg h2, h.keep h1 h2]
  · rw [if_pos h1, h.back h1]
end Go.Proofs.YgvalwGreat.X
