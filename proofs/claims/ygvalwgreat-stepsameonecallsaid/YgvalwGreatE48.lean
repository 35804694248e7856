import Derived.Test.YgvalwGreatE47
set_option linter.unusedVariables false
set_option linter.unusedSimpArgs false
namespace Go.Proofs.YgvalwGreat.X
open Go

section
variable {c c1 : VCore} {a : List Int} {i : Nat} {k : Int} {sn : List AW} {e : EJ}
/-- Laying what is wanting. -/
theorem cAcct_all (C : COK c) (hl : a.length = 20) (hB : isB a) (hr : c.aL.length < 2560) : COK (cAcct c a) ∧ absC (cAcct c a) = absC c ∧ Nm c (cAcct c a) ∧ (cAcct c a).jL = c.jL ∧ (cAcct c a).nm = c.nm ∧ (cAcct c a).mks = c.mks ∧ (cAcct c a).sL = c.sL ∧ (cAcct c a).tL = c.tL ∧ nameA (cAcct c a) (atA c a) = a := by
  unfold cAcct atA
  cases h : idxA c.aL a with
  | some i => exact ⟨C, rfl, Nm.of_eq rfl rfl rfl, rfl, rfl, rfl, rfl, rfl, (idxA_get h).2⟩
  | none =>
    have C' := cok_acct C hl hB hr h
    exact ⟨C', abs_addA C C' h, Nm.addA, rfl, rfl, rfl, rfl, rfl, by unfold nameA; dsimp only; rw [getDl]; rfl⟩
theorem atS_lt : atS c i k < (cSlot c i k).sL.length := by
  unfold atS cSlot
  cases h : idxS c.sL i k with
  | some i => exact (idx_get (d := dS) h).1
  | none => simp
theorem atT_lt : atT c i k < (cTemp c i k).tL.length := by
  unfold atT cTemp
  cases h : idxT c.tL i k with
  | some i => exact (idx_get (d := dT) h).1
  | none => simp
theorem cSlot_all {k : Nat} (C : COK c) (ha : i < c.aL.length) (hk : (k : Int) < W) (hr : c.sL.length < 2560) (ho : ∀ x ∈ c.sL, x.orig = 0) : COK (cSlot c i k) ∧ absC (cSlot c i k) = absC c ∧ Nm c (cSlot c i k) ∧ (cSlot c i k).jL = c.jL ∧ (cSlot c i k).nm = c.nm ∧ (cSlot c i k).mks = c.mks ∧ (cSlot c i k).aL = c.aL ∧ (cSlot c i k).tL = c.tL ∧ (((cSlot c i k).sL.getD (atS c i k) dS).acct = i ∧ ((cSlot c i k).sL.getD (atS c i k) dS).key = k) ∧ (∀ x ∈ (cSlot c i k).sL, x.orig = 0) := by
  unfold cSlot atS
  cases h : idxS c.sL i k with
  | some j => exact ⟨C, rfl, Nm.of_eq rfl rfl rfl, rfl, rfl, rfl, rfl, rfl, (idxS_get h).2, ho⟩
  | none =>
    have C' := cok_slot C ha hk hr h
    refine ⟨C', abs_addS C' h, Nm.addS, rfl, rfl, rfl, rfl, rfl, by dsimp only; rw [getDl]; exact ⟨rfl, rfl⟩, fun x hx => ?_⟩
    rcases List.mem_append.1 hx with h1 | h1
    · exact ho x h1
    · rw [List.mem_singleton.1 h1]; rfl
theorem cTemp_all {k : Nat} (C : COK c) (ha : i < c.aL.length) (hk : (k : Int) < W) (hr : c.tL.length < 12288) : COK (cTemp c i k) ∧ absC (cTemp c i k) = absC c ∧ Nm c (cTemp c i k) ∧ (cTemp c i k).jL = c.jL ∧ (cTemp c i k).nm = c.nm ∧ (cTemp c i k).mks = c.mks ∧ (cTemp c i k).aL = c.aL ∧ (cTemp c i k).sL = c.sL ∧ (((cTemp c i k).tL.getD (atT c i k) dT).acct = i ∧ ((cTemp c i k).tL.getD (atT c i k) dT).key = k) := by
  unfold cTemp atT
  cases h : idxT c.tL i k with
  | some j => exact ⟨C, rfl, Nm.of_eq rfl rfl rfl, rfl, rfl, rfl, rfl, rfl, (idxT_get h).2⟩
  | none =>
    have C' := cok_temp C ha hk hr h
    exact ⟨C', abs_addT C' h, Nm.addT, rfl, rfl, rfl, rfl, rfl, by dsimp only; rw [getDl]; exact ⟨rfl, rfl⟩⟩
theorem Hist.setA (H : Hist c1 sn) (C : COK c1) {x : EA} (h : i < c1.aL.length) (hx : x.addr = (c1.aL.getD i dA).addr) (he : e.ok c1) (hb : eW c1 e (absC { c1 with aL := c1.aL.set i x }) = absC c1) (h7 : e.kind ≠ 7 := by exact Nat.ne_of_beq_eq_false rfl) : Hist { c1 with aL := c1.aL.set i x, jL := c1.jL ++ [e] } sn := by
  have n : Nm c1 { c1 with aL := c1.aL.set i x, jL := c1.jL ++ [e] } := ⟨(Nm.setA h hx).a, (Nm.setA h hx).s, (Nm.setA h hx).t⟩
  refine H.push C n rfl ?_ rfl rfl (by rw [if_neg h7]; rfl)
  rw [eW_nm C n he]; exact hb
theorem Hist.setS (H : Hist c1 sn) (C : COK c1) {x : ESl} (h : i < c1.sL.length) (hx : x.acct = (c1.sL.getD i dS).acct) (hx2 : x.key = (c1.sL.getD i dS).key) (he : e.ok c1) (hb : eW c1 e (absC { c1 with sL := c1.sL.set i x }) = absC c1) (h7 : e.kind ≠ 7 := by exact Nat.ne_of_beq_eq_false rfl) : Hist { c1 with sL := c1.sL.set i x, jL := c1.jL ++ [e] } sn := by
  have n : Nm c1 { c1 with sL := c1.sL.set i x, jL := c1.jL ++ [e] } := ⟨(Nm.setS h hx hx2).a, (Nm.setS h hx hx2).s, (Nm.setS h hx hx2).t⟩
  refine H.push C n rfl ?_ rfl rfl (by rw [if_neg h7]; rfl)
  rw [eW_nm C n he]; exact hb
theorem Hist.setT (H : Hist c1 sn) (C : COK c1) {x : ET} (h : i < c1.tL.length) (hx : x.acct = (c1.tL.getD i dT).acct) (hx2 : x.key = (c1.tL.getD i dT).key) (he : e.ok c1) (hb : eW c1 e (absC { c1 with tL := c1.tL.set i x }) = absC c1) (h7 : e.kind ≠ 7 := by exact Nat.ne_of_beq_eq_false rfl) : Hist { c1 with tL := c1.tL.set i x, jL := c1.jL ++ [e] } sn := by
  have n : Nm c1 { c1 with tL := c1.tL.set i x, jL := c1.jL ++ [e] } := ⟨(Nm.setT h hx hx2).a, (Nm.setT h hx hx2).s, (Nm.setT h hx hx2).t⟩
  refine H.push C n rfl ?_ rfl rfl (by rw [if_neg h7]; rfl)
  rw [eW_nm C n he]; exact hb
end
/-- THE VAULT, BY WHAT IT MEANS: the world, the worlds at the snapshots. -/
structure VA (hi hm : Hp) (eb : Nat) (mc : Nat → Value) (w : AW) (sn : List AW) (v : VS) : Prop where
  V : VOK hi hm eb mc v
  abs : absC v.core = w
  hist : Hist v.core sn
  orig : ∀ x ∈ v.sL, x.orig = 0
def hasA (v : VS) (a : List Int) : Bool := (idxA v.aL a).isSome
def newA (v : VS) (a : List Int) : Nat := if hasA v a = true then 0 else 1
structure Up (v v' : VS) (nA nS nT nJ : Nat) : Prop where
  a : v'.aL.length ≤ v.aL.length + nA
  s : v'.sL.length ≤ v.sL.length + nS
  t : v'.tL.length ≤ v.tL.length + nT
  j : v'.jL.length ≤ v.jL.length + nJ
  has : ∀ b, hasA v b = true → hasA v' b = true
  nl : v'.nm = v.nm
section
variable {v v' v'' : VS} {a : List Int}
theorem Up.refl : Up v v 0 0 0 0 := ⟨Nat.le_refl _, Nat.le_refl _, Nat.le_refl _, Nat.le_refl _, fun _ h => h, rfl⟩
theorem Up.trans {a b c d a' b' c' d' : Nat} (h1 : Up v v' a b c d) (h2 : Up v' v'' a' b' c' d') : Up v v'' (a + a') (b + b') (c + c') (d + d') := by
  obtain ⟨x1, x2, x3, x4, x5, x6⟩ := h1
  obtain ⟨y1, y2, y3, y4, y5, y6⟩ := h2
  exact ⟨by omega, by omega, by omega, by omega, fun b h => y5 b (x5 b h), y6.trans x6⟩
theorem has_core (h : hasA v a = true) : ∃ i, idxA v.core.aL a = some i := Option.isSome_iff_exists.1 h
theorem has_nm (C' : COK v'.core) (n : Nm v.core v'.core) : ∀ b, hasA v b = true → hasA v' b = true := fun b h => by
  obtain ⟨i, hi⟩ := has_core h
  exact Option.isSome_iff_exists.2 ⟨i, n.idxA C' hi⟩
theorem cAcct_len {c : VCore} : (cAcct c a).aL.length = c.aL.length + (if (idxA c.aL a).isSome = true then 0 else 1) := by
  unfold cAcct
  cases h : idxA c.aL a with
  | some i => rfl
  | none => simp
end
end Go.Proofs.YgvalwGreat.X
