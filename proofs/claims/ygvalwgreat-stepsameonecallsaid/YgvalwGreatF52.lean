import Derived.Test.YgvalwGreatF51
set_option linter.unusedVariables false
set_option linter.unusedSimpArgs false
namespace Go.Proofs.YgvalwGreat.X
open Go

theorem BoxW.j {hi hm : Hp} {t : TypeId} {vs : List Value} {KK : Nat → Hp → Prop} (hd : Dj hi hm)
    (hk : ∀ m, hi m = none → hm m = none → Dj (hput hi m (vs, t)) hm → Ext hi (hput hi m (vs, t)) → KK m (join (hput hi m (vs, t)) hm)) : BoxW (join hi hm) t vs KK := by
  refine ⟨fun m hjn => ?_⟩
  obtain ⟨hin, hmn⟩ := join_none hjn
  rw [join_put]
  exact hk m hin hmn (hd.hn hmn) (Ext.new hin)

/-- The tests on a creation's output: the gas left, and the status. -/
def depI (gas : Int) (l : List Int) : Int × Int :=
  if 256 < l.length then (0, 10) else if l.head? = some 239 then (0, 11) else if gas < 200 * (l.length : Int) then (0, 2) else (gas - 200 * (l.length : Int), 0)
section
variable {h : Hp} {K : Value → Hp → Prop}

set_option maxRecDepth 100000 in
set_option maxHeartbeats 4000000 in
theorem deposit_ok {b : Nat} {f : YF} {t : TypeId} {so : Sl} {l : List Int} (hb : h b = some (fCells f, t)) (hg : NtS h f.gasS f.gas) (hgr : f.gas < big) (hl : BytS h so l)
    (hk : ∀ s' h', Ext h h' → NtS h' s' (depI f.gas l).1 → K (.tuple #[sl s', .int .u8 (depI f.gas l).2]) h') :
    CallX Hval.prog 124 [.pointer (some ⟨b, 0, none⟩), sl so] h K := by
  refine CallX.of_xf T_ok Hval.func124 rfl (by kernel_rfl) (Nat.le_of_ble_eq_true rfl) ?_; conv => whnf
  have hbg := big_lt
  have hn := hl.len
  have hr := hl.room
  have hg0 := hg.val
  refine num_ok (by omega) (by omega) fun b1 n1 c1 h1 e1 g1 => ?_; conv => whnf
  have e2 : IntKind.u64.wrap ((so.2.1 : Nat) : Int) = so.2.1 := by rw [wrap_u64']; omega
  rw [e2]
  refine num_ok (by omega) (by omega) fun b2 n2 c2 h2 e2 g2 => ?_; conv => whnf
  refine mulN (g1.ext e2) g2 (by omega) (by omega) fun b3 n3 c3 h3 e3 g3 => ?_; conv => whnf
  have eA := (e1.trans e2).trans e3
  refine CondX.decI (fun hc => ?_) (fun hc => ?_) <;> conv => whnf
  · have e : depI f.gas l = (0, 10) := by unfold depI; rw [if_pos (by omega)]
    rw [e] at hk
    exact RetX.same (hk nilS _ eA (Nt_nil _))
  have tail : ¬ (l.head? = some 239) → (depI f.gas l) = if f.gas < 200 * (l.length : Int) then (0, 2) else (f.gas - 200 * (l.length : Int), 0) := fun h => by
    unfold depI; rw [if_neg (by omega), if_neg h]
  refine CondX.decI (fun hp => ?_) (fun hp => ?_) <;> conv => whnf
  · repeat (first | (refine CondX.tt ?_; conv => whnf) | (refine CondX.ff ?_; conv => whnf))
    have hl' := hl.ext eA
    refine IdxX.rd hl'.rd (by omega) (by omega) fun b1 o1 e1 _ => ?_; conv => whnf
    repeat (first | (refine CondX.tt ?_; conv => whnf) | (refine CondX.ff ?_; conv => whnf))
    refine LoadX.byte hl' e1 0 rfl (by omega) rfl ?_; conv => whnf
    repeat (first | (refine CondX.tt ?_; conv => whnf) | (refine CondX.ff ?_; conv => whnf))
    refine CondX.eqI (fun hq => ?_) (fun hq => ?_) <;> conv => whnf
    · have hh : l.head? = some 239 := by
        cases l with
        | nil => simp at hn; omega
        | cons d l => simpa using hq
      have e : depI f.gas l = (0, 11) := by unfold depI; rw [if_neg (by omega), if_pos hh]
      rw [e] at hk
      exact RetX.same (hk nilS _ eA (Nt_nil _))
    · have hhd : ¬ (l.head? = some 239) := by
        cases l with
        | nil => simp
        | cons d l => simpa using hq
      refine LoadX.blk (eA _ _ hb) (sl f.gasS) rfl ?_; conv => whnf
      refine cmpN g3 (hg.ext eA) ?_; conv => whnf
      rw [cmp_gt]
      refine CondX.decI (fun hq => ?_) (fun hq => ?_) <;> conv => whnf
      · have e : depI f.gas l = (0, 2) := by rw [tail hhd, if_pos (by omega)]
        rw [e] at hk
        exact RetX.same (hk nilS _ eA (Nt_nil _))
      · have e : depI f.gas l = (f.gas - 200 * (l.length : Int), 0) := by rw [tail hhd, if_neg (by omega)]
        rw [e] at hk
        refine LoadX.blk (eA _ _ hb) (sl f.gasS) rfl ?_; conv => whnf
        refine less_ok (hg.ext eA) g3 fun b4 n4 c4 h4 e4 g4 => ?_; conv => whnf
        refine RetX.same (hk (b4, n4, c4) _ (eA.trans e4) ?_)
        have e5 : lessI f.gas (200 * (so.2.1 : Int)) = f.gas - 200 * (l.length : Int) := by unfold lessI; rw [if_neg (by omega), hn]
        rw [e5] at g4; exact g4
  · repeat (first | (refine CondX.tt ?_; conv => whnf) | (refine CondX.ff ?_; conv => whnf))
    have hhd : ¬ (l.head? = some 239) := by
      have : l = [] := List.eq_nil_of_length_eq_zero (by omega)
      rw [this]; simp
    refine LoadX.blk (eA _ _ hb) (sl f.gasS) rfl ?_; conv => whnf
    refine cmpN g3 (hg.ext eA) ?_; conv => whnf
    rw [cmp_gt]
    refine CondX.decI (fun hq => ?_) (fun hq => ?_) <;> conv => whnf
    · have e : depI f.gas l = (0, 2) := by rw [tail hhd, if_pos (by omega)]
      rw [e] at hk
      exact RetX.same (hk nilS _ eA (Nt_nil _))
    · have e : depI f.gas l = (f.gas - 200 * (l.length : Int), 0) := by rw [tail hhd, if_neg (by omega)]
      rw [e] at hk
      refine LoadX.blk (eA _ _ hb) (sl f.gasS) rfl ?_; conv => whnf
      refine less_ok (hg.ext eA) g3 fun b4 n4 c4 h4 e4 g4 => ?_; conv => whnf
      refine RetX.same (hk (b4, n4, c4) _ (eA.trans e4) ?_)
      have e5 : lessI f.gas (200 * (so.2.1 : Int)) = f.gas - 200 * (l.length : Int) := by unfold lessI; rw [if_neg (by omega), hn]
      rw [e5] at g4; exact g4
end
end Go.Proofs.YgvalwGreat.X
