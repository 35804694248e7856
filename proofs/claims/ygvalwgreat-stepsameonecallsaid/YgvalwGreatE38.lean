import Derived.Test.YgvalwGreatE37
set_option linter.unusedVariables false
set_option linter.unusedSimpArgs false
namespace Go.Proofs.YgvalwGreat.X
open Go

theorem intCells_wc (x : Int) : intCells .u64 (wc x) = true := rfl
theorem eqCells_wc {x y : Int} (hx0 : 0 ≤ x) (hx : x < W) (hy0 : 0 ≤ y) (hy : y < W) : eqCells (wc x) (wc y) = decide (x = y) := by
  have ex := wc_wv hx0 hx
  have ey := wc_wv hy0 hy
  rw [Bool.eq_iff_iff, decide_eq_true_eq]
  constructor
  · intro h
    unfold wc at h
    simp only [eqCells, Bool.and_eq_true, beq_iff_eq, and_true] at h
    rw [← ex, ← ey, h.1, h.2.1, h.2.2.1, h.2.2.2]
  · rintro rfl
    unfold wc
    simp [eqCells]
section
variable {h : Hp} {K : Value → Hp → Prop} {mc : Nat → Value} {v : VS} {eb : Nat}

def dS : ESl := ⟨0, 0, 0, 0, false⟩
def dT : ET := ⟨0, 0, 0⟩
/-- The slots, as they lie. -/
structure SsOK (h : Hp) (v : VS) : Prop where
  arr : Arr h v.sS 14 (v.sL.map slCells)
  tab : TabOK 4096 v.stab v.sL.length (fun i => mixS (v.sL.getD i dS).acct (v.sL.getD i dS).key.toNat % 4096)
  few : v.sL.length ≤ 2560
  wf : ∀ x ∈ v.sL, x.acct < 2560 ∧ (0 ≤ x.key ∧ x.key < W)
theorem slCells_key {x : ESl} : seg (slCells x) 1 4 = wc x.key := rfl
set_option maxRecDepth 100000 in
set_option maxHeartbeats 4000000 in
theorem findSlot_ok {a k : Nat} (ha : a < 2560) (hkW : (k : Int) < W) (hb : h eb = some (fnv 27024 (eC mc v), 101)) (A : SsOK h v)
    (hk1 : ∀ i, i < v.sL.length → (v.sL.getD i dS).acct = a → (v.sL.getD i dS).key = k → K (.tuple #[.int .i32 i, .int .i32 (-1)]) h)
    (hk2 : (∀ i, i < v.sL.length → ¬ ((v.sL.getD i dS).acct = a ∧ (v.sL.getD i dS).key = k)) → ∀ p, p < 4096 → Gap 4096 v.stab (mixS a k % 4096) p → K (.tuple #[.int .i32 (-1), .int .i32 p]) h) :
    CallX Hval.prog 220 [.pointer (some ⟨eb, 2435, none⟩), .int .i32 a, .agg (wc k).toArray] h K := by
  obtain ⟨H, hHe⟩ : ∃ H, H = mixS a k % 4096 := ⟨_, rfl⟩
  have hH : H < 4096 := by rw [hHe]; exact Nat.mod_lt _ (by decide)
  refine CallX.of_xf T_ok Hval.func220 rfl (by kernel_rfl) (Nat.le_of_ble_eq_true rfl) ?_; conv => whnf
  refine BoxX.mk fun n1 hn1 => ?_; conv => whnf
  refine LoadX.all (c := wc k) (hput_same ..) rfl ?_; conv => whnf
  refine slotHome_ok (by omega) hkW ?_; conv => whnf
  rw [← hHe] at hk2 ⊢
  refine LoopX.st T_ok Hval.func220 (σ := Nat) (fun t => [(0, .pointer (some ⟨eb, 2435, none⟩)), (1, .int .i32 a), (5, .pointer (some ⟨n1, 0, none⟩)), (8, .int .u32 (((H + t) % 4096 : Nat) : Int)), (9, .int .i64 t)])
    (fun t h' => (t ≤ 4096 ∧ ∀ e, e < t → ∃ j : Nat, v.stab ((H + e) % 4096) = j ∧ j < v.sL.length ∧ ¬ ((v.sL.getD j dS).acct = a ∧ (v.sL.getD j dS).key = k)) ∧ h' = hput h n1 (wc k, 75)) (fun t => 4096 - t) 0
    ⟨rfl, rfl, rfl, congrArg (Value.int .u32) (by rw [Nat.add_zero, Nat.mod_eq_of_lt hH]), rfl, trivial⟩ ⟨⟨by omega, fun e he => absurd he (by omega)⟩, rfl⟩ ?_
  rintro t ρ h' ⟨⟨ht, hpre⟩, rfl⟩ ih
  conv => whnf
  refine CondX.decI (fun hlt => ?_) (fun hlt => ?_) <;> conv => whnf
  · have hlt : t < 4096 := by omega
    have hp := Nat.mod_lt (H + t) (show 0 < 4096 by decide)
    have hne : eb ≠ n1 := by have := hn1 _ _ hb; omega
    have hb1 : hput h n1 (wc k, 75) eb = some (fnv 27024 (eC mc v), 101) := by rw [hput_ne hne]; exact hb
    repeat (refine Ob.mk (by first | decide | omega) ?_; conv => whnf)
    generalize hP : (H + t) % 4096 = P at *
    refine LoadX.fn hb1 (6533 + P) (by rw [Int.toNat_natCast, show (fd 4098 87).offset = 4098 from rfl, show (21, y21).snd.size = 1 from rfl]; omega) (by omega) ?_
    rw [eC_st mc v hp]; conv => whnf
    refine CondX.decI (fun hneg => ?_) (fun hneg => ?_) <;> conv => whnf
    · refine RetX.drop (h' := h) (fun b z hbz => ?_) ?_
      · have := hn1 b z hbz
        rw [hput_ne (by omega)]; exact hbz
      have e32 : IntKind.i32.wrap (P : Int) = P := by rw [wrap_i32 (by omega) (by omega)]
      rw [e32]
      refine hk2 (fun i hi heq => ?_) P hp ⟨t, hlt, hP.symm, hneg, fun e he => ?_⟩
      · obtain ⟨d, hd, h1, h2⟩ := A.tab.chain i hi
        rw [heq.1, heq.2, Int.toNat_natCast, ← hHe] at h1 h2
        by_cases hdt : d < t
        · obtain ⟨j, h3, h4, h5⟩ := hpre d hdt
          rw [h1] at h3
          have : i = j := by omega
          subst this
          exact h5 heq
        · by_cases hde : d = t
          · subst hde; rw [hP] at h1; omega
          · have := h2 t (by omega); rw [hP] at this; omega
      · obtain ⟨j, h3, -⟩ := hpre e he
        omega
    · obtain ⟨j, hj, htj⟩ : ∃ j : Nat, j < v.sL.length ∧ v.stab P = j := by
        rcases A.tab.rng P hp with h1 | h1
        · omega
        · exact h1
      rw [htj]
      have hfew := A.few
      have hlen := A.arr.len
      rw [List.length_map] at hlen
      have e32 : IntKind.i64.wrap (j : Int) = j := by rw [wrap_i64 (by omega) (by omega)]
      have hA : Arr (hput h n1 (wc k, 75)) v.sS 14 (v.sL.map slCells) := A.arr.ext (Ext.bd hn1)
      have hg : (v.sL.map slCells).getD j [] = slCells (v.sL.getD j dS) := by
        rw [List.getD_eq_getElem?_getD, List.getD_eq_getElem?_getD, List.getElem?_map, List.getElem?_eq_getElem hj]; rfl
      have hx := A.wf (v.sL.getD j dS) (by rw [List.getD_eq_getElem?_getD, List.getElem?_eq_getElem hj]; exact List.getElem_mem hj)
      have next : ¬ ((v.sL.getD j dS).acct = a ∧ (v.sL.getD j dS).key = k) → ∀ e, e < t + 1 → ∃ j : Nat, v.stab ((H + e) % 4096) = j ∧ j < v.sL.length ∧ ¬ ((v.sL.getD j dS).acct = a ∧ (v.sL.getD j dS).key = k) := fun hno e he => by
        by_cases het : e = t
        · subst het; exact ⟨j, by rw [hP]; exact htj, hj, hno⟩
        · exact hpre e (by omega)
      have eP : (IntKind.u32.wrap ((P : Int) + 1)).tmod 4096 = (((H + (t + 1)) % 4096 : Nat) : Int) := by
        have e1 : IntKind.u32.wrap ((P : Int) + 1) = ((P + 1 : Nat) : Int) := by rw [wrap_u32]; omega
        rw [e1, show (((P + 1 : Nat) : Int).tmod 4096) = _ from tmod_nat _ 4096, ← hP]
        omega
      refine DrawX.go T_ok hM Hval.func220 (tb := dr220) rfl (by kernel_rfl) ?_; conv => whnf
      rw [e32]
      repeat (refine Ob.mk (by first | decide | omega) ?_; conv => whnf)
      refine LoadX.fn hb1 2436 rfl (by omega) ?_
      rw [eC_s]; conv => whnf
      refine CondX.dT (by omega) ?_; conv => whnf
      repeat (first | (refine CondX.tt ?_; conv => whnf) | (refine CondX.ff ?_; conv => whnf))
      refine LoadX.fn hb1 2436 rfl (by omega) ?_
      rw [eC_s]; conv => whnf
      repeat (first | (refine CondX.tt ?_; conv => whnf) | (refine CondX.ff ?_; conv => whnf))
      refine IdxX.arr hA (by omega) (by omega) (by omega) fun b off hs => ?_; conv => whnf
      repeat (first | (refine CondX.tt ?_; conv => whnf) | (refine CondX.ff ?_; conv => whnf))
      refine LoadX.of _ (by
        have := hA.fld (o := 0) (m := (21, y21).snd.size) hs (k := j) (by omega) (by omega)
        rw [hg, show (slCells (v.sL.getD j dS))[0]? = some (.int .i32 (v.sL.getD j dS).acct) from rfl] at this
        exact this) ?_; conv => whnf
      repeat (first | (refine CondX.tt ?_; conv => whnf) | (refine CondX.ff ?_; conv => whnf))
      refine CondX.eqI (fun hac => ?_) (fun hac => ?_) <;> conv => whnf
      · have hac : (v.sL.getD j dS).acct = a := by omega
        repeat (first | (refine CondX.tt ?_; conv => whnf) | (refine CondX.ff ?_; conv => whnf))
        refine LoadX.fn hb1 2436 rfl (by omega) ?_
        rw [eC_s]; conv => whnf
        repeat (first | (refine CondX.tt ?_; conv => whnf) | (refine CondX.ff ?_; conv => whnf))
        refine IdxX.of hs (by omega) (by omega) ?_; conv => whnf
        repeat (first | (refine CondX.tt ?_; conv => whnf) | (refine CondX.ff ?_; conv => whnf))
        refine LoadX.of _ (by
          have := hA.seg (o := 1) (n := 4) hs (k := j) (by omega) (by omega)
          rw [hg, slCells_key] at this
          exact this) ?_; conv => whnf
        repeat (first | (refine CondX.tt ?_; conv => whnf) | (refine CondX.ff ?_; conv => whnf))
        refine LoadX.all (c := wc k) (hput_same ..) rfl ?_; conv => whnf
        repeat (first | (refine CondX.tt ?_; conv => whnf) | (refine CondX.ff ?_; conv => whnf))
        refine Ob.mk ⟨rfl, rfl, intCells_wc _, intCells_wc _⟩ ?_; conv => whnf
        have eeq : eqCells (wc (v.sL.getD j dS).key).toArray.toList (wc k).toArray.toList = decide ((v.sL.getD j dS).key = k) := eqCells_wc hx.2.1 hx.2.2 (by omega) hkW
        rw [eeq]
        refine CondX.decI (fun heq => ?_) (fun heq => ?_) <;> conv => whnf
        · refine RetX.drop (h' := h) (fun b z hbz => ?_) (hk1 j hj hac heq)
          have := hn1 b z hbz
          rw [hput_ne (by omega)]; exact hbz
        · repeat (refine Ob.mk (by first | decide | omega) ?_; conv => whnf)
          exact ih (t + 1) _ _ ⟨⟨by omega, next fun hh => heq hh.2⟩, rfl⟩ (by omega) ⟨rfl, rfl, rfl, congrArg (Value.int .u32) eP, congrArg (Value.int .i64) (wsucc (by omega)), trivial⟩
      · have hac : ¬ (v.sL.getD j dS).acct = a := by omega
        repeat (first | (refine CondX.tt ?_; conv => whnf) | (refine CondX.ff ?_; conv => whnf))
        repeat (refine Ob.mk (by first | decide | omega) ?_; conv => whnf)
        exact ih (t + 1) _ _ ⟨⟨by omega, next fun hh => hac hh.1⟩, rfl⟩ (by omega) ⟨rfl, rfl, rfl, congrArg (Value.int .u32) eP, congrArg (Value.int .i64) (wsucc (by omega)), trivial⟩
  · have ht : t = 4096 := by omega
    subst ht
    obtain ⟨d, hd, h1⟩ := A.tab.some_gap (by have := A.few; omega) H hH
    obtain ⟨j, h2, -⟩ := hpre d hd
    omega
end
end Go.Proofs.YgvalwGreat.X
