import Derived.Test.YgvalwGreatE38
set_option linter.unusedVariables false
set_option linter.unusedSimpArgs false
namespace Go.Proofs.YgvalwGreat.X
open Go

section
variable {h : Hp} {K : Value → Hp → Prop} {mc : Nat → Value} {v : VS} {eb : Nat}

/-- The transient slots, as they lie. -/
structure TsOK (h : Hp) (v : VS) : Prop where
  arr : Arr h v.tS 9 (v.tL.map tpCells)
  tab : (v.ttS = nilS ∧ v.tL = []) ∨ ∃ m, v.ttS = (some ⟨m, 0, none⟩, 16384, 16384) ∧ h m = some (fnv 16384 fun p => .int .i32 (v.ttab p), 21) ∧ TabOK 16384 v.ttab v.tL.length (fun i => mixS (v.tL.getD i dT).acct (v.tL.getD i dT).key.toNat % 16384)
  few : v.tL.length ≤ 12288
  wf : ∀ x ∈ v.tL, x.acct < 2560 ∧ (0 ≤ x.key ∧ x.key < W)
theorem tpCells_key {x : ET} : seg (tpCells x) 1 4 = wc x.key := rfl
set_option maxRecDepth 100000 in
set_option maxHeartbeats 4000000 in
theorem findTemp_ok {a k : Nat} (ha : a < 2560) (hkW : (k : Int) < W) (hb : h eb = some (fnv 27024 (eC mc v), 101)) (A : TsOK h v)
    (hk1 : ∀ i, i < v.tL.length → (v.tL.getD i dT).acct = a → (v.tL.getD i dT).key = k → K (.tuple #[.int .i32 i, .int .i32 (-1)]) h)
    (hk3 : v.ttS = nilS → v.tL = [] → K (.tuple #[.int .i32 (-1), .int .i32 (-1)]) h)
    (hk2 : v.ttS ≠ nilS → (∀ i, i < v.tL.length → ¬ ((v.tL.getD i dT).acct = a ∧ (v.tL.getD i dT).key = k)) → ∀ p, p < 16384 → Gap 16384 v.ttab (mixS a k % 16384) p → K (.tuple #[.int .i32 (-1), .int .i32 p]) h) :
    CallX Hval.prog 358 [.pointer (some ⟨eb, 2435, none⟩), .int .i32 a, .agg (wc k).toArray] h K := by
  obtain ⟨H, hHe⟩ : ∃ H, H = mixS a k % 16384 := ⟨_, rfl⟩
  have hH : H < 16384 := by rw [hHe]; exact Nat.mod_lt _ (by decide)
  refine CallX.of_xf T_ok Hval.func358 rfl (by kernel_rfl) (Nat.le_of_ble_eq_true rfl) ?_; conv => whnf
  refine BoxX.mk fun n1 hn1 => ?_; conv => whnf
  have hne : eb ≠ n1 := by have := hn1 _ _ hb; omega
  have hb1 : hput h n1 (wc k, 75) eb = some (fnv 27024 (eC mc v), 101) := by rw [hput_ne hne]; exact hb
  refine LoadX.fn hb1 27018 rfl (by omega) ?_
  rw [eC_tt]; conv => whnf
  rcases A.tab with ⟨hts, htl⟩ | ⟨m, hts, hm0, Tb⟩
  · refine CondX.neI (fun _ => ?_) (fun hc => absurd (show v.ttS.2.1 = 0 by rw [hts]; first | done | rfl) (by omega)) <;> conv => whnf
    refine RetX.drop (h' := h) (fun b z hbz => ?_) (hk3 hts htl)
    have := hn1 b z hbz
    rw [hput_ne (by omega)]; exact hbz
  have hk2 := hk2 (by rw [hts]; intro hc; cases hc)
  refine CondX.neI (fun hc => absurd (show v.ttS.2.1 = 16384 by rw [hts]) (by omega)) (fun _ => ?_) <;> conv => whnf
  repeat (first | (refine CondX.tt ?_; conv => whnf) | (refine CondX.ff ?_; conv => whnf))
  refine LoadX.all (c := wc k) (hput_same ..) rfl ?_; conv => whnf
  refine mixSlot_ok (by omega) hkW ?_; conv => whnf
  repeat (refine Ob.mk (by first | decide | omega) ?_; conv => whnf)
  rw [show ((mixS a k : Int).tmod 16384) = _ from tmod_nat _ 16384]
  rw [← hHe] at hk2 ⊢
  have hm1 : hput h n1 (wc k, 75) m = some (fnv 16384 fun p => .int .i32 (v.ttab p), 21) := by
    have := hn1 _ _ hm0
    rw [hput_ne (by omega)]; exact hm0
  refine LoopX.st T_ok Hval.func358 (σ := Nat) (fun t => [(0, .pointer (some ⟨eb, 2435, none⟩)), (1, .int .i32 a), (5, .pointer (some ⟨n1, 0, none⟩)), (8, .int .u64 (((H + t) % 16384 : Nat) : Int)), (9, .int .i64 t)])
    (fun t h' => (t ≤ 16384 ∧ ∀ e, e < t → ∃ j : Nat, v.ttab ((H + e) % 16384) = j ∧ j < v.tL.length ∧ ¬ ((v.tL.getD j dT).acct = a ∧ (v.tL.getD j dT).key = k)) ∧ h' = hput h n1 (wc k, 75)) (fun t => 16384 - t) 0
    ⟨rfl, rfl, rfl, congrArg (Value.int .u64) (by rw [Nat.add_zero, Nat.mod_eq_of_lt hH]), rfl, trivial⟩ ⟨⟨by omega, fun e he => absurd he (by omega)⟩, rfl⟩ ?_
  rintro t ρ h' ⟨⟨ht, hpre⟩, rfl⟩ ih
  conv => whnf
  refine CondX.decI (fun hlt => ?_) (fun hlt => ?_) <;> conv => whnf
  · have hlt : t < 16384 := by omega
    have hp := Nat.mod_lt (H + t) (show 0 < 16384 by decide)
    repeat (refine Ob.mk (by first | decide | omega) ?_; conv => whnf)
    generalize hP : (H + t) % 16384 = P at *
    refine LoadX.fn hb1 27018 rfl (by omega) ?_
    rw [eC_tt, hts]; conv => whnf
    refine IdxX.at (len := 16384) (j := (P : Int)) (by omega) (by omega) ?_; conv => whnf
    refine LoadX.fn hm1 P (by rw [Int.toNat_natCast, show (21, y21).snd.size = 1 from rfl]; omega) hp ?_; conv => whnf
    refine CondX.decI (fun hneg => ?_) (fun hneg => ?_) <;> conv => whnf
    · refine RetX.drop (h' := h) (fun b z hbz => ?_) ?_
      · have := hn1 b z hbz
        rw [hput_ne (by omega)]; exact hbz
      have e32 : IntKind.i32.wrap (P : Int) = P := by rw [wrap_i32 (by omega) (by omega)]
      rw [e32]
      refine hk2 (fun i hi heq => ?_) P hp ⟨t, hlt, hP.symm, hneg, fun e he => ?_⟩
      · obtain ⟨d, hd, h1, h2⟩ := Tb.chain i hi
        rw [heq.1, heq.2, Int.toNat_natCast, ← hHe] at h1 h2
        by_cases hdt : d < t
        · obtain ⟨j, h3, h4, h5⟩ := hpre d hdt
          rw [h1] at h3
          have : i = j := by omega
          subst this
          exact h5 heq
        · by_cases hde : d = t
          · subst hde; rw [hP] at h1; omega
          · have := h2 t (by omega); rw [hP] at this; omega
      · obtain ⟨j, h3, -⟩ := hpre e he
        omega
    · obtain ⟨j, hj, htj⟩ : ∃ j : Nat, j < v.tL.length ∧ v.ttab P = j := by
        rcases Tb.rng P hp with h1 | h1
        · omega
        · exact h1
      rw [htj]
      have hfew := A.few
      have hlen := A.arr.len
      rw [List.length_map] at hlen
      have e32 : IntKind.i64.wrap (j : Int) = j := by rw [wrap_i64 (by omega) (by omega)]
      have hA : Arr (hput h n1 (wc k, 75)) v.tS 9 (v.tL.map tpCells) := A.arr.ext (Ext.bd hn1)
      have hg : (v.tL.map tpCells).getD j [] = tpCells (v.tL.getD j dT) := by
        rw [List.getD_eq_getElem?_getD, List.getD_eq_getElem?_getD, List.getElem?_map, List.getElem?_eq_getElem hj]; rfl
      have hx := A.wf (v.tL.getD j dT) (by rw [List.getD_eq_getElem?_getD, List.getElem?_eq_getElem hj]; exact List.getElem_mem hj)
      have next : ¬ ((v.tL.getD j dT).acct = a ∧ (v.tL.getD j dT).key = k) → ∀ e, e < t + 1 → ∃ j : Nat, v.ttab ((H + e) % 16384) = j ∧ j < v.tL.length ∧ ¬ ((v.tL.getD j dT).acct = a ∧ (v.tL.getD j dT).key = k) := fun hno e he => by
        by_cases het : e = t
        · subst het; exact ⟨j, by rw [hP]; exact htj, hj, hno⟩
        · exact hpre e (by omega)
      have eP : (IntKind.u64.wrap ((P : Int) + 1)).tmod 16384 = (((H + (t + 1)) % 16384 : Nat) : Int) := by
        have e1 : IntKind.u64.wrap ((P : Int) + 1) = ((P + 1 : Nat) : Int) := by rw [wrap_u64']; omega
        rw [e1, show (((P + 1 : Nat) : Int).tmod 16384) = _ from tmod_nat _ 16384, ← hP]
        omega
      refine DrawX.go T_ok hM Hval.func358 (tb := dr358) rfl (by kernel_rfl) ?_; conv => whnf
      rw [e32]
      repeat (refine Ob.mk (by first | decide | omega) ?_; conv => whnf)
      refine LoadX.fn hb1 27017 rfl (by omega) ?_
      rw [eC_t]; conv => whnf
      refine CondX.dT (by omega) ?_; conv => whnf
      repeat (first | (refine CondX.tt ?_; conv => whnf) | (refine CondX.ff ?_; conv => whnf))
      refine LoadX.fn hb1 27017 rfl (by omega) ?_
      rw [eC_t]; conv => whnf
      repeat (first | (refine CondX.tt ?_; conv => whnf) | (refine CondX.ff ?_; conv => whnf))
      refine IdxX.arr hA (by omega) (by omega) (by omega) fun b off hs => ?_; conv => whnf
      repeat (first | (refine CondX.tt ?_; conv => whnf) | (refine CondX.ff ?_; conv => whnf))
      refine LoadX.of _ (by
        have := hA.fld (o := 0) (m := (21, y21).snd.size) hs (k := j) (by omega) (by omega)
        rw [hg, show (tpCells (v.tL.getD j dT))[0]? = some (.int .i32 (v.tL.getD j dT).acct) from rfl] at this
        exact this) ?_; conv => whnf
      repeat (first | (refine CondX.tt ?_; conv => whnf) | (refine CondX.ff ?_; conv => whnf))
      refine CondX.eqI (fun hac => ?_) (fun hac => ?_) <;> conv => whnf
      · have hac : (v.tL.getD j dT).acct = a := by omega
        repeat (first | (refine CondX.tt ?_; conv => whnf) | (refine CondX.ff ?_; conv => whnf))
        refine LoadX.fn hb1 27017 rfl (by omega) ?_
        rw [eC_t]; conv => whnf
        repeat (first | (refine CondX.tt ?_; conv => whnf) | (refine CondX.ff ?_; conv => whnf))
        refine IdxX.of hs (by omega) (by omega) ?_; conv => whnf
        repeat (first | (refine CondX.tt ?_; conv => whnf) | (refine CondX.ff ?_; conv => whnf))
        refine LoadX.of _ (by
          have := hA.seg (o := 1) (n := 4) hs (k := j) (by omega) (by omega)
          rw [hg, tpCells_key] at this
          exact this) ?_; conv => whnf
        repeat (first | (refine CondX.tt ?_; conv => whnf) | (refine CondX.ff ?_; conv => whnf))
        refine LoadX.all (c := wc k) (hput_same ..) rfl ?_; conv => whnf
        repeat (first | (refine CondX.tt ?_; conv => whnf) | (refine CondX.ff ?_; conv => whnf))
        refine Ob.mk ⟨rfl, rfl, intCells_wc _, intCells_wc _⟩ ?_; conv => whnf
        have eeq : eqCells (wc (v.tL.getD j dT).key).toArray.toList (wc k).toArray.toList = decide ((v.tL.getD j dT).key = k) := eqCells_wc hx.2.1 hx.2.2 (by omega) hkW
        rw [eeq]
        refine CondX.decI (fun heq => ?_) (fun heq => ?_) <;> conv => whnf
        · refine RetX.drop (h' := h) (fun b z hbz => ?_) (hk1 j hj hac heq)
          have := hn1 b z hbz
          rw [hput_ne (by omega)]; exact hbz
        · repeat (refine Ob.mk (by first | decide | omega) ?_; conv => whnf)
          exact ih (t + 1) _ _ ⟨⟨by omega, next fun hh => heq hh.2⟩, rfl⟩ (by omega) ⟨rfl, rfl, rfl, congrArg (Value.int .u64) eP, congrArg (Value.int .i64) (wsucc (by omega)), trivial⟩
      · have hac : ¬ (v.tL.getD j dT).acct = a := by omega
        repeat (first | (refine CondX.tt ?_; conv => whnf) | (refine CondX.ff ?_; conv => whnf))
        repeat (refine Ob.mk (by first | decide | omega) ?_; conv => whnf)
        exact ih (t + 1) _ _ ⟨⟨by omega, next fun hh => hac hh.1⟩, rfl⟩ (by omega) ⟨rfl, rfl, rfl, congrArg (Value.int .u64) eP, congrArg (Value.int .i64) (wsucc (by omega)), trivial⟩
  · have ht : t = 16384 := by omega
    subst ht
    obtain ⟨d, hd, h1⟩ := Tb.some_gap (by have := A.few; omega) H hH
    obtain ⟨j, h2, -⟩ := hpre d hd
    omega
end
end Go.Proofs.YgvalwGreat.X
