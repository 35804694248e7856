import Derived.Test.YgvalwGreatE36
set_option linter.unusedVariables false
set_option linter.unusedSimpArgs false
namespace Go.Proofs.YgvalwGreat.X
open Go

theorem wrap_i32 {x : Int} (h0 : -2147483648 ≤ x) (h1 : x < 2147483648) : IntKind.i32.wrap x = x := by
  by_cases h : x % 4294967296 < 2147483648
  · simp [IntKind.wrap, IntKind.signed, IntKind.bits]; omega
  · simp [IntKind.wrap, IntKind.signed, IntKind.bits]; omega
section
variable {h : Hp} {K : Value → Hp → Prop} {mc : Nat → Value} {v : VS} {eb : Nat}

theorem bcells_len (l : List Int) : (bcells l).length = l.length := by simp [bcells]
theorem aCells_addr {x : EA} (h : x.addr.length = 20) : seg (aCells x) 0 20 = bcells x.addr := by
  unfold seg aCells; rw [List.drop_zero, ← h, ← bcells_len, List.take_left]
def dA : EA := ⟨[], 0, 0, nilS, [], false, false, false⟩
/-- The accounts, as they lie. -/
structure AcOK (h : Hp) (v : VS) : Prop where
  arr : Arr h v.aS 29 (v.aL.map aCells)
  tab : TabOK 4096 v.atab v.aL.length (fun i => homeA (v.aL.getD i dA).addr)
  few : v.aL.length ≤ 2560
  wf : ∀ x ∈ v.aL, x.addr.length = 20 ∧ isB x.addr
set_option maxRecDepth 100000 in
set_option maxHeartbeats 4000000 in
theorem findAcct_ok {a : List Int} (hl : a.length = 20) (hB : isB a) (hb : h eb = some (fnv 27024 (eC mc v), 101)) (A : AcOK h v)
    (hk1 : ∀ i, i < v.aL.length → (v.aL.getD i dA).addr = a → K (.tuple #[.int .i32 i, .int .i32 (-1)]) h)
    (hk2 : (∀ i, i < v.aL.length → (v.aL.getD i dA).addr ≠ a) → ∀ p, p < 4096 → Gap 4096 v.atab (homeA a) p → K (.tuple #[.int .i32 (-1), .int .i32 p]) h) :
    CallX Hval.prog 156 [.pointer (some ⟨eb, 2435, none⟩), .agg (bcells a).toArray] h K := by
  have hH : homeA a < 4096 := Nat.mod_lt _ (by decide)
  refine CallX.of_xf T_ok Hval.func156 rfl (by kernel_rfl) (Nat.le_of_ble_eq_true rfl) ?_; conv => whnf
  refine BoxX.mk fun n1 hn1 => ?_; conv => whnf
  refine LoadX.all (c := bcells a) (hput_same ..) (by rw [show (bcells a).length = 20 by simp [bcells, hl]]; rfl) ?_; conv => whnf
  refine acctHome_ok hl hB ?_; conv => whnf
  refine LoopX.st T_ok Hval.func156 (σ := Nat) (fun t => [(0, .pointer (some ⟨eb, 2435, none⟩)), (3, .pointer (some ⟨n1, 0, none⟩)), (6, .int .u32 (((homeA a + t) % 4096 : Nat) : Int)), (7, .int .i64 t)])
    (fun t h' => (t ≤ 4096 ∧ ∀ e, e < t → ∃ j : Nat, v.atab ((homeA a + e) % 4096) = j ∧ j < v.aL.length ∧ (v.aL.getD j dA).addr ≠ a) ∧ h' = hput h n1 (bcells a, 31)) (fun t => 4096 - t) 0
    ⟨rfl, rfl, congrArg (Value.int .u32) (by rw [Nat.add_zero, Nat.mod_eq_of_lt hH]), rfl, trivial⟩ ⟨⟨by omega, fun e he => absurd he (by omega)⟩, rfl⟩ ?_
  rintro t ρ h' ⟨⟨ht, hpre⟩, rfl⟩ ih
  conv => whnf
  refine CondX.decI (fun hlt => ?_) (fun hlt => ?_) <;> conv => whnf
  · have hlt : t < 4096 := by omega
    have hp := Nat.mod_lt (homeA a + t) (show 0 < 4096 by decide)
    have hne : eb ≠ n1 := by have := hn1 _ _ hb; omega
    have hb1 : hput h n1 (bcells a, 31) eb = some (fnv 27024 (eC mc v), 101) := by rw [hput_ne hne]; exact hb
    repeat (refine Ob.mk (by first | decide | omega) ?_; conv => whnf)
    generalize hP : (homeA a + t) % 4096 = P at *
    refine LoadX.fn hb1 (2437 + P) (by rw [Int.toNat_natCast, show (fd 2 87).offset = 2 from rfl, show (21, y21).snd.size = 1 from rfl]; omega) (by omega) ?_
    rw [eC_at mc v hp]; conv => whnf
    refine CondX.decI (fun hneg => ?_) (fun hneg => ?_) <;> conv => whnf
    · refine RetX.drop (h' := h) (fun b z hbz => ?_) ?_
      · have := hn1 b z hbz
        rw [hput_ne (by omega)]; exact hbz
      have e32 : IntKind.i32.wrap (P : Int) = P := by rw [wrap_i32 (by omega) (by omega)]
      rw [e32]
      refine hk2 (fun i hi heq => ?_) P hp ⟨t, hlt, hP.symm, hneg, fun e he => ?_⟩
      · obtain ⟨d, hd, h1, h2⟩ := A.tab.chain i hi
        rw [heq] at h1 h2
        by_cases hdt : d < t
        · obtain ⟨j, h3, h4, h5⟩ := hpre d hdt
          rw [h1] at h3
          have : i = j := by omega
          subst this
          exact h5 heq
        · by_cases hde : d = t
          · subst hde; rw [hP] at h1; omega
          · have := h2 t (by omega); rw [hP] at this; omega
      · obtain ⟨j, h3, -⟩ := hpre e he
        omega
    · obtain ⟨j, hj, htj⟩ : ∃ j : Nat, j < v.aL.length ∧ v.atab P = j := by
        rcases A.tab.rng P hp with h1 | h1
        · omega
        · exact h1
      rw [htj]
      have hfew := A.few
      have hlen := A.arr.len
      rw [List.length_map] at hlen
      have e32 : IntKind.i64.wrap (j : Int) = j := by rw [wrap_i64 (by omega) (by omega)]
      refine DrawX.go T_ok hM Hval.func156 (tb := dr156) rfl (by kernel_rfl) ?_; conv => whnf
      rw [e32]
      repeat (refine Ob.mk (by first | decide | omega) ?_; conv => whnf)
      refine LoadX.fn hb1 2435 rfl (by omega) ?_
      rw [eC_a]; conv => whnf
      refine CondX.dT (by omega) ?_; conv => whnf
      repeat (first | (refine CondX.tt ?_; conv => whnf) | (refine CondX.ff ?_; conv => whnf))
      refine LoadX.fn hb1 2435 rfl (by omega) ?_
      rw [eC_a]; conv => whnf
      repeat (first | (refine CondX.tt ?_; conv => whnf) | (refine CondX.ff ?_; conv => whnf))
      have hA : Arr (hput h n1 (bcells a, 31)) v.aS 29 (v.aL.map aCells) := A.arr.ext (Ext.bd hn1)
      refine IdxX.arr hA (by omega) (by omega) (by omega) fun b off hs => ?_; conv => whnf
      repeat (first | (refine CondX.tt ?_; conv => whnf) | (refine CondX.ff ?_; conv => whnf))
      have hg : (v.aL.map aCells).getD j [] = aCells (v.aL.getD j dA) := by
        rw [List.getD_eq_getElem?_getD, List.getD_eq_getElem?_getD, List.getElem?_map, List.getElem?_eq_getElem hj]; rfl
      have hx : (v.aL.getD j dA).addr.length = 20 ∧ isB (v.aL.getD j dA).addr := A.wf _ (by rw [List.getD_eq_getElem?_getD, List.getElem?_eq_getElem hj]; exact List.getElem_mem hj)
      refine LoadX.of _ (by
        have := hA.seg (o := 0) (n := 20) hs (k := j) (by omega) (by omega)
        rw [hg, aCells_addr hx.1] at this
        exact this) ?_; conv => whnf
      repeat (first | (refine CondX.tt ?_; conv => whnf) | (refine CondX.ff ?_; conv => whnf))
      refine LoadX.all (c := bcells a) (hput_same ..) (by rw [bcells_len, hl]; rfl) ?_; conv => whnf
      repeat (first | (refine CondX.tt ?_; conv => whnf) | (refine CondX.ff ?_; conv => whnf))
      refine Ob.mk ⟨by show (bcells _).length = 20; rw [bcells_len]; exact hx.1, by show (bcells _).length = 20; rw [bcells_len]; exact hl, intCells_bcells _, intCells_bcells _⟩ ?_; conv => whnf
      have eeq : eqCells (bcells (v.aL.getD j dA).addr).toArray.toList (bcells a).toArray.toList = decide ((v.aL.getD j dA).addr = a) := eqCells_bcells _ _
      rw [eeq]
      refine CondX.decI (fun heq => ?_) (fun heq => ?_) <;> conv => whnf
      · refine RetX.drop (h' := h) (fun b z hbz => ?_) (hk1 j hj heq)
        have := hn1 b z hbz
        rw [hput_ne (by omega)]; exact hbz
      · repeat (refine Ob.mk (by first | decide | omega) ?_; conv => whnf)
        refine ih (t + 1) _ _ ⟨⟨by omega, fun e he => ?_⟩, rfl⟩ (by omega) ⟨rfl, rfl, congrArg (Value.int .u32) ?_, congrArg (Value.int .i64) (wsucc (by omega)), trivial⟩
        · by_cases het : e = t
          · subst het; exact ⟨j, by rw [hP]; exact htj, hj, heq⟩
          · exact hpre e (by omega)
        · have e1 : IntKind.u32.wrap ((P : Int) + 1) = ((P + 1 : Nat) : Int) := by rw [wrap_u32]; omega
          rw [e1, show (((P + 1 : Nat) : Int).tmod 4096) = _ from tmod_nat _ 4096, ← hP]
          omega
  · have ht : t = 4096 := by omega
    subst ht
    obtain ⟨d, hd, h1⟩ := A.tab.some_gap (by have := A.few; omega) (homeA a) hH
    obtain ⟨j, h2, -⟩ := hpre d hd
    omega
end
end Go.Proofs.YgvalwGreat.X
