import Derived.Test.YgvalwGreatR2
set_option linter.unusedVariables false
set_option linter.unusedSimpArgs false
namespace Go.Proofs.YgvalwGreat.X
open Go

/-- Bytes of a slice, however many. -/
structure BytM (h : Hp) (s : Sl) (l : List Int) : Prop where
  l : BytL h s l
  cap : s.2.1 ≤ s.2.2
  nil : s.1 = none → s.2.2 = 0
  room : s.2.1 ≤ 2 ^ 47
theorem BytM.ext {h h' : Hp} {s : Sl} {l : List Int} (a : BytM h s l) (he : Ext h h') : BytM h' s l := ⟨⟨rd_ext he a.l.rd, a.l.isB, a.l.len⟩, a.cap, a.nil, a.room⟩
theorem BytM.byt {h : Hp} {s : Sl} {l : List Int} (a : BytM h s l) (hr : s.2.1 < 2 ^ 40) : BytS h s l := bytL_byt a.l hr a.cap a.nil
theorem bytM_nil (h : Hp) : BytM h nilS [] := ⟨⟨rfl, fun d hd => (by cases hd), rfl⟩, Nat.le_refl _, fun _ => rfl, by decide⟩
theorem wsuccL {i : Nat} (h : i < 2 ^ 60) : IntKind.i64.wrap ((i : Int) + 1) = ((i + 1 : Nat) : Int) := by rw [wrap_i64 (by omega) (by omega)]; omega
structure SlM (h : Hp) (s : Sl) (cs : List (Sl × List Int)) : Prop where
  arr : Arr h s 1 (cs.map p1C)
  each : ∀ p ∈ cs, BytM h p.1 p.2
theorem SlM.n {h : Hp} {s : Sl} {cs : List (Sl × List Int)} (a : SlM h s cs) : cs.length = s.2.1 := by have := a.arr.len; simpa using this
/-- A slice of byte slices of the input. -/
structure SlI (h : Hp) (s : Sl) (cs : List (Sl × List Int)) : Prop where
  arr : s.2.1 ≠ 0 → Arr h s 1 (cs.map p1C)
  n : cs.length = s.2.1
  each : ∀ p ∈ cs, BytI h p.1 p.2 ∧ p.1.2.1 ≤ 2 ^ 47
section
variable {R h : Hp} {K : Value → Hp → Prop}
set_option maxRecDepth 100000 in
set_option maxHeartbeats 4000000 in
theorem stage2_ok {s : Sl} {cs : List (Sl × List Int)} (hA : SlM h s cs) (hr : s.2.1 < 2 ^ 50) (hk : ∀ s' h' cs', Ext h h' → cs'.length ≤ 6 → (∀ p ∈ cs', p.2.length ≤ 256) → WldOK h' s' (stgW cs') → K (sl s') h') : CallX Hval.prog 5 [sl s] h K := by
  have hn := hA.n
  rw [← join_hNil h]
  refine CallX.of_xf T_ok Hval.func5 rfl (by kernel_rfl) (Nat.le_of_ble_eq_true rfl) ?_; conv => whnf
  refine LoopX.st T_ok Hval.func5 (σ := Nat × Hp × Hp × Sl × List (Sl × List Int)) (fun z => [(0, sl s), (3, sl z.2.2.2.1), (7, sl s), (8, .int .i64 s.2.1), (9, .int .i64 z.1)])
    (fun z h' => z.1 ≤ s.2.1 ∧ z.1 ≤ 6 ∧ h' = join z.2.1 z.2.2.1 ∧ Dj z.2.1 z.2.2.1 ∧ Ext h z.2.1 ∧ z.2.2.2.2.length = z.1 ∧ ArrM z.2.2.1 z.2.2.2.1 55 ((z.2.2.2.2.mapIdx cwA).map waC) ∧ ∀ p ∈ z.2.2.2.2, p.2.length ≤ 256 ∧ BytS z.2.1 p.1 p.2) (fun z => s.2.1 - z.1) (0, h, hNil, nilS, [])
    ⟨rfl, rfl, rfl, rfl, rfl, trivial⟩ ⟨Nat.zero_le _, Nat.zero_le _, rfl, Dj_hNil h, Ext.refl h, rfl, Bld.nil (fun b x hb => by cases hb), fun p hp => by cases hp⟩ ?_
  rintro ⟨i, hi, hm, s3, cs'⟩ ρ h' ⟨hil, hi6, rfl, hd, he, hcl, hB, hE⟩ ih
  dsimp only at hil hi6 hd he hcl hB hE
  conv => whnf
  have hA' := hA.arr.ext (he.trans (Ext.jl hi hm))
  refine CondX.decI (fun hc => ?_) (fun hc => ?_) <;> conv => whnf
  · have hc : i < s.2.1 := by omega
    refine IdxX.arr hA' (by omega) (by omega) (by omega) fun b off e => ?_; conv => whnf
    have hip : i < cs.length := by omega
    obtain ⟨q, hq⟩ : ∃ q, q = cs[i]'hip := ⟨_, rfl⟩
    have hqB : BytM hi q.1 q.2 := by rw [hq]; exact (hA.each _ (List.getElem_mem hip)).ext he
    refine LoadX.of (sl q.1) (hA'.get1 e (k := i) hc (by rw [getD_map hip, ← hq]; rfl) (by rw [Int.toNat_natCast]; rfl)) ?_; conv => whnf
    refine CondX.decI (fun h6 => ?_) (fun h6 => ?_) <;> conv => whnf
    · refine sender_ok ?_; conv => whnf
      have b57 : (waC sndW).length = 55 := rfl
      refine Ob.mk (by first | decide | omega) ?_; conv => whnf
      refine BoxX.jm hd fun mv q1 q2 dv => ?_; conv => whnf
      have hBv := hB.mono (hm' := hput hm mv (waC sndW, 57)) fun fb x hs hb => hput_old hb q2
      refine AppendX.mut (sz := 55) (bytes := 112) dv hBv (rd_one (v := waC sndW) (join_hm dv (hput_same ..)) rfl) rfl rfl (waC_one sndW) (by decide) (by have := hB.len; simp at this; show (s3.2.1 + 1) * 112 ≤ _; omega) fun s9 hm9 hd9 hA9 hK9 => ?_; conv => whnf
      have e9 : Ext h (join hi hm9) := he.trans (Ext.jl _ _)
      refine RetX.same (hk s9 _ cs' e9 (by omega) (fun p hp => (hE p hp).1) ⟨?_, fun x hx => ?_⟩)
      · have := hA9.arr hd9
        unfold stgW
        rw [List.map_append]
        exact this
      · unfold stgW at hx
        rcases List.mem_append.1 hx with h1 | h1
        · obtain ⟨j, hj, rfl⟩ := List.mem_mapIdx.1 h1
          exact ((hE _ (List.getElem_mem hj)).2).ext (Ext.jl _ _)
        · rw [List.mem_singleton.1 h1]; exact Byt_nil _
    have h6 : i < 6 := by omega
    rw [show IntKind.u8.wrap (IntKind.i64.wrap ((i : Int) + 1)) = (i : Int) + 1 by rw [wrap_i64 (by omega) (by omega), wrap_u8]; omega]
    refine addrNo_ok ?_; conv => whnf
    refine BoxX.jm hd fun m6 q1 q2 d6 => ?_; conv => whnf
    refine Ob.mk ⟨rfl, rfl⟩ ?_; conv => whnf
    refine StoreX.top d6 (waC (cwA i (nilS, []))) (setSeg_all rfl) (Nat.le_of_ble_eq_true rfl) fun d7 => ?_; conv => whnf
    have hql := hqB.l.len
    refine CondX.decI (fun hl => ?_) (fun hl => ?_) <;> conv => whnf
    · refine CallX.fj d7 (copyB_ok (hqB.byt (by have := hqB.l.len; omega)) fun sC h' e1 hs d8 => ?_); conv => whnf
      refine StoreX.top d8 (waC (cwA i (sC, q.2))) rfl (Nat.le_of_ble_eq_true rfl) fun d9 => ?_; conv => whnf
      refine LoadX.all (c := waC (cwA i (sC, q.2))) (join_hm d9 (hput_same ..)) rfl ?_; conv => whnf
      refine Ob.mk (by first | decide | omega) ?_; conv => whnf
      refine BoxX.jm d9 fun mv q3 q4 dv => ?_; conv => whnf
      have hBv := hB.mono (hm' := hput (hput hm m6 (waC (cwA i (sC, q.2)), 57)) mv (waC (cwA i (sC, q.2)), 57)) fun fb x hs hb => hput_old (hput_old hb q2) q4
      refine AppendX.mut (sz := 55) (bytes := 112) dv hBv (rd_one (v := waC (cwA i (sC, q.2))) (join_hm dv (hput_same ..)) rfl) rfl rfl (waC_one _) (by decide) (by have := hB.len; simp at this; show (s3.2.1 + 1) * 112 ≤ _; omega) fun s9 hm9 hd9 hA9 hK9 => ?_; conv => whnf
      refine ih (i + 1, h', hm9, s9, cs' ++ [(sC, q.2)]) _ _ ⟨by dsimp only; omega, by dsimp only; omega, rfl, hd9, he.trans e1, by simp [hcl], ?_, fun p hp => ?_⟩ (by dsimp only; omega) ⟨rfl, rfl, rfl, rfl, congrArg (Value.int .i64) (wsucc (by dsimp only; omega)), trivial⟩
      · dsimp only
        rw [List.mapIdx_append, List.map_append]
        simpa [hcl] using hA9
      · rcases List.mem_append.1 hp with h1 | h1
        · exact ⟨(hE p h1).1, (hE p h1).2.ext e1⟩
        · rw [List.mem_singleton.1 h1]; exact ⟨(show q.2.length ≤ 256 by omega), hs⟩
    · refine LoadX.all (c := waC (cwA i (nilS, []))) (join_hm d7 (hput_same ..)) rfl ?_; conv => whnf
      refine Ob.mk (by first | decide | omega) ?_; conv => whnf
      refine BoxX.jm d7 fun mv q3 q4 dv => ?_; conv => whnf
      have hBv := hB.mono (hm' := hput (hput hm m6 (waC (cwA i (nilS, [])), 57)) mv (waC (cwA i (nilS, [])), 57)) fun fb x hs hb => hput_old (hput_old hb q2) q4
      refine AppendX.mut (sz := 55) (bytes := 112) dv hBv (rd_one (v := waC (cwA i (nilS, []))) (join_hm dv (hput_same ..)) rfl) rfl rfl (waC_one _) (by decide) (by have := hB.len; simp at this; show (s3.2.1 + 1) * 112 ≤ _; omega) fun s9 hm9 hd9 hA9 hK9 => ?_; conv => whnf
      refine ih (i + 1, hi, hm9, s9, cs' ++ [(nilS, [])]) _ _ ⟨by dsimp only; omega, by dsimp only; omega, rfl, hd9, he.trans (Ext.refl hi), by simp [hcl], ?_, fun p hp => ?_⟩ (by dsimp only; omega) ⟨rfl, rfl, rfl, rfl, congrArg (Value.int .i64) (wsucc (by dsimp only; omega)), trivial⟩
      · dsimp only
        rw [List.mapIdx_append, List.map_append]
        simpa [hcl] using hA9
      · rcases List.mem_append.1 hp with h1 | h1
        · exact ⟨(hE p h1).1, (hE p h1).2.ext (Ext.refl hi)⟩
        · rw [List.mem_singleton.1 h1]; exact ⟨(Nat.zero_le 256), (Byt_nil hi)⟩
  · refine sender_ok ?_; conv => whnf
    have b57 : (waC sndW).length = 55 := rfl
    refine Ob.mk (by first | decide | omega) ?_; conv => whnf
    refine BoxX.jm hd fun mv q1 q2 dv => ?_; conv => whnf
    have hBv := hB.mono (hm' := hput hm mv (waC sndW, 57)) fun fb x hs hb => hput_old hb q2
    refine AppendX.mut (sz := 55) (bytes := 112) dv hBv (rd_one (v := waC sndW) (join_hm dv (hput_same ..)) rfl) rfl rfl (waC_one sndW) (by decide) (by have := hB.len; simp at this; show (s3.2.1 + 1) * 112 ≤ _; omega) fun s9 hm9 hd9 hA9 hK9 => ?_; conv => whnf
    have e9 : Ext h (join hi hm9) := he.trans (Ext.jl _ _)
    refine RetX.same (hk s9 _ cs' e9 (by omega) (fun p hp => (hE p hp).1) ⟨?_, fun x hx => ?_⟩)
    · have := hA9.arr hd9
      unfold stgW
      rw [List.map_append]
      exact this
    · unfold stgW at hx
      rcases List.mem_append.1 hx with h1 | h1
      · obtain ⟨j, hj, rfl⟩ := List.mem_mapIdx.1 h1
        exact ((hE _ (List.getElem_mem hj)).2).ext (Ext.jl _ _)
      · rw [List.mem_singleton.1 h1]; exact Byt_nil _
set_option maxRecDepth 100000 in
set_option maxHeartbeats 4000000 in
theorem masked_R {s : Sl} {cs : List (Sl × List Int)} {o f0 : Int} (hA : SlI R s cs) (hr : s.2.1 < 2 ^ 50) (hk : ∀ s' h' cs', Ext h h' → s'.2.1 < 2 ^ 50 → SlM h' s' cs' → K (sl s') h') : CallR R Hval.prog 6 [sl s, .int .u8 o, .int .i64 f0] h K := by
  have hn := hA.n
  rw [← join_hNil h]
  refine CallR.of_xf T_ok Hval.func6 rfl (by kernel_rfl) (Nat.le_of_ble_eq_true rfl) ?_; conv => whnf
  refine LoopR.st T_ok Hval.func6 (σ := Nat × Hp × Hp × Sl × List (Sl × List Int)) (fun z => [(1, .int .u8 o), (2, .int .i64 f0), (7, sl z.2.2.2.1), (13, sl s), (14, .int .i64 s.2.1), (0, sl s), (15, .int .i64 z.1)])
    (fun z h' => z.1 ≤ s.2.1 ∧ z.1 ≤ 6 ∧ h' = join z.2.1 z.2.2.1 ∧ Dj z.2.1 z.2.2.1 ∧ Ext h z.2.1 ∧ z.2.2.2.2.length = z.1 ∧ ArrM z.2.2.1 z.2.2.2.1 1 (z.2.2.2.2.map p1C) ∧ ∀ p ∈ z.2.2.2.2, BytM z.2.1 p.1 p.2) (fun z => s.2.1 - z.1) (0, h, hNil, nilS, [])
    ⟨rfl, rfl, rfl, rfl, rfl, rfl, rfl, trivial⟩ ⟨Nat.zero_le _, Nat.zero_le _, rfl, Dj_hNil h, Ext.refl h, rfl, Bld.nil (fun b x hb => by cases hb), fun p hp => by cases hp⟩ ?_
  rintro ⟨i, hi, hm, s7, cs'⟩ ρ h' ⟨hil, hi6, rfl, hd, he, hcl, hB, hE⟩ ih
  dsimp only at hil hi6 hd he hcl hB hE
  conv => whnf
  have hend : K (sl s7) (join hi hm) := hk s7 _ cs' (he.trans (Ext.jl _ _)) (by have := hB.len; simp at this; omega) ⟨hB.arr hd, fun p hp => (hE p hp).ext (Ext.jl _ _)⟩
  refine CondX.decI (fun hc => ?_) (fun hc => ?_) <;> conv => whnf
  · have hc : i < s.2.1 := by omega
    have hA' := hA.arr (by omega)
    refine IdxX.arr hA' (by omega) (by omega) (by omega) fun b off e => ?_; conv => whnf
    have hip : i < cs.length := by omega
    obtain ⟨q, hq⟩ : ∃ q, q = cs[i]'hip := ⟨_, rfl⟩
    have hqB : BytI R q.1 q.2 ∧ q.1.2.1 ≤ 2 ^ 47 := by rw [hq]; exact hA.each _ (List.getElem_mem hip)
    refine LoadR.of (sl q.1) (hA'.get1 e (k := i) hc (by rw [getD_map hip, ← hq]; rfl) (by rw [Int.toNat_natCast]; rfl)) ?_; conv => whnf
    refine CondX.decI (fun h6 => ?_) (fun h6 => ?_) <;> conv => whnf
    · exact RetX.same hend
    have h6 : i < 6 := by omega
    have hql := hqB.1.len
    have hqr := hqB.2
    refine copyB_R hqB.1 hqr (fun hnil => ?_) (fun m hbm => ?_) <;> conv => whnf
    · refine LoopR.st T_ok Hval.func6 (σ := Unit) (fun _ => [(1, .int .u8 o), (2, .int .i64 f0), (7, sl s7), (13, sl s), (14, .int .i64 s.2.1), (0, sl s), (15, .int .i64 i), (10, sl nilS), (25, .int .i64 0), (26, .int .i64 0)])
        (fun _ h2 => h2 = join hi hm) (fun _ => 0) () ⟨rfl, rfl, rfl, rfl, rfl, rfl, rfl, rfl, rfl, rfl, trivial⟩ rfl ?_
      rintro _ ρ2 h2 rfl ih2
      conv => whnf
      repeat (first | (refine CondX.tt ?_; conv => whnf) | (refine CondX.ff ?_; conv => whnf))
      refine Ob.mk (by first | decide | omega) ?_; conv => whnf
      refine BoxX.jm hd fun mv q3 q4 dv => ?_; conv => whnf
      have hBv := hB.mono (hm' := hput hm mv (p1C (nilS, ([] : List Int)), 23)) fun fb x hs hb => hput_old hb q4
      refine AppendX.mut (sz := 1) (bytes := 24) dv hBv (rd_one (v := p1C (nilS, ([] : List Int))) (join_hm dv (hput_same ..)) rfl) rfl rfl rfl (by decide) (by have := hB.len; simp at this; show (s7.2.1 + 1) * 24 ≤ _; omega) fun s9 hm9 hd9 hA9 hK9 => ?_; conv => whnf
      refine ih (i + 1, hi, hm9, s9, cs' ++ [(nilS, ([] : List Int))]) _ _ ⟨by dsimp only; omega, by dsimp only; omega, rfl, hd9, he.trans (Ext.refl hi), by simp [hcl], ?_, fun p hp => ?_⟩ (by dsimp only; omega) ⟨rfl, rfl, rfl, rfl, rfl, rfl, congrArg (Value.int .i64) (wsucc (by omega)), trivial⟩
      · dsimp only
        rw [List.map_append]
        exact hA9
      · rcases List.mem_append.1 hp with h1 | h1
        · exact (hE p h1).ext (Ext.refl hi)
        · rw [List.mem_singleton.1 h1]; exact (bytM_nil hi)
    · have hmn := join_none (hbm.none (Nat.le_refl _))
      have d8 : Dj (hput hi m (bcells q.2, 5)) hm := hd.hn hmn.2
      have hbx : Ext hi (hput hi m (bcells q.2, 5)) := Ext.new hmn.1
      refine LoopR.st T_ok Hval.func6 (σ := Nat × List Int) (fun z => [(1, .int .u8 o), (2, .int .i64 f0), (7, sl s7), (8, .int .i64 i), (13, sl s), (14, .int .i64 s.2.1), (0, sl s), (15, .int .i64 i), (10, .slice (some ⟨m, 0, none⟩) q.1.2.1 q.1.2.1), (24, .slice (some ⟨m, 0, none⟩) q.1.2.1 q.1.2.1), (25, .int .i64 q.1.2.1), (26, .int .i64 z.1)])
        (fun z h2 => z.1 ≤ q.1.2.1 ∧ z.2.length = q.1.2.1 ∧ isB z.2 ∧ h2 = join (hput hi m (bcells z.2, 5)) hm) (fun z => q.1.2.1 - z.1) (0, q.2) ⟨rfl, rfl, rfl, rfl, rfl, rfl, rfl, rfl, rfl, rfl, rfl, rfl, trivial⟩ ⟨Nat.zero_le _, hql, hqB.1.isB, join_put⟩ ?_
      rintro ⟨j, lz⟩ ρ2 h2 ⟨hj, hlz, hBz, rfl⟩ ih2
      dsimp only at hj hlz hBz
      conv => whnf
      have hyz : BytM (hput hi m (bcells lz, 5)) (some ⟨m, 0, none⟩, q.1.2.1, q.1.2.1) lz := ⟨by have := bytL_own (h := hi) (m := m) hBz; rwa [hlz] at this, Nat.le_refl _, (fun h => by cases h), hqr⟩
      have d9 : Dj (hput hi m (bcells lz, 5)) hm := d8.hp
      refine CondX.decI (fun hp => ?_) (fun hp => ?_) <;> conv => whnf
      · have hp : j < q.1.2.1 := by omega
        refine IdxX.at (by omega) (by omega) ?_; conv => whnf
        refine LoadR.h (LoadX.blk (join_l (hput_same ..)) (.int .u8 (lz.getD j 0)) (by
          show (bcells lz)[0 + (j : Int).toNat * 1]? = _
          rw [Int.toNat_natCast, Nat.zero_add, Nat.mul_one]
          simp [bcells, List.getElem?_eq_getElem (show j < lz.length by omega)]) ?_); conv => whnf
        have hbz : 0 ≤ lz.getD j 0 ∧ lz.getD j 0 < 256 := by
          rw [List.getD_eq_getElem?_getD, List.getElem?_eq_getElem (by omega)]
          exact hBz _ (List.getElem_mem (by omega))
        refine CondX.decI (fun hf0 => ?_) (fun hf0 => ?_) <;> conv => whnf
        · repeat (first | (refine CondX.tt ?_; conv => whnf) | (refine CondX.ff ?_; conv => whnf))
          refine CallX.toR (family_ok hbz.1 hbz.2 ?_); conv => whnf
          repeat (first | (refine CondX.tt ?_; conv => whnf) | (refine CondX.ff ?_; conv => whnf))
          refine CondX.mk (fun hq1 => ?_) (fun hq1 => ?_) <;> conv => whnf
          · refine IdxX.at (by omega) (by omega) ?_; conv => whnf
            refine StoreX.jx (x := bcells (lz.set j 254)) (by show 0 + (j : Int).toNat * 1 + 1 ≤ (bcells lz).length; rw [bcells_length]; omega) ?_ ?_
            · show setSeg (bcells lz) (0 + (j : Int).toNat * 1) _ = _
              rw [Int.toNat_natCast, Nat.zero_add, Nat.mul_one]
              exact setSeg_bcells 254 (by omega)
            conv => whnf
            refine ih2 (j + 1, lz.set j 254) _ _ ⟨by dsimp only; omega, by simp [hlz], fun d hd => ?_, rfl⟩ (by dsimp only; omega) ⟨rfl, rfl, rfl, rfl, rfl, rfl, rfl, rfl, rfl, rfl, rfl, congrArg (Value.int .i64) (wsuccL (by omega)), trivial⟩
            rcases List.mem_or_eq_of_mem_set hd with h1 | h1
            · exact hBz d h1
            · rw [h1]; decide
          · refine ih2 (j + 1, lz) _ _ ⟨by dsimp only; omega, hlz, hBz, rfl⟩ (by dsimp only; omega) ⟨rfl, rfl, rfl, rfl, rfl, rfl, rfl, rfl, rfl, rfl, rfl, congrArg (Value.int .i64) (wsuccL (by omega)), trivial⟩
        · repeat (first | (refine CondX.tt ?_; conv => whnf) | (refine CondX.ff ?_; conv => whnf))
          refine ih2 (j + 1, lz) _ _ ⟨by dsimp only; omega, hlz, hBz, rfl⟩ (by dsimp only; omega) ⟨rfl, rfl, rfl, rfl, rfl, rfl, rfl, rfl, rfl, rfl, rfl, congrArg (Value.int .i64) (wsuccL (by omega)), trivial⟩
      · refine Ob.mk (by first | decide | omega) ?_; conv => whnf
        refine BoxX.jm d9 fun mv q3 q4 dv => ?_; conv => whnf
        have hBv := hB.mono (hm' := hput hm mv (p1C ((some ⟨m, 0, none⟩, q.1.2.1, q.1.2.1), lz), 23)) fun fb x hs hb => hput_old hb q4
        refine AppendX.mut (sz := 1) (bytes := 24) dv hBv (rd_one (v := p1C ((some ⟨m, 0, none⟩, q.1.2.1, q.1.2.1), lz)) (join_hm dv (hput_same ..)) rfl) rfl rfl rfl (by decide) (by have := hB.len; simp at this; show (s7.2.1 + 1) * 24 ≤ _; omega) fun s9 hm9 hd9 hA9 hK9 => ?_; conv => whnf
        refine ih (i + 1, (hput hi m (bcells lz, 5)), hm9, s9, cs' ++ [((some ⟨m, 0, none⟩, q.1.2.1, q.1.2.1), lz)]) _ _ ⟨by dsimp only; omega, by dsimp only; omega, rfl, hd9, he.trans (Ext.new hmn.1), by simp [hcl], ?_, fun p hp => ?_⟩ (by dsimp only; omega) ⟨rfl, rfl, rfl, rfl, rfl, rfl, congrArg (Value.int .i64) (wsucc (by omega)), trivial⟩
        · dsimp only
          rw [List.map_append]
          exact hA9
        · rcases List.mem_append.1 hp with h1 | h1
          · exact (hE p h1).ext (Ext.new hmn.1)
          · rw [List.mem_singleton.1 h1]; exact hyz
  · exact RetX.same hend
end
end Go.Proofs.YgvalwGreat.X
