import Derived.Test.YgvalwGreatS2
set_option linter.unusedVariables false
set_option linter.unusedSimpArgs false
namespace Go.Proofs.YgvalwGreat.X
open Go

section
variable {h : Hp} {K : Value → Hp → Prop} {base : Option Addr} {len cap : Nat} {l : List Int}
set_option maxRecDepth 100000 in
set_option maxHeartbeats 4000000 in
theorem copyB_box (hb : Byt h base len cap l) (hk1 : l = [] → K (sl nilS) h) (hk : ∀ m, Bd h m → K (.slice (some ⟨m, 0, none⟩) len len) (hput h m (bcells l, 5))) : CallX Hval.prog 18 [.slice base len cap] h K := by
  have hl := hb.len
  have hr := hb.room
  refine CallX.of_xf T_ok Hval.func18 rfl (by kernel_rfl) (Nat.le_of_ble_eq_true rfl) ?_; conv => whnf
  cases base with
  | none =>
    have : l = [] := List.eq_nil_of_length_eq_zero (by have := hb.rd; unfold rd at this; split at this <;> simp_all)
    repeat (first | (refine CondX.tt ?_; conv => whnf) | (refine CondX.ff ?_; conv => whnf))
    exact RetX.same (hk1 this)
  | some ad =>
    repeat (first | (refine CondX.tt ?_; conv => whnf) | (refine CondX.ff ?_; conv => whnf))
    refine MakeX.bytes len rfl (by omega) fun m hm => ?_; conv => whnf
    refine CopyX.bytes (hb.ext (Ext.bd hm)) (by simp) ?_; conv => whnf
    rw [Int.toNat_natCast, show Nat.min len len = len from Nat.min_self _, List.take_of_length_le (by omega)]
    have e : ovl (List.replicate len 0) 0 l = l := by
      unfold ovl
      rw [List.take_zero, List.nil_append, Nat.zero_add, List.drop_of_length_le (by simp; omega), List.append_nil]
    rw [e]
    exact RetX.same (hk m hm)
set_option maxRecDepth 100000 in
set_option maxHeartbeats 4000000 in
theorem masked_ok {s : Sl} {cs : List (Sl × List Int)} {o : Int} (hA : SlL h s cs) (hr : s.2.1 < 2 ^ 40) (hk : ∀ s' h' cs', Ext h h' → s'.2.1 < 2 ^ 40 → SlL h' s' cs' → K (sl s') h') : CallX Hval.prog 6 [sl s, .int .u8 o, .int .i64 0] h K := by
  have hn := hA.n
  rw [← join_hNil h]
  refine CallX.of_xf T_ok Hval.func6 rfl (by kernel_rfl) (Nat.le_of_ble_eq_true rfl) ?_; conv => whnf
  refine LoopX.st T_ok Hval.func6 (σ := Nat × Hp × Hp × Sl × List (Sl × List Int)) (fun z => [(1, .int .u8 o), (2, .int .i64 0), (7, sl z.2.2.2.1), (13, sl s), (14, .int .i64 s.2.1), (0, sl s), (15, .int .i64 z.1)])
    (fun z h' => z.1 ≤ s.2.1 ∧ z.1 ≤ 6 ∧ h' = join z.2.1 z.2.2.1 ∧ Dj z.2.1 z.2.2.1 ∧ Ext h z.2.1 ∧ z.2.2.2.2.length = z.1 ∧ ArrM z.2.2.1 z.2.2.2.1 1 (z.2.2.2.2.map p1C) ∧ ∀ p ∈ z.2.2.2.2, BytS z.2.1 p.1 p.2) (fun z => s.2.1 - z.1) (0, h, hNil, nilS, [])
    ⟨rfl, rfl, rfl, rfl, rfl, rfl, rfl, trivial⟩ ⟨Nat.zero_le _, Nat.zero_le _, rfl, Dj_hNil h, Ext.refl h, rfl, Bld.nil (fun b x hb => by cases hb), fun p hp => by cases hp⟩ ?_
  rintro ⟨i, hi, hm, s7, cs'⟩ ρ h' ⟨hil, hi6, rfl, hd, he, hcl, hB, hE⟩ ih
  dsimp only at hil hi6 hd he hcl hB hE
  conv => whnf
  have hA' := hA.arr.ext (he.trans (Ext.jl hi hm))
  have hend : K (sl s7) (join hi hm) := hk s7 _ cs' (he.trans (Ext.jl _ _)) (by have := hB.len; simp at this; omega) ⟨hB.arr hd, fun p hp => (hE p hp).ext (Ext.jl _ _)⟩
  refine CondX.decI (fun hc => ?_) (fun hc => ?_) <;> conv => whnf
  · have hc : i < s.2.1 := by omega
    refine IdxX.arr hA' (by omega) (by omega) (by omega) fun b off e => ?_; conv => whnf
    have hip : i < cs.length := by omega
    obtain ⟨q, hq⟩ : ∃ q, q = cs[i]'hip := ⟨_, rfl⟩
    have hqB : BytS hi q.1 q.2 := by rw [hq]; exact (hA.each _ (List.getElem_mem hip)).ext he
    refine LoadX.of (sl q.1) (hA'.get1 e (k := i) hc (by rw [getD_map hip, ← hq]; rfl) (by rw [Int.toNat_natCast]; rfl)) ?_; conv => whnf
    refine CondX.decI (fun h6 => ?_) (fun h6 => ?_) <;> conv => whnf
    · exact RetX.same hend
    have h6 : i < 6 := by omega
    have hql := hqB.len
    have hqr := hqB.room
    refine CallX.fj hd (copyB_box hqB (fun hnil d8 => ?_) (fun m hbm d8 => ?_)) <;> conv => whnf
    · refine LoopX.st T_ok Hval.func6 (σ := Unit) (fun _ => [(1, .int .u8 o), (2, .int .i64 0), (7, sl s7), (13, sl s), (14, .int .i64 s.2.1), (0, sl s), (15, .int .i64 i), (10, sl nilS), (25, .int .i64 0), (26, .int .i64 0)])
        (fun _ h2 => h2 = join hi hm) (fun _ => 0) () ⟨rfl, rfl, rfl, rfl, rfl, rfl, rfl, rfl, rfl, rfl, trivial⟩ rfl ?_
      rintro _ ρ2 h2 rfl ih2
      conv => whnf
      repeat (first | (refine CondX.tt ?_; conv => whnf) | (refine CondX.ff ?_; conv => whnf))
      refine Ob.mk (by first | decide | omega) ?_; conv => whnf
      refine BoxX.jm hd fun mv q3 q4 dv => ?_; conv => whnf
      have hBv := hB.mono (hm' := hput hm mv (p1C (nilS, ([] : List Int)), 23)) fun fb x hs hb => hput_old hb q4
      refine AppendX.mut (sz := 1) (bytes := 24) dv hBv (rd_one (v := p1C (nilS, ([] : List Int))) (join_hm dv (hput_same ..)) rfl) rfl rfl rfl (by decide) (by have := hB.len; simp at this; show (s7.2.1 + 1) * 24 ≤ _; omega) fun s9 hm9 hd9 hA9 hK9 => ?_; conv => whnf
      refine ih (i + 1, hi, hm9, s9, cs' ++ [(nilS, ([] : List Int))]) _ _ ⟨by dsimp only; omega, by dsimp only; omega, rfl, hd9, he.trans (Ext.refl hi), by simp [hcl], ?_, fun p hp => ?_⟩ (by dsimp only; omega) ⟨rfl, rfl, rfl, rfl, rfl, rfl, congrArg (Value.int .i64) (wsucc (by omega)), trivial⟩
      · dsimp only
        rw [List.map_append]
        exact hA9
      · rcases List.mem_append.1 hp with h1 | h1
        · exact (hE p h1).ext (Ext.refl hi)
        · rw [List.mem_singleton.1 h1]; exact (Byt_nil hi)
    · refine LoopX.st T_ok Hval.func6 (σ := Nat × List Int) (fun z => [(1, .int .u8 o), (2, .int .i64 0), (7, sl s7), (8, .int .i64 i), (13, sl s), (14, .int .i64 s.2.1), (0, sl s), (15, .int .i64 i), (10, .slice (some ⟨m, 0, none⟩) q.1.2.1 q.1.2.1), (24, .slice (some ⟨m, 0, none⟩) q.1.2.1 q.1.2.1), (25, .int .i64 q.1.2.1), (26, .int .i64 z.1)])
        (fun z h2 => z.1 ≤ q.1.2.1 ∧ z.2.length = q.1.2.1 ∧ isB z.2 ∧ h2 = join (hput hi m (bcells z.2, 5)) hm) (fun z => q.1.2.1 - z.1) (0, q.2) ⟨rfl, rfl, rfl, rfl, rfl, rfl, rfl, rfl, rfl, rfl, rfl, rfl, trivial⟩ ⟨Nat.zero_le _, hql, hqB.isB, rfl⟩ ?_
      rintro ⟨j, lz⟩ ρ2 h2 ⟨hj, hlz, hBz, rfl⟩ ih2
      dsimp only at hj hlz hBz
      conv => whnf
      have hyz : Byt (hput hi m (bcells lz, 5)) (some ⟨m, 0, none⟩) q.1.2.1 q.1.2.1 lz := own_all hBz hlz.symm (by omega)
      have d9 : Dj (hput hi m (bcells lz, 5)) hm := d8.hp
      refine CondX.decI (fun hp => ?_) (fun hp => ?_) <;> conv => whnf
      · have hp : j < q.1.2.1 := by omega
        refine IdxX.rd (hyz.ext (Ext.jl _ hm)).rd (by omega) (by omega) fun b2 o2 e2 _ => ?_; conv => whnf
        refine LoadX.byte (hyz.ext (Ext.jl _ hm)) e2 j rfl (by omega) rfl ?_; conv => whnf
        have hbz : 0 ≤ lz.getD j 0 ∧ lz.getD j 0 < 256 := by
          rw [List.getD_eq_getElem?_getD, List.getElem?_eq_getElem (by omega)]
          exact hBz _ (List.getElem_mem (by omega))
        refine CondX.dT (by omega) ?_; conv => whnf
        repeat (first | (refine CondX.tt ?_; conv => whnf) | (refine CondX.ff ?_; conv => whnf))
        refine family_ok hbz.1 hbz.2 ?_; conv => whnf
        repeat (first | (refine CondX.tt ?_; conv => whnf) | (refine CondX.ff ?_; conv => whnf))
        refine CondX.mk (fun hq1 => ?_) (fun hq1 => ?_) <;> conv => whnf
        · refine IdxX.rd (hyz.ext (Ext.jl _ hm)).rd (by omega) (by omega) fun b3 o3 e3 _ => ?_; conv => whnf
          cases e3
          refine StoreX.jx (x := bcells (lz.set j 254)) (by show 0 + (j : Int).toNat * 1 + 1 ≤ (bcells lz).length; rw [bcells_length]; omega) ?_ ?_
          · show setSeg (bcells lz) (0 + (j : Int).toNat * 1) _ = _
            rw [Int.toNat_natCast, Nat.zero_add, Nat.mul_one]
            exact setSeg_bcells 254 (by omega)
          conv => whnf
          refine ih2 (j + 1, lz.set j 254) _ _ ⟨by dsimp only; omega, by simp [hlz], fun d hd => ?_, rfl⟩ (by dsimp only; omega) ⟨rfl, rfl, rfl, rfl, rfl, rfl, rfl, rfl, rfl, rfl, rfl, congrArg (Value.int .i64) (wsucc (by omega)), trivial⟩
          rcases List.mem_or_eq_of_mem_set hd with h1 | h1
          · exact hBz d h1
          · rw [h1]; decide
        · refine ih2 (j + 1, lz) _ _ ⟨by dsimp only; omega, hlz, hBz, rfl⟩ (by dsimp only; omega) ⟨rfl, rfl, rfl, rfl, rfl, rfl, rfl, rfl, rfl, rfl, rfl, congrArg (Value.int .i64) (wsucc (by omega)), trivial⟩
      · refine Ob.mk (by first | decide | omega) ?_; conv => whnf
        refine BoxX.jm d9 fun mv q3 q4 dv => ?_; conv => whnf
        have hBv := hB.mono (hm' := hput hm mv (p1C ((some ⟨m, 0, none⟩, q.1.2.1, q.1.2.1), lz), 23)) fun fb x hs hb => hput_old hb q4
        refine AppendX.mut (sz := 1) (bytes := 24) dv hBv (rd_one (v := p1C ((some ⟨m, 0, none⟩, q.1.2.1, q.1.2.1), lz)) (join_hm dv (hput_same ..)) rfl) rfl rfl rfl (by decide) (by have := hB.len; simp at this; show (s7.2.1 + 1) * 24 ≤ _; omega) fun s9 hm9 hd9 hA9 hK9 => ?_; conv => whnf
        refine ih (i + 1, (hput hi m (bcells lz, 5)), hm9, s9, cs' ++ [((some ⟨m, 0, none⟩, q.1.2.1, q.1.2.1), lz)]) _ _ ⟨by dsimp only; omega, by dsimp only; omega, rfl, hd9, he.trans (Ext.bd hbm), by simp [hcl], ?_, fun p hp => ?_⟩ (by dsimp only; omega) ⟨rfl, rfl, rfl, rfl, rfl, rfl, congrArg (Value.int .i64) (wsucc (by omega)), trivial⟩
        · dsimp only
          rw [List.map_append]
          exact hA9
        · rcases List.mem_append.1 hp with h1 | h1
          · exact (hE p h1).ext (Ext.bd hbm)
          · rw [List.mem_singleton.1 h1]; exact hyz
  · exact RetX.same hend
end
end Go.Proofs.YgvalwGreat.X
