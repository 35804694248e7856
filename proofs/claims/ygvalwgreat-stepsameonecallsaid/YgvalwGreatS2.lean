import Derived.Test.YgvalwGreatS1
set_option linter.unusedVariables false
set_option linter.unusedSimpArgs false
namespace Go.Proofs.YgvalwGreat.X
open Go

/-- A slice of byte slices. -/
def p1C (p : Sl × List Int) : List Value := [sl p.1]
structure SlL (h : Hp) (s : Sl) (cs : List (Sl × List Int)) : Prop where
  arr : Arr h s 1 (cs.map p1C)
  each : ∀ p ∈ cs, BytS h p.1 p.2
theorem SlL.ext {h h' : Hp} {s : Sl} {cs : List (Sl × List Int)} (a : SlL h s cs) (he : Ext h h') : SlL h' s cs := ⟨a.arr.ext he, fun p hp => (a.each p hp).ext he⟩
theorem SlL.n {h : Hp} {s : Sl} {cs : List (Sl × List Int)} (a : SlL h s cs) : cs.length = s.2.1 := by have := a.arr.len; simpa using this
/-- An account of the given world. -/
structure WA where
  a : List Int
  n : Int
  b : List Int
  cs : Sl
  code : List Int
def waC (x : WA) : List Value := bcells x.a ++ (.int .u64 x.n :: (bcells x.b ++ [sl x.cs, sl nilS]))
def b128 : List Int := List.replicate 15 0 ++ (1 :: List.replicate 16 0)
def sndW : WA := ⟨sndA, 0, b128, nilS, []⟩
def cwA (i : Nat) (p : Sl × List Int) : WA := ⟨adr (i + 1), 1, zz32, p.1, p.2⟩
def stgW (cs : List (Sl × List Int)) : List WA := cs.mapIdx cwA ++ [sndW]
structure WldOK (h : Hp) (s : Sl) (ws : List WA) : Prop where
  arr : Arr h s 55 (ws.map waC)
  each : ∀ x ∈ ws, BytS h x.cs x.code
theorem WldOK.ext {h h' : Hp} {s : Sl} {ws : List WA} (a : WldOK h s ws) (he : Ext h h') : WldOK h' s ws := ⟨a.arr.ext he, fun p hp => (a.each p hp).ext he⟩
theorem waC_len {x : WA} (h1 : x.a.length = 20) (h2 : x.b.length = 32) : (waC x).length = 55 := by simp [waC, bcells_length, h1, h2]
theorem waC_one (x : WA) : ones (waC x) = true := ones_append (ones_bcells _) (by
  show ones ([Value.int .u64 x.n] ++ (bcells x.b ++ [sl x.cs, sl nilS])) = true
  exact ones_append rfl (ones_append (ones_bcells _) rfl))
section
variable {h : Hp} {K : Value → Hp → Prop}
theorem Arr.get1 {b off k o : Nat} {s : Sl} {es : List (List Value)} {x : Value} (a : Arr h s 1 es) (he : s.1 = some ⟨b, off, none⟩) (hk : k < s.2.1) (hx : es.getD k [] = [x]) (ho : o = off + k * 1) : ldV false 1 h b o = some x := by
  subst ho
  have hl := a.get he hk
  rw [hx] at hl
  unfold ldV at hl ⊢
  cases hb : h b with
  | none => rw [hb] at hl; cases hl
  | some y =>
    obtain ⟨c, t⟩ := y
    rw [hb] at hl
    simp only at hl ⊢
    split at hl
    · simp only [if_true, Option.some.injEq, Value.agg.injEq] at hl
      have hl := congrArg Array.toList hl
      simp only [List.toList_toArray, X.seg] at hl
      have := congrArg (fun z : List Value => z[0]?) hl
      simpa [List.getElem?_take] using this
    · cases hl
set_option maxRecDepth 100000 in
set_option maxHeartbeats 4000000 in
theorem stage_ok {s : Sl} {cs : List (Sl × List Int)} (hA : SlL h s cs) (hr : s.2.1 < 2 ^ 40) (hk : ∀ s' h' cs', Ext h h' → cs'.length ≤ 6 → (∀ p ∈ cs', p.2.length ≤ 256) → WldOK h' s' (stgW cs') → K (sl s') h') : CallX Hval.prog 5 [sl s] h K := by
  have hn := hA.n
  rw [← join_hNil h]
  refine CallX.of_xf T_ok Hval.func5 rfl (by kernel_rfl) (Nat.le_of_ble_eq_true rfl) ?_; conv => whnf
  refine LoopX.st T_ok Hval.func5 (σ := Nat × Hp × Hp × Sl × List (Sl × List Int)) (fun z => [(0, sl s), (3, sl z.2.2.2.1), (7, sl s), (8, .int .i64 s.2.1), (9, .int .i64 z.1)])
    (fun z h' => z.1 ≤ s.2.1 ∧ z.1 ≤ 6 ∧ h' = join z.2.1 z.2.2.1 ∧ Dj z.2.1 z.2.2.1 ∧ Ext h z.2.1 ∧ z.2.2.2.2.length = z.1 ∧ ArrM z.2.2.1 z.2.2.2.1 55 ((z.2.2.2.2.mapIdx cwA).map waC) ∧ ∀ p ∈ z.2.2.2.2, p.2.length ≤ 256 ∧ BytS z.2.1 p.1 p.2) (fun z => s.2.1 - z.1) (0, h, hNil, nilS, [])
    ⟨rfl, rfl, rfl, rfl, rfl, trivial⟩ ⟨Nat.zero_le _, Nat.zero_le _, rfl, Dj_hNil h, Ext.refl h, rfl, Bld.nil (fun b x hb => by cases hb), fun p hp => by cases hp⟩ ?_
  rintro ⟨i, hi, hm, s3, cs'⟩ ρ h' ⟨hil, hi6, rfl, hd, he, hcl, hB, hE⟩ ih
  dsimp only at hil hi6 hd he hcl hB hE
  conv => whnf
  have hA' := hA.arr.ext (he.trans (Ext.jl hi hm))
  refine CondX.decI (fun hc => ?_) (fun hc => ?_) <;> conv => whnf
  · have hc : i < s.2.1 := by omega
    refine IdxX.arr hA' (by omega) (by omega) (by omega) fun b off e => ?_; conv => whnf
    have hip : i < cs.length := by omega
    obtain ⟨q, hq⟩ : ∃ q, q = cs[i]'hip := ⟨_, rfl⟩
    have hqB : BytS hi q.1 q.2 := by rw [hq]; exact (hA.each _ (List.getElem_mem hip)).ext he
    refine LoadX.of (sl q.1) (hA'.get1 e (k := i) hc (by rw [getD_map hip, ← hq]; rfl) (by rw [Int.toNat_natCast]; rfl)) ?_; conv => whnf
    refine CondX.decI (fun h6 => ?_) (fun h6 => ?_) <;> conv => whnf
    · refine sender_ok ?_; conv => whnf
      have b57 : (waC sndW).length = 55 := rfl
      refine Ob.mk (by first | decide | omega) ?_; conv => whnf
      refine BoxX.jm hd fun mv q1 q2 dv => ?_; conv => whnf
      have hBv := hB.mono (hm' := hput hm mv (waC sndW, 57)) fun fb x hs hb => hput_old hb q2
      refine AppendX.mut (sz := 55) (bytes := 112) dv hBv (rd_one (v := waC sndW) (join_hm dv (hput_same ..)) rfl) rfl rfl (waC_one sndW) (by decide) (by have := hB.len; simp at this; show (s3.2.1 + 1) * 112 ≤ _; omega) fun s9 hm9 hd9 hA9 hK9 => ?_; conv => whnf
      have e9 : Ext h (join hi hm9) := he.trans (Ext.jl _ _)
      refine RetX.same (hk s9 _ cs' e9 (by omega) (fun p hp => (hE p hp).1) ⟨?_, fun x hx => ?_⟩)
      · have := hA9.arr hd9
        unfold stgW
        rw [List.map_append]
        exact this
      · unfold stgW at hx
        rcases List.mem_append.1 hx with h1 | h1
        · obtain ⟨j, hj, rfl⟩ := List.mem_mapIdx.1 h1
          exact ((hE _ (List.getElem_mem hj)).2).ext (Ext.jl _ _)
        · rw [List.mem_singleton.1 h1]; exact Byt_nil _
    have h6 : i < 6 := by omega
    rw [show IntKind.u8.wrap (IntKind.i64.wrap ((i : Int) + 1)) = (i : Int) + 1 by rw [wrap_i64 (by omega) (by omega), wrap_u8]; omega]
    refine addrNo_ok ?_; conv => whnf
    refine BoxX.jm hd fun m6 q1 q2 d6 => ?_; conv => whnf
    refine Ob.mk ⟨rfl, rfl⟩ ?_; conv => whnf
    refine StoreX.top d6 (waC (cwA i (nilS, []))) (setSeg_all rfl) (Nat.le_of_ble_eq_true rfl) fun d7 => ?_; conv => whnf
    have hql := hqB.len
    refine CondX.decI (fun hl => ?_) (fun hl => ?_) <;> conv => whnf
    · refine CallX.fj d7 (copyB_ok hqB fun sC h' e1 hs d8 => ?_); conv => whnf
      refine StoreX.top d8 (waC (cwA i (sC, q.2))) rfl (Nat.le_of_ble_eq_true rfl) fun d9 => ?_; conv => whnf
      refine LoadX.all (c := waC (cwA i (sC, q.2))) (join_hm d9 (hput_same ..)) rfl ?_; conv => whnf
      refine Ob.mk (by first | decide | omega) ?_; conv => whnf
      refine BoxX.jm d9 fun mv q3 q4 dv => ?_; conv => whnf
      have hBv := hB.mono (hm' := hput (hput hm m6 (waC (cwA i (sC, q.2)), 57)) mv (waC (cwA i (sC, q.2)), 57)) fun fb x hs hb => hput_old (hput_old hb q2) q4
      refine AppendX.mut (sz := 55) (bytes := 112) dv hBv (rd_one (v := waC (cwA i (sC, q.2))) (join_hm dv (hput_same ..)) rfl) rfl rfl (waC_one _) (by decide) (by have := hB.len; simp at this; show (s3.2.1 + 1) * 112 ≤ _; omega) fun s9 hm9 hd9 hA9 hK9 => ?_; conv => whnf
      refine ih (i + 1, h', hm9, s9, cs' ++ [(sC, q.2)]) _ _ ⟨by dsimp only; omega, by dsimp only; omega, rfl, hd9, he.trans e1, by simp [hcl], ?_, fun p hp => ?_⟩ (by dsimp only; omega) ⟨rfl, rfl, rfl, rfl, congrArg (Value.int .i64) (wsucc (by dsimp only; omega)), trivial⟩
      · dsimp only
        rw [List.mapIdx_append, List.map_append]
        simpa [hcl] using hA9
      · rcases List.mem_append.1 hp with h1 | h1
        · exact ⟨(hE p h1).1, (hE p h1).2.ext e1⟩
        · rw [List.mem_singleton.1 h1]; exact ⟨(show q.2.length ≤ 256 by omega), hs⟩
    · refine LoadX.all (c := waC (cwA i (nilS, []))) (join_hm d7 (hput_same ..)) rfl ?_; conv => whnf
      refine Ob.mk (by first | decide | omega) ?_; conv => whnf
      refine BoxX.jm d7 fun mv q3 q4 dv => ?_; conv => whnf
      have hBv := hB.mono (hm' := hput (hput hm m6 (waC (cwA i (nilS, [])), 57)) mv (waC (cwA i (nilS, [])), 57)) fun fb x hs hb => hput_old (hput_old hb q2) q4
      refine AppendX.mut (sz := 55) (bytes := 112) dv hBv (rd_one (v := waC (cwA i (nilS, []))) (join_hm dv (hput_same ..)) rfl) rfl rfl (waC_one _) (by decide) (by have := hB.len; simp at this; show (s3.2.1 + 1) * 112 ≤ _; omega) fun s9 hm9 hd9 hA9 hK9 => ?_; conv => whnf
      refine ih (i + 1, hi, hm9, s9, cs' ++ [(nilS, [])]) _ _ ⟨by dsimp only; omega, by dsimp only; omega, rfl, hd9, he.trans (Ext.refl hi), by simp [hcl], ?_, fun p hp => ?_⟩ (by dsimp only; omega) ⟨rfl, rfl, rfl, rfl, congrArg (Value.int .i64) (wsucc (by dsimp only; omega)), trivial⟩
      · dsimp only
        rw [List.mapIdx_append, List.map_append]
        simpa [hcl] using hA9
      · rcases List.mem_append.1 hp with h1 | h1
        · exact ⟨(hE p h1).1, (hE p h1).2.ext (Ext.refl hi)⟩
        · rw [List.mem_singleton.1 h1]; exact ⟨(Nat.zero_le 256), (Byt_nil hi)⟩
  · refine sender_ok ?_; conv => whnf
    have b57 : (waC sndW).length = 55 := rfl
    refine Ob.mk (by first | decide | omega) ?_; conv => whnf
    refine BoxX.jm hd fun mv q1 q2 dv => ?_; conv => whnf
    have hBv := hB.mono (hm' := hput hm mv (waC sndW, 57)) fun fb x hs hb => hput_old hb q2
    refine AppendX.mut (sz := 55) (bytes := 112) dv hBv (rd_one (v := waC sndW) (join_hm dv (hput_same ..)) rfl) rfl rfl (waC_one sndW) (by decide) (by have := hB.len; simp at this; show (s3.2.1 + 1) * 112 ≤ _; omega) fun s9 hm9 hd9 hA9 hK9 => ?_; conv => whnf
    have e9 : Ext h (join hi hm9) := he.trans (Ext.jl _ _)
    refine RetX.same (hk s9 _ cs' e9 (by omega) (fun p hp => (hE p hp).1) ⟨?_, fun x hx => ?_⟩)
    · have := hA9.arr hd9
      unfold stgW
      rw [List.map_append]
      exact this
    · unfold stgW at hx
      rcases List.mem_append.1 hx with h1 | h1
      · obtain ⟨j, hj, rfl⟩ := List.mem_mapIdx.1 h1
        exact ((hE _ (List.getElem_mem hj)).2).ext (Ext.jl _ _)
      · rw [List.mem_singleton.1 h1]; exact Byt_nil _
end
end Go.Proofs.YgvalwGreat.X
