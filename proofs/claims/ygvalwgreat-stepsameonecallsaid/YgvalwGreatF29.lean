import Derived.Test.YgvalwGreatF28
set_option linter.unusedVariables false
set_option linter.unusedSimpArgs false
namespace Go.Proofs.YgvalwGreat.X
open Go

section
variable {h : Hp} {K : Value → Hp → Prop}

theorem Bld.bd {h0 h' : Hp} {sz : Nat} {s : Sl} {es} {m : Nat} (b : Bld h0 h' sz s es) (hm : Bd h' m) : Bd h0 m := fun c x hc => hm c x (b.ext _ _ hc)
theorem rd_own {m n : Nat} {v : List Value} {t : TypeId} (hv : v.length = n) : rd (hput h m (v, t)) (some ⟨m, 0, none⟩) (1 * n) = some v := by
  subst hv
  simp [rd, hput_same, seg]
theorem fillL_box {n : Nat} {z v : List Value} (hv : v.length = n) (hz : z.length = n) : fillL (fun i => some (i * n, n)) (zeros z 1) [(0, .agg v.toArray)] = some v := by
  have hc : (Value.agg v.toArray).cells = v.toArray := rfl
  simp only [fillL, hc, List.size_toArray, hv, zeros, List.replicate_one, List.flatten_cons, List.flatten_nil, List.append_nil, hz, Nat.zero_mul, Nat.zero_add]
  rw [if_pos ⟨trivial, Nat.le_refl _⟩]
  rw [setSeg_all (by rw [hz]; exact hv.symm)]


theorem mem_take_succ {α : Type} {xs : List α} {i : Nat} (hi : i < xs.length) {b : α} : b ∈ xs.take (i + 1) ↔ b ∈ xs.take i ∨ b = xs[i] := by
  rw [List.take_add_one, List.getElem?_eq_getElem hi, List.mem_append]; simp only [Option.toList_some, List.mem_singleton]



set_option maxRecDepth 100000 in
set_option maxHeartbeats 4000000 in
theorem withAddr_ok {s : Sl} {az : List (List Int)} {a : List Int} (hA : Adrs h s az) (ha : a.length = 20) (hr : s.2.1 < 2 ^ 30)
    (hk : ∀ s' az' h', Ext h h' → Adrs h' s' az' → (∀ b, b ∈ az' ↔ b ∈ az ∨ b = a) → az'.length ≤ az.length + 1 → K (sl s') h') :
    CallX Hval.prog 97 [sl s, .agg (bcells a).toArray] h K := by
  refine CallX.of_xf T_ok Hval.func97 rfl (by kernel_rfl) (Nat.le_of_ble_eq_true rfl) ?_; conv => whnf
  have hn := hA.n
  refine BoxX.mk fun m hm => ?_; conv => whnf
  refine LoadX.arr (l := a) (t := 31) (hput_same ..) ha ?_; conv => whnf
  refine listed_ok (hA.ext (Ext.bd hm)) ha (by omega) ?_; conv => whnf
  refine CondX.decI (fun hc => ?_) (fun hc => ?_) <;> conv => whnf
  · refine RetX.same (hk s az _ (Ext.bd hm) (hA.ext (Ext.bd hm)) (fun b => ⟨.inl, fun h1 => h1.elim id fun h2 => h2 ▸ hc⟩) (by omega))
  refine LoopX.st T_ok Hval.func97 (σ := Nat × Bool × Sl × List (List Int)) (fun s0 => [(3, .pointer (some ⟨m, 0, none⟩)), (5, sl s0.2.2.1), (6, .bool s0.2.1), (13, sl s), (14, .int .i64 s.2.1), (15, .int .i64 s0.1)])
    (fun s0 h' => s0.1 ≤ s.2.1 ∧ Bld (hput h m (bcells a, 31)) h' 20 s0.2.2.1 (s0.2.2.2.map bcells) ∧ (∀ b, b ∈ s0.2.2.2 ↔ b ∈ az.take s0.1 ∨ (s0.2.1 = true ∧ b = a)) ∧ s0.2.2.2.length ≤ s0.1 + (if s0.2.1 then 1 else 0) ∧ ∀ b ∈ s0.2.2.2, b.length = 20) (fun s0 => s.2.1 - s0.1) (0, false, (none, 0, 0), [])
    ⟨rfl, rfl, rfl, rfl, rfl, rfl, trivial⟩ ⟨Nat.zero_le _, Bld.nil (Ext.refl _), fun b => by simp, by simp, fun b hb => by cases hb⟩ ?_
  rintro ⟨i, laid, so, bz⟩ ρ h' ⟨hi, B, hmem, hlen, hbl⟩ ih
  simp only at hi B hmem hlen hbl ⊢
  conv => whnf
  have hm' : h' m = some (bcells a, 31) := B.ext _ _ (hput_same ..)
  have hA' := hA.ext ((Ext.bd hm).trans B.ext)
  have hbn := B.len
  simp only [List.length_map] at hbn
  have aone : ones (bcells a) = true := ones_bcells _
  have alen : (bcells a).length = 20 := by rw [bcells_length, ha]
  refine CondX.decI (fun hc => ?_) (fun hc => ?_) <;> conv => whnf
  · have hc : i < s.2.1 := by omega
    refine IdxX.arr hA'.arr (by omega) (by omega) (by omega) fun b off e => ?_; conv => whnf
    refine LoadX.elt hA'.arr e i rfl hc ?_; conv => whnf
    rw [getD_map (by omega)]
    have hxl := hA.len _ (List.getElem_mem (show i < az.length by omega))
    generalize hx : az[i]'(by omega) = x at *
    have xone : ones (bcells x) = true := ones_bcells _
    have xlen : (bcells x).length = 20 := by rw [bcells_length, hxl]
    refine BoxX.mk fun m2 hm2 => ?_; conv => whnf
    refine Ob.mk ⟨by rw [List.size_toArray, bcells_length, hxl]; rfl, ones_bcells _⟩ ?_; conv => whnf
    refine StoreX.same (by rw [List.toList_toArray, bcells_length, hxl]; decide) ?_; conv => whnf
    rw [setSeg_all (by rw [List.toList_toArray, bcells_length, hxl]; rfl)]
    have B0 := B
    replace B := B.box (x := (bcells x, 31)) hm2
    have hne2 : m ≠ m2 := by have := hm2 _ _ hm'; omega
    have hl1 : hput h' m2 (bcells x, 31) m = some (bcells a, 31) := by rw [hput_ne hne2]; exact hm'
    have hl2 : hput h' m2 (bcells x, 31) m2 = some (bcells x, 31) := hput_same ..
    have go1 : True := trivial
    cases hlaid : laid with
    | true =>
      subst hlaid
      repeat (first | (refine CondX.tt ?_; conv => whnf) | (refine CondX.ff ?_; conv => whnf))
      refine LoadX.arr (l := x) (t := 31) hl2 hxl ?_; conv => whnf
      simp only [if_true] at hlen
      erw [fillL_box (v := (bcells x)) xlen rfl]; conv => whnf
      refine Ob.mk (by first | decide | omega) ?_; conv => whnf
      refine BoxX.mk fun m8 hm8 => ?_; conv => whnf
      refine AppendX.bld (sz := 20) (bytes := 20) (B.box hm8) (rd_own xlen) xlen rfl xone (by decide) (by omega) fun s8 h8 B8 => ?_; conv => whnf
      replace B8 := B8.weaken (Ext.bd (B.bd hm8))
      have hlaid : true = true := rfl
      refine ih (i + 1, true, s8, (bz ++ [x])) _ _ ⟨by dsimp only; omega, ?_, ?_, ?_, ?_⟩ (by dsimp only; omega) ⟨rfl, rfl, rfl, rfl, rfl, congrArg (Value.int .i64) (wsucc (by omega)), trivial⟩
      · refine Bld.weaken (Ext.bd (x := (bcells x, 31)) (Bld.bd B0 hm2)) ?_
        simpa using B8
      · intro b
        dsimp only
        rw [mem_take_succ (by omega), hx]
        simp [hmem, hlaid]
        try grind
      · dsimp only at hlen ⊢
        simp [hlaid] at hlen ⊢
        omega
      · intro b hb
        rcases List.mem_append.1 hb with h1 | h1
        · first | exact hbl b h1 | (rcases List.mem_append.1 h1 with h2 | h2
                                    · exact hbl b h2
                                    · rw [List.mem_singleton.1 h2]; first | exact ha | exact hxl)
        · rw [List.mem_singleton.1 h1]; first | exact hxl | exact ha
    | false =>
      subst hlaid
      simp only [Bool.false_eq_true, if_false] at hlen
      repeat (first | (refine CondX.tt ?_; conv => whnf) | (refine CondX.ff ?_; conv => whnf))
      refine LoadX.arr (l := a) (t := 31) hl1 ha ?_; conv => whnf
      repeat (first | (refine CondX.tt ?_; conv => whnf) | (refine CondX.ff ?_; conv => whnf))
      refine LoadX.arr (l := x) (t := 31) hl2 hxl ?_; conv => whnf
      repeat (first | (refine CondX.tt ?_; conv => whnf) | (refine CondX.ff ?_; conv => whnf))
      refine before_ok ha hxl fun t => ?_; conv => whnf
      repeat (first | (refine CondX.tt ?_; conv => whnf) | (refine CondX.ff ?_; conv => whnf))
      cases t with
      | true =>
        repeat (first | (refine CondX.tt ?_; conv => whnf) | (refine CondX.ff ?_; conv => whnf))
        refine LoadX.arr (l := a) (t := 31) hl1 ha ?_; conv => whnf
        erw [fillL_box (v := (bcells a)) alen rfl]; conv => whnf
        refine Ob.mk (by first | decide | omega) ?_; conv => whnf
        refine BoxX.mk fun m8 hm8 => ?_; conv => whnf
        refine AppendX.bld (sz := 20) (bytes := 20) (B.box hm8) (rd_own alen) alen rfl aone (by decide) (by omega) fun s8 h8 B8 => ?_; conv => whnf
        replace B8 := B8.weaken (Ext.bd (B.bd hm8))
        have hl3 : h8 m2 = some (bcells x, 31) := B8.ext _ _ (hput_same ..)
        refine LoadX.arr (l := x) (t := 31) hl3 hxl ?_; conv => whnf
        have B7 := B8
        have hn8 := B7.len
        simp only [List.length_append, List.length_map, List.length_singleton] at hn8
        clear hm8
        erw [fillL_box (v := (bcells x)) xlen rfl]; conv => whnf
        refine Ob.mk (by first | decide | omega) ?_; conv => whnf
        refine BoxX.mk fun m8 hm8 => ?_; conv => whnf
        refine AppendX.bld (sz := 20) (bytes := 20) (B7.box hm8) (rd_own xlen) xlen rfl xone (by decide) (by omega) fun s8 h8 B8 => ?_; conv => whnf
        replace B8 := B8.weaken (Ext.bd (B7.bd hm8))
        have hlaid : false = false := rfl
        refine ih (i + 1, true, s8, (bz ++ [a] ++ [x])) _ _ ⟨by dsimp only; omega, ?_, ?_, ?_, ?_⟩ (by dsimp only; omega) ⟨rfl, rfl, rfl, rfl, rfl, congrArg (Value.int .i64) (wsucc (by omega)), trivial⟩
        · refine Bld.weaken (Ext.bd (x := (bcells x, 31)) (Bld.bd B0 hm2)) ?_
          simpa using B8
        · intro b
          dsimp only
          rw [mem_take_succ (by omega), hx]
          simp [hmem, hlaid]
          try grind
        · dsimp only at hlen ⊢
          simp [hlaid] at hlen ⊢
          omega
        · intro b hb
          rcases List.mem_append.1 hb with h1 | h1
          · first | exact hbl b h1 | (rcases List.mem_append.1 h1 with h2 | h2
                                      · exact hbl b h2
                                      · rw [List.mem_singleton.1 h2]; first | exact ha | exact hxl)
          · rw [List.mem_singleton.1 h1]; first | exact hxl | exact ha
      | false =>
        repeat (first | (refine CondX.tt ?_; conv => whnf) | (refine CondX.ff ?_; conv => whnf))
        refine LoadX.arr (l := x) (t := 31) hl2 hxl ?_; conv => whnf
        erw [fillL_box (v := (bcells x)) xlen rfl]; conv => whnf
        refine Ob.mk (by first | decide | omega) ?_; conv => whnf
        refine BoxX.mk fun m8 hm8 => ?_; conv => whnf
        refine AppendX.bld (sz := 20) (bytes := 20) (B.box hm8) (rd_own xlen) xlen rfl xone (by decide) (by omega) fun s8 h8 B8 => ?_; conv => whnf
        replace B8 := B8.weaken (Ext.bd (B.bd hm8))
        have hlaid : false = false := rfl
        refine ih (i + 1, false, s8, (bz ++ [x])) _ _ ⟨by dsimp only; omega, ?_, ?_, ?_, ?_⟩ (by dsimp only; omega) ⟨rfl, rfl, rfl, rfl, rfl, congrArg (Value.int .i64) (wsucc (by omega)), trivial⟩
        · refine Bld.weaken (Ext.bd (x := (bcells x, 31)) (Bld.bd B0 hm2)) ?_
          simpa using B8
        · intro b
          dsimp only
          rw [mem_take_succ (by omega), hx]
          simp [hmem, hlaid]
          try grind
        · dsimp only at hlen ⊢
          simp [hlaid] at hlen ⊢
          omega
        · intro b hb
          rcases List.mem_append.1 hb with h1 | h1
          · first | exact hbl b h1 | (rcases List.mem_append.1 h1 with h2 | h2
                                      · exact hbl b h2
                                      · rw [List.mem_singleton.1 h2]; first | exact ha | exact hxl)
          · rw [List.mem_singleton.1 h1]; first | exact hxl | exact ha
  · have hc : i = s.2.1 := by omega
    have htake : az.take i = az := List.take_of_length_le (by omega)
    rw [htake] at hmem
    cases hlaid : laid with
    | true =>
      subst hlaid
      repeat (first | (refine CondX.tt ?_; conv => whnf) | (refine CondX.ff ?_; conv => whnf))
      simp only [if_true] at hlen
      refine RetX.same (hk so bz _ ((Ext.bd hm).trans B.ext) ⟨B.arr, hbl⟩ (fun b => by rw [hmem]; simp) (by omega))
    | false =>
      subst hlaid
      simp only [Bool.false_eq_true, if_false] at hlen
      repeat (first | (refine CondX.tt ?_; conv => whnf) | (refine CondX.ff ?_; conv => whnf))
      refine LoadX.arr (l := a) (t := 31) hm' ha ?_; conv => whnf
      erw [fillL_box (v := (bcells a)) alen rfl]; conv => whnf
      refine Ob.mk (by first | decide | omega) ?_; conv => whnf
      refine BoxX.mk fun m8 hm8 => ?_; conv => whnf
      refine AppendX.bld (sz := 20) (bytes := 20) (B.box hm8) (rd_own alen) alen rfl aone (by decide) (by omega) fun s8 h8 B8 => ?_; conv => whnf
      replace B8 := B8.weaken (Ext.bd (B.bd hm8))
      have BA := B8.arr
      have e : List.map bcells bz ++ [bcells a] = List.map bcells (bz ++ [a]) := by simp
      rw [e] at BA
      refine RetX.same (hk s8 (bz ++ [a]) _ ((Ext.bd hm).trans B8.ext) ⟨BA, fun b hb => ?_⟩ (fun b => by simp [hmem]) (by simp; omega))
      rcases List.mem_append.1 hb with h1 | h1
      · exact hbl b h1
      · rw [List.mem_singleton.1 h1]; exact ha
end
end Go.Proofs.YgvalwGreat.X
