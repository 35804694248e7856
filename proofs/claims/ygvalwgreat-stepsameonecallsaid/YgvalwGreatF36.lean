import Derived.Test.YgvalwGreatF35
set_option linter.unusedVariables false
set_option linter.unusedSimpArgs false
namespace Go.Proofs.YgvalwGreat.X
open Go

def YMark.id (x : YMark) : List Int × Int := (x.addr, x.key)
theorem hasM_find {xs : List YMark} {a : List Int} {k : Int} : hasM xs a k = (xs.find? fun x => x.id = (a, k)).isSome := by
  rw [Bool.eq_iff_iff, List.find?_isSome, hasM, List.any_eq_true]
  simp [YMark.id]

section
variable {hi hm : Hp} {K : Value → Hp → Prop}

theorem fok_one (s : Sl) : ∀ v ∈ [sl s], fok v := fun v hv => by rw [List.mem_singleton.1 hv]; exact fok_sl s
theorem fok_two (s s' : Sl) : ∀ v ∈ [sl s, sl s'], fok v := fun v hv => by
  simp only [List.mem_cons, List.not_mem_nil, or_false] at hv
  rcases hv with rfl | rfl <;> exact fok_sl _




set_option maxRecDepth 100000 in
set_option maxHeartbeats 4000000 in
theorem warmSlot_ok (hd : Dj hi hm) {c o : Nat} {cells : List Value} {t : TypeId} {s sk : Sl} {xs : List YMark} {a : List Int} {k : Int} (hc : hm c = some (cells, t)) (ho : cells[o + 2]? = some (sl s)) (hA : MarkL hi s xs) (ha : a.length = 20) (hkey : NtS hi sk k) (hr : s.2.1 < 2 ^ 30)
    (hk0 : hasM xs a k = true → K (.tuple #[]) (join hi hm))
    (hk : ∀ hi' s' ys, Ext hi hi' → Dj hi' (hput hm c (setSeg cells (o + 2) [sl s'], t)) → MarkL hi' s' ys → InsR YMark.id xs (YMark.mk a sk k) false ys → K (.tuple #[]) (join hi' (hput hm c (setSeg cells (o + 2) [sl s'], t)))) :
    CallX Hval.prog 38 [.pointer (some ⟨c, o, none⟩), .agg (bcells a).toArray, sl sk] (join hi hm) K := by
  refine CallX.of_xf T_ok Hval.func38 rfl (by kernel_rfl) (Nat.le_of_ble_eq_true rfl) ?_; conv => whnf
  have hn := hA.n
  refine BoxX.j hd fun m4 hi4 hm4 hd4 he4 => ?_; conv => whnf
  have hl4 : join (hput hi m4 (bcells a, 31)) hm m4 = some (bcells a, 31) := join_l (hput_same ..)
  have hE4 : Ext hi (join (hput hi m4 (bcells a, 31)) hm) := he4.trans (Ext.jl _ _)
  refine LoadX.arr (l := a) (t := 31) hl4 ha ?_; conv => whnf
  refine isWarmSlot_ok (xs := xs) (join_hm hd4 hc) ho (hA.ext hE4) ha (by omega) (hkey.ext hE4) ?_; conv => whnf
  refine CondX.mk (fun hw => ?_) (fun hw => ?_) <;> conv => whnf
  · refine RetX.drop (fun b z hb => ?_) (hk0 hw)
    unfold join at hb ⊢
    by_cases hbm : b = m4
    · subst hbm; rw [hi4] at hb; simp only at hb; rw [hm4] at hb; cases hb
    · rw [hput_ne hbm]; exact hb
  have alen : (bcells a).length = 20 := by rw [bcells_length, ha]
  have nlen := markCells_len (x := YMark.mk a sk k) ha
  have none' := markCells_one (YMark.mk a sk k)
  refine LoadX.blk (join_hm hd4 hc) (sl s) ho ?_; conv => whnf
  refine LoopX.st T_ok Hval.func38 (σ := Nat × Bool × Sl × List YMark) (fun s0 => [(0, .pointer (some ⟨c, o, none⟩)), (2, sl sk), (4, .pointer (some ⟨m4, 0, none⟩)), (6, sl s0.2.2.1), (7, .bool s0.2.1), (17, sl s), (18, .int .i64 s.2.1), (19, .int .i64 s0.1)])
    (fun s0 h' => s0.1 ≤ s.2.1 ∧ Bld (join (hput hi m4 (bcells a, 31)) hm) h' 21 s0.2.2.1 (s0.2.2.2.map markCells) ∧ InsI YMark.id xs (YMark.mk a sk k) false s0.1 s0.2.1 s0.2.2.2) (fun s0 => s.2.1 - s0.1) (0, false, (none, 0, 0), [])
    ⟨rfl, rfl, rfl, rfl, rfl, rfl, rfl, rfl, trivial⟩ ⟨Nat.zero_le _, Bld.nil (Ext.refl _), InsI.zero⟩ ?_
  rintro ⟨i, laid, so, bz⟩ ρ h' ⟨hi1, B, P⟩ ih
  simp only at hi1 B P ⊢
  conv => whnf
  have hA' := hA.ext (hE4.trans B.ext)
  have hbn := B.len
  simp only [List.length_map] at hbn
  have hbl : bz.length ≤ i + 1 := by have := P.len; split at this <;> omega
  refine CondX.decI (fun hci => ?_) (fun hci => ?_) <;> conv => whnf
  · have hci : i < s.2.1 := by omega
    refine IdxX.arr hA'.arr (by omega) (by omega) (by omega) fun b off e => ?_; conv => whnf
    refine LoadX.elt hA'.arr e i rfl hci ?_; conv => whnf
    rw [getD_map (by omega)]
    have hmem := List.getElem_mem (show i < xs.length by omega)
    have hyo := hA.each _ hmem
    have hqy : YMark.id (xs[i]'(by omega)) ≠ YMark.id (YMark.mk a sk k) := by
      intro e
      rw [hasM, List.any_eq_false] at hw
      have := hw _ hmem
      simp only [YMark.id, Prod.mk.injEq] at e
      simp [e.1, e.2] at this
    generalize hy : xs[i]'(by omega) = y at *
    have yone := markCells_one y
    have ylen := markCells_len hyo.addr
    refine BoxX.mk fun m7 hm7 => ?_; conv => whnf
    refine Ob.mk ⟨by rw [List.size_toArray, ylen]; rfl, yone⟩ ?_; conv => whnf
    refine StoreX.same (by rw [List.toList_toArray, ylen]; decide) ?_; conv => whnf
    rw [setSeg_all (by rw [List.toList_toArray, ylen]; rfl)]
    have B0 := B
    replace B := B.box (x := (markCells y, 190)) hm7
    have hl4' := B0.ext _ _ hl4
    have hne7 : m4 ≠ m7 := by have := hm7 _ _ hl4'; omega
    have hl7 : hput h' m7 (markCells y, 190) m7 = some (markCells y, 190) := hput_same ..
    have hl3 : hput h' m7 (markCells y, 190) m4 = some (bcells a, 31) := by rw [hput_ne hne7]; exact hl4'
    have hE8 := (hE4.trans B0.ext).trans (Ext.bd (x := (markCells y, 190)) hm7)
    cases hlaid : laid with
    | true =>
      subst hlaid
      repeat (first | (refine CondX.tt ?_; conv => whnf) | (refine CondX.ff ?_; conv => whnf))
      refine LoadX.all (c := markCells y) (B.ext _ _ (hput_same ..)) (by rw [ylen]; rfl) ?_; conv => whnf
      have hn9 := B.len
      simp only [List.length_append, List.length_map, List.length_singleton] at hn9
      erw [fillL_box (v := (markCells y)) ylen rfl]; conv => whnf
      refine Ob.mk (by first | decide | omega) ?_; conv => whnf
      refine BoxX.mk fun m8 hm8 => ?_; conv => whnf
      refine AppendX.bld (sz := 21) (bytes := 48) (B.box hm8) (rd_own ylen) ylen rfl yone (by decide) (by omega) fun s8 h8 B8 => ?_; conv => whnf
      replace B8 := B8.weaken (Ext.bd (B.bd hm8))
      refine ih (i + 1, true, s8, bz ++ [y]) _ _ ⟨by dsimp only; omega, ?_, (P).keep (by omega) hy hqy⟩ (by dsimp only; omega) ⟨rfl, rfl, rfl, rfl, rfl, rfl, rfl, congrArg (Value.int .i64) (wsucc (by omega)), trivial⟩
      refine Bld.weaken (Ext.bd (x := (markCells y, 190)) (Bld.bd B0 hm7)) ?_
      first | exact B8 | simpa using B8
    | false =>
      subst hlaid
      repeat (first | (refine CondX.tt ?_; conv => whnf) | (refine CondX.ff ?_; conv => whnf))
      refine LoadX.arr (l := a) (t := 31) hl3 ha ?_; conv => whnf
      repeat (first | (refine CondX.tt ?_; conv => whnf) | (refine CondX.ff ?_; conv => whnf))
      refine LoadX.adr (a := y.addr) (r := [sl y.ks]) hl7 hyo.addr ?_; conv => whnf
      repeat (first | (refine CondX.tt ?_; conv => whnf) | (refine CondX.ff ?_; conv => whnf))
      refine before_ok ha hyo.addr fun t => ?_; conv => whnf
      repeat (first | (refine CondX.tt ?_; conv => whnf) | (refine CondX.ff ?_; conv => whnf))
      cases t with
      | true =>
        repeat (first | (refine CondX.tt ?_; conv => whnf) | (refine CondX.ff ?_; conv => whnf))
        refine LoadX.arr (l := a) (t := 31) hl3 ha ?_; conv => whnf
        erw [fillL_head (n := 20) rfl alen (by decide), fillL_fld (n := 20) (k := 0) (v := sl sk) alen rfl rfl (by decide), fillL_done]
        refine forceL_of (l := markCells (YMark.mk a sk k)) (fok_app fok_bcells (fok_one _)) ?_; conv => whnf
        erw [fillL_box (v := (markCells (YMark.mk a sk k))) nlen rfl]; conv => whnf
        refine Ob.mk (by first | decide | omega) ?_; conv => whnf
        refine BoxX.mk fun m8 hm8 => ?_; conv => whnf
        refine AppendX.bld (sz := 21) (bytes := 48) (B.box hm8) (rd_own nlen) nlen rfl none' (by decide) (by omega) fun s8 h8 B8 => ?_; conv => whnf
        replace B8 := B8.weaken (Ext.bd (B.bd hm8))
        have B7 := B8
        clear hm8
        refine LoadX.all (c := markCells y) (B7.ext _ _ (hput_same ..)) (by rw [ylen]; rfl) ?_; conv => whnf
        have hn9 := B7.len
        simp only [List.length_append, List.length_map, List.length_singleton] at hn9
        erw [fillL_box (v := (markCells y)) ylen rfl]; conv => whnf
        refine Ob.mk (by first | decide | omega) ?_; conv => whnf
        refine BoxX.mk fun m8 hm8 => ?_; conv => whnf
        refine AppendX.bld (sz := 21) (bytes := 48) (B7.box hm8) (rd_own ylen) ylen rfl yone (by decide) (by omega) fun s8 h8 B8 => ?_; conv => whnf
        replace B8 := B8.weaken (Ext.bd (B7.bd hm8))
        refine ih (i + 1, true, s8, (bz ++ [YMark.mk a sk k]) ++ [y]) _ _ ⟨by dsimp only; omega, ?_, ((InsI.ins P)).keep (by omega) hy hqy⟩ (by dsimp only; omega) ⟨rfl, rfl, rfl, rfl, rfl, rfl, rfl, congrArg (Value.int .i64) (wsucc (by omega)), trivial⟩
        refine Bld.weaken (Ext.bd (x := (markCells y, 190)) (Bld.bd B0 hm7)) ?_
        first | exact B8 | simpa using B8
      | false =>
        repeat (first | (refine CondX.tt ?_; conv => whnf) | (refine CondX.ff ?_; conv => whnf))
        refine LoadX.arr (l := a) (t := 31) hl3 ha ?_; conv => whnf
        repeat (first | (refine CondX.tt ?_; conv => whnf) | (refine CondX.ff ?_; conv => whnf))
        refine LoadX.adr (a := y.addr) (r := [sl y.ks]) hl7 hyo.addr ?_; conv => whnf
        repeat (first | (refine CondX.tt ?_; conv => whnf) | (refine CondX.ff ?_; conv => whnf))
        refine Ob.mk ⟨by simp [bcells, ha], by simp [bcells, hyo.addr], by simpa using intCells_bcells a, by simpa using intCells_bcells y.addr⟩ ?_; conv => whnf
        repeat (first | (refine CondX.tt ?_; conv => whnf) | (refine CondX.ff ?_; conv => whnf))
        refine CondX.mk (fun hq => ?_) (fun hq => ?_) <;> conv => whnf
        · repeat (first | (refine CondX.tt ?_; conv => whnf) | (refine CondX.ff ?_; conv => whnf))
          refine LoadX.fld (a := y.addr) (r := [sl y.ks]) hl7 hyo.addr 0 rfl (v := sl y.ks) rfl ?_; conv => whnf
          repeat (first | (refine CondX.tt ?_; conv => whnf) | (refine CondX.ff ?_; conv => whnf))
          refine cmpN (hkey.ext hE8) (hyo.key.ext hE8) ?_; conv => whnf
          repeat (first | (refine CondX.tt ?_; conv => whnf) | (refine CondX.ff ?_; conv => whnf))
          refine CondX.decI (fun hq2 => ?_) (fun hq2 => ?_) <;> conv => whnf
          · refine LoadX.arr (l := a) (t := 31) hl3 ha ?_; conv => whnf
            erw [fillL_head (n := 20) rfl alen (by decide), fillL_fld (n := 20) (k := 0) (v := sl sk) alen rfl rfl (by decide), fillL_done]
            refine forceL_of (l := markCells (YMark.mk a sk k)) (fok_app fok_bcells (fok_one _)) ?_; conv => whnf
            erw [fillL_box (v := (markCells (YMark.mk a sk k))) nlen rfl]; conv => whnf
            refine Ob.mk (by first | decide | omega) ?_; conv => whnf
            refine BoxX.mk fun m8 hm8 => ?_; conv => whnf
            refine AppendX.bld (sz := 21) (bytes := 48) (B.box hm8) (rd_own nlen) nlen rfl none' (by decide) (by omega) fun s8 h8 B8 => ?_; conv => whnf
            replace B8 := B8.weaken (Ext.bd (B.bd hm8))
            have B7 := B8
            clear hm8
            refine LoadX.all (c := markCells y) (B7.ext _ _ (hput_same ..)) (by rw [ylen]; rfl) ?_; conv => whnf
            have hn9 := B7.len
            simp only [List.length_append, List.length_map, List.length_singleton] at hn9
            erw [fillL_box (v := (markCells y)) ylen rfl]; conv => whnf
            refine Ob.mk (by first | decide | omega) ?_; conv => whnf
            refine BoxX.mk fun m8 hm8 => ?_; conv => whnf
            refine AppendX.bld (sz := 21) (bytes := 48) (B7.box hm8) (rd_own ylen) ylen rfl yone (by decide) (by omega) fun s8 h8 B8 => ?_; conv => whnf
            replace B8 := B8.weaken (Ext.bd (B7.bd hm8))
            refine ih (i + 1, true, s8, (bz ++ [YMark.mk a sk k]) ++ [y]) _ _ ⟨by dsimp only; omega, ?_, ((InsI.ins P)).keep (by omega) hy hqy⟩ (by dsimp only; omega) ⟨rfl, rfl, rfl, rfl, rfl, rfl, rfl, congrArg (Value.int .i64) (wsucc (by omega)), trivial⟩
            refine Bld.weaken (Ext.bd (x := (markCells y, 190)) (Bld.bd B0 hm7)) ?_
            first | exact B8 | simpa using B8
          · refine LoadX.all (c := markCells y) (B.ext _ _ (hput_same ..)) (by rw [ylen]; rfl) ?_; conv => whnf
            have hn9 := B.len
            simp only [List.length_append, List.length_map, List.length_singleton] at hn9
            erw [fillL_box (v := (markCells y)) ylen rfl]; conv => whnf
            refine Ob.mk (by first | decide | omega) ?_; conv => whnf
            refine BoxX.mk fun m8 hm8 => ?_; conv => whnf
            refine AppendX.bld (sz := 21) (bytes := 48) (B.box hm8) (rd_own ylen) ylen rfl yone (by decide) (by omega) fun s8 h8 B8 => ?_; conv => whnf
            replace B8 := B8.weaken (Ext.bd (B.bd hm8))
            refine ih (i + 1, false, s8, bz ++ [y]) _ _ ⟨by dsimp only; omega, ?_, (P).keep (by omega) hy hqy⟩ (by dsimp only; omega) ⟨rfl, rfl, rfl, rfl, rfl, rfl, rfl, congrArg (Value.int .i64) (wsucc (by omega)), trivial⟩
            refine Bld.weaken (Ext.bd (x := (markCells y, 190)) (Bld.bd B0 hm7)) ?_
            first | exact B8 | simpa using B8
        · repeat (first | (refine CondX.tt ?_; conv => whnf) | (refine CondX.ff ?_; conv => whnf))
          refine LoadX.all (c := markCells y) (B.ext _ _ (hput_same ..)) (by rw [ylen]; rfl) ?_; conv => whnf
          have hn9 := B.len
          simp only [List.length_append, List.length_map, List.length_singleton] at hn9
          erw [fillL_box (v := (markCells y)) ylen rfl]; conv => whnf
          refine Ob.mk (by first | decide | omega) ?_; conv => whnf
          refine BoxX.mk fun m8 hm8 => ?_; conv => whnf
          refine AppendX.bld (sz := 21) (bytes := 48) (B.box hm8) (rd_own ylen) ylen rfl yone (by decide) (by omega) fun s8 h8 B8 => ?_; conv => whnf
          replace B8 := B8.weaken (Ext.bd (B.bd hm8))
          refine ih (i + 1, false, s8, bz ++ [y]) _ _ ⟨by dsimp only; omega, ?_, (P).keep (by omega) hy hqy⟩ (by dsimp only; omega) ⟨rfl, rfl, rfl, rfl, rfl, rfl, rfl, congrArg (Value.int .i64) (wsucc (by omega)), trivial⟩
          refine Bld.weaken (Ext.bd (x := (markCells y, 190)) (Bld.bd B0 hm7)) ?_
          first | exact B8 | simpa using B8
  · have hci1 : i = s.2.1 := by omega
    cases hlaid : laid with
    | true =>
      subst hlaid
      repeat (first | (refine CondX.tt ?_; conv => whnf) | (refine CondX.ff ?_; conv => whnf))
      obtain ⟨hi', f1, f2, f3, f4⟩ := (show Bld (join (hput hi m4 (bcells a, 31)) hm) _ 21 so (List.map markCells bz) by simpa using B).finish (Ext.refl _) hd4
      refine StoreX.at (f4 _ _ (join_hm f3 hc)) (by simp; exact (List.getElem?_eq_some_iff.1 ho).1) ?_; conv => whnf
      refine RetX.drop (Ext.jput f3 hc f4) (hk hi' so bz (he4.trans f1) (f3.put hc) ⟨f2, fun z hz => ?_⟩ (InsI.fin P (by omega) (by omega)))
      rcases ((InsI.fin P (by omega) (by omega))).mem z hz with rfl | h1
      · exact ⟨ha, hkey.ext (he4.trans f1)⟩
      · exact (hA.each z h1).ext (he4.trans f1)
    | false =>
      subst hlaid
      repeat (first | (refine CondX.tt ?_; conv => whnf) | (refine CondX.ff ?_; conv => whnf))
      refine LoadX.arr (l := a) (t := 31) (B.ext _ _ hl4) ha ?_; conv => whnf
      erw [fillL_head (n := 20) rfl alen (by decide), fillL_fld (n := 20) (k := 0) (v := sl sk) alen rfl rfl (by decide), fillL_done]
      refine forceL_of (l := markCells (YMark.mk a sk k)) (fok_app fok_bcells (fok_one _)) ?_; conv => whnf
      erw [fillL_box (v := (markCells (YMark.mk a sk k))) nlen rfl]; conv => whnf
      refine Ob.mk (by first | decide | omega) ?_; conv => whnf
      refine BoxX.mk fun m8 hm8 => ?_; conv => whnf
      refine AppendX.bld (sz := 21) (bytes := 48) (B.box hm8) (rd_own nlen) nlen rfl none' (by decide) (by omega) fun s8 h8 B8 => ?_; conv => whnf
      replace B8 := B8.weaken (Ext.bd (B.bd hm8))
      obtain ⟨hi', f1, f2, f3, f4⟩ := (show Bld (join (hput hi m4 (bcells a, 31)) hm) _ 21 s8 (List.map markCells (bz ++ [YMark.mk a sk k])) by simpa using B8).finish (Ext.refl _) hd4
      refine StoreX.at (f4 _ _ (join_hm f3 hc)) (by simp; exact (List.getElem?_eq_some_iff.1 ho).1) ?_; conv => whnf
      refine RetX.drop (Ext.jput f3 hc f4) (hk hi' s8 (bz ++ [YMark.mk a sk k]) (he4.trans f1) (f3.put hc) ⟨f2, fun z hz => ?_⟩ (InsI.fin (InsI.ins P) (by omega) (by omega)))
      rcases ((InsI.fin (InsI.ins P) (by omega) (by omega))).mem z hz with rfl | h1
      · exact ⟨ha, hkey.ext (he4.trans f1)⟩
      · exact (hA.each z h1).ext (he4.trans f1)
end
end Go.Proofs.YgvalwGreat.X
