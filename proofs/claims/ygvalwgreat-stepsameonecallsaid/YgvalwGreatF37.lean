import Derived.Test.YgvalwGreatF36
set_option linter.unusedVariables false
set_option linter.unusedSimpArgs false
namespace Go.Proofs.YgvalwGreat.X
open Go

section
variable {hi hm : Hp} {K : Value → Hp → Prop}





set_option maxRecDepth 100000 in
set_option maxHeartbeats 4000000 in
theorem tstore_ok (hd : Dj hi hm) {c o : Nat} {cells : List Value} {t : TypeId} {s sk sv : Sl} {xs : List YTemp} {a : List Int} {k v : Int} (hc : hm c = some (cells, t)) (ho : cells[o + 5]? = some (sl s)) (hA : TempL hi s xs) (ha : a.length = 20) (hkey : NtS hi sk k) (hval : NtS hi sv v) (hr : s.2.1 < 2 ^ 30)
    (hk : ∀ hi' s' ys, Ext hi hi' → Dj hi' (hput hm c (setSeg cells (o + 5) [sl s'], t)) → TempL hi' s' ys → InsR YTemp.id xs (YTemp.mk a sk sv k v) (decide (v = 0)) ys → K (.tuple #[]) (join hi' (hput hm c (setSeg cells (o + 5) [sl s'], t)))) :
    CallX Hval.prog 219 [.pointer (some ⟨c, o, none⟩), .agg (bcells a).toArray, sl sk, sl sv] (join hi hm) K := by
  refine CallX.of_xf T_ok Hval.func219 rfl (by kernel_rfl) (Nat.le_of_ble_eq_true rfl) ?_; conv => whnf
  have hn := hA.n
  refine BoxX.j hd fun m4 hi4 hm4 hd4 he4 => ?_; conv => whnf
  have hl4 : join (hput hi m4 (bcells a, 31)) hm m4 = some (bcells a, 31) := join_l (hput_same ..)
  have hE4 : Ext hi (join (hput hi m4 (bcells a, 31)) hm) := he4.trans (Ext.jl _ _)
  refine isZero_ok (hval.ext hE4) ?_; conv => whnf
  have alen : (bcells a).length = 20 := by rw [bcells_length, ha]
  have nlen := tempCells_len (x := YTemp.mk a sk sv k v) ha
  have none' := tempCells_one (YTemp.mk a sk sv k v)
  refine LoadX.blk (join_hm hd4 hc) (sl s) ho ?_; conv => whnf
  refine LoopX.st T_ok Hval.func219 (σ := Nat × Bool × Sl × List YTemp) (fun s0 => [(0, .pointer (some ⟨c, o, none⟩)), (2, sl sk), (3, sl sv), (5, .pointer (some ⟨m4, 0, none⟩)), (8, sl s0.2.2.1), (9, .bool s0.2.1), (18, sl s), (19, .int .i64 s.2.1), (20, .int .i64 s0.1)])
    (fun s0 h' => s0.1 ≤ s.2.1 ∧ Bld (join (hput hi m4 (bcells a, 31)) hm) h' 22 s0.2.2.1 (s0.2.2.2.map tempCells) ∧ InsI YTemp.id xs (YTemp.mk a sk sv k v) (decide (v = 0)) s0.1 s0.2.1 s0.2.2.2) (fun s0 => s.2.1 - s0.1) (0, decide (v = 0), (none, 0, 0), [])
    ⟨rfl, rfl, rfl, rfl, rfl, rfl, rfl, rfl, rfl, trivial⟩ ⟨Nat.zero_le _, Bld.nil (Ext.refl _), InsI.zero⟩ ?_
  rintro ⟨i, laid, so, bz⟩ ρ h' ⟨hi1, B, P⟩ ih
  simp only at hi1 B P ⊢
  conv => whnf
  have hA' := hA.ext (hE4.trans B.ext)
  have hbn := B.len
  simp only [List.length_map] at hbn
  have hbl : bz.length ≤ i + 1 := by have := P.len; split at this <;> omega
  refine CondX.decI (fun hci => ?_) (fun hci => ?_) <;> conv => whnf
  · have hci : i < s.2.1 := by omega
    refine IdxX.arr hA'.arr (by omega) (by omega) (by omega) fun b off e => ?_; conv => whnf
    refine LoadX.elt hA'.arr e i rfl hci ?_; conv => whnf
    rw [getD_map (by omega)]
    have hyo := hA.each _ (List.getElem_mem (show i < xs.length by omega))
    generalize hy : xs[i]'(by omega) = y at *
    have yone := tempCells_one y
    have ylen := tempCells_len hyo.addr
    refine BoxX.mk fun m7 hm7 => ?_; conv => whnf
    refine Ob.mk ⟨by rw [List.size_toArray, ylen]; rfl, yone⟩ ?_; conv => whnf
    refine StoreX.same (by rw [List.toList_toArray, ylen]; decide) ?_; conv => whnf
    rw [setSeg_all (by rw [List.toList_toArray, ylen]; rfl)]
    have B0 := B
    replace B := B.box (x := (tempCells y, 263)) hm7
    have hl4' := B0.ext _ _ hl4
    have hne7 : m4 ≠ m7 := by have := hm7 _ _ hl4'; omega
    have hl7 : hput h' m7 (tempCells y, 263) m7 = some (tempCells y, 263) := hput_same ..
    have hl3 : hput h' m7 (tempCells y, 263) m4 = some (bcells a, 31) := by rw [hput_ne hne7]; exact hl4'
    have hE8 := (hE4.trans B0.ext).trans (Ext.bd (x := (tempCells y, 263)) hm7)
    refine LoadX.adr (a := y.addr) (r := [sl y.ks, sl y.vs]) hl7 hyo.addr ?_; conv => whnf
    refine LoadX.arr (l := a) (t := 31) hl3 ha ?_; conv => whnf
    refine Ob.mk ⟨by simp [bcells, hyo.addr], by simp [bcells, ha], by simpa using intCells_bcells y.addr, by simpa using intCells_bcells a⟩ ?_; conv => whnf
    refine CondX.mk (fun hq => ?_) (fun hq => ?_) <;> conv => whnf
    · have hqa := of_decide_eq_true (eqAddr hq)
      repeat (first | (refine CondX.tt ?_; conv => whnf) | (refine CondX.ff ?_; conv => whnf))
      refine LoadX.fld (a := y.addr) (r := [sl y.ks, sl y.vs]) hl7 hyo.addr 0 rfl (v := sl y.ks) rfl ?_; conv => whnf
      repeat (first | (refine CondX.tt ?_; conv => whnf) | (refine CondX.ff ?_; conv => whnf))
      refine cmpN (hyo.key.ext hE8) (hkey.ext hE8) ?_; conv => whnf
      repeat (first | (refine CondX.tt ?_; conv => whnf) | (refine CondX.ff ?_; conv => whnf))
      rw [cmp_eq]
      by_cases hqk : y.key = k
      · rw [decide_eq_true hqk]
        repeat (first | (refine CondX.tt ?_; conv => whnf) | (refine CondX.ff ?_; conv => whnf))
        have hqy : YTemp.id y = YTemp.id (YTemp.mk a sk sv k v) := by simp [YTemp.id, hqa, hqk]
        cases hlaid : laid with
        | true =>
          subst hlaid
          repeat (first | (refine CondX.tt ?_; conv => whnf) | (refine CondX.ff ?_; conv => whnf))
          repeat (first | (refine CondX.tt ?_; conv => whnf) | (refine CondX.ff ?_; conv => whnf))
          refine ih (i + 1, true, _, bz) _ _ ⟨by dsimp only; omega, ?_, (P).skip (by omega) hy hqy⟩ (by dsimp only; omega) ⟨rfl, rfl, rfl, rfl, rfl, rfl, rfl, rfl, congrArg (Value.int .i64) (wsucc (by omega)), trivial⟩
          refine Bld.weaken (Ext.bd (x := (tempCells y, 263)) (Bld.bd B0 hm7)) ?_
          first | exact B | simpa using B
        | false =>
          subst hlaid
          repeat (first | (refine CondX.tt ?_; conv => whnf) | (refine CondX.ff ?_; conv => whnf))
          refine LoadX.arr (l := a) (t := 31) hl3 ha ?_; conv => whnf
          erw [fillL_head (n := 20) rfl alen (by decide), fillL_fld (n := 20) (k := 0) (v := sl sk) alen rfl rfl (by decide), fillL_fld (n := 20) (k := 1) (v := sl sv) alen rfl rfl (Nat.le_of_ble_eq_true rfl), fillL_done]
          refine forceL_of (l := tempCells (YTemp.mk a sk sv k v)) (fok_app fok_bcells (fok_two _ _)) ?_; conv => whnf
          erw [fillL_box (v := (tempCells (YTemp.mk a sk sv k v))) nlen rfl]; conv => whnf
          refine Ob.mk (by first | decide | omega) ?_; conv => whnf
          refine BoxX.mk fun m8 hm8 => ?_; conv => whnf
          refine AppendX.bld (sz := 22) (bytes := 72) (B.box hm8) (rd_own nlen) nlen rfl none' (by decide) (by omega) fun s8 h8 B8 => ?_; conv => whnf
          replace B8 := B8.weaken (Ext.bd (B.bd hm8))
          have B7 := B8
          clear hm8
          repeat (first | (refine CondX.tt ?_; conv => whnf) | (refine CondX.ff ?_; conv => whnf))
          refine ih (i + 1, true, _, (bz ++ [YTemp.mk a sk sv k v])) _ _ ⟨by dsimp only; omega, ?_, ((InsI.ins P)).skip (by omega) hy hqy⟩ (by dsimp only; omega) ⟨rfl, rfl, rfl, rfl, rfl, rfl, rfl, rfl, congrArg (Value.int .i64) (wsucc (by omega)), trivial⟩
          refine Bld.weaken (Ext.bd (x := (tempCells y, 263)) (Bld.bd B0 hm7)) ?_
          first | exact B7 | simpa using B7
      · rw [decide_eq_false hqk]
        repeat (first | (refine CondX.tt ?_; conv => whnf) | (refine CondX.ff ?_; conv => whnf))
        have hqy : YTemp.id y ≠ YTemp.id (YTemp.mk a sk sv k v) := by simp [YTemp.id, hqk]
        cases hlaid : laid with
        | true =>
          subst hlaid
          repeat (first | (refine CondX.tt ?_; conv => whnf) | (refine CondX.ff ?_; conv => whnf))
          repeat (first | (refine CondX.tt ?_; conv => whnf) | (refine CondX.ff ?_; conv => whnf))
          refine LoadX.all (c := tempCells y) (B.ext _ _ (hput_same ..)) (by rw [ylen]; rfl) ?_; conv => whnf
          have hn9 := B.len
          simp only [List.length_append, List.length_map, List.length_singleton] at hn9
          erw [fillL_box (v := (tempCells y)) ylen rfl]; conv => whnf
          refine Ob.mk (by first | decide | omega) ?_; conv => whnf
          refine BoxX.mk fun m8 hm8 => ?_; conv => whnf
          refine AppendX.bld (sz := 22) (bytes := 72) (B.box hm8) (rd_own ylen) ylen rfl yone (by decide) (by omega) fun s8 h8 B8 => ?_; conv => whnf
          replace B8 := B8.weaken (Ext.bd (B.bd hm8))
          refine ih (i + 1, true, s8, bz ++ [y]) _ _ ⟨by dsimp only; omega, ?_, (P).keep (by omega) hy hqy⟩ (by dsimp only; omega) ⟨rfl, rfl, rfl, rfl, rfl, rfl, rfl, rfl, congrArg (Value.int .i64) (wsucc (by omega)), trivial⟩
          refine Bld.weaken (Ext.bd (x := (tempCells y, 263)) (Bld.bd B0 hm7)) ?_
          first | exact B8 | simpa using B8
        | false =>
          subst hlaid
          repeat (first | (refine CondX.tt ?_; conv => whnf) | (refine CondX.ff ?_; conv => whnf))
          refine LoadX.arr (l := a) (t := 31) hl3 ha ?_; conv => whnf
          repeat (first | (refine CondX.tt ?_; conv => whnf) | (refine CondX.ff ?_; conv => whnf))
          refine LoadX.adr (a := y.addr) (r := [sl y.ks, sl y.vs]) hl7 hyo.addr ?_; conv => whnf
          repeat (first | (refine CondX.tt ?_; conv => whnf) | (refine CondX.ff ?_; conv => whnf))
          refine before_ok ha hyo.addr fun t => ?_; conv => whnf
          repeat (first | (refine CondX.tt ?_; conv => whnf) | (refine CondX.ff ?_; conv => whnf))
          cases t with
          | true =>
            repeat (first | (refine CondX.tt ?_; conv => whnf) | (refine CondX.ff ?_; conv => whnf))
            refine LoadX.arr (l := a) (t := 31) hl3 ha ?_; conv => whnf
            erw [fillL_head (n := 20) rfl alen (by decide), fillL_fld (n := 20) (k := 0) (v := sl sk) alen rfl rfl (by decide), fillL_fld (n := 20) (k := 1) (v := sl sv) alen rfl rfl (Nat.le_of_ble_eq_true rfl), fillL_done]
            refine forceL_of (l := tempCells (YTemp.mk a sk sv k v)) (fok_app fok_bcells (fok_two _ _)) ?_; conv => whnf
            erw [fillL_box (v := (tempCells (YTemp.mk a sk sv k v))) nlen rfl]; conv => whnf
            refine Ob.mk (by first | decide | omega) ?_; conv => whnf
            refine BoxX.mk fun m8 hm8 => ?_; conv => whnf
            refine AppendX.bld (sz := 22) (bytes := 72) (B.box hm8) (rd_own nlen) nlen rfl none' (by decide) (by omega) fun s8 h8 B8 => ?_; conv => whnf
            replace B8 := B8.weaken (Ext.bd (B.bd hm8))
            have B7 := B8
            clear hm8
            repeat (first | (refine CondX.tt ?_; conv => whnf) | (refine CondX.ff ?_; conv => whnf))
            refine LoadX.all (c := tempCells y) (B7.ext _ _ (hput_same ..)) (by rw [ylen]; rfl) ?_; conv => whnf
            have hn9 := B7.len
            simp only [List.length_append, List.length_map, List.length_singleton] at hn9
            erw [fillL_box (v := (tempCells y)) ylen rfl]; conv => whnf
            refine Ob.mk (by first | decide | omega) ?_; conv => whnf
            refine BoxX.mk fun m8 hm8 => ?_; conv => whnf
            refine AppendX.bld (sz := 22) (bytes := 72) (B7.box hm8) (rd_own ylen) ylen rfl yone (by decide) (by omega) fun s8 h8 B8 => ?_; conv => whnf
            replace B8 := B8.weaken (Ext.bd (B7.bd hm8))
            refine ih (i + 1, true, s8, (bz ++ [YTemp.mk a sk sv k v]) ++ [y]) _ _ ⟨by dsimp only; omega, ?_, ((InsI.ins P)).keep (by omega) hy hqy⟩ (by dsimp only; omega) ⟨rfl, rfl, rfl, rfl, rfl, rfl, rfl, rfl, congrArg (Value.int .i64) (wsucc (by omega)), trivial⟩
            refine Bld.weaken (Ext.bd (x := (tempCells y, 263)) (Bld.bd B0 hm7)) ?_
            first | exact B8 | simpa using B8
          | false =>
            repeat (first | (refine CondX.tt ?_; conv => whnf) | (refine CondX.ff ?_; conv => whnf))
            refine LoadX.arr (l := a) (t := 31) hl3 ha ?_; conv => whnf
            repeat (first | (refine CondX.tt ?_; conv => whnf) | (refine CondX.ff ?_; conv => whnf))
            refine LoadX.adr (a := y.addr) (r := [sl y.ks, sl y.vs]) hl7 hyo.addr ?_; conv => whnf
            repeat (first | (refine CondX.tt ?_; conv => whnf) | (refine CondX.ff ?_; conv => whnf))
            refine Ob.mk ⟨by simp [bcells, ha], by simp [bcells, hyo.addr], by simpa using intCells_bcells a, by simpa using intCells_bcells y.addr⟩ ?_; conv => whnf
            repeat (first | (refine CondX.tt ?_; conv => whnf) | (refine CondX.ff ?_; conv => whnf))
            refine CondX.mk (fun hq => ?_) (fun hq => ?_) <;> conv => whnf
            · repeat (first | (refine CondX.tt ?_; conv => whnf) | (refine CondX.ff ?_; conv => whnf))
              refine LoadX.fld (a := y.addr) (r := [sl y.ks, sl y.vs]) hl7 hyo.addr 0 rfl (v := sl y.ks) rfl ?_; conv => whnf
              repeat (first | (refine CondX.tt ?_; conv => whnf) | (refine CondX.ff ?_; conv => whnf))
              refine cmpN (hkey.ext hE8) (hyo.key.ext hE8) ?_; conv => whnf
              repeat (first | (refine CondX.tt ?_; conv => whnf) | (refine CondX.ff ?_; conv => whnf))
              refine CondX.decI (fun hq2 => ?_) (fun hq2 => ?_) <;> conv => whnf
              · refine LoadX.arr (l := a) (t := 31) hl3 ha ?_; conv => whnf
                erw [fillL_head (n := 20) rfl alen (by decide), fillL_fld (n := 20) (k := 0) (v := sl sk) alen rfl rfl (by decide), fillL_fld (n := 20) (k := 1) (v := sl sv) alen rfl rfl (Nat.le_of_ble_eq_true rfl), fillL_done]
                refine forceL_of (l := tempCells (YTemp.mk a sk sv k v)) (fok_app fok_bcells (fok_two _ _)) ?_; conv => whnf
                erw [fillL_box (v := (tempCells (YTemp.mk a sk sv k v))) nlen rfl]; conv => whnf
                refine Ob.mk (by first | decide | omega) ?_; conv => whnf
                refine BoxX.mk fun m8 hm8 => ?_; conv => whnf
                refine AppendX.bld (sz := 22) (bytes := 72) (B.box hm8) (rd_own nlen) nlen rfl none' (by decide) (by omega) fun s8 h8 B8 => ?_; conv => whnf
                replace B8 := B8.weaken (Ext.bd (B.bd hm8))
                have B7 := B8
                clear hm8
                repeat (first | (refine CondX.tt ?_; conv => whnf) | (refine CondX.ff ?_; conv => whnf))
                refine LoadX.all (c := tempCells y) (B7.ext _ _ (hput_same ..)) (by rw [ylen]; rfl) ?_; conv => whnf
                have hn9 := B7.len
                simp only [List.length_append, List.length_map, List.length_singleton] at hn9
                erw [fillL_box (v := (tempCells y)) ylen rfl]; conv => whnf
                refine Ob.mk (by first | decide | omega) ?_; conv => whnf
                refine BoxX.mk fun m8 hm8 => ?_; conv => whnf
                refine AppendX.bld (sz := 22) (bytes := 72) (B7.box hm8) (rd_own ylen) ylen rfl yone (by decide) (by omega) fun s8 h8 B8 => ?_; conv => whnf
                replace B8 := B8.weaken (Ext.bd (B7.bd hm8))
                refine ih (i + 1, true, s8, (bz ++ [YTemp.mk a sk sv k v]) ++ [y]) _ _ ⟨by dsimp only; omega, ?_, ((InsI.ins P)).keep (by omega) hy hqy⟩ (by dsimp only; omega) ⟨rfl, rfl, rfl, rfl, rfl, rfl, rfl, rfl, congrArg (Value.int .i64) (wsucc (by omega)), trivial⟩
                refine Bld.weaken (Ext.bd (x := (tempCells y, 263)) (Bld.bd B0 hm7)) ?_
                first | exact B8 | simpa using B8
              · repeat (first | (refine CondX.tt ?_; conv => whnf) | (refine CondX.ff ?_; conv => whnf))
                refine LoadX.all (c := tempCells y) (B.ext _ _ (hput_same ..)) (by rw [ylen]; rfl) ?_; conv => whnf
                have hn9 := B.len
                simp only [List.length_append, List.length_map, List.length_singleton] at hn9
                erw [fillL_box (v := (tempCells y)) ylen rfl]; conv => whnf
                refine Ob.mk (by first | decide | omega) ?_; conv => whnf
                refine BoxX.mk fun m8 hm8 => ?_; conv => whnf
                refine AppendX.bld (sz := 22) (bytes := 72) (B.box hm8) (rd_own ylen) ylen rfl yone (by decide) (by omega) fun s8 h8 B8 => ?_; conv => whnf
                replace B8 := B8.weaken (Ext.bd (B.bd hm8))
                refine ih (i + 1, false, s8, bz ++ [y]) _ _ ⟨by dsimp only; omega, ?_, (P).keep (by omega) hy hqy⟩ (by dsimp only; omega) ⟨rfl, rfl, rfl, rfl, rfl, rfl, rfl, rfl, congrArg (Value.int .i64) (wsucc (by omega)), trivial⟩
                refine Bld.weaken (Ext.bd (x := (tempCells y, 263)) (Bld.bd B0 hm7)) ?_
                first | exact B8 | simpa using B8
            · repeat (first | (refine CondX.tt ?_; conv => whnf) | (refine CondX.ff ?_; conv => whnf))
              repeat (first | (refine CondX.tt ?_; conv => whnf) | (refine CondX.ff ?_; conv => whnf))
              refine LoadX.all (c := tempCells y) (B.ext _ _ (hput_same ..)) (by rw [ylen]; rfl) ?_; conv => whnf
              have hn9 := B.len
              simp only [List.length_append, List.length_map, List.length_singleton] at hn9
              erw [fillL_box (v := (tempCells y)) ylen rfl]; conv => whnf
              refine Ob.mk (by first | decide | omega) ?_; conv => whnf
              refine BoxX.mk fun m8 hm8 => ?_; conv => whnf
              refine AppendX.bld (sz := 22) (bytes := 72) (B.box hm8) (rd_own ylen) ylen rfl yone (by decide) (by omega) fun s8 h8 B8 => ?_; conv => whnf
              replace B8 := B8.weaken (Ext.bd (B.bd hm8))
              refine ih (i + 1, false, s8, bz ++ [y]) _ _ ⟨by dsimp only; omega, ?_, (P).keep (by omega) hy hqy⟩ (by dsimp only; omega) ⟨rfl, rfl, rfl, rfl, rfl, rfl, rfl, rfl, congrArg (Value.int .i64) (wsucc (by omega)), trivial⟩
              refine Bld.weaken (Ext.bd (x := (tempCells y, 263)) (Bld.bd B0 hm7)) ?_
              first | exact B8 | simpa using B8
    · have hqa := of_decide_eq_false (eqAddr hq)
      repeat (first | (refine CondX.tt ?_; conv => whnf) | (refine CondX.ff ?_; conv => whnf))
      have hqy : YTemp.id y ≠ YTemp.id (YTemp.mk a sk sv k v) := by simp [YTemp.id, hqa]
      cases hlaid : laid with
      | true =>
        subst hlaid
        repeat (first | (refine CondX.tt ?_; conv => whnf) | (refine CondX.ff ?_; conv => whnf))
        repeat (first | (refine CondX.tt ?_; conv => whnf) | (refine CondX.ff ?_; conv => whnf))
        refine LoadX.all (c := tempCells y) (B.ext _ _ (hput_same ..)) (by rw [ylen]; rfl) ?_; conv => whnf
        have hn9 := B.len
        simp only [List.length_append, List.length_map, List.length_singleton] at hn9
        erw [fillL_box (v := (tempCells y)) ylen rfl]; conv => whnf
        refine Ob.mk (by first | decide | omega) ?_; conv => whnf
        refine BoxX.mk fun m8 hm8 => ?_; conv => whnf
        refine AppendX.bld (sz := 22) (bytes := 72) (B.box hm8) (rd_own ylen) ylen rfl yone (by decide) (by omega) fun s8 h8 B8 => ?_; conv => whnf
        replace B8 := B8.weaken (Ext.bd (B.bd hm8))
        refine ih (i + 1, true, s8, bz ++ [y]) _ _ ⟨by dsimp only; omega, ?_, (P).keep (by omega) hy hqy⟩ (by dsimp only; omega) ⟨rfl, rfl, rfl, rfl, rfl, rfl, rfl, rfl, congrArg (Value.int .i64) (wsucc (by omega)), trivial⟩
        refine Bld.weaken (Ext.bd (x := (tempCells y, 263)) (Bld.bd B0 hm7)) ?_
        first | exact B8 | simpa using B8
      | false =>
        subst hlaid
        repeat (first | (refine CondX.tt ?_; conv => whnf) | (refine CondX.ff ?_; conv => whnf))
        refine LoadX.arr (l := a) (t := 31) hl3 ha ?_; conv => whnf
        repeat (first | (refine CondX.tt ?_; conv => whnf) | (refine CondX.ff ?_; conv => whnf))
        refine LoadX.adr (a := y.addr) (r := [sl y.ks, sl y.vs]) hl7 hyo.addr ?_; conv => whnf
        repeat (first | (refine CondX.tt ?_; conv => whnf) | (refine CondX.ff ?_; conv => whnf))
        refine before_ok ha hyo.addr fun t => ?_; conv => whnf
        repeat (first | (refine CondX.tt ?_; conv => whnf) | (refine CondX.ff ?_; conv => whnf))
        cases t with
        | true =>
          repeat (first | (refine CondX.tt ?_; conv => whnf) | (refine CondX.ff ?_; conv => whnf))
          refine LoadX.arr (l := a) (t := 31) hl3 ha ?_; conv => whnf
          erw [fillL_head (n := 20) rfl alen (by decide), fillL_fld (n := 20) (k := 0) (v := sl sk) alen rfl rfl (by decide), fillL_fld (n := 20) (k := 1) (v := sl sv) alen rfl rfl (Nat.le_of_ble_eq_true rfl), fillL_done]
          refine forceL_of (l := tempCells (YTemp.mk a sk sv k v)) (fok_app fok_bcells (fok_two _ _)) ?_; conv => whnf
          erw [fillL_box (v := (tempCells (YTemp.mk a sk sv k v))) nlen rfl]; conv => whnf
          refine Ob.mk (by first | decide | omega) ?_; conv => whnf
          refine BoxX.mk fun m8 hm8 => ?_; conv => whnf
          refine AppendX.bld (sz := 22) (bytes := 72) (B.box hm8) (rd_own nlen) nlen rfl none' (by decide) (by omega) fun s8 h8 B8 => ?_; conv => whnf
          replace B8 := B8.weaken (Ext.bd (B.bd hm8))
          have B7 := B8
          clear hm8
          repeat (first | (refine CondX.tt ?_; conv => whnf) | (refine CondX.ff ?_; conv => whnf))
          refine LoadX.all (c := tempCells y) (B7.ext _ _ (hput_same ..)) (by rw [ylen]; rfl) ?_; conv => whnf
          have hn9 := B7.len
          simp only [List.length_append, List.length_map, List.length_singleton] at hn9
          erw [fillL_box (v := (tempCells y)) ylen rfl]; conv => whnf
          refine Ob.mk (by first | decide | omega) ?_; conv => whnf
          refine BoxX.mk fun m8 hm8 => ?_; conv => whnf
          refine AppendX.bld (sz := 22) (bytes := 72) (B7.box hm8) (rd_own ylen) ylen rfl yone (by decide) (by omega) fun s8 h8 B8 => ?_; conv => whnf
          replace B8 := B8.weaken (Ext.bd (B7.bd hm8))
          refine ih (i + 1, true, s8, (bz ++ [YTemp.mk a sk sv k v]) ++ [y]) _ _ ⟨by dsimp only; omega, ?_, ((InsI.ins P)).keep (by omega) hy hqy⟩ (by dsimp only; omega) ⟨rfl, rfl, rfl, rfl, rfl, rfl, rfl, rfl, congrArg (Value.int .i64) (wsucc (by omega)), trivial⟩
          refine Bld.weaken (Ext.bd (x := (tempCells y, 263)) (Bld.bd B0 hm7)) ?_
          first | exact B8 | simpa using B8
        | false =>
          repeat (first | (refine CondX.tt ?_; conv => whnf) | (refine CondX.ff ?_; conv => whnf))
          refine LoadX.arr (l := a) (t := 31) hl3 ha ?_; conv => whnf
          repeat (first | (refine CondX.tt ?_; conv => whnf) | (refine CondX.ff ?_; conv => whnf))
          refine LoadX.adr (a := y.addr) (r := [sl y.ks, sl y.vs]) hl7 hyo.addr ?_; conv => whnf
          repeat (first | (refine CondX.tt ?_; conv => whnf) | (refine CondX.ff ?_; conv => whnf))
          refine Ob.mk ⟨by simp [bcells, ha], by simp [bcells, hyo.addr], by simpa using intCells_bcells a, by simpa using intCells_bcells y.addr⟩ ?_; conv => whnf
          repeat (first | (refine CondX.tt ?_; conv => whnf) | (refine CondX.ff ?_; conv => whnf))
          refine CondX.mk (fun hq => ?_) (fun hq => ?_) <;> conv => whnf
          · repeat (first | (refine CondX.tt ?_; conv => whnf) | (refine CondX.ff ?_; conv => whnf))
            refine LoadX.fld (a := y.addr) (r := [sl y.ks, sl y.vs]) hl7 hyo.addr 0 rfl (v := sl y.ks) rfl ?_; conv => whnf
            repeat (first | (refine CondX.tt ?_; conv => whnf) | (refine CondX.ff ?_; conv => whnf))
            refine cmpN (hkey.ext hE8) (hyo.key.ext hE8) ?_; conv => whnf
            repeat (first | (refine CondX.tt ?_; conv => whnf) | (refine CondX.ff ?_; conv => whnf))
            refine CondX.decI (fun hq2 => ?_) (fun hq2 => ?_) <;> conv => whnf
            · refine LoadX.arr (l := a) (t := 31) hl3 ha ?_; conv => whnf
              erw [fillL_head (n := 20) rfl alen (by decide), fillL_fld (n := 20) (k := 0) (v := sl sk) alen rfl rfl (by decide), fillL_fld (n := 20) (k := 1) (v := sl sv) alen rfl rfl (Nat.le_of_ble_eq_true rfl), fillL_done]
              refine forceL_of (l := tempCells (YTemp.mk a sk sv k v)) (fok_app fok_bcells (fok_two _ _)) ?_; conv => whnf
              erw [fillL_box (v := (tempCells (YTemp.mk a sk sv k v))) nlen rfl]; conv => whnf
              refine Ob.mk (by first | decide | omega) ?_; conv => whnf
              refine BoxX.mk fun m8 hm8 => ?_; conv => whnf
              refine AppendX.bld (sz := 22) (bytes := 72) (B.box hm8) (rd_own nlen) nlen rfl none' (by decide) (by omega) fun s8 h8 B8 => ?_; conv => whnf
              replace B8 := B8.weaken (Ext.bd (B.bd hm8))
              have B7 := B8
              clear hm8
              repeat (first | (refine CondX.tt ?_; conv => whnf) | (refine CondX.ff ?_; conv => whnf))
              refine LoadX.all (c := tempCells y) (B7.ext _ _ (hput_same ..)) (by rw [ylen]; rfl) ?_; conv => whnf
              have hn9 := B7.len
              simp only [List.length_append, List.length_map, List.length_singleton] at hn9
              erw [fillL_box (v := (tempCells y)) ylen rfl]; conv => whnf
              refine Ob.mk (by first | decide | omega) ?_; conv => whnf
              refine BoxX.mk fun m8 hm8 => ?_; conv => whnf
              refine AppendX.bld (sz := 22) (bytes := 72) (B7.box hm8) (rd_own ylen) ylen rfl yone (by decide) (by omega) fun s8 h8 B8 => ?_; conv => whnf
              replace B8 := B8.weaken (Ext.bd (B7.bd hm8))
              refine ih (i + 1, true, s8, (bz ++ [YTemp.mk a sk sv k v]) ++ [y]) _ _ ⟨by dsimp only; omega, ?_, ((InsI.ins P)).keep (by omega) hy hqy⟩ (by dsimp only; omega) ⟨rfl, rfl, rfl, rfl, rfl, rfl, rfl, rfl, congrArg (Value.int .i64) (wsucc (by omega)), trivial⟩
              refine Bld.weaken (Ext.bd (x := (tempCells y, 263)) (Bld.bd B0 hm7)) ?_
              first | exact B8 | simpa using B8
            · repeat (first | (refine CondX.tt ?_; conv => whnf) | (refine CondX.ff ?_; conv => whnf))
              refine LoadX.all (c := tempCells y) (B.ext _ _ (hput_same ..)) (by rw [ylen]; rfl) ?_; conv => whnf
              have hn9 := B.len
              simp only [List.length_append, List.length_map, List.length_singleton] at hn9
              erw [fillL_box (v := (tempCells y)) ylen rfl]; conv => whnf
              refine Ob.mk (by first | decide | omega) ?_; conv => whnf
              refine BoxX.mk fun m8 hm8 => ?_; conv => whnf
              refine AppendX.bld (sz := 22) (bytes := 72) (B.box hm8) (rd_own ylen) ylen rfl yone (by decide) (by omega) fun s8 h8 B8 => ?_; conv => whnf
              replace B8 := B8.weaken (Ext.bd (B.bd hm8))
              refine ih (i + 1, false, s8, bz ++ [y]) _ _ ⟨by dsimp only; omega, ?_, (P).keep (by omega) hy hqy⟩ (by dsimp only; omega) ⟨rfl, rfl, rfl, rfl, rfl, rfl, rfl, rfl, congrArg (Value.int .i64) (wsucc (by omega)), trivial⟩
              refine Bld.weaken (Ext.bd (x := (tempCells y, 263)) (Bld.bd B0 hm7)) ?_
              first | exact B8 | simpa using B8
          · repeat (first | (refine CondX.tt ?_; conv => whnf) | (refine CondX.ff ?_; conv => whnf))
            repeat (first | (refine CondX.tt ?_; conv => whnf) | (refine CondX.ff ?_; conv => whnf))
            refine LoadX.all (c := tempCells y) (B.ext _ _ (hput_same ..)) (by rw [ylen]; rfl) ?_; conv => whnf
            have hn9 := B.len
            simp only [List.length_append, List.length_map, List.length_singleton] at hn9
            erw [fillL_box (v := (tempCells y)) ylen rfl]; conv => whnf
            refine Ob.mk (by first | decide | omega) ?_; conv => whnf
            refine BoxX.mk fun m8 hm8 => ?_; conv => whnf
            refine AppendX.bld (sz := 22) (bytes := 72) (B.box hm8) (rd_own ylen) ylen rfl yone (by decide) (by omega) fun s8 h8 B8 => ?_; conv => whnf
            replace B8 := B8.weaken (Ext.bd (B.bd hm8))
            refine ih (i + 1, false, s8, bz ++ [y]) _ _ ⟨by dsimp only; omega, ?_, (P).keep (by omega) hy hqy⟩ (by dsimp only; omega) ⟨rfl, rfl, rfl, rfl, rfl, rfl, rfl, rfl, congrArg (Value.int .i64) (wsucc (by omega)), trivial⟩
            refine Bld.weaken (Ext.bd (x := (tempCells y, 263)) (Bld.bd B0 hm7)) ?_
            first | exact B8 | simpa using B8
  · have hci1 : i = s.2.1 := by omega
    cases hlaid : laid with
    | true =>
      subst hlaid
      repeat (first | (refine CondX.tt ?_; conv => whnf) | (refine CondX.ff ?_; conv => whnf))
      obtain ⟨hi', f1, f2, f3, f4⟩ := (show Bld (join (hput hi m4 (bcells a, 31)) hm) _ 22 so (List.map tempCells bz) by simpa using B).finish (Ext.refl _) hd4
      refine StoreX.at (f4 _ _ (join_hm f3 hc)) (by simp; exact (List.getElem?_eq_some_iff.1 ho).1) ?_; conv => whnf
      refine RetX.drop (Ext.jput f3 hc f4) (hk hi' so bz (he4.trans f1) (f3.put hc) ⟨f2, fun z hz => ?_⟩ (InsI.fin P (by omega) (by omega)))
      rcases ((InsI.fin P (by omega) (by omega))).mem z hz with rfl | h1
      · exact ⟨ha, hkey.ext (he4.trans f1), hval.ext (he4.trans f1)⟩
      · exact (hA.each z h1).ext (he4.trans f1)
    | false =>
      subst hlaid
      repeat (first | (refine CondX.tt ?_; conv => whnf) | (refine CondX.ff ?_; conv => whnf))
      refine LoadX.arr (l := a) (t := 31) (B.ext _ _ hl4) ha ?_; conv => whnf
      erw [fillL_head (n := 20) rfl alen (by decide), fillL_fld (n := 20) (k := 0) (v := sl sk) alen rfl rfl (by decide), fillL_fld (n := 20) (k := 1) (v := sl sv) alen rfl rfl (Nat.le_of_ble_eq_true rfl), fillL_done]
      refine forceL_of (l := tempCells (YTemp.mk a sk sv k v)) (fok_app fok_bcells (fok_two _ _)) ?_; conv => whnf
      erw [fillL_box (v := (tempCells (YTemp.mk a sk sv k v))) nlen rfl]; conv => whnf
      refine Ob.mk (by first | decide | omega) ?_; conv => whnf
      refine BoxX.mk fun m8 hm8 => ?_; conv => whnf
      refine AppendX.bld (sz := 22) (bytes := 72) (B.box hm8) (rd_own nlen) nlen rfl none' (by decide) (by omega) fun s8 h8 B8 => ?_; conv => whnf
      replace B8 := B8.weaken (Ext.bd (B.bd hm8))
      obtain ⟨hi', f1, f2, f3, f4⟩ := (show Bld (join (hput hi m4 (bcells a, 31)) hm) _ 22 s8 (List.map tempCells (bz ++ [YTemp.mk a sk sv k v])) by simpa using B8).finish (Ext.refl _) hd4
      refine StoreX.at (f4 _ _ (join_hm f3 hc)) (by simp; exact (List.getElem?_eq_some_iff.1 ho).1) ?_; conv => whnf
      refine RetX.drop (Ext.jput f3 hc f4) (hk hi' s8 (bz ++ [YTemp.mk a sk sv k v]) (he4.trans f1) (f3.put hc) ⟨f2, fun z hz => ?_⟩ (InsI.fin (InsI.ins P) (by omega) (by omega)))
      rcases ((InsI.fin (InsI.ins P) (by omega) (by omega))).mem z hz with rfl | h1
      · exact ⟨ha, hkey.ext (he4.trans f1), hval.ext (he4.trans f1)⟩
      · exact (hA.each z h1).ext (he4.trans f1)
end
end Go.Proofs.YgvalwGreat.X
