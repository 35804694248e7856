import Derived.Test.YgvalwGreatF38
set_option linter.unusedVariables false
set_option linter.unusedSimpArgs false
namespace Go.Proofs.YgvalwGreat.X
open Go

theorem join_empty (h : Hp) : join h (fun _ => none) = h := by
  funext b; unfold join; cases h b <;> rfl
theorem Dj_empty (h : Hp) : Dj h (fun _ => none) := fun _ => .inr rfl
theorem Ext.thaw {hi hm : Hp} {m : Nat} {x} (hin : hi m = none) (hb : hm m = some x) : Ext (hput hi m x) (join hi hm) := fun b z hb' => by
  by_cases hbm : b = m
  · subst hbm; rw [hput_same] at hb'; rw [join_r hin, hb]; exact hb'
  · rw [hput_ne hbm] at hb'; exact join_l hb'
theorem fillArr {sz : Nat} {z v : List Value} {E : List (List Value)} {k : Nat} (hE : ∀ e ∈ E, e.length = sz) (hz : z.length = sz) (hv : v.length = sz) : setSeg (E.flatten ++ zeros z (k + 1)) (E.length * sz) v = (E ++ [v]).flatten ++ zeros z k := by
  have hl := flat_len hE
  have ez : zeros z (k + 1) = z ++ zeros z k := by simp [zeros, List.replicate_succ]
  rw [← hl, ez]
  simp only [setSeg, List.take_left, List.flatten_append, List.flatten_cons, List.flatten_nil, List.append_nil]
  rw [hv, ← hz, ← List.drop_drop, List.drop_left, List.drop_left]

structure YLog where
  addr : List Int
  ts : Sl
  ds : Sl
  tp : List (List Value)
  data : List Int
def logCells (x : YLog) : List Value := bcells x.addr ++ [sl x.ts, sl x.ds]
structure YLog.ok (h : Hp) (x : YLog) : Prop where
  addr : x.addr.length = 20
  tp : Arr h x.ts 32 x.tp
  data : BytS h x.ds x.data
  room : x.ts.2.1 < 2 ^ 30
theorem YLog.ok.ext {h h' : Hp} (he : Ext h h') {x : YLog} (a : x.ok h) : x.ok h' := ⟨a.addr, a.tp.ext he, a.data.ext he, a.room⟩
structure LogL (h : Hp) (s : Sl) (xs : List YLog) : Prop where
  arr : Arr h s 22 (xs.map logCells)
  each : ∀ x ∈ xs, x.ok h
theorem LogL.ext {h h' : Hp} (he : Ext h h') {s xs} (a : LogL h s xs) : LogL h' s xs := ⟨a.arr.ext he, fun x hx => (a.each x hx).ext he⟩
theorem LogL.n {h : Hp} {s : Sl} {xs} (a : LogL h s xs) : xs.length = s.2.1 := by have := a.arr.len; simpa using this
theorem logCells_len {x : YLog} (hx : x.addr.length = 20) : (logCells x).length = 22 := by simp [logCells, bcells, hx]
theorem logCells_one (x : YLog) : ones (logCells x) = true := ones_append (ones_bcells _) rfl

theorem Ext.j2 {hi hi' hm hm' : Hp} (he : Ext hi hi') (hd : Dj hi' hm') (hem : Ext hm hm') : Ext (join hi hm) (join hi' hm') := fun b x hb => by
  cases hx : hi b with
  | some y => rw [join_l hx] at hb; rw [join_l (he _ _ hx)]; exact hb
  | none => rw [join_r hx] at hb; exact join_hm hd (hem _ _ hb)
theorem Ext.jmono0 {hi hm hm' : Hp} (he : Ext hm' hm) : Ext (join hi hm') (join hi hm) := fun b x hb => by
  unfold join at hb ⊢
  split
  · rename_i q; rw [q] at hb; exact hb
  · rename_i q; rw [q] at hb; exact he _ _ hb
theorem Dj.mono0 {hi hm hm' : Hp} (hd : Dj hi hm) (he : Ext hm' hm) : Dj hi hm' := fun b => by
  rcases hd b with h1 | h1
  · exact .inl h1
  · refine .inr ?_
    cases hx : hm' b with
    | none => rfl
    | some x => rw [he _ _ hx] at h1; cases h1
theorem Ext.freeze0 {hi hm : Hp} {m : Nat} {x} (hin : hi m = none) : Ext (join (hput hi m x) hm) (join hi (hput hm m x)) := fun b z hb => by
  by_cases hbm : b = m
  · subst hbm; rw [join_l (hput_same ..)] at hb; rw [join_r hin, hput_same]; exact hb
  · unfold join at hb ⊢
    rw [hput_ne hbm] at hb ⊢; exact hb
section
variable {h : Hp} {K : Value → Hp → Prop}
theorem ldV_adr {b : Nat} {a : List Int} {r : List Value} {t : TypeId} (hb : h b = some (bcells a ++ r, t)) (ha : a.length = 20) : ldV true 20 h b 0 = some (.agg (bcells a).toArray) := by
  obtain ⟨v, h1, h2⟩ := (LoadX.adr hb ha (KK := fun v => v = .agg (bcells a).toArray) rfl).run
  rw [h1, h2]
theorem ldV_fld {b o sz : Nat} {a : List Int} {r : List Value} {t : TypeId} {v : Value} (hb : h b = some (bcells a ++ r, t)) (ha : a.length = 20) (k : Nat) (ho : o = 20 + k) (hv : r[k]? = some v) : ldV false sz h b o = some v := by
  obtain ⟨w, h1, h2⟩ := (LoadX.fld (sz := sz) hb ha k ho hv (KK := fun w => w = v) rfl).run
  rw [h1, h2]
theorem ldV_blk {b o sz : Nat} {c : List Value} {t : TypeId} {v : Value} (hb : h b = some (c, t)) (hv : c[o]? = some v) : ldV false sz h b o = some v := by simp [ldV, hb, hv]
end
section
variable {h hm : Hp} {K : Value → Hp → Prop}
set_option maxRecDepth 100000 in
set_option maxHeartbeats 4000000 in
theorem logsOf_ok (hd0 : Dj h hm) {s : Sl} {xs : List YLog} (hA : Arr (join h hm) s 22 (xs.map logCells)) (hX : ∀ x ∈ xs, x.ok h) (hr : s.2.1 < 2 ^ 30)
    (hk : ∀ s' ys h', Ext h h' → Dj h' hm → LogL h' s' ys → ys.length = xs.length → s'.2.2 = s'.2.1 → K (sl s') (join h' hm)) : CallX Hval.prog 174 [sl s] (join h hm) K := by
  refine CallX.of_xf T_ok Hval.func174 rfl (by kernel_rfl) (Nat.le_of_ble_eq_true rfl) ?_; conv => whnf
  have hn : xs.length = s.2.1 := by have := hA.len; simpa using this
  refine CondX.mk (fun hnil => ?_) (fun hnil => ?_) <;> conv => whnf
  · have hnil : s.1 = none := by cases hx : s.1 with | none => rfl | some a => rw [hx] at hnil; cases hnil
    have h0 := hA.nil hnil
    have h1 := hA.le
    have : xs = [] := List.eq_nil_of_length_eq_zero (by omega)
    subst this
    exact RetX.same (hk (none, 0, 0) [] _ (Ext.refl _) hd0 ⟨Arr_nil h 22, fun x hx => by cases hx⟩ rfl rfl)
  refine MakeX.jm hd0 s.2.1 rfl rfl (by decide) (show ((s.2.1 : Nat) : Int) * 72 ≤ 2 ^ 47 by omega) fun mA hiA hmA hdA => ?_; conv => whnf
  refine LoopX.st T_ok Hval.func174 (σ := List YLog × Hp) (fun s0 => [(3, .slice (some ⟨mA, 0, none⟩) s.2.1 s.2.1), (11, sl s), (12, .int .i64 s.2.1), (13, .int .i64 s0.1.length)])
    (fun s0 h' => h' = join s0.2 (hput hm mA ((s0.1.map logCells).flatten ++ zeros z286 (s.2.1 - s0.1.length), 286)) ∧ s0.1.length ≤ s.2.1 ∧ Ext h s0.2 ∧ Dj s0.2 (hput hm mA ((s0.1.map logCells).flatten ++ zeros z286 (s.2.1 - s0.1.length), 286)) ∧ ∀ y ∈ s0.1, y.ok s0.2) (fun s0 => s.2.1 - s0.1.length) ([], h)
    ⟨?_, rfl, rfl, rfl, trivial⟩ ⟨rfl, Nat.zero_le _, Ext.refl _, hdA, fun y hy => by cases hy⟩ ?_
  · show Value.slice _ ((s.2.1 : Nat) : Int).toNat ((s.2.1 : Nat) : Int).toNat = _
    rw [Int.toNat_natCast]
  rintro ⟨bz, hi⟩ ρ h' ⟨rfl, hbl, hex, hd, hok⟩ ih
  simp only at hbl hex hd hok ⊢
  have hin : hi mA = none := by
    rcases hd mA with h1 | h1
    · exact h1
    · rw [hput_same] at h1; cases h1
  conv => whnf
  refine CondX.decI (fun hci => ?_) (fun hci => ?_) <;> conv => whnf
  · have hci : bz.length < s.2.1 := by omega
    have hAj : Arr (join hi (hput hm mA ((bz.map logCells).flatten ++ zeros z286 (s.2.1 - bz.length), 286))) s 22 (xs.map logCells) := hA.ext (Ext.j2 hex hd (Ext.new hmA))
    refine IdxX.arr hAj (by omega) (by omega) (by omega) fun b off e => ?_; conv => whnf
    refine LoadX.elt hAj e bz.length rfl hci ?_; conv => whnf
    rw [getD_map (by omega)]
    have hyo := (hX _ (List.getElem_mem (show bz.length < xs.length by omega))).ext hex
    generalize hy : xs[bz.length]'(by omega) = y at *
    have ylen := logCells_len hyo.addr
    have yone := logCells_one y
    refine BoxX.jm hd fun m5 hi5 hm5 hd5 => ?_; conv => whnf
    refine Ob.mk ⟨by rw [List.size_toArray, ylen]; rfl, yone⟩ ?_; conv => whnf
    refine StoreX.jm hd5 (hput_same ..) (by rw [List.toList_toArray, ylen]; decide) ?_; conv => whnf
    rw [setSeg_all (by rw [List.toList_toArray, ylen]; rfl), hput_hput]
    have hd5 := hd.newm (x := (logCells y, 286)) hi5
    have hl5 : join hi (hput (hput hm mA ((bz.map logCells).flatten ++ zeros z286 (s.2.1 - bz.length), 286)) m5 (logCells y, 286)) m5 = some (logCells y, 286) := join_hm hd5 (hput_same ..)
    have hneA : m5 ≠ mA := by rintro rfl; rw [hput_same] at hm5; cases hm5
    generalize hHM : hput hm mA ((bz.map logCells).flatten ++ zeros z286 (s.2.1 - bz.length), 286) = HM at *
    have hHMA : HM mA = some ((bz.map logCells).flatten ++ zeros z286 (s.2.1 - bz.length), 286) := by rw [← hHM]; exact hput_same ..
    refine DrawX.go T_ok hM Hval.func174 (tb := dr174) rfl (by kernel_rfl) ?_; conv => whnf
    refine LoadX.adr (a := y.addr) (r := [sl y.ts, sl y.ds]) hl5 hyo.addr ?_; conv => whnf
    refine LoadX.fld (a := y.addr) (r := [sl y.ts, sl y.ds]) hl5 hyo.addr 0 rfl (v := sl y.ts) rfl ?_; conv => whnf
    refine LoadX.fld (a := y.addr) (r := [sl y.ts, sl y.ds]) hl5 hyo.addr 1 rfl (v := sl y.ds) rfl ?_; conv => whnf
    refine CallX.fj hd5 (wordsOf_ok hyo.tp hyo.room fun s1 hi1 f1 g1 hd1 => ?_); conv => whnf
    have hl6 := join_hm hd1 (hput_same HM m5 (logCells y, 286))
    refine Ob.mk (ldV_fld (a := y.addr) (r := [sl y.ts, sl y.ds]) hl6 hyo.addr 1 rfl rfl) ?_; conv => whnf
    refine Ob.mk (ldV_adr (a := y.addr) (r := [sl y.ts, sl y.ds]) hl6 hyo.addr) ?_; conv => whnf
    refine CallX.fj hd1 (bytesOf_any (hyo.data.ext f1) fun b c hi2 f2 g2 hd2 => ?_); conv => whnf
    have hl7 := join_hm hd2 (hput_same HM m5 (logCells y, 286))
    refine Ob.mk (ldV_adr (a := y.addr) (r := [sl y.ts, sl y.ds]) hl7 hyo.addr) ?_; conv => whnf
    have alen : (bcells y.addr).length = 20 := by rw [bcells_length, hyo.addr]
    let y2 : YLog := ⟨y.addr, s1, (b, y.ds.2.1, c), y.tp, y.data⟩
    have y2ok : y2.ok hi2 := ⟨hyo.addr, g1.ext f2, g2, by have := g1.len; have h2 := hyo.tp.len; have := hyo.room; show s1.2.1 < _; omega⟩
    have y2len := logCells_len (x := y2) hyo.addr
    erw [fillL_head (n := 20) rfl alen (by decide), fillL_fld (n := 20) (k := 0) (v := sl s1) alen rfl rfl (by decide), fillL_fld (n := 20) (k := 1) (v := sl (b, y.ds.2.1, c)) alen rfl rfl (Nat.le_of_ble_eq_true rfl), fillL_done]
    refine forceL_of (l := logCells y2) (fok_app fok_bcells (fok_two _ _)) ?_; conv => whnf
    refine IdxX.at (by omega) (by omega) ?_; conv => whnf
    refine Ob.mk ⟨by rw [List.size_toArray, y2len]; rfl, logCells_one y2⟩ ?_; conv => whnf
    have hmA5 : hput HM m5 (logCells y, 286) mA = some ((bz.map logCells).flatten ++ zeros z286 (s.2.1 - bz.length), 286) := by rw [hput_ne hneA.symm]; exact hHMA
    have szs : ∀ e ∈ bz.map logCells, e.length = 22 := fun e he => by
      obtain ⟨q, hq, rfl⟩ := List.mem_map.1 he
      exact logCells_len (hok q hq).addr
    have hfl := flat_len szs
    have hml : (bz.map logCells).length = bz.length := List.length_map ..
    have hseg : setSeg ((bz.map logCells).flatten ++ zeros z286 (s.2.1 - bz.length)) (0 + ((bz.length : Nat) : Int).toNat * 22) (logCells y2) = ((bz ++ [y2]).map logCells).flatten ++ zeros z286 (s.2.1 - (bz ++ [y2]).length) := by
      obtain ⟨k, hk2⟩ : ∃ k, s.2.1 - bz.length = k + 1 := ⟨s.2.1 - bz.length - 1, by omega⟩
      have e := fillArr (z := z286) (v := logCells y2) (k := k) szs rfl y2len
      rw [hml] at e
      rw [hk2, Int.toNat_natCast, Nat.zero_add, e]
      have : s.2.1 - (bz ++ [y2]).length = k := by simp; omega
      rw [this]; simp
    refine StoreX.jm hd2 hmA5 ?_ ?_
    · show 0 + ((bz.length : Nat) : Int).toNat * 22 + (logCells y2).length ≤ _
      rw [y2len, Int.toNat_natCast]
      have : (bz.length + 1) * 22 ≤ s.2.1 * 22 := Nat.mul_le_mul_right _ hci
      simp only [List.length_append, hfl, zeros_len, hml]
      have e : z286.length = 22 := rfl
      rw [e]; omega
    conv => whnf
    erw [hseg]
    refine LoopX.drop (h0 := join hi2 (hput hm mA (((bz ++ [y2]).map logCells).flatten ++ zeros z286 (s.2.1 - (bz ++ [y2]).length), 286))) ?_
      (ih (bz ++ [y2], hi2) _ _ ⟨rfl, by simp; omega, (hex.trans f1).trans f2, ?_, fun q hq => ?_⟩ (by simp; omega) ⟨rfl, rfl, rfl, ?_, trivial⟩)
    · refine Ext.jmono0 ?_
      rw [← hHM, hput_comm hneA.symm, hput_hput]
      exact Ext.new (by rw [hput_ne hneA]; rw [← hHM, hput_ne hneA] at hm5; exact hm5)
    · have := hd2.put (y := (((bz ++ [y2]).map logCells).flatten ++ zeros z286 (s.2.1 - (bz ++ [y2]).length), 286)) hmA5
      refine Dj.mono0 this ?_
      rw [← hHM, hput_comm hneA.symm, hput_hput]
      exact Ext.new (by rw [hput_ne hneA]; rw [← hHM, hput_ne hneA] at hm5; exact hm5)
    · rcases List.mem_append.1 hq with h1 | h1
      · exact ((hok q h1).ext f1).ext f2
      · rw [List.mem_singleton.1 h1]; exact y2ok
    · have : (bz ++ [y2]).length = bz.length + 1 := by simp
      rw [this]
      exact congrArg (Value.int .i64) (wsucc (by omega))
  · have hbe : bz.length = s.2.1 := by omega
    have szs : ∀ e ∈ bz.map logCells, e.length = 22 := fun e he => by
      obtain ⟨q, hq, rfl⟩ := List.mem_map.1 he
      exact logCells_len (hok q hq).addr
    have hz0 : s.2.1 - bz.length = 0 := by omega
    rw [hz0]
    have ez : zeros z286 0 = [] := rfl
    rw [ez, List.append_nil]
    have hdE : Dj (hput hi mA ((bz.map logCells).flatten, 286)) hm := fun b => by
      by_cases hb : b = mA
      · subst hb; exact .inr hmA
      · have := hd b
        rw [hput_ne hb] at this ⊢; exact this
    refine RetX.drop (h' := join (hput hi mA ((bz.map logCells).flatten, 286)) hm) (Ext.freeze0 hin) (hk _ bz _ (hex.trans (Ext.new hin)) hdE ⟨Arr.own (n := s.2.1) (by simp; omega) szs (fun e he => ?_) (hput_same ..), fun q hq => (hok q hq).ext (Ext.new hin)⟩ (by omega) rfl)
    obtain ⟨q, hq, rfl⟩ := List.mem_map.1 he
    exact logCells_one q
end
end Go.Proofs.YgvalwGreat.X
