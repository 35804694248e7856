import Derived.Test.YgvalwGreatF34
set_option linter.unusedVariables false
set_option linter.unusedSimpArgs false
namespace Go.Proofs.YgvalwGreat.X
open Go

section
variable {hi hm : Hp} {K : Value → Hp → Prop}

theorem CallX.drop {P : Program} {f : FuncId} {args : List Value} {h0 h : Hp} {K : Value → Hp → Prop} (he : Ext h0 h) (hc : CallX P f args h0 K) : CallX P f args h K := by
  have hn : ∀ b, h b = none → h0 b = none := fun b hb => by
    cases hx : h0 b with
    | none => rfl
    | some x => rw [he _ _ hx] at hb; cases hb
  have hF : ∀ {w w' : World} {h' : Hp}, Fr h0 w h' w' → Fr h w h' w' := fun f => ⟨f.size, fun b hb h1 => f.keep b hb (hn b h1), fun b h1 h2 => f.new b (hn b h1) h2, f.os, f.out⟩
  refine ⟨fun w hs => ?_⟩
  have := hc.run w (hs.weaken he)
  generalize (callFunc f args.toArray).run P w = r at this ⊢
  split at this
  · obtain ⟨e1, e2⟩ := this
    refine ⟨e1, Calls.mono e2 fun e w' hr => ?_⟩
    obtain ⟨v, h', e3, e4, e5, e6⟩ := hr
    exact ⟨v, h', e3, e4, e5, hF e6⟩
  · obtain ⟨h', e4, e5, e6⟩ := this
    exact ⟨h', e4, e5, hF e6⟩
  · exact this
theorem Dj.put_l {hi hm : Hp} (hd : Dj hi hm) {c : Nat} {x y} (hc : hi c = some x) : Dj (hput hi c y) hm := fun b => by
  by_cases hb : b = c
  · subst hb
    rcases hd b with h1 | h1
    · rw [hc] at h1; cases h1
    · exact .inr h1
  · rw [hput_ne hb]; exact hd b
theorem Bld.finish' {hi hm h0 h' : Hp} {sz : Nat} {s : Sl} {es} (b : Bld h0 h' sz s es) (he : Ext (join hi hm) h0) (hd : Dj hi hm) :
    ∃ hi', Ext hi hi' ∧ (∀ h2 : Hp, (∀ c z, hi' c = some z → join hi hm c = none → h2 c = some z) → Arr h2 s sz es) ∧ Dj hi' hm ∧ Ext (join hi' hm) h' := by
  rcases b.blk with ⟨h1, h2, h3⟩ | ⟨m, pad, t, h1, h2, h3, h4, h5⟩
  · refine ⟨hi, Ext.refl _, fun h2' _ => ?_, hd, he.trans b.ext⟩
    have hl := b.len
    obtain ⟨s1, s2, s3⟩ := s
    simp only at h1 h2 hl
    subst h1 h2 h3
    simp at hl; subst hl
    exact Arr_nil _ sz
  · have hjn : join hi hm m = none := by
      cases hx : join hi hm m with
      | none => rfl
      | some x => rw [he _ _ hx] at h2; cases h2
    have hin : hi m = none := by
      cases hx : hi m with
      | none => rfl
      | some x => rw [join_l hx] at hjn; cases hjn
    have hmn : hm m = none := by rw [join_r hin] at hjn; exact hjn
    refine ⟨hput hi m (es.flatten ++ pad, t), Ext.new hin, fun h2' hh => ?_, fun c => ?_, fun c x hx => ?_⟩
    · have B' : Bld (fun _ => none) h2' sz s es := ⟨fun b x hb => (by cases hb), b.szs, b.one, b.len, .inr ⟨m, pad, t, h1, rfl, hh _ _ (hput_same ..) hjn, h4, h5⟩⟩
      exact B'.arr
    · by_cases hc : c = m
      · subst hc; exact .inr hmn
      · rw [hput_ne hc]; exact hd c
    · by_cases hc : c = m
      · subst hc; rw [join_l (hput_same ..)] at hx; rw [h3]; exact hx
      · refine (he.trans b.ext) _ _ ?_
        unfold join at hx ⊢
        rw [hput_ne hc] at hx
        exact hx
theorem slotCells_len (x : YSlot) : (slotCells x).length = 2 := rfl
theorem slotCells_one (x : YSlot) : ones (slotCells x) = true := rfl
def withSlots (x : YAcct) (s : Sl) (n : List YSlot) : YAcct := { x with ss := s, slots := n }
theorem withSlots_cells {x : YAcct} {s : Sl} {n : List YSlot} (hx : x.addr.length = 20) : setSeg (acCells x) 23 [sl s] = acCells (withSlots x s n) := by
  have e : (bcells x.addr).length = 20 := by rw [bcells_length, hx]
  have e2 : ∀ r : List Value, (bcells x.addr ++ r).take 23 = bcells x.addr ++ r.take 3 := fun r => by rw [show 23 = 20 + 3 by rfl, ← e]; exact List.take_length_add_append 3
  have e3 : ∀ (r : List Value), (bcells x.addr ++ r).drop 24 = r.drop 4 := fun r => by rw [show 24 = 20 + 4 by rfl, ← e, ← List.drop_drop, List.drop_left]
  simp [setSeg, acCells, e2, e3, acRest, withSlots]




set_option maxRecDepth 100000 in
set_option maxHeartbeats 4000000 in
theorem store_ok (hd : Dj hi hm) {c o : Nat} {cells : List Value} {t : TypeId} {s sk sv : Sl} {xs : List YAcct} {a : List Int} {k v : Int} (hc : hm c = some (cells, t)) (ho : cells[o]? = some (sl s)) (hA : AccL hi s xs) (ha : a.length = 20)
    (hkey : NtS hi sk k) (hval : NtS hi sv v) (hr : s.2.1 < 2 ^ 30) (hr2 : ∀ x ∈ xs, x.ss.2.1 < 2 ^ 30)
    (hk : ∀ hi' s' ys SS YS, Ext hi hi' → Dj hi' (hput hm c (setSeg cells o [sl s'], t)) → AccL hi' s' ys → InsR YSlot.key (getA xs a).slots (YSlot.mk sk sv k v) (decide (v = 0)) YS →
      PutR xs (withSlots (getA xs a) SS YS) (lone (withSlots (getA xs a) SS YS)) ys → K (.tuple #[]) (join hi' (hput hm c (setSeg cells o [sl s'], t)))) :
    CallX Hval.prog 322 [.pointer (some ⟨c, o, none⟩), .agg (bcells a).toArray, sl sk, sl sv] (join hi hm) K := by
  refine CallX.of_xf T_ok Hval.func322 rfl (by kernel_rfl) (Nat.le_of_ble_eq_true rfl) ?_; conv => whnf
  refine BoxX.j hd fun m4 hi4 hm4 hd4 he4 => ?_; conv => whnf
  refine LoadX.arr (l := a) (t := 31) (join_l (hput_same ..)) ha ?_; conv => whnf
  have hA4 := hA.ext he4
  refine account_ok (xs := xs) (join_hm hd4 hc) ho (hA4.arr.ext (Ext.jl _ _)) (fun x hx => (hA.each x hx).addr) ha (by omega) ?_; conv => whnf
  have hx := getA_ok hA.each ha
  have hxr : (getA xs a).ss.2.1 < 2 ^ 30 := by
    unfold getA
    cases hf : xs.find? fun x => x.addr = a with
    | none => exact (by decide : 0 < 2 ^ 30)
    | some x => exact hr2 x (List.mem_of_find?_eq_some hf)
  generalize hxe : getA xs a = x at *
  have xlen := acCells_len hx.addr
  have xone := acCells_one x
  have hn : x.slots.length = x.ss.2.1 := by have := hx.slots.len; simpa using this
  refine BoxX.j hd4 fun m6 hi6 hm6 hd6 he6' => ?_; conv => whnf
  refine Ob.mk ⟨by rw [List.size_toArray, xlen]; rfl, xone⟩ ?_; conv => whnf
  refine StoreX.j (by rw [List.toList_toArray, xlen]; decide) ?_; conv => whnf
  rw [setSeg_all (by rw [List.toList_toArray, xlen]; rfl)]
  have hd7 : Dj (hput (hput hi m4 (bcells a, 31)) m6 (acCells x, 118)) hm := hd6.hp
  have he6 : Ext (hput hi m4 (bcells a, 31)) (hput (hput hi m4 (bcells a, 31)) m6 (acCells x, 118)) := Ext.new hi6
  have hE7 : Ext hi (join (hput (hput hi m4 (bcells a, 31)) m6 (acCells x, 118)) hm) := (he4.trans he6).trans (Ext.jl _ _)
  have hl6 : join (hput (hput hi m4 (bcells a, 31)) m6 (acCells x, 118)) hm m6 = some (acCells x, 118) := join_l (hput_same ..)
  refine isZero_ok (hval.ext hE7) ?_; conv => whnf
  refine LoadX.fld hl6 hx.addr 3 rfl (v := sl x.ss) rfl ?_; conv => whnf
  refine LoopX.st T_ok Hval.func322 (σ := Nat × Bool × Sl × List YSlot) (fun s0 => [(0, .pointer (some ⟨c, o, none⟩)), (2, sl sk), (3, sl sv), (8, .pointer (some ⟨m6, 0, none⟩)), (9, sl s0.2.2.1), (10, .bool s0.2.1), (20, sl x.ss), (21, .int .i64 x.ss.2.1), (22, .int .i64 s0.1)])
    (fun s0 h' => s0.1 ≤ x.ss.2.1 ∧ Bld (join (hput (hput hi m4 (bcells a, 31)) m6 (acCells x, 118)) hm) h' 2 s0.2.2.1 (s0.2.2.2.map slotCells) ∧ InsI YSlot.key x.slots (YSlot.mk sk sv k v) (decide (v = 0)) s0.1 s0.2.1 s0.2.2.2) (fun s0 => x.ss.2.1 - s0.1) (0, decide (v = 0), (none, 0, 0), [])
    ⟨rfl, rfl, rfl, rfl, rfl, rfl, rfl, rfl, rfl, trivial⟩ ⟨Nat.zero_le _, Bld.nil (Ext.refl _), InsI.zero⟩ ?_
  rintro ⟨i, laid, so, bz⟩ ρ h' ⟨hi1, B, P⟩ ih
  simp only at hi1 B P ⊢
  conv => whnf
  have hS' := hx.slots.ext (hE7.trans B.ext)
  have hbn := B.len
  simp only [List.length_map] at hbn
  have hbl : bz.length ≤ i + 1 := by have := P.len; split at this <;> omega
  refine CondX.decI (fun hci => ?_) (fun hci => ?_) <;> conv => whnf
  · have hci : i < x.ss.2.1 := by omega
    refine IdxX.arr hS' (by omega) (by omega) (by omega) fun b off e => ?_; conv => whnf
    refine LoadX.elt hS' e i rfl hci ?_; conv => whnf
    rw [getD_map (by omega)]
    have hyo := hx.each _ (List.getElem_mem (show i < x.slots.length by omega))
    generalize hy : x.slots[i]'(by omega) = y at *
    have yone := slotCells_one y
    have ylen := slotCells_len y
    refine BoxX.mk fun m7 hm7 => ?_; conv => whnf
    refine Ob.mk ⟨rfl, rfl⟩ ?_; conv => whnf
    refine StoreX.same (Nat.le_of_ble_eq_true rfl) ?_; conv => whnf
    have B0 := B
    replace B := B.box (x := (slotCells y, 125)) hm7
    have hE8 := (hE7.trans B0.ext).trans (Ext.bd (x := (slotCells y, 125)) hm7)
    refine LoadX.own (sl y.ks) rfl ?_; conv => whnf
    refine cmpN (hyo.key.ext hE8) (hkey.ext hE8) ?_; conv => whnf
    cases hlaid : laid with
    | true =>
      subst hlaid
      repeat (first | (refine CondX.tt ?_; conv => whnf) | (refine CondX.ff ?_; conv => whnf))
      refine CondX.neI (fun hq => ?_) (fun hq => ?_) <;> conv => whnf
      · have hq : y.key ≠ k := by
          intro e
          rw [e] at hq
          exact hq (by simp [cmpI])
        refine LoadX.all (c := slotCells y) (B.ext _ _ (hput_same ..)) rfl ?_; conv => whnf
        have hn9 := B.len
        simp only [List.length_append, List.length_map, List.length_singleton] at hn9
        refine Ob.mk (by first | decide | omega) ?_; conv => whnf
        refine BoxX.mk fun m8 hm8 => ?_; conv => whnf
        refine AppendX.bld (sz := 2) (bytes := 48) (B.box hm8) (rd_own (v := (slotCells y)) ylen) ylen rfl yone (by decide) (by omega) fun s8 h8 B8 => ?_; conv => whnf
        replace B8 := B8.weaken (Ext.bd (B.bd hm8))
        refine ih (i + 1, true, s8, bz ++ [y]) _ _ ⟨by dsimp only; omega, ?_, (P).keep (by omega) hy hq⟩ (by dsimp only; omega) ⟨rfl, rfl, rfl, rfl, rfl, rfl, rfl, rfl, congrArg (Value.int .i64) (wsucc (by omega)), trivial⟩
        refine Bld.weaken (Ext.bd (x := (slotCells y, 125)) (Bld.bd B0 hm7)) ?_
        simpa using B8
      · have hq : y.key = k := by
          unfold cmpI at hq
          split at hq
          · omega
          · split at hq <;> omega
        refine ih (i + 1, true, _, bz) _ _ ⟨by dsimp only; omega, ?_, (P).skip (by omega) hy hq⟩ (by dsimp only; omega) ⟨rfl, rfl, rfl, rfl, rfl, rfl, rfl, rfl, congrArg (Value.int .i64) (wsucc (by omega)), trivial⟩
        refine Bld.weaken (Ext.bd (x := (slotCells y, 125)) (Bld.bd B0 hm7)) ?_
        first | exact B | simpa using B
    | false =>
      subst hlaid
      repeat (first | (refine CondX.tt ?_; conv => whnf) | (refine CondX.ff ?_; conv => whnf))
      refine CondX.decI (fun hge => ?_) (fun hge => ?_) <;> conv => whnf
      · have nlen := slotCells_len (YSlot.mk sk sv k v)
        have none' := slotCells_one (YSlot.mk sk sv k v)
        refine Ob.mk (by first | decide | omega) ?_; conv => whnf
        refine BoxX.mk fun m8 hm8 => ?_; conv => whnf
        refine AppendX.bld (sz := 2) (bytes := 48) (B.box hm8) (rd_own (v := (slotCells (YSlot.mk sk sv k v))) nlen) nlen rfl none' (by decide) (by omega) fun s8 h8 B8 => ?_; conv => whnf
        replace B8 := B8.weaken (Ext.bd (B.bd hm8))
        have B7 := B8
        clear hm8
        refine CondX.neI (fun hq => ?_) (fun hq => ?_) <;> conv => whnf
        · have hq : y.key ≠ k := by
            intro e
            rw [e] at hq
            exact hq (by simp [cmpI])
          refine LoadX.all (c := slotCells y) (B7.ext _ _ (hput_same ..)) rfl ?_; conv => whnf
          have hn9 := B7.len
          simp only [List.length_append, List.length_map, List.length_singleton] at hn9
          refine Ob.mk (by first | decide | omega) ?_; conv => whnf
          refine BoxX.mk fun m8 hm8 => ?_; conv => whnf
          refine AppendX.bld (sz := 2) (bytes := 48) (B7.box hm8) (rd_own (v := (slotCells y)) ylen) ylen rfl yone (by decide) (by omega) fun s8 h8 B8 => ?_; conv => whnf
          replace B8 := B8.weaken (Ext.bd (B7.bd hm8))
          refine ih (i + 1, true, s8, (bz ++ [(YSlot.mk sk sv k v)]) ++ [y]) _ _ ⟨by dsimp only; omega, ?_, ((InsI.ins P)).keep (by omega) hy hq⟩ (by dsimp only; omega) ⟨rfl, rfl, rfl, rfl, rfl, rfl, rfl, rfl, congrArg (Value.int .i64) (wsucc (by omega)), trivial⟩
          refine Bld.weaken (Ext.bd (x := (slotCells y, 125)) (Bld.bd B0 hm7)) ?_
          simpa using B8
        · have hq : y.key = k := by
            unfold cmpI at hq
            split at hq
            · omega
            · split at hq <;> omega
          refine ih (i + 1, true, _, (bz ++ [(YSlot.mk sk sv k v)])) _ _ ⟨by dsimp only; omega, ?_, ((InsI.ins P)).skip (by omega) hy hq⟩ (by dsimp only; omega) ⟨rfl, rfl, rfl, rfl, rfl, rfl, rfl, rfl, congrArg (Value.int .i64) (wsucc (by omega)), trivial⟩
          refine Bld.weaken (Ext.bd (x := (slotCells y, 125)) (Bld.bd B0 hm7)) ?_
          first | exact B7 | simpa using B7
      · refine CondX.neI (fun hq => ?_) (fun hq => ?_) <;> conv => whnf
        · have hq : y.key ≠ k := by
            intro e
            rw [e] at hq
            exact hq (by simp [cmpI])
          refine LoadX.all (c := slotCells y) (B.ext _ _ (hput_same ..)) rfl ?_; conv => whnf
          have hn9 := B.len
          simp only [List.length_append, List.length_map, List.length_singleton] at hn9
          refine Ob.mk (by first | decide | omega) ?_; conv => whnf
          refine BoxX.mk fun m8 hm8 => ?_; conv => whnf
          refine AppendX.bld (sz := 2) (bytes := 48) (B.box hm8) (rd_own (v := (slotCells y)) ylen) ylen rfl yone (by decide) (by omega) fun s8 h8 B8 => ?_; conv => whnf
          replace B8 := B8.weaken (Ext.bd (B.bd hm8))
          refine ih (i + 1, false, s8, bz ++ [y]) _ _ ⟨by dsimp only; omega, ?_, (P).keep (by omega) hy hq⟩ (by dsimp only; omega) ⟨rfl, rfl, rfl, rfl, rfl, rfl, rfl, rfl, congrArg (Value.int .i64) (wsucc (by omega)), trivial⟩
          refine Bld.weaken (Ext.bd (x := (slotCells y, 125)) (Bld.bd B0 hm7)) ?_
          simpa using B8
        · have hq : y.key = k := by
            unfold cmpI at hq
            split at hq
            · omega
            · split at hq <;> omega
          refine ih (i + 1, false, _, bz) _ _ ⟨by dsimp only; omega, ?_, (P).skip (by omega) hy hq⟩ (by dsimp only; omega) ⟨rfl, rfl, rfl, rfl, rfl, rfl, rfl, rfl, congrArg (Value.int .i64) (wsucc (by omega)), trivial⟩
          refine Bld.weaken (Ext.bd (x := (slotCells y, 125)) (Bld.bd B0 hm7)) ?_
          first | exact B | simpa using B
  · have hci1 : i = x.ss.2.1 := by omega
    cases hlaid : laid with
    | true =>
      subst hlaid
      repeat (first | (refine CondX.tt ?_; conv => whnf) | (refine CondX.ff ?_; conv => whnf))
      obtain ⟨hi', f1, f2, f3, f4⟩ := (show Bld (join (hput (hput hi m4 (bcells a, 31)) m6 (acCells x, 118)) hm) _ 2 so (List.map slotCells bz) by simpa using B).finish' (Ext.refl _) hd7
      have g6 : hi' m6 = some (acCells x, 118) := f1 _ _ (hput_same ..)
      refine StoreX.at (f4 _ _ (join_l g6)) (by rw [xlen]; exact Nat.le_of_ble_eq_true rfl) ?_; conv => whnf
      have ec := withSlots_cells (x := x) (s := so) (n := bz) hx.addr
      erw [ec]
      have xlen2 := acCells_len (x := withSlots x so bz) hx.addr
      refine LoadX.all (c := acCells (withSlots x so bz)) (t := 118) (hput_same ..) (by rw [xlen2]; rfl) ?_; conv => whnf
      have hne6 : ∀ b z, hi b = some z → b ≠ m6 := fun b z hb => by rintro rfl; rw [he4 _ _ hb] at hi6; cases hi6
      have hqE : Ext hi (hput hi' m6 (acCells (withSlots x so bz), 118)) := fun b z hb => by
        rw [hput_ne (hne6 b z hb)]; exact f1 _ _ ((he4.trans he6) _ _ hb)
      have hS := f2 (hput hi' m6 (acCells (withSlots x so bz), 118)) fun b z hb hn => by
        have : b ≠ m6 := by rintro rfl; rw [join_l (hput_same ..)] at hn; cases hn
        rw [hput_ne this]; exact hb
      refine CallX.drop (h0 := join (hput hi' m6 (acCells (withSlots x so bz), 118)) hm) (by rw [← join_put]; exact f4.both) ?_
      refine put_ok (x := withSlots x so bz) (f3.put_l g6) hc ho (hA.ext hqE) ⟨hx.addr, hx.nonce.ext hqE, hx.bal.ext hqE, hx.code.ext hqE, hS, fun z hz => ?_⟩ hr fun hi2 s2 ys f5 f6 f7 f8 => ?_
      · rcases ((InsI.fin P (by omega) (by omega))).mem z hz with rfl | h1
        · exact ⟨hkey.ext hqE, hval.ext hqE⟩
        · exact (hx.each z h1).ext hqE
      conv => whnf
      exact RetX.same (hk hi2 s2 ys so bz (hqE.trans f5) f6 f7 (InsI.fin P (by omega) (by omega)) f8)
    | false =>
      subst hlaid
      repeat (first | (refine CondX.tt ?_; conv => whnf) | (refine CondX.ff ?_; conv => whnf))
      have nlen := slotCells_len (YSlot.mk sk sv k v)
      have none' := slotCells_one (YSlot.mk sk sv k v)
      refine Ob.mk (by first | decide | omega) ?_; conv => whnf
      refine BoxX.mk fun m8 hm8 => ?_; conv => whnf
      refine AppendX.bld (sz := 2) (bytes := 48) (B.box hm8) (rd_own (v := (slotCells (YSlot.mk sk sv k v))) nlen) nlen rfl none' (by decide) (by omega) fun s8 h8 B8 => ?_; conv => whnf
      replace B8 := B8.weaken (Ext.bd (B.bd hm8))
      obtain ⟨hi', f1, f2, f3, f4⟩ := (show Bld (join (hput (hput hi m4 (bcells a, 31)) m6 (acCells x, 118)) hm) _ 2 s8 (List.map slotCells (bz ++ [(YSlot.mk sk sv k v)])) by simpa using B8).finish' (Ext.refl _) hd7
      have g6 : hi' m6 = some (acCells x, 118) := f1 _ _ (hput_same ..)
      refine StoreX.at (f4 _ _ (join_l g6)) (by rw [xlen]; exact Nat.le_of_ble_eq_true rfl) ?_; conv => whnf
      have ec := withSlots_cells (x := x) (s := s8) (n := (bz ++ [(YSlot.mk sk sv k v)])) hx.addr
      erw [ec]
      have xlen2 := acCells_len (x := withSlots x s8 (bz ++ [(YSlot.mk sk sv k v)])) hx.addr
      refine LoadX.all (c := acCells (withSlots x s8 (bz ++ [(YSlot.mk sk sv k v)]))) (t := 118) (hput_same ..) (by rw [xlen2]; rfl) ?_; conv => whnf
      have hne6 : ∀ b z, hi b = some z → b ≠ m6 := fun b z hb => by rintro rfl; rw [he4 _ _ hb] at hi6; cases hi6
      have hqE : Ext hi (hput hi' m6 (acCells (withSlots x s8 (bz ++ [(YSlot.mk sk sv k v)])), 118)) := fun b z hb => by
        rw [hput_ne (hne6 b z hb)]; exact f1 _ _ ((he4.trans he6) _ _ hb)
      have hS := f2 (hput hi' m6 (acCells (withSlots x s8 (bz ++ [(YSlot.mk sk sv k v)])), 118)) fun b z hb hn => by
        have : b ≠ m6 := by rintro rfl; rw [join_l (hput_same ..)] at hn; cases hn
        rw [hput_ne this]; exact hb
      refine CallX.drop (h0 := join (hput hi' m6 (acCells (withSlots x s8 (bz ++ [(YSlot.mk sk sv k v)])), 118)) hm) (by rw [← join_put]; exact f4.both) ?_
      refine put_ok (x := withSlots x s8 (bz ++ [(YSlot.mk sk sv k v)])) (f3.put_l g6) hc ho (hA.ext hqE) ⟨hx.addr, hx.nonce.ext hqE, hx.bal.ext hqE, hx.code.ext hqE, hS, fun z hz => ?_⟩ hr fun hi2 s2 ys f5 f6 f7 f8 => ?_
      · rcases ((InsI.fin (InsI.ins P) (by omega) (by omega))).mem z hz with rfl | h1
        · exact ⟨hkey.ext hqE, hval.ext hqE⟩
        · exact (hx.each z h1).ext hqE
      conv => whnf
      exact RetX.same (hk hi2 s2 ys s8 (bz ++ [(YSlot.mk sk sv k v)]) (hqE.trans f5) f6 f7 (InsI.fin (InsI.ins P) (by omega) (by omega)) f8)
end
end Go.Proofs.YgvalwGreat.X
