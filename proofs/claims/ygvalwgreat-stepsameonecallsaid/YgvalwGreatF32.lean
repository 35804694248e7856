import Derived.Test.YgvalwGreatF31
set_option linter.unusedVariables false
set_option linter.unusedSimpArgs false
namespace Go.Proofs.YgvalwGreat.X
open Go

theorem CallX.fj {P : Program} {f : FuncId} {args : List Value} {h1 hF : Hp} {K : Value → Hp → Prop} (hd : Dj h1 hF) (hc : CallX P f args h1 (fun v h' => Dj h' hF → K v (join h' hF))) : CallX P f args (join h1 hF) K :=
  CallX.frame hd hc fun _ _ d k => k d
theorem join_put {hi hm : Hp} {m : Nat} {x} : hput (join hi hm) m x = join (hput hi m x) hm := by
  funext b
  by_cases hb : b = m
  · subst hb; rw [hput_same, join_l (hput_same ..)]
  · rw [hput_ne hb]; unfold join; rw [hput_ne hb]
theorem BoxX.j {hi hm : Hp} {t : TypeId} {vs : List Value} {KK : Nat → Hp → Prop} (hd : Dj hi hm)
    (hk : ∀ m, hi m = none → hm m = none → Dj (hput hi m (vs, t)) hm → Ext hi (hput hi m (vs, t)) → KK m (join (hput hi m (vs, t)) hm)) : BoxX (join hi hm) t vs KK := by
  refine ⟨fun m hmb => ?_⟩
  have hjn := hmb.none (Nat.le_refl _)
  have hin : hi m = none := by
    cases hx : hi m with
    | none => rfl
    | some x => rw [join_l hx] at hjn; cases hjn
  have hmn : hm m = none := by rw [join_r hin] at hjn; exact hjn
  rw [join_put]
  refine hk m hin hmn (fun c => ?_) (Ext.new hin)
  by_cases hc : c = m
  · subst hc; exact .inr hmn
  · rw [hput_ne hc]; exact hd c
theorem StoreX.j {hi hm : Hp} {m o : Nat} {c : List Value} {t : TypeId} {vs : List Value} {KK : Hp → Prop} (hl : o + vs.length ≤ c.length) (hk : KK (join (hput hi m (setSeg c o vs, t)) hm)) : StoreX (join (hput hi m (c, t)) hm) m o vs KK := by
  refine ⟨c, t, join_l (hput_same ..), hl, ?_⟩
  rw [join_put, hput_hput]; exact hk
theorem Dj.hp {hi hm : Hp} {m : Nat} {x y} (hd : Dj (hput hi m x) hm) : Dj (hput hi m y) hm := fun c => by
  by_cases hc : c = m
  · subst hc
    have := hd c
    rw [hput_same] at this
    exact .inr (this.resolve_left (by simp))
  · have := hd c
    rw [hput_ne hc] at this ⊢; exact this

def withNonce (x : YAcct) (s : Sl) (n : Int) : YAcct := { x with ns := s, nonce := n }
def withBal (x : YAcct) (s : Sl) (n : Int) : YAcct := { x with bs := s, bal := n }
def withCode (x : YAcct) (s : Sl) (n : List Int) : YAcct := { x with cs := s, code := n }
theorem withNonce_cells {x : YAcct} {s : Sl} {n : Int} (hx : x.addr.length = 20) : setSeg (acCells x) 20 [sl s] = acCells (withNonce x s n) := by
  have e : (bcells x.addr).length = 20 := by rw [bcells_length, hx]
  have e2 : ∀ r : List Value, (bcells x.addr ++ r).take 20 = bcells x.addr := fun r => by rw [← e]; exact List.take_left
  have e3 : ∀ (r : List Value), (bcells x.addr ++ r).drop 21 = r.drop 1 := fun r => by rw [show 21 = 20 + 1 by rfl, ← e, ← List.drop_drop, List.drop_left]
  simp [setSeg, acCells, e2, e3, acRest, withNonce]
theorem withBal_cells {x : YAcct} {s : Sl} {n : Int} (hx : x.addr.length = 20) : setSeg (acCells x) 21 [sl s] = acCells (withBal x s n) := by
  have e : (bcells x.addr).length = 20 := by rw [bcells_length, hx]
  have e2 : ∀ r : List Value, (bcells x.addr ++ r).take 21 = bcells x.addr ++ r.take 1 := fun r => by rw [show 21 = 20 + 1 by rfl, ← e]; exact List.take_length_add_append 1
  have e3 : ∀ (r : List Value), (bcells x.addr ++ r).drop 22 = r.drop 2 := fun r => by rw [show 22 = 20 + 2 by rfl, ← e, ← List.drop_drop, List.drop_left]
  simp [setSeg, acCells, e2, e3, acRest, withBal]
theorem withCode_cells {x : YAcct} {s : Sl} {n : List Int} (hx : x.addr.length = 20) : setSeg (acCells x) 22 [sl s] = acCells (withCode x s n) := by
  have e : (bcells x.addr).length = 20 := by rw [bcells_length, hx]
  have e2 : ∀ r : List Value, (bcells x.addr ++ r).take 22 = bcells x.addr ++ r.take 2 := fun r => by rw [show 22 = 20 + 2 by rfl, ← e]; exact List.take_length_add_append 2
  have e3 : ∀ (r : List Value), (bcells x.addr ++ r).drop 23 = r.drop 3 := fun r => by rw [show 23 = 20 + 3 by rfl, ← e, ← List.drop_drop, List.drop_left]
  simp [setSeg, acCells, e2, e3, acRest, withCode]

section
variable {hi hm : Hp} {K : Value → Hp → Prop}

set_option maxRecDepth 100000 in
set_option maxHeartbeats 4000000 in
theorem setNonce_ok (hd : Dj hi hm) {c o : Nat} {cells : List Value} {t : TypeId} {s sn : Sl} {xs : List YAcct} {a : List Int} {n : Int} (hc : hm c = some (cells, t)) (ho : cells[o]? = some (sl s)) (hA : AccL hi s xs) (ha : a.length = 20) (hn : NtS hi sn n) (hr : s.2.1 < 2 ^ 30)
    (hk : ∀ hi' s' ys, Ext hi hi' → Dj hi' (hput hm c (setSeg cells o [sl s'], t)) → AccL hi' s' ys → PutR xs (withNonce (getA xs a) sn n) (lone (withNonce (getA xs a) sn n)) ys → K (.tuple #[]) (join hi' (hput hm c (setSeg cells o [sl s'], t)))) :
    CallX Hval.prog 33 [.pointer (some ⟨c, o, none⟩), .agg (bcells a).toArray, sl sn] (join hi hm) K := by
  refine CallX.of_xf T_ok Hval.func33 rfl (by kernel_rfl) (Nat.le_of_ble_eq_true rfl) ?_; conv => whnf
  have hjc := join_hm hd hc
  refine BoxX.j hd fun m4 hi4 hm4 hd4 he4 => ?_; conv => whnf
  refine LoadX.arr (l := a) (t := 31) (join_l (hput_same ..)) ha ?_; conv => whnf
  have hA4 := hA.ext he4
  refine account_ok (xs := xs) (join_hm hd4 hc) ho (hA4.arr.ext (Ext.jl _ _)) (fun x hx => (hA.each x hx).addr) ha (by omega) ?_; conv => whnf
  have hx := getA_ok hA.each ha
  generalize hxe : getA xs a = x at *
  have xlen := acCells_len hx.addr
  have xone := acCells_one x
  refine BoxX.j hd4 fun m6 hi6 hm6 hd6 he6 => ?_; conv => whnf
  refine Ob.mk ⟨by rw [List.size_toArray, xlen]; rfl, xone⟩ ?_; conv => whnf
  refine StoreX.j (by rw [List.toList_toArray, xlen]; decide) ?_; conv => whnf
  rw [setSeg_all (by rw [List.toList_toArray, xlen]; rfl)]
  refine StoreX.j (by rw [xlen]; exact Nat.le_of_ble_eq_true rfl) ?_; conv => whnf
  have ec := withNonce_cells (x := x) (s := sn) (n := n) hx.addr
  erw [ec]
  have hd7 : Dj (hput (hput hi m4 (bcells a, 31)) m6 (acCells (withNonce x sn n), 118)) hm := hd6.hp
  have he7 : Ext hi (hput (hput hi m4 (bcells a, 31)) m6 (acCells (withNonce x sn n), 118)) := he4.trans (Ext.new hi6)
  have xlen2 := acCells_len (x := withNonce x sn n) hx.addr
  refine LoadX.all (c := acCells (withNonce x sn n)) (t := 118) (join_l (hput_same ..)) (by rw [xlen2]; rfl) ?_; conv => whnf
  refine put_ok (x := withNonce x sn n) hd7 hc ho (hA.ext he7) ((⟨hx.addr, hn, hx.bal, hx.code, hx.slots, hx.each⟩ : (withNonce x sn n).ok hi).ext he7) hr fun hi' s' ys f1 f2 f3 f4 => ?_; conv => whnf
  exact RetX.same (hk hi' s' ys (he7.trans f1) f2 f3 f4)
set_option maxRecDepth 100000 in
set_option maxHeartbeats 4000000 in
theorem setBalance_ok (hd : Dj hi hm) {c o : Nat} {cells : List Value} {t : TypeId} {s sn : Sl} {xs : List YAcct} {a : List Int} {n : Int} (hc : hm c = some (cells, t)) (ho : cells[o]? = some (sl s)) (hA : AccL hi s xs) (ha : a.length = 20) (hn : NtS hi sn n) (hr : s.2.1 < 2 ^ 30)
    (hk : ∀ hi' s' ys, Ext hi hi' → Dj hi' (hput hm c (setSeg cells o [sl s'], t)) → AccL hi' s' ys → PutR xs (withBal (getA xs a) sn n) (lone (withBal (getA xs a) sn n)) ys → K (.tuple #[]) (join hi' (hput hm c (setSeg cells o [sl s'], t)))) :
    CallX Hval.prog 35 [.pointer (some ⟨c, o, none⟩), .agg (bcells a).toArray, sl sn] (join hi hm) K := by
  refine CallX.of_xf T_ok Hval.func35 rfl (by kernel_rfl) (Nat.le_of_ble_eq_true rfl) ?_; conv => whnf
  have hjc := join_hm hd hc
  refine BoxX.j hd fun m4 hi4 hm4 hd4 he4 => ?_; conv => whnf
  refine LoadX.arr (l := a) (t := 31) (join_l (hput_same ..)) ha ?_; conv => whnf
  have hA4 := hA.ext he4
  refine account_ok (xs := xs) (join_hm hd4 hc) ho (hA4.arr.ext (Ext.jl _ _)) (fun x hx => (hA.each x hx).addr) ha (by omega) ?_; conv => whnf
  have hx := getA_ok hA.each ha
  generalize hxe : getA xs a = x at *
  have xlen := acCells_len hx.addr
  have xone := acCells_one x
  refine BoxX.j hd4 fun m6 hi6 hm6 hd6 he6 => ?_; conv => whnf
  refine Ob.mk ⟨by rw [List.size_toArray, xlen]; rfl, xone⟩ ?_; conv => whnf
  refine StoreX.j (by rw [List.toList_toArray, xlen]; decide) ?_; conv => whnf
  rw [setSeg_all (by rw [List.toList_toArray, xlen]; rfl)]
  refine StoreX.j (by rw [xlen]; exact Nat.le_of_ble_eq_true rfl) ?_; conv => whnf
  have ec := withBal_cells (x := x) (s := sn) (n := n) hx.addr
  erw [ec]
  have hd7 : Dj (hput (hput hi m4 (bcells a, 31)) m6 (acCells (withBal x sn n), 118)) hm := hd6.hp
  have he7 : Ext hi (hput (hput hi m4 (bcells a, 31)) m6 (acCells (withBal x sn n), 118)) := he4.trans (Ext.new hi6)
  have xlen2 := acCells_len (x := withBal x sn n) hx.addr
  refine LoadX.all (c := acCells (withBal x sn n)) (t := 118) (join_l (hput_same ..)) (by rw [xlen2]; rfl) ?_; conv => whnf
  refine put_ok (x := withBal x sn n) hd7 hc ho (hA.ext he7) ((⟨hx.addr, hx.nonce, hn, hx.code, hx.slots, hx.each⟩ : (withBal x sn n).ok hi).ext he7) hr fun hi' s' ys f1 f2 f3 f4 => ?_; conv => whnf
  exact RetX.same (hk hi' s' ys (he7.trans f1) f2 f3 f4)
end

theorem acCells_get {x : YAcct} (hx : x.addr.length = 20) (k : Nat) : (acCells x).toArray.toList[20 + k]? = (acRest x)[k]? := by
  have e : (bcells x.addr).length = 20 := by rw [bcells_length, hx]
  show (bcells x.addr ++ acRest x)[20 + k]? = _
  rw [List.getElem?_append_right (by omega), e, Nat.add_sub_cancel_left]

/-- The slot of a key. -/
def getS (ss : List YSlot) (k : Int) : YSlot := (ss.find? fun s => s.key = k).getD ⟨nilS, nilS, k, 0⟩
theorem getS_ok {h : Hp} {ss : List YSlot} (hs : ∀ s ∈ ss, s.ok h) {k : Int} : NtS h (getS ss k).vs (getS ss k).val := by
  unfold getS
  cases hf : ss.find? fun s => s.key = k with
  | none => exact Nt_nil h
  | some x => exact (hs x (List.mem_of_find?_eq_some hf)).val

section
variable {h : Hp} {K : Value → Hp → Prop}
set_option maxRecDepth 100000 in
set_option maxHeartbeats 4000000 in
theorem wload_ok {c o : Nat} {cells : List Value} {t : TypeId} {s sk : Sl} {xs : List YAcct} {a : List Int} {k : Int} (hc : h c = some (cells, t)) (ho : cells[o]? = some (sl s)) (hA : AccL h s xs) (ha : a.length = 20) (hr : s.2.1 < 2 ^ 40)
    (hkey : NtS h sk k) (hr2 : ∀ x ∈ xs, x.ss.2.1 < 2 ^ 40) (hk : K (sl (getS (getA xs a).slots k).vs) h) : CallX Hval.prog 215 [.pointer (some ⟨c, o, none⟩), .agg (bcells a).toArray, sl sk] h K := by
  refine CallX.of_xf T_ok Hval.func215 rfl (by kernel_rfl) (Nat.le_of_ble_eq_true rfl) ?_; conv => whnf
  refine BoxX.mk fun m hm => ?_; conv => whnf
  have hE : Ext h (hput h m (bcells a, 31)) := Ext.bd hm
  refine LoadX.arr (l := a) (t := 31) (hput_same ..) ha ?_; conv => whnf
  refine account_ok (xs := xs) (hE _ _ hc) ho (hA.arr.ext hE) (fun x hx => (hA.each x hx).addr) ha (by omega) ?_; conv => whnf
  have hx := getA_ok hA.each ha
  have hxr : (getA xs a).ss.2.1 < 2 ^ 40 := by
    unfold getA
    cases hf : xs.find? fun x => x.addr = a with
    | none => exact (by decide : 0 < 2 ^ 40)
    | some x => exact hr2 x (List.mem_of_find?_eq_some hf)
  generalize getA xs a = x at *
  erw [acCells_get hx.addr 3]; conv => whnf
  have hn : x.slots.length = x.ss.2.1 := by have := hx.slots.len; simpa using this
  refine LoopX.st T_ok Hval.func215 (σ := Nat) (fun i => [(2, sl sk), (12, sl x.ss), (13, .int .i64 x.ss.2.1), (14, .int .i64 i)])
    (fun i h' => i ≤ x.ss.2.1 ∧ Ext h h' ∧ ∀ j, (hj : j < x.slots.length) → j < i → x.slots[j].key ≠ k) (fun i => x.ss.2.1 - i) 0
    ⟨rfl, rfl, rfl, rfl, trivial⟩ ⟨Nat.zero_le _, hE, fun j _ hj => by omega⟩ ?_
  rintro i ρ h' ⟨hi, he, hne⟩ ih
  conv => whnf
  have hS := hx.slots.ext he
  refine CondX.decI (fun hc => ?_) (fun hc => ?_) <;> conv => whnf
  · have hc : i < x.ss.2.1 := by omega
    refine IdxX.arr hS (by omega) (by omega) (by omega) fun b off e => ?_; conv => whnf
    refine LoadX.elt hS e i rfl hc ?_; conv => whnf
    rw [getD_map (by omega)]
    have hyo := hx.each _ (List.getElem_mem (show i < x.slots.length by omega))
    generalize hy : x.slots[i]'(by omega) = y at *
    refine BoxX.mk fun m3 hm3 => ?_; conv => whnf
    refine Ob.mk ⟨rfl, rfl⟩ ?_; conv => whnf
    refine StoreX.same (Nat.le_of_ble_eq_true rfl) ?_; conv => whnf
    have hE3 := he.trans (Ext.bd (x := (slotCells y, 125)) hm3)
    refine LoadX.own (sl y.ks) rfl ?_; conv => whnf
    refine cmpN (hyo.key.ext hE3) (hkey.ext hE3) ?_; conv => whnf
    rw [cmp_eq]
    refine CondX.decI (fun hq => ?_) (fun hq => ?_) <;> conv => whnf
    · have hget : getS x.slots k = y := by
        unfold getS
        have : x.slots.find? (fun s => s.key = k) = some y := by
          rw [List.find?_eq_some_iff_getElem]
          refine ⟨by simpa using hq, i, by omega, hy, fun j hj => ?_⟩
          simpa using hne j (by omega) hj
        rw [this]; rfl
      refine LoadX.own (sl y.vs) rfl ?_; conv => whnf
      rw [hget] at hk
      exact RetX.drop hE3 hk
    · refine ih (i + 1) _ _ ⟨by omega, hE3, fun j hj hji => ?_⟩ (by omega) ⟨rfl, rfl, rfl, congrArg (Value.int .i64) (wsucc (by omega)), trivial⟩
      by_cases e : j = i
      · subst e; rw [hy]; exact hq
      · exact hne j hj (by omega)
  · have hget : getS x.slots k = ⟨nilS, nilS, k, 0⟩ := by
      unfold getS
      have : x.slots.find? (fun s => s.key = k) = none := by
        rw [List.find?_eq_none]
        intro z hz
        obtain ⟨j, hj, e⟩ := List.getElem_of_mem hz
        have := hne j hj (by omega)
        rw [e] at this
        simpa using this
      rw [this]; rfl
    rw [hget] at hk
    exact RetX.drop he hk
end
end Go.Proofs.YgvalwGreat.X
