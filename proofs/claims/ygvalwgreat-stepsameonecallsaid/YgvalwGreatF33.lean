import Derived.Test.YgvalwGreatF32
set_option linter.unusedVariables false
set_option linter.unusedSimpArgs false
namespace Go.Proofs.YgvalwGreat.X
open Go

section
variable {h : Hp} {K : Value → Hp → Prop}
set_option maxRecDepth 100000 in
set_option maxHeartbeats 4000000 in
theorem isWarm_ok {c o : Nat} {cells : List Value} {t : TypeId} {s : Sl} {az : List (List Int)} {a : List Int} (hc : h c = some (cells, t)) (ho : cells[o + 1]? = some (sl s)) (hA : Adrs h s az) (ha : a.length = 20) (hr : s.2.1 < 2 ^ 40) (hk : K (.bool (decide (a ∈ az))) h) :
    CallX Hval.prog 361 [.pointer (some ⟨c, o, none⟩), .agg (bcells a).toArray] h K := by
  refine CallX.of_xf T_ok Hval.func361 rfl (by kernel_rfl) (Nat.le_of_ble_eq_true rfl) ?_; conv => whnf
  refine BoxX.mk fun m hm => ?_; conv => whnf
  have hE : Ext h (hput h m (bcells a, 31)) := Ext.bd hm
  refine DrawX.go T_ok hM Hval.func361 (tb := dr361) rfl (by kernel_rfl) ?_; conv => whnf
  refine LoadX.blk (hE _ _ hc) (sl s) ho ?_; conv => whnf
  refine LoadX.arr (l := a) (t := 31) (hput_same ..) ha ?_; conv => whnf
  refine listed_ok (hA.ext hE) ha hr ?_; conv => whnf
  exact RetX.drop hE hk

set_option maxRecDepth 100000 in
set_option maxHeartbeats 4000000 in
theorem access_ok {c o : Nat} {cells : List Value} {t : TypeId} {s : Sl} {az : List (List Int)} {a : List Int} (hc : h c = some (cells, t)) (ho : cells[o + 1]? = some (sl s)) (hA : Adrs h s az) (ha : a.length = 20) (hr : s.2.1 < 2 ^ 40)
    (hk : ∀ b n c h', Ext h h' → Nt h' b n c (if a ∈ az then 100 else 2600) → K (.slice b n c) h') :
    CallX Hval.prog 306 [.pointer (some ⟨c, o, none⟩), .agg (bcells a).toArray] h K := by
  refine CallX.of_xf T_ok Hval.func306 rfl (by kernel_rfl) (Nat.le_of_ble_eq_true rfl) ?_; conv => whnf
  refine BoxX.mk fun m hm => ?_; conv => whnf
  have hE : Ext h (hput h m (bcells a, 31)) := Ext.bd hm
  refine LoadX.arr (l := a) (t := 31) (hput_same ..) ha ?_; conv => whnf
  refine isWarm_ok (hE _ _ hc) ho (hA.ext hE) ha hr ?_; conv => whnf
  refine CondX.decI (fun hq => ?_) (fun hq => ?_) <;> conv => whnf
  · refine num_ok (by omega) (by omega) fun b n c h1 he1 hn1 => ?_; conv => whnf
    refine RetX.same (hk _ _ _ _ (hE.trans he1) ?_)
    rw [if_pos hq]; exact hn1
  · refine num_ok (by omega) (by omega) fun b n c h1 he1 hn1 => ?_; conv => whnf
    refine RetX.same (hk _ _ _ _ (hE.trans he1) ?_)
    rw [if_neg hq]; exact hn1

set_option maxRecDepth 100000 in
set_option maxHeartbeats 4000000 in
theorem move0_ok {c o : Nat} {cells : List Value} {t : TypeId} {s sv : Sl} {xs : List YAcct} {a b : List Int} (hc : h c = some (cells, t)) (ho : cells[o]? = some (sl s)) (hA : AccL h s xs) (ha : a.length = 20) (hb : b.length = 20) (hr : s.2.1 < 2 ^ 40)
    (hv : NtS h sv 0) (hk : K (.tuple #[]) h) : CallX Hval.prog 103 [.pointer (some ⟨c, o, none⟩), .agg (bcells a).toArray, .agg (bcells b).toArray, sl sv] h K := by
  refine CallX.of_xf T_ok Hval.func103 rfl (by kernel_rfl) (Nat.le_of_ble_eq_true rfl) ?_; conv => whnf
  refine BoxX.mk fun m hm => ?_; conv => whnf
  refine BoxX.on fun m2 hm2 hbd2 => ?_; conv => whnf
  have hE : Ext h (hput (hput h m (bcells a, 31)) m2 (bcells b, 31)) := (Ext.bd hm).trans (Ext.bd hbd2)
  refine LoadX.arr (l := a) (t := 31) (by rw [hput_ne (by omega)]; exact hput_same ..) ha ?_; conv => whnf
  refine account_ok (xs := xs) (hE _ _ hc) ho (hA.arr.ext hE) (fun x hx => (hA.each x hx).addr) ha hr ?_; conv => whnf
  have hx := getA_ok hA.each ha
  generalize getA xs a = x at *
  erw [acCells_get hx.addr 1]; conv => whnf
  have hx0 := hx.bal.val
  refine subN (hx.bal.ext hE) (hv.ext hE) (fun hlt => by omega) fun _ b n c h1 he1 hn1 => ?_; conv => whnf
  repeat (first | (refine CondX.tt ?_; conv => whnf) | (refine CondX.ff ?_; conv => whnf))
  refine isZero_ok ((hv.ext hE).ext he1) ?_; conv => whnf
  repeat (first | (refine CondX.tt ?_; conv => whnf) | (refine CondX.ff ?_; conv => whnf))
  exact RetX.drop (hE.trans he1) hk

set_option maxRecDepth 100000 in
set_option maxHeartbeats 4000000 in
theorem taken_ok {c : Nat} {cells : List Value} {t : TypeId} {s : Sl} {xs : List YAcct} {a : List Int} (hc : h c = some (cells, t)) (ho : cells[0]? = some (sl s)) (hA : AccL h s xs) (ha : a.length = 20) (hr : s.2.1 < 2 ^ 40)
    (hk : K (.bool (decide ((getA xs a).nonce ≠ 0 ∨ (getA xs a).code ≠ []))) h) : CallX Hval.prog 42 [.pointer (some ⟨c, 0, none⟩), .agg (bcells a).toArray] h K := by
  refine CallX.of_xf T_ok Hval.func42 rfl (by kernel_rfl) (Nat.le_of_ble_eq_true rfl) ?_; conv => whnf
  refine BoxX.mk fun m hm => ?_; conv => whnf
  have hE : Ext h (hput h m (bcells a, 31)) := Ext.bd hm
  refine DrawX.go T_ok hM Hval.func42 (tb := dr42) rfl (by kernel_rfl) ?_; conv => whnf
  refine LoadX.arr (l := a) (t := 31) (hput_same ..) ha ?_; conv => whnf
  refine account_ok (xs := xs) (hE _ _ hc) ho (hA.arr.ext hE) (fun x hx => (hA.each x hx).addr) ha (by omega) ?_; conv => whnf
  have hx := getA_ok hA.each ha
  generalize getA xs a = x at *
  have xlen := acCells_len hx.addr
  have xone := acCells_one x
  refine BoxW.mk fun m5 hm5 => ?_; conv => whnf
  refine Ob.mk ⟨by rw [List.size_toArray, xlen]; rfl, xone⟩ ?_; conv => whnf
  refine StoreX.same (by rw [List.toList_toArray, xlen]; decide) ?_; conv => whnf
  rw [setSeg_all (by rw [List.toList_toArray, xlen]; rfl)]
  have hE5 := hE.trans (Ext.new (x := (acCells x, 118)) hm5)
  have hl5 : hput (hput h m (bcells a, 31)) m5 (acCells x, 118) m5 = some (acCells x, 118) := hput_same ..
  refine LoadX.fld hl5 hx.addr 0 rfl (v := sl x.ns) rfl ?_; conv => whnf
  refine isZero_ok (hx.nonce.ext hE5) ?_; conv => whnf
  have hcl := hx.code.len
  by_cases h1 : x.nonce = 0
  · rw [decide_eq_true h1]
    repeat (first | (refine CondX.tt ?_; conv => whnf) | (refine CondX.ff ?_; conv => whnf))
    refine LoadX.fld hl5 hx.addr 2 rfl (v := sl x.cs) rfl ?_; conv => whnf
    repeat (first | (refine CondX.tt ?_; conv => whnf) | (refine CondX.ff ?_; conv => whnf))
    have e : decide ((x.cs.2.1 : Int) > 0) = decide (x.nonce ≠ 0 ∨ x.code ≠ []) := by
      rw [← hcl, decide_eq_decide]
      simp [h1, List.length_pos_iff]
    refine RetX.drop hE5 ?_
    rw [← e] at hk; exact hk
  · rw [decide_eq_false h1]
    repeat (first | (refine CondX.tt ?_; conv => whnf) | (refine CondX.ff ?_; conv => whnf))
    have e : true = decide (x.nonce ≠ 0 ∨ x.code ≠ []) := by simp [h1]
    refine RetX.drop hE5 ?_
    rw [← e] at hk; exact hk

set_option maxRecDepth 100000 in
set_option maxHeartbeats 4000000 in
theorem orig0_ok {c : Nat} {cells : List Value} {t : TypeId} {sk : Sl} {a : List Int} (hc : h c = some (cells, t)) (ho : cells[8]? = some (sl nilS)) (ha : a.length = 20) 
    (hk : K (sl nilS) h) : CallX Hval.prog 363 [.pointer (some ⟨c, 0, none⟩), .agg (bcells a).toArray, sl sk] h K := by
  refine CallX.of_xf T_ok Hval.func363 rfl (by kernel_rfl) (Nat.le_of_ble_eq_true rfl) ?_; conv => whnf
  refine BoxX.mk fun m hm => ?_; conv => whnf
  have hE : Ext h (hput h m (bcells a, 31)) := Ext.bd hm
  refine LoadX.blk (hE _ _ hc) (sl nilS) ho ?_; conv => whnf
  refine LoopX.st T_ok Hval.func363 (σ := Unit) (fun _ => [(13, .int .i64 0), (14, .int .i64 0)]) (fun _ h' => h' = hput h m (bcells a, 31)) (fun _ => 0) ()
    ⟨rfl, rfl, trivial⟩ rfl ?_
  rintro _ ρ h' rfl ih
  conv => whnf
  repeat (first | (refine CondX.tt ?_; conv => whnf) | (refine CondX.ff ?_; conv => whnf))
  exact RetX.drop hE hk

structure YMark where
  addr : List Int
  ks : Sl
  key : Int
def markCells (x : YMark) : List Value := bcells x.addr ++ [sl x.ks]
structure YMark.ok (h : Hp) (x : YMark) : Prop where
  addr : x.addr.length = 20
  key : NtS h x.ks x.key
theorem YMark.ok.ext {h h' : Hp} (he : Ext h h') {x : YMark} (a : x.ok h) : x.ok h' := ⟨a.addr, a.key.ext he⟩
structure MarkL (h : Hp) (s : Sl) (xs : List YMark) : Prop where
  arr : Arr h s 21 (xs.map markCells)
  each : ∀ x ∈ xs, x.ok h
theorem MarkL.ext {h h' : Hp} (he : Ext h h') {s xs} (a : MarkL h s xs) : MarkL h' s xs := ⟨a.arr.ext he, fun x hx => (a.each x hx).ext he⟩
theorem MarkL.n {h : Hp} {s : Sl} {xs} (a : MarkL h s xs) : xs.length = s.2.1 := by have := a.arr.len; simpa using this
theorem markCells_len {x : YMark} (hx : x.addr.length = 20) : (markCells x).length = 21 := by simp [markCells, bcells, hx]
theorem markCells_one (x : YMark) : ones (markCells x) = true := ones_append (ones_bcells _) rfl
/-- Whether the slot is listed. -/
def hasM (xs : List YMark) (a : List Int) (k : Int) : Bool := xs.any fun x => decide (x.addr = a ∧ x.key = k)

set_option maxRecDepth 100000 in
set_option maxHeartbeats 4000000 in
theorem isWarmSlot_ok {c o : Nat} {cells : List Value} {t : TypeId} {s sk : Sl} {xs : List YMark} {a : List Int} {k : Int} (hc : h c = some (cells, t)) (ho : cells[o + 2]? = some (sl s)) (hA : MarkL h s xs) (ha : a.length = 20) (hr : s.2.1 < 2 ^ 40)
    (hkey : NtS h sk k) (hk : K (.bool (hasM xs a k)) h) : CallX Hval.prog 98 [.pointer (some ⟨c, o, none⟩), .agg (bcells a).toArray, sl sk] h K := by
  refine CallX.of_xf T_ok Hval.func98 rfl (by kernel_rfl) (Nat.le_of_ble_eq_true rfl) ?_; conv => whnf
  have hn := hA.n
  refine BoxX.mk fun m hm => ?_; conv => whnf
  have hE : Ext h (hput h m (bcells a, 31)) := Ext.bd hm
  refine LoadX.blk (hE _ _ hc) (sl s) ho ?_; conv => whnf
  refine LoopX.st T_ok Hval.func98 (σ := Nat) (fun i => [(2, sl sk), (4, .pointer (some ⟨m, 0, none⟩)), (12, sl s), (13, .int .i64 s.2.1), (14, .int .i64 i)])
    (fun i h' => i ≤ s.2.1 ∧ Ext (hput h m (bcells a, 31)) h' ∧ ∀ j, (hj : j < xs.length) → j < i → ¬ (xs[j].addr = a ∧ xs[j].key = k)) (fun i => s.2.1 - i) 0
    ⟨rfl, rfl, rfl, rfl, rfl, trivial⟩ ⟨Nat.zero_le _, Ext.refl _, fun j _ hj => by omega⟩ ?_
  rintro i ρ h' ⟨hi, he, hne⟩ ih
  conv => whnf
  have hA' := hA.ext (hE.trans he)
  have hl1 : h' m = some (bcells a, 31) := he _ _ (hput_same ..)
  refine CondX.decI (fun hc => ?_) (fun hc => ?_) <;> conv => whnf
  · have hc : i < s.2.1 := by omega
    refine IdxX.arr hA'.arr (by omega) (by omega) (by omega) fun b off e => ?_; conv => whnf
    refine LoadX.elt hA'.arr e i rfl hc ?_; conv => whnf
    rw [getD_map (by omega)]
    have hyo := hA.each _ (List.getElem_mem (show i < xs.length by omega))
    generalize hy : xs[i]'(by omega) = y at *
    have ylen := markCells_len hyo.addr
    have yone := markCells_one y
    refine BoxX.mk fun m3 hm3 => ?_; conv => whnf
    refine Ob.mk ⟨by rw [List.size_toArray, ylen]; rfl, yone⟩ ?_; conv => whnf
    refine StoreX.same (by rw [List.toList_toArray, ylen]; decide) ?_; conv => whnf
    rw [setSeg_all (by rw [List.toList_toArray, ylen]; rfl)]
    have hE3 := (hE.trans he).trans (Ext.bd (x := (markCells y, 190)) hm3)
    have hne1 : m ≠ m3 := by have := hm3 _ _ hl1; omega
    refine LoadX.adr (a := y.addr) (r := [sl y.ks]) (t := 190) (hput_same ..) hyo.addr ?_; conv => whnf
    refine LoadX.arr (l := a) (t := 31) (by rw [hput_ne hne1]; exact hl1) ha ?_; conv => whnf
    refine Ob.mk ⟨by simp [bcells, hyo.addr], by simp [bcells, ha], by simpa using intCells_bcells y.addr, by simpa using intCells_bcells a⟩ ?_; conv => whnf
    have next : ¬ (y.addr = a ∧ y.key = k) → ∀ j, (hj : j < xs.length) → j < i + 1 → ¬ (xs[j].addr = a ∧ xs[j].key = k) := fun hq j hj hji => by
      by_cases e : j = i
      · subst e; rw [hy]; exact hq
      · exact hne j hj (by omega)
    refine CondX.mk (fun hq => ?_) (fun hq => ?_) <;> conv => whnf
    · have hq := of_decide_eq_true (eqAddr hq)
      repeat (first | (refine CondX.tt ?_; conv => whnf) | (refine CondX.ff ?_; conv => whnf))
      refine LoadX.fld (a := y.addr) (r := [sl y.ks]) (t := 190) (hput_same ..) hyo.addr 0 rfl (v := sl y.ks) rfl ?_; conv => whnf
      repeat (first | (refine CondX.tt ?_; conv => whnf) | (refine CondX.ff ?_; conv => whnf))
      refine cmpN (hyo.key.ext hE3) (hkey.ext hE3) ?_; conv => whnf
      repeat (first | (refine CondX.tt ?_; conv => whnf) | (refine CondX.ff ?_; conv => whnf))
      rw [cmp_eq]
      refine CondX.decI (fun hq2 => ?_) (fun hq2 => ?_) <;> conv => whnf
      · have : hasM xs a k = true := by
          rw [hasM, List.any_eq_true]
          exact ⟨y, by rw [← hy]; exact List.getElem_mem _, by simp [hq, hq2]⟩
        rw [this] at hk
        exact RetX.drop hE3 hk
      · refine ih (i + 1) _ _ ⟨by omega, he.trans (Ext.bd hm3), next fun h => hq2 h.2⟩ (by omega) ⟨rfl, rfl, rfl, rfl, congrArg (Value.int .i64) (wsucc (by omega)), trivial⟩
    · have hq := of_decide_eq_false (eqAddr hq)
      repeat (first | (refine CondX.tt ?_; conv => whnf) | (refine CondX.ff ?_; conv => whnf))
      refine ih (i + 1) _ _ ⟨by omega, he.trans (Ext.bd hm3), next fun h => hq h.1⟩ (by omega) ⟨rfl, rfl, rfl, rfl, congrArg (Value.int .i64) (wsucc (by omega)), trivial⟩
  · have : hasM xs a k = false := by
      rw [hasM, List.any_eq_false]
      intro z hz
      obtain ⟨j, hj, e⟩ := List.getElem_of_mem hz
      have := hne j hj (by omega)
      rw [e] at this
      simpa using this
    rw [this] at hk
    exact RetX.drop (hE.trans he) hk
end

section
variable {hi hm : Hp} {K : Value → Hp → Prop}
set_option maxRecDepth 100000 in
set_option maxHeartbeats 4000000 in
theorem warm_ok (hd : Dj hi hm) {c o : Nat} {cells : List Value} {t : TypeId} {s : Sl} {az : List (List Int)} {a : List Int} (hc : hm c = some (cells, t)) (ho : cells[o + 1]? = some (sl s)) (hA : Adrs hi s az) (ha : a.length = 20) (hr : s.2.1 < 2 ^ 30)
    (hk : ∀ hi' s' az', Ext hi hi' → Dj hi' (hput hm c (setSeg cells (o + 1) [sl s'], t)) → Adrs hi' s' az' → (∀ b, b ∈ az' ↔ b ∈ az ∨ b = a) → az'.length ≤ az.length + 1 → K (.tuple #[]) (join hi' (hput hm c (setSeg cells (o + 1) [sl s'], t)))) :
    CallX Hval.prog 37 [.pointer (some ⟨c, o, none⟩), .agg (bcells a).toArray] (join hi hm) K := by
  refine CallX.of_xf T_ok Hval.func37 rfl (by kernel_rfl) (Nat.le_of_ble_eq_true rfl) ?_; conv => whnf
  refine BoxX.j hd fun m4 hi4 hm4 hd4 he4 => ?_; conv => whnf
  refine DrawX.go T_ok hM Hval.func37 (tb := dr37) rfl (by kernel_rfl) ?_; conv => whnf
  refine LoadX.blk (join_hm hd4 hc) (sl s) ho ?_; conv => whnf
  refine LoadX.arr (l := a) (t := 31) (join_l (hput_same ..)) ha ?_; conv => whnf
  refine CallX.fj hd4 (withAddr_ok (hA.ext he4) ha hr fun s' az' h' f1 f2 f3 f4 hd' => ?_); conv => whnf
  refine StoreX.at (join_hm hd' hc) (by simp; exact (List.getElem?_eq_some_iff.1 ho).1) ?_; conv => whnf
  exact RetX.drop (Ext.jput hd' hc (Ext.refl _)) (hk h' s' az' (he4.trans f1) (hd'.put hc) f2 f3 f4)
end
end Go.Proofs.YgvalwGreat.X
