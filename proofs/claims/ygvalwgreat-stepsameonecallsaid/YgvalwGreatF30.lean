import Derived.Test.YgvalwGreatF29
set_option linter.unusedVariables false
set_option linter.unusedSimpArgs false
namespace Go.Proofs.YgvalwGreat.X
open Go

abbrev NtS (h : Hp) (s : Sl) (x : Int) : Prop := Nt h s.1 s.2.1 s.2.2 x
abbrev BytS (h : Hp) (s : Sl) (l : List Int) : Prop := Byt h s.1 s.2.1 s.2.2 l
abbrev nilS : Sl := (none, 0, 0)

structure YSlot where
  ks : Sl
  vs : Sl
  key : Int
  val : Int
def slotCells (x : YSlot) : List Value := [sl x.ks, sl x.vs]
structure YSlot.ok (h : Hp) (x : YSlot) : Prop where
  key : NtS h x.ks x.key
  val : NtS h x.vs x.val

structure YAcct where
  addr : List Int
  ns : Sl
  bs : Sl
  cs : Sl
  ss : Sl
  nonce : Int
  bal : Int
  code : List Int
  slots : List YSlot
def acRest (x : YAcct) : List Value := [sl x.ns, sl x.bs, sl x.cs, sl x.ss]
def acCells (x : YAcct) : List Value := bcells x.addr ++ acRest x
structure YAcct.ok (h : Hp) (x : YAcct) : Prop where
  addr : x.addr.length = 20
  nonce : NtS h x.ns x.nonce
  bal : NtS h x.bs x.bal
  code : BytS h x.cs x.code
  slots : Arr h x.ss 2 (x.slots.map slotCells)
  each : ∀ s ∈ x.slots, s.ok h
theorem YSlot.ok.ext {h h' : Hp} (he : Ext h h') {x : YSlot} (a : x.ok h) : x.ok h' := ⟨a.key.ext he, a.val.ext he⟩
theorem YAcct.ok.ext {h h' : Hp} (he : Ext h h') {x : YAcct} (a : x.ok h) : x.ok h' := ⟨a.addr, a.nonce.ext he, a.bal.ext he, a.code.ext he, a.slots.ext he, fun s hs => (a.each s hs).ext he⟩

def dfl (a : List Int) : YAcct := ⟨a, nilS, nilS, nilS, nilS, 0, 0, [], []⟩
theorem dfl_ok (h : Hp) {a : List Int} (ha : a.length = 20) : (dfl a).ok h := ⟨ha, Nt_nil h, Nt_nil h, Byt_nil h, Arr_nil h 2, fun s hs => by cases hs⟩

structure AccL (h : Hp) (s : Sl) (xs : List YAcct) : Prop where
  arr : Arr h s 24 (xs.map acCells)
  each : ∀ x ∈ xs, x.ok h
theorem AccL.ext {h h' : Hp} (he : Ext h h') {s xs} (a : AccL h s xs) : AccL h' s xs := ⟨a.arr.ext he, fun x hx => (a.each x hx).ext he⟩
theorem AccL.n {h : Hp} {s : Sl} {xs} (a : AccL h s xs) : xs.length = s.2.1 := by have := a.arr.len; simpa using this

/-- The account of an address; zeros if it is not listed. -/
def getA (xs : List YAcct) (a : List Int) : YAcct := (xs.find? fun x => x.addr = a).getD (dfl a)
theorem getA_ok {h : Hp} {xs : List YAcct} (hx : ∀ x ∈ xs, x.ok h) {a : List Int} (ha : a.length = 20) : (getA xs a).ok h := by
  unfold getA
  cases hf : xs.find? fun x => x.addr = a with
  | none => exact dfl_ok h ha
  | some x => exact hx x (List.mem_of_find?_eq_some hf)
theorem getA_addr {xs : List YAcct} {a : List Int} : (getA xs a).addr = a := by
  unfold getA
  cases hf : xs.find? fun x => x.addr = a with
  | none => rfl
  | some x => have := List.find?_some hf; simpa using this

section
variable {h : Hp} {K : Value → Hp → Prop}
theorem LoadX.adr {b : Nat} {a : List Int} {r : List Value} {t : TypeId} {KK : Value → Prop} (hb : h b = some (bcells a ++ r, t)) (ha : a.length = 20) (hk : KK (.agg (bcells a).toArray)) : LoadX true 20 h b 0 KK := by
  refine ⟨_, ?_, hk⟩
  have e : (bcells a).length = 20 := by rw [bcells_length, ha]
  simp only [ldV, hb, List.length_append, e]
  rw [if_pos (by omega)]
  simp [seg, ← e]
theorem LoadX.fld {b o sz : Nat} {a : List Int} {r : List Value} {t : TypeId} {v : Value} {KK : Value → Prop} (hb : h b = some (bcells a ++ r, t)) (ha : a.length = 20) (k : Nat) (ho : o = 20 + k) (hv : r[k]? = some v) (hk : KK v) : LoadX false sz h b o KK := by
  refine ⟨v, ?_, hk⟩
  have e : (bcells a).length = 20 := by rw [bcells_length, ha]
  subst ho
  simp only [ldV, hb]
  rw [List.getElem?_append_right (by omega), e, Nat.add_sub_cancel_left]
  exact hv
theorem LoadX.all {b n : Nat} {c : List Value} {t : TypeId} {KK : Value → Prop} (hb : h b = some (c, t)) (hn : c.length = n) (hk : KK (.agg c.toArray)) : LoadX true n h b 0 KK := by
  refine ⟨_, ?_, hk⟩
  subst hn
  simp [ldV, hb, seg]
theorem fillL_head {place : Nat → Option (Nat × Nat)} {z v : List Value} {n : Nat} {rest : List (Nat × Value)} (hp : place 0 = some (0, n)) (hv : v.length = n) (hz : n ≤ z.length) :
    fillL place z ((0, .agg v.toArray) :: rest) = fillL place (v ++ z.drop n) rest := by
  have hc : (Value.agg v.toArray).cells = v.toArray := rfl
  simp only [fillL, hp, hc, List.size_toArray, hv, Nat.zero_add]
  rw [if_pos ⟨trivial, hz⟩]
  simp [setSeg, hv]
theorem fillL_fld {place : Nat → Option (Nat × Nat)} {a r : List Value} {n k i : Nat} {v : Value} {rest : List (Nat × Value)} (ha : a.length = n) (hp : place i = some (n + k, 1)) (hv : v.cells = #[v]) (hr : k < r.length) :
    fillL place (a ++ r) ((i, v) :: rest) = fillL place (a ++ setSeg r k [v]) rest := by
  subst ha
  simp only [fillL, hp, hv]
  rw [if_pos ⟨by simp, by simp; omega⟩]
  have e1 : (a ++ r).take (a.length + k) = a ++ r.take k := List.take_length_add_append k
  have e2 : (a ++ r).drop (a.length + k + 1) = r.drop (k + 1) := by
    rw [Nat.add_assoc, ← List.drop_drop, List.drop_left]
  simp [setSeg, e1, e2]
theorem fillL_done {place : Nat → Option (Nat × Nat)} {z : List Value} : fillL place z [] = some z := rfl
def fok (v : Value) : Prop := ∀ K : Value → Prop, K v → force v K
theorem forceL_of {l : List Value} {KK : List Value → Prop} (hl : ∀ v ∈ l, fok v) (hk : KK l) : forceL l KK := by
  induction l generalizing KK with
  | nil => exact hk
  | cons v l ih =>
    show force v fun v => forceL l fun vs => KK (v :: vs)
    exact hl v (List.mem_cons_self ..) _ (ih (fun x hx => hl x (List.mem_cons_of_mem _ hx)) hk)
theorem fok_bcells {a : List Int} : ∀ v ∈ bcells a, fok v := fun v hv => by
  obtain ⟨x, -, rfl⟩ := List.mem_map.1 hv
  exact fun K hK => hK
theorem fok_sl (s : Sl) : fok (sl s) := fun K hK => hK
theorem fok_app {a b : List Value} (ha : ∀ v ∈ a, fok v) (hb : ∀ v ∈ b, fok v) : ∀ v ∈ a ++ b, fok v := fun v hv => (List.mem_append.1 hv).elim (ha v) (hb v)
theorem fok_acRest (x : YAcct) : ∀ v ∈ acRest x, fok v := fun v hv => by
  simp only [acRest, List.mem_cons, List.not_mem_nil, or_false] at hv
  rcases hv with rfl | rfl | rfl | rfl <;> exact fok_sl _
theorem acCells_len {x : YAcct} (hx : x.addr.length = 20) : (acCells x).length = 24 := by simp [acCells, acRest, bcells, hx]
theorem acCells_one (x : YAcct) : ones (acCells x) = true := ones_append (ones_bcells _) rfl
theorem eqAddr {a b : List Int} {t : Bool} (h : eqCells (bcells a).toArray.toList (bcells b).toArray.toList = t) : decide (a = b) = t := by
  rw [← eqCells_bcells]; exact h

set_option maxRecDepth 100000 in
set_option maxHeartbeats 4000000 in
theorem empty_ok {m : Nat} {t : TypeId} {x : YAcct} (hb : h m = some (acCells x, t)) (hx : x.ok h) (hk : K (.bool (decide (x.nonce = 0 ∧ x.bal = 0 ∧ x.code = []))) h) :
    CallX Hval.prog 172 [.pointer (some ⟨m, 0, none⟩)] h K := by
  refine CallX.of_xf T_ok Hval.func172 rfl (by kernel_rfl) (Nat.le_of_ble_eq_true rfl) ?_; conv => whnf
  refine LoadX.fld hb hx.addr 0 rfl (v := sl x.ns) rfl ?_; conv => whnf
  refine isZero_ok hx.nonce ?_; conv => whnf
  have hcl := hx.code.len
  by_cases h1 : x.nonce = 0
  · rw [decide_eq_true h1]
    repeat (first | (refine CondX.tt ?_; conv => whnf) | (refine CondX.ff ?_; conv => whnf))
    refine LoadX.fld hb hx.addr 1 rfl (v := sl x.bs) rfl ?_; conv => whnf
    repeat (first | (refine CondX.tt ?_; conv => whnf) | (refine CondX.ff ?_; conv => whnf))
    refine isZero_ok hx.bal ?_; conv => whnf
    repeat (first | (refine CondX.tt ?_; conv => whnf) | (refine CondX.ff ?_; conv => whnf))
    by_cases h2 : x.bal = 0
    · rw [decide_eq_true h2]
      repeat (first | (refine CondX.tt ?_; conv => whnf) | (refine CondX.ff ?_; conv => whnf))
      refine LoadX.fld hb hx.addr 2 rfl (v := sl x.cs) rfl ?_; conv => whnf
      repeat (first | (refine CondX.tt ?_; conv => whnf) | (refine CondX.ff ?_; conv => whnf))
      refine RetX.same ?_
      have : (((x.cs.2.1 : Nat) : Int) == 0) = decide (x.nonce = 0 ∧ x.bal = 0 ∧ x.code = []) := by
        rw [← hcl]
        simp only [h1, h2, true_and]
        rw [Bool.eq_iff_iff]
        simp
      rw [← this] at hk
      exact hk
    · rw [decide_eq_false h2]
      repeat (first | (refine CondX.tt ?_; conv => whnf) | (refine CondX.ff ?_; conv => whnf))
      refine RetX.same ?_
      simpa [h2] using hk
  · rw [decide_eq_false h1]
    repeat (first | (refine CondX.tt ?_; conv => whnf) | (refine CondX.ff ?_; conv => whnf))
    refine RetX.same ?_
    simpa [h1] using hk

set_option maxRecDepth 100000 in
set_option maxHeartbeats 4000000 in
theorem account_ok {c o : Nat} {cells : List Value} {t : TypeId} {s : Sl} {xs : List YAcct} {a : List Int} (hc : h c = some (cells, t)) (ho : cells[o]? = some (sl s)) (hA : Arr h s 24 (xs.map acCells)) (hX : ∀ x ∈ xs, x.addr.length = 20) (ha : a.length = 20) (hr : s.2.1 < 2 ^ 40)
    (hk : K (.agg (acCells (getA xs a)).toArray) h) : CallX Hval.prog 27 [.pointer (some ⟨c, o, none⟩), .agg (bcells a).toArray] h K := by
  refine CallX.of_xf T_ok Hval.func27 rfl (by kernel_rfl) (Nat.le_of_ble_eq_true rfl) ?_; conv => whnf
  have hn : xs.length = s.2.1 := by have := hA.len; simpa using this
  refine BoxX.mk fun m1 hm1 => ?_; conv => whnf
  refine BoxX.on fun m2 hm2 hbd2 => ?_; conv => whnf
  have hE : Ext h (hput (hput h m1 (bcells a, 31)) m2 ((118, y118).snd.zero, 118)) := (Ext.bd hm1).trans (Ext.bd hbd2)
  refine LoadX.blk (hE _ _ hc) (sl s) ho ?_; conv => whnf
  refine LoopX.st T_ok Hval.func27 (σ := Nat) (fun i => [(3, .pointer (some ⟨m1, 0, none⟩)), (4, .pointer (some ⟨m2, 0, none⟩)), (10, sl s), (11, .int .i64 s.2.1), (12, .int .i64 i)])
    (fun i h' => i ≤ s.2.1 ∧ Ext (hput (hput h m1 (bcells a, 31)) m2 ((118, y118).snd.zero, 118)) h' ∧ ∀ j, (hj : j < xs.length) → j < i → xs[j].addr ≠ a) (fun i => s.2.1 - i) 0
    ⟨rfl, rfl, rfl, rfl, rfl, trivial⟩ ⟨Nat.zero_le _, Ext.refl _, fun j _ hj => by omega⟩ ?_
  rintro i ρ h' ⟨hi, he, hne⟩ ih
  conv => whnf
  have hA' := hA.ext (hE.trans he)
  have hl1 : h' m1 = some (bcells a, 31) := he _ _ (by rw [hput_ne (by omega)]; exact hput_same ..)
  have hl2 : h' m2 = some ((118, y118).snd.zero, 118) := he _ _ (hput_same ..)
  refine CondX.decI (fun hc => ?_) (fun hc => ?_) <;> conv => whnf
  · have hc : i < s.2.1 := by omega
    refine IdxX.arr hA' (by omega) (by omega) (by omega) fun b off e => ?_; conv => whnf
    refine LoadX.elt hA' e i rfl hc ?_; conv => whnf
    rw [getD_map (by omega)]
    have hxl := hX _ (List.getElem_mem (show i < xs.length by omega))
    generalize hx : xs[i]'(by omega) = x at *
    have xone := acCells_one x
    have xlen := acCells_len hxl
    refine BoxX.mk fun m3 hm3 => ?_; conv => whnf
    refine Ob.mk ⟨by rw [List.size_toArray, xlen]; rfl, xone⟩ ?_; conv => whnf
    refine StoreX.same (by rw [List.toList_toArray, xlen]; decide) ?_; conv => whnf
    rw [setSeg_all (by rw [List.toList_toArray, xlen]; rfl)]
    refine LoadX.adr (a := x.addr) (r := acRest x) (t := 118) (hput_same ..) hxl ?_; conv => whnf
    have hne1 : m1 ≠ m3 := by have := hm3 _ _ hl1; omega
    have hne2 : m2 ≠ m3 := by have := hm3 _ _ hl2; omega
    refine LoadX.arr (l := a) (t := 31) (by rw [hput_ne hne1]; exact hl1) ha ?_; conv => whnf
    refine Ob.mk ⟨by simp [bcells, hxl], by simp [bcells, ha], by simpa using intCells_bcells x.addr, by simpa using intCells_bcells a⟩ ?_; conv => whnf
    refine CondX.mk (fun hq => ?_) (fun hq => ?_) <;> conv => whnf
    · have hq := of_decide_eq_true (eqAddr hq)
      have hget : getA xs a = x := by
        unfold getA
        have : xs.find? (fun x => x.addr = a) = some x := by
          rw [List.find?_eq_some_iff_getElem]
          refine ⟨by simpa using hq, i, by omega, hx, fun j hj => ?_⟩
          simpa using hne j (by omega) hj
        rw [this]; rfl
      refine LoadX.all (c := acCells x) (t := 118) (hput_same ..) (by rw [xlen]; rfl) ?_; conv => whnf
      refine Ob.mk ⟨by rw [List.size_toArray, xlen]; rfl, xone⟩ ?_; conv => whnf
      refine StoreX.ne hne2 (StoreX.at hl2 (by rw [List.toList_toArray, xlen]; decide) ?_); conv => whnf
      rw [setSeg_all (by rw [List.toList_toArray, xlen]; rfl)]
      refine LoadX.all (b := m2) (c := acCells x) (t := 118) (by rw [hput_ne hne2, hput_same]) (by rw [xlen]; rfl) ?_; conv => whnf
      rw [hget] at hk
      refine RetX.drop (h' := h) (fun b y hb => ?_) hk
      have q1 : b ≠ m3 := by have := hm3 _ _ (he _ _ (hE _ _ hb)); omega
      have q2 : b ≠ m2 := by rintro rfl; have := hbd2 _ _ ((Ext.bd hm1) _ _ hb); omega
      rw [hput_ne q1, hput_ne q2]; exact he _ _ (hE _ _ hb)
    · have hq := of_decide_eq_false (eqAddr hq)
      refine ih (i + 1) _ _ ⟨by omega, he.trans (Ext.bd hm3), fun j hj hji => ?_⟩ (by omega) ⟨rfl, rfl, rfl, rfl, congrArg (Value.int .i64) (wsucc (by omega)), trivial⟩
      by_cases e : j = i
      · subst e; rw [hx]; exact hq
      · exact hne j hj (by omega)
  · have hget : getA xs a = dfl a := by
      unfold getA
      have : xs.find? (fun x => x.addr = a) = none := by
        rw [List.find?_eq_none]
        intro x hx
        obtain ⟨j, hj, e⟩ := List.getElem_of_mem hx
        have := hne j hj (by omega)
        rw [e] at this
        simpa using this
      rw [this]; rfl
    refine LoadX.arr (l := a) (t := 31) hl1 ha ?_; conv => whnf
    have alen : (bcells a).length = 20 := by rw [bcells_length, ha]
    erw [fillL_head (n := 20) rfl alen (by decide), fillL_done]
    refine forceL_of (l := acCells (dfl a)) (fok_app fok_bcells (fok_acRest _)) ?_; conv => whnf
    have xlen := acCells_len (x := dfl a) ha
    have xone := acCells_one (dfl a)
    refine Ob.mk ⟨by rw [List.size_toArray, xlen]; rfl, xone⟩ ?_; conv => whnf
    refine StoreX.at hl2 (by rw [List.toList_toArray, xlen]; decide) ?_; conv => whnf
    rw [setSeg_all (by rw [List.toList_toArray, xlen]; rfl)]
    refine LoadX.all (b := m2) (c := acCells (dfl a)) (t := 118) (hput_same ..) (by rw [xlen]; rfl) ?_; conv => whnf
    rw [hget] at hk
    refine RetX.drop (h' := h) (fun b y hb => ?_) hk
    have q2 : b ≠ m2 := by rintro rfl; have := hbd2 _ _ ((Ext.bd hm1) _ _ hb); omega
    rw [hput_ne q2]; exact he _ _ (hE _ _ hb)
end
end Go.Proofs.YgvalwGreat.X
