import Derived.Test.YgvalwGreatF30
set_option linter.unusedVariables false
set_option linter.unusedSimpArgs false
namespace Go.Proofs.YgvalwGreat.X
open Go

/-- The list behind a put: 'e' tells whether the account is left out. -/
structure PutR (xs : List YAcct) (x : YAcct) (e : Bool) (ys : List YAcct) : Prop where
  find : ∀ b, (ys.find? fun y => y.addr = b) = if b = x.addr then (if e then none else some x) else (xs.find? fun y => y.addr = b)
  mem : ∀ y ∈ ys, y = x ∨ y ∈ xs
  len : ys.length ≤ xs.length + 1
structure PutI (xs : List YAcct) (x : YAcct) (e : Bool) (i : Nat) (laid : Bool) (bz : List YAcct) : Prop where
  find : ∀ b, (bz.find? fun y => y.addr = b) = if b = x.addr then (if laid && !e then some x else none) else ((xs.take i).find? fun y => y.addr = b)
  mem : ∀ y ∈ bz, y = x ∨ y ∈ xs
  len : bz.length ≤ i + (if laid && !e then 1 else 0)
  el : e = true → laid = true
section
variable {xs : List YAcct} {x y : YAcct} {e laid : Bool} {i : Nat} {bz : List YAcct}
theorem PutI.zero : PutI xs x e 0 e [] := ⟨fun b => (by cases e <;> simp), fun y hy => (by cases hy), (by simp), id⟩
theorem PutI.ins (p : PutI xs x e i false bz) : PutI xs x e i true (bz ++ [x]) := by
  have he : e = false := by cases e with | false => rfl | true => exact absurd (p.el rfl) (by decide)
  subst he
  refine ⟨fun b => ?_, fun y hy => ?_, ?_, fun h => by cases h⟩
  · rw [List.find?_append, p.find]
    by_cases hb : b = x.addr
    · subst hb; simp
    · have hb' : x.addr ≠ b := fun h => hb h.symm
      simp [hb, hb']
  · rcases List.mem_append.1 hy with h1 | h1
    · exact p.mem y h1
    · exact .inl (List.mem_singleton.1 h1)
  · have := p.len
    simp at this ⊢; omega
theorem PutI.keep (p : PutI xs x e i laid bz) (hi : i < xs.length) (hy : xs[i] = y) (hne : y.addr ≠ x.addr) : PutI xs x e (i + 1) laid (bz ++ [y]) := by
  refine ⟨fun b => ?_, fun z hz => ?_, ?_, p.el⟩
  · rw [List.find?_append, p.find, List.take_add_one, List.getElem?_eq_getElem hi, hy, List.find?_append]
    by_cases hb : b = x.addr
    · subst hb; simp [hne]
    · simp [hb]
  · rcases List.mem_append.1 hz with h1 | h1
    · exact p.mem z h1
    · rw [List.mem_singleton.1 h1, ← hy]; exact .inr (List.getElem_mem _)
  · have := p.len
    simp only [List.length_append, List.length_singleton]; omega
theorem PutI.skip (p : PutI xs x e i laid bz) (hi : i < xs.length) (hy : xs[i] = y) (hne : y.addr = x.addr) : PutI xs x e (i + 1) laid bz := by
  refine ⟨fun b => ?_, p.mem, by have := p.len; omega, p.el⟩
  rw [p.find, List.take_add_one, List.getElem?_eq_getElem hi, hy, List.find?_append]
  by_cases hb : b = x.addr
  · subst hb; simp
  · have hb' : ¬ (y.addr = b) := by rw [hne]; exact fun h => hb h.symm
    simp [hb, hb']
theorem PutI.fin (p : PutI xs x e i true bz) (hi : xs.length ≤ i) (hi2 : i ≤ xs.length) : PutR xs x e bz := by
  refine ⟨fun b => ?_, p.mem, ?_⟩
  · rw [p.find, List.take_of_length_le hi]
    cases e <;> simp
  · have := p.len
    cases e <;> simp at this <;> omega
end

theorem Dj.comm {a b : Hp} (h : Dj a b) : Dj b a := fun c => (h c).symm
theorem Ext.jl (a b : Hp) : Ext a (join a b) := fun c x hc => join_l hc
theorem join_hm {hi hm : Hp} (hd : Dj hi hm) {c : Nat} {x} (hc : hm c = some x) : join hi hm c = some x := by
  rw [join_r]; exact hc
  rcases hd c with h1 | h1
  · exact h1
  · rw [hc] at h1; cases h1
theorem Dj.put {hi hm : Hp} (hd : Dj hi hm) {c : Nat} {x y} (hc : hm c = some x) : Dj hi (hput hm c y) := fun b => by
  by_cases hb : b = c
  · subst hb
    rcases hd b with h1 | h1
    · exact .inl h1
    · rw [hc] at h1; cases h1
  · rw [hput_ne hb]; exact hd b
theorem Ext.jput {hi hm h : Hp} (hd : Dj hi hm) {c : Nat} {x y} (hc : hm c = some x) (he : Ext (join hi hm) h) : Ext (join hi (hput hm c y)) (hput h c y) := fun b z hz => by
  have hd' := hd.put (y := y) hc
  by_cases hb : b = c
  · subst hb
    rw [join_hm hd' (hput_same ..)] at hz
    rw [hput_same]; exact hz
  · rw [hput_ne hb]
    refine he _ _ ?_
    unfold join at hz ⊢
    split
    · rename_i q; rw [q] at hz; exact hz
    · rename_i q; rw [q] at hz; simp only [hput_ne hb] at hz; exact hz
/-- What was built is laid beside the immutable part. -/
theorem Bld.finish {hi hm h0 h' : Hp} {sz : Nat} {s : Sl} {es} (b : Bld h0 h' sz s es) (he : Ext (join hi hm) h0) (hd : Dj hi hm) :
    ∃ hi', Ext hi hi' ∧ Arr hi' s sz es ∧ Dj hi' hm ∧ Ext (join hi' hm) h' := by
  rcases b.blk with ⟨h1, h2, h3⟩ | ⟨m, pad, t, h1, h2, h3, h4, h5⟩
  · refine ⟨hi, Ext.refl _, ?_, hd, he.trans b.ext⟩
    have hl := b.len
    obtain ⟨s1, s2, s3⟩ := s
    simp only at h1 h2 hl
    subst h1 h2 h3
    simp at hl; subst hl
    exact Arr_nil hi sz
  · have hjn : join hi hm m = none := by
      cases hx : join hi hm m with
      | none => rfl
      | some x => rw [he _ _ hx] at h2; cases h2
    have hin : hi m = none := by
      cases hx : hi m with
      | none => rfl
      | some x => rw [join_l hx] at hjn; cases hjn
    have hmn : hm m = none := by rw [join_r hin] at hjn; exact hjn
    have B' : Bld hi (hput hi m (es.flatten ++ pad, t)) sz s es := ⟨Ext.new hin, b.szs, b.one, b.len, .inr ⟨m, pad, t, h1, hin, hput_same .., h4, h5⟩⟩
    refine ⟨hput hi m (es.flatten ++ pad, t), Ext.new hin, B'.arr, fun c => ?_, fun c x hx => ?_⟩
    · by_cases hc : c = m
      · subst hc; exact .inr hmn
      · rw [hput_ne hc]; exact hd c
    · by_cases hc : c = m
      · subst hc; rw [join_l (hput_same ..)] at hx; rw [h3]; exact hx
      · refine (he.trans b.ext) _ _ ?_
        unfold join at hx ⊢
        rw [hput_ne hc] at hx
        exact hx

def lone (x : YAcct) : Bool := decide (x.nonce = 0 ∧ x.bal = 0 ∧ x.code = []) && decide (x.slots = [])

section
variable {hi hm : Hp} {K : Value → Hp → Prop}




set_option maxRecDepth 100000 in
set_option maxHeartbeats 4000000 in
theorem put_ok (hd : Dj hi hm) {c o : Nat} {cells : List Value} {t : TypeId} {s : Sl} {xs : List YAcct} {x : YAcct} (hc : hm c = some (cells, t)) (ho : cells[o]? = some (sl s)) (hA : AccL hi s xs) (hx : x.ok hi) (hr : s.2.1 < 2 ^ 30)
    (hk : ∀ hi' s' ys, Ext hi hi' → Dj hi' (hput hm c (setSeg cells o [sl s'], t)) → AccL hi' s' ys → PutR xs x (lone x) ys → K (.tuple #[]) (join hi' (hput hm c (setSeg cells o [sl s'], t)))) :
    CallX Hval.prog 94 [.pointer (some ⟨c, o, none⟩), .agg (acCells x).toArray] (join hi hm) K := by
  refine CallX.of_xf T_ok Hval.func94 rfl (by kernel_rfl) (Nat.le_of_ble_eq_true rfl) ?_; conv => whnf
  have hn := hA.n
  have hjc := join_hm hd hc
  have xlen := acCells_len hx.addr
  have xone := acCells_one x
  refine BoxX.mk fun m3 hm3 => ?_; conv => whnf
  have hX0 : hput (join hi hm) m3 (acCells x, 118) m3 = some (acCells x, 118) := hput_same ..
  have hEx : Ext hi (hput (join hi hm) m3 (acCells x, 118)) := (Ext.jl hi hm).trans (Ext.bd hm3)
  refine empty_ok hX0 (hx.ext hEx) ?_; conv => whnf
  have hsl : x.ss.2.1 = x.slots.length := by have := hx.slots.len; simpa using this.symm
  have lay : ∀ (P' : Value → Prop), P' (.bool (lone x)) → P' (.bool (lone x)) := fun _ h => h
  have main : LoadX false 1 (hput (join hi hm) m3 (acCells x, 118)) c o fun v => v = sl s := ⟨_, by simp [ldV, Ext.bd hm3 _ _ hjc, ho], rfl⟩
  by_cases h1 : x.nonce = 0 ∧ x.bal = 0 ∧ x.code = []
  · rw [decide_eq_true h1]
    repeat (first | (refine CondX.tt ?_; conv => whnf) | (refine CondX.ff ?_; conv => whnf))
    refine LoadX.fld hX0 hx.addr 3 rfl (v := sl x.ss) rfl ?_; conv => whnf
    repeat (first | (refine CondX.tt ?_; conv => whnf) | (refine CondX.ff ?_; conv => whnf))
    have e0 : (((x.ss.2.1 : Nat) : Int) == 0) = lone x := by
      rw [lone, decide_eq_true h1, Bool.true_and, hsl]
      rw [Bool.eq_iff_iff]; simp
    refine LoadX.blk (Ext.bd hm3 _ _ hjc) (sl s) ho ?_; conv => whnf
    refine LoopX.st T_ok Hval.func94 (σ := Nat × Bool × Sl × List YAcct) (fun s0 => [(0, .pointer (some ⟨c, o, none⟩)), (3, .pointer (some ⟨m3, 0, none⟩)), (4, sl s0.2.2.1), (5, .bool s0.2.1), (18, sl s), (19, .int .i64 s.2.1), (20, .int .i64 s0.1)])
      (fun s0 h' => s0.1 ≤ s.2.1 ∧ Bld (hput (join hi hm) m3 (acCells x, 118)) h' 24 s0.2.2.1 (s0.2.2.2.map acCells) ∧ PutI xs x (lone x) s0.1 s0.2.1 s0.2.2.2) (fun s0 => s.2.1 - s0.1) (0, lone x, (none, 0, 0), [])
      ⟨rfl, rfl, rfl, (congrArg Value.bool e0), rfl, rfl, rfl, trivial⟩ ⟨Nat.zero_le _, Bld.nil (Ext.refl _), PutI.zero⟩ ?_
    rintro ⟨i, laid, so, bz⟩ ρ h' ⟨hi1, B, P⟩ ih
    simp only at hi1 B P ⊢
    conv => whnf
    have hA' := hA.ext (hEx.trans B.ext)
    have hbn := B.len
    simp only [List.length_map] at hbn
    have hbl : bz.length ≤ i + 1 := by have := P.len; split at this <;> omega
    refine CondX.decI (fun hci => ?_) (fun hci => ?_) <;> conv => whnf
    · have hci : i < s.2.1 := by omega
      refine IdxX.arr hA'.arr (by omega) (by omega) (by omega) fun b off e => ?_; conv => whnf
      refine LoadX.elt hA'.arr e i rfl hci ?_; conv => whnf
      rw [getD_map (by omega)]
      have hyl := (hA.each _ (List.getElem_mem (show i < xs.length by omega))).addr
      generalize hy : xs[i]'(by omega) = y at *
      have yone := acCells_one y
      have ylen := acCells_len hyl
      refine BoxX.mk fun m7 hm7 => ?_; conv => whnf
      refine Ob.mk ⟨by rw [List.size_toArray, ylen]; rfl, yone⟩ ?_; conv => whnf
      refine StoreX.same (by rw [List.toList_toArray, ylen]; decide) ?_; conv => whnf
      rw [setSeg_all (by rw [List.toList_toArray, ylen]; rfl)]
      have B0 := B
      replace B := B.box (x := (acCells y, 118)) hm7
      have hne7 : m3 ≠ m7 := by have := hm7 _ _ (B0.ext _ _ hX0); omega
      have hl7 : hput h' m7 (acCells y, 118) m7 = some (acCells y, 118) := hput_same ..
      have hl3 : hput h' m7 (acCells y, 118) m3 = some (acCells x, 118) := by rw [hput_ne hne7]; exact B0.ext _ _ hX0
      cases hlaid : laid with
      | true =>
        subst hlaid
        repeat (first | (refine CondX.tt ?_; conv => whnf) | (refine CondX.ff ?_; conv => whnf))
        have hlB : (hput h' m7 (acCells y, 118)) m7 = some (acCells y, 118) := B.ext _ _ (hput_same ..)
        have hlA : (hput h' m7 (acCells y, 118)) m3 = some (acCells x, 118) := B.ext _ _ (by rw [hput_ne hne7]; exact hput_same ..)
        refine LoadX.adr (a := y.addr) (r := acRest y) hlB hyl ?_; conv => whnf
        refine LoadX.adr (a := x.addr) (r := acRest x) hlA hx.addr ?_; conv => whnf
        refine Ob.mk ⟨by simp [bcells, hyl], by simp [bcells, hx.addr], by simpa using intCells_bcells y.addr, by simpa using intCells_bcells x.addr⟩ ?_; conv => whnf
        refine CondX.notI (fun hq => ?_) (fun hq => ?_) <;> conv => whnf
        · have hq := of_decide_eq_false (eqAddr hq)
          refine LoadX.all (c := acCells y) hlB (by rw [ylen]; rfl) ?_; conv => whnf
          have hn9 := B.len
          simp only [List.length_append, List.length_map, List.length_singleton] at hn9
          erw [fillL_box (v := (acCells y)) ylen rfl]; conv => whnf
          refine Ob.mk (by first | decide | omega) ?_; conv => whnf
          refine BoxX.mk fun m8 hm8 => ?_; conv => whnf
          refine AppendX.bld (sz := 24) (bytes := 120) (B.box hm8) (rd_own ylen) ylen rfl yone (by decide) (by omega) fun s8 h8 B8 => ?_; conv => whnf
          replace B8 := B8.weaken (Ext.bd (B.bd hm8))
          refine ih (i + 1, true, s8, bz ++ [y]) _ _ ⟨by dsimp only; omega, ?_, (P).keep (by omega) hy hq⟩ (by dsimp only; omega) ⟨rfl, rfl, rfl, rfl, rfl, rfl, congrArg (Value.int .i64) (wsucc (by omega)), trivial⟩
          refine Bld.weaken (Ext.bd (x := (acCells y, 118)) (Bld.bd B0 hm7)) ?_
          simpa using B8
        · have hq := of_decide_eq_true (eqAddr hq)
          refine ih (i + 1, true, _, bz) _ _ ⟨by dsimp only; omega, ?_, (P).skip (by omega) hy hq⟩ (by dsimp only; omega) ⟨rfl, rfl, rfl, rfl, rfl, rfl, congrArg (Value.int .i64) (wsucc (by omega)), trivial⟩
          refine Bld.weaken (Ext.bd (x := (acCells y, 118)) (Bld.bd B0 hm7)) ?_
          simpa using B
      | false =>
        subst hlaid
        repeat (first | (refine CondX.tt ?_; conv => whnf) | (refine CondX.ff ?_; conv => whnf))
        refine LoadX.adr (a := y.addr) (r := acRest y) hl7 hyl ?_; conv => whnf
        repeat (first | (refine CondX.tt ?_; conv => whnf) | (refine CondX.ff ?_; conv => whnf))
        refine LoadX.adr (a := x.addr) (r := acRest x) hl3 hx.addr ?_; conv => whnf
        repeat (first | (refine CondX.tt ?_; conv => whnf) | (refine CondX.ff ?_; conv => whnf))
        refine before_ok hyl hx.addr fun t => ?_; conv => whnf
        repeat (first | (refine CondX.tt ?_; conv => whnf) | (refine CondX.ff ?_; conv => whnf))
        cases t with
        | false =>
          repeat (first | (refine CondX.tt ?_; conv => whnf) | (refine CondX.ff ?_; conv => whnf))
          refine LoadX.all (c := acCells x) hl3 (by rw [xlen]; rfl) ?_; conv => whnf
          erw [fillL_box (v := (acCells x)) xlen rfl]; conv => whnf
          refine Ob.mk (by first | decide | omega) ?_; conv => whnf
          refine BoxX.mk fun m8 hm8 => ?_; conv => whnf
          refine AppendX.bld (sz := 24) (bytes := 120) (B.box hm8) (rd_own xlen) xlen rfl xone (by decide) (by omega) fun s8 h8 B8 => ?_; conv => whnf
          replace B8 := B8.weaken (Ext.bd (B.bd hm8))
          have B7 := B8
          clear hm8
          have hlB : h8 m7 = some (acCells y, 118) := B7.ext _ _ (hput_same ..)
          have hlA : h8 m3 = some (acCells x, 118) := B7.ext _ _ (by rw [hput_ne hne7]; exact hput_same ..)
          refine LoadX.adr (a := y.addr) (r := acRest y) hlB hyl ?_; conv => whnf
          refine LoadX.adr (a := x.addr) (r := acRest x) hlA hx.addr ?_; conv => whnf
          refine Ob.mk ⟨by simp [bcells, hyl], by simp [bcells, hx.addr], by simpa using intCells_bcells y.addr, by simpa using intCells_bcells x.addr⟩ ?_; conv => whnf
          refine CondX.notI (fun hq => ?_) (fun hq => ?_) <;> conv => whnf
          · have hq := of_decide_eq_false (eqAddr hq)
            refine LoadX.all (c := acCells y) hlB (by rw [ylen]; rfl) ?_; conv => whnf
            have hn9 := B7.len
            simp only [List.length_append, List.length_map, List.length_singleton] at hn9
            erw [fillL_box (v := (acCells y)) ylen rfl]; conv => whnf
            refine Ob.mk (by first | decide | omega) ?_; conv => whnf
            refine BoxX.mk fun m8 hm8 => ?_; conv => whnf
            refine AppendX.bld (sz := 24) (bytes := 120) (B7.box hm8) (rd_own ylen) ylen rfl yone (by decide) (by omega) fun s8 h8 B8 => ?_; conv => whnf
            replace B8 := B8.weaken (Ext.bd (B7.bd hm8))
            refine ih (i + 1, true, s8, (bz ++ [x]) ++ [y]) _ _ ⟨by dsimp only; omega, ?_, ((PutI.ins P)).keep (by omega) hy hq⟩ (by dsimp only; omega) ⟨rfl, rfl, rfl, rfl, rfl, rfl, congrArg (Value.int .i64) (wsucc (by omega)), trivial⟩
            refine Bld.weaken (Ext.bd (x := (acCells y, 118)) (Bld.bd B0 hm7)) ?_
            simpa using B8
          · have hq := of_decide_eq_true (eqAddr hq)
            refine ih (i + 1, true, _, (bz ++ [x])) _ _ ⟨by dsimp only; omega, ?_, ((PutI.ins P)).skip (by omega) hy hq⟩ (by dsimp only; omega) ⟨rfl, rfl, rfl, rfl, rfl, rfl, congrArg (Value.int .i64) (wsucc (by omega)), trivial⟩
            refine Bld.weaken (Ext.bd (x := (acCells y, 118)) (Bld.bd B0 hm7)) ?_
            simpa using B7
        | true =>
          repeat (first | (refine CondX.tt ?_; conv => whnf) | (refine CondX.ff ?_; conv => whnf))
          have hlB : (hput h' m7 (acCells y, 118)) m7 = some (acCells y, 118) := B.ext _ _ (hput_same ..)
          have hlA : (hput h' m7 (acCells y, 118)) m3 = some (acCells x, 118) := B.ext _ _ (by rw [hput_ne hne7]; exact hput_same ..)
          refine LoadX.adr (a := y.addr) (r := acRest y) hlB hyl ?_; conv => whnf
          refine LoadX.adr (a := x.addr) (r := acRest x) hlA hx.addr ?_; conv => whnf
          refine Ob.mk ⟨by simp [bcells, hyl], by simp [bcells, hx.addr], by simpa using intCells_bcells y.addr, by simpa using intCells_bcells x.addr⟩ ?_; conv => whnf
          refine CondX.notI (fun hq => ?_) (fun hq => ?_) <;> conv => whnf
          · have hq := of_decide_eq_false (eqAddr hq)
            refine LoadX.all (c := acCells y) hlB (by rw [ylen]; rfl) ?_; conv => whnf
            have hn9 := B.len
            simp only [List.length_append, List.length_map, List.length_singleton] at hn9
            erw [fillL_box (v := (acCells y)) ylen rfl]; conv => whnf
            refine Ob.mk (by first | decide | omega) ?_; conv => whnf
            refine BoxX.mk fun m8 hm8 => ?_; conv => whnf
            refine AppendX.bld (sz := 24) (bytes := 120) (B.box hm8) (rd_own ylen) ylen rfl yone (by decide) (by omega) fun s8 h8 B8 => ?_; conv => whnf
            replace B8 := B8.weaken (Ext.bd (B.bd hm8))
            refine ih (i + 1, false, s8, bz ++ [y]) _ _ ⟨by dsimp only; omega, ?_, (P).keep (by omega) hy hq⟩ (by dsimp only; omega) ⟨rfl, rfl, rfl, rfl, rfl, rfl, congrArg (Value.int .i64) (wsucc (by omega)), trivial⟩
            refine Bld.weaken (Ext.bd (x := (acCells y, 118)) (Bld.bd B0 hm7)) ?_
            simpa using B8
          · have hq := of_decide_eq_true (eqAddr hq)
            refine ih (i + 1, false, _, bz) _ _ ⟨by dsimp only; omega, ?_, (P).skip (by omega) hy hq⟩ (by dsimp only; omega) ⟨rfl, rfl, rfl, rfl, rfl, rfl, congrArg (Value.int .i64) (wsucc (by omega)), trivial⟩
            refine Bld.weaken (Ext.bd (x := (acCells y, 118)) (Bld.bd B0 hm7)) ?_
            simpa using B
    · have hci1 : i = s.2.1 := by omega
      cases hlaid : laid with
      | true =>
        subst hlaid
        repeat (first | (refine CondX.tt ?_; conv => whnf) | (refine CondX.ff ?_; conv => whnf))
        obtain ⟨hi', f1, f2, f3, f4⟩ := (show Bld (hput (join hi hm) m3 (acCells x, 118)) _ 24 _ (List.map acCells bz) by simpa using B).finish (Ext.bd hm3) hd
        refine StoreX.at (f4 _ _ (join_hm f3 hc)) (by simp; exact (List.getElem?_eq_some_iff.1 ho).1) ?_; conv => whnf
        refine RetX.drop (Ext.jput f3 hc f4) (hk hi' _ bz f1 (f3.put hc) ⟨f2, fun z hz => ?_⟩ (PutI.fin P (by omega) (by omega)))
        rcases ((PutI.fin P (by omega) (by omega))).mem z hz with rfl | h1
        · exact hx.ext f1
        · exact (hA.each z h1).ext f1
      | false =>
        subst hlaid
        repeat (first | (refine CondX.tt ?_; conv => whnf) | (refine CondX.ff ?_; conv => whnf))
        refine LoadX.all (c := acCells x) (B.ext _ _ hX0) (by rw [xlen]; rfl) ?_; conv => whnf
        erw [fillL_box (v := (acCells x)) xlen rfl]; conv => whnf
        refine Ob.mk (by first | decide | omega) ?_; conv => whnf
        refine BoxX.mk fun m8 hm8 => ?_; conv => whnf
        refine AppendX.bld (sz := 24) (bytes := 120) (B.box hm8) (rd_own xlen) xlen rfl xone (by decide) (by omega) fun s8 h8 B8 => ?_; conv => whnf
        replace B8 := B8.weaken (Ext.bd (B.bd hm8))
        obtain ⟨hi', f1, f2, f3, f4⟩ := (show Bld (hput (join hi hm) m3 (acCells x, 118)) _ 24 _ (List.map acCells (bz ++ [x])) by simpa using B8).finish (Ext.bd hm3) hd
        refine StoreX.at (f4 _ _ (join_hm f3 hc)) (by simp; exact (List.getElem?_eq_some_iff.1 ho).1) ?_; conv => whnf
        refine RetX.drop (Ext.jput f3 hc f4) (hk hi' _ (bz ++ [x]) f1 (f3.put hc) ⟨f2, fun z hz => ?_⟩ (PutI.fin (PutI.ins P) (by omega) (by omega)))
        rcases ((PutI.fin (PutI.ins P) (by omega) (by omega))).mem z hz with rfl | h1
        · exact hx.ext f1
        · exact (hA.each z h1).ext f1
  · rw [decide_eq_false h1]
    repeat (first | (refine CondX.tt ?_; conv => whnf) | (refine CondX.ff ?_; conv => whnf))
    have e0 : false = lone x := by rw [lone, decide_eq_false h1]; rfl
    refine LoadX.blk (Ext.bd hm3 _ _ hjc) (sl s) ho ?_; conv => whnf
    refine LoopX.st T_ok Hval.func94 (σ := Nat × Bool × Sl × List YAcct) (fun s0 => [(0, .pointer (some ⟨c, o, none⟩)), (3, .pointer (some ⟨m3, 0, none⟩)), (4, sl s0.2.2.1), (5, .bool s0.2.1), (18, sl s), (19, .int .i64 s.2.1), (20, .int .i64 s0.1)])
      (fun s0 h' => s0.1 ≤ s.2.1 ∧ Bld (hput (join hi hm) m3 (acCells x, 118)) h' 24 s0.2.2.1 (s0.2.2.2.map acCells) ∧ PutI xs x (lone x) s0.1 s0.2.1 s0.2.2.2) (fun s0 => s.2.1 - s0.1) (0, lone x, (none, 0, 0), [])
      ⟨rfl, rfl, rfl, (congrArg Value.bool e0), rfl, rfl, rfl, trivial⟩ ⟨Nat.zero_le _, Bld.nil (Ext.refl _), PutI.zero⟩ ?_
    rintro ⟨i, laid, so, bz⟩ ρ h' ⟨hi1, B, P⟩ ih
    simp only at hi1 B P ⊢
    conv => whnf
    have hA' := hA.ext (hEx.trans B.ext)
    have hbn := B.len
    simp only [List.length_map] at hbn
    have hbl : bz.length ≤ i + 1 := by have := P.len; split at this <;> omega
    refine CondX.decI (fun hci => ?_) (fun hci => ?_) <;> conv => whnf
    · have hci : i < s.2.1 := by omega
      refine IdxX.arr hA'.arr (by omega) (by omega) (by omega) fun b off e => ?_; conv => whnf
      refine LoadX.elt hA'.arr e i rfl hci ?_; conv => whnf
      rw [getD_map (by omega)]
      have hyl := (hA.each _ (List.getElem_mem (show i < xs.length by omega))).addr
      generalize hy : xs[i]'(by omega) = y at *
      have yone := acCells_one y
      have ylen := acCells_len hyl
      refine BoxX.mk fun m7 hm7 => ?_; conv => whnf
      refine Ob.mk ⟨by rw [List.size_toArray, ylen]; rfl, yone⟩ ?_; conv => whnf
      refine StoreX.same (by rw [List.toList_toArray, ylen]; decide) ?_; conv => whnf
      rw [setSeg_all (by rw [List.toList_toArray, ylen]; rfl)]
      have B0 := B
      replace B := B.box (x := (acCells y, 118)) hm7
      have hne7 : m3 ≠ m7 := by have := hm7 _ _ (B0.ext _ _ hX0); omega
      have hl7 : hput h' m7 (acCells y, 118) m7 = some (acCells y, 118) := hput_same ..
      have hl3 : hput h' m7 (acCells y, 118) m3 = some (acCells x, 118) := by rw [hput_ne hne7]; exact B0.ext _ _ hX0
      cases hlaid : laid with
      | true =>
        subst hlaid
        repeat (first | (refine CondX.tt ?_; conv => whnf) | (refine CondX.ff ?_; conv => whnf))
        have hlB : (hput h' m7 (acCells y, 118)) m7 = some (acCells y, 118) := B.ext _ _ (hput_same ..)
        have hlA : (hput h' m7 (acCells y, 118)) m3 = some (acCells x, 118) := B.ext _ _ (by rw [hput_ne hne7]; exact hput_same ..)
        refine LoadX.adr (a := y.addr) (r := acRest y) hlB hyl ?_; conv => whnf
        refine LoadX.adr (a := x.addr) (r := acRest x) hlA hx.addr ?_; conv => whnf
        refine Ob.mk ⟨by simp [bcells, hyl], by simp [bcells, hx.addr], by simpa using intCells_bcells y.addr, by simpa using intCells_bcells x.addr⟩ ?_; conv => whnf
        refine CondX.notI (fun hq => ?_) (fun hq => ?_) <;> conv => whnf
        · have hq := of_decide_eq_false (eqAddr hq)
          refine LoadX.all (c := acCells y) hlB (by rw [ylen]; rfl) ?_; conv => whnf
          have hn9 := B.len
          simp only [List.length_append, List.length_map, List.length_singleton] at hn9
          erw [fillL_box (v := (acCells y)) ylen rfl]; conv => whnf
          refine Ob.mk (by first | decide | omega) ?_; conv => whnf
          refine BoxX.mk fun m8 hm8 => ?_; conv => whnf
          refine AppendX.bld (sz := 24) (bytes := 120) (B.box hm8) (rd_own ylen) ylen rfl yone (by decide) (by omega) fun s8 h8 B8 => ?_; conv => whnf
          replace B8 := B8.weaken (Ext.bd (B.bd hm8))
          refine ih (i + 1, true, s8, bz ++ [y]) _ _ ⟨by dsimp only; omega, ?_, (P).keep (by omega) hy hq⟩ (by dsimp only; omega) ⟨rfl, rfl, rfl, rfl, rfl, rfl, congrArg (Value.int .i64) (wsucc (by omega)), trivial⟩
          refine Bld.weaken (Ext.bd (x := (acCells y, 118)) (Bld.bd B0 hm7)) ?_
          simpa using B8
        · have hq := of_decide_eq_true (eqAddr hq)
          refine ih (i + 1, true, _, bz) _ _ ⟨by dsimp only; omega, ?_, (P).skip (by omega) hy hq⟩ (by dsimp only; omega) ⟨rfl, rfl, rfl, rfl, rfl, rfl, congrArg (Value.int .i64) (wsucc (by omega)), trivial⟩
          refine Bld.weaken (Ext.bd (x := (acCells y, 118)) (Bld.bd B0 hm7)) ?_
          simpa using B
      | false =>
        subst hlaid
        repeat (first | (refine CondX.tt ?_; conv => whnf) | (refine CondX.ff ?_; conv => whnf))
        refine LoadX.adr (a := y.addr) (r := acRest y) hl7 hyl ?_; conv => whnf
        repeat (first | (refine CondX.tt ?_; conv => whnf) | (refine CondX.ff ?_; conv => whnf))
        refine LoadX.adr (a := x.addr) (r := acRest x) hl3 hx.addr ?_; conv => whnf
        repeat (first | (refine CondX.tt ?_; conv => whnf) | (refine CondX.ff ?_; conv => whnf))
        refine before_ok hyl hx.addr fun t => ?_; conv => whnf
        repeat (first | (refine CondX.tt ?_; conv => whnf) | (refine CondX.ff ?_; conv => whnf))
        cases t with
        | false =>
          repeat (first | (refine CondX.tt ?_; conv => whnf) | (refine CondX.ff ?_; conv => whnf))
          refine LoadX.all (c := acCells x) hl3 (by rw [xlen]; rfl) ?_; conv => whnf
          erw [fillL_box (v := (acCells x)) xlen rfl]; conv => whnf
          refine Ob.mk (by first | decide | omega) ?_; conv => whnf
          refine BoxX.mk fun m8 hm8 => ?_; conv => whnf
          refine AppendX.bld (sz := 24) (bytes := 120) (B.box hm8) (rd_own xlen) xlen rfl xone (by decide) (by omega) fun s8 h8 B8 => ?_; conv => whnf
          replace B8 := B8.weaken (Ext.bd (B.bd hm8))
          have B7 := B8
          clear hm8
          have hlB : h8 m7 = some (acCells y, 118) := B7.ext _ _ (hput_same ..)
          have hlA : h8 m3 = some (acCells x, 118) := B7.ext _ _ (by rw [hput_ne hne7]; exact hput_same ..)
          refine LoadX.adr (a := y.addr) (r := acRest y) hlB hyl ?_; conv => whnf
          refine LoadX.adr (a := x.addr) (r := acRest x) hlA hx.addr ?_; conv => whnf
          refine Ob.mk ⟨by simp [bcells, hyl], by simp [bcells, hx.addr], by simpa using intCells_bcells y.addr, by simpa using intCells_bcells x.addr⟩ ?_; conv => whnf
          refine CondX.notI (fun hq => ?_) (fun hq => ?_) <;> conv => whnf
          · have hq := of_decide_eq_false (eqAddr hq)
            refine LoadX.all (c := acCells y) hlB (by rw [ylen]; rfl) ?_; conv => whnf
            have hn9 := B7.len
            simp only [List.length_append, List.length_map, List.length_singleton] at hn9
            erw [fillL_box (v := (acCells y)) ylen rfl]; conv => whnf
            refine Ob.mk (by first | decide | omega) ?_; conv => whnf
            refine BoxX.mk fun m8 hm8 => ?_; conv => whnf
            refine AppendX.bld (sz := 24) (bytes := 120) (B7.box hm8) (rd_own ylen) ylen rfl yone (by decide) (by omega) fun s8 h8 B8 => ?_; conv => whnf
            replace B8 := B8.weaken (Ext.bd (B7.bd hm8))
            refine ih (i + 1, true, s8, (bz ++ [x]) ++ [y]) _ _ ⟨by dsimp only; omega, ?_, ((PutI.ins P)).keep (by omega) hy hq⟩ (by dsimp only; omega) ⟨rfl, rfl, rfl, rfl, rfl, rfl, congrArg (Value.int .i64) (wsucc (by omega)), trivial⟩
            refine Bld.weaken (Ext.bd (x := (acCells y, 118)) (Bld.bd B0 hm7)) ?_
            simpa using B8
          · have hq := of_decide_eq_true (eqAddr hq)
            refine ih (i + 1, true, _, (bz ++ [x])) _ _ ⟨by dsimp only; omega, ?_, ((PutI.ins P)).skip (by omega) hy hq⟩ (by dsimp only; omega) ⟨rfl, rfl, rfl, rfl, rfl, rfl, congrArg (Value.int .i64) (wsucc (by omega)), trivial⟩
            refine Bld.weaken (Ext.bd (x := (acCells y, 118)) (Bld.bd B0 hm7)) ?_
            simpa using B7
        | true =>
          repeat (first | (refine CondX.tt ?_; conv => whnf) | (refine CondX.ff ?_; conv => whnf))
          have hlB : (hput h' m7 (acCells y, 118)) m7 = some (acCells y, 118) := B.ext _ _ (hput_same ..)
          have hlA : (hput h' m7 (acCells y, 118)) m3 = some (acCells x, 118) := B.ext _ _ (by rw [hput_ne hne7]; exact hput_same ..)
          refine LoadX.adr (a := y.addr) (r := acRest y) hlB hyl ?_; conv => whnf
          refine LoadX.adr (a := x.addr) (r := acRest x) hlA hx.addr ?_; conv => whnf
          refine Ob.mk ⟨by simp [bcells, hyl], by simp [bcells, hx.addr], by simpa using intCells_bcells y.addr, by simpa using intCells_bcells x.addr⟩ ?_; conv => whnf
          refine CondX.notI (fun hq => ?_) (fun hq => ?_) <;> conv => whnf
          · have hq := of_decide_eq_false (eqAddr hq)
            refine LoadX.all (c := acCells y) hlB (by rw [ylen]; rfl) ?_; conv => whnf
            have hn9 := B.len
            simp only [List.length_append, List.length_map, List.length_singleton] at hn9
            erw [fillL_box (v := (acCells y)) ylen rfl]; conv => whnf
            refine Ob.mk (by first | decide | omega) ?_; conv => whnf
            refine BoxX.mk fun m8 hm8 => ?_; conv => whnf
            refine AppendX.bld (sz := 24) (bytes := 120) (B.box hm8) (rd_own ylen) ylen rfl yone (by decide) (by omega) fun s8 h8 B8 => ?_; conv => whnf
            replace B8 := B8.weaken (Ext.bd (B.bd hm8))
            refine ih (i + 1, false, s8, bz ++ [y]) _ _ ⟨by dsimp only; omega, ?_, (P).keep (by omega) hy hq⟩ (by dsimp only; omega) ⟨rfl, rfl, rfl, rfl, rfl, rfl, congrArg (Value.int .i64) (wsucc (by omega)), trivial⟩
            refine Bld.weaken (Ext.bd (x := (acCells y, 118)) (Bld.bd B0 hm7)) ?_
            simpa using B8
          · have hq := of_decide_eq_true (eqAddr hq)
            refine ih (i + 1, false, _, bz) _ _ ⟨by dsimp only; omega, ?_, (P).skip (by omega) hy hq⟩ (by dsimp only; omega) ⟨rfl, rfl, rfl, rfl, rfl, rfl, congrArg (Value.int .i64) (wsucc (by omega)), trivial⟩
            refine Bld.weaken (Ext.bd (x := (acCells y, 118)) (Bld.bd B0 hm7)) ?_
            simpa using B
    · have hci1 : i = s.2.1 := by omega
      cases hlaid : laid with
      | true =>
        subst hlaid
        repeat (first | (refine CondX.tt ?_; conv => whnf) | (refine CondX.ff ?_; conv => whnf))
        obtain ⟨hi', f1, f2, f3, f4⟩ := (show Bld (hput (join hi hm) m3 (acCells x, 118)) _ 24 _ (List.map acCells bz) by simpa using B).finish (Ext.bd hm3) hd
        refine StoreX.at (f4 _ _ (join_hm f3 hc)) (by simp; exact (List.getElem?_eq_some_iff.1 ho).1) ?_; conv => whnf
        refine RetX.drop (Ext.jput f3 hc f4) (hk hi' _ bz f1 (f3.put hc) ⟨f2, fun z hz => ?_⟩ (PutI.fin P (by omega) (by omega)))
        rcases ((PutI.fin P (by omega) (by omega))).mem z hz with rfl | h1
        · exact hx.ext f1
        · exact (hA.each z h1).ext f1
      | false =>
        subst hlaid
        repeat (first | (refine CondX.tt ?_; conv => whnf) | (refine CondX.ff ?_; conv => whnf))
        refine LoadX.all (c := acCells x) (B.ext _ _ hX0) (by rw [xlen]; rfl) ?_; conv => whnf
        erw [fillL_box (v := (acCells x)) xlen rfl]; conv => whnf
        refine Ob.mk (by first | decide | omega) ?_; conv => whnf
        refine BoxX.mk fun m8 hm8 => ?_; conv => whnf
        refine AppendX.bld (sz := 24) (bytes := 120) (B.box hm8) (rd_own xlen) xlen rfl xone (by decide) (by omega) fun s8 h8 B8 => ?_; conv => whnf
        replace B8 := B8.weaken (Ext.bd (B.bd hm8))
        obtain ⟨hi', f1, f2, f3, f4⟩ := (show Bld (hput (join hi hm) m3 (acCells x, 118)) _ 24 _ (List.map acCells (bz ++ [x])) by simpa using B8).finish (Ext.bd hm3) hd
        refine StoreX.at (f4 _ _ (join_hm f3 hc)) (by simp; exact (List.getElem?_eq_some_iff.1 ho).1) ?_; conv => whnf
        refine RetX.drop (Ext.jput f3 hc f4) (hk hi' _ (bz ++ [x]) f1 (f3.put hc) ⟨f2, fun z hz => ?_⟩ (PutI.fin (PutI.ins P) (by omega) (by omega)))
        rcases ((PutI.fin (PutI.ins P) (by omega) (by omega))).mem z hz with rfl | h1
        · exact hx.ext f1
        · exact (hA.each z h1).ext f1
end
end Go.Proofs.YgvalwGreat.X
