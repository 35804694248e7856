import Derived.Test.YgvalwGreatE39
set_option linter.unusedVariables false
set_option linter.unusedSimpArgs false
namespace Go.Proofs.YgvalwGreat.X
open Go

/-- What counts of a vault. -/
structure VCore where
  aL : List EA
  sL : List ESl
  jL : List EJ
  tL : List ET
  nl : Nat
  ref : Int
  nm : Int
  mks : Nat → Int
def VS.core (v : VS) : VCore := ⟨v.aL, v.sL, v.jL, v.tL, v.lL.length, v.ref, v.nm, v.mks⟩
def idxA (l : List EA) (a : List Int) : Option Nat := l.findIdx? fun x => decide (x.addr = a)
def idxS (l : List ESl) (i : Nat) (k : Int) : Option Nat := l.findIdx? fun x => decide (x.acct = i ∧ x.key = k)
def idxT (l : List ET) (i : Nat) (k : Int) : Option Nat := l.findIdx? fun x => decide (x.acct = i ∧ x.key = k)
def EJ.tgtA (x : EJ) : Prop := x.kind = 0 ∨ x.kind = 1 ∨ x.kind = 2 ∨ x.kind = 4 ∨ x.kind = 9 ∨ x.kind = 10
def EJ.ok (c : VCore) (x : EJ) : Prop := x.kind ≤ 10 ∧ x.at_ < 2 ^ 31 ∧ (x.tgtA → x.at_ < c.aL.length) ∧ ((x.kind = 3 ∨ x.kind = 5) → x.at_ < c.sL.length) ∧ (x.kind = 8 → x.at_ < c.tL.length)
/-- What holds of the lists alone. -/
structure COK (c : VCore) : Prop where
  fewA : c.aL.length ≤ 2560
  fewS : c.sL.length ≤ 2560
  fewT : c.tL.length ≤ 12288
  fewJ : c.jL.length ≤ 65536
  fewL : c.nl ≤ 2800
  awf : ∀ x ∈ c.aL, (x.addr.length = 20 ∧ isB x.addr) ∧ (0 ≤ x.nonce ∧ x.nonce < 18446744073709551616) ∧ (0 ≤ x.bal ∧ x.bal < W)
  swf : ∀ x ∈ c.sL, x.acct < c.aL.length ∧ (0 ≤ x.key ∧ x.key < W) ∧ (0 ≤ x.val ∧ x.val < W) ∧ (0 ≤ x.orig ∧ x.orig < W)
  twf : ∀ x ∈ c.tL, x.acct < c.aL.length ∧ (0 ≤ x.key ∧ x.key < W) ∧ (0 ≤ x.val ∧ x.val < W)
  jwf : ∀ x ∈ c.jL, x.ok c ∧ (0 ≤ x.n ∧ x.n < 18446744073709551616) ∧ (0 ≤ x.w ∧ x.w < W)
  adis : ∀ i j, i < c.aL.length → j < c.aL.length → (c.aL.getD i dA).addr = (c.aL.getD j dA).addr → i = j
  sdis : ∀ i j, i < c.sL.length → j < c.sL.length → (c.sL.getD i dS).acct = (c.sL.getD j dS).acct → (c.sL.getD i dS).key = (c.sL.getD j dS).key → i = j
  tdis : ∀ i j, i < c.tL.length → j < c.tL.length → (c.tL.getD i dT).acct = (c.tL.getD j dT).acct → (c.tL.getD i dT).key = (c.tL.getD j dT).key → i = j
  ref : 0 ≤ c.ref ∧ c.ref < 18446744073709551616
  nm : 0 ≤ c.nm ∧ c.nm ≤ 16384
  mks : ∀ i : Nat, (i : Int) < c.nm → 0 ≤ c.mks i ∧ c.mks i ≤ 65536
/-- The vault lies in the heap. -/
structure VOK (hi hm : Hp) (eb : Nat) (mc : Nat → Value) (v : VS) : Prop where
  dj : Dj hi hm
  blk : hm eb = some (fnv 27024 (eC mc v), 101)
  aT : ArrT hm 230 v.aS 29 (v.aL.map aCells)
  sT : ArrT hm 233 v.sS 14 (v.sL.map slCells)
  jT : ArrT hm 250 v.jS 9 (v.jL.map jCells)
  lT : ArrT hm 286 v.lS 22 v.lL
  tT : ArrT hm 401 v.tS 9 (v.tL.map tpCells)
  ttT : (v.ttS = nilS ∧ v.tL = []) ∨ ∃ m, v.ttS = (some ⟨m, 0, none⟩, 16384, 16384) ∧ hm m = some (fnv 16384 fun p => .int .i32 (v.ttab p), 21) ∧ TabOK 16384 v.ttab v.tL.length (fun i => mixS (v.tL.getD i dT).acct (v.tL.getD i dT).key.toNat % 16384)
  atab : TabOK 4096 v.atab v.aL.length (fun i => homeA (v.aL.getD i dA).addr)
  stab : TabOK 4096 v.stab v.sL.length (fun i => mixS (v.sL.getD i dS).acct (v.sL.getD i dS).key.toNat % 4096)
  ac : ∀ x ∈ v.aL, BytS hi x.cs x.code
  jc : ∀ x ∈ v.jL, BytS hi x.bs x.b
  cok : COK v.core
section
variable {hi hm : Hp} {K : Value → Hp → Prop} {mc : Nat → Value} {v : VS} {eb : Nat}
theorem VOK.acOK (V : VOK hi hm eb mc v) : AcOK (join hi hm) v := ⟨V.aT.arr V.dj, V.atab, V.cok.fewA, fun x hx => (V.cok.awf x hx).1⟩
theorem VOK.ssOK (V : VOK hi hm eb mc v) : SsOK (join hi hm) v := ⟨V.sT.arr V.dj, V.stab, V.cok.fewS, fun x hx => ⟨by have := (V.cok.swf x hx).1; have h2 : v.core.aL.length ≤ 2560 := V.cok.fewA; omega, (V.cok.swf x hx).2.1⟩⟩
theorem VOK.tsOK (V : VOK hi hm eb mc v) : TsOK (join hi hm) v := by
  refine ⟨V.tT.arr V.dj, ?_, V.cok.fewT, fun x hx => ⟨by have := (V.cok.twf x hx).1; have h2 : v.core.aL.length ≤ 2560 := V.cok.fewA; omega, (V.cok.twf x hx).2.1⟩⟩
  rcases V.ttT with h1 | ⟨m, h1, h2, h3⟩
  · exact .inl h1
  · exact .inr ⟨m, h1, join_hm V.dj h2, h3⟩
theorem AcOK.ext {h h' : Hp} (he : Ext h h') (A : AcOK h v) : AcOK h' v := ⟨A.arr.ext he, A.tab, A.few, A.wf⟩
theorem SsOK.ext {h h' : Hp} (he : Ext h h') (A : SsOK h v) : SsOK h' v := ⟨A.arr.ext he, A.tab, A.few, A.wf⟩
theorem TsOK.ext {h h' : Hp} (he : Ext h h') (A : TsOK h v) : TsOK h' v := by
  refine ⟨A.arr.ext he, ?_, A.few, A.wf⟩
  rcases A.tab with h1 | ⟨m, h1, h2, h3⟩
  · exact .inl h1
  · exact .inr ⟨m, h1, he _ _ h2, h3⟩
theorem idx_some {α : Type} {l : List α} {p : α → Bool} {d : α} {i : Nat} (hi : i < l.length) (hp : p (l.getD i d) = true) (hu : ∀ j, j < l.length → p (l.getD j d) = true → j = i) : l.findIdx? p = some i := by
  rw [List.findIdx?_eq_some_iff_getElem]
  refine ⟨hi, by rw [List.getD_eq_getElem?_getD, List.getElem?_eq_getElem hi] at hp; exact hp, fun j hj => ?_⟩
  have hjl : j < l.length := by omega
  cases hx : p l[j] with
  | false => simp
  | true =>
    have := hu j hjl (by rw [List.getD_eq_getElem?_getD, List.getElem?_eq_getElem hjl]; exact hx)
    omega
theorem idx_none {α : Type} {l : List α} {p : α → Bool} {d : α} (h : ∀ j, j < l.length → p (l.getD j d) = false) : l.findIdx? p = none := by
  rw [List.findIdx?_eq_none_iff]
  intro x hx
  obtain ⟨j, hj, rfl⟩ := List.getElem_of_mem hx
  have := h j hj
  rw [List.getD_eq_getElem?_getD, List.getElem?_eq_getElem hj] at this
  exact this
theorem idx_get {α : Type} {l : List α} {p : α → Bool} {d : α} {i : Nat} (h : l.findIdx? p = some i) : i < l.length ∧ p (l.getD i d) = true := by
  rw [List.findIdx?_eq_some_iff_getElem] at h
  obtain ⟨hi, hp, -⟩ := h
  exact ⟨hi, by rw [List.getD_eq_getElem?_getD, List.getElem?_eq_getElem hi]; exact hp⟩
theorem idx_no {α : Type} {l : List α} {p : α → Bool} {d : α} (h : l.findIdx? p = none) : ∀ j, j < l.length → p (l.getD j d) = false := fun j hj => by
  rw [List.findIdx?_eq_none_iff] at h
  rw [List.getD_eq_getElem?_getD, List.getElem?_eq_getElem hj]
  exact h _ (List.getElem_mem hj)
theorem findA {h : Hp} {a : List Int} (hl : a.length = 20) (hB : isB a) (he : Ext (join hi hm) h) (V : VOK hi hm eb mc v)
    (hk1 : ∀ i, i < v.aL.length → idxA v.aL a = some i → K (.tuple #[.int .i32 i, .int .i32 (-1)]) h)
    (hk2 : idxA v.aL a = none → ∀ p, p < 4096 → Gap 4096 v.atab (homeA a) p → K (.tuple #[.int .i32 (-1), .int .i32 p]) h) :
    CallX Hval.prog 156 [.pointer (some ⟨eb, 2435, none⟩), .agg (bcells a).toArray] h K := by
  refine findAcct_ok hl hB (he _ _ (join_hm V.dj V.blk)) (V.acOK.ext he) (fun i hi ha => hk1 i hi ?_) fun hn => hk2 ?_
  · exact idx_some hi (decide_eq_true ha) fun j hj hp => V.cok.adis j i hj hi ((of_decide_eq_true hp).trans ha.symm)
  · exact idx_none (d := dA) fun j hj => decide_eq_false (hn j hj)
theorem findS {h : Hp} {a k : Nat} (ha : a < 2560) (hkW : (k : Int) < W) (he : Ext (join hi hm) h) (V : VOK hi hm eb mc v)
    (hk1 : ∀ i, i < v.sL.length → idxS v.sL a k = some i → K (.tuple #[.int .i32 i, .int .i32 (-1)]) h)
    (hk2 : idxS v.sL a k = none → ∀ p, p < 4096 → Gap 4096 v.stab (mixS a k % 4096) p → K (.tuple #[.int .i32 (-1), .int .i32 p]) h) :
    CallX Hval.prog 220 [.pointer (some ⟨eb, 2435, none⟩), .int .i32 a, .agg (wc k).toArray] h K := by
  refine findSlot_ok ha hkW (he _ _ (join_hm V.dj V.blk)) (V.ssOK.ext he) (fun i hi h1 h2 => hk1 i hi ?_) fun hn => hk2 ?_
  · exact idx_some hi (decide_eq_true ⟨h1, h2⟩) fun j hj hp => V.cok.sdis j i hj hi ((of_decide_eq_true hp).1.trans h1.symm) ((of_decide_eq_true hp).2.trans h2.symm)
  · exact idx_none (d := dS) fun j hj => decide_eq_false (hn j hj)
theorem findT {h : Hp} {a k : Nat} (ha : a < 2560) (hkW : (k : Int) < W) (he : Ext (join hi hm) h) (V : VOK hi hm eb mc v)
    (hk1 : ∀ i, i < v.tL.length → idxT v.tL a k = some i → K (.tuple #[.int .i32 i, .int .i32 (-1)]) h)
    (hk3 : v.ttS = nilS → idxT v.tL a k = none → K (.tuple #[.int .i32 (-1), .int .i32 (-1)]) h)
    (hk2 : v.ttS ≠ nilS → idxT v.tL a k = none → ∀ p, p < 16384 → Gap 16384 v.ttab (mixS a k % 16384) p → K (.tuple #[.int .i32 (-1), .int .i32 p]) h) :
    CallX Hval.prog 358 [.pointer (some ⟨eb, 2435, none⟩), .int .i32 a, .agg (wc k).toArray] h K := by
  refine findTemp_ok ha hkW (he _ _ (join_hm V.dj V.blk)) (V.tsOK.ext he) (fun i hi h1 h2 => hk1 i hi ?_) (fun h1 h2 => hk3 h1 (by rw [h2]; rfl)) fun h1 hn => hk2 h1 ?_
  · exact idx_some hi (decide_eq_true ⟨h1, h2⟩) fun j hj hp => V.cok.tdis j i hj hi ((of_decide_eq_true hp).1.trans h1.symm) ((of_decide_eq_true hp).2.trans h2.symm)
  · exact idx_none (d := dT) fun j hj => decide_eq_false (hn j hj)
end
end Go.Proofs.YgvalwGreat.X
