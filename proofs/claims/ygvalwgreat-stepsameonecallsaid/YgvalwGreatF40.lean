import Derived.Test.YgvalwGreatF39
set_option linter.unusedVariables false
set_option linter.unusedSimpArgs false
namespace Go.Proofs.YgvalwGreat.X
open Go

/-- The values of an account, apart from where they lie. -/
structure AV where
  addr : List Int
  nonce : Int
  bal : Int
  code : List Int
  slots : List (Int × Int)
def YSlot.v (x : YSlot) : Int × Int := (x.key, x.val)
def YAcct.v (x : YAcct) : AV := ⟨x.addr, x.nonce, x.bal, x.code, x.slots.map YSlot.v⟩
def YTemp.v (x : YTemp) : List Int × Int × Int := (x.addr, x.key, x.val)

/-- The places of a world's eight lists, and what lies there. -/
structure YW where
  sA : Sl
  sWA : Sl
  sWS : Sl
  sR : Sl
  sL : Sl
  sT : Sl
  sM : Sl
  sG : Sl
  acc : List YAcct
  wa : List (List Int)
  ws : List YMark
  ref : Int
  logs : List YLog
  temps : List YTemp
  made : List (List Int)
  gone : List (List Int)
def YW.cells (w : YW) : List Value := [sl w.sA, sl w.sWA, sl w.sWS, sl w.sR, sl w.sL, sl w.sT, sl w.sM, sl w.sG]
structure YW.ok (h hl : Hp) (w : YW) : Prop where
  acc : AccL h w.sA w.acc
  wa : Adrs h w.sWA w.wa
  ws : MarkL h w.sWS w.ws
  ref : NtS h w.sR w.ref
  logs : Arr hl w.sL 22 (w.logs.map logCells)
  logsE : ∀ x ∈ w.logs, x.ok h
  temps : TempL h w.sT w.temps
  made : Adrs h w.sM w.made
  gone : Adrs h w.sG w.gone
theorem YW.ok.up {h h' hl : Hp} (he : Ext h h') {w : YW} (a : w.ok h hl) : w.ok h' hl :=
  ⟨a.acc.ext he, a.wa.ext he, a.ws.ext he, a.ref.ext he, a.logs, fun x hx => (a.logsE x hx).ext he, a.temps.ext he, a.made.ext he, a.gone.ext he⟩
theorem YW.ok.lg {h hl hl' : Hp} (he : Ext hl hl') {w : YW} (a : w.ok h hl) : w.ok h hl' :=
  ⟨a.acc, a.wa, a.ws, a.ref, a.logs.ext he, a.logsE, a.temps, a.made, a.gone⟩
/-- A frozen array: no room behind it. -/
def ArrF (h : Hp) (s : Sl) (sz : Nat) (es : List (List Value)) : Prop := Arr h s sz es ∧ s.2.2 = s.2.1
theorem ArrF.ext {h h' : Hp} {s : Sl} {sz : Nat} {es : List (List Value)} (he : Ext h h') (a : ArrF h s sz es) : ArrF h' s sz es := ⟨a.1.ext he, a.2⟩
/-- A saved world: its logs are frozen. -/
def YW.okC (h : Hp) (w : YW) : Prop := w.ok h h ∧ w.sL.2.2 = w.sL.2.1
/-- The lists are not too long. -/
structure YW.room (w : YW) : Prop where
  acc : w.sA.2.1 < 2 ^ 30
  each : ∀ x ∈ w.acc, x.ss.2.1 < 2 ^ 30
  wa : w.sWA.2.1 < 2 ^ 30
  ws : w.sWS.2.1 < 2 ^ 30
  logs : w.sL.2.1 < 2 ^ 30
  temps : w.sT.2.1 < 2 ^ 30
  made : w.sM.2.1 < 2 ^ 30
  gone : w.sG.2.1 < 2 ^ 30
/-- The same world, elsewhere. -/
structure YW.same (w w' : YW) : Prop where
  acc : w'.acc.map YAcct.v = w.acc.map YAcct.v
  wa : w'.wa = w.wa
  ws : w'.ws.map YMark.id = w.ws.map YMark.id
  ref : w'.ref = w.ref
  logs : w'.logs.length = w.logs.length
  temps : w'.temps.map YTemp.v = w.temps.map YTemp.v
  made : w'.made = w.made
  gone : w'.gone = w.gone

/-- What a loop that copies a list of records has laid so far: a block of 'hm' (its number is 'mA') whose head holds the copies. -/
structure Cop {α : Type} (cells : α → List Value) (ok : Hp → α → Prop) (hi : Hp) (z : List Value) (n : Nat) (bz : List α) (c : List Value) : Prop where
  eq : c = (bz.map cells).flatten ++ zeros z (n - bz.length)
  le : bz.length ≤ n
  ok : ∀ y ∈ bz, ok hi y
theorem Cop.step {α : Type} {cells : α → List Value} {ok : Hp → α → Prop} {hi hi' : Hp} {z : List Value} {n : Nat} {bz : List α} {c : List Value} {y : α} (a : Cop cells ok hi z n bz c) (he : Ext hi hi') (hext : ∀ y, ok hi y → ok hi' y) (hsz : ∀ y, ok hi' y → (cells y).length = z.length)
    (hy : ok hi' y) (hlt : bz.length < n) : Cop cells ok hi' z n (bz ++ [y]) (setSeg c (bz.length * z.length) (cells y)) := by
  refine ⟨?_, by simp; omega, fun q hq => ?_⟩
  · have szs : ∀ e ∈ bz.map cells, e.length = z.length := fun e he => by
      obtain ⟨q, hq, rfl⟩ := List.mem_map.1 he
      exact hsz q (hext q (a.ok q hq))
    obtain ⟨k, hk⟩ : ∃ k, n - bz.length = k + 1 := ⟨n - bz.length - 1, by omega⟩
    have e := fillArr (z := z) (v := cells y) (k := k) szs rfl (hsz y hy)
    have hml : (bz.map cells).length = bz.length := List.length_map ..
    rw [hml] at e
    rw [a.eq, hk, e]
    have : n - (bz ++ [y]).length = k := by simp; omega
    rw [this]; simp
  · rcases List.mem_append.1 hq with h1 | h1
    · exact hext q (a.ok q h1)
    · rw [List.mem_singleton.1 h1]; exact hy
theorem Cop.len {α : Type} {cells : α → List Value} {ok : Hp → α → Prop} {hi : Hp} {z : List Value} {n : Nat} {bz : List α} {c : List Value} (a : Cop cells ok hi z n bz c) (hsz : ∀ y, ok hi y → (cells y).length = z.length) : c.length = n * z.length := by
  have szs : ∀ e ∈ bz.map cells, e.length = z.length := fun e he => by
    obtain ⟨q, hq, rfl⟩ := List.mem_map.1 he
    exact hsz q (a.ok q hq)
  have := flat_len szs
  have h1 := a.le
  rw [a.eq, List.length_append, this, zeros_len, List.length_map, ← Nat.add_mul]
  congr 1; omega
theorem Cop.arr {α : Type} {cells : α → List Value} {ok : Hp → α → Prop} {hi h : Hp} {z : List Value} {n m : Nat} {bz : List α} {c : List Value} {t : TypeId} (a : Cop cells ok hi z n bz c) (hsz : ∀ y, ok hi y → (cells y).length = z.length) (hone : ∀ y, ones (cells y) = true) (hn : bz.length = n) (hb : h m = some (c, t)) :
    Arr h (some ⟨m, 0, none⟩, n, n) z.length (bz.map cells) := by
  have e := a.eq
  rw [hn, Nat.sub_self] at e
  have ez : zeros z 0 = [] := rfl
  rw [ez, List.append_nil] at e
  refine Arr.own (t := t) (by simp [hn]) (fun x hx => ?_) (fun x hx => ?_) (by rw [hb, e])
  · obtain ⟨q, hq, rfl⟩ := List.mem_map.1 hx
    exact hsz q (a.ok q hq)
  · obtain ⟨q, hq, rfl⟩ := List.mem_map.1 hx
    exact hone q
end Go.Proofs.YgvalwGreat.X
