import Derived.Test.YgvalwGreatF41
set_option linter.unusedVariables false
set_option linter.unusedSimpArgs false
namespace Go.Proofs.YgvalwGreat.X
open Go

structure YF where
  kind : Int
  natv : Int
  static : Bool
  pcS : Sl
  gasS : Sl
  valS : Sl
  ooS : Sl
  olS : Sl
  stS : Sl
  memS : Sl
  codeS : Sl
  inS : Sl
  self : List Int
  caller : List Int
  saved : YW
  pc : Int
  gas : Int
  val : Int
  oo : Int
  ol : Int
  st : List (Sl × Int)
  code : List Int
  input : List Int
def fCells (f : YF) : List Value :=
  [.int .u8 f.kind, .int .u8 f.natv, .bool f.static, sl f.pcS, sl f.gasS, sl f.valS, sl f.ooS, sl f.olS, sl f.stS, sl f.memS, sl f.codeS, sl f.inS] ++ (bcells f.self ++ (bcells f.caller ++ f.saved.cells))
def stCells (p : Sl × Int) : List Value := [sl p.1]
structure YF.ok (h : Hp) (f : YF) : Prop where
  pc : NtS h f.pcS f.pc
  gas : NtS h f.gasS f.gas
  val : NtS h f.valS f.val
  oo : NtS h f.ooS f.oo
  ol : NtS h f.olS f.ol
  st : Arr h f.stS 1 (f.st.map stCells)
  stE : ∀ p ∈ f.st, NtS h p.1 p.2
  stR : f.st.length ≤ 64
  code : BytS h f.codeS f.code
  input : BytS h f.inS f.input
  self : f.self.length = 20
  caller : f.caller.length = 20
  saved : f.saved.okC h
theorem YF.ok.ext {h h' : Hp} (he : Ext h h') {f : YF} (a : f.ok h) : f.ok h' :=
  ⟨a.pc.ext he, a.gas.ext he, a.val.ext he, a.oo.ext he, a.ol.ext he, a.st.ext he, fun p hp => (a.stE p hp).ext he, a.stR, a.code.ext he, a.input.ext he, a.self, a.caller, ⟨(a.saved.1.up he).lg he, a.saved.2⟩⟩
theorem YF.ok.n {h : Hp} {f : YF} (a : f.ok h) : f.st.length = f.stS.2.1 := by have := a.st.len; simpa using this

/-- The top frame stands in its block behind 'pre'. -/
theorem get_mid {pre L post : List Value} {k : Nat} (hk : k < L.length) : (pre ++ (L ++ post))[pre.length + k]? = L[k]? := by
  rw [List.getElem?_append_right (by omega), Nat.add_sub_cancel_left, List.getElem?_append_left hk]
theorem set_mid {pre L post : List Value} {k : Nat} {v : Value} (hk : k < L.length) : setSeg (pre ++ (L ++ post)) (pre.length + k) [v] = pre ++ (L.set k v ++ post) := by
  have e1 : (pre ++ (L ++ post)).take (pre.length + k) = pre ++ L.take k := by
    rw [List.take_length_add_append, List.take_append_of_le_length (by omega)]
  have e2 : (pre ++ (L ++ post)).drop (pre.length + k + 1) = L.drop (k + 1) ++ post := by
    rw [Nat.add_assoc, ← List.drop_drop, List.drop_left, List.drop_append_of_le_length (by omega)]
  simp only [setSeg, e1, List.length_singleton, e2]
  rw [List.set_eq_take_append_cons_drop]
  simp [hk]
theorem fCells_len {f : YF} (h1 : f.self.length = 20) (h2 : f.caller.length = 20) : (fCells f).length = 60 := by simp [fCells, bcells, h1, h2, YW.cells]

theorem LoadX.mid {h : Hp} {b sz o : Nat} {pre post : List Value} {f : YF} {t : TypeId} {v : Value} {KK : Value → Prop} (hb : h b = some (pre ++ (fCells f ++ post), t)) (k : Nat) (hk : k < 12) (ho : o = pre.length + k) (hv : (fCells f)[k]? = some v) (hK : KK v) : LoadX false sz h b o KK := by
  subst ho
  exact LoadX.blk hb v (by rw [get_mid (by simp [fCells]; omega)]; exact hv) hK
theorem ldV_mid {h : Hp} {b sz o : Nat} {pre post : List Value} {f : YF} {t : TypeId} {v : Value} (hb : h b = some (pre ++ (fCells f ++ post), t)) (k : Nat) (hk : k < 12) (ho : o = pre.length + k) (hv : (fCells f)[k]? = some v) : ldV false sz h b o = some v := by
  subst ho
  exact ldV_blk hb (by rw [get_mid (by simp [fCells]; omega)]; exact hv)
theorem StoreX.mid {hi hm : Hp} {b o : Nat} {pre post : List Value} {f : YF} {t : TypeId} {v : Value} {KK : Hp → Prop} (hd : Dj hi hm) (hb : hm b = some (pre ++ (fCells f ++ post), t)) (k : Nat) (hk : k < 12) (ho : o = pre.length + k) (f' : YF) (hf : (fCells f).set k v = fCells f')
    (hK : Dj hi (hput hm b (pre ++ (fCells f' ++ post), t)) → KK (join hi (hput hm b (pre ++ (fCells f' ++ post), t)))) : StoreX (join hi hm) b o [v] KK := by
  subst ho
  have hl : k < (fCells f).length := by simp [fCells]; omega
  refine StoreX.jm hd hb (by simp; omega) ?_
  rw [set_mid hl, hf]
  exact hK (hd.put hb)

/-- Operand i, 0 the top; zero if the stack has none. -/
def argP (st : List (Sl × Int)) (i : Nat) : Sl × Int := if h : i < st.length then st[st.length - 1 - i] else (nilS, 0)
theorem argP_ok {h : Hp} {st : List (Sl × Int)} (hs : ∀ p ∈ st, NtS h p.1 p.2) (i : Nat) : NtS h (argP st i).1 (argP st i).2 := by
  unfold argP
  split
  · exact hs _ (List.getElem_mem _)
  · exact Nt_nil h

section
variable {h : Hp} {K : Value → Hp → Prop}
set_option maxRecDepth 100000 in
set_option maxHeartbeats 4000000 in
theorem arg_ok {b : Nat} {pre post : List Value} {f : YF} {t : TypeId} (hb : h b = some (pre ++ (fCells f ++ post), t)) (hst : Arr h f.stS 1 (f.st.map stCells)) (hr : f.stS.2.1 < 2 ^ 30) (i : Nat) (hi : i < 2 ^ 30) (hk : K (sl (argP f.st i).1) h) :
    CallX Hval.prog 57 [.pointer (some ⟨b, pre.length, none⟩), .int .i64 i] h K := by
  refine CallX.of_xf T_ok Hval.func57 rfl (by kernel_rfl) (Nat.le_of_ble_eq_true rfl) ?_; conv => whnf
  have hn : f.st.length = f.stS.2.1 := by have := hst.len; simpa using this
  refine LoadX.mid hb 8 (by decide) rfl (v := sl f.stS) rfl ?_; conv => whnf
  refine CondX.decI (fun hc => ?_) (fun hc => ?_) <;> conv => whnf
  · have : argP f.st i = (nilS, 0) := by unfold argP; rw [dif_neg (by omega)]
    rw [this] at hk
    exact RetX.same hk
  · refine DrawX.go T_ok hM Hval.func57 (tb := dr57) rfl (by kernel_rfl) ?_; conv => whnf
    refine LoadX.mid hb 8 (by decide) rfl (v := sl f.stS) rfl ?_; conv => whnf
    refine LoadX.mid hb 8 (by decide) rfl (v := sl f.stS) rfl ?_; conv => whnf
    have e : IntKind.i64.wrap (IntKind.i64.wrap ((f.stS.2.1 : Int) - 1) - (i : Int)) = ((f.stS.2.1 - 1 - i : Nat) : Int) := by
      rw [wrap_i64 (x := (f.stS.2.1 : Int) - 1) (by omega) (by omega), wrap_i64 (by omega) (by omega)]; omega
    rw [e]
    refine IdxX.arr hst (by omega) (by omega) (by omega) fun b1 off e1 => ?_; conv => whnf
    have hl := hst.get e1 (k := f.stS.2.1 - 1 - i) (by omega)
    rw [getD_map (by omega)] at hl
    have e2 : f.st[f.stS.2.1 - 1 - i]'(by omega) = argP f.st i := by
      unfold argP; rw [dif_pos (by omega)]; congr 1; omega
    rw [e2] at hl
    refine LoadX.of (sl (argP f.st i).1) ?_ ?_
    · show ldV false 1 h b1 (off + ((f.stS.2.1 - 1 - i : Nat) : Int).toNat * 1) = _
      rw [Int.toNat_natCast]
      unfold ldV at hl ⊢
      cases hx : h b1 with
      | none => simp [hx] at hl
      | some x =>
        obtain ⟨c, t'⟩ := x
        simp only [hx] at hl ⊢
        split at hl
        · rename_i hle
          simp only [Option.some.injEq, Value.agg.injEq] at hl
          have := congrArg Array.toList hl
          simp only [List.toList_toArray, stCells, seg] at this
          have h2 := congrArg (fun l => l[0]?) this
          simpa using h2
        · cases hl
    conv => whnf
    exact RetX.same hk

/-- The instruction at a place; STOP past the code's end. -/
def opI (code : List Int) (pc : Int) : Int := if pc < code.length then code.getD pc.toNat 0 else 0
set_option maxRecDepth 100000 in
set_option maxHeartbeats 4000000 in
theorem opcode_ok {b : Nat} {pre post : List Value} {f : YF} {t : TypeId} (hb : h b = some (pre ++ (fCells f ++ post), t)) (hpc : NtS h f.pcS f.pc) (hcode : BytS h f.codeS f.code) (hk : K (.int .u8 (opI f.code f.pc)) h) :
    CallX Hval.prog 51 [.pointer (some ⟨b, pre.length, none⟩)] h K := by
  refine CallX.of_xf T_ok Hval.func51 rfl (by kernel_rfl) (Nat.le_of_ble_eq_true rfl) ?_; conv => whnf
  have hl := hcode.len
  have hr := hcode.room
  have h0 := hpc.val
  refine DrawX.go T_ok hM Hval.func51 (tb := dr51) rfl (by kernel_rfl) ?_; conv => whnf
  refine LoadX.mid hb 3 (by decide) rfl (v := sl f.pcS) rfl ?_; conv => whnf
  refine LoadX.mid hb 10 (by decide) rfl (v := sl f.codeS) rfl ?_; conv => whnf
  refine place_ok hpc hr (fun hc => ?_) (fun hc => ?_) <;> conv => whnf
  · repeat (first | (refine CondX.tt ?_; conv => whnf) | (refine CondX.ff ?_; conv => whnf))
    have : opI f.code f.pc = 0 := by unfold opI; rw [if_neg (by omega)]
    rw [this] at hk
    exact RetX.same hk
  · repeat (first | (refine CondX.tt ?_; conv => whnf) | (refine CondX.ff ?_; conv => whnf))
    refine LoadX.mid hb 10 (by decide) rfl (v := sl f.codeS) rfl ?_; conv => whnf
    refine IdxX.rd hcode.rd (by omega) (by omega) fun b1 o1 e1 _ => ?_; conv => whnf
    refine LoadX.byte hcode e1 f.pc.toNat (by omega) (by omega) rfl ?_; conv => whnf
    have : opI f.code f.pc = f.code.getD f.pc.toNat 0 := by unfold opI; rw [if_pos (by omega)]
    rw [this] at hk
    exact RetX.same hk
end
end Go.Proofs.YgvalwGreat.X
