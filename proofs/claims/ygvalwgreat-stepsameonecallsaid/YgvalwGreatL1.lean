import Derived.Test.YgvalwGreatG26
set_option linter.unusedVariables false
set_option linter.unusedSimpArgs false
namespace Go.Proofs.YgvalwGreat.X
open Go

section
variable {h h1 h' : Hp} {K : Value → Hp → Prop} {b1 b2 : Option Addr} {n1 n2 c1 c2 : Nat} {l : List Int} {s1 s2 : Sl}
set_option maxRecDepth 100000 in
set_option maxHeartbeats 4000000 in
theorem eqB_ok (ha : Byt h b1 n1 c1 l) (hb : Byt h b2 n2 c2 l) (hk : K (.bool true) h) : CallX Hval.prog 44 [.slice b1 n1 c1, .slice b2 n2 c2] h K := by
  refine CallX.of_xf T_ok Hval.func44 rfl (by kernel_rfl) (Nat.le_of_ble_eq_true rfl) ?_; conv => whnf
  refine ⟨⟨l, ha.rd, ?_⟩⟩; conv => whnf
  refine ⟨⟨l, hb.rd, ?_⟩⟩; conv => whnf
  have e : ∀ x : List UInt8, (x == x) = true := fun x => beq_self_eq_true x
  rw [e]
  exact RetX.same hk
theorem rd_ldV {b o n : Nat} {c : List Value} (hl : ldV true n h b o = some (.agg c.toArray)) : rd h (some ⟨b, o, none⟩) n = some c := by
  unfold ldV at hl
  unfold rd
  cases hb : h b with
  | none => rw [hb] at hl; simp at hl
  | some x =>
    obtain ⟨x1, x2⟩ := x
    rw [hb] at hl
    dsimp only at hl
    by_cases hh : o + n ≤ x1.length
    · simp [hh] at hl
      simp [hb, hh, hl]
    · simp [hh] at hl
theorem Arr.word {b off k : Nat} (a : Arr h s1 32 (l.map fun x => bcells (be 32 x))) (he : s1.1 = some ⟨b, off, none⟩) (hk : k < s1.2.1) : Byt h (some ⟨b, off + k * 32, none⟩) 32 32 (be 32 (l.getD k 0)) := by
  have h1 := a.get he hk
  have hl := a.len
  rw [List.length_map] at hl
  rw [List.getD_eq_getElem?_getD, List.getElem?_map, List.getElem?_eq_getElem (by omega), Option.map_some, Option.getD_some] at h1
  refine ⟨?_, isB_be _ _, Nat.le_refl _, (fun h => by cases h), by decide⟩
  rw [List.getD_eq_getElem?_getD, List.getElem?_eq_getElem (by omega), Option.getD_some]
  exact rd_ldV h1
set_option maxRecDepth 100000 in
set_option maxHeartbeats 4000000 in
theorem wordsMeet_ok (hl30 : l.length < 2 ^ 30) (hs1 : Arr h s1 32 (l.map fun x => bcells (be 32 x))) (hs2 : Arr h s2 32 (l.map fun x => bcells (be 32 x))) (hk : K (.bool true) h) : CallX Hval.prog 45 [sl s1, sl s2] h K := by
  have l1 := hs1.len
  have l2 := hs2.len
  rw [List.length_map] at l1 l2
  refine CallX.of_xf T_ok Hval.func45 rfl (by kernel_rfl) (Nat.le_of_ble_eq_true rfl) ?_; conv => whnf
  refine CondX.neI (fun hh => by omega) (fun hh => ?_); conv => whnf
  refine LoopX.st T_ok Hval.func45 (σ := Nat) (fun i => [(0, sl s1), (1, sl s2), (12, .int .i64 s1.2.1), (13, .int .i64 i)]) (fun i h' => i ≤ s1.2.1 ∧ h' = h) (fun i => s1.2.1 - i) 0
    ⟨rfl, rfl, rfl, rfl, trivial⟩ ⟨Nat.zero_le _, rfl⟩ ?_
  rintro i ρ h' ⟨hi, rfl⟩ ih
  conv => whnf
  refine CondX.decI (fun hp => ?_) (fun hp => ?_) <;> conv => whnf
  · refine DrawX.go T_ok hM Hval.func45 (tb := dr45) rfl (by kernel_rfl) ?_; conv => whnf
    refine IdxX.arr hs1 (by decide) (by omega) (by omega) fun b1 o1 e1 => ?_; conv => whnf
    refine IdxX.arr hs2 (by decide) (by omega) (by omega) fun b2 o2 e2 => ?_; conv => whnf
    have es : ∀ o, soff o 0 32 (5, y5).snd.size = o := fun o => rfl
    rw [es, es, Int.toNat_natCast]
    refine eqB_ok (hs1.word e1 (by omega)) (hs2.word e2 (by omega)) ?_; conv => whnf
    repeat (first | (refine CondX.tt ?_; conv => whnf) | (refine CondX.ff ?_; conv => whnf))
    refine ih (i + 1) _ _ ⟨by omega, rfl⟩ (by omega) ⟨rfl, rfl, rfl, ?_, trivial⟩
    exact congrArg (Value.int .i64) (wsucc (by omega))
  · exact RetX.same hk
theorem VwOK.ext {v : VW} {sS sM sR : Sl} (V : VwOK h v sS sM sR) (he : Ext h h') : VwOK h' v sS sM sR := ⟨V.st.ext he, V.mem.ext he, V.ret.ext he⟩
theorem vw_len {v : VW} {sS sM sR : Sl} (h1 : v.self.length = 20) (h2 : v.caller.length = 20) : (v.cells sS sM sR).length = 50 := by
  unfold VW.cells vwCells
  simp [bcells_length, h1, h2]
theorem vw_get {v : VW} {sS sM sR : Sl} (h1 : v.self.length = 20) (h2 : v.caller.length = 20) (k : Nat) : (v.cells sS sM sR)[46 + k]? = [sl sS, sl sM, sl sR, .int .u16 v.nl][k]? := by
  unfold VW.cells vwCells
  rw [List.getElem?_append_right (by simp; omega), List.getElem?_append_right (by simp [bcells_length, h1]; omega), List.getElem?_append_right (by simp [bcells_length, h1, h2]; omega)]
  congr 1
  simp [bcells_length, h1, h2]; omega
theorem vw_low {v : VW} {sS sM sR : Sl} (k : Nat) (hk : k < 6) : (v.cells sS sM sR)[k]? = [.bool v.done, .bool v.static, .int .u8 v.depth, .int .u16 v.pc, .int .u64 v.gas, .int .u64 v.ref][k]? := by
  unfold VW.cells vwCells
  rw [List.getElem?_append_left (by simpa using hk)]
theorem vw_self {v : VW} {sS sM sR : Sl} {b : Nat} {ty : TypeId} (h1 : v.self.length = 20) (hB : isB v.self) (hb : h b = some (v.cells sS sM sR, ty)) : Byt h (some ⟨b, 6, none⟩) 20 20 v.self := by
  refine ⟨?_, hB, by omega, (fun h => by cases h), by omega⟩
  simp only [rd, hb]
  rw [if_pos (by unfold VW.cells vwCells; simp [bcells_length, h1])]
  congr 1
  unfold seg VW.cells vwCells
  rw [List.drop_left' (i := 6) rfl]
  rw [List.take_left' (by rw [bcells_length, h1])]
theorem vw_caller {v : VW} {sS sM sR : Sl} {b : Nat} {ty : TypeId} (h1 : v.self.length = 20) (h2 : v.caller.length = 20) (hB : isB v.caller) (hb : h b = some (v.cells sS sM sR, ty)) : Byt h (some ⟨b, 26, none⟩) 20 20 v.caller := by
  refine ⟨?_, hB, by omega, (fun h => by cases h), by omega⟩
  simp only [rd, hb]
  rw [if_pos (by unfold VW.cells vwCells; simp [bcells_length, h1, h2])]
  congr 1
  unfold seg VW.cells vwCells
  rw [← List.append_assoc, List.drop_left' (by simp [bcells_length, h1]), List.take_left' (by rw [bcells_length, h2])]
set_option maxRecDepth 100000 in
set_option maxHeartbeats 4000000 in
theorem views_ok {v : VW} {sS sM sR sS' sM' sR' : Sl} (h1 : v.self.length = 20 ∧ isB v.self) (h2 : v.caller.length = 20 ∧ isB v.caller) (hl30 : v.stack.length < 2 ^ 30) (V : VwOK h v sS sM sR) (V' : VwOK h v sS' sM' sR') (hk : K (.bool true) h) : CallX Hval.prog 12 [.agg (v.cells sS sM sR).toArray, .agg (v.cells sS' sM' sR').toArray] h K := by
  refine CallX.of_xf T_ok Hval.func12 rfl (by kernel_rfl) (Nat.le_of_ble_eq_true rfl) ?_; conv => whnf
  refine BoxX.ext fun m1 hm1 em1 => ?_; conv => whnf
  refine BoxX.ext fun m2 hm2 em2 => ?_; conv => whnf
  rw [List.toList_toArray] at em1 hm2 em2
  rw [List.toList_toArray] at em2
  rw [List.toList_toArray, List.toList_toArray]
  have b1 : hput (hput h m1 (v.cells sS sM sR, 51)) m2 (v.cells sS' sM' sR', 51) m1 = some (v.cells sS sM sR, 51) := em2 _ _ (hput_same ..)
  have b2 : hput (hput h m1 (v.cells sS sM sR, 51)) m2 (v.cells sS' sM' sR', 51) m2 = some (v.cells sS' sM' sR', 51) := hput_same ..
  have eA : Ext h (hput (hput h m1 (v.cells sS sM sR, 51)) m2 (v.cells sS' sM' sR', 51)) := em1.trans em2
  generalize hput (hput h m1 (v.cells sS sM sR, 51)) m2 (v.cells sS' sM' sR', 51) = H at *
  have V := V.ext eA
  have V' := V'.ext eA
  refine LoadX.blk b1 (.bool v.done) (vw_low 0 (by decide)) ?_; conv => whnf
  repeat (first | (refine CondX.tt ?_; conv => whnf) | (refine CondX.ff ?_; conv => whnf))
  refine LoadX.blk b2 (.bool v.done) (vw_low 0 (by decide)) ?_; conv => whnf
  repeat (first | (refine CondX.tt ?_; conv => whnf) | (refine CondX.ff ?_; conv => whnf))
  refine CondX.pos (beq_self_eq_true _) ?_; conv => whnf
  repeat (first | (refine CondX.tt ?_; conv => whnf) | (refine CondX.ff ?_; conv => whnf))
  refine LoadX.blk b1 (.bool v.static) (vw_low 1 (by decide)) ?_; conv => whnf
  repeat (first | (refine CondX.tt ?_; conv => whnf) | (refine CondX.ff ?_; conv => whnf))
  refine LoadX.blk b2 (.bool v.static) (vw_low 1 (by decide)) ?_; conv => whnf
  repeat (first | (refine CondX.tt ?_; conv => whnf) | (refine CondX.ff ?_; conv => whnf))
  rw [show (v.static == v.static) = true from beq_self_eq_true _]
  refine LoadX.blk b1 (.int .u8 v.depth) (vw_low 2 (by decide)) ?_; conv => whnf
  repeat (first | (refine CondX.tt ?_; conv => whnf) | (refine CondX.ff ?_; conv => whnf))
  refine LoadX.blk b2 (.int .u8 v.depth) (vw_low 2 (by decide)) ?_; conv => whnf
  repeat (first | (refine CondX.tt ?_; conv => whnf) | (refine CondX.ff ?_; conv => whnf))
  refine CondX.pos (beq_self_eq_true _) ?_; conv => whnf
  repeat (first | (refine CondX.tt ?_; conv => whnf) | (refine CondX.ff ?_; conv => whnf))
  refine LoadX.blk b1 (.int .u16 v.pc) (vw_low 3 (by decide)) ?_; conv => whnf
  repeat (first | (refine CondX.tt ?_; conv => whnf) | (refine CondX.ff ?_; conv => whnf))
  refine LoadX.blk b2 (.int .u16 v.pc) (vw_low 3 (by decide)) ?_; conv => whnf
  repeat (first | (refine CondX.tt ?_; conv => whnf) | (refine CondX.ff ?_; conv => whnf))
  refine CondX.pos (beq_self_eq_true _) ?_; conv => whnf
  repeat (first | (refine CondX.tt ?_; conv => whnf) | (refine CondX.ff ?_; conv => whnf))
  refine LoadX.blk b1 (.int .u64 v.gas) (vw_low 4 (by decide)) ?_; conv => whnf
  repeat (first | (refine CondX.tt ?_; conv => whnf) | (refine CondX.ff ?_; conv => whnf))
  refine LoadX.blk b2 (.int .u64 v.gas) (vw_low 4 (by decide)) ?_; conv => whnf
  repeat (first | (refine CondX.tt ?_; conv => whnf) | (refine CondX.ff ?_; conv => whnf))
  refine CondX.pos (beq_self_eq_true _) ?_; conv => whnf
  repeat (first | (refine CondX.tt ?_; conv => whnf) | (refine CondX.ff ?_; conv => whnf))
  refine LoadX.blk b1 (.int .u64 v.ref) (vw_low 5 (by decide)) ?_; conv => whnf
  repeat (first | (refine CondX.tt ?_; conv => whnf) | (refine CondX.ff ?_; conv => whnf))
  refine LoadX.blk b2 (.int .u64 v.ref) (vw_low 5 (by decide)) ?_; conv => whnf
  repeat (first | (refine CondX.tt ?_; conv => whnf) | (refine CondX.ff ?_; conv => whnf))
  refine CondX.pos (beq_self_eq_true _) ?_; conv => whnf
  repeat (first | (refine CondX.tt ?_; conv => whnf) | (refine CondX.ff ?_; conv => whnf))
  refine LoadX.blk b1 (.int .u16 v.nl) (vw_get h1.1 h2.1 3) ?_; conv => whnf
  repeat (first | (refine CondX.tt ?_; conv => whnf) | (refine CondX.ff ?_; conv => whnf))
  refine LoadX.blk b2 (.int .u16 v.nl) (vw_get h1.1 h2.1 3) ?_; conv => whnf
  repeat (first | (refine CondX.tt ?_; conv => whnf) | (refine CondX.ff ?_; conv => whnf))
  rw [show (v.nl == v.nl) = true from beq_self_eq_true _]
  refine DrawX.go T_ok hM Hval.func12 (tb := dr12) rfl (by kernel_rfl) ?_; conv => whnf
  refine eqB_ok (vw_self h1.1 h1.2 b1) (vw_self h1.1 h1.2 b2) ?_; conv => whnf
  repeat (first | (refine CondX.tt ?_; conv => whnf) | (refine CondX.ff ?_; conv => whnf))
  refine eqB_ok (vw_caller h1.1 h2.1 h2.2 b1) (vw_caller h1.1 h2.1 h2.2 b2) ?_; conv => whnf
  repeat (first | (refine CondX.tt ?_; conv => whnf) | (refine CondX.ff ?_; conv => whnf))
  refine LoadX.blk b1 (sl sS) (vw_get h1.1 h2.1 0) ?_; conv => whnf
  refine LoadX.blk b2 (sl sS') (vw_get h1.1 h2.1 0) ?_; conv => whnf
  refine wordsMeet_ok hl30 V.st V'.st ?_; conv => whnf
  repeat (first | (refine CondX.tt ?_; conv => whnf) | (refine CondX.ff ?_; conv => whnf))
  refine LoadX.blk b1 (sl sM) (vw_get h1.1 h2.1 1) ?_; conv => whnf
  repeat (first | (refine CondX.tt ?_; conv => whnf) | (refine CondX.ff ?_; conv => whnf))
  refine LoadX.blk b2 (sl sM') (vw_get h1.1 h2.1 1) ?_; conv => whnf
  repeat (first | (refine CondX.tt ?_; conv => whnf) | (refine CondX.ff ?_; conv => whnf))
  refine eqB_ok V.mem V'.mem ?_; conv => whnf
  repeat (first | (refine CondX.tt ?_; conv => whnf) | (refine CondX.ff ?_; conv => whnf))
  refine LoadX.blk b1 (sl sR) (vw_get h1.1 h2.1 2) ?_; conv => whnf
  repeat (first | (refine CondX.tt ?_; conv => whnf) | (refine CondX.ff ?_; conv => whnf))
  refine LoadX.blk b2 (sl sR') (vw_get h1.1 h2.1 2) ?_; conv => whnf
  repeat (first | (refine CondX.tt ?_; conv => whnf) | (refine CondX.ff ?_; conv => whnf))
  refine eqB_ok V.ret V'.ret ?_; conv => whnf
  repeat (first | (refine CondX.tt ?_; conv => whnf) | (refine CondX.ff ?_; conv => whnf))
  exact RetX.drop eA hk
end
end Go.Proofs.YgvalwGreat.X
