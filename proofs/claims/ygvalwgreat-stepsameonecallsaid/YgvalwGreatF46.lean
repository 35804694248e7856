import Derived.Test.YgvalwGreatF45
set_option linter.unusedVariables false
set_option linter.unusedSimpArgs false
namespace Go.Proofs.YgvalwGreat.X
open Go

theorem seg_self {pre post : List Value} {f : YF} (h1 : f.self.length = 20) : seg (pre ++ (fCells f ++ post)) (pre.length + 12) 20 = bcells f.self := by
  have e : (bcells f.self).length = 20 := by rw [bcells_length, h1]
  simp only [seg]
  rw [← List.drop_drop, List.drop_left]
  have : fCells f ++ post = [Value.int .u8 f.kind, .int .u8 f.natv, .bool f.static, sl f.pcS, sl f.gasS, sl f.valS, sl f.ooS, sl f.olS, sl f.stS, sl f.memS, sl f.codeS, sl f.inS] ++ (bcells f.self ++ (bcells f.caller ++ f.saved.cells ++ post)) := by simp [fCells]
  rw [this]
  show ((bcells f.self ++ (bcells f.caller ++ f.saved.cells ++ post))).take 20 = _
  rw [← e, List.take_left]
theorem seg_caller {pre post : List Value} {f : YF} (h1 : f.self.length = 20) (h2 : f.caller.length = 20) : seg (pre ++ (fCells f ++ post)) (pre.length + 32) 20 = bcells f.caller := by
  have e : (bcells f.self).length = 20 := by rw [bcells_length, h1]
  have e2 : (bcells f.caller).length = 20 := by rw [bcells_length, h2]
  simp only [seg]
  rw [← List.drop_drop, List.drop_left]
  have : fCells f ++ post = [Value.int .u8 f.kind, .int .u8 f.natv, .bool f.static, sl f.pcS, sl f.gasS, sl f.valS, sl f.ooS, sl f.olS, sl f.stS, sl f.memS, sl f.codeS, sl f.inS] ++ (bcells f.self ++ (bcells f.caller ++ (f.saved.cells ++ post))) := by simp [fCells]
  rw [this]
  show ((bcells f.self ++ (bcells f.caller ++ (f.saved.cells ++ post))).drop 20).take 20 = _
  rw [show (20 : Nat) = (bcells f.self).length by rw [e], List.drop_left, e, ← e2, List.take_left]
theorem mid_len {pre post : List Value} {f : YF} (h1 : f.self.length = 20) (h2 : f.caller.length = 20) : (pre ++ (fCells f ++ post)).length = pre.length + (60 + post.length) := by
  simp [fCells_len h1 h2]
theorem ldV_self {h : Hp} {b o : Nat} {pre post : List Value} {f : YF} {t : TypeId} (hb : h b = some (pre ++ (fCells f ++ post), t)) (h1 : f.self.length = 20) (h2 : f.caller.length = 20) (ho : o = pre.length + 12) : ldV true 20 h b o = some (.agg (bcells f.self).toArray) := by
  subst ho
  simp only [ldV, hb]
  rw [if_pos (by rw [mid_len h1 h2]; omega), seg_self h1]
theorem ldV_caller {h : Hp} {b o : Nat} {pre post : List Value} {f : YF} {t : TypeId} (hb : h b = some (pre ++ (fCells f ++ post), t)) (h1 : f.self.length = 20) (h2 : f.caller.length = 20) (ho : o = pre.length + 32) : ldV true 20 h b o = some (.agg (bcells f.caller).toArray) := by
  subst ho
  simp only [ldV, hb]
  rw [if_pos (by rw [mid_len h1 h2]; omega), seg_caller h1 h2]

/-- The value of a slot; whether an account is empty. -/
def slotV (acc : List YAcct) (a : List Int) (k : Int) : Int := (getS (getA acc a).slots k).val
def emptyA (x : YAcct) : Bool := decide (x.nonce = 0 ∧ x.bal = 0 ∧ x.code = [])

section
variable {hi hm : Hp} {K : Value → Hp → Prop}
set_option maxRecDepth 100000 in
set_option maxHeartbeats 4000000 in
theorem ysstore_ok (hd : Dj hi hm) {c b : Nat} {cells : List Value} {tc : TypeId} {w : YW} {pre post : List Value} {f : YF} {t : TypeId} (hc : hm c = some (cells, tc)) (hW : ∀ j, j < 8 → cells[0 + j]? = w.cells[j]?) (hS : cells[8]? = some (sl nilS)) (hw : w.ok hi (join hi hm)) (hwr : w.room)
    (hb : hm b = some (pre ++ (fCells f ++ post), t)) (hok : f.ok hi)
    (hk : ∀ s1 s2 s3 hi', Ext hi hi' → Dj hi' hm → NtS hi' s1 (sstoreC (slotV w.acc f.self (argI f.st 0)) (argI f.st 1) (!hasM w.ws f.self (argI f.st 0))) → NtS hi' s2 (sstoreP (slotV w.acc f.self (argI f.st 0)) (argI f.st 1)) → NtS hi' s3 0 → K (.tuple #[sl s1, sl s2, sl s3]) (join hi' hm)) :
    CallX Hval.prog 307 [.pointer (some ⟨c, 0, none⟩), .pointer (some ⟨b, pre.length, none⟩)] (join hi hm) K := by
  refine CallX.of_xf T_ok Hval.func307 rfl (by kernel_rfl) (Nat.le_of_ble_eq_true rfl) ?_; conv => whnf
  have hE := Ext.jl hi hm
  have hst := hok.st.ext hE
  have hsr : f.stS.2.1 < 2 ^ 30 := by have := hok.n; have := hok.stR; omega
  have aok : ∀ i, NtS hi (argP f.st i).1 (argI f.st i) := fun i => argP_ok hok.stE i
  have hself := ldV_self (join_hm hd hb) hok.self hok.caller (o := pre.length + 12) rfl
  refine arg_ok (join_hm hd hb) hst hsr 0 (by decide) ?_; conv => whnf
  refine DrawX.go T_ok hM Hval.func307 (tb := dr307) rfl (by kernel_rfl) ?_; conv => whnf
  refine LoadX.of _ hself ?_; conv => whnf
  refine isWarmSlot_ok (xs := w.ws) (join_hm hd hc) (hW 2 (by decide)) (hw.ws.ext hE) hok.self (by have := hwr.ws; omega) ((aok 0).ext hE) ?_; conv => whnf
  refine DrawX.go T_ok hM Hval.func307 (tb := dr307) rfl (by kernel_rfl) ?_; conv => whnf
  refine LoadX.of _ hself ?_; conv => whnf
  refine LoadX.of _ hself ?_; conv => whnf
  refine orig0_ok (join_hm hd hc) hS hok.self ?_; conv => whnf
  refine Ob.mk hself ?_; conv => whnf
  refine wload_ok (xs := w.acc) (join_hm hd hc) (hW 0 (by decide)) (hw.acc.ext hE) hok.self (by have := hwr.acc; omega) ((aok 0).ext hE) (fun x hx => by have := hwr.each x hx; omega) ?_; conv => whnf
  refine arg_ok (join_hm hd hb) hst hsr 1 (by decide) ?_; conv => whnf
  have hsl : NtS hi (getS (getA w.acc f.self).slots (argI f.st 0)).vs (slotV w.acc f.self (argI f.st 0)) := getS_ok (getA_ok hw.acc.each hok.self).each
  refine CallX.fj hd (ypSstore_ok hsl (aok 1) fun b1 n1 c1 b2 n2 c2 b3 n3 c3 hi' he g1 g2 g3 hd' => ?_); conv => whnf
  exact RetX.same (hk (b1, n1, c1) (b2, n2, c2) (b3, n3, c3) hi' he hd' g1 g2 g3)
end
end Go.Proofs.YgvalwGreat.X
