import Derived.Test.YgvalwGreatG25
set_option linter.unusedVariables false
set_option linter.unusedSimpArgs false
namespace Go.Proofs.YgvalwGreat.X
open Go

/-- What can be seen: the cells of a View. -/
def vwCells (done static : Bool) (depth pc gas ref : Int) (self caller : List Int) (sS sM sR : Sl) (nl : Int) : List Value :=
  [.bool done, .bool static, .int .u8 depth, .int .u16 pc, .int .u64 gas, .int .u64 ref] ++ (bcells self ++ (bcells caller ++ [sl sS, sl sM, sl sR, .int .u16 nl]))
structure VW where
  done : Bool
  static : Bool
  depth : Int
  pc : Int
  gas : Int
  ref : Int
  self : List Int
  caller : List Int
  stack : List Int
  mem : List Int
  ret : List Int
  nl : Int
def z20 : List Int := List.replicate 20 0
def smI (x : Int) : Int := if x < 18446744073709551616 then x else 0
/-- The view of a state. -/
def viewA (a : AS) : VW :=
  if a.phase = 2 then ⟨true, false, 0, 0, smI a.left, smI a.w.ref, z20, z20, [], [], a.ret, (a.w.nlogs % 65536 : Nat)⟩
  else match a.frs.reverse with
    | [] => ⟨true, false, 0, 0, 0, 0, z20, z20, [], [], [], 0⟩
    | f :: b => if a.phase = 1 then ⟨false, f.static, b.length, smI f.pc % 65536, smI f.gas, smI a.w.ref, f.self, f.caller, f.st, f.mem, a.ret, (a.w.nlogs % 65536 : Nat)⟩
      else ⟨true, false, 0, 0, 0, 0, z20, z20, [], [], [], 0⟩
/-- A View lies in the heap. -/
structure VwOK (h : Hp) (v : VW) (sS sM sR : Sl) : Prop where
  st : Arr h sS 32 (v.stack.map fun x => bcells (be 32 x))
  mem : BytS h sM v.mem
  ret : BytS h sR v.ret
def VW.cells (v : VW) (sS sM sR : Sl) : List Value := vwCells v.done v.static v.depth v.pc v.gas v.ref v.self v.caller sS sM sR v.nl
theorem two_fill {H T U R : List Value} {a : Nat} (hH : H.length = a) (hT : T.length = 20) (hU : U.length = 20) : setSeg (setSeg (H ++ R) a T) (a + 20) U = H ++ (T ++ (U ++ R.drop 40)) := by
  have h1 : setSeg (H ++ R) a T = H ++ (T ++ R.drop 20) := by
    simp only [setSeg, hT]
    rw [← hH, List.take_left, ← List.drop_drop, List.drop_left, List.append_assoc]
  rw [h1]
  simp only [setSeg, hU]
  have e2 : (H ++ (T ++ R.drop 20)).take (a + 20) = H ++ T := by
    rw [← List.append_assoc, show a + 20 = (H ++ T).length by simp [hH, hT], List.take_left]
  have e3 : (H ++ (T ++ R.drop 20)).drop (a + 20 + 20) = R.drop 40 := by
    rw [← List.append_assoc, ← List.drop_drop, show a + 20 = (H ++ T).length by simp [hH, hT], List.drop_left, List.drop_drop]
  rw [e2, e3, List.append_assoc, List.append_assoc]
theorem set_tail {H T U R : List Value} {k o : Nat} {v : Value} (hk : k < R.length) (ho : o = (H ++ (T ++ U)).length + k) : setSeg (H ++ (T ++ (U ++ R))) o [v] = H ++ (T ++ (U ++ R.set k v)) := by
  subst ho
  have := set_mid (pre := H ++ (T ++ U)) (L := R) (post := []) (v := v) hk
  simpa using this
theorem wrap_u16' (x : Int) : IntKind.u16.wrap x = x % 65536 := by simp [IntKind.wrap, IntKind.signed, IntKind.bits]
section
variable {hi hm : Hp} {K : Value → Hp → Prop} {c : Nat} {tc : TypeId} {s : YS} {frs : List (YF × List Int)} {ret : List Int} {left : Int} {N : Nat}
set_option maxRecDepth 100000 in
set_option maxHeartbeats 4000000 in
theorem yview_ok (S : StOK hi hm c tc s frs ret left) (hN : StN N s frs) (hN30 : N < 2 ^ 30) (hph : s.phase = 0 ∨ s.phase = 1 ∨ s.phase = 2) (hsW : ∀ q ∈ frs, stW q.1.st) (hfl : frs.length ≤ 200) (hne : s.phase = 1 → frs ≠ [])
    (hk : ∀ hi' sS sM sR, Ext hi hi' → Dj hi' hm → VwOK hi' (viewA (absS s frs ret left)) sS sM sR → K (.agg ((viewA (absS s frs ret left)).cells sS sM sR).toArray) (join hi' hm)) :
    CallX Hval.prog 14 [.pointer (some ⟨c, 0, none⟩)] (join hi hm) K := by
  refine CallX.of_xf T_ok Hval.func14 rfl (by kernel_rfl) (Nat.le_of_ble_eq_true rfl) ?_; conv => whnf
  have hd := S.dj
  have hc := S.chain
  refine BoxX.jm hd fun m2 hin2 hmn2 hd2 => ?_; conv => whnf
  have hc2 : ∀ y, hput hm m2 y c = some (sCells s, tc) := fun y => hput_old hc hmn2
  refine LoadX.blk (join_hm hd2 (hc2 _)) (.int .u8 s.phase) rfl ?_; conv => whnf
  have hlr : s.w.logs.length = s.w.sL.2.1 := by have := S.now.logs.len; simpa using this
  have hlN := hN.now.logs
  refine CondX.eqI (fun h2 => ?_) (fun h2 => ?_) <;> conv => whnf
  · refine DrawX.go T_ok hM Hval.func14 (tb := dr14) rfl (by kernel_rfl) ?_; conv => whnf
    refine LoadX.blk (join_hm hd2 (hc2 _)) (sl s.leftS) rfl ?_; conv => whnf
    refine LoadX.blk (join_hm hd2 (hc2 _)) (sl s.w.sR) rfl ?_; conv => whnf
    refine LoadX.blk (join_hm hd2 (hc2 _)) (sl s.w.sL) rfl ?_; conv => whnf
    refine LoadX.blk (join_hm hd2 (hc2 _)) (sl s.retS) rfl ?_; conv => whnf
    refine small_ok (S.left.ext (Ext.jl _ _)) ?_; conv => whnf
    repeat (refine Ob.mk (by first | exact ldV_blk (join_hm hd2 (hc2 _)) rfl) ?_; conv => whnf)
    refine small_ok (S.now.ref.ext (Ext.jl _ _)) ?_; conv => whnf
    repeat (refine Ob.mk (by first | exact ldV_blk (join_hm hd2 (hc2 _)) rfl) ?_; conv => whnf)
    refine CallX.fj hd2 (bytesOf_any S.ret fun bR cR hi3 e3 g3 hd3 => ?_); conv => whnf
    repeat (refine Ob.mk (by first | exact ldV_blk (join_hm hd3 (hc2 _)) rfl) ?_; conv => whnf)
    have hnl : IntKind.u16.wrap (s.w.sL.2.1 : Int) = ((s.w.logs.length % 65536 : Nat) : Int) := by rw [wrap_u16']; omega
    have hvw : viewA (absS s frs ret left) = ⟨true, false, 0, 0, smI left, smI s.w.ref, z20, z20, [], [], ret, (s.w.logs.length % 65536 : Nat)⟩ := by unfold viewA; rw [if_pos (show (absS s frs ret left).phase = 2 from h2)]; rfl
    rw [hvw] at hk
    refine Ob.mk ⟨rfl, rfl⟩ ?_; conv => whnf
    refine StoreX.top hd3 (vwCells true false 0 0 (smI left) (smI s.w.ref) z20 z20 nilS nilS (bR, s.retS.2.1, cR) (IntKind.u16.wrap (s.w.sL.2.1 : Int))) rfl (Nat.le_of_ble_eq_true rfl) fun hd4 => ?_; conv => whnf
    rw [hnl] at hd4 ⊢
    refine LoadX.all (c := vwCells true false 0 0 (smI left) (smI s.w.ref) z20 z20 nilS nilS (bR, s.retS.2.1, cR) ((s.w.logs.length % 65536 : Nat) : Int)) (join_hm hd4 (hput_same ..)) rfl ?_; conv => whnf
    exact RetX.drop (h' := join hi3 hm) (Ext.jmono hd4 (Ext.new hmn2)) (hk hi3 nilS nilS (bR, s.retS.2.1, cR) e3 (hd3.mono (Ext.new hmn2)) ⟨Arr_nil _ 32, Byt_nil _, g3⟩)
  refine LoadX.blk (join_hm hd2 (hc2 _)) (.int .u8 s.phase) rfl ?_; conv => whnf
  refine CondX.neI (fun h1 => ?_) (fun h1 => ?_) <;> conv => whnf
  · repeat (first | (refine CondX.tt ?_; conv => whnf) | (refine CondX.ff ?_; conv => whnf))
    refine Ob.mk ⟨rfl, rfl⟩ ?_; conv => whnf
    have hvw : viewA (absS s frs ret left) = ⟨true, false, 0, 0, 0, 0, z20, z20, [], [], [], 0⟩ := by
      unfold viewA
      rw [if_neg (show ¬ (absS s frs ret left).phase = 2 from h2)]
      split
      · rfl
      · rw [if_neg (show ¬ (absS s frs ret left).phase = 1 from h1)]
    rw [hvw] at hk
    refine StoreX.top hd2 (vwCells true false 0 0 0 0 z20 z20 nilS nilS nilS 0) rfl (Nat.le_of_ble_eq_true rfl) fun hd4 => ?_; conv => whnf
    refine LoadX.all (c := vwCells true false 0 0 0 0 z20 z20 nilS nilS nilS 0) (join_hm hd4 (hput_same ..)) rfl ?_; conv => whnf
    exact RetX.drop (h' := join hi hm) (Ext.jmono hd4 (Ext.new hmn2)) (hk hi nilS nilS nilS (Ext.refl _) hd ⟨Arr_nil _ 32, Byt_nil _, Byt_nil _⟩)
  obtain ⟨base, ⟨f, m⟩, rfl⟩ : ∃ base q, frs = base ++ [q] := by
    rcases List.eq_nil_or_concat frs with h | ⟨b, q, h⟩
    · exact absurd h (hne h1)
    · exact ⟨b, q, by simpa using h⟩
  obtain ⟨fb, pad, tf, hfb, hb, hn1, hn2, hn3⟩ := S.top
  have hok := S.okT
  have hpl := S.preL
  have hbn : base.length ≤ 200 := by simp at hfl; omega
  have hb2 : ∀ y, hput hm m2 y fb = some (preC base ++ (fCells f ++ pad), tf) := fun y => hput_old hb hmn2
  have S2 := S.more (Ext.new (x := ((51, y51).snd.zero, 51)) hmn2) hd2
  repeat (first | (refine CondX.tt ?_; conv => whnf) | (refine CondX.ff ?_; conv => whnf))
  refine LoadX.blk (join_hm hd2 (hc2 _)) (sl s.frS) rfl ?_; conv => whnf
  repeat (first | (refine CondX.tt ?_; conv => whnf) | (refine CondX.ff ?_; conv => whnf))
  refine CondX.eqF (by omega) ?_; conv => whnf
  refine DrawX.go T_ok hM Hval.func14 (tb := dr14) rfl (by kernel_rfl) ?_; conv => whnf
  refine LoadX.blk (join_hm hd2 (hc2 _)) (sl s.frS) rfl ?_; conv => whnf
  refine LoadX.blk (join_hm hd2 (hc2 _)) (sl s.frS) rfl ?_; conv => whnf
  have eI : IntKind.i64.wrap ((s.frS.2.1 : Int) - 1) = ((base.length : Nat) : Int) := by rw [wrap_i64 (by omega) (by omega)]; omega
  rw [eI]
  refine IdxX.arr (S2.frA.arr hd2) (by omega) (by omega) (by omega) fun b1 off1 ef => ?_
  have : some (⟨b1, off1, none⟩ : Addr) = some ⟨fb, 0, none⟩ := ef.symm.trans hfb
  cases this
  conv => whnf
  have eO : 0 + ((base.length : Nat) : Int).toNat * (135, y135).snd.size = (preC base).length := by rw [Int.toNat_natCast, hpl, Nat.zero_add]; rfl
  rw [eO]
  have hself := fun {h0 : Hp} (hdx : Dj h0 (hput hm m2 ((51, y51).snd.zero, 51))) => ldV_self (join_hm hdx (hb2 _)) hok.self hok.caller (o := (preC base).length + 12) rfl
  have hcal := fun {h0 : Hp} (hdx : Dj h0 (hput hm m2 ((51, y51).snd.zero, 51))) => ldV_caller (join_hm hdx (hb2 _)) hok.self hok.caller (o := (preC base).length + 32) rfl
  refine DrawX.go T_ok hM Hval.func14 (tb := dr14) rfl (by kernel_rfl) ?_; conv => whnf
  refine LoadX.mid (join_hm hd2 (hb2 _)) 2 (by decide) rfl (v := .bool f.static) rfl ?_; conv => whnf
  refine LoadX.blk (join_hm hd2 (hc2 _)) (sl s.frS) rfl ?_; conv => whnf
  rw [eI]
  refine LoadX.mid (join_hm hd2 (hb2 _)) 3 (by decide) rfl (v := sl f.pcS) rfl ?_; conv => whnf
  refine LoadX.mid (join_hm hd2 (hb2 _)) 4 (by decide) rfl (v := sl f.gasS) rfl ?_; conv => whnf
  refine LoadX.blk (join_hm hd2 (hc2 _)) (sl s.w.sR) rfl ?_; conv => whnf
  refine LoadX.of _ (hself hd2) ?_; conv => whnf
  refine LoadX.of _ (hcal hd2) ?_; conv => whnf
  refine LoadX.mid (join_hm hd2 (hb2 _)) 9 (by decide) rfl (v := sl f.memS) rfl ?_; conv => whnf
  refine LoadX.blk (join_hm hd2 (hc2 _)) (sl s.retS) rfl ?_; conv => whnf
  refine LoadX.blk (join_hm hd2 (hc2 _)) (sl s.w.sL) rfl ?_; conv => whnf
  refine small_ok (hok.pc.ext (Ext.jl _ _)) ?_; conv => whnf
  repeat (refine Ob.mk (by first | exact ldV_mid (join_hm hd2 (hb2 _)) 2 (by decide) rfl rfl | exact ldV_mid (join_hm hd2 (hb2 _)) 3 (by decide) rfl rfl | exact ldV_mid (join_hm hd2 (hb2 _)) 4 (by decide) rfl rfl | exact ldV_mid (join_hm hd2 (hb2 _)) 9 (by decide) rfl rfl | exact hself hd2 | exact hcal hd2 | exact ldV_blk (join_hm hd2 (hc2 _)) rfl) ?_; conv => whnf)
  refine small_ok (hok.gas.ext (Ext.jl _ _)) ?_; conv => whnf
  repeat (refine Ob.mk (by first | exact ldV_mid (join_hm hd2 (hb2 _)) 2 (by decide) rfl rfl | exact ldV_mid (join_hm hd2 (hb2 _)) 3 (by decide) rfl rfl | exact ldV_mid (join_hm hd2 (hb2 _)) 4 (by decide) rfl rfl | exact ldV_mid (join_hm hd2 (hb2 _)) 9 (by decide) rfl rfl | exact hself hd2 | exact hcal hd2 | exact ldV_blk (join_hm hd2 (hc2 _)) rfl) ?_; conv => whnf)
  refine small_ok (S.now.ref.ext (Ext.jl _ _)) ?_; conv => whnf
  repeat (refine Ob.mk (by first | exact ldV_mid (join_hm hd2 (hb2 _)) 2 (by decide) rfl rfl | exact ldV_mid (join_hm hd2 (hb2 _)) 3 (by decide) rfl rfl | exact ldV_mid (join_hm hd2 (hb2 _)) 4 (by decide) rfl rfl | exact ldV_mid (join_hm hd2 (hb2 _)) 9 (by decide) rfl rfl | exact hself hd2 | exact hcal hd2 | exact ldV_blk (join_hm hd2 (hc2 _)) rfl) ?_; conv => whnf)
  refine bytesOf_j hd2 (S2.memT.byt hd2) fun sM hi3 e3 hd3 g3 => ?_; conv => whnf
  repeat (refine Ob.mk (by first | exact ldV_mid (join_hm hd3 (hb2 _)) 2 (by decide) rfl rfl | exact ldV_mid (join_hm hd3 (hb2 _)) 3 (by decide) rfl rfl | exact ldV_mid (join_hm hd3 (hb2 _)) 4 (by decide) rfl rfl | exact ldV_mid (join_hm hd3 (hb2 _)) 9 (by decide) rfl rfl | exact hself hd3 | exact hcal hd3 | exact ldV_blk (join_hm hd3 (hc2 _)) rfl) ?_; conv => whnf)
  refine CallX.fj hd3 (bytesOf_any (S.ret.ext e3) fun bR cR hi4 e4 g4 hd4 => ?_); conv => whnf
  repeat (refine Ob.mk (by first | exact ldV_mid (join_hm hd4 (hb2 _)) 2 (by decide) rfl rfl | exact ldV_mid (join_hm hd4 (hb2 _)) 3 (by decide) rfl rfl | exact ldV_mid (join_hm hd4 (hb2 _)) 4 (by decide) rfl rfl | exact ldV_mid (join_hm hd4 (hb2 _)) 9 (by decide) rfl rfl | exact hself hd4 | exact hcal hd4 | exact ldV_blk (join_hm hd4 (hc2 _)) rfl) ?_; conv => whnf)
  have alenS : (bcells f.self).length = 20 := by rw [bcells_length, hok.self]
  have alenC : (bcells f.caller).length = 20 := by rw [bcells_length, hok.caller]
  have p0 := hok.pc.val
  have hsp : 0 ≤ smI f.pc := by unfold smI; split <;> omega
  have hdp : IntKind.u8.wrap ((base.length : Nat) : Int) = ((base.length : Nat) : Int) := by rw [wrap_u8]; omega
  have hpc16 : IntKind.u16.wrap (if f.pc < 18446744073709551616 then f.pc else 0) = smI f.pc % 65536 := by rw [wrap_u16']; rfl
  have hnl : IntKind.u16.wrap (s.w.sL.2.1 : Int) = ((s.w.logs.length % 65536 : Nat) : Int) := by rw [wrap_u16']; omega
  rw [hdp, hpc16, hnl]
  obtain ⟨H, hH⟩ : ∃ H : List Value, H = [.bool false, .bool f.static, .int .u8 ((base.length : Nat) : Int), .int .u16 (smI f.pc % 65536), .int .u64 (smI f.gas), .int .u64 (smI s.w.ref)] := ⟨_, rfl⟩
  have hHl : H.length = 6 := by rw [hH]; rfl
  have eH : setSeg (setSeg (setSeg (setSeg (setSeg z51 1 [.bool f.static]) 2 [.int .u8 ((base.length : Nat) : Int)]) 3 [.int .u16 (smI f.pc % 65536)]) 4 [.int .u64 (if f.gas < 18446744073709551616 then f.gas else 0)]) 5 [.int .u64 (if s.w.ref < 18446744073709551616 then s.w.ref else 0)] = H ++ z51.drop 6 := by rw [hH]; rfl
  have e2 := two_fill (R := z51.drop 6) hHl alenS alenC
  have l1 : 26 + 20 ≤ (setSeg (H ++ z51.drop 6) 6 (bcells f.self)).length := by
    rw [setSeg_length (by rw [alenS, List.length_append, hHl]; exact Nat.le_of_ble_eq_true rfl), List.length_append, hHl]; exact Nat.le_of_ble_eq_true rfl
  have l2 : ∀ R : List Value, (H ++ (bcells f.self ++ (bcells f.caller ++ R))).length = 46 + R.length := fun R => by simp [hHl, alenS, alenC]; omega
  have hHT : (H ++ (bcells f.self ++ bcells f.caller)).length = 46 := by simp [hHl, alenS, alenC]
  erw [fillL_one (off := 1) rfl rfl (Nat.le_of_ble_eq_true rfl), fillL_one (off := 2) rfl rfl (Nat.le_of_ble_eq_true rfl), fillL_one (off := 3) rfl rfl (Nat.le_of_ble_eq_true rfl), fillL_one (off := 4) rfl rfl (Nat.le_of_ble_eq_true rfl), fillL_one (off := 5) rfl rfl (Nat.le_of_ble_eq_true rfl)]
  erw [eH]
  erw [fillL_agg (off := 6) (n := 20) rfl alenS (by rw [List.length_append, hHl]; exact Nat.le_of_ble_eq_true rfl), fillL_agg (off := 26) (n := 20) rfl alenC l1]
  erw [e2]
  erw [fillL_one (off := 47) rfl rfl (by rw [l2]; exact Nat.le_of_ble_eq_true rfl)]
  rw [set_tail (k := 1) (by decide) (by rw [hHT])]
  erw [fillL_one (off := 48) rfl rfl (by rw [l2]; exact Nat.le_of_ble_eq_true rfl)]
  rw [set_tail (k := 2) (by simp; decide) (by rw [hHT])]
  erw [fillL_one (off := 49) rfl rfl (by rw [l2]; exact Nat.le_of_ble_eq_true rfl)]
  rw [set_tail (k := 3) (by simp; decide) (by rw [hHT])]
  erw [fillL_done]
  have eF : H ++ (bcells f.self ++ (bcells f.caller ++ ((((z51.drop 6).drop 40).set 1 (Value.slice sM.1 sM.2.1 sM.2.2)).set 2 (Value.slice bR s.retS.2.1 cR)).set 3 (Value.int IntKind.u16 ((s.w.logs.length % 65536 : Nat) : Int)))) = vwCells false f.static ((base.length : Nat) : Int) (smI f.pc % 65536) (smI f.gas) (smI s.w.ref) f.self f.caller nilS sM (bR, s.retS.2.1, cR) ((s.w.logs.length % 65536 : Nat) : Int) := by rw [hH]; rfl
  rw [eF]
  clear eF e2 l1 eH
  obtain ⟨VC, hVC⟩ : ∃ VC : Sl → List Value, VC = fun sS => vwCells false f.static ((base.length : Nat) : Int) (smI f.pc % 65536) (smI f.gas) (smI s.w.ref) f.self f.caller sS sM (bR, s.retS.2.1, cR) ((s.w.logs.length % 65536 : Nat) : Int) := ⟨_, rfl⟩
  have hVCe : ∀ sS, vwCells false f.static ((base.length : Nat) : Int) (smI f.pc % 65536) (smI f.gas) (smI s.w.ref) f.self f.caller sS sM (bR, s.retS.2.1, cR) ((s.w.logs.length % 65536 : Nat) : Int) = VC sS := fun sS => by rw [hVC]
  have hVn : ∀ sS, VC sS = H ++ (bcells f.self ++ (bcells f.caller ++ [sl sS, sl sM, sl (bR, s.retS.2.1, cR), .int .u16 ((s.w.logs.length % 65536 : Nat) : Int)])) := fun sS => by rw [hVC, hH]; rfl
  have hVl : ∀ sS, (VC sS).length = 50 := fun sS => by rw [hVn, l2]; rfl
  have hV46 : ∀ sS, (VC sS)[46]? = some (sl sS) := fun sS => by
    rw [hVn, ← List.append_assoc (bcells f.self), ← List.append_assoc H, List.getElem?_append_right (by rw [hHT]; exact Nat.le_refl _), hHT]; rfl
  have hVs : ∀ sS s9, setSeg (VC sS) 46 [sl s9] = VC s9 := fun sS s9 => by rw [hVn, hVn, set_tail (k := 0) (by simp) (by rw [hHT])]; rfl
  have hV1 : ∀ sS, ones (VC sS) = true := fun sS => by
    rw [hVn, hH]; exact ones_append rfl (ones_append (ones_bcells _) (ones_append (ones_bcells _) rfl))
  rw [hVCe]
  refine forceL_of (by rw [hVn, hH]; exact fok_app (fun v hv => by simp only [List.mem_cons, List.not_mem_nil, or_false] at hv; rcases hv with rfl | rfl | rfl | rfl | rfl | rfl <;> exact fun K hK => hK) (fok_app fok_bcells (fok_app fok_bcells fun v hv => by simp only [List.mem_cons, List.not_mem_nil, or_false] at hv; rcases hv with rfl | rfl | rfl | rfl <;> exact fun K hK => hK))) ?_; conv => whnf
  refine BoxW.jm hd4 fun m5 hin5 hmn5 hd5 => ?_; conv => whnf
  refine Ob.mk ⟨by rw [List.size_toArray, hVl]; rfl, hV1 _⟩ ?_; conv => whnf
  refine StoreX.top hd5 (VC nilS) (by rw [setSeg_all (by rw [List.toList_toArray, hVl]; rfl), List.toList_toArray]) (by rw [List.toList_toArray, hVl]; decide) fun hd6 => ?_; conv => whnf
  obtain ⟨hm2, hhm2⟩ : ∃ h : Hp, h = hput hm m2 ((51, y51).snd.zero, 51) := ⟨_, rfl⟩
  rw [← hhm2] at hd6 hmn5 hd4 ⊢
  have hb2' : hm2 fb = some (preC base ++ (fCells f ++ pad), tf) := by rw [hhm2]; exact hb2 _
  have h22 : hm2 m2 = some ((51, y51).snd.zero, 51) := by rw [hhm2]; exact hput_same ..
  have hm25 : m2 ≠ m5 := ne_get h22 hmn5
  have e34 := e3.trans e4
  have hst4 := hok.st.ext e34
  have hstn := hok.n
  have hstR := hok.stR
  refine LoadX.mid (join_hm hd6 (hput_old hb2' hmn5)) 8 (by decide) rfl (v := sl f.stS) rfl ?_; conv => whnf
  refine LoopX.st T_ok Hval.func14 (σ := Nat × Hp × Sl) (fun q => [(2, .pointer (some ⟨m2, 0, none⟩)), (5, .pointer (some ⟨m5, 0, none⟩)), (122, sl f.stS), (123, .int .i64 f.stS.2.1), (124, .int .i64 q.1)])
    (fun q h' => q.1 ≤ f.stS.2.1 ∧ h' = join hi4 q.2.1 ∧ Dj hi4 q.2.1 ∧ ArrM q.2.1 q.2.2 32 ((f.st.take q.1).map fun p => bcells (be 32 p.2)) ∧ q.2.1 m5 = some (VC q.2.2, 51) ∧ Ext hm2 q.2.1 ∧ ∀ fb, at0 q.2.2 fb → hm2 fb = none ∧ fb ≠ m5) (fun q => f.stS.2.1 - q.1) (0, hput hm2 m5 (VC nilS, 51), nilS)
    ⟨rfl, rfl, rfl, rfl, rfl, trivial⟩ ⟨Nat.zero_le _, rfl, hd6, ⟨fun b x hb => (by cases hb), fun e he => (by cases he), fun e he => (by cases he), rfl, .inl ⟨rfl, rfl, rfl⟩⟩, hput_same .., Ext.new hmn5, fun fb h => (by cases h)⟩ ?_
  rintro ⟨k, hmk, sT⟩ ρ h' ⟨hk1, rfl, hdk, hAk, h5k, hEk, hfr⟩ ih
  dsimp only at hk1 hAk h5k hEk hfr hdk
  conv => whnf
  have hTn : sT.2.1 = k := by have := hAk.len; simp at this; omega
  refine CondX.decI (fun hlt => ?_) (fun hlt => ?_) <;> conv => whnf
  · have hlt : k < f.stS.2.1 := by omega
    have hat := hst4.ext (Ext.jl hi4 hmk)
    refine IdxX.arr hat (by omega) (by omega) (by omega) fun b1 off ee => ?_; conv => whnf
    refine LoadX.of (sl (opdP f.st k).1) (stC_ld hat ee (by omega) (by simp [show y106.size = 1 from rfl])) ?_; conv => whnf
    have ho2 : NtS hi4 (opdP f.st k).1 (opdI f.st k) := opdP_ok (fun p hp => (hok.stE p hp).ext e34) k
    have ho2W : opdI f.st k < W := opd_lt (hsW (f, m) (by simp)) k
    refine DrawX.go T_ok hM Hval.func14 (tb := dr14) rfl (by kernel_rfl) ?_; conv => whnf
    refine LoadX.blk (join_hm hdk h5k) (sl sT) (hV46 sT) ?_; conv => whnf
    refine ypword_ok (ho2.ext (Ext.jl _ _)) ho2W ?_; conv => whnf
    repeat (refine Ob.mk (by first | exact ldV_blk (join_hm hdk h5k) (hV46 sT)) ?_; conv => whnf)
    have vlen : (bcells (be 32 (opdI f.st k))).length = 32 := by rw [bcells_length, be_length]
    refine Ob.mk (by first | decide | omega) ?_; conv => whnf
    refine BoxX.eq (vs' := bcells (be 32 (opdI f.st k))) (setSeg_all (by erw [vlen])) ?_
    refine BoxX.jm hdk fun mv hinv hmnv hdv => ?_; conv => whnf
    have h5v := hput_old (y := (bcells (be 32 (opdI f.st k)), (33 : TypeId))) h5k hmnv
    have hfn : ∀ fb, sT.1 = some ⟨fb, 0, none⟩ → m5 ≠ fb := fun fb h => ((hfr fb h).2).symm
    have hAv : ArrM (hput hmk mv (bcells (be 32 (opdI f.st k)), 33)) sT 32 ((f.st.take k).map fun p => bcells (be 32 p.2)) := hAk.mono fun fb x hs hb => hput_old hb hmnv
    repeat (refine Ob.mk (by first | exact ldV_blk (join_hm hdv h5v) (hV46 sT)) ?_; conv => whnf)
    refine AppendX.mut (z := z33) (sz := 32) (bytes := 32) hdv hAv (rd_block (join_hm hdv (hput_same ..)) (by exact vlen)) vlen rfl (ones_bcells _) (by decide) (by omega) fun s9 hm9 hd9 hA9 hK9 => ?_; conv => whnf
    have h59 := hK9 m5 _ h5v hfn
    repeat (refine Ob.mk (by first | exact ldV_blk (join_hm hd9 h59.1) (hV46 sT)) ?_; conv => whnf)
    refine StoreX.jm hd9 h59.1 (by rw [hVl]; exact Nat.le_of_ble_eq_true rfl) ?_; conv => whnf
    erw [hVs sT s9]
    have hold : ∀ b y, hm2 b = some y → hm9 b = some y ∧ ∀ fb, s9.1 = some ⟨fb, 0, none⟩ → b ≠ fb := fun b y hb => hK9 b y (hput_old (hEk _ _ hb) hmnv) fun fb hs he => by
      have := (hfr fb hs).1
      rw [← he, hb] at this; cases this
    have hnx : (f.st.take (k + 1)).map (fun p => bcells (be 32 p.2)) = (f.st.take k).map (fun p => bcells (be 32 p.2)) ++ [bcells (be 32 (opdI f.st k))] := by
      rw [List.take_succ_eq_append_getElem (by omega : k < f.st.length), List.map_append]
      congr 1
      have : f.st[k]'(by omega) = opdP f.st k := by unfold opdP; rw [List.getD_eq_getElem?_getD, List.getElem?_eq_getElem (by omega)]; rfl
      rw [this]; rfl
    refine ih (k + 1, hput hm9 m5 (VC s9, 51), s9) _ _ ⟨by dsimp only; omega, rfl, hd9.put h59.1, ?_, hput_same .., fun b y hb => ?_, fun fb hs => ⟨?_, (h59.2 fb hs).symm⟩⟩ (by dsimp only; omega) ⟨rfl, rfl, rfl, rfl, ?_, trivial⟩
    · dsimp only
      rw [hnx]
      exact hA9.mono fun fb x hs hb => by rw [hput_ne (h59.2 fb hs).symm]; exact hb
    · show hput hm9 m5 _ b = _
      have hbm : b ≠ m5 := by rintro rfl; rw [hmn5] at hb; cases hb
      rw [hput_ne hbm]; exact (hold b y hb).1
    · cases hx : hm2 fb with
      | none => rfl
      | some y => exact absurd rfl ((hold fb y hx).2 fb hs)
    · exact congrArg (Value.int .i64) (wsucc (by omega))
  · have hkn : k = f.stS.2.1 := by omega
    rw [List.take_of_length_le (by omega)] at hAk
    refine LoadX.all (c := VC sT) (join_hm hdk h5k) (by rw [hVl]; rfl) ?_; conv => whnf
    have h2k := hEk _ _ h22
    refine Ob.mk ⟨by rw [List.size_toArray, hVl]; rfl, hV1 _⟩ ?_; conv => whnf
    refine StoreX.jm hdk h2k (by rw [List.toList_toArray, hVl]; decide) ?_; conv => whnf
    rw [setSeg_all (by rw [List.toList_toArray, hVl]; rfl), List.toList_toArray]
    have hdz := hdk.put (y := (VC sT, (51 : TypeId))) h2k
    refine LoadX.all (c := VC sT) (join_hm hdz (hput_same ..)) (by rw [hVl]; rfl) ?_; conv => whnf
    obtain ⟨hi7, hm7, hj7, hd7, e7, gA, hk7⟩ := freezeM hdk hAk
    have hvw : viewA (absS s (base ++ [(f, m)]) ret left) = ⟨false, f.static, ((base.length : Nat) : Int), smI f.pc % 65536, smI f.gas, smI s.w.ref, f.self, f.caller, f.st.map Prod.snd, m, ret, ((s.w.logs.length % 65536 : Nat) : Int)⟩ := by
      unfold viewA
      rw [if_neg (show ¬ (absS s (base ++ [(f, m)]) ret left).phase = 2 from h2)]
      show (match ((base ++ [(f, m)]).map absF).reverse with | [] => _ | f :: b => _) = _
      rw [List.map_append, List.reverse_append]
      show (if s.phase = 1 then _ else _) = _
      rw [if_pos h1]
      simp [absF, absS, absW]
    rw [hvw] at hk
    have hE7 : Ext hm hm7 := fun b y hb => hk7 b y (hEk _ _ (by rw [hhm2]; exact hput_old hb hmn2)) fun h => by
      have := (hfr b h).1
      rw [hhm2, hput_old hb hmn2] at this; cases this
    have hres := hk hi7 sT sM (bR, s.retS.2.1, cR) (e34.trans e7) (hd7.mono hE7) ⟨by rw [List.map_map]; exact gA, (g3.ext e4).ext e7, g4.ext e7⟩
    refine RetX.drop (h' := join hi7 hm) (fun b x hb => ?_) (by rw [hVC]; exact hres)
    have hb2 : b ≠ m2 := by
      rintro rfl
      have h8 := hk7 b _ h2k fun h => by have := (hfr b h).1; rw [h22] at this; cases this
      have h9 : hi7 b = none := hd7.lft h8
      rw [join_r h9, hmn2] at hb
      cases hb
    have hj : join hi4 hmk b = some x := by
      rw [hj7]
      exact Ext.jmono hd7 hE7 _ _ hb
    unfold join at hj ⊢
    rw [hput_ne hb2]
    exact hj
end
end Go.Proofs.YgvalwGreat.X
