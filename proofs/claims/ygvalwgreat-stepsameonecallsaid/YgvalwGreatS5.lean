import Derived.Test.YgvalwGreatS4
set_option linter.unusedVariables false
set_option linter.unusedSimpArgs false
namespace Go.Proofs.YgvalwGreat.X
open Go

def accF (ws : List WA) : List Int → AA := ws.foldl (fun f x => updA f x.a ⟨x.n, bv x.b, x.code, fun _ => 0⟩) (fun _ => aa0)
def wldA (ws : List WA) : AW := ⟨accF ws, fun _ => false, fun _ _ => false, 0, 0, fun _ _ => 0, fun _ => false, fun _ => false⟩
theorem accF_snoc {ws : List WA} {x : WA} : accF (ws ++ [x]) = updA (accF ws) x.a ⟨x.n, bv x.b, x.code, fun _ => 0⟩ := by simp [accF, List.foldl_append]
/-- The new state of the specification. -/
def yS0 (sA sT : Sl) (ys : List YAcct) : YS := ⟨{ nilW with sA := sA, acc := ys }, nilS, nilS, 0, 0, 0, nilS, nilS, nilS, nilS, sT, z20, z20, stEnv⟩
theorem setSeg_tail {A R : List Value} {o k : Nat} {v : Value} (ho : o = A.length + k) (hk : k < R.length) : setSeg (A ++ R) o [v] = A ++ R.set k v := by
  have := set_mid (pre := A) (L := R) (post := []) (v := v) hk
  rw [List.append_nil, List.append_nil] at this
  rw [ho]; exact this
theorem ac_fill {a : List Int} {v1 v2 v3 : Value} (ha : a.length = 20) : setSeg (setSeg (setSeg (setSeg z118 0 (bcells a)) 20 [v1]) 21 [v2]) 22 [v3] = bcells a ++ [v1, v2, v3, sl nilS] := by
  have e : (bcells a).length = 20 := by rw [bcells_length, ha]
  have h0 : setSeg z118 0 (bcells a) = bcells a ++ [sl nilS, sl nilS, sl nilS, sl nilS] := by
    simp only [setSeg, e, List.take_zero, List.nil_append, Nat.zero_add]
    rfl
  rw [h0, setSeg_tail (k := 0) (by rw [e]) (by simp), setSeg_tail (k := 1) (by rw [e]) (by simp), setSeg_tail (k := 2) (by rw [e]) (by simp)]
  rfl
theorem getA_snoc {ys : List YAcct} {y : YAcct} (hn : ∀ z ∈ ys, z.addr ≠ y.addr) : (fun a => absA (getA (ys ++ [y]) a)) = updA (fun a => absA (getA ys a)) y.addr (absA y) := by
  funext b
  unfold updA getA
  rw [List.find?_append]
  by_cases hb : b = y.addr
  · subst hb
    have : ys.find? (fun x => x.addr = y.addr) = none := by
      rw [List.find?_eq_none]
      intro z hz
      simpa using hn z hz
    rw [this]
    simp
  · rw [if_neg hb]
    have : [y].find? (fun x => x.addr = b) = none := by
      rw [List.find?_eq_none]
      intro z hz
      rw [List.mem_singleton.1 hz]
      simpa using fun e => hb e.symm
    rw [this]
    dsimp only
    cases ys.find? (fun x => x.addr = b) <;> rfl
/-- All but one block, frozen. -/
def allBut (c : Nat) (h : Hp) : Hp := fun b => if b = c then none else h b
def onlyB (c : Nat) (h : Hp) : Hp := fun b => if b = c then h b else none
theorem dj_but (c : Nat) (h : Hp) : Dj (allBut c h) (onlyB c h) := fun b => by
  unfold allBut onlyB
  by_cases hb : b = c
  · exact .inl (if_pos hb)
  · exact .inr (if_neg hb)
theorem join_but (c : Nat) (h : Hp) : join (allBut c h) (onlyB c h) = h := by
  funext b
  by_cases hb : b = c
  · subst hb
    have h1 : allBut b h b = none := if_pos rfl
    have h2 : onlyB b h b = h b := if_pos rfl
    cases hx : h b with
    | some y => rw [join_hm (dj_but b h) (h2.trans hx)]
    | none => unfold join; rw [h1, h2, hx]
  · have h1 : allBut c h b = h b := if_neg hb
    have h2 : onlyB c h b = none := if_neg hb
    cases hx : h b with
    | some y => rw [join_l (h1.trans hx)]
    | none => unfold join; rw [h1, h2, hx]
theorem ext_but {c : Nat} {h h' : Hp} (he : Ext h h') (hc : h c = none) : Ext h (allBut c h') := fun b x hb => by
  unfold allBut
  rw [if_neg (by rintro rfl; rw [hc] at hb; cases hb)]
  exact he _ _ hb
theorem Arr.but {c sz : Nat} {h : Hp} {s : Sl} {es : List (List Value)} (a : Arr h s sz es) (hc : ∀ ad, s.1 = some ad → ad.block ≠ c) : Arr (allBut c h) s sz es := by
  refine ⟨?_, a.len, a.szs, a.one, a.le, a.nil⟩
  have hr := a.rd
  cases hs : s.1 with
  | none => rw [hs] at hr; exact hr
  | some ad =>
    have hne := hc ad hs
    rw [hs] at hr
    have : allBut c h ad.block = h ad.block := if_neg hne
    obtain ⟨b, o, sp⟩ := ad
    unfold X.rd at hr ⊢
    cases sp with
    | none => dsimp only at hr this ⊢; rw [this]; exact hr
    | some _ => exact hr
section
variable {h : Hp} {K : Value → Hp → Prop}
set_option maxRecDepth 100000 in
set_option maxHeartbeats 4000000 in
theorem wordsNil_ok (hk : K (sl nilS) h) : CallX Hval.prog 65 [sl nilS] h K := by
  refine CallX.of_xf T_ok Hval.func65 rfl (by kernel_rfl) (Nat.le_of_ble_eq_true rfl) ?_; conv => whnf
  repeat (first | (refine CondX.tt ?_; conv => whnf) | (refine CondX.ff ?_; conv => whnf))
  exact RetX.same hk
theorem adr_inj {x y : Int} (h : adr x = adr y) : x = y := by
  have := congrArg (fun l : List Int => l.getD 19 0) h
  simpa [adr] using this
theorem W8_big : 8 * W < big := by rw [W_val, big_val]; decide
structure YN (h1 hi hm : Hp) (c : Nat) (cs : List (Sl × List Int)) (sA sT : Sl) (ys : List YAcct) (i : Nat) : Prop where
  dj : Dj hi hm
  ext : Ext h1 hi
  chain : hm c = some (sCells (yS0 sA sT ys), 115)
  arr : ArrM hm sA 24 (ys.map acCells)
  ne : ∀ fb, sA.1 = some ⟨fb, 0, none⟩ → c ≠ fb
  len : ys.length = i
  ok : ∀ y ∈ ys, y.ok hi ∧ y.slots = []
  adr : ys.map YAcct.addr = ((stgW cs).take i).map WA.a
  acc : (fun a => absA (getA ys a)) = accF ((stgW cs).take i)
  tot : ∃ t, NtS hi sT t ∧ t ≤ i * W
set_option maxRecDepth 100000 in
set_option maxHeartbeats 4000000 in
theorem ynew_ok {s : Sl} {cs : List (Sl × List Int)} (Wd : WldOK h s (stgW cs)) (h6 : cs.length ≤ 6) (h256 : ∀ p ∈ cs, p.2.length ≤ 256)
    (hk : ∀ hi' hm' c sY, Ext h hi' → YI hi' hm' c 115 sY → absW sY.w = wldA (stgW cs) → K (.tuple #[.pointer (some ⟨c, 0, none⟩), .bool true]) (join hi' hm')) : CallX Hval.prog 23 [sl s, .agg stEnv.toArray] h K := by
  have hok := stgW_ok Wd h256
  have hlen := stgW_len (cs := cs)
  have hn : (stgW cs).length = s.2.1 := by have := Wd.arr.len; simpa using this
  have hbg := big_val
  rw [← join_hNil h]
  refine CallX.of_xf T_ok Hval.func23 rfl (by kernel_rfl) (Nat.le_of_ble_eq_true rfl) ?_; conv => whnf
  refine BoxX.j (Dj_hNil h) fun m3 q1 q2 d3 e3 => ?_; conv => whnf
  have b3 : hput h m3 (stEnv.toArray.toList, 36) m3 = some (stEnv, 36) := hput_same ..
  have Wd := Wd.ext e3
  have hE0 := e3
  generalize hput h m3 (stEnv.toArray.toList, 36) = h1 at *
  refine worldOK_ok (Wd.ext (Ext.jl _ _)) h6 h256 ?_; conv => whnf
  repeat (first | (refine CondX.tt ?_; conv => whnf) | (refine CondX.ff ?_; conv => whnf))
  refine LoadX.all (join_l b3) rfl ?_; conv => whnf
  repeat (first | (refine CondX.tt ?_; conv => whnf) | (refine CondX.ff ?_; conv => whnf))
  refine envOK_ok ?_; conv => whnf
  repeat (first | (refine CondX.tt ?_; conv => whnf) | (refine CondX.ff ?_; conv => whnf))
  refine BoxX.jm d3 fun c q3 q4 d4 => ?_; conv => whnf
  refine LoadX.all (join_l b3) rfl ?_; conv => whnf
  refine Ob.mk ⟨rfl, rfl⟩ ?_; conv => whnf
  refine StoreX.top d4 (sCells (yS0 nilS nilS [])) rfl (Nat.le_of_ble_eq_true rfl) fun d5 => ?_; conv => whnf
  refine LoadX.blk (join_l b3) (sl nilS) rfl ?_; conv => whnf
  refine wordsNil_ok ?_; conv => whnf
  refine StoreX.top d5 (sCells (yS0 nilS nilS [])) rfl (Nat.le_of_ble_eq_true rfl) fun d6 => ?_; conv => whnf
  have Y : YN h1 h1 (hput hNil c (sCells (yS0 nilS nilS []), 115)) c cs nilS nilS [] 0 := ⟨d6, Ext.refl _, hput_same .., Bld.nil (fun b x hb => by cases hb), (fun fb hf => by cases hf), rfl, (fun y hy => by cases hy), rfl, rfl, 0, Nt_nil _, by omega⟩
  refine LoopX.st T_ok Hval.func23 (σ := Nat × Hp × Hp × Sl × Sl × List YAcct) (fun z => [(6, .pointer (some ⟨c, 0, none⟩)), (34, sl s), (35, .int .i64 s.2.1), (36, .int .i64 z.1)])
    (fun z h' => z.1 ≤ s.2.1 ∧ h' = join z.2.1 z.2.2.1 ∧ YN h1 z.2.1 z.2.2.1 c cs z.2.2.2.1 z.2.2.2.2.1 z.2.2.2.2.2 z.1) (fun z => s.2.1 - z.1) (0, h1, hput hNil c (sCells (yS0 nilS nilS []), 115), nilS, nilS, [])
    ⟨rfl, rfl, rfl, rfl, trivial⟩ ⟨Nat.zero_le _, rfl, Y⟩ ?_
  clear Y
  rintro ⟨i, hi, hm, sA, sT, ys⟩ ρ h' ⟨hil, rfl, Y⟩ ih
  dsimp only at hil Y
  conv => whnf
  have hA' := Wd.arr.ext (Y.ext.trans (Ext.jl hi hm))
  refine CondX.decI (fun hc => ?_) (fun hc => ?_) <;> conv => whnf
  · have hc : i < s.2.1 := by omega
    have hix : i < (stgW cs).length := by omega
    refine IdxX.arr hA' (by omega) (by omega) (by omega) fun b off e => ?_; conv => whnf
    refine LoadX.elt hA' e i rfl hc ?_; conv => whnf
    rw [getD_map hix]
    have hxo := hok _ (List.getElem_mem hix)
    have hxc := Wd.each _ (List.getElem_mem hix)
    obtain ⟨x, hx⟩ : ∃ x, x = (stgW cs)[i] := ⟨_, rfl⟩
    rw [← hx] at hxo hxc ⊢
    obtain ⟨xa, xb, xB, xcl, xn⟩ := hxo
    have xlen := waC_len xa xb
    have xone := waC_one x
    refine BoxX.j Y.dj fun m8 q5 q6 d8 e8 => ?_; conv => whnf
    refine Ob.mk ⟨by rw [List.size_toArray, xlen]; rfl, xone⟩ ?_; conv => whnf
    refine StoreX.jx (x := waC x) (by rw [List.toList_toArray, xlen]; decide) (setSeg_all (by rw [List.toList_toArray, xlen]; rfl)) ?_; conv => whnf
    have e8 : Ext hi (hput hi m8 (waC x, 57)) := Ext.new q5
    have d8 : Dj (hput hi m8 (waC x, 57)) hm := d8.hp
    have b8 : hput hi m8 (waC x, 57) m8 = some (waC x, 57) := hput_same ..
    clear q5 q6
    obtain ⟨h8, hh8⟩ : ∃ h8 : Hp, h8 = hput hi m8 (waC x, 57) := ⟨_, rfl⟩
    rw [← hh8] at e8 d8 b8 ⊢
    clear hh8
    have rx : rd h8 (some ⟨m8, 0, none⟩) 55 = some (waC x) := rd_own_at b8 xlen
    have xc8 := hxc.ext (Y.ext.trans e8)
    have lA : ∀ {hq : Hp}, Ext h8 hq → ldV true 20 hq m8 0 = some (.agg (bcells x.a).toArray) := fun {hq} e => rd_sub (rd_ext e rx) (k := 0) (by omega) (waC_a xa) rfl
    have lN : ∀ {hq : Hp}, Ext h8 hq → ldV false 1 hq m8 20 = some (.int .u64 x.n) := fun {hq} e => rd_fld (rd_ext e rx) (k := 20) (by omega) (waC_n xa) rfl
    have lC : ∀ {hq : Hp}, Ext h8 hq → ldV false 1 hq m8 53 = some (sl x.cs) := fun {hq} e => rd_fld (rd_ext e rx) (k := 53) (by omega) (waC_c xa xb) rfl
    have lS : ∀ {hq : Hp}, Ext h8 hq → ldV false 1 hq m8 54 = some (sl nilS) := fun {hq} e => rd_fld (rd_ext e rx) (k := 54) (by omega) (waC_s xa xb) rfl
    have yB : Byt h8 (some ⟨m8, 21, none⟩) 32 32 x.b := ⟨rd_part rx (k := 21) (by omega) (waC_b xa xb) rfl, xB, Nat.le_refl _, (fun h => by cases h), by decide⟩
    have alen : (bcells x.a).length = 20 := by rw [bcells_len, xa]
    refine DrawX.go T_ok hM Hval.func23 (tb := dr23) rfl (by kernel_rfl) ?_; conv => whnf
    refine LoadX.of _ (lA (Ext.jl _ _)) ?_; conv => whnf
    refine LoadX.of _ (lN (Ext.jl _ _)) ?_; conv => whnf
    refine LoadX.of _ (lC (Ext.jl _ _)) ?_; conv => whnf
    repeat (refine Ob.mk (by first | decide | omega) ?_; conv => whnf)
    refine CallX.fj d8 (num_ok (x := x.n) (by omega) (by omega) fun bN nN cN h9 e9 gN d9 => ?_); conv => whnf
    repeat (refine Ob.mk (by first | exact lA (e9.trans (Ext.jl _ _)) | exact lN (e9.trans (Ext.jl _ _)) | exact lC (e9.trans (Ext.jl _ _))) ?_; conv => whnf)
    refine CallX.fj d9 (fromBE_ok (yB.ext e9) fun bB nB cB h10 e10 gB d10 => ?_); conv => whnf
    have e810 := e9.trans e10
    repeat (refine Ob.mk (by first | exact lA (e810.trans (Ext.jl _ _)) | exact lN (e810.trans (Ext.jl _ _)) | exact lC (e810.trans (Ext.jl _ _))) ?_; conv => whnf)
    refine CallX.fj d10 (bytesOf_any (xc8.ext e810) fun bC cC h11 e11 gC d11 => ?_); conv => whnf
    have e811 := e810.trans e11
    repeat (refine Ob.mk (by first | exact lA (e811.trans (Ext.jl _ _)) | exact lN (e811.trans (Ext.jl _ _)) | exact lC (e811.trans (Ext.jl _ _))) ?_; conv => whnf)
    have hz : ∀ (l : List Value), l.length = 20 → (setSeg z118 0 l).length = 24 := fun l hl => by rw [setSeg_length (by rw [hl]; exact Nat.le_of_ble_eq_true rfl)]; rfl
    have hz1 : ∀ (l : List Value) (o : Nat) (v : Value), l.length = 24 → o + 1 ≤ 24 → (setSeg l o [v]).length = 24 := fun l o v hl ho => by rw [setSeg_length (by rw [hl]; exact ho)]; exact hl
    erw [fillL_agg (off := 0) (n := 20) rfl alen (Nat.le_of_ble_eq_true rfl), fillL_one (off := 20) (v := .slice bN nN cN) rfl rfl (by rw [hz _ alen]; decide), fillL_one (off := 21) (v := .slice bB nB cB) rfl rfl (by rw [hz1 _ _ _ (hz _ alen) (by decide)]; decide), fillL_one (off := 22) (v := .slice bC x.cs.2.1 cC) rfl rfl (by rw [hz1 _ _ _ (hz1 _ _ _ (hz _ alen) (by decide)) (by decide)]; decide), fillL_done, ac_fill xa]
    obtain ⟨y, hy⟩ : ∃ y : YAcct, y = ⟨x.a, (bN, nN, cN), (bB, nB, cB), (bC, x.cs.2.1, cC), nilS, x.n, bv x.b, x.code, []⟩ := ⟨_, rfl⟩
    have hyc : bcells x.a ++ [Value.slice bN nN cN, .slice bB nB cB, .slice bC x.cs.2.1 cC, sl nilS] = acCells y := by rw [hy]; rfl
    rw [hyc]
    have hyo : y.ok h11 := by
      rw [hy]; exact ⟨xa, (gN.ext e10).ext e11, gB.ext e11, gC, Arr_nil _ 2, fun s hs => by cases hs⟩
    have ylen := acCells_len hyo.addr
    have yone := acCells_one y
    refine forceL_of (l := acCells y) (fok_app fok_bcells (fok_acRest _)) ?_; conv => whnf
    refine BoxW.j d11 fun m9 q5 q6 d12 e12 => ?_; conv => whnf
    refine Ob.mk ⟨by rw [List.size_toArray, ylen]; rfl, yone⟩ ?_; conv => whnf
    refine StoreX.jx (x := acCells y) (by rw [List.toList_toArray, ylen]; decide) (setSeg_all (by rw [List.toList_toArray, ylen]; rfl)) ?_; conv => whnf
    have e12 : Ext h11 (hput h11 m9 (acCells y, 118)) := Ext.new q5
    have d12 : Dj (hput h11 m9 (acCells y, 118)) hm := d12.hp
    have b9 : hput h11 m9 (acCells y, 118) m9 = some (acCells y, 118) := hput_same ..
    clear q5 q6
    obtain ⟨h12, hh12⟩ : ∃ h12 : Hp, h12 = hput h11 m9 (acCells y, 118) := ⟨_, rfl⟩
    rw [← hh12] at e12 d12 b9 ⊢
    clear hh12
    have hyo := hyo.ext e12
    have e812 := e811.trans e12
    repeat (refine Ob.mk (by first | exact lA (e812.trans (Ext.jl _ _)) | exact lN (e812.trans (Ext.jl _ _)) | exact lC (e812.trans (Ext.jl _ _))) ?_; conv => whnf)
    refine LoadX.of _ (lS (e812.trans (Ext.jl _ _))) ?_; conv => whnf
    refine LoopX.st T_ok Hval.func23 (σ := Unit) (fun _ => [(6, .pointer (some ⟨c, 0, none⟩)), (9, .pointer (some ⟨m9, 0, none⟩)), (34, sl s), (35, .int .i64 s.2.1), (36, .int .i64 i), (54, .int .i64 0), (55, .int .i64 0)])
      (fun _ h2 => h2 = join h12 hm) (fun _ => 0) () ⟨rfl, rfl, rfl, rfl, rfl, rfl, rfl, trivial⟩ rfl ?_
    rintro _ ρ2 h2 rfl ih2
    conv => whnf
    repeat (first | (refine CondX.tt ?_; conv => whnf) | (refine CondX.ff ?_; conv => whnf))
    refine DrawX.go T_ok hM Hval.func23 (tb := dr23) rfl (by kernel_rfl) ?_; conv => whnf
    refine LoadX.blk (join_hm d12 Y.chain) (sl sA) rfl ?_; conv => whnf
    refine LoadX.all (c := acCells y) (join_l b9) (by rw [ylen]; rfl) ?_; conv => whnf
    erw [fillL_box (v := acCells y) ylen rfl]; conv => whnf
    refine Ob.mk (by first | decide | omega) ?_; conv => whnf
    refine BoxX.j d12 fun m10 q7 q8 d13 e13 => ?_; conv => whnf
    have b9 := e13 _ _ b9
    have hyo := hyo.ext e13
    repeat (refine Ob.mk (by first | exact ldV_blk (join_hm d13 Y.chain) rfl | exact ldV_all (join_l b9) ylen) ?_; conv => whnf)
    have hal : sA.2.1 = i := by have := Y.arr.len; have := Y.len; simp at *; omega
    refine AppendX.mut (sz := 24) (bytes := 120) d13 Y.arr (rd_ext (Ext.jl _ _) (rd_own (v := acCells y) ylen)) ylen rfl yone (by decide) (by rw [hal]; omega) fun s9 hm9 d14 hA9 hK9 => ?_; conv => whnf
    obtain ⟨h13, hh13⟩ : ∃ h13 : Hp, h13 = hput h12 m10 (acCells y, 118) := ⟨_, rfl⟩
    rw [← hh13] at e13 d14 b9 hyo ⊢
    clear hh13 d13
    have hKc := hK9 c _ Y.chain (fun fb hs => Y.ne fb hs)
    refine StoreX.st d14 hKc.1 0 (by decide) (yS0 s9 sT (ys ++ [y])) rfl fun d15 => ?_; conv => whnf
    repeat (refine Ob.mk (by exact ldV_all (join_l b9) ylen) ?_; conv => whnf)
    obtain ⟨t, gt, ht⟩ := Y.tot
    have e13a : Ext hi h13 := (e8.trans e812).trans e13
    have hbb := bv_bd xB
    rw [xb, show (256 : Int) ^ 32 = W from by rw [W_val]; decide] at hbb
    have hW8 := W8_big
    have hi7 : i ≤ 6 := by omega
    refine DrawX.go T_ok hM Hval.func23 (tb := dr23) rfl (by kernel_rfl) ?_; conv => whnf
    refine LoadX.blk (join_hm d15 (hput_same ..)) (sl sT) rfl ?_; conv => whnf
    refine LoadX.fld (join_l b9) hyo.addr 1 rfl (v := sl y.bs) rfl ?_; conv => whnf
    have hyb : y.bal = bv x.b := by rw [hy]
    have ht7 : t ≤ 6 * W := by
      refine Int.le_trans ht ?_
      exact Int.mul_le_mul_of_nonneg_right (by omega) (by rw [W_val]; decide)
    refine CallX.fj d15 (addN (x := t) (y := bv x.b) (gt.ext e13a) (by rw [← hyb]; exact hyo.bal) (by omega) fun bT nT cT h14 e14 gT d16 => ?_); conv => whnf
    repeat (refine Ob.mk (by first | exact ldV_blk (join_hm d16 (hput_same ..)) rfl | exact ldV_fld (join_l (e14 _ _ b9)) hyo.addr 1 rfl rfl) ?_; conv => whnf)
    refine StoreX.st d16 (hput_same ..) 18 (by decide) (yS0 s9 (bT, nT, cT) (ys ++ [y])) rfl fun d17 => ?_; conv => whnf
    rw [hput_hput] at d17 ⊢
    have htk : (stgW cs).take (i + 1) = (stgW cs).take i ++ [x] := by rw [List.take_add_one, List.getElem?_eq_getElem hix, ← hx]; rfl
    have hya : y.addr = x.a := by rw [hy]
    refine ih (i + 1, h14, hput hm9 c (sCells (yS0 s9 (bT, nT, cT) (ys ++ [y])), 115), s9, (bT, nT, cT), ys ++ [y]) _ _ ⟨by dsimp only; omega, rfl, ⟨d17, (Y.ext.trans e13a).trans e14, hput_same .., ?_, fun fb hs => hKc.2 fb hs, by simp [Y.len], fun z hz => ?_, ?_, ?_, t + bv x.b, gT, ?_⟩⟩ (by dsimp only; omega) ⟨rfl, rfl, rfl, congrArg (Value.int .i64) (wsucc (by omega)), trivial⟩
    · rw [List.map_append]
      exact hA9.mono fun fb z hs hb => by dsimp only; rw [hput_ne (fun e => hKc.2 fb hs e.symm)]; exact hb
    · rcases List.mem_append.1 hz with h1 | h1
      · exact ⟨((Y.ok z h1).1.ext e13a).ext e14, (Y.ok z h1).2⟩
      · rw [List.mem_singleton.1 h1]; exact ⟨hyo.ext e14, by rw [hy]⟩
    · rw [htk, List.map_append, List.map_append, Y.adr]
      simp [hya]
    · rw [htk, accF_snoc, getA_snoc, Y.acc, hya]
      · rw [hy]; rfl
      · intro z hz he
        have hm := List.mem_map_of_mem (f := YAcct.addr) hz
        rw [Y.adr] at hm
        obtain ⟨v, hv, hve⟩ := List.mem_map.1 hm
        obtain ⟨j, hj, rfl⟩ := List.mem_take_iff_getElem.1 hv
        rw [stgW_a, he, hya, hx, stgW_a] at hve
        have := adr_inj hve
        unfold iaW at this
        split at this <;> split at this <;> omega
    · have : ((i + 1 : Nat) : Int) * W = (i : Int) * W + W := by rw [Int.natCast_add, Int.add_mul]; simp
      show t + bv x.b ≤ ((i + 1 : Nat) : Int) * W
      omega
  · have hi7 : i = s.2.1 := by omega
    subst hi7
    have hcn : hi c = none := Y.dj.lft Y.chain
    have eB : Ext hi (allBut c (join hi hm)) := ext_but (Ext.jl hi hm) hcn
    have hcj : onlyB c (join hi hm) c = some (sCells (yS0 sA sT ys), 115) := (if_pos rfl).trans (join_hm Y.dj Y.chain)
    have hacc := Y.acc
    rw [List.take_of_length_le (by omega)] at hacc
    have habs : absW (yS0 sA sT ys).w = wldA (stgW cs) := by
      unfold absW wldA yS0
      rw [← hacc]
      rfl
    have hsn : accF (stgW cs) sndA = ⟨0, bv b128, [], fun _ => 0⟩ := by
      unfold stgW
      rw [accF_snoc]
      unfold updA
      rw [if_pos (show sndA = sndW.a from rfl)]
      rfl
    have hgs : absA (getA ys sndA) = ⟨0, bv b128, [], fun _ => 0⟩ := (congrFun hacc sndA).trans hsn
    refine RetX.same ?_
    rw [← join_but c (join hi hm)]
    refine hk (allBut c (join hi hm)) (onlyB c (join hi hm)) c (yS0 sA sT ys) ((hE0.trans Y.ext).trans eB) ⟨⟨dj_but _ _, hcj, ⟨⟨?_, fun y hy => (Y.ok y hy).1.ext eB⟩, Adrs_nil _, ⟨Arr_nil _ 21, fun x hx => by cases hx⟩, Nt_nil _, Arr_nil _ 22, fun x hx => (by cases hx), ⟨Arr_nil _ 22, fun x hx => by cases hx⟩, Adrs_nil _, Adrs_nil _⟩, Bld.nil (fun b x hb => by cases hb), fun fb hf => (by cases hf), fun q hq => (by cases hq), fun q hq => (by cases hq), fun q hq => (by cases hq), List.Pairwise.nil, .inl ⟨Arr_nil _ 22, rfl⟩, Byt_nil _, Nt_nil _⟩, ⟨?_, fun y hy => ?_, Nat.zero_le _, Nat.zero_le _, Nat.zero_le _, Nat.zero_le _, Nat.zero_le _, Nat.zero_le _⟩, rfl, rfl, rfl, rfl, ⟨rfl, rfl, isB_zeros _, rfl, Nt_nil _⟩, fun y hy => (Y.ok y hy).2, congrArg AA.nonce hgs, congrArg AA.code hgs⟩ habs
    · refine Arr.but (Y.arr.arr Y.dj) fun ad had => ?_
      have had : sA.1 = some ad := had
      rcases Y.arr.blk with ⟨h1, -, -⟩ | ⟨m, pad, t, h1, -⟩
      · rw [h1] at had; cases had
      · rw [h1] at had; cases had
        exact fun e => Y.ne m h1 e.symm
    · show ys.length ≤ 100
      rw [Y.len]; omega
    · rw [(Y.ok y hy).2]; exact Nat.zero_le _
end
end Go.Proofs.YgvalwGreat.X
