import Derived.Test.YgvalwGreatS6
set_option linter.unusedVariables false
set_option linter.unusedSimpArgs false
namespace Go.Proofs.YgvalwGreat.X
open Go

def tabI (i p : Nat) : Int := if p < i then -1 else 0
theorem tabI_succ (i : Nat) : updN (tabI i) i (-1) = tabI (i + 1) := by
  funext p
  unfold updN tabI
  by_cases h1 : p = i
  · rw [if_pos h1, if_pos (by omega)]
  · rw [if_neg h1]
    by_cases h2 : p < i
    · rw [if_pos h2, if_pos (by omega)]
    · rw [if_neg h2, if_neg (by omega)]
theorem tab_new (home : Nat → Nat) : TabOK 4096 (tabI 4096) 0 home := by
  refine ⟨fun p hp => .inl (if_pos hp), ⟨List.range 4096, List.nodup_range, fun p => ?_, by rw [List.length_range]⟩, fun i hi => by omega⟩
  rw [List.mem_range]
  refine ⟨fun h => ⟨h, by unfold tabI; rw [if_pos h]; decide⟩, fun h => h.1⟩
theorem accF_slot0 (ws : List WA) : ∀ f : List Int → AA, (∀ a, (f a).slot = fun _ => 0) → ∀ a, (ws.foldl (fun f x => updA f x.a ⟨x.n, bv x.b, x.code, fun _ => 0⟩) f a).slot = fun _ => 0 := by
  induction ws with
  | nil => exact fun f hf => hf
  | cons x ws ih =>
    intro f hf
    refine ih _ fun a => ?_
    show (updA f x.a ⟨x.n, bv x.b, x.code, fun _ => 0⟩ a).slot = _
    unfold updA
    split
    · rfl
    · exact hf a
theorem accF_slot (ws : List WA) (a : List Int) : (accF ws a).slot = fun _ => 0 := accF_slot0 ws _ (fun _ => rfl) a
theorem wldA_snoc {ws : List WA} {x : WA} : codeW (balW (nonceW (wldA ws) x.a x.n) x.a (bv x.b)) x.a x.code = wldA (ws ++ [x]) := by
  unfold codeW balW nonceW wldA
  rw [accF_snoc]
  dsimp only
  congr 1
  funext b
  unfold updA
  by_cases hb : b = x.a
  · subst hb
    simp [accF_slot]
  · simp [hb]
/-- The vault while it is being filled. -/
structure FiI (hi hm : Hp) (eb : Nat) (mc : Nat → Value) (v : VS) (w : AW) (n : Nat) : Prop where
  V : VOK hi hm eb mc v
  abs : absC v.core = w
  sL : v.sL = []
  tL : v.tL = []
  jL : v.jL = []
  nm : v.nm = 0
  len : v.aL.length ≤ n
section
variable {h hi hm : Hp} {K : Value → Hp → Prop} {eb : Nat} {mc : Nat → Value} {v : VS} {w : AW} {n : Nat}
theorem FiI.ext {hi' : Hp} (F : FiI hi hm eb mc v w n) (he : Ext hi hi') (hd : Dj hi' hm)   : FiI hi' hm eb mc v w n := ⟨F.V.exti he hd, F.abs, F.sL, F.tL, F.jL, F.nm, F.len⟩
theorem vok_new (hd : Dj hi hm) (hb : hm eb = some (fnv 27024 (eC mc (v00 (tabI 4096) (tabI 4096))), 101))   : FiI hi hm eb mc (v00 (tabI 4096) (tabI 4096)) (wldA []) 0 := by
  have nl : ∀ e sz, ArrT hm e nilS sz [] := fun e sz => ⟨fun x hx => (by cases hx), fun x hx => (by cases hx), rfl, .inl ⟨rfl, rfl, rfl⟩⟩
  refine ⟨⟨hd, hb, nl _ _, nl _ _, nl _ _, nl _ _, nl _ _, .inl ⟨rfl, rfl⟩, tab_new _, tab_new _, fun x hx => (by cases hx), fun x hx => (by cases hx), ?_⟩, rfl, rfl, rfl, rfl, rfl, Nat.le_refl 0⟩
  exact ⟨by decide, by decide, by decide, by decide, by decide, fun x hx => (by cases hx), fun x hx => (by cases hx), fun x hx => (by cases hx), fun x hx => (by cases hx), fun i j hi => (by cases hi), fun i j hi => (by cases hi), fun i j hi => (by cases hi), ⟨by decide, by decide⟩, ⟨by decide, by decide⟩, fun i hi => by have hi : (i : Int) < 0 := hi; omega⟩
theorem FiI.acct {a : List Int} {v2 : VS} {hm2 : Hp} (F : FiI hi hm eb mc v w n) (hl : a.length = 20) (hB : isB a) (hn : n < 2560) (V2 : VOK hi hm2 eb mc v2) (hc : v2.core = cAcct v.core a) : FiI hi hm2 eb mc v2 w (n + 1) ∧ atA v.core a < v2.aL.length ∧ nameA v2.core (atA v.core a) = a := by
  have hr : v.core.aL.length < 2560 := by have := F.len; show v.aL.length < 2560; omega
  obtain ⟨q1, q2, q3, q4, q5, q6, q7, q8, q9⟩ := cAcct_all (a := a) F.V.cok hl hB hr
  have hal : v2.aL = (cAcct v.core a).aL := congrArg VCore.aL hc
  refine ⟨⟨V2, by rw [hc, q2, F.abs], (congrArg VCore.sL hc).trans (q7.trans F.sL), (congrArg VCore.tL hc).trans (q8.trans F.tL), (congrArg VCore.jL hc).trans (q4.trans F.jL), (congrArg VCore.nm hc).trans (q5.trans F.nm), ?_⟩, by rw [hal]; exact atA_lt, by rw [hc]; exact q9⟩
  rw [hal]
  have := F.len
  unfold cAcct
  cases idxA v.core.aL a with
  | some i => show v.aL.length ≤ n + 1; omega
  | none => show (v.aL ++ [zA a]).length ≤ n + 1; rw [List.length_append]; simp; omega
theorem FiI.mod {hi' hm' : Hp} {i : Nat} {x : EA} {w' : AW} (F : FiI hi hm eb mc v w n) (he : Ext hi hi') (hd : Dj hi' hm') (k : KpT 230 hm hm') (h : i < v.aL.length) (hx : x.addr = (v.aL.getD i dA).addr) (aT : ArrT hm' 230 v.aS 29 ((v.aL.map aCells).set i (aCells x))) (hb : BytS hi' x.cs x.code) (cok : COK { v.core with aL := v.aL.set i x }) (hw : absC { v.core with aL := v.aL.set i x } = w') : FiI hi' hm' eb mc { v with aL := v.aL.set i x } w' n ∧ i < (v.aL.set i x).length ∧ nameA ({ v with aL := v.aL.set i x } : VS).core i = nameA v.core i := by
  refine ⟨⟨F.V.modA he hd k h hx (by rw [List.map_set]; exact aT) hb cok, hw, F.sL, F.tL, F.jL, F.nm, ?_⟩, by rw [List.length_set]; exact h, ?_⟩
  · show (v.aL.set i x).length ≤ n
    rw [List.length_set]; exact F.len
  · show ((v.aL.set i x).getD i dA).addr = (v.aL.getD i dA).addr
    rw [getD_set h, if_pos rfl, hx]
set_option maxRecDepth 100000 in
set_option maxHeartbeats 4000000 in
theorem fill_ok {s : Sl} {cs : List (Sl × List Int)} (hd : Dj hi hm) (hb : hm eb = some (fnv 27024 (eC mc (v00 (fun _ => 0) fun _ => 0)), 101)) (Wd : WldOK hi s (stgW cs)) (h6 : cs.length ≤ 6) (h256 : ∀ p ∈ cs, p.2.length ≤ 256)
    (hk : ∀ hi' hm' v', Ext hi hi' → FiI hi' hm' eb mc v' (wldA (stgW cs)) 7 → K (.bool true) (join hi' hm')) : CallX Hval.prog 62 [.pointer (some ⟨eb, 2435, none⟩), sl s] (join hi hm) K := by
  have hok := stgW_ok Wd h256
  have hlen := stgW_len (cs := cs)
  have hn : (stgW cs).length = s.2.1 := by have := Wd.arr.len; simpa using this
  refine CallX.of_xf T_ok Hval.func62 rfl (by kernel_rfl) (Nat.le_of_ble_eq_true rfl) ?_; conv => whnf
  refine worldOK_ok (Wd.ext (Ext.jl _ _)) h6 h256 ?_; conv => whnf
  repeat (first | (refine CondX.tt ?_; conv => whnf) | (refine CondX.ff ?_; conv => whnf))
  have hb0 : hput hm eb (fnv 27024 (eC mc (v00 (tabI 0) (tabI 0))), 101) = hm := hput_id (by rw [hb]; rfl)
  refine LoopX.st T_ok Hval.func62 (σ := Nat) (fun i => [(0, .pointer (some ⟨eb, 2435, none⟩)), (1, sl s), (16, .int .i64 i)])
    (fun i h' => i ≤ 4096 ∧ h' = join hi (hput hm eb (fnv 27024 (eC mc (v00 (tabI i) (tabI i))), 101))) (fun i => 4096 - i) 0 ⟨rfl, rfl, rfl, trivial⟩ ⟨Nat.zero_le _, by rw [hb0]⟩ ?_
  rintro i ρ h' ⟨hil, rfl⟩ ih
  conv => whnf
  have d1 : Dj hi (hput hm eb (fnv 27024 (eC mc (v00 (tabI i) (tabI i))), 101)) := Dj.put hd hb
  refine CondX.decI (fun hc => ?_) (fun hc => ?_) <;> conv => whnf
  · have hc : i < 4096 := by omega
    refine Ob.mk ⟨by omega, by omega⟩ ?_; conv => whnf
    refine StoreX.jf d1 (hput_same ..) (2437 + i) (by rw [Int.toNat_natCast, show (fd 2 87).offset = 2 from rfl, show (21, y21).snd.size = 1 from rfl]; omega) (by omega) fun d2 => ?_
    rw [hput_hput, eU_at hc] at d2 ⊢; conv => whnf
    refine Ob.mk ⟨by omega, by omega⟩ ?_; conv => whnf
    refine StoreX.jf d2 (hput_same ..) (6533 + i) (by rw [Int.toNat_natCast, show (fd 4098 87).offset = 4098 from rfl, show (21, y21).snd.size = 1 from rfl]; omega) (by omega) fun d3 => ?_
    rw [hput_hput, eU_st hc] at d3 ⊢; conv => whnf
    refine ih (i + 1) _ _ ⟨by omega, ?_⟩ (by omega) ⟨rfl, rfl, congrArg (Value.int .i64) (wsucc (by omega)), trivial⟩
    rw [show ({ ({ v00 (tabI i) (tabI i) with atab := updN (v00 (tabI i) (tabI i)).atab i (-1) } : VS) with stab := updN ({ v00 (tabI i) (tabI i) with atab := updN (v00 (tabI i) (tabI i)).atab i (-1) } : VS).stab i (-1) } : VS) = v00 (updN (tabI i) i (-1)) (updN (tabI i) i (-1)) from rfl, tabI_succ]
  have hi4 : i = 4096 := by omega
  subst hi4
  clear ih hb0
  have F0 := vok_new d1 (hput_same ..)
  obtain ⟨hm0, hh0⟩ : ∃ hm0 : Hp, hm0 = hput hm eb (fnv 27024 (eC mc (v00 (tabI 4096) (tabI 4096))), 101) := ⟨_, rfl⟩
  rw [← hh0] at F0 ⊢
  clear d1 hh0 hb hd
  refine LoopX.st T_ok Hval.func62 (σ := Nat × Hp × Hp × VS) (fun z => [(0, .pointer (some ⟨eb, 2435, none⟩)), (1, sl s), (30, sl s), (31, .int .i64 s.2.1), (32, .int .i64 z.1)])
    (fun z h' => z.1 ≤ s.2.1 ∧ h' = join z.2.1 z.2.2.1 ∧ Ext hi z.2.1 ∧ FiI z.2.1 z.2.2.1 eb mc z.2.2.2 (wldA ((stgW cs).take z.1)) z.1) (fun z => s.2.1 - z.1) (0, hi, hm0, v00 (tabI 4096) (tabI 4096)) ⟨rfl, rfl, rfl, rfl, rfl, trivial⟩ ⟨Nat.zero_le _, rfl, Ext.refl _, F0⟩ ?_
  clear F0
  rintro ⟨i, h1, hm, v⟩ ρ h' ⟨hil, rfl, he, F⟩ ih
  dsimp only at hil he F
  conv => whnf
  refine CondX.decI (fun hc => ?_) (fun hc => ?_) <;> conv => whnf
  · have hc : i < s.2.1 := by omega
    have hix : i < (stgW cs).length := by omega
    have hxo := hok _ (List.getElem_mem hix)
    have hxc := Wd.each _ (List.getElem_mem hix)
    have hxa := stgW_a hix
    have htk : (stgW cs).take (i + 1) = (stgW cs).take i ++ [(stgW cs)[i]] := by rw [List.take_add_one, List.getElem?_eq_getElem hix]; rfl
    have hrx : ∀ {hq : Hp} {b off : Nat}, Ext hi hq → s.1 = some ⟨b, off, none⟩ → rd hq (some ⟨b, off + i * 55, none⟩) 55 = some (waC ((stgW cs)[i])) := fun {hq b off} e e1 => by
      have := rd_ldV ((Wd.arr.ext e).get e1 (k := i) hc)
      rwa [getD_map hix] at this
    obtain ⟨x, hx⟩ : ∃ x, x = (stgW cs)[i] := ⟨_, rfl⟩
    rw [← hx] at hxo hxc hrx htk hxa
    obtain ⟨xa, xb, xB, xcl, xn⟩ := hxo
    have xaB : isB x.a := by
      rw [hxa]
      refine isB_adr _ ?_ ?_ <;> (unfold iaW; split <;> omega)
    have hA' := Wd.arr.ext (he.trans (Ext.jl h1 hm))
    refine IdxX.arr hA' (by omega) (by omega) (by omega) fun b off e => ?_; conv => whnf
    rw [Int.toNat_natCast]
    refine LoadX.of _ (rd_sub (q := off + i * 55 + 0) (hrx (he.trans (Ext.jl h1 hm)) e) (k := 0) (m := 20) (by omega) (waC_a xa) rfl) ?_; conv => whnf
    refine acct_ok (a := x.a) xa xaB F.V (by have := F.len; omega) fun hm2 v2 V2 hc2 => ?_; conv => whnf
    obtain ⟨F2, hJ, hnm⟩ := F.acct xa xaB (by omega) V2 hc2
    obtain ⟨J, hJe⟩ : ∃ J, J = atA v.core x.a := ⟨_, rfl⟩
    rw [← hJe] at hJ hnm ⊢
    clear V2 hc2 hJe
    have hal := F2.V.aT.len
    rw [List.length_map] at hal
    have hxw := F2.V.cok.awf _ (getDm (d := dA) hJ)
    refine DrawX.go T_ok hM Hval.func62 (tb := dr62) rfl (by kernel_rfl) ?_; conv => whnf
    refine LoadX.fn (join_hm F2.V.dj F2.V.blk) 2435 rfl (by omega) ?_
    rw [eC_a]; conv => whnf
    refine IdxX.arr (Wd.arr.ext (he.trans (Ext.jl h1 hm2))) (by omega) (by omega) (by omega) fun b off e => ?_; conv => whnf
    rw [Int.toNat_natCast]
    refine LoadX.of _ (rd_fld (q := off + i * 55 + 20) (hrx (he.trans (Ext.jl h1 hm2)) e) (k := 20) (by omega) (waC_n xa) rfl) ?_; conv => whnf
    refine IdxX.tag F2.V.aT (by omega) (by omega) fun mb hmb => ?_; conv => whnf
    refine StoreX.tag F2.V.dj F2.V.aT hmb (k := J) (o := 20) (new := aCells { v2.aL.getD J dA with nonce := x.n }) (by omega) (Nat.le_of_ble_eq_true rfl) (by show 0 + J * 29 + 20 = _; omega) (by rw [getMap (d := dA) hJ]; exact aS_nonce hxw.1.1 x.n) (aCells_one _) fun hm3 d3 aT3 kp3 => ?_; conv => whnf
    have C3 : COK { v2.core with aL := v2.aL.set J { v2.aL.getD J dA with nonce := x.n } } := cokA F2.V.cok hJ rfl ⟨by show 0 ≤ x.n; omega, by show x.n < 18446744073709551616; omega⟩ hxw.2.2
    obtain ⟨F3, hJ3, hnm3⟩ := F2.mod (Ext.refl h1) d3 kp3 hJ (x := { v2.aL.getD J dA with nonce := x.n }) rfl aT3 (F2.V.ac (v2.aL.getD J dA) (getDm hJ)) C3 ((set_nonce F2.V.cok hJ x.n C3).trans (by rw [hnm, F2.abs]))
    obtain ⟨v3, hv3⟩ : ∃ v3 : VS, v3 = { v2 with aL := v2.aL.set J { v2.aL.getD J dA with nonce := x.n } } := ⟨_, rfl⟩
    rw [show (v2.aL.set J { v2.aL.getD J dA with nonce := x.n }) = v3.aL by rw [hv3]] at hJ3
    rw [← hv3] at F3 hnm3
    rw [hnm] at hnm3
    clear C3 aT3 kp3 hv3 hal hxw
    have hal := F3.V.aT.len
    rw [List.length_map] at hal
    have hxw := F3.V.cok.awf _ (getDm (d := dA) hJ3)
    refine DrawX.go T_ok hM Hval.func62 (tb := dr62) rfl (by kernel_rfl) ?_; conv => whnf
    refine LoadX.fn (join_hm F3.V.dj F3.V.blk) 2435 rfl (by omega) ?_
    rw [eC_a]; conv => whnf
    refine IdxX.arr (Wd.arr.ext (he.trans (Ext.jl h1 hm3))) (by omega) (by omega) (by omega) fun b off e => ?_; conv => whnf
    rw [Int.toNat_natCast]
    have ldb := rd_sub (q := off + i * 55 + 21) (hrx (he.trans (Ext.jl h1 hm3)) e) (k := 21) (m := 32) (by omega) (waC_b xa xb) rfl
    refine LoadX.of _ ldb ?_; conv => whnf
    refine fromBytes_ok (l := x.b) xb xB ?_; conv => whnf
    repeat (refine Ob.mk (by first | exact ldV_fn (join_hm F3.V.dj F3.V.blk) 2435 rfl (by omega) | exact ldb) ?_; conv => whnf)
    refine IdxX.tag F3.V.aT (by omega) (by omega) fun mb2 hmb2 => ?_; conv => whnf
    refine Ob.mk ⟨rfl, rfl⟩ ?_; conv => whnf
    have hbb := bv_bd xB
    rw [xb, show (256 : Int) ^ 32 = W from by rw [W_val]; decide] at hbb
    refine StoreX.tag F3.V.dj F3.V.aT hmb2 (k := J) (o := 21) (new := aCells { v3.aL.getD J dA with bal := bv x.b }) (by omega) (Nat.le_of_ble_eq_true rfl) (by show 0 + J * 29 + 21 = _; omega) (by rw [getMap (d := dA) hJ3]; exact aS_bal hxw.1.1 (bv x.b)) (aCells_one _) fun hm4 d4 aT4 kp4 => ?_; conv => whnf
    have C4 : COK { v3.core with aL := v3.aL.set J { v3.aL.getD J dA with bal := bv x.b } } := cokA F3.V.cok hJ3 rfl hxw.2.1 hbb
    obtain ⟨F4, hJ4, hnm4⟩ := F3.mod (Ext.refl h1) d4 kp4 hJ3 (x := { v3.aL.getD J dA with bal := bv x.b }) rfl aT4 (F3.V.ac (v3.aL.getD J dA) (getDm hJ3)) C4 ((set_bal F3.V.cok hJ3 (bv x.b) C4).trans (by rw [hnm3, F3.abs]))
    obtain ⟨v4, hv4⟩ : ∃ v4 : VS, v4 = { v3 with aL := v3.aL.set J { v3.aL.getD J dA with bal := bv x.b } } := ⟨_, rfl⟩
    rw [show (v3.aL.set J { v3.aL.getD J dA with bal := bv x.b }) = v4.aL by rw [hv4]] at hJ4
    rw [← hv4] at F4 hnm4
    rw [hnm3] at hnm4
    clear C4 aT4 kp4 hv4 hal hxw
    have hal := F4.V.aT.len
    rw [List.length_map] at hal
    have hxw := F4.V.cok.awf _ (getDm (d := dA) hJ4)
    refine DrawX.go T_ok hM Hval.func62 (tb := dr62) rfl (by kernel_rfl) ?_; conv => whnf
    refine LoadX.fn (join_hm F4.V.dj F4.V.blk) 2435 rfl (by omega) ?_
    rw [eC_a]; conv => whnf
    refine IdxX.arr (Wd.arr.ext (he.trans (Ext.jl h1 hm4))) (by omega) (by omega) (by omega) fun b off e => ?_; conv => whnf
    rw [Int.toNat_natCast]
    have ldc : ∀ {hq : Hp}, Ext hi hq → ldV false 1 hq b (off + i * 55 + 53) = some (sl x.cs) := fun {hq} eq => rd_fld (q := off + i * 55 + 53) (hrx eq e) (k := 53) (by omega) (waC_c xa xb) rfl
    refine LoadX.of _ (ldc (he.trans (Ext.jl h1 hm4))) ?_; conv => whnf
    refine CallX.fj F4.V.dj (copiedV_own (hxc.ext he) fun sC h2 e2 hsC _ d5 => ?_); conv => whnf
    have F4 := F4.ext e2 d5
    repeat (refine Ob.mk (by first | exact ldV_fn (join_hm F4.V.dj F4.V.blk) 2435 rfl (by omega) | exact ldc ((he.trans e2).trans (Ext.jl h2 hm4))) ?_; conv => whnf)
    refine IdxX.tag F4.V.aT (by omega) (by omega) fun mb3 hmb3 => ?_; conv => whnf
    refine StoreX.tag F4.V.dj F4.V.aT hmb3 (k := J) (o := 25) (new := aCells { v4.aL.getD J dA with code := x.code, cs := sC }) (by omega) (Nat.le_of_ble_eq_true rfl) (by show 0 + J * 29 + 25 = _; omega) (by rw [getMap (d := dA) hJ4]; exact aS_code hxw.1.1 sC x.code) (aCells_one _) fun hm5 d6 aT5 kp5 => ?_; conv => whnf
    have C5 : COK { v4.core with aL := v4.aL.set J { v4.aL.getD J dA with code := x.code, cs := sC } } := cokA F4.V.cok hJ4 rfl hxw.2.1 hxw.2.2
    obtain ⟨F5, hJ5, hnm5⟩ := F4.mod (Ext.refl h2) d6 kp5 hJ4 (x := { v4.aL.getD J dA with code := x.code, cs := sC }) rfl aT5 hsC C5 ((set_code F4.V.cok hJ4 x.code sC C5).trans (by rw [hnm4, F4.abs]))
    rw [wldA_snoc, ← htk] at F5
    refine IdxX.arr (Wd.arr.ext ((he.trans e2).trans (Ext.jl h2 hm5))) (by omega) (by omega) (by omega) fun b off e => ?_; conv => whnf
    rw [Int.toNat_natCast]
    refine LoadX.of _ (rd_fld (q := off + i * 55 + 54) (hrx ((he.trans e2).trans (Ext.jl h2 hm5)) e) (k := 54) (by omega) (waC_s xa xb) rfl) ?_; conv => whnf
    refine LoopX.st T_ok Hval.func62 (σ := Unit) (fun _ => [(0, .pointer (some ⟨eb, 2435, none⟩)), (1, sl s), (30, sl s), (31, .int .i64 s.2.1), (32, .int .i64 i), (88, .int .i64 0), (89, .int .i64 0)])
      (fun _ h3 => h3 = join h2 hm5) (fun _ => 0) () ⟨rfl, rfl, rfl, rfl, rfl, rfl, rfl, trivial⟩ rfl ?_
    rintro _ ρ2 h3 rfl ih2
    conv => whnf
    repeat (first | (refine CondX.tt ?_; conv => whnf) | (refine CondX.ff ?_; conv => whnf))
    refine ih (i + 1, h2, hm5, { v4 with aL := v4.aL.set J { v4.aL.getD J dA with code := x.code, cs := sC } }) _ _ ⟨by dsimp only; omega, rfl, he.trans e2, F5⟩ (by dsimp only; omega) ⟨rfl, rfl, rfl, rfl, congrArg (Value.int .i64) (wsucc (by omega)), trivial⟩
  · have hi7 : i = s.2.1 := by omega
    rw [List.take_of_length_le (by omega)] at F
    exact RetX.same (hk h1 hm v he ⟨F.V, F.abs, F.sL, F.tL, F.jL, F.nm, by have := F.len; omega⟩)
end
end Go.Proofs.YgvalwGreat.X
