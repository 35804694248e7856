import Derived.Test.YgvalwGreatF65
set_option linter.unusedVariables false
set_option linter.unusedSimpArgs false
namespace Go.Proofs.YgvalwGreat.X
open Go

/-- The verdict on an instruction, with its cost. -/
def refA (o cost gas : Int) (n : Nat) (A : Nat → Int) (static : Bool) (code : List Int) (rl : Nat) : Int × Int :=
  if (arI o).2.2 = false then (5, 0)
  else if (n : Int) < (arI o).1 then (3, 0)
  else if 64 < (n : Int) - (arI o).1 + (arI o).2.1 then (4, 0)
  else if static = true ∧ writesI o (A 2) = true then (7, 0)
  else if (o = 240 ∨ o = 245) ∧ 512 < A 2 then (9, 0)
  else if o = 62 ∧ (rl : Int) < A 1 + A 2 then (8, 0)
  else if gas < cost then (2, cost)
  else if o = 85 ∧ gas ≤ 2300 then (2, cost)
  else if (o = 86 ∨ (o = 87 ∧ A 1 ≠ 0)) ∧ isDestI code (A 0) = false then (6, cost)
  else (0, cost)
theorem arI_bd {o : Int} (h0 : 0 ≤ o) (h1 : o < 256) : 0 ≤ (arI o).1 ∧ (arI o).1 ≤ 20 ∧ 0 ≤ (arI o).2.1 ∧ (arI o).2.1 ≤ 20 := by
  have key : ∀ k : Fin 256, 0 ≤ (arI (k.val : Int)).1 ∧ (arI (k.val : Int)).1 ≤ 20 ∧ 0 ≤ (arI (k.val : Int)).2.1 ∧ (arI (k.val : Int)).2.1 ≤ 20 := by decide +kernel
  have := key ⟨o.toNat, by omega⟩
  rwa [show ((o.toNat : Nat) : Int) = o by omega] at this
section
variable {hi hm : Hp} {K : Value → Hp → Prop} {c : Nat} {tc : TypeId} {s : YS} {base : List (YF × List Int)} {f : YF} {m ret : List Int} {left : Int} {N : Nat}
set_option maxRecDepth 100000 in
set_option maxHeartbeats 4000000 in
theorem refusal_ok {o : Int} (ho0 : 0 ≤ o) (ho1 : o < 256) (S : StOK hi hm c tc s (base ++ [(f, m)]) ret left) (hN : StN N s (base ++ [(f, m)])) (hN30 : N + 3 < 2 ^ 30) {fb : Nat} (hfb : at0 s.frS fb) (hsW : stW f.st) (hmr : f.memS.2.1 < 2 ^ 40)
    (hk : ∀ s1 hi', Ext hi hi' → Dj hi' hm → NtS hi' s1 (refA o (costI s.w f.self o (argI f.st) (f.memS.2.1 / 32 : Nat)) f.gas f.st.length (argI f.st) f.static f.code ret.length).2 →
      K (.tuple #[.int .u8 (refA o (costI s.w f.self o (argI f.st) (f.memS.2.1 / 32 : Nat)) f.gas f.st.length (argI f.st) f.static f.code ret.length).1, sl s1]) (join hi' hm)) :
    CallX Hval.prog 52 [.pointer (some ⟨c, 0, none⟩), .pointer (some ⟨fb, (preC base).length, none⟩), .int .u8 o] (join hi hm) K := by
  have key : ∀ v cst s1 hi', refA o (costI s.w f.self o (argI f.st) (f.memS.2.1 / 32 : Nat)) f.gas f.st.length (argI f.st) f.static f.code ret.length = (v, cst) → Ext hi hi' → Dj hi' hm → NtS hi' s1 cst → RetX K (join hi' hm) (.tuple #[.int .u8 v, sl s1]) := fun v cst s1 hi' e1 e2 e3 e4 => RetX.same (by rw [e1] at hk; exact hk s1 hi' e2 e3 e4)
  clear hk
  refine CallX.of_xf T_ok Hval.func52 rfl (by kernel_rfl) (Nat.le_of_ble_eq_true rfl) ?_; conv => whnf
  obtain ⟨fb', pad, tf, hfb', hb, hn1, hn2, hn3⟩ := S.top
  have : some (⟨fb', 0, none⟩ : Addr) = some ⟨fb, 0, none⟩ := hfb'.symm.trans hfb
  cases this
  have hok := S.okT
  have hd := S.dj
  have hc := S.chain
  have hwr := hN.now.room S.now (by omega)
  have hsr : f.stS.2.1 < 2 ^ 30 := by have := hok.n; have := hok.stR; omega
  have hst := hok.st.ext (Ext.jl hi hm)
  have aok : ∀ i, NtS hi (argP f.st i).1 (argI f.st i) := fun i => argP_ok hok.stE i
  have aW := argI_lt hsW
  have a0 : ∀ i, 0 ≤ argI f.st i := fun i => (aok i).val
  have hbg := big_lt
  have hWb1 : W * 200 < big := by rw [W_val, big_val]; decide
  have hret := S.ret.room
  have hrl := S.ret.len
  have SX : ∀ HI, Ext hi HI → Dj HI hm → StOK HI hm c tc s (base ++ [(f, m)]) ret left := fun HI e d => S.ext e d
  have eR : Ext hi hi := Ext.refl hi
  have har := arI_bd ho0 ho1
  have hnl := hok.n
  have hsl := hok.stR
  refine arity_ok ho0 ho1 ?_; conv => whnf
  refine CondX.notI (fun h1 => ?_) (fun h1 => ?_) <;> conv => whnf
  · exact key _ 0 nilS hi (by unfold refA; rw [if_pos h1]) eR hd (Nt_nil _)
  have h1 : ¬ (arI o).2.2 = false := by rw [h1]; decide
  refine LoadX.mid (join_hm hd hb) 8 (by decide) rfl (v := sl f.stS) rfl ?_; conv => whnf
  refine CondX.decI (fun h2 => ?_) (fun h2 => ?_) <;> conv => whnf
  · exact key _ 0 nilS hi (by unfold refA; rw [if_neg h1, if_pos (by omega)]) eR hd (Nt_nil _)
  have h2 : ¬ (f.st.length : Int) < (arI o).1 := by omega
  refine LoadX.mid (join_hm hd hb) 8 (by decide) rfl (v := sl f.stS) rfl ?_; conv => whnf
  rw [wrap_i64 (x := (f.stS.2.1 : Int) - (arI o).1) (by omega) (by omega), wrap_i64 (by omega) (by omega)]
  refine CondX.decI (fun h3 => ?_) (fun h3 => ?_) <;> conv => whnf
  · exact key _ 0 nilS hi (by unfold refA; rw [if_neg h1, if_neg h2, if_pos (by omega)]) eR hd (Nt_nil _)
  have h3 : ¬ (64 < (f.st.length : Int) - (arI o).1 + (arI o).2.1) := by omega
  refine LoadX.mid (join_hm hd hb) 2 (by decide) rfl (v := .bool f.static) rfl ?_; conv => whnf
  rcases hs : f.static with _ | _
  · have h4 : ¬ (f.static = true ∧ writesI o (argI f.st 2) = true) := by rw [hs]; simp
    clear hs
    repeat (first | (refine CondX.tt ?_; conv => whnf) | (refine CondX.ff ?_; conv => whnf))
    by_cases o240 : o = 240
    · subst o240
      repeat (first | (refine CondX.tt ?_; conv => whnf) | (refine CondX.ff ?_; conv => whnf))
      refine arg_ok (join_hm hd hb) hst hsr 2 (by decide) ?_; conv => whnf
      repeat (first | (refine CondX.tt ?_; conv => whnf) | (refine CondX.ff ?_; conv => whnf))
      refine CallX.fj hd (num_ok (by decide) (by decide) fun b2 n2 c2 hi2 e2 g2 hd2 => ?_); conv => whnf
      repeat (first | (refine CondX.tt ?_; conv => whnf) | (refine CondX.ff ?_; conv => whnf))
      refine cmpN (((aok 2).ext e2).ext (Ext.jl _ _)) (g2.ext (Ext.jl _ _)) ?_; conv => whnf
      repeat (first | (refine CondX.tt ?_; conv => whnf) | (refine CondX.ff ?_; conv => whnf))
      rw [cmp_gt]
      refine CondX.decI (fun h9 => ?_) (fun h9 => ?_) <;> conv => whnf
      · exact key _ 0 nilS hi2 (by unfold refA; rw [if_neg h1, if_neg h2, if_neg h3, if_neg h4, if_pos ⟨by decide, h9⟩]) e2 hd2 (Nt_nil _)
      refine DrawX.go T_ok hM Hval.func52 (tb := dr52) rfl (by kernel_rfl) ?_; conv => whnf
      repeat (first | (refine CondX.tt ?_; conv => whnf) | (refine CondX.ff ?_; conv => whnf))
      have okC := hok.ext (show Ext hi hi2 by assumption)
      refine cost_ok hd2 ho0 ho1 hc (sCells_w s) rfl (show s.w.ok hi2 (join hi2 hm) from (SX _ ‹_› hd2).now) hwr hb okC hsW hmr fun sC hiC eC hdC gC => ?_; conv => whnf
      have eHC : Ext hi hiC := Ext.trans (show Ext hi hi2 by assumption) eC
      generalize hcst : costI s.w f.self _ (argI f.st) (f.memS.2.1 / 32 : Nat) = cst at *
      refine LoadX.mid (join_hm hdC hb) 4 (by decide) rfl (v := sl f.gasS) rfl ?_; conv => whnf
      have okD := hok.ext eHC
      have h9' : ¬ (((240 : Int) = 240 ∨ (240 : Int) = 245) ∧ 512 < argI f.st 2) := (fun q => h9 q.2)
      have h8' : ¬ ((240 : Int) = 62 ∧ (ret.length : Int) < argI f.st 1 + argI f.st 2) := (by omega)
      refine cmpN (gC.ext (Ext.jl _ _)) (okD.gas.ext (Ext.jl _ _)) ?_; conv => whnf
      rw [cmp_gt]
      refine CondX.decI (fun hg => ?_) (fun hg => ?_) <;> conv => whnf
      · exact key _ cst sC hiC (by unfold refA; rw [if_neg h1, if_neg h2, if_neg h3, if_neg h4, if_neg h9', if_neg h8', if_pos hg]) eHC hdC gC
      refine DrawX.go T_ok hM Hval.func52 (tb := dr52) rfl (by kernel_rfl) ?_; conv => whnf
      repeat (first | (refine CondX.tt ?_; conv => whnf) | (refine CondX.ff ?_; conv => whnf) | (refine CondX.eqF (by assumption) ?_; conv => whnf))
      refine DrawX.go T_ok hM Hval.func52 (tb := dr52) rfl (by kernel_rfl) ?_; conv => whnf
      repeat (first | (refine CondX.tt ?_; conv => whnf) | (refine CondX.ff ?_; conv => whnf) | (refine CondX.eqF (by assumption) ?_; conv => whnf))
      refine DrawX.go T_ok hM Hval.func52 (tb := dr52) rfl (by kernel_rfl) ?_; conv => whnf
      repeat (first | (refine CondX.tt ?_; conv => whnf) | (refine CondX.ff ?_; conv => whnf) | (refine CondX.eqF (by assumption) ?_; conv => whnf))
      exact key _ cst sC hiC (by unfold refA; rw [if_neg h1, if_neg h2, if_neg h3, if_neg h4, if_neg h9', if_neg h8', if_neg hg, if_neg (by omega), if_neg (by omega)]) eHC hdC gC
    by_cases o245 : o = 245
    · subst o245
      repeat (first | (refine CondX.tt ?_; conv => whnf) | (refine CondX.ff ?_; conv => whnf))
      refine arg_ok (join_hm hd hb) hst hsr 2 (by decide) ?_; conv => whnf
      repeat (first | (refine CondX.tt ?_; conv => whnf) | (refine CondX.ff ?_; conv => whnf))
      refine CallX.fj hd (num_ok (by decide) (by decide) fun b2 n2 c2 hi2 e2 g2 hd2 => ?_); conv => whnf
      repeat (first | (refine CondX.tt ?_; conv => whnf) | (refine CondX.ff ?_; conv => whnf))
      refine cmpN (((aok 2).ext e2).ext (Ext.jl _ _)) (g2.ext (Ext.jl _ _)) ?_; conv => whnf
      repeat (first | (refine CondX.tt ?_; conv => whnf) | (refine CondX.ff ?_; conv => whnf))
      rw [cmp_gt]
      refine CondX.decI (fun h9 => ?_) (fun h9 => ?_) <;> conv => whnf
      · exact key _ 0 nilS hi2 (by unfold refA; rw [if_neg h1, if_neg h2, if_neg h3, if_neg h4, if_pos ⟨by decide, h9⟩]) e2 hd2 (Nt_nil _)
      refine DrawX.go T_ok hM Hval.func52 (tb := dr52) rfl (by kernel_rfl) ?_; conv => whnf
      repeat (first | (refine CondX.tt ?_; conv => whnf) | (refine CondX.ff ?_; conv => whnf))
      have okC := hok.ext (show Ext hi hi2 by assumption)
      refine cost_ok hd2 ho0 ho1 hc (sCells_w s) rfl (show s.w.ok hi2 (join hi2 hm) from (SX _ ‹_› hd2).now) hwr hb okC hsW hmr fun sC hiC eC hdC gC => ?_; conv => whnf
      have eHC : Ext hi hiC := Ext.trans (show Ext hi hi2 by assumption) eC
      generalize hcst : costI s.w f.self _ (argI f.st) (f.memS.2.1 / 32 : Nat) = cst at *
      refine LoadX.mid (join_hm hdC hb) 4 (by decide) rfl (v := sl f.gasS) rfl ?_; conv => whnf
      have okD := hok.ext eHC
      have h9' : ¬ (((245 : Int) = 240 ∨ (245 : Int) = 245) ∧ 512 < argI f.st 2) := (fun q => h9 q.2)
      have h8' : ¬ ((245 : Int) = 62 ∧ (ret.length : Int) < argI f.st 1 + argI f.st 2) := (by omega)
      refine cmpN (gC.ext (Ext.jl _ _)) (okD.gas.ext (Ext.jl _ _)) ?_; conv => whnf
      rw [cmp_gt]
      refine CondX.decI (fun hg => ?_) (fun hg => ?_) <;> conv => whnf
      · exact key _ cst sC hiC (by unfold refA; rw [if_neg h1, if_neg h2, if_neg h3, if_neg h4, if_neg h9', if_neg h8', if_pos hg]) eHC hdC gC
      refine DrawX.go T_ok hM Hval.func52 (tb := dr52) rfl (by kernel_rfl) ?_; conv => whnf
      repeat (first | (refine CondX.tt ?_; conv => whnf) | (refine CondX.ff ?_; conv => whnf) | (refine CondX.eqF (by assumption) ?_; conv => whnf))
      refine DrawX.go T_ok hM Hval.func52 (tb := dr52) rfl (by kernel_rfl) ?_; conv => whnf
      repeat (first | (refine CondX.tt ?_; conv => whnf) | (refine CondX.ff ?_; conv => whnf) | (refine CondX.eqF (by assumption) ?_; conv => whnf))
      refine DrawX.go T_ok hM Hval.func52 (tb := dr52) rfl (by kernel_rfl) ?_; conv => whnf
      repeat (first | (refine CondX.tt ?_; conv => whnf) | (refine CondX.ff ?_; conv => whnf) | (refine CondX.eqF (by assumption) ?_; conv => whnf))
      exact key _ cst sC hiC (by unfold refA; rw [if_neg h1, if_neg h2, if_neg h3, if_neg h4, if_neg h9', if_neg h8', if_neg hg, if_neg (by omega), if_neg (by omega)]) eHC hdC gC
    have h9 : ¬ ((o = 240 ∨ o = 245) ∧ 512 < argI f.st 2) := by omega
    repeat (first | (refine CondX.tt ?_; conv => whnf) | (refine CondX.ff ?_; conv => whnf) | (refine CondX.eqF (by assumption) ?_; conv => whnf))
    by_cases o62 : o = 62
    · subst o62
      repeat (first | (refine CondX.tt ?_; conv => whnf) | (refine CondX.ff ?_; conv => whnf))
      have h9 : ¬ (((62 : Int) = 240 ∨ (62 : Int) = 245) ∧ 512 < argI f.st 2) := by omega
      refine DrawX.go T_ok hM Hval.func52 (tb := dr52) rfl (by kernel_rfl) ?_; conv => whnf
      repeat (first | (refine CondX.tt ?_; conv => whnf) | (refine CondX.ff ?_; conv => whnf))
      refine LoadX.blk (join_hm hd hc) (sl s.retS) rfl ?_; conv => whnf
      repeat (first | (refine CondX.tt ?_; conv => whnf) | (refine CondX.ff ?_; conv => whnf))
      refine arg_ok (join_hm hd hb) hst hsr 1 (by decide) ?_; conv => whnf
      repeat (first | (refine CondX.tt ?_; conv => whnf) | (refine CondX.ff ?_; conv => whnf))
      refine Ob.mk (ldV_blk (join_hm hd hc) (v := sl s.retS) rfl) ?_; conv => whnf
      repeat (first | (refine CondX.tt ?_; conv => whnf) | (refine CondX.ff ?_; conv => whnf))
      refine arg_ok (join_hm hd hb) hst hsr 2 (by decide) ?_; conv => whnf
      repeat (first | (refine CondX.tt ?_; conv => whnf) | (refine CondX.ff ?_; conv => whnf))
      refine Ob.mk (ldV_blk (join_hm hd hc) (v := sl s.retS) rfl) ?_; conv => whnf
      repeat (first | (refine CondX.tt ?_; conv => whnf) | (refine CondX.ff ?_; conv => whnf))
      have b1 := aW 1
      have b2 := aW 2
      refine CallX.fj hd (addN (aok 1) (aok 2) (by omega) fun b1 n1 c1 hi1 e1 g1 hd1 => ?_); conv => whnf
      repeat (first | (refine CondX.tt ?_; conv => whnf) | (refine CondX.ff ?_; conv => whnf))
      refine Ob.mk (ldV_blk (join_hm hd1 hc) (v := sl s.retS) rfl) ?_; conv => whnf
      repeat (first | (refine CondX.tt ?_; conv => whnf) | (refine CondX.ff ?_; conv => whnf))
      rw [wrap_u64']
      refine CallX.fj hd1 (num_ok (by omega) (by omega) fun b2 n2 c2 hi2 e2 g2 hd2 => ?_); conv => whnf
      repeat (first | (refine CondX.tt ?_; conv => whnf) | (refine CondX.ff ?_; conv => whnf))
      refine cmpN ((g1.ext e2).ext (Ext.jl _ _)) (g2.ext (Ext.jl _ _)) ?_; conv => whnf
      repeat (first | (refine CondX.tt ?_; conv => whnf) | (refine CondX.ff ?_; conv => whnf))
      rw [cmp_gt]
      have e12 := e1.trans e2
      refine CondX.decI (fun h8 => ?_) (fun h8 => ?_) <;> conv => whnf
      · exact key _ 0 nilS hi2 (by unfold refA; rw [if_neg h1, if_neg h2, if_neg h3, if_neg h4, if_neg h9, if_pos ⟨rfl, by omega⟩]) e12 hd2 (Nt_nil _)
      have okC := hok.ext (show Ext hi hi2 by assumption)
      refine cost_ok hd2 ho0 ho1 hc (sCells_w s) rfl (show s.w.ok hi2 (join hi2 hm) from (SX _ ‹_› hd2).now) hwr hb okC hsW hmr fun sC hiC eC hdC gC => ?_; conv => whnf
      have eHC : Ext hi hiC := Ext.trans (show Ext hi hi2 by assumption) eC
      generalize hcst : costI s.w f.self _ (argI f.st) (f.memS.2.1 / 32 : Nat) = cst at *
      refine LoadX.mid (join_hm hdC hb) 4 (by decide) rfl (v := sl f.gasS) rfl ?_; conv => whnf
      have okD := hok.ext eHC
      have h9' : ¬ (((62 : Int) = 240 ∨ (62 : Int) = 245) ∧ 512 < argI f.st 2) := h9
      have h8' : ¬ ((62 : Int) = 62 ∧ (ret.length : Int) < argI f.st 1 + argI f.st 2) := (by omega)
      refine cmpN (gC.ext (Ext.jl _ _)) (okD.gas.ext (Ext.jl _ _)) ?_; conv => whnf
      rw [cmp_gt]
      refine CondX.decI (fun hg => ?_) (fun hg => ?_) <;> conv => whnf
      · exact key _ cst sC hiC (by unfold refA; rw [if_neg h1, if_neg h2, if_neg h3, if_neg h4, if_neg h9', if_neg h8', if_pos hg]) eHC hdC gC
      refine DrawX.go T_ok hM Hval.func52 (tb := dr52) rfl (by kernel_rfl) ?_; conv => whnf
      repeat (first | (refine CondX.tt ?_; conv => whnf) | (refine CondX.ff ?_; conv => whnf) | (refine CondX.eqF (by assumption) ?_; conv => whnf))
      refine DrawX.go T_ok hM Hval.func52 (tb := dr52) rfl (by kernel_rfl) ?_; conv => whnf
      repeat (first | (refine CondX.tt ?_; conv => whnf) | (refine CondX.ff ?_; conv => whnf) | (refine CondX.eqF (by assumption) ?_; conv => whnf))
      refine DrawX.go T_ok hM Hval.func52 (tb := dr52) rfl (by kernel_rfl) ?_; conv => whnf
      repeat (first | (refine CondX.tt ?_; conv => whnf) | (refine CondX.ff ?_; conv => whnf) | (refine CondX.eqF (by assumption) ?_; conv => whnf))
      exact key _ cst sC hiC (by unfold refA; rw [if_neg h1, if_neg h2, if_neg h3, if_neg h4, if_neg h9', if_neg h8', if_neg hg, if_neg (by omega), if_neg (by omega)]) eHC hdC gC
    have h8 : ¬ (o = 62 ∧ (ret.length : Int) < argI f.st 1 + argI f.st 2) := by omega
    refine DrawX.go T_ok hM Hval.func52 (tb := dr52) rfl (by kernel_rfl) ?_; conv => whnf
    repeat (first | (refine CondX.tt ?_; conv => whnf) | (refine CondX.ff ?_; conv => whnf) | (refine CondX.eqF (by assumption) ?_; conv => whnf))
    have okC := hok.ext (show Ext hi hi by assumption)
    refine cost_ok hd ho0 ho1 hc (sCells_w s) rfl (show s.w.ok hi (join hi hm) from (SX _ ‹_› hd).now) hwr hb okC hsW hmr fun sC hiC eC hdC gC => ?_; conv => whnf
    have eHC : Ext hi hiC := Ext.trans (show Ext hi hi by assumption) eC
    generalize hcst : costI s.w f.self _ (argI f.st) (f.memS.2.1 / 32 : Nat) = cst at *
    refine LoadX.mid (join_hm hdC hb) 4 (by decide) rfl (v := sl f.gasS) rfl ?_; conv => whnf
    have okD := hok.ext eHC
    have h9' : ¬ (((o : Int) = 240 ∨ (o : Int) = 245) ∧ 512 < argI f.st 2) := h9
    have h8' : ¬ ((o : Int) = 62 ∧ (ret.length : Int) < argI f.st 1 + argI f.st 2) := h8
    refine cmpN (gC.ext (Ext.jl _ _)) (okD.gas.ext (Ext.jl _ _)) ?_; conv => whnf
    rw [cmp_gt]
    refine CondX.decI (fun hg => ?_) (fun hg => ?_) <;> conv => whnf
    · exact key _ cst sC hiC (by unfold refA; rw [if_neg h1, if_neg h2, if_neg h3, if_neg h4, if_neg h9', if_neg h8', if_pos hg]) eHC hdC gC
    by_cases o85 : o = 85
    · subst o85
      refine DrawX.go T_ok hM Hval.func52 (tb := dr52) rfl (by kernel_rfl) ?_; conv => whnf
      repeat (first | (refine CondX.tt ?_; conv => whnf) | (refine CondX.ff ?_; conv => whnf))
      refine LoadX.mid (join_hm hdC hb) 4 (by decide) rfl (v := sl f.gasS) rfl ?_; conv => whnf
      repeat (first | (refine CondX.tt ?_; conv => whnf) | (refine CondX.ff ?_; conv => whnf))
      refine CallX.fj hdC (num_ok (by decide) (by decide) fun b2 n2 c2 hi2 e2 g2 hd2 => ?_); conv => whnf
      repeat (first | (refine CondX.tt ?_; conv => whnf) | (refine CondX.ff ?_; conv => whnf))
      refine Ob.mk (ldV_mid (join_hm hd2 hb) 4 (by decide) rfl (v := sl f.gasS) rfl) ?_; conv => whnf
      repeat (first | (refine CondX.tt ?_; conv => whnf) | (refine CondX.ff ?_; conv => whnf))
      refine cmpN ((okD.gas.ext e2).ext (Ext.jl _ _)) (g2.ext (Ext.jl _ _)) ?_; conv => whnf
      repeat (first | (refine CondX.tt ?_; conv => whnf) | (refine CondX.ff ?_; conv => whnf))
      have hle : decide (cmpI f.gas 2300 ≤ 0) = decide (f.gas ≤ 2300) := by
        rw [decide_eq_decide]; unfold cmpI; repeat' split
        all_goals omega
      rw [hle]
      have eH2 := eHC.trans e2
      refine CondX.decI (fun h7 => ?_) (fun h7 => ?_) <;> conv => whnf
      · exact key _ cst sC hi2 (by unfold refA; rw [if_neg h1, if_neg h2, if_neg h3, if_neg h4, if_neg h9', if_neg h8', if_neg hg, if_pos ⟨rfl, h7⟩]) eH2 hd2 (gC.ext e2)
      refine DrawX.go T_ok hM Hval.func52 (tb := dr52) rfl (by kernel_rfl) ?_; conv => whnf
      repeat (first | (refine CondX.tt ?_; conv => whnf) | (refine CondX.ff ?_; conv => whnf))
      refine DrawX.go T_ok hM Hval.func52 (tb := dr52) rfl (by kernel_rfl) ?_; conv => whnf
      repeat (first | (refine CondX.tt ?_; conv => whnf) | (refine CondX.ff ?_; conv => whnf))
      exact key _ cst sC hi2 (by unfold refA; rw [if_neg h1, if_neg h2, if_neg h3, if_neg h4, if_neg h9', if_neg h8', if_neg hg, if_neg (by omega), if_neg (by omega)]) eH2 hd2 (gC.ext e2)
    have h7 : ¬ (o = 85 ∧ f.gas ≤ 2300) := by omega
    refine DrawX.go T_ok hM Hval.func52 (tb := dr52) rfl (by kernel_rfl) ?_; conv => whnf
    repeat (first | (refine CondX.tt ?_; conv => whnf) | (refine CondX.ff ?_; conv => whnf) | (refine CondX.eqF (by assumption) ?_; conv => whnf))
    by_cases o86 : o = 86
    · subst o86
      refine DrawX.go T_ok hM Hval.func52 (tb := dr52) rfl (by kernel_rfl) ?_; conv => whnf
      repeat (first | (refine CondX.tt ?_; conv => whnf) | (refine CondX.ff ?_; conv => whnf))
      refine LoadX.mid (join_hm hdC hb) 10 (by decide) rfl (v := sl f.codeS) rfl ?_; conv => whnf
      repeat (first | (refine CondX.tt ?_; conv => whnf) | (refine CondX.ff ?_; conv => whnf))
      refine arg_ok (join_hm hdC hb) (okD.st.ext (Ext.jl _ _)) hsr 0 (by decide) ?_; conv => whnf
      repeat (first | (refine CondX.tt ?_; conv => whnf) | (refine CondX.ff ?_; conv => whnf))
      refine Ob.mk (ldV_mid (join_hm hdC hb) 10 (by decide) rfl (v := sl f.codeS) rfl) ?_; conv => whnf
      repeat (first | (refine CondX.tt ?_; conv => whnf) | (refine CondX.ff ?_; conv => whnf))
      refine ypIsDest_ok (okD.code.ext (Ext.jl _ _)) (((aok 0).ext eHC).ext (Ext.jl _ _)) ?_; conv => whnf
      repeat (first | (refine CondX.tt ?_; conv => whnf) | (refine CondX.ff ?_; conv => whnf))
      refine CondX.notI (fun h6 => ?_) (fun h6 => ?_) <;> conv => whnf
      · exact key _ cst sC hiC (by unfold refA; rw [if_neg h1, if_neg h2, if_neg h3, if_neg h4, if_neg h9', if_neg h8', if_neg hg, if_neg h7, if_pos ⟨.inl rfl, h6⟩]) eHC hdC gC
      refine DrawX.go T_ok hM Hval.func52 (tb := dr52) rfl (by kernel_rfl) ?_; conv => whnf
      repeat (first | (refine CondX.tt ?_; conv => whnf) | (refine CondX.ff ?_; conv => whnf))
      exact key _ cst sC hiC (by unfold refA; rw [if_neg h1, if_neg h2, if_neg h3, if_neg h4, if_neg h9', if_neg h8', if_neg hg, if_neg h7, if_neg (fun q : _ ∧ _ => by rw [h6] at q; cases q.2)]) eHC hdC gC
    refine DrawX.go T_ok hM Hval.func52 (tb := dr52) rfl (by kernel_rfl) ?_; conv => whnf
    repeat (first | (refine CondX.tt ?_; conv => whnf) | (refine CondX.ff ?_; conv => whnf) | (refine CondX.eqF (by assumption) ?_; conv => whnf))
    by_cases o87 : o = 87
    · subst o87
      refine DrawX.go T_ok hM Hval.func52 (tb := dr52) rfl (by kernel_rfl) ?_; conv => whnf
      repeat (first | (refine CondX.tt ?_; conv => whnf) | (refine CondX.ff ?_; conv => whnf))
      refine arg_ok (join_hm hdC hb) (okD.st.ext (Ext.jl _ _)) hsr 1 (by decide) ?_; conv => whnf
      repeat (first | (refine CondX.tt ?_; conv => whnf) | (refine CondX.ff ?_; conv => whnf))
      refine isZero_ok (((aok 1).ext eHC).ext (Ext.jl _ _)) ?_; conv => whnf
      repeat (first | (refine CondX.tt ?_; conv => whnf) | (refine CondX.ff ?_; conv => whnf))
      refine CondX.notI (fun h5 => ?_) (fun h5 => ?_) <;> conv => whnf
      · have h5 : argI f.st 1 ≠ 0 := of_decide_eq_false h5
        repeat (first | (refine CondX.tt ?_; conv => whnf) | (refine CondX.ff ?_; conv => whnf))
        refine LoadX.mid (join_hm hdC hb) 10 (by decide) rfl (v := sl f.codeS) rfl ?_; conv => whnf
        repeat (first | (refine CondX.tt ?_; conv => whnf) | (refine CondX.ff ?_; conv => whnf))
        refine arg_ok (join_hm hdC hb) (okD.st.ext (Ext.jl _ _)) hsr 0 (by decide) ?_; conv => whnf
        repeat (first | (refine CondX.tt ?_; conv => whnf) | (refine CondX.ff ?_; conv => whnf))
        refine Ob.mk (ldV_mid (join_hm hdC hb) 10 (by decide) rfl (v := sl f.codeS) rfl) ?_; conv => whnf
        repeat (first | (refine CondX.tt ?_; conv => whnf) | (refine CondX.ff ?_; conv => whnf))
        refine ypIsDest_ok (okD.code.ext (Ext.jl _ _)) (((aok 0).ext eHC).ext (Ext.jl _ _)) ?_; conv => whnf
        repeat (first | (refine CondX.tt ?_; conv => whnf) | (refine CondX.ff ?_; conv => whnf))
        refine CondX.notI (fun h6 => ?_) (fun h6 => ?_) <;> conv => whnf
        · exact key _ cst sC hiC (by unfold refA; rw [if_neg h1, if_neg h2, if_neg h3, if_neg h4, if_neg h9', if_neg h8', if_neg hg, if_neg h7, if_pos ⟨.inr ⟨rfl, h5⟩, h6⟩]) eHC hdC gC
        exact key _ cst sC hiC (by unfold refA; rw [if_neg h1, if_neg h2, if_neg h3, if_neg h4, if_neg h9', if_neg h8', if_neg hg, if_neg h7, if_neg (fun q : _ ∧ _ => by rw [h6] at q; cases q.2)]) eHC hdC gC
      · have h5 : argI f.st 1 = 0 := of_decide_eq_true h5
        repeat (first | (refine CondX.tt ?_; conv => whnf) | (refine CondX.ff ?_; conv => whnf))
        exact key _ cst sC hiC (by unfold refA; rw [if_neg h1, if_neg h2, if_neg h3, if_neg h4, if_neg h9', if_neg h8', if_neg hg, if_neg h7, if_neg (by omega)]) eHC hdC gC
    refine DrawX.go T_ok hM Hval.func52 (tb := dr52) rfl (by kernel_rfl) ?_; conv => whnf
    repeat (first | (refine CondX.tt ?_; conv => whnf) | (refine CondX.ff ?_; conv => whnf) | (refine CondX.eqF (by assumption) ?_; conv => whnf))
    exact key _ cst sC hiC (by unfold refA; rw [if_neg h1, if_neg h2, if_neg h3, if_neg h4, if_neg h9', if_neg h8', if_neg hg, if_neg h7, if_neg (by omega)]) eHC hdC gC
  · repeat (first | (refine CondX.tt ?_; conv => whnf) | (refine CondX.ff ?_; conv => whnf))
    refine writes_ok hd hb hok ?_; conv => whnf
    repeat (first | (refine CondX.tt ?_; conv => whnf) | (refine CondX.ff ?_; conv => whnf))
    refine CondX.mk (fun hw => ?_) (fun hw => ?_) <;> conv => whnf
    · exact key _ 0 nilS hi (by unfold refA; rw [if_neg h1, if_neg h2, if_neg h3, if_pos ⟨hs, hw⟩]) eR hd (Nt_nil _)
    have h4 : ¬ (f.static = true ∧ writesI o (argI f.st 2) = true) := by rw [show writesI o (argI f.st 2) = false from hw]; simp
    by_cases o240 : o = 240
    · subst o240
      repeat (first | (refine CondX.tt ?_; conv => whnf) | (refine CondX.ff ?_; conv => whnf))
      refine arg_ok (join_hm hd hb) hst hsr 2 (by decide) ?_; conv => whnf
      repeat (first | (refine CondX.tt ?_; conv => whnf) | (refine CondX.ff ?_; conv => whnf))
      refine CallX.fj hd (num_ok (by decide) (by decide) fun b2 n2 c2 hi2 e2 g2 hd2 => ?_); conv => whnf
      repeat (first | (refine CondX.tt ?_; conv => whnf) | (refine CondX.ff ?_; conv => whnf))
      refine cmpN (((aok 2).ext e2).ext (Ext.jl _ _)) (g2.ext (Ext.jl _ _)) ?_; conv => whnf
      repeat (first | (refine CondX.tt ?_; conv => whnf) | (refine CondX.ff ?_; conv => whnf))
      rw [cmp_gt]
      refine CondX.decI (fun h9 => ?_) (fun h9 => ?_) <;> conv => whnf
      · exact key _ 0 nilS hi2 (by unfold refA; rw [if_neg h1, if_neg h2, if_neg h3, if_neg h4, if_pos ⟨by decide, h9⟩]) e2 hd2 (Nt_nil _)
      refine DrawX.go T_ok hM Hval.func52 (tb := dr52) rfl (by kernel_rfl) ?_; conv => whnf
      repeat (first | (refine CondX.tt ?_; conv => whnf) | (refine CondX.ff ?_; conv => whnf))
      have okC := hok.ext (show Ext hi hi2 by assumption)
      refine cost_ok hd2 ho0 ho1 hc (sCells_w s) rfl (show s.w.ok hi2 (join hi2 hm) from (SX _ ‹_› hd2).now) hwr hb okC hsW hmr fun sC hiC eC hdC gC => ?_; conv => whnf
      have eHC : Ext hi hiC := Ext.trans (show Ext hi hi2 by assumption) eC
      generalize hcst : costI s.w f.self _ (argI f.st) (f.memS.2.1 / 32 : Nat) = cst at *
      refine LoadX.mid (join_hm hdC hb) 4 (by decide) rfl (v := sl f.gasS) rfl ?_; conv => whnf
      have okD := hok.ext eHC
      have h9' : ¬ (((240 : Int) = 240 ∨ (240 : Int) = 245) ∧ 512 < argI f.st 2) := (fun q => h9 q.2)
      have h8' : ¬ ((240 : Int) = 62 ∧ (ret.length : Int) < argI f.st 1 + argI f.st 2) := (by omega)
      refine cmpN (gC.ext (Ext.jl _ _)) (okD.gas.ext (Ext.jl _ _)) ?_; conv => whnf
      rw [cmp_gt]
      refine CondX.decI (fun hg => ?_) (fun hg => ?_) <;> conv => whnf
      · exact key _ cst sC hiC (by unfold refA; rw [if_neg h1, if_neg h2, if_neg h3, if_neg h4, if_neg h9', if_neg h8', if_pos hg]) eHC hdC gC
      refine DrawX.go T_ok hM Hval.func52 (tb := dr52) rfl (by kernel_rfl) ?_; conv => whnf
      repeat (first | (refine CondX.tt ?_; conv => whnf) | (refine CondX.ff ?_; conv => whnf) | (refine CondX.eqF (by assumption) ?_; conv => whnf))
      refine DrawX.go T_ok hM Hval.func52 (tb := dr52) rfl (by kernel_rfl) ?_; conv => whnf
      repeat (first | (refine CondX.tt ?_; conv => whnf) | (refine CondX.ff ?_; conv => whnf) | (refine CondX.eqF (by assumption) ?_; conv => whnf))
      refine DrawX.go T_ok hM Hval.func52 (tb := dr52) rfl (by kernel_rfl) ?_; conv => whnf
      repeat (first | (refine CondX.tt ?_; conv => whnf) | (refine CondX.ff ?_; conv => whnf) | (refine CondX.eqF (by assumption) ?_; conv => whnf))
      exact key _ cst sC hiC (by unfold refA; rw [if_neg h1, if_neg h2, if_neg h3, if_neg h4, if_neg h9', if_neg h8', if_neg hg, if_neg (by omega), if_neg (by omega)]) eHC hdC gC
    by_cases o245 : o = 245
    · subst o245
      repeat (first | (refine CondX.tt ?_; conv => whnf) | (refine CondX.ff ?_; conv => whnf))
      refine arg_ok (join_hm hd hb) hst hsr 2 (by decide) ?_; conv => whnf
      repeat (first | (refine CondX.tt ?_; conv => whnf) | (refine CondX.ff ?_; conv => whnf))
      refine CallX.fj hd (num_ok (by decide) (by decide) fun b2 n2 c2 hi2 e2 g2 hd2 => ?_); conv => whnf
      repeat (first | (refine CondX.tt ?_; conv => whnf) | (refine CondX.ff ?_; conv => whnf))
      refine cmpN (((aok 2).ext e2).ext (Ext.jl _ _)) (g2.ext (Ext.jl _ _)) ?_; conv => whnf
      repeat (first | (refine CondX.tt ?_; conv => whnf) | (refine CondX.ff ?_; conv => whnf))
      rw [cmp_gt]
      refine CondX.decI (fun h9 => ?_) (fun h9 => ?_) <;> conv => whnf
      · exact key _ 0 nilS hi2 (by unfold refA; rw [if_neg h1, if_neg h2, if_neg h3, if_neg h4, if_pos ⟨by decide, h9⟩]) e2 hd2 (Nt_nil _)
      refine DrawX.go T_ok hM Hval.func52 (tb := dr52) rfl (by kernel_rfl) ?_; conv => whnf
      repeat (first | (refine CondX.tt ?_; conv => whnf) | (refine CondX.ff ?_; conv => whnf))
      have okC := hok.ext (show Ext hi hi2 by assumption)
      refine cost_ok hd2 ho0 ho1 hc (sCells_w s) rfl (show s.w.ok hi2 (join hi2 hm) from (SX _ ‹_› hd2).now) hwr hb okC hsW hmr fun sC hiC eC hdC gC => ?_; conv => whnf
      have eHC : Ext hi hiC := Ext.trans (show Ext hi hi2 by assumption) eC
      generalize hcst : costI s.w f.self _ (argI f.st) (f.memS.2.1 / 32 : Nat) = cst at *
      refine LoadX.mid (join_hm hdC hb) 4 (by decide) rfl (v := sl f.gasS) rfl ?_; conv => whnf
      have okD := hok.ext eHC
      have h9' : ¬ (((245 : Int) = 240 ∨ (245 : Int) = 245) ∧ 512 < argI f.st 2) := (fun q => h9 q.2)
      have h8' : ¬ ((245 : Int) = 62 ∧ (ret.length : Int) < argI f.st 1 + argI f.st 2) := (by omega)
      refine cmpN (gC.ext (Ext.jl _ _)) (okD.gas.ext (Ext.jl _ _)) ?_; conv => whnf
      rw [cmp_gt]
      refine CondX.decI (fun hg => ?_) (fun hg => ?_) <;> conv => whnf
      · exact key _ cst sC hiC (by unfold refA; rw [if_neg h1, if_neg h2, if_neg h3, if_neg h4, if_neg h9', if_neg h8', if_pos hg]) eHC hdC gC
      refine DrawX.go T_ok hM Hval.func52 (tb := dr52) rfl (by kernel_rfl) ?_; conv => whnf
      repeat (first | (refine CondX.tt ?_; conv => whnf) | (refine CondX.ff ?_; conv => whnf) | (refine CondX.eqF (by assumption) ?_; conv => whnf))
      refine DrawX.go T_ok hM Hval.func52 (tb := dr52) rfl (by kernel_rfl) ?_; conv => whnf
      repeat (first | (refine CondX.tt ?_; conv => whnf) | (refine CondX.ff ?_; conv => whnf) | (refine CondX.eqF (by assumption) ?_; conv => whnf))
      refine DrawX.go T_ok hM Hval.func52 (tb := dr52) rfl (by kernel_rfl) ?_; conv => whnf
      repeat (first | (refine CondX.tt ?_; conv => whnf) | (refine CondX.ff ?_; conv => whnf) | (refine CondX.eqF (by assumption) ?_; conv => whnf))
      exact key _ cst sC hiC (by unfold refA; rw [if_neg h1, if_neg h2, if_neg h3, if_neg h4, if_neg h9', if_neg h8', if_neg hg, if_neg (by omega), if_neg (by omega)]) eHC hdC gC
    have h9 : ¬ ((o = 240 ∨ o = 245) ∧ 512 < argI f.st 2) := by omega
    repeat (first | (refine CondX.tt ?_; conv => whnf) | (refine CondX.ff ?_; conv => whnf) | (refine CondX.eqF (by assumption) ?_; conv => whnf))
    by_cases o62 : o = 62
    · subst o62
      repeat (first | (refine CondX.tt ?_; conv => whnf) | (refine CondX.ff ?_; conv => whnf))
      have h9 : ¬ (((62 : Int) = 240 ∨ (62 : Int) = 245) ∧ 512 < argI f.st 2) := by omega
      refine DrawX.go T_ok hM Hval.func52 (tb := dr52) rfl (by kernel_rfl) ?_; conv => whnf
      repeat (first | (refine CondX.tt ?_; conv => whnf) | (refine CondX.ff ?_; conv => whnf))
      refine LoadX.blk (join_hm hd hc) (sl s.retS) rfl ?_; conv => whnf
      repeat (first | (refine CondX.tt ?_; conv => whnf) | (refine CondX.ff ?_; conv => whnf))
      refine arg_ok (join_hm hd hb) hst hsr 1 (by decide) ?_; conv => whnf
      repeat (first | (refine CondX.tt ?_; conv => whnf) | (refine CondX.ff ?_; conv => whnf))
      refine Ob.mk (ldV_blk (join_hm hd hc) (v := sl s.retS) rfl) ?_; conv => whnf
      repeat (first | (refine CondX.tt ?_; conv => whnf) | (refine CondX.ff ?_; conv => whnf))
      refine arg_ok (join_hm hd hb) hst hsr 2 (by decide) ?_; conv => whnf
      repeat (first | (refine CondX.tt ?_; conv => whnf) | (refine CondX.ff ?_; conv => whnf))
      refine Ob.mk (ldV_blk (join_hm hd hc) (v := sl s.retS) rfl) ?_; conv => whnf
      repeat (first | (refine CondX.tt ?_; conv => whnf) | (refine CondX.ff ?_; conv => whnf))
      have b1 := aW 1
      have b2 := aW 2
      refine CallX.fj hd (addN (aok 1) (aok 2) (by omega) fun b1 n1 c1 hi1 e1 g1 hd1 => ?_); conv => whnf
      repeat (first | (refine CondX.tt ?_; conv => whnf) | (refine CondX.ff ?_; conv => whnf))
      refine Ob.mk (ldV_blk (join_hm hd1 hc) (v := sl s.retS) rfl) ?_; conv => whnf
      repeat (first | (refine CondX.tt ?_; conv => whnf) | (refine CondX.ff ?_; conv => whnf))
      rw [wrap_u64']
      refine CallX.fj hd1 (num_ok (by omega) (by omega) fun b2 n2 c2 hi2 e2 g2 hd2 => ?_); conv => whnf
      repeat (first | (refine CondX.tt ?_; conv => whnf) | (refine CondX.ff ?_; conv => whnf))
      refine cmpN ((g1.ext e2).ext (Ext.jl _ _)) (g2.ext (Ext.jl _ _)) ?_; conv => whnf
      repeat (first | (refine CondX.tt ?_; conv => whnf) | (refine CondX.ff ?_; conv => whnf))
      rw [cmp_gt]
      have e12 := e1.trans e2
      refine CondX.decI (fun h8 => ?_) (fun h8 => ?_) <;> conv => whnf
      · exact key _ 0 nilS hi2 (by unfold refA; rw [if_neg h1, if_neg h2, if_neg h3, if_neg h4, if_neg h9, if_pos ⟨rfl, by omega⟩]) e12 hd2 (Nt_nil _)
      have okC := hok.ext (show Ext hi hi2 by assumption)
      refine cost_ok hd2 ho0 ho1 hc (sCells_w s) rfl (show s.w.ok hi2 (join hi2 hm) from (SX _ ‹_› hd2).now) hwr hb okC hsW hmr fun sC hiC eC hdC gC => ?_; conv => whnf
      have eHC : Ext hi hiC := Ext.trans (show Ext hi hi2 by assumption) eC
      generalize hcst : costI s.w f.self _ (argI f.st) (f.memS.2.1 / 32 : Nat) = cst at *
      refine LoadX.mid (join_hm hdC hb) 4 (by decide) rfl (v := sl f.gasS) rfl ?_; conv => whnf
      have okD := hok.ext eHC
      have h9' : ¬ (((62 : Int) = 240 ∨ (62 : Int) = 245) ∧ 512 < argI f.st 2) := h9
      have h8' : ¬ ((62 : Int) = 62 ∧ (ret.length : Int) < argI f.st 1 + argI f.st 2) := (by omega)
      refine cmpN (gC.ext (Ext.jl _ _)) (okD.gas.ext (Ext.jl _ _)) ?_; conv => whnf
      rw [cmp_gt]
      refine CondX.decI (fun hg => ?_) (fun hg => ?_) <;> conv => whnf
      · exact key _ cst sC hiC (by unfold refA; rw [if_neg h1, if_neg h2, if_neg h3, if_neg h4, if_neg h9', if_neg h8', if_pos hg]) eHC hdC gC
      refine DrawX.go T_ok hM Hval.func52 (tb := dr52) rfl (by kernel_rfl) ?_; conv => whnf
      repeat (first | (refine CondX.tt ?_; conv => whnf) | (refine CondX.ff ?_; conv => whnf) | (refine CondX.eqF (by assumption) ?_; conv => whnf))
      refine DrawX.go T_ok hM Hval.func52 (tb := dr52) rfl (by kernel_rfl) ?_; conv => whnf
      repeat (first | (refine CondX.tt ?_; conv => whnf) | (refine CondX.ff ?_; conv => whnf) | (refine CondX.eqF (by assumption) ?_; conv => whnf))
      refine DrawX.go T_ok hM Hval.func52 (tb := dr52) rfl (by kernel_rfl) ?_; conv => whnf
      repeat (first | (refine CondX.tt ?_; conv => whnf) | (refine CondX.ff ?_; conv => whnf) | (refine CondX.eqF (by assumption) ?_; conv => whnf))
      exact key _ cst sC hiC (by unfold refA; rw [if_neg h1, if_neg h2, if_neg h3, if_neg h4, if_neg h9', if_neg h8', if_neg hg, if_neg (by omega), if_neg (by omega)]) eHC hdC gC
    have h8 : ¬ (o = 62 ∧ (ret.length : Int) < argI f.st 1 + argI f.st 2) := by omega
    refine DrawX.go T_ok hM Hval.func52 (tb := dr52) rfl (by kernel_rfl) ?_; conv => whnf
    repeat (first | (refine CondX.tt ?_; conv => whnf) | (refine CondX.ff ?_; conv => whnf) | (refine CondX.eqF (by assumption) ?_; conv => whnf))
    have okC := hok.ext (show Ext hi hi by assumption)
    refine cost_ok hd ho0 ho1 hc (sCells_w s) rfl (show s.w.ok hi (join hi hm) from (SX _ ‹_› hd).now) hwr hb okC hsW hmr fun sC hiC eC hdC gC => ?_; conv => whnf
    have eHC : Ext hi hiC := Ext.trans (show Ext hi hi by assumption) eC
    generalize hcst : costI s.w f.self _ (argI f.st) (f.memS.2.1 / 32 : Nat) = cst at *
    refine LoadX.mid (join_hm hdC hb) 4 (by decide) rfl (v := sl f.gasS) rfl ?_; conv => whnf
    have okD := hok.ext eHC
    have h9' : ¬ (((o : Int) = 240 ∨ (o : Int) = 245) ∧ 512 < argI f.st 2) := h9
    have h8' : ¬ ((o : Int) = 62 ∧ (ret.length : Int) < argI f.st 1 + argI f.st 2) := h8
    refine cmpN (gC.ext (Ext.jl _ _)) (okD.gas.ext (Ext.jl _ _)) ?_; conv => whnf
    rw [cmp_gt]
    refine CondX.decI (fun hg => ?_) (fun hg => ?_) <;> conv => whnf
    · exact key _ cst sC hiC (by unfold refA; rw [if_neg h1, if_neg h2, if_neg h3, if_neg h4, if_neg h9', if_neg h8', if_pos hg]) eHC hdC gC
    by_cases o85 : o = 85
    · subst o85
      refine DrawX.go T_ok hM Hval.func52 (tb := dr52) rfl (by kernel_rfl) ?_; conv => whnf
      repeat (first | (refine CondX.tt ?_; conv => whnf) | (refine CondX.ff ?_; conv => whnf))
      refine LoadX.mid (join_hm hdC hb) 4 (by decide) rfl (v := sl f.gasS) rfl ?_; conv => whnf
      repeat (first | (refine CondX.tt ?_; conv => whnf) | (refine CondX.ff ?_; conv => whnf))
      refine CallX.fj hdC (num_ok (by decide) (by decide) fun b2 n2 c2 hi2 e2 g2 hd2 => ?_); conv => whnf
      repeat (first | (refine CondX.tt ?_; conv => whnf) | (refine CondX.ff ?_; conv => whnf))
      refine Ob.mk (ldV_mid (join_hm hd2 hb) 4 (by decide) rfl (v := sl f.gasS) rfl) ?_; conv => whnf
      repeat (first | (refine CondX.tt ?_; conv => whnf) | (refine CondX.ff ?_; conv => whnf))
      refine cmpN ((okD.gas.ext e2).ext (Ext.jl _ _)) (g2.ext (Ext.jl _ _)) ?_; conv => whnf
      repeat (first | (refine CondX.tt ?_; conv => whnf) | (refine CondX.ff ?_; conv => whnf))
      have hle : decide (cmpI f.gas 2300 ≤ 0) = decide (f.gas ≤ 2300) := by
        rw [decide_eq_decide]; unfold cmpI; repeat' split
        all_goals omega
      rw [hle]
      have eH2 := eHC.trans e2
      refine CondX.decI (fun h7 => ?_) (fun h7 => ?_) <;> conv => whnf
      · exact key _ cst sC hi2 (by unfold refA; rw [if_neg h1, if_neg h2, if_neg h3, if_neg h4, if_neg h9', if_neg h8', if_neg hg, if_pos ⟨rfl, h7⟩]) eH2 hd2 (gC.ext e2)
      refine DrawX.go T_ok hM Hval.func52 (tb := dr52) rfl (by kernel_rfl) ?_; conv => whnf
      repeat (first | (refine CondX.tt ?_; conv => whnf) | (refine CondX.ff ?_; conv => whnf))
      refine DrawX.go T_ok hM Hval.func52 (tb := dr52) rfl (by kernel_rfl) ?_; conv => whnf
      repeat (first | (refine CondX.tt ?_; conv => whnf) | (refine CondX.ff ?_; conv => whnf))
      exact key _ cst sC hi2 (by unfold refA; rw [if_neg h1, if_neg h2, if_neg h3, if_neg h4, if_neg h9', if_neg h8', if_neg hg, if_neg (by omega), if_neg (by omega)]) eH2 hd2 (gC.ext e2)
    have h7 : ¬ (o = 85 ∧ f.gas ≤ 2300) := by omega
    refine DrawX.go T_ok hM Hval.func52 (tb := dr52) rfl (by kernel_rfl) ?_; conv => whnf
    repeat (first | (refine CondX.tt ?_; conv => whnf) | (refine CondX.ff ?_; conv => whnf) | (refine CondX.eqF (by assumption) ?_; conv => whnf))
    by_cases o86 : o = 86
    · subst o86
      refine DrawX.go T_ok hM Hval.func52 (tb := dr52) rfl (by kernel_rfl) ?_; conv => whnf
      repeat (first | (refine CondX.tt ?_; conv => whnf) | (refine CondX.ff ?_; conv => whnf))
      refine LoadX.mid (join_hm hdC hb) 10 (by decide) rfl (v := sl f.codeS) rfl ?_; conv => whnf
      repeat (first | (refine CondX.tt ?_; conv => whnf) | (refine CondX.ff ?_; conv => whnf))
      refine arg_ok (join_hm hdC hb) (okD.st.ext (Ext.jl _ _)) hsr 0 (by decide) ?_; conv => whnf
      repeat (first | (refine CondX.tt ?_; conv => whnf) | (refine CondX.ff ?_; conv => whnf))
      refine Ob.mk (ldV_mid (join_hm hdC hb) 10 (by decide) rfl (v := sl f.codeS) rfl) ?_; conv => whnf
      repeat (first | (refine CondX.tt ?_; conv => whnf) | (refine CondX.ff ?_; conv => whnf))
      refine ypIsDest_ok (okD.code.ext (Ext.jl _ _)) (((aok 0).ext eHC).ext (Ext.jl _ _)) ?_; conv => whnf
      repeat (first | (refine CondX.tt ?_; conv => whnf) | (refine CondX.ff ?_; conv => whnf))
      refine CondX.notI (fun h6 => ?_) (fun h6 => ?_) <;> conv => whnf
      · exact key _ cst sC hiC (by unfold refA; rw [if_neg h1, if_neg h2, if_neg h3, if_neg h4, if_neg h9', if_neg h8', if_neg hg, if_neg h7, if_pos ⟨.inl rfl, h6⟩]) eHC hdC gC
      refine DrawX.go T_ok hM Hval.func52 (tb := dr52) rfl (by kernel_rfl) ?_; conv => whnf
      repeat (first | (refine CondX.tt ?_; conv => whnf) | (refine CondX.ff ?_; conv => whnf))
      exact key _ cst sC hiC (by unfold refA; rw [if_neg h1, if_neg h2, if_neg h3, if_neg h4, if_neg h9', if_neg h8', if_neg hg, if_neg h7, if_neg (fun q : _ ∧ _ => by rw [h6] at q; cases q.2)]) eHC hdC gC
    refine DrawX.go T_ok hM Hval.func52 (tb := dr52) rfl (by kernel_rfl) ?_; conv => whnf
    repeat (first | (refine CondX.tt ?_; conv => whnf) | (refine CondX.ff ?_; conv => whnf) | (refine CondX.eqF (by assumption) ?_; conv => whnf))
    by_cases o87 : o = 87
    · subst o87
      refine DrawX.go T_ok hM Hval.func52 (tb := dr52) rfl (by kernel_rfl) ?_; conv => whnf
      repeat (first | (refine CondX.tt ?_; conv => whnf) | (refine CondX.ff ?_; conv => whnf))
      refine arg_ok (join_hm hdC hb) (okD.st.ext (Ext.jl _ _)) hsr 1 (by decide) ?_; conv => whnf
      repeat (first | (refine CondX.tt ?_; conv => whnf) | (refine CondX.ff ?_; conv => whnf))
      refine isZero_ok (((aok 1).ext eHC).ext (Ext.jl _ _)) ?_; conv => whnf
      repeat (first | (refine CondX.tt ?_; conv => whnf) | (refine CondX.ff ?_; conv => whnf))
      refine CondX.notI (fun h5 => ?_) (fun h5 => ?_) <;> conv => whnf
      · have h5 : argI f.st 1 ≠ 0 := of_decide_eq_false h5
        repeat (first | (refine CondX.tt ?_; conv => whnf) | (refine CondX.ff ?_; conv => whnf))
        refine LoadX.mid (join_hm hdC hb) 10 (by decide) rfl (v := sl f.codeS) rfl ?_; conv => whnf
        repeat (first | (refine CondX.tt ?_; conv => whnf) | (refine CondX.ff ?_; conv => whnf))
        refine arg_ok (join_hm hdC hb) (okD.st.ext (Ext.jl _ _)) hsr 0 (by decide) ?_; conv => whnf
        repeat (first | (refine CondX.tt ?_; conv => whnf) | (refine CondX.ff ?_; conv => whnf))
        refine Ob.mk (ldV_mid (join_hm hdC hb) 10 (by decide) rfl (v := sl f.codeS) rfl) ?_; conv => whnf
        repeat (first | (refine CondX.tt ?_; conv => whnf) | (refine CondX.ff ?_; conv => whnf))
        refine ypIsDest_ok (okD.code.ext (Ext.jl _ _)) (((aok 0).ext eHC).ext (Ext.jl _ _)) ?_; conv => whnf
        repeat (first | (refine CondX.tt ?_; conv => whnf) | (refine CondX.ff ?_; conv => whnf))
        refine CondX.notI (fun h6 => ?_) (fun h6 => ?_) <;> conv => whnf
        · exact key _ cst sC hiC (by unfold refA; rw [if_neg h1, if_neg h2, if_neg h3, if_neg h4, if_neg h9', if_neg h8', if_neg hg, if_neg h7, if_pos ⟨.inr ⟨rfl, h5⟩, h6⟩]) eHC hdC gC
        exact key _ cst sC hiC (by unfold refA; rw [if_neg h1, if_neg h2, if_neg h3, if_neg h4, if_neg h9', if_neg h8', if_neg hg, if_neg h7, if_neg (fun q : _ ∧ _ => by rw [h6] at q; cases q.2)]) eHC hdC gC
      · have h5 : argI f.st 1 = 0 := of_decide_eq_true h5
        repeat (first | (refine CondX.tt ?_; conv => whnf) | (refine CondX.ff ?_; conv => whnf))
        exact key _ cst sC hiC (by unfold refA; rw [if_neg h1, if_neg h2, if_neg h3, if_neg h4, if_neg h9', if_neg h8', if_neg hg, if_neg h7, if_neg (by omega)]) eHC hdC gC
    refine DrawX.go T_ok hM Hval.func52 (tb := dr52) rfl (by kernel_rfl) ?_; conv => whnf
    repeat (first | (refine CondX.tt ?_; conv => whnf) | (refine CondX.ff ?_; conv => whnf) | (refine CondX.eqF (by assumption) ?_; conv => whnf))
    exact key _ cst sC hiC (by unfold refA; rw [if_neg h1, if_neg h2, if_neg h3, if_neg h4, if_neg h9', if_neg h8', if_neg hg, if_neg h7, if_neg (by omega)]) eHC hdC gC
end
end Go.Proofs.YgvalwGreat.X
