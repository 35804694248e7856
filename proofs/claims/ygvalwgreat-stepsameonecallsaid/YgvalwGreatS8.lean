import Derived.Test.YgvalwGreatS7
set_option linter.unusedVariables false
set_option linter.unusedSimpArgs false
namespace Go.Proofs.YgvalwGreat.X
open Go

def envT (i : Nat) : Value := stEnv.getD i (.bool false)
theorem BoxX.conv {h : Hp} {t : TypeId} {vs vs' : List Value} {KK : Nat → Hp → Prop} (e : vs = vs') (hk : BoxX h t vs' KK) : BoxX h t vs KK := e ▸ hk
theorem StoreX.idC {h : Hp} {b o n : Nat} {g : Nat → Value} {t : TypeId} {x : Value} {KK : Hp → Prop} (k : Nat) (hb : h b = some (fnv n g, t)) (ho : o = k) (hk : k < n) (hv : g k = x) (hK : KK h) : StoreX h b o [x] KK := by
  subst ho
  refine StoreX.at hb (by rw [fnv_len]; simp; omega) ?_
  have e : setSeg (fnv n g) o [x] = fnv n g := by
    rw [fnv_set hk]
    refine fnv_ext fun i hi => ?_
    unfold updV
    by_cases h1 : i = o
    · rw [if_pos h1, h1, hv]
    · rw [if_neg h1]
  rw [e, hput_id hb]; exact hK
def mT (eb : Nat) : Nat → Value := mC eb (m00 (-1) envT fun _ => .bool false)
section
variable {h hi hm : Hp} {K : Value → Hp → Prop} {eb : Nat}
set_option maxRecDepth 100000 in
set_option maxHeartbeats 4000000 in
theorem mnew_ok (hk : ∀ n h', Ext h h' → h' n = some (fnv 2435 (mT eb), 84) → K (.pointer (some ⟨n, 0, none⟩)) h') : CallX Hval.prog 63 [.pointer (some ⟨eb, 2435, none⟩), .agg stEnv.toArray] h K := by
  refine CallX.of_xf T_ok Hval.func63 rfl (by kernel_rfl) (Nat.le_of_ble_eq_true rfl) ?_; conv => whnf
  refine BoxX.ext fun m3 hm3 em3 => ?_; conv => whnf
  refine LoadX.all (c := stEnv) (hput_same ..) rfl ?_; conv => whnf
  refine BoxX.conv (vs' := fnv 2435 (mT eb)) (by kernel_rfl) ?_
  have b3 : hput h m3 (stEnv.toArray.toList, 36) m3 = some (stEnv, 36) := hput_same ..
  generalize hput h m3 (stEnv.toArray.toList, 36) = h1 at *
  refine BoxX.ext fun n5 hn5 en5 => ?_; conv => whnf
  have b5 : hput h1 n5 (fnv 2435 (mT eb), 84) n5 = some (fnv 2435 (mT eb), 84) := hput_same ..
  have b3 := en5 _ _ b3
  have eA := em3.trans en5
  generalize hput h1 n5 (fnv 2435 (mT eb), 84) = h2 at *
  refine StoreX.idC 2379 b5 rfl (by omega) rfl ?_; conv => whnf
  refine LoadX.blk b3 (sl nilS) rfl ?_; conv => whnf
  repeat (first | (refine CondX.tt ?_; conv => whnf) | (refine CondX.ff ?_; conv => whnf))
  exact RetX.same (hk n5 h2 eA b5)
theorem accF_code0 (ws : List WA) : ∀ f : List Int → AA, (∀ a, (f a).code.length ≤ 256) → (∀ x ∈ ws, x.code.length ≤ 256) → ∀ a, (ws.foldl (fun f x => updA f x.a ⟨x.n, bv x.b, x.code, fun _ => 0⟩) f a).code.length ≤ 256 := by
  induction ws with
  | nil => exact fun f hf _ => hf
  | cons x ws ih =>
    intro f hf hx
    refine ih _ (fun a => ?_) fun y hy => hx y (List.mem_cons_of_mem _ hy)
    show (updA f x.a ⟨x.n, bv x.b, x.code, fun _ => 0⟩ a).code.length ≤ 256
    unfold updA
    split
    · exact hx x List.mem_cons_self
    · exact hf a
theorem stgW_code {cs : List (Sl × List Int)} (h256 : ∀ p ∈ cs, p.2.length ≤ 256) (a : List Int) : (accF (stgW cs) a).code.length ≤ 256 := by
  refine accF_code0 _ _ (fun _ => Nat.zero_le _) (fun x hx => ?_) a
  unfold stgW at hx
  rcases List.mem_append.1 hx with h1 | h1
  · obtain ⟨j, hj, rfl⟩ := List.mem_mapIdx.1 h1
    exact h256 _ (List.getElem_mem hj)
  · rw [List.mem_singleton.1 h1]; exact Nat.zero_le _
theorem stgW_snd {cs : List (Sl × List Int)} : accF (stgW cs) sndA = ⟨0, bv b128, [], fun _ => 0⟩ := by
  unfold stgW
  rw [accF_snoc]
  unfold updA
  rw [if_pos (show sndA = sndW.a from rfl)]
  rfl
theorem ones_mT : ones (fnv 2435 (mT eb)) = true := by kernel_rfl
theorem envT_get {k : Nat} (hk : k < 120) : stEnv[k]? = some (envT k) := by
  unfold envT
  rw [List.getD_eq_getElem?_getD, List.getElem?_eq_getElem (by rw [stEnv_len]; exact hk)]; rfl
theorem mT_upd {v : VS} : updL (eC mc00 v) 0 2435 (mT eb) = eC (mC eb (m00 (-1) envT mc00)) v := by
  funext k
  unfold updL eC
  by_cases h1 : k < 2435
  · rw [if_pos ⟨Nat.zero_le _, by omega⟩, if_pos h1, Nat.sub_zero]
    unfold mT mC
    by_cases h2 : k = 0
    · rw [if_pos h2, if_pos h2]
    rw [if_neg h2, if_neg h2]
    repeat (split; rfl)
    rw [if_pos h1, if_pos h1]
    rfl
  · rw [if_neg (by omega), if_neg h1, if_neg h1]
    by_cases h2 : k < 27019
    · rw [if_pos h2, if_pos h2]
    · rw [if_neg h2, if_neg h2]
      unfold mC
      iterate 20 rw [if_neg (by omega)]
      rfl
set_option maxRecDepth 100000 in
set_option maxHeartbeats 4000000 in
theorem enew_ok {s : Sl} {cs : List (Sl × List Int)} (Wd : WldOK h s (stgW cs)) (h6 : cs.length ≤ 6) (h256 : ∀ p ∈ cs, p.2.length ≤ 256)
    (hk : ∀ hi' hm' eb m v, Ext h hi' → EI hi' hm' hNil eb m (wldA (stgW cs)) v → K (.tuple #[.pointer (some ⟨eb, 0, none⟩), .bool true]) (join hi' hm')) : CallX Hval.prog 22 [sl s, .agg stEnv.toArray] h K := by
  rw [← join_hNil h]
  refine CallX.of_xf T_ok Hval.func22 rfl (by kernel_rfl) (Nat.le_of_ble_eq_true rfl) ?_; conv => whnf
  refine BoxX.j (Dj_hNil h) fun m3 q1 q2 d3 e3 => ?_; conv => whnf
  have b3 : hput h m3 (stEnv.toArray.toList, 36) m3 = some (stEnv, 36) := hput_same ..
  have Wd := Wd.ext e3
  generalize hput h m3 (stEnv.toArray.toList, 36) = h1 at *
  refine LoadX.all (join_l b3) rfl ?_; conv => whnf
  refine envOK_ok ?_; conv => whnf
  repeat (first | (refine CondX.tt ?_; conv => whnf) | (refine CondX.ff ?_; conv => whnf))
  refine BoxX.conv z101_fnv ?_
  refine BoxX.jm d3 fun eb q3 q4 d4 => ?_; conv => whnf
  refine fill_ok (mc := mc00) d4 (hput_same ..) Wd h6 h256 fun h2 hm2 v e2 F => ?_; conv => whnf
  repeat (first | (refine CondX.tt ?_; conv => whnf) | (refine CondX.ff ?_; conv => whnf))
  have b3 := e2 _ _ b3
  refine DrawX.go T_ok hM Hval.func22 (tb := dr22) rfl (by kernel_rfl) ?_; conv => whnf
  refine LoadX.all (join_l b3) rfl ?_; conv => whnf
  refine CallX.fj F.V.dj (mnew_ok (eb := eb) fun n5 h3 e5 b5 d5 => ?_); conv => whnf
  have F := F.ext e5 d5
  have b3 := e5 _ _ b3
  repeat (refine Ob.mk (by exact ldV_all (join_l b3) rfl) ?_; conv => whnf)
  refine LoadX.all (join_l b5) (by rw [fnv_len]; rfl) ?_; conv => whnf
  repeat (refine Ob.mk (by first | exact ldV_all (join_l b3) rfl | exact ldV_all (join_l b5) (by rw [fnv_len]) | exact ⟨by rw [List.size_toArray, fnv_len]; rfl, ones_mT⟩) ?_; conv => whnf)
  refine StoreX.jfL F.V.dj F.V.blk rfl 0 rfl (by omega) fun d6 => ?_
  rw [mT_upd] at d6 ⊢; conv => whnf
  have hsnd := stgW_snd (cs := cs)
  have hH : Hist v.core [] := ⟨F.nm, fun i x hx => (by simp at hx), fun i j hij hj => (by simp at hj), by rw [show v.core.jL = [] from F.jL]; exact Nat.zero_le _⟩
  refine RetX.same (hk h3 _ eb (m00 (-1) envT mc00) v ((e3.trans e2).trans e5) ⟨⟨F.V.setM _, F.abs, hH, fun x hx => ?_⟩, Dj_hNil _, rfl, rfl, rfl, rfl, rfl, ⟨rfl, fun d hd => (by cases hd), .inl ⟨rfl, rfl, rfl⟩⟩, fun k hk => envT_get hk, fun i => ⟨Int.le_refl 0, W_pos⟩, ⟨?_, ?_, ?_, ?_, F.nm⟩, congrArg AA.nonce hsnd, congrArg AA.code hsnd, Nat.le_trans (stgW_code h256 _) (by decide)⟩)
  · rw [F.sL] at hx; cases hx
  · have := F.len; omega
  · rw [F.sL]; rfl
  · rw [F.tL]; rfl
  · rw [F.jL]; rfl
end
end Go.Proofs.YgvalwGreat.X
