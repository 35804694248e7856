import Derived.Test.YgvalwGreatE40
set_option linter.unusedVariables false
set_option linter.unusedSimpArgs false
namespace Go.Proofs.YgvalwGreat.X
open Go

section
variable {hi hi' hm hm' : Hp} {K : Value → Hp → Prop} {mc : Nat → Value} {v : VS} {eb : Nat}
theorem StoreX.jf {b n o : Nat} {g : Nat → Value} {t : TypeId} {x : Value} {KK : Hp → Prop} (hd : Dj hi hm) (hb : hm b = some (fnv n g, t)) (k : Nat) (ho : o = k) (hk : k < n) (hK : Dj hi (hput hm b (fnv n (updV g k x), t)) → KK (join hi (hput hm b (fnv n (updV g k x), t)))) : StoreX (join hi hm) b o [x] KK := by
  subst ho
  refine StoreX.jm hd hb (by rw [fnv_len]; exact hk) ?_
  rw [fnv_set hk]; exact hK (hd.put hb)
theorem Dj.le (hd : Dj hi' hm) (he : Ext hi hi') : Dj hi hm := fun b => by
  rcases hd b with h1 | h1
  · refine .inl ?_
    cases hx : hi b with
    | none => rfl
    | some x => rw [he _ _ hx] at h1; cases h1
  · exact .inr h1
/-- A change of the accounts. -/
theorem VOK.setA (V : VOK hi hm eb mc v) (he : Ext hi hi') (hd : Dj hi' hm') (k : KpT 230 hm hm') {s' : Sl} {aL' : List EA} {tab' : Nat → Int} (aT : ArrT hm' 230 s' 29 (aL'.map aCells))
    (atab : TabOK 4096 tab' aL'.length (fun i => homeA (aL'.getD i dA).addr)) (ac : ∀ x ∈ aL', BytS hi' x.cs x.code) (cok : COK { v.core with aL := aL' }) :
    VOK hi' (hput hm' eb (fnv 27024 (eC mc { v with aS := s', aL := aL', atab := tab' }), 101)) eb mc { v with aS := s', aL := aL', atab := tab' } := by
  have hb : hm' eb = some (fnv 27024 (eC mc v), 101) := k _ _ _ (by decide) V.blk
  have kp : KpT 101 hm' (hput hm' eb (fnv 27024 (eC mc { v with aS := s', aL := aL', atab := tab' }), 101)) := KpT.put hb
  refine ⟨hd.put hb, hput_same .., aT.kp kp (by decide), (V.sT.kp k (by decide)).kp kp (by decide), (V.jT.kp k (by decide)).kp kp (by decide), (V.lT.kp k (by decide)).kp kp (by decide), (V.tT.kp k (by decide)).kp kp (by decide), ?_, atab, V.stab, ac, fun x hx => (V.jc x hx).ext he, cok⟩
  rcases V.ttT with h1 | ⟨m, h1, h2, h3⟩
  · exact .inl h1
  · exact .inr ⟨m, h1, kp _ _ _ (by decide) (k _ _ _ (by decide) h2), h3⟩
def zA (a : List Int) : EA := ⟨a, 0, 0, nilS, [], false, false, false⟩
/-- The account's place, laid where it is wanting. -/
def cAcct (c : VCore) (a : List Int) : VCore := match idxA c.aL a with
  | some _ => c
  | none => { c with aL := c.aL ++ [zA a] }
def atA (c : VCore) (a : List Int) : Nat := match idxA c.aL a with
  | some i => i
  | none => c.aL.length
theorem getDa {α : Type} {l : List α} {x d : α} {i : Nat} (h : i < l.length) : (l ++ [x]).getD i d = l.getD i d := by
  rw [List.getD_eq_getElem?_getD, List.getD_eq_getElem?_getD, List.getElem?_append_left h]
theorem getDl {α : Type} {l : List α} {x d : α} : (l ++ [x]).getD l.length d = x := by
  rw [List.getD_eq_getElem?_getD, List.getElem?_append_right (Nat.le_refl _), Nat.sub_self]; rfl
theorem cok_acct {c : VCore} {a : List Int} (C : COK c) (hl : a.length = 20) (hB : isB a) (hroom : c.aL.length < 2560) (hn : idxA c.aL a = none) : COK { c with aL := c.aL ++ [zA a] } := by
  have hW := W_pos
  have hne : ∀ j, j < c.aL.length → (c.aL.getD j dA).addr ≠ a := fun j hj => of_decide_eq_false (idx_no (d := dA) hn j hj)
  refine ⟨by simp; omega, C.fewS, C.fewT, C.fewJ, C.fewL, fun x hx => ?_, fun x hx => ?_, fun x hx => ?_, fun x hx => ?_, fun i j hi hj he => ?_, C.sdis, C.tdis, C.ref, C.nm, C.mks⟩
  · rcases List.mem_append.1 hx with h1 | h1
    · exact C.awf x h1
    · rw [List.mem_singleton.1 h1]; exact ⟨⟨hl, hB⟩, ⟨by show (0 : Int) ≤ 0; omega, by show (0 : Int) < 18446744073709551616; omega⟩, ⟨by show (0 : Int) ≤ 0; omega, hW⟩⟩
  · have := C.swf x hx; exact ⟨by show x.acct < (c.aL ++ [zA a]).length; simp; omega, this.2⟩
  · have := C.twf x hx; exact ⟨by show x.acct < (c.aL ++ [zA a]).length; simp; omega, this.2⟩
  · obtain ⟨⟨h1, h2, h3, h4, h5⟩, h6⟩ := C.jwf x hx
    exact ⟨⟨h1, h2, fun h => by have := h3 h; show x.at_ < (c.aL ++ [zA a]).length; simp; omega, h4, h5⟩, h6⟩
  · dsimp only at hi hj he
    rw [List.length_append, List.length_singleton] at hi hj
    by_cases h1 : i = c.aL.length
    · by_cases h2 : j = c.aL.length
      · omega
      · rw [h1, getDl, getDa (show j < c.aL.length by omega)] at he
        exact absurd he.symm (hne j (by omega))
    · by_cases h2 : j = c.aL.length
      · rw [h2, getDl, getDa (show i < c.aL.length by omega)] at he
        exact absurd he (hne i (by omega))
      · rw [getDa (by omega), getDa (by omega)] at he
        exact C.adis i j (by omega) (by omega) he
theorem aCells_len {x : EA} (h : x.addr.length = 20) : (aCells x).length = 29 := by unfold aCells; simp [bcells_len, h, wc_len]
theorem aCells_one (x : EA) : ones (aCells x) = true := by
  unfold aCells
  exact ones_append (ones_bcells _) rfl
def fokB : Value → Bool
  | .int .. => true
  | .bool _ => true
  | .pointer _ => true
  | .slice .. => true
  | _ => false
theorem fok_of {v : Value} (h : fokB v = true) : fok v := fun K hK => by
  cases v <;> first | exact hK | cases h
theorem fok_all {l : List Value} (h : l.all fokB = true) : ∀ v ∈ l, fok v := fun v hv => fok_of (List.all_eq_true.1 h v hv)
theorem ldV_all {h : Hp} {b n : Nat} {c : List Value} {t : TypeId} (hb : h b = some (c, t)) (hn : c.length = n) : ldV true n h b 0 = some (.agg c.toArray) := by
  simp only [ldV, hb]
  rw [if_pos (by omega)]
  unfold seg
  rw [List.drop_zero, List.take_of_length_le (by omega)]

set_option maxRecDepth 100000 in
set_option maxHeartbeats 4000000 in
theorem acct_ok {a : List Int} (hl : a.length = 20) (hB : isB a) (V : VOK hi hm eb mc v) (hroom : v.aL.length < 2560)
    (hk : ∀ hm' v', VOK hi hm' eb mc v' → v'.core = cAcct v.core a → K (.tuple #[.int .i32 (atA v.core a), .bool true]) (join hi hm')) :
    CallX Hval.prog 138 [.pointer (some ⟨eb, 2435, none⟩), .agg (bcells a).toArray] (join hi hm) K := by
  refine CallX.of_xf T_ok Hval.func138 rfl (by kernel_rfl) (Nat.le_of_ble_eq_true rfl) ?_; conv => whnf
  refine BoxX.j V.dj fun n1 hin hmn hd1 he1 => ?_; conv => whnf
  have hbx : join (hput hi n1 ((bcells a).toArray.toList, 31)) hm n1 = some (bcells a, 31) := join_l (hput_same ..)
  refine LoadX.all hbx (by rw [bcells_len, hl]; rfl) ?_; conv => whnf
  have hE := Ext.j2 he1 hd1 (Ext.refl hm)
  refine findA hl hB hE V (fun i hii h1 => ?_) (fun h1 p hp hg => ?_) <;> conv => whnf
  · refine CondX.dT (by omega) ?_; conv => whnf
    refine RetX.drop (h' := join hi hm) hE ?_
    have hk := hk hm v V
    unfold cAcct atA at hk
    rw [show idxA v.core.aL a = some i from h1] at hk
    exact hk rfl
  · refine CondX.dF (by omega) ?_; conv => whnf
    have hlen := V.aT.len
    rw [List.length_map] at hlen
    have hb1 : join (hput hi n1 ((bcells a).toArray.toList, 31)) hm eb = some (fnv 27024 (eC mc v), 101) := join_hm hd1 V.blk
    refine CondX.dF (by omega) ?_; conv => whnf
    repeat (first | (refine CondX.tt ?_; conv => whnf) | (refine CondX.ff ?_; conv => whnf))
    refine LoadX.fn hb1 2435 rfl (by omega) ?_
    rw [eC_a]; conv => whnf
    repeat (first | (refine CondX.tt ?_; conv => whnf) | (refine CondX.ff ?_; conv => whnf))
    refine CondX.dF (by omega) ?_; conv => whnf
    repeat (first | (refine CondX.tt ?_; conv => whnf) | (refine CondX.ff ?_; conv => whnf))
    refine LoadX.fn hb1 2435 rfl (by omega) ?_
    rw [eC_a]; conv => whnf
    have e32 : IntKind.i32.wrap (v.aS.2.1 : Int) = v.aL.length := by rw [wrap_i32 (by omega) (by omega)]; omega
    rw [e32]
    refine DrawX.go T_ok hM Hval.func138 (tb := dr138) rfl (by kernel_rfl) ?_; conv => whnf
    refine LoadX.fn hb1 2435 rfl (by omega) ?_
    rw [eC_a]; conv => whnf
    refine LoadX.all hbx (by rw [bcells_len, hl]; rfl) ?_; conv => whnf
    have alen : (bcells a).length = 20 := by rw [bcells_len, hl]
    have nlen : (aCells (zA a)).length = 29 := aCells_len hl
    erw [fillL_head (n := 20) rfl alen (by decide), fillL_done]
    refine forceL_of (l := aCells (zA a)) (fok_app fok_bcells (fok_all rfl)) ?_; conv => whnf
    erw [fillL_box (v := aCells (zA a)) nlen rfl]; conv => whnf
    refine Ob.mk (by first | decide | omega) ?_; conv => whnf
    refine BoxX.j hd1 fun m8 hin8 hmn8 hd8 he8 => ?_; conv => whnf
    have hb8 : join (hput (hput hi n1 ((bcells a).toArray.toList, 31)) m8 (aCells (zA a), 230)) hm eb = some (fnv 27024 (eC mc v), 101) := join_hm hd8 V.blk
    have hbx8 : join (hput (hput hi n1 ((bcells a).toArray.toList, 31)) m8 (aCells (zA a), 230)) hm n1 = some (bcells a, 31) := (Ext.j2 he8 hd8 (Ext.refl hm)) _ _ hbx
    refine Ob.mk (ldV_fn hb8 2435 rfl (by omega)) ?_; conv => whnf
    refine AppendX.tag (new := aCells (zA a)) hd8 V.aT (rd_ext (Ext.jl _ _) (rd_own nlen)) nlen rfl (aCells_one _) (by decide) (Nat.le_trans (Nat.mul_le_mul_right _ (show v.aS.2.1 + 1 ≤ 2560 by omega)) (by decide)) fun s' hm' hd' aT' kp' => ?_; conv => whnf
    have hbm : hm' eb = some (fnv 27024 (eC mc v), 101) := kp' _ _ _ (by decide) V.blk
    refine StoreX.jf hd' hbm 2435 rfl (by omega) fun hd9 => ?_
    rw [show Value.slice s'.1 s'.2.1 s'.2.2 = sl s' from rfl, eU_a] at hd9 ⊢; conv => whnf
    refine Ob.mk ⟨by omega, by omega⟩ ?_; conv => whnf
    refine StoreX.jf hd9 (hput_same ..) (2437 + p) (by rw [Int.toNat_natCast, show (fd 2 87).offset = 2 from rfl, show (21, y21).snd.size = 1 from rfl]; omega) (by omega) fun hd10 => ?_
    rw [hput_hput, eU_at hp] at hd10 ⊢; conv => whnf
    have hEi : Ext hi (hput (hput hi n1 ((bcells a).toArray.toList, 31)) m8 (aCells (zA a), 230)) := he1.trans he8
    have hd' := hd'.le hEi
    refine RetX.drop (h' := join hi (hput hm' eb (fnv 27024 (eC mc { v with aS := s', aL := v.aL ++ [zA a], atab := updN v.atab p v.aL.length }), 101))) (Ext.j2 hEi hd10 (Ext.refl _)) ?_
    have hc : cAcct v.core a = { v.core with aL := v.aL ++ [zA a] } := by unfold cAcct; rw [show idxA v.core.aL a = none from h1]; rfl
    have ha : atA v.core a = v.aL.length := by unfold atA; rw [show idxA v.core.aL a = none from h1]; rfl
    have V' := V.setA (Ext.refl hi) hd' kp' (s' := s') (aL' := v.aL ++ [zA a]) (tab' := updN v.atab p v.aL.length) (by rw [List.map_append]; exact aT') ?_ ?_ (cok_acct V.cok hl hB hroom h1)
    · have := hk _ _ V' (by rw [hc]; rfl)
      rw [ha] at this
      exact this
    · rw [List.length_append, List.length_singleton]
      refine V.atab.add (p := p) ?_ fun i hi => ?_
      · rw [getDl]; exact hg
      · rw [getDa hi]
    · intro x hx
      rcases List.mem_append.1 hx with h2 | h2
      · exact V.ac x h2
      · rw [List.mem_singleton.1 h2]; exact Byt_nil hi
end
end Go.Proofs.YgvalwGreat.X
