import Derived.Test.YgvalwGreatE45
set_option linter.unusedVariables false
set_option linter.unusedSimpArgs false
namespace Go.Proofs.YgvalwGreat.X
open Go

def nameA (c : VCore) (i : Nat) : List Int := (c.aL.getD i dA).addr
def balW (w : AW) (a : List Int) (x : Int) : AW := { w with acct := updA w.acct a { w.acct a with bal := x } }
def codeW (w : AW) (a : List Int) (x : List Int) : AW := { w with acct := updA w.acct a { w.acct a with code := x } }
def wrmW (w : AW) (a : List Int) (x : Bool) : AW := { w with warmA := fun b => if b = a then x else w.warmA b }
def mdW (w : AW) (a : List Int) (x : Bool) : AW := { w with made := fun b => if b = a then x else w.made b }
def gnW (w : AW) (a : List Int) (x : Bool) : AW := { w with gone := fun b => if b = a then x else w.gone b }
def wrmSW (w : AW) (a : List Int) (k : Int) (x : Bool) : AW := { w with warmS := fun b q => if b = a ∧ q = k then x else w.warmS b q }
/-- What undoing a journal entry does to the abstract world. -/
def eW (c : VCore) (e : EJ) (w : AW) : AW := match e.kind with
  | 0 => balW w (nameA c e.at_) e.w
  | 1 => nonceW w (nameA c e.at_) e.n
  | 2 => codeW w (nameA c e.at_) e.b
  | 3 => slotW w (nameA c (c.sL.getD e.at_ dS).acct) (c.sL.getD e.at_ dS).key e.w
  | 4 => wrmW w (nameA c e.at_) e.flag
  | 5 => wrmSW w (nameA c (c.sL.getD e.at_ dS).acct) (c.sL.getD e.at_ dS).key e.flag
  | 6 => { w with ref := e.n }
  | 7 => { w with nlogs := w.nlogs - 1 }
  | 8 => tempW w (nameA c (c.tL.getD e.at_ dT).acct) (c.tL.getD e.at_ dT).key e.w
  | 9 => mdW w (nameA c e.at_) e.flag
  | _ => gnW w (nameA c e.at_) e.flag
section
variable {c c' : VCore} {a b : List Int} {i j : Nat} {k : Int} {w : AW} {e : EJ} {sn : List AW}
theorem eW_nm (C : COK c) (n : Nm c c') (he : e.ok c) (w : AW) : eW c' e w = eW c e w := by
  obtain ⟨h0, h1, h2, h3, h4⟩ := he
  have hA : e.tgtA → nameA c' e.at_ = nameA c e.at_ := fun h => (n.a _ (h2 h)).2
  have hS : (e.kind = 3 ∨ e.kind = 5) → nameA c' (c'.sL.getD e.at_ dS).acct = nameA c (c.sL.getD e.at_ dS).acct ∧ (c'.sL.getD e.at_ dS).key = (c.sL.getD e.at_ dS).key := fun h => by
    have g := n.s _ (h3 h)
    rw [g.2.1]
    exact ⟨(n.a _ (C.swf _ (getDm (h3 h))).1).2, g.2.2⟩
  have hT : e.kind = 8 → nameA c' (c'.tL.getD e.at_ dT).acct = nameA c (c.tL.getD e.at_ dT).acct ∧ (c'.tL.getD e.at_ dT).key = (c.tL.getD e.at_ dT).key := fun h => by
    have g := n.t _ (h4 h)
    rw [g.2.1]
    exact ⟨(n.a _ (C.twf _ (getDm (h4 h))).1).2, g.2.2⟩
  unfold EJ.tgtA at hA
  have hc : e.kind = 0 ∨ e.kind = 1 ∨ e.kind = 2 ∨ e.kind = 3 ∨ e.kind = 4 ∨ e.kind = 5 ∨ e.kind = 6 ∨ e.kind = 7 ∨ e.kind = 8 ∨ e.kind = 9 ∨ e.kind = 10 := by omega
  rcases hc with h | h | h | h | h | h | h | h | h | h | h <;> simp only [eW, h]
  · rw [hA (by omega)]
  · rw [hA (by omega)]
  · rw [hA (by omega)]
  · rw [(hS (by omega)).1, (hS (by omega)).2]
  · rw [hA (by omega)]
  · rw [(hS (by omega)).1, (hS (by omega)).2]
  · rw [(hT (by omega)).1, (hT (by omega)).2]
  · rw [hA (by omega)]
  · rw [hA (by omega)]
/-- The world as it stood when the journal held n entries. -/
def back (c : VCore) (n : Nat) : AW := (c.jL.drop n).foldr (eW c) (absC c)
theorem foldr_eW (C : COK c) (n : Nm c c') (l : List EJ) (hl : ∀ e ∈ l, e.ok c) (w : AW) : l.foldr (eW c') w = l.foldr (eW c) w := by
  induction l with
  | nil => rfl
  | cons x l ih =>
    rw [List.foldr_cons, List.foldr_cons, ih fun e he => hl e (List.mem_cons_of_mem _ he), eW_nm C n (hl x (List.mem_cons_self ..))]
theorem back_push (C : COK c) (n : Nm c c') (hj : c'.jL = c.jL ++ [e]) (hb : eW c' e (absC c') = absC c) {m : Nat} (hm : m ≤ c.jL.length) : back c' m = back c m := by
  unfold back
  rw [hj, List.drop_append_of_le_length hm, List.foldr_append]
  show List.foldr (eW c') (eW c' e (absC c')) _ = _
  rw [hb]
  exact foldr_eW C n _ (fun e he => (C.jwf e (List.mem_of_mem_drop he)).1) _
theorem back_pop (C : COK c) (n : Nm c c') (hj : c.jL = c'.jL ++ [e]) (hb : absC c' = eW c e (absC c)) {m : Nat} (hm : m ≤ c'.jL.length) : back c' m = back c m := by
  unfold back
  rw [hj, List.drop_append_of_le_length hm, List.foldr_append]
  show _ = List.foldr (eW c) (eW c e (absC c)) _
  rw [hb]
  exact foldr_eW C n _ (fun e he => (C.jwf e (by rw [hj]; exact List.mem_append_left _ (List.mem_of_mem_drop he))).1) _
theorem back_same (C : COK c) (n : Nm c c') (hj : c'.jL = c.jL) (hb : absC c' = absC c) (m : Nat) : back c' m = back c m := by
  unfold back
  rw [hj, hb]
  exact foldr_eW C n _ (fun e he => (C.jwf e (List.mem_of_mem_drop he)).1) _
/-- The entries of logs. -/
def n7 (l : List EJ) : Nat := l.countP fun e => e.kind == 7
theorem n7_app (l : List EJ) (e : EJ) : n7 (l ++ [e]) = n7 l + if e.kind = 7 then 1 else 0 := by
  unfold n7
  rw [List.countP_append, List.countP_singleton]
  simp
/-- The snapshots and the worlds that they stand for. -/
structure Hist (c : VCore) (sn : List AW) : Prop where
  nm : c.nm = sn.length
  at_ : ∀ i x, sn[i]? = some x → ∃ n : Nat, c.mks i = n ∧ n ≤ c.jL.length ∧ back c n = x
  mono : ∀ i j, i ≤ j → j < sn.length → c.mks i ≤ c.mks j
  lg : n7 c.jL ≤ c.nl
theorem Hist.push (H : Hist c sn) (C : COK c) (n : Nm c c') (hj : c'.jL = c.jL ++ [e]) (hb : eW c' e (absC c') = absC c) (h1 : c'.nm = c.nm) (h2 : c'.mks = c.mks) (h7 : c'.nl = c.nl + if e.kind = 7 then 1 else 0) : Hist c' sn := by
  refine ⟨h1.trans H.nm, fun i x hx => ?_, by rw [h2]; exact H.mono, by rw [hj, n7_app, h7]; exact Nat.add_le_add_right H.lg _⟩
  obtain ⟨m, g1, g2, g3⟩ := H.at_ i x hx
  exact ⟨m, by rw [h2]; exact g1, by rw [hj]; simp; omega, by rw [back_push C n hj hb g2]; exact g3⟩
theorem Hist.same (H : Hist c sn) (C : COK c) (n : Nm c c') (hj : c'.jL = c.jL) (hb : absC c' = absC c) (h1 : c'.nm = c.nm) (h2 : c'.mks = c.mks) : Hist c' sn := by
  refine ⟨h1.trans H.nm, fun i x hx => ?_, by rw [h2]; exact H.mono, by rw [hj, show c'.nl = c.nl from congrArg AW.nlogs hb]; exact H.lg⟩
  obtain ⟨m, g1, g2, g3⟩ := H.at_ i x hx
  exact ⟨m, by rw [h2]; exact g1, by rw [hj]; exact g2, by rw [back_same C n hj hb]; exact g3⟩
theorem gA_at (C : COK c) (h : i < c.aL.length) : gA c (nameA c i) = c.aL.getD i dA := by
  unfold gA
  rw [show idxA c.aL (nameA c i) = some i from idxA_is C h rfl]
theorem gS_at (C : COK c) (h : j < c.sL.length) : gS c (nameA c (c.sL.getD j dS).acct) (c.sL.getD j dS).key = c.sL.getD j dS := by
  unfold gS
  rw [show idxA c.aL (nameA c (c.sL.getD j dS).acct) = some _ from idxA_is C (C.swf _ (getDm h)).1 rfl]
  dsimp only
  rw [idxS_is C h rfl rfl]
theorem gT_at (C : COK c) (h : j < c.tL.length) : gT c (nameA c (c.tL.getD j dT).acct) (c.tL.getD j dT).key = c.tL.getD j dT := by
  unfold gT
  rw [show idxA c.aL (nameA c (c.tL.getD j dT).acct) = some _ from idxA_is C (C.twf _ (getDm h)).1 rfl]
  dsimp only
  rw [idxT_is C h rfl rfl]
/-- Setting the fields one by one. -/
theorem acct_at (C : COK c) (h : i < c.aL.length) : (absC c).acct (nameA c i) = ⟨(c.aL.getD i dA).nonce, (c.aL.getD i dA).bal, (c.aL.getD i dA).code, ((absC c).acct (nameA c i)).slot⟩ := by
  show (⟨_, _, _, _⟩ : AA) = _
  rw [gA_at C h]; rfl
theorem ifself {α β : Type} [DecidableEq α] (f : α → β) (a : α) : (fun b => if b = a then f a else f b) = f := by
  funext b; split <;> rename_i h
  · rw [h]
  · rfl
theorem updA_self (f : List Int → AA) (a : List Int) : updA f a (f a) = f := by
  funext b; unfold updA; split <;> rename_i h
  · rw [h]
  · rfl
theorem updS_self (f : Int → Int) (a : Int) : updS f a (f a) = f := by
  funext b; unfold updS; split <;> rename_i h
  · rw [h]
  · rfl
theorem putW_eq (C : COK c) (h : i < c.aL.length) (x : EA) (w' : AW) (hw : w' = { absC c with acct := updA (absC c).acct (nameA c i) ⟨x.nonce, x.bal, x.code, ((absC c).acct (nameA c i)).slot⟩, warmA := fun b => if b = nameA c i then x.warm else (absC c).warmA b, made := fun b => if b = nameA c i then x.made else (absC c).made b, gone := fun b => if b = nameA c i then x.gone else (absC c).gone b }) : putW (absC c) (nameA c i) x = w' := by
  rw [hw]; rfl
section
theorem warm_at (C : COK c) (h : i < c.aL.length) : (absC c).warmA (nameA c i) = (c.aL.getD i dA).warm := by show (gA c (nameA c i)).warm = _; rw [gA_at C h]
theorem made_at (C : COK c) (h : i < c.aL.length) : (absC c).made (nameA c i) = (c.aL.getD i dA).made := by show (gA c (nameA c i)).made = _; rw [gA_at C h]
theorem gone_at (C : COK c) (h : i < c.aL.length) : (absC c).gone (nameA c i) = (c.aL.getD i dA).gone := by show (gA c (nameA c i)).gone = _; rw [gA_at C h]
theorem set_bal (C : COK c) (h : i < c.aL.length) (x : Int) (C' : COK { c with aL := c.aL.set i { c.aL.getD i dA with bal := x } }) : absC { c with aL := c.aL.set i { c.aL.getD i dA with bal := x } } = balW (absC c) (nameA c i) x := by
  rw [abs_setA C' h rfl]
  show putW (absC c) (nameA c i) _ = _
  unfold putW balW
  dsimp only
  rw [← warm_at C h, ← made_at C h, ← gone_at C h, ifself, ifself, ifself, acct_at C h]
theorem set_nonce (C : COK c) (h : i < c.aL.length) (x : Int) (C' : COK { c with aL := c.aL.set i { c.aL.getD i dA with nonce := x } }) : absC { c with aL := c.aL.set i { c.aL.getD i dA with nonce := x } } = nonceW (absC c) (nameA c i) x := by
  rw [abs_setA C' h rfl]
  show putW (absC c) (nameA c i) _ = _
  unfold putW nonceW
  dsimp only
  rw [← warm_at C h, ← made_at C h, ← gone_at C h, ifself, ifself, ifself, acct_at C h]
theorem set_code (C : COK c) (h : i < c.aL.length) (x : List Int) (s : Sl) (C' : COK { c with aL := c.aL.set i { c.aL.getD i dA with code := x, cs := s } }) : absC { c with aL := c.aL.set i { c.aL.getD i dA with code := x, cs := s } } = codeW (absC c) (nameA c i) x := by
  rw [abs_setA C' h rfl]
  show putW (absC c) (nameA c i) _ = _
  unfold putW codeW
  dsimp only
  rw [← warm_at C h, ← made_at C h, ← gone_at C h, ifself, ifself, ifself, acct_at C h]
theorem acct_self (C : COK c) (h : i < c.aL.length) : updA (absC c).acct (nameA c i) ⟨(c.aL.getD i dA).nonce, (c.aL.getD i dA).bal, (c.aL.getD i dA).code, ((absC c).acct (nameA c i)).slot⟩ = (absC c).acct := by
  rw [← acct_at C h, updA_self]
theorem set_warm (C : COK c) (h : i < c.aL.length) (x : Bool) (C' : COK { c with aL := c.aL.set i { c.aL.getD i dA with warm := x } }) : absC { c with aL := c.aL.set i { c.aL.getD i dA with warm := x } } = wrmW (absC c) (nameA c i) x := by
  rw [abs_setA C' h rfl]
  show putW (absC c) (nameA c i) _ = _
  unfold putW wrmW
  dsimp only
  rw [← made_at C h, ← gone_at C h, ifself, ifself, acct_self C h]
theorem set_made (C : COK c) (h : i < c.aL.length) (x : Bool) (C' : COK { c with aL := c.aL.set i { c.aL.getD i dA with made := x } }) : absC { c with aL := c.aL.set i { c.aL.getD i dA with made := x } } = mdW (absC c) (nameA c i) x := by
  rw [abs_setA C' h rfl]
  show putW (absC c) (nameA c i) _ = _
  unfold putW mdW
  dsimp only
  rw [← warm_at C h, ← gone_at C h, ifself, ifself, acct_self C h]
theorem set_gone (C : COK c) (h : i < c.aL.length) (x : Bool) (C' : COK { c with aL := c.aL.set i { c.aL.getD i dA with gone := x } }) : absC { c with aL := c.aL.set i { c.aL.getD i dA with gone := x } } = gnW (absC c) (nameA c i) x := by
  rw [abs_setA C' h rfl]
  show putW (absC c) (nameA c i) _ = _
  unfold putW gnW
  dsimp only
  rw [← warm_at C h, ← made_at C h, ifself, ifself, acct_self C h]
end
section
theorem slot_at (C : COK c) (h : i < c.sL.length) : ((absC c).acct (nameA c (c.sL.getD i dS).acct)).slot (c.sL.getD i dS).key = (c.sL.getD i dS).val := by show (gS c (nameA c (c.sL.getD i dS).acct) (c.sL.getD i dS).key).val = _; rw [gS_at C h]
theorem swarm_at (C : COK c) (h : i < c.sL.length) : (absC c).warmS (nameA c (c.sL.getD i dS).acct) (c.sL.getD i dS).key = (c.sL.getD i dS).warm := by show (gS c (nameA c (c.sL.getD i dS).acct) (c.sL.getD i dS).key).warm = _; rw [gS_at C h]
theorem set_val (C : COK c) (h : i < c.sL.length) (x : Int) (C' : COK { c with sL := c.sL.set i { c.sL.getD i dS with val := x } }) : absC { c with sL := c.sL.set i { c.sL.getD i dS with val := x } } = slotW (absC c) (nameA c (c.sL.getD i dS).acct) (c.sL.getD i dS).key x := by
  rw [abs_setS C C' h rfl rfl]
  show putSW (absC c) (nameA c (c.sL.getD i dS).acct) _ _ _ = _
  unfold putSW slotW
  dsimp only
  congr 1
  funext b q; split <;> rename_i hh
  · rw [hh.1, hh.2, swarm_at C h]
  · rfl
theorem set_swarm (C : COK c) (h : i < c.sL.length) (x : Bool) (C' : COK { c with sL := c.sL.set i { c.sL.getD i dS with warm := x } }) : absC { c with sL := c.sL.set i { c.sL.getD i dS with warm := x } } = wrmSW (absC c) (nameA c (c.sL.getD i dS).acct) (c.sL.getD i dS).key x := by
  rw [abs_setS C C' h rfl rfl]
  show putSW (absC c) (nameA c (c.sL.getD i dS).acct) _ _ _ = _
  unfold putSW wrmSW
  dsimp only
  rw [← slot_at C h, updS_self]
  congr 1
  exact updA_self _ _
end
theorem temp_at (C : COK c) (h : i < c.tL.length) : (absC c).temp (nameA c (c.tL.getD i dT).acct) (c.tL.getD i dT).key = (c.tL.getD i dT).val := by show (gT c (nameA c (c.tL.getD i dT).acct) (c.tL.getD i dT).key).val = _; rw [gT_at C h]
theorem set_tval (C : COK c) (h : i < c.tL.length) (x : Int) (C' : COK { c with tL := c.tL.set i { c.tL.getD i dT with val := x } }) : absC { c with tL := c.tL.set i { c.tL.getD i dT with val := x } } = tempW (absC c) (nameA c (c.tL.getD i dT).acct) (c.tL.getD i dT).key x := by
  rw [abs_setT C C' h rfl rfl]; rfl
/-- Undoing what was set. -/
theorem bal_back (w : AW) (a : List Int) (x : Int) : balW (balW w a x) a (w.acct a).bal = w := by
  unfold balW updA; dsimp only
  rw [if_pos rfl]
  congr 1
  funext b; split <;> rename_i hb
  · rw [hb]
  · rfl
theorem nonce_back (w : AW) (a : List Int) (x : Int) : nonceW (nonceW w a x) a (w.acct a).nonce = w := by
  unfold nonceW updA; dsimp only
  rw [if_pos rfl]
  congr 1
  funext b; split <;> rename_i hb
  · rw [hb]
  · rfl
theorem code_back (w : AW) (a : List Int) (x : List Int) : codeW (codeW w a x) a (w.acct a).code = w := by
  unfold codeW updA; dsimp only
  rw [if_pos rfl]
  congr 1
  funext b; split <;> rename_i hb
  · rw [hb]
  · rfl
theorem slot_back (w : AW) (a : List Int) (k x : Int) : slotW (slotW w a k x) a k ((w.acct a).slot k) = w := by
  unfold slotW updA updS; dsimp only
  rw [if_pos rfl]
  congr 1
  funext b; split <;> rename_i hb
  · rw [hb]
    congr 1
    funext q; split <;> rename_i hq
    · rw [hq]
    · show (if q = k then x else (w.acct a).slot q) = _
      rw [if_neg hq]
  · rfl
theorem temp_back (w : AW) (a : List Int) (k x : Int) : tempW (tempW w a k x) a k (w.temp a k) = w := by
  unfold tempW; dsimp only
  congr 1
  funext b q; split <;> rename_i hb
  · rw [hb.1, hb.2]
  · rfl
theorem wrm_back (w : AW) (a : List Int) (x : Bool) : wrmW (wrmW w a x) a (w.warmA a) = w := by
  unfold wrmW; dsimp only
  congr 1
  funext b; split <;> rename_i hb
  · rw [hb]
  · rfl
theorem md_back (w : AW) (a : List Int) (x : Bool) : mdW (mdW w a x) a (w.made a) = w := by
  unfold mdW; dsimp only
  congr 1
  funext b; split <;> rename_i hb
  · rw [hb]
  · rfl
theorem gn_back (w : AW) (a : List Int) (x : Bool) : gnW (gnW w a x) a (w.gone a) = w := by
  unfold gnW; dsimp only
  congr 1
  funext b; split <;> rename_i hb
  · rw [hb]
  · rfl
theorem wrmS_back (w : AW) (a : List Int) (k : Int) (x : Bool) : wrmSW (wrmSW w a k x) a k (w.warmS a k) = w := by
  unfold wrmSW; dsimp only
  congr 1
  funext b q; split <;> rename_i hb
  · rw [hb.1, hb.2]
  · rfl
theorem warmW_eq (w : AW) (a : List Int) : warmW w a = wrmW w a true := by
  unfold warmW wrmW
  congr 1
  funext b; split <;> rename_i hb
  · simp [hb]
  · simp [hb]
theorem warmSW_eq (w : AW) (a : List Int) (k : Int) : warmSW w a k = wrmSW w a k true := by
  unfold warmSW wrmSW
  congr 1
  funext b q; split <;> rename_i hb
  · simp [hb]
  · simp [hb]
end
end Go.Proofs.YgvalwGreat.X
