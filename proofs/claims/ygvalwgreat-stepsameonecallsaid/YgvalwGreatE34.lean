import Derived.Test.YgvalwGreatE33
import Derived.Test.YgvalwGreatG26
set_option linter.unusedVariables false
set_option linter.unusedSimpArgs false
namespace Go.Proofs.YgvalwGreat.X
open Go

/-- THE ENGINE'S VAULT. -/
structure EA where
  addr : List Int
  nonce : Int
  bal : Int
  cs : Sl
  code : List Int
  warm : Bool
  made : Bool
  gone : Bool
def aCells (x : EA) : List Value := bcells x.addr ++ (.int .u64 x.nonce :: (wc x.bal ++ [sl x.cs, .bool x.warm, .bool x.made, .bool x.gone]))
structure ESl where
  acct : Nat
  key : Int
  val : Int
  orig : Int
  warm : Bool
def slCells (x : ESl) : List Value := .int .i32 x.acct :: (wc x.key ++ (wc x.val ++ (wc x.orig ++ [.bool x.warm])))
structure ET where
  acct : Nat
  key : Int
  val : Int
def tpCells (x : ET) : List Value := .int .i32 x.acct :: (wc x.key ++ wc x.val)
structure EJ where
  kind : Nat
  at_ : Nat
  n : Int
  w : Int
  bs : Sl
  b : List Int
  flag : Bool
def jCells (x : EJ) : List Value := .int .u8 x.kind :: .int .i32 x.at_ :: .int .u64 x.n :: (wc x.w ++ [sl x.bs, .bool x.flag])
structure VS where
  aS : Sl
  aL : List EA
  sS : Sl
  sL : List ESl
  atab : Nat → Int
  stab : Nat → Int
  jS : Sl
  jL : List EJ
  mks : Nat → Int
  nm : Int
  ref : Int
  lS : Sl
  lL : List (List Value)
  tS : Sl
  tL : List ET
  ttS : Sl
  ttab : Nat → Int
def vC (v : VS) (k : Nat) : Value :=
  if k = 0 then sl v.aS else if k = 1 then sl v.sS else if k < 4098 then .int .i32 (v.atab (k - 2)) else if k < 8194 then .int .i32 (v.stab (k - 4098))
  else if k = 8194 then sl v.jS else if k < 24579 then .int .i32 (v.mks (k - 8195)) else if k = 24579 then .int .i32 v.nm else if k = 24580 then .int .u64 v.ref
  else if k = 24581 then sl v.lS else if k = 24582 then sl v.tS else sl v.ttS
/-- The chain's block: the machine's cells, the vault's, the tree's. -/
def eC (mc : Nat → Value) (v : VS) (k : Nat) : Value := if k < 2435 then mc k else if k < 27019 then vC v (k - 2435) else mc k
def updN {α : Type} (f : Nat → α) (i : Nat) (x : α) : Nat → α := fun k => if k = i then x else f k
theorem updN_same {α : Type} (f : Nat → α) (i : Nat) (x : α) : updN f i x i = x := if_pos rfl
theorem updN_ne {α : Type} {f : Nat → α} {i k : Nat} {x : α} (h : k ≠ i) : updN f i x k = f k := if_neg h
section
variable (mc : Nat → Value) (v : VS)
theorem eC_m {k : Nat} (h : k < 2435) : eC mc v k = mc k := if_pos h
theorem eC_a : eC mc v 2435 = sl v.aS := rfl
theorem eC_s : eC mc v 2436 = sl v.sS := rfl
theorem eC_j : eC mc v 10629 = sl v.jS := rfl
theorem eC_nm : eC mc v 27014 = .int .i32 v.nm := rfl
theorem eC_ref : eC mc v 27015 = .int .u64 v.ref := rfl
theorem eC_l : eC mc v 27016 = sl v.lS := rfl
theorem eC_t : eC mc v 27017 = sl v.tS := rfl
theorem eC_tt : eC mc v 27018 = sl v.ttS := rfl
theorem eC_at {p : Nat} (h : p < 4096) : eC mc v (2437 + p) = .int .i32 (v.atab p) := by
  unfold eC vC
  rw [if_neg (by omega), if_pos (by omega), if_neg (by omega), if_neg (by omega), if_pos (by omega), show 2437 + p - 2435 - 2 = p by omega]
theorem eC_st {p : Nat} (h : p < 4096) : eC mc v (6533 + p) = .int .i32 (v.stab p) := by
  unfold eC vC
  rw [if_neg (by omega), if_pos (by omega), if_neg (by omega), if_neg (by omega), if_neg (by omega), if_pos (by omega), show 6533 + p - 2435 - 4098 = p by omega]
theorem eC_mk {p : Nat} (h : p < 16384) : eC mc v (10630 + p) = .int .i32 (v.mks p) := by
  unfold eC vC
  rw [if_neg (by omega), if_pos (by omega), if_neg (by omega), if_neg (by omega), if_neg (by omega), if_neg (by omega), if_neg (by omega), if_pos (by omega), show 10630 + p - 2435 - 8195 = p by omega]
end
section
variable {mc : Nat → Value} {v : VS}
/-- A store into the vault's part of the block. -/
theorem eU_v {v' : VS} {o : Nat} {x : Value} (h0 : 2435 ≤ o) (h1 : o < 27019) (hx : vC v' (o - 2435) = x) (he : ∀ k, k < 24584 → k ≠ o - 2435 → vC v' k = vC v k) : updV (eC mc v) o x = eC mc v' := by
  funext k
  unfold updV eC
  by_cases h : k = o
  · subst h; rw [if_pos rfl, if_neg (by omega), if_pos h1, hx]
  · rw [if_neg h]
    by_cases h2 : k < 2435
    · rw [if_pos h2, if_pos h2]
    · rw [if_neg h2, if_neg h2]
      by_cases h3 : k < 27019
      · rw [if_pos h3, if_pos h3, he _ (by omega) (by omega)]
      · rw [if_neg h3, if_neg h3]
theorem eU_m {o : Nat} {x : Value} (h0 : o < 2435) : updV (eC mc v) o x = eC (updV mc o x) v := by
  funext k
  unfold updV eC
  dsimp only
  by_cases h : k = o
  · subst h; rw [if_pos rfl, if_pos h0, if_pos rfl]
  · rw [if_neg h, if_neg h]
theorem eU_a {x : Sl} : updV (eC mc v) 2435 (sl x) = eC mc { v with aS := x } := eU_v (by omega) (by omega) rfl fun k h hk => by
  unfold vC; rw [if_neg (show ¬ k = 0 by omega), if_neg (show ¬ k = 0 by omega)]
theorem eU_s {x : Sl} : updV (eC mc v) 2436 (sl x) = eC mc { v with sS := x } := eU_v (by omega) (by omega) rfl fun k h hk => by
  unfold vC; rw [if_neg (show ¬ k = 1 by omega), if_neg (show ¬ k = 1 by omega)]
theorem eU_j {x : Sl} : updV (eC mc v) 10629 (sl x) = eC mc { v with jS := x } := eU_v (by omega) (by omega) rfl fun k h hk => by
  unfold vC; rw [if_neg (show ¬ k = 8194 by omega), if_neg (show ¬ k = 8194 by omega)]
theorem eU_nm {x : Int} : updV (eC mc v) 27014 (.int .i32 x) = eC mc { v with nm := x } := eU_v (by omega) (by omega) rfl fun k h hk => by
  unfold vC; rw [if_neg (show ¬ k = 24579 by omega), if_neg (show ¬ k = 24579 by omega)]
theorem eU_ref {x : Int} : updV (eC mc v) 27015 (.int .u64 x) = eC mc { v with ref := x } := eU_v (by omega) (by omega) rfl fun k h hk => by
  unfold vC; rw [if_neg (show ¬ k = 24580 by omega), if_neg (show ¬ k = 24580 by omega)]
theorem eU_l {x : Sl} : updV (eC mc v) 27016 (sl x) = eC mc { v with lS := x } := eU_v (by omega) (by omega) rfl fun k h hk => by
  unfold vC; rw [if_neg (show ¬ k = 24581 by omega), if_neg (show ¬ k = 24581 by omega)]
theorem eU_t {x : Sl} : updV (eC mc v) 27017 (sl x) = eC mc { v with tS := x } := eU_v (by omega) (by omega) rfl fun k h hk => by
  unfold vC; rw [if_neg (show ¬ k = 24582 by omega), if_neg (show ¬ k = 24582 by omega)]
set_option maxRecDepth 100000 in
set_option maxHeartbeats 4000000 in
theorem eU_tt {x : Sl} : updV (eC mc v) 27018 (sl x) = eC mc { v with ttS := x } := eU_v (by omega) (by omega) rfl fun k h hk => by
  unfold vC
  by_cases h1 : k = 24582
  · subst h1; rfl
  · by_cases h2 : k = 24581
    · subst h2; rfl
    · by_cases h3 : k = 24580
      · subst h3; rfl
      · by_cases h4 : k = 24579
        · subst h4; rfl
        · have h5 : k < 24579 := by omega
          by_cases h6 : k = 8194
          · subst h6; rfl
          · rw [if_pos h5, if_pos h5]
set_option maxRecDepth 100000 in
set_option maxHeartbeats 4000000 in
theorem eU_at {p : Nat} {x : Int} (h : p < 4096) : updV (eC mc v) (2437 + p) (.int .i32 x) = eC mc { v with atab := updN v.atab p x } := by
  refine eU_v (by omega) (by omega) ?_ fun k h hk => ?_
  · unfold vC; rw [if_neg (by omega), if_neg (by omega), if_pos (by omega)]; show Value.int _ (updN v.atab p x (2437 + p - 2435 - 2)) = _
    rw [show 2437 + p - 2435 - 2 = p by omega, updN_same]
  · unfold vC
    by_cases h0 : k = 0
    · subst h0; rfl
    · by_cases h1 : k = 1
      · subst h1; rfl
      · rw [if_neg h0, if_neg h1, if_neg h0, if_neg h1]
        by_cases h2 : k < 4098
        · rw [if_pos h2, if_pos h2]; show Value.int _ (updN v.atab p x (k - 2)) = _; rw [updN_ne (by omega)]
        · rw [if_neg h2, if_neg h2]
set_option maxRecDepth 100000 in
set_option maxHeartbeats 4000000 in
theorem eU_st {p : Nat} {x : Int} (h : p < 4096) : updV (eC mc v) (6533 + p) (.int .i32 x) = eC mc { v with stab := updN v.stab p x } := by
  refine eU_v (by omega) (by omega) ?_ fun k h hk => ?_
  · unfold vC; rw [if_neg (by omega), if_neg (by omega), if_neg (by omega), if_pos (by omega)]; show Value.int _ (updN v.stab p x (6533 + p - 2435 - 4098)) = _
    rw [show 6533 + p - 2435 - 4098 = p by omega, updN_same]
  · unfold vC
    by_cases h2 : k < 8194
    · rw [if_pos h2, if_pos h2]; show (if _ then _ else if _ then _ else if _ then _ else Value.int _ (updN v.stab p x (k - 4098))) = _
      by_cases h3 : k < 4098
      · rw [if_pos h3, if_pos h3]
      · rw [updN_ne (by omega)]
    · rw [if_neg h2, if_neg h2]
set_option maxRecDepth 100000 in
set_option maxHeartbeats 4000000 in
theorem eU_mk {p : Nat} {x : Int} (h : p < 16384) : updV (eC mc v) (10630 + p) (.int .i32 x) = eC mc { v with mks := updN v.mks p x } := by
  refine eU_v (by omega) (by omega) ?_ fun k h hk => ?_
  · unfold vC; rw [if_neg (by omega), if_neg (by omega), if_neg (by omega), if_neg (by omega), if_neg (by omega), if_pos (by omega)]; show Value.int _ (updN v.mks p x (10630 + p - 2435 - 8195)) = _
    rw [show 10630 + p - 2435 - 8195 = p by omega, updN_same]
  · unfold vC
    by_cases h2 : k < 24579
    · rw [if_pos h2, if_pos h2]; show (if _ then _ else if _ then _ else if _ then _ else if _ then _ else if _ then _ else Value.int _ (updN v.mks p x (k - 8195))) = _
      by_cases h3 : k = 8194
      · subst h3; rfl
      · by_cases h4 : k < 8194
        · rw [if_pos h4, if_pos h4]
        · rw [updN_ne (by omega)]
    · rw [if_neg h2, if_neg h2]
end
/-- An array in the mutable part, by its type. -/
structure ArrT (hm : Hp) (e : TypeId) (s : Sl) (sz : Nat) (es : List (List Value)) : Prop where
  szs : ∀ x ∈ es, x.length = sz
  one : ∀ x ∈ es, ones x = true
  len : es.length = s.2.1
  blk : (s.1 = none ∧ s.2.2 = 0 ∧ es = []) ∨ ∃ m pad, s.1 = some ⟨m, 0, none⟩ ∧ hm m = some (es.flatten ++ pad, e) ∧ s.2.1 ≤ s.2.2 ∧ (s.2.2 - s.2.1) * sz ≤ pad.length
theorem ArrT.mut {hm : Hp} {e : TypeId} {s : Sl} {sz : Nat} {es} (a : ArrT hm e s sz es) : ArrM hm s sz es := by
  refine ⟨fun b x hb => (by cases hb), a.szs, a.one, a.len, ?_⟩
  rcases a.blk with h1 | ⟨m, pad, h1, h2, h3⟩
  · exact .inl h1
  · exact .inr ⟨m, pad, e, h1, rfl, h2, h3⟩
theorem ArrT.arr {hi hm : Hp} (hd : Dj hi hm) {e : TypeId} {s : Sl} {sz : Nat} {es} (a : ArrT hm e s sz es) : Arr (join hi hm) s sz es := a.mut.arr hd
/-- What a heap keeps: every block but those of this type. -/
def KpT (e : TypeId) (hm hm' : Hp) : Prop := ∀ b c t, t ≠ e → hm b = some (c, t) → hm' b = some (c, t)
theorem KpT.refl (e : TypeId) (h : Hp) : KpT e h h := fun _ _ _ _ hb => hb
theorem KpT.trans {e : TypeId} {h h' h'' : Hp} (a : KpT e h h') (b : KpT e h' h'') : KpT e h h'' := fun x c t ht hb => b x c t ht (a x c t ht hb)
theorem KpT.put {e : TypeId} {hm : Hp} {m : Nat} {c c' : List Value} (hm0 : hm m = some (c, e)) : KpT e hm (hput hm m (c', e)) := fun b x t ht hb => by
  rw [hput_ne]; exact hb
  rintro rfl; rw [hm0] at hb; cases hb; exact ht rfl
theorem ArrT.kp {hm hm' : Hp} {e e' : TypeId} (k : KpT e' hm hm') (hne : e ≠ e') {s : Sl} {sz : Nat} {es} (a : ArrT hm e s sz es) : ArrT hm' e s sz es := by
  refine ⟨a.szs, a.one, a.len, ?_⟩
  rcases a.blk with h1 | ⟨m, pad, h1, h2, h3⟩
  · exact .inl h1
  · exact .inr ⟨m, pad, h1, k _ _ _ hne h2, h3⟩
theorem AppendX.tag {hi hm : Hp} {e : TypeId} {bytes sz : Nat} {z : List Value} {s : Sl} {es : List (List Value)} {nw : Option (List Value)} {new : List Value} {K : Value → Hp → Prop} (hd : Dj hi hm) (a : ArrT hm e s sz es) (hnw : nw = some new) (hsz : new.length = sz) (hz : z.length = sz) (ho : ones new = true)
    (hby : 0 < bytes) (hroom : (s.2.1 + 1) * bytes ≤ 2 ^ 47)
    (hk : ∀ s' hm', Dj hi hm' → ArrT hm' e s' sz (es ++ [new]) → KpT e hm hm' → K (sl s') (join hi hm')) :
    AppendX (join hi hm) e sz bytes z s.1 s.2.1 s.2.2 nw 1 K := by
  have hl := flat_len a.szs
  have hlen := a.len
  have szs' : ∀ x ∈ es ++ [new], x.length = sz := fun x hx => by
    rcases List.mem_append.1 hx with h1 | h1
    · exact a.szs x h1
    · rw [List.mem_singleton.1 h1]; exact hsz
  have one' : ∀ x ∈ es ++ [new], ones x = true := fun x hx => by
    rcases List.mem_append.1 hx with h1 | h1
    · exact a.one x h1
    · rw [List.mem_singleton.1 h1]; exact ho
  refine ⟨hby, es.flatten, new, (a.arr hd).rd, hnw, hroom, ?_, ?_⟩
  · intro hle
    rcases a.blk with ⟨h1, h2, h3⟩ | ⟨m, pad, h1, h3, h4, h5⟩
    · omega
    · rw [h1]
      have hpl : sz ≤ pad.length := by
        refine Nat.le_trans ?_ h5
        have : 1 * sz ≤ (s.2.2 - s.2.1) * sz := Nat.mul_le_mul_right sz (by omega)
        omega
      refine ⟨_, e, join_hm hd h3, ?_, ho, ?_⟩
      · rw [Nat.succ_mul, ← hlen]; simp only [List.length_append, hl]; omega
      · have e1 : setSeg (es.flatten ++ pad) (0 + s.2.1 * sz) new = (es ++ [new]).flatten ++ pad.drop sz := by
          rw [Nat.zero_add, ← hlen, ← hl]
          simp only [setSeg, List.take_left, List.flatten_append, List.flatten_cons, List.flatten_nil, List.append_nil]
          rw [List.drop_append, hsz]
          simp
        rw [e1, join_putm (hd.lft h3), ← h1]
        refine hk (s.1, s.2.1 + 1, s.2.2) _ (hd.put h3) ⟨szs', one', by simp [hlen], .inr ⟨m, pad.drop sz, h1, hput_same .., hle, ?_⟩⟩ (KpT.put h3)
        simp only [List.length_drop]
        obtain ⟨d, hd⟩ : ∃ d, s.2.2 - s.2.1 = d + 1 := ⟨s.2.2 - s.2.1 - 1, by omega⟩
        have : s.2.2 - (s.2.1 + 1) = d := by omega
        rw [hd, Nat.succ_mul] at h5
        rw [this]; omega
  · intro hlt nc hnc m hmb
    obtain ⟨hin, hmn⟩ := join_none (hmb.none (Nat.le_refl _))
    rw [join_putm hin]
    refine hk (some ⟨m, 0, none⟩, s.2.1 + 1, nc) _ (hd.newm hin) ⟨szs', one', by simp [hlen], .inr ⟨m, zeros z (nc - (s.2.1 + 1)), rfl, ?_, hnc, ?_⟩⟩ fun b c t ht hb => ?_
    · rw [hput_same]; simp
    · rw [zeros_len, hz]; exact Nat.le_refl _
    · rw [hput_ne]; exact hb
      rintro rfl; rw [hmn] at hb; cases hb
end Go.Proofs.YgvalwGreat.X
