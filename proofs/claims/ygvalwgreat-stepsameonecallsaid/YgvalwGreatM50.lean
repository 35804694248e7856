import Derived.Test.YgvalwGreatM49
set_option linter.unusedVariables false
set_option linter.unusedSimpArgs false
namespace Go.Proofs.YgvalwGreat.X
open Go

section
variable {hi hi' hm hm' hb hb' hl h h1 : Hp} {K : Value → Hp → Prop} {KK : Hp → Prop} {v v' : VS} {eb : Nat} {m m' : MS} {t : Nat} {mems : Nat → List Int} {stale stale' mem' orig : List Int} {w w' : AW} {sn : List AW} {s0 l0 S S' x o : Int} {A : Nat → Nat} {a : AS} {f f' : MF} {nf nv k p : Nat} {y : Value}
theorem EnK.fix (hk : EnK hi eb m S a s0 l0 KK) (hf : fixM m m') : EnK hi eb m' S a s0 l0 KK := fun hi1 hm' hb' m2 w' sn' v' h1 h2 h3 h4 => hk hi1 hm' hb' m2 w' sn' v' h1 h2 (hf.trans h3) h4
theorem OpS.rt (P : OpS hi hm hb eb m t w sn v mems stale o A S S') (A' : VA hi hm' eb (mC eb { m with retS := nilS, ret := [] }) w sn v) (hd : Dj (join hi hm') hb) : OpS hi hm' hb eb { m with retS := nilS, ret := [] } t w sn v mems stale o A S S' :=
  ⟨P.X.rt A' hd, P.ho, P.hA, P.sp, P.room, P.pc, P.R, P.cost, P.fit, P.hS⟩
theorem OpS.exti (P : OpS hi hm hb eb m t w sn v mems stale o A S S') (he : Ext hi hi') (hd : Dj hi' hm) (hd2 : Dj (join hi' hm) hb) : OpS hi' hm hb eb m t w sn v mems stale o A S S' :=
  ⟨P.X.exti he hd hd2, P.ho, P.hA, P.sp, P.room, P.pc, P.R, P.cost, P.fit, P.hS⟩
def hNil : Hp := fun _ => none
theorem join_hNil (h : Hp) : join h hNil = h := by funext b; unfold join hNil; cases h b <;> rfl
theorem Dj_hNil (h : Hp) : Dj h hNil := fun _ => .inr rfl
theorem Dj.same {h1' : Hp} (hd : Dj h1 hl) (he : ∀ b, h1 b = none → h1' b = none) : Dj h1' hl := fun b => (hd b).imp (he b) id
theorem VA.sto5 {mc mc' : Nat → Value} {k o : Nat} {x : Value} (A : VA hi hm eb mc w sn v) (hd : Dj (join hi hm) hb) (hd4 : Dj (join (join hi hm) hb) hl) (hu : updV (eC mc v) k x = eC mc' v) (ho : o = k) (hk : k < 27024) (hK : ∀ hm', VA hi hm' eb mc' w sn v → Dj (join hi hm') hb → Dj (join (join hi hm') hb) hl → KK (join (join (join hi hm') hb) hl)) : StoreX (join (join (join hi hm) hb) hl) eb o [x] KK := by
  refine StoreX.fr (StoreX.fr (StoreX.jf A.V.dj A.V.blk k ho hk fun _ => ?_))
  rw [hu]
  refine hK _ (A.setM mc') (Dj.st hd A.V.blk) (hd4.same fun b hb0 => ?_)
  obtain ⟨h1, h2⟩ := join_none hb0
  obtain ⟨h3, h4⟩ := join_none h1
  have hne : b ≠ eb := fun e => by rw [e, A.V.blk] at h4; cases h4
  unfold join
  rw [h3, hput_ne hne, h4]
  exact h2
/-- Two local boxes: a frame and a word. -/
structure LBx (hl : Hp) (nf nv : Nat) (f : MF) (x : Int) : Prop where
  fr : hl nf = some (fB f, 80)
  wd : hl nv = some (wc x, 75)
  ne : nf ≠ nv
theorem LBx.set (L : LBx hl nf nv f x) (hd : Dj h1 hl) (ho : p = k) (hk : k < 65) (hu : updV (fcell f) k y = fcell f') (hK : ∀ hl', LBx hl' nf nv f' x → Dj h1 hl' → KK (join h1 hl')) : StoreX (join h1 hl) nf p [y] KK := by
  refine StoreX.jm hd L.fr (by rw [fB_len, ho]; exact hk) ?_
  rw [fB_set ho hk hu]
  exact hK _ ⟨hput_same .., by rw [hput_ne (Ne.symm L.ne)]; exact L.wd, L.ne⟩ (hd.put L.fr)
theorem LBx.setL {g : Nat → Value} {q : Nat} {vs : List Value} (L : LBx hl nf nv f x) (hd : Dj h1 hl) (hv : vs = fnv q g) (ho : p = k) (hk : k + q ≤ 65) (hu : updL (fcell f) k q g = fcell f') (hK : ∀ hl', LBx hl' nf nv f' x → Dj h1 hl' → KK (join h1 hl')) : StoreX (join h1 hl) nf p vs KK := by
  refine StoreX.jm hd L.fr (by rw [fB_len, ho, hv, fnv_len]; exact hk) ?_
  rw [fB_setL hv ho hk hu]
  exact hK _ ⟨hput_same .., by rw [hput_ne (Ne.symm L.ne)]; exact L.wd, L.ne⟩ (hd.put L.fr)
theorem LBx.setW {x' : Int} (L : LBx hl nf nv f x) (hd : Dj h1 hl) (hK : ∀ hl', LBx hl' nf nv f x' → Dj h1 hl' → KK (join h1 hl')) : StoreX (join h1 hl) nv 0 (wc x') KK := by
  refine StoreX.jm hd L.wd (Nat.le_of_ble_eq_true rfl) ?_
  rw [setSeg_all (c := wc x) (vs := wc x') rfl]
  exact hK _ ⟨by rw [hput_ne L.ne]; exact L.fr, hput_same .., L.ne⟩ (hd.put L.wd)
theorem LBx.more {n : Nat} {z} (L : LBx hl nf nv f x) (hn : hl n = none) : LBx (hput hl n z) nf nv f x :=
  ⟨by rw [hput_ne (fun e => by rw [← e, L.fr] at hn; cases hn)]; exact L.fr, by rw [hput_ne (fun e => by rw [← e, L.wd] at hn; cases hn)]; exact L.wd, L.ne⟩
theorem fU_gas (x : Int) : updV (fcell f) 7 (.int .u64 x) = fcell { f with gas := x } := by
  funext i; unfold updV fcell
  by_cases h : i = 7
  · subst h; rfl
  · simp only [if_neg h]
theorem fU_kind (x : Int) : updV (fcell f) 0 (.int .u8 x) = fcell { f with kind := x } := by
  funext i; unfold updV fcell
  by_cases h : i = 0
  · subst h; rfl
  · simp only [if_neg h]
theorem fU_native (x : Int) : updV (fcell f) 2 (.int .u8 x) = fcell { f with natv := x } := by
  funext i; unfold updV fcell
  by_cases h : i = 2
  · subst h; rfl
  · simp only [if_neg h]
theorem fU_static (x : Bool) : updV (fcell f) 3 (.bool x) = fcell { f with static := x } := by
  funext i; unfold updV fcell
  by_cases h : i = 3
  · subst h; rfl
  · simp only [if_neg h]
theorem fU_input (s : Sl) (l : List Int) : updV (fcell f) 54 (sl s) = fcell { f with is := s, input := l } := by
  funext i; unfold updV fcell
  by_cases h : i = 54
  · subst h; rfl
  · simp only [if_neg h]
theorem fU_code (s : Sl) (l : List Int) : updV (fcell f) 53 (sl s) = fcell { f with cs := s, code := l } := by
  funext i; unfold updV fcell
  by_cases h : i = 53
  · subst h; rfl
  · simp only [if_neg h]
theorem fU_self (a : List Int) : updL (fcell f) 9 20 (fun i => .int .u8 (a.getD i 0)) = fcell { f with self := a } := by
  funext i; unfold updL fcell
  by_cases h : 9 ≤ i ∧ i < 9 + 20
  · rw [if_pos h]
    dsimp only
    iterate 9 rw [if_neg (by omega)]
    rw [if_pos (by omega)]
  · rw [if_neg h]
    dsimp only
    by_cases h1 : i < 9
    · have h2 : i = 0 ∨ i = 1 ∨ i = 2 ∨ i = 3 ∨ i = 4 ∨ i = 5 ∨ i = 6 ∨ i = 7 ∨ i = 8 := by omega
      rcases h2 with rfl | rfl | rfl | rfl | rfl | rfl | rfl | rfl | rfl <;> rfl
    · simp only [if_neg (show ¬ i < 29 by omega)]
theorem fU_caller (a : List Int) : updL (fcell f) 29 20 (fun i => .int .u8 (a.getD i 0)) = fcell { f with caller := a } := by
  funext i; unfold updL fcell
  by_cases h : 29 ≤ i ∧ i < 29 + 20
  · rw [if_pos h]
    dsimp only
    iterate 10 rw [if_neg (by omega)]
    rw [if_pos (by omega)]
  · rw [if_neg h]
    dsimp only
    by_cases h1 : i < 29
    · simp only [if_pos h1]
    · simp only [if_neg (show ¬ i < 49 by omega)]
theorem fU_val (x : Int) : updL (fcell f) 49 4 (wcD x) = fcell { f with val := x } := by
  funext i; unfold updL fcell
  by_cases h : 49 ≤ i ∧ i < 49 + 4
  · rw [if_pos h]
    dsimp only
    iterate 11 rw [if_neg (by omega)]
    rw [if_pos (by omega)]
  · rw [if_neg h]
    dsimp only
    by_cases h1 : i < 49
    · simp only [if_pos h1]
    · simp only [if_neg (show ¬ i < 53 by omega)]
theorem bcells_fnv {a : List Int} (hl : a.length = 20) : bcells a = fnv 20 fun i => .int .u8 (a.getD i 0) := by
  refine List.ext_getElem? fun i => ?_
  unfold bcells fnv
  rw [List.getElem?_map, List.getElem?_map]
  by_cases h : i < 20
  · rw [List.getElem?_eq_getElem (by omega), List.getElem?_range h, Option.map_some, Option.map_some, List.getD_eq_getElem?_getD, List.getElem?_eq_getElem (by omega)]; rfl
  · rw [List.getElem?_eq_none (by omega), List.getElem?_eq_none (by simp; omega)]; rfl
end
end Go.Proofs.YgvalwGreat.X
