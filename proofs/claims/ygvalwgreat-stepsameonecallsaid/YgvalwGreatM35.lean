import Derived.Test.YgvalwGreatM34
set_option linter.unusedVariables false
set_option linter.unusedSimpArgs false
namespace Go.Proofs.YgvalwGreat.X
open Go

section
variable {hi hi' hm hm' hb hb' h : Hp} {K : Value → Hp → Prop} {v v' : VS} {eb : Nat} {m m' : MS} {t : Nat} {mems : Nat → List Int} {stale stale' mem' orig : List Int} {w w' : AW} {sn : List AW} {s0 l0 S S' x o : Int} {A : Nat → Nat}
theorem fin_jump {T a : Nat} (X : EX hi hm hb eb m t w sn v mems stale) (hT : (arI o).1 = T) (ho : o = 86 ∨ (o = 87 ∧ opA (frM m sn mems t) o 1 ≠ 0)) (ha : opA (frM m sn mems t) o 0 = a) (M' : MA hi hm' eb (jumpM m t T a) t w sn v) (hd : Dj (join hi hm') hb)
    (R : Rs S v sn) {KK : Hp → Prop} (hk : EnK hi eb m S (plainA (absM m t w sn mems s0 l0) (frsM m t sn mems) (frM m sn mems t) orig o) s0 l0 KK) : KK (join (join hi hm') hb) := by
  obtain ⟨X', e⟩ := X.step (s0 := s0) (l0 := l0) (m' := jumpM m t T a) (f' := { m.fr t with sp := (m.fr t).sp - T, pc := a }) rfl rfl rfl (fun i _ => rfl) M' hd (let B := X.mm.set X.mm.top fun i _ => rfl; ⟨B.mtop, B.base, B.buf, B.few⟩) fun _ h => h
  refine hk hi hm' hb _ w sn v (Ext.refl hi) (.inl ⟨t, _, _, X', e.trans ?_⟩) ⟨rfl, rfl, rfl, rfl, rfl, rfl, rfl, rfl, rfl, rfl, rfl⟩ R
  unfold plainA
  rw [if_pos ho, hT, ha]
  refine congrArg (fun y => (⟨w, frsM m t sn mems ++ [y], m.ret, 1, s0, l0⟩ : AS)) ?_
  unfold frM
  have e1 : stM (jumpM m t T a) t = (stM m t).take ((stM m t).length - T) := by
    rw [stM_len]
    unfold stM jumpM
    simp only [updN_same]
    rw [← List.map_take, List.take_range, Nat.min_eq_left (by omega)]
  rw [e1, updN_same]
  simp only [jumpM, updN_same, Int.toNat_natCast]
theorem isDest_lt {l : List Int} {a : Int} (h : isDestI l a = true) : a < l.length := walkD_lt _ _ _ _ h
theorem x_86 (hds : isDestI (m.fr t).code (A 0) = true) (P : OpS hi hm hb eb m t w sn v mems stale 86 A S S') (hk : PlK hi eb m t w sn mems orig 86 S' s0 l0 K) : CallX Hval.prog 194 [.pointer (some ⟨eb, 0, none⟩)] (join (join hi hm) hb) K := by
  have h1 := isDest_lt hds
  have h2 := P.X.M.f.cl
  exact CallX.fj P.X.dj (jump_ok P.X.M (P.hA 0) (P.hA 1) P.ho P.pc (Int.ofNat_le.1 P.sp) (by omega) fun hm' M' hd' => fin_jump P.X (T := 1) rfl (.inl rfl) (by rw [opA_eq P.hA (T := 1) rfl]; rfl) M' hd' P.R' hk)
theorem x_87 (hds : A 1 ≠ 0 → isDestI (m.fr t).code (A 0) = true) (P : OpS hi hm hb eb m t w sn v mems stale 87 A S S') (hk : PlK hi eb m t w sn mems orig 87 S' s0 l0 K) : CallX Hval.prog 194 [.pointer (some ⟨eb, 0, none⟩)] (join (join hi hm) hb) K := by
  have h2 := P.X.M.f.cl
  have e1 : opA (frM m sn mems t) 87 1 = A 1 := by rw [opA_eq P.hA (T := 2) rfl]; rfl
  by_cases hz : A 1 = 0
  · exact CallX.fj P.X.dj (jumpi_no P.X.M (P.hA 0) (P.hA 1) P.ho P.pc (Int.ofNat_le.1 P.sp) hz fun hm' M' hd' => fin_eff P.X (T := 2) rfl rfl ⟨by omega, fun _ => by rw [e1, hz]; rfl, by omega⟩ rfl M' hd' (Ext.refl hi) (fun _ h => h) P.X.mm.top rfl rfl P.R' hk)
  · have h1 := isDest_lt (hds hz)
    exact CallX.fj P.X.dj (jumpi_go P.X.M (P.hA 0) (P.hA 1) P.ho P.pc (Int.ofNat_le.1 P.sp) (by omega) hz fun hm' M' hd' => fin_jump P.X (T := 2) rfl (.inr ⟨rfl, by rw [e1]; omega⟩) (by rw [opA_eq P.hA (T := 2) rfl]; rfl) M' hd' P.R' hk)
theorem stM_swap {n : Nat} (hs : n + 2 ≤ (m.fr t).sp) (hA : ∀ i, argM m t i = A i) : stM (swapM m t n) t = (stM m t).take ((stM m t).length - (n + 2)) ++ ([(A 0 : Int)] ++ swM (fun i => if i < n + 2 then (A i : Int) else 0) (n + 2) ++ [(A (n + 1) : Int)]) := by
  have hl := stM_len m t
  have hv : ∀ i, i < (m.fr t).sp → m.stk (64 * t + (m.fr t).sp - 1 - i) = A i := fun i hi => by
    have := hA i
    unfold argM at this
    rw [if_pos hi] at this; exact this
  have hL : stM (swapM m t n) t = (List.range (m.fr t).sp).map fun j => (swapM m t n).stk (64 * t + j) := by
    unfold stM
    congr 2
    show (updN m.fr t _ t).sp = _
    rw [updN_same]
  rw [hL]
  apply List.ext_getElem?
  intro j
  rw [List.getElem?_map]
  have hsw : (swM (fun i => if i < n + 2 then (A i : Int) else 0) (n + 2)).length = n := by unfold swM; simp
  have htk : ((stM m t).take ((stM m t).length - (n + 2))).length = (m.fr t).sp - (n + 2) := by rw [List.length_take, hl]; omega
  by_cases hj : j < (m.fr t).sp
  · rw [List.getElem?_range hj, Option.map_some]
    show some (updN (updN m.stk (64 * t + (m.fr t).sp - 1) _) (64 * t + (m.fr t).sp - 1 - n - 1) _ (64 * t + j)) = _
    unfold updN
    by_cases h1 : j < (m.fr t).sp - (n + 2)
    · rw [if_neg (by omega), if_neg (by omega), List.getElem?_append_left (by rw [htk]; exact h1), List.getElem?_take_of_lt (by rw [hl]; exact h1)]
      unfold stM
      rw [List.getElem?_map, List.getElem?_range hj]; rfl
    · rw [List.getElem?_append_right (by rw [htk]; omega), htk]
      by_cases h2 : j = (m.fr t).sp - (n + 2)
      · rw [if_pos (by omega), h2, Nat.sub_self]
        have := hv 0 (by omega)
        rw [Nat.sub_zero] at this
        rw [this]; rfl
      · rw [if_neg (by omega)]
        have h3 : j - ((m.fr t).sp - (n + 2)) = 1 + (j - ((m.fr t).sp - (n + 2)) - 1) := by omega
        by_cases h4 : j = (m.fr t).sp - 1
        · rw [if_pos (by omega), List.getElem?_append_right (by rw [List.length_append, hsw]; show 1 + n ≤ _; omega), List.length_append, hsw]
          have := hv (n + 1) (by omega)
          rw [show 64 * t + (m.fr t).sp - 1 - n - 1 = 64 * t + (m.fr t).sp - 1 - (n + 1) by omega, this, show j - ((m.fr t).sp - (n + 2)) - ([(A 0 : Int)].length + n) = 0 by show _ - (1 + n) = 0; omega]
          rfl
        · rw [if_neg (by omega), List.getElem?_append_left (by rw [List.length_append, hsw]; show _ < 1 + n; omega), List.getElem?_append_right (by show 1 ≤ _; omega)]
          unfold swM
          rw [List.getElem?_map, List.getElem?_range (by show _ - 1 < _; omega), Option.map_some]
          have := hv (n + 2 - 2 - (j - ((m.fr t).sp - (n + 2)) - 1)) (by omega)
          show _ = some (if n + 2 - 2 - (j - ((m.fr t).sp - (n + 2)) - 1) < n + 2 then _ else _)
          rw [if_pos (by omega)]
          refine Eq.trans ?_ (congrArg some this)
          congr 2; omega
  · rw [List.getElem?_eq_none (by simp; omega), List.getElem?_eq_none (by rw [List.length_append, htk, List.length_append, List.length_append, hsw]; show _ - _ + (1 + n + 1) ≤ j; omega)]; rfl
theorem x_swap {n : Nat} (hn : n < 16) (P : OpS hi hm hb eb m t w sn v mems stale ((144 + n : Nat) : Int) A S S') (hk : PlK hi eb m t w sn mems orig ((144 + n : Nat) : Int) S' s0 l0 K) : CallX Hval.prog 301 [.pointer (some ⟨eb, 0, none⟩)] (join (join hi hm) hb) K := by
  have har : arI ((144 + n : Nat) : Int) = (((n + 2 : Nat) : Int), ((n + 2 : Nat) : Int), true) := by
    have key : ∀ k : Fin 16, arI ((144 + k.val : Nat) : Int) = (((k.val + 2 : Nat) : Int), ((k.val + 2 : Nat) : Int), true) := by decide +kernel
    exact key ⟨n, hn⟩
  have hs := P.sp
  rw [har] at hs
  have hs : n + 2 ≤ (m.fr t).sp := Int.ofNat_le.1 hs
  have X := P.X
  refine CallX.fj P.X.dj (swap_ok P.X.M hn P.ho hs P.pc fun hm' M' hd' => ?_)
  obtain ⟨X', e⟩ := X.step (s0 := s0) (l0 := l0) (m' := swapM m t n) (f' := { m.fr t with pc := (m.fr t).pc + 1 }) rfl rfl rfl (fun i hi => by
    show updN (updN m.stk _ _) _ _ i = _
    unfold updN; rw [if_neg (by omega), if_neg (by omega)]) M' hd' (let B := X.mm.set X.mm.top fun i _ => rfl; ⟨B.mtop, B.base, B.buf, B.few⟩) fun _ h => h
  refine hk hi hm' hb _ w sn v (Ext.refl hi) (.inl ⟨t, _, _, X', e.trans ?_⟩) ⟨rfl, rfl, rfl, rfl, rfl, rfl, rfl, rfl, rfl, rfl, rfl⟩ P.R'
  unfold plainA
  rw [if_neg (by omega), if_neg (by omega), if_pos (by omega), har]
  refine congrArg (fun y => (⟨w, frsM m t sn mems ++ [y], m.ret, 1, s0, l0⟩ : AS)) ?_
  have e2 : immI ((144 + n : Nat) : Int) = 0 := by unfold immI; rw [if_neg (by omega)]
  have e3 := opA_eq (sn := sn) (mems := mems) P.hA (o := ((144 + n : Nat) : Int)) (T := n + 2) (by rw [har])
  rw [e2, e3]
  unfold frM
  rw [stM_swap hs P.hA, updN_same]
  simp only [swapM, updN_same, Int.toNat_natCast]
  rw [if_pos (show 0 < n + 2 by omega), if_pos (show n + 2 - 1 < n + 2 by omega)]
  rfl
end
end Go.Proofs.YgvalwGreat.X
