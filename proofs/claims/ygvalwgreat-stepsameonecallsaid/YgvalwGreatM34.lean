import Derived.Test.YgvalwGreatM33
set_option linter.unusedVariables false
set_option linter.unusedSimpArgs false
namespace Go.Proofs.YgvalwGreat.X
open Go

section
variable {hi hi' hm hm' hb hb' h : Hp} {K : Value → Hp → Prop} {v v' : VS} {eb : Nat} {m m' : MS} {t : Nat} {mems : Nat → List Int} {stale stale' mem' orig : List Int} {w w' : AW} {sn : List AW} {s0 l0 S S' x o : Int} {A : Nat → Nat}
/-- What an instruction finds, its price paid. -/
structure OpS (hi hm hb : Hp) (eb : Nat) (m : MS) (t : Nat) (w : AW) (sn : List AW) (v : VS) (mems : Nat → List Int) (stale : List Int) (o : Int) (A : Nat → Nat) (S S' : Int) : Prop where
  X : EX hi hm hb eb m t w sn v mems stale
  ho : opI (m.fr t).code (m.fr t).pc = o
  hA : ∀ i, argM m t i = A i
  sp : (arI o).1 ≤ (m.fr t).sp
  room : ((m.fr t).sp : Int) - (arI o).1 + (arI o).2.1 ≤ 64
  pc : (m.fr t).pc < 600
  R : Rs S v sn
  cost : S + bareA w (m.fr t).self o (fun i => A i) ≤ S'
  fit : reachI o (fun i => A i) ≤ (mems t).length
  hS : 0 ≤ S ∧ S' ≤ 1048576
theorem OpS.le (P : OpS hi hm hb eb m t w sn v mems stale o A S S') : S ≤ S' := by
  have := P.cost
  have := bareA_nonneg (w := w) (self := (m.fr t).self) (o := o) (A := fun i => (A i : Int)) fun i => Int.natCast_nonneg _
  omega
theorem OpS.R' (P : OpS hi hm hb eb m t w sn v mems stale o A S S') : Rs S' v sn := P.R.mono P.le
def PlK (hi : Hp) (eb : Nat) (m : MS) (t : Nat) (w : AW) (sn : List AW) (mems : Nat → List Int) (orig : List Int) (o S' s0 l0 : Int) (K : Value → Hp → Prop) : Prop := EnK hi eb m S' (plainA (absM m t w sn mems s0 l0) (frsM m t sn mems) (frM m sn mems t) orig o) s0 l0 (K (.tuple #[]))
theorem x_1 (P : OpS hi hm hb eb m t w sn v mems stale 1 A S S') (hk : PlK hi eb m t w sn mems orig 1 S' s0 l0 K) : CallX Hval.prog 184 [.pointer (some ⟨eb, 0, none⟩)] (join (join hi hm) hb) K :=
  CallX.fj P.X.dj (alu_1 P.X.M (P.hA 0) (P.hA 1) (P.hA 2) P.ho (Int.ofNat_le.1 P.sp) P.pc fun hm' M' hd' => fin_val P.X (T := 2) rfl rfl (by omega) rfl M' hd' (Ext.refl hi) (fun _ h => h) rfl (by rw [opA_eq P.hA (T := 2) rfl]; rfl) P.R' hk)
theorem x_2 (P : OpS hi hm hb eb m t w sn v mems stale 2 A S S') (hk : PlK hi eb m t w sn mems orig 2 S' s0 l0 K) : CallX Hval.prog 184 [.pointer (some ⟨eb, 0, none⟩)] (join (join hi hm) hb) K :=
  CallX.fj P.X.dj (alu_2 P.X.M (P.hA 0) (P.hA 1) (P.hA 2) P.ho (Int.ofNat_le.1 P.sp) P.pc fun hm' M' hd' => fin_val P.X (T := 2) rfl rfl (by omega) rfl M' hd' (Ext.refl hi) (fun _ h => h) rfl (by rw [opA_eq P.hA (T := 2) rfl]; rfl) P.R' hk)
theorem x_3 (P : OpS hi hm hb eb m t w sn v mems stale 3 A S S') (hk : PlK hi eb m t w sn mems orig 3 S' s0 l0 K) : CallX Hval.prog 184 [.pointer (some ⟨eb, 0, none⟩)] (join (join hi hm) hb) K :=
  CallX.fj P.X.dj (alu_3 P.X.M (P.hA 0) (P.hA 1) (P.hA 2) P.ho (Int.ofNat_le.1 P.sp) P.pc fun hm' M' hd' => fin_val P.X (T := 2) rfl rfl (by omega) rfl M' hd' (Ext.refl hi) (fun _ h => h) rfl (by rw [opA_eq P.hA (T := 2) rfl]; rfl) P.R' hk)
theorem x_4 (P : OpS hi hm hb eb m t w sn v mems stale 4 A S S') (hk : PlK hi eb m t w sn mems orig 4 S' s0 l0 K) : CallX Hval.prog 184 [.pointer (some ⟨eb, 0, none⟩)] (join (join hi hm) hb) K :=
  CallX.fj P.X.dj (alu_4 P.X.M (P.hA 0) (P.hA 1) (P.hA 2) P.ho (Int.ofNat_le.1 P.sp) P.pc fun hm' M' hd' => fin_val P.X (T := 2) rfl rfl (by omega) rfl M' hd' (Ext.refl hi) (fun _ h => h) rfl (by rw [opA_eq P.hA (T := 2) rfl]; rfl) P.R' hk)
theorem x_5 (P : OpS hi hm hb eb m t w sn v mems stale 5 A S S') (hk : PlK hi eb m t w sn mems orig 5 S' s0 l0 K) : CallX Hval.prog 184 [.pointer (some ⟨eb, 0, none⟩)] (join (join hi hm) hb) K :=
  CallX.fj P.X.dj (alu_5 P.X.M (P.hA 0) (P.hA 1) (P.hA 2) P.ho (Int.ofNat_le.1 P.sp) P.pc fun hm' M' hd' => fin_val P.X (T := 2) rfl rfl (by omega) rfl M' hd' (Ext.refl hi) (fun _ h => h) rfl (by rw [opA_eq P.hA (T := 2) rfl]; rfl) P.R' hk)
theorem x_6 (P : OpS hi hm hb eb m t w sn v mems stale 6 A S S') (hk : PlK hi eb m t w sn mems orig 6 S' s0 l0 K) : CallX Hval.prog 184 [.pointer (some ⟨eb, 0, none⟩)] (join (join hi hm) hb) K :=
  CallX.fj P.X.dj (alu_6 P.X.M (P.hA 0) (P.hA 1) (P.hA 2) P.ho (Int.ofNat_le.1 P.sp) P.pc fun hm' M' hd' => fin_val P.X (T := 2) rfl rfl (by omega) rfl M' hd' (Ext.refl hi) (fun _ h => h) rfl (by rw [opA_eq P.hA (T := 2) rfl]; rfl) P.R' hk)
theorem x_7 (P : OpS hi hm hb eb m t w sn v mems stale 7 A S S') (hk : PlK hi eb m t w sn mems orig 7 S' s0 l0 K) : CallX Hval.prog 184 [.pointer (some ⟨eb, 0, none⟩)] (join (join hi hm) hb) K :=
  CallX.fj P.X.dj (alu_7 P.X.M (P.hA 0) (P.hA 1) (P.hA 2) P.ho (Int.ofNat_le.1 P.sp) P.pc fun hm' M' hd' => fin_val P.X (T := 2) rfl rfl (by omega) rfl M' hd' (Ext.refl hi) (fun _ h => h) rfl (by rw [opA_eq P.hA (T := 2) rfl]; rfl) P.R' hk)
theorem x_8 (P : OpS hi hm hb eb m t w sn v mems stale 8 A S S') (hk : PlK hi eb m t w sn mems orig 8 S' s0 l0 K) : CallX Hval.prog 184 [.pointer (some ⟨eb, 0, none⟩)] (join (join hi hm) hb) K :=
  CallX.fj P.X.dj (alu_8 P.X.M (P.hA 0) (P.hA 1) (P.hA 2) P.ho (Int.ofNat_le.1 P.sp) P.pc fun hm' M' hd' => fin_val P.X (T := 3) rfl rfl (by omega) rfl M' hd' (Ext.refl hi) (fun _ h => h) rfl (by rw [opA_eq P.hA (T := 3) rfl]; rfl) P.R' hk)
theorem x_9 (P : OpS hi hm hb eb m t w sn v mems stale 9 A S S') (hk : PlK hi eb m t w sn mems orig 9 S' s0 l0 K) : CallX Hval.prog 184 [.pointer (some ⟨eb, 0, none⟩)] (join (join hi hm) hb) K :=
  CallX.fj P.X.dj (alu_9 P.X.M (P.hA 0) (P.hA 1) (P.hA 2) P.ho (Int.ofNat_le.1 P.sp) P.pc fun hm' M' hd' => fin_val P.X (T := 3) rfl rfl (by omega) rfl M' hd' (Ext.refl hi) (fun _ h => h) rfl (by rw [opA_eq P.hA (T := 3) rfl]; rfl) P.R' hk)
theorem x_10 (P : OpS hi hm hb eb m t w sn v mems stale 10 A S S') (hk : PlK hi eb m t w sn mems orig 10 S' s0 l0 K) : CallX Hval.prog 184 [.pointer (some ⟨eb, 0, none⟩)] (join (join hi hm) hb) K :=
  CallX.fj P.X.dj (alu_10 P.X.M (P.hA 0) (P.hA 1) (P.hA 2) P.ho (Int.ofNat_le.1 P.sp) P.pc fun hm' M' hd' => fin_val P.X (T := 2) rfl rfl (by omega) rfl M' hd' (Ext.refl hi) (fun _ h => h) rfl (by rw [opA_eq P.hA (T := 2) rfl]; rfl) P.R' hk)
theorem x_11 (P : OpS hi hm hb eb m t w sn v mems stale 11 A S S') (hk : PlK hi eb m t w sn mems orig 11 S' s0 l0 K) : CallX Hval.prog 184 [.pointer (some ⟨eb, 0, none⟩)] (join (join hi hm) hb) K :=
  CallX.fj P.X.dj (alu_11 P.X.M (P.hA 0) (P.hA 1) (P.hA 2) P.ho (Int.ofNat_le.1 P.sp) P.pc fun hm' M' hd' => fin_val P.X (T := 2) rfl rfl (by omega) rfl M' hd' (Ext.refl hi) (fun _ h => h) rfl (by rw [opA_eq P.hA (T := 2) rfl]; rfl) P.R' hk)
theorem x_16 (P : OpS hi hm hb eb m t w sn v mems stale 16 A S S') (hk : PlK hi eb m t w sn mems orig 16 S' s0 l0 K) : CallX Hval.prog 185 [.pointer (some ⟨eb, 0, none⟩)] (join (join hi hm) hb) K :=
  CallX.fj P.X.dj (alu_16 P.X.M (P.hA 0) (P.hA 1) (P.hA 2) P.ho (Int.ofNat_le.1 P.sp) P.pc fun hm' M' hd' => fin_val P.X (T := 2) rfl rfl (by omega) rfl M' hd' (Ext.refl hi) (fun _ h => h) rfl (by rw [opA_eq P.hA (T := 2) rfl]; rfl) P.R' hk)
theorem x_17 (P : OpS hi hm hb eb m t w sn v mems stale 17 A S S') (hk : PlK hi eb m t w sn mems orig 17 S' s0 l0 K) : CallX Hval.prog 185 [.pointer (some ⟨eb, 0, none⟩)] (join (join hi hm) hb) K :=
  CallX.fj P.X.dj (alu_17 P.X.M (P.hA 0) (P.hA 1) (P.hA 2) P.ho (Int.ofNat_le.1 P.sp) P.pc fun hm' M' hd' => fin_val P.X (T := 2) rfl rfl (by omega) rfl M' hd' (Ext.refl hi) (fun _ h => h) rfl (by rw [opA_eq P.hA (T := 2) rfl]; rfl) P.R' hk)
theorem x_18 (P : OpS hi hm hb eb m t w sn v mems stale 18 A S S') (hk : PlK hi eb m t w sn mems orig 18 S' s0 l0 K) : CallX Hval.prog 185 [.pointer (some ⟨eb, 0, none⟩)] (join (join hi hm) hb) K :=
  CallX.fj P.X.dj (alu_18 P.X.M (P.hA 0) (P.hA 1) (P.hA 2) P.ho (Int.ofNat_le.1 P.sp) P.pc fun hm' M' hd' => fin_val P.X (T := 2) rfl rfl (by omega) rfl M' hd' (Ext.refl hi) (fun _ h => h) rfl (by rw [opA_eq P.hA (T := 2) rfl]; rfl) P.R' hk)
theorem x_19 (P : OpS hi hm hb eb m t w sn v mems stale 19 A S S') (hk : PlK hi eb m t w sn mems orig 19 S' s0 l0 K) : CallX Hval.prog 185 [.pointer (some ⟨eb, 0, none⟩)] (join (join hi hm) hb) K :=
  CallX.fj P.X.dj (alu_19 P.X.M (P.hA 0) (P.hA 1) (P.hA 2) P.ho (Int.ofNat_le.1 P.sp) P.pc fun hm' M' hd' => fin_val P.X (T := 2) rfl rfl (by omega) rfl M' hd' (Ext.refl hi) (fun _ h => h) rfl (by rw [opA_eq P.hA (T := 2) rfl]; rfl) P.R' hk)
theorem x_20 (P : OpS hi hm hb eb m t w sn v mems stale 20 A S S') (hk : PlK hi eb m t w sn mems orig 20 S' s0 l0 K) : CallX Hval.prog 185 [.pointer (some ⟨eb, 0, none⟩)] (join (join hi hm) hb) K :=
  CallX.fj P.X.dj (alu_20 P.X.M (P.hA 0) (P.hA 1) (P.hA 2) P.ho (Int.ofNat_le.1 P.sp) P.pc fun hm' M' hd' => fin_val P.X (T := 2) rfl rfl (by omega) rfl M' hd' (Ext.refl hi) (fun _ h => h) rfl (by rw [opA_eq P.hA (T := 2) rfl]; rfl) P.R' hk)
theorem x_21 (P : OpS hi hm hb eb m t w sn v mems stale 21 A S S') (hk : PlK hi eb m t w sn mems orig 21 S' s0 l0 K) : CallX Hval.prog 185 [.pointer (some ⟨eb, 0, none⟩)] (join (join hi hm) hb) K :=
  CallX.fj P.X.dj (alu_21 P.X.M (P.hA 0) (P.hA 1) (P.hA 2) P.ho (Int.ofNat_le.1 P.sp) P.pc fun hm' M' hd' => fin_val P.X (T := 1) rfl rfl (by omega) rfl M' hd' (Ext.refl hi) (fun _ h => h) rfl (by rw [opA_eq P.hA (T := 1) rfl]; rfl) P.R' hk)
theorem x_22 (P : OpS hi hm hb eb m t w sn v mems stale 22 A S S') (hk : PlK hi eb m t w sn mems orig 22 S' s0 l0 K) : CallX Hval.prog 186 [.pointer (some ⟨eb, 0, none⟩)] (join (join hi hm) hb) K :=
  CallX.fj P.X.dj (alu_22 P.X.M (P.hA 0) (P.hA 1) (P.hA 2) P.ho (Int.ofNat_le.1 P.sp) P.pc fun hm' M' hd' => fin_val P.X (T := 2) rfl rfl (by omega) rfl M' hd' (Ext.refl hi) (fun _ h => h) rfl (by rw [opA_eq P.hA (T := 2) rfl]; rfl) P.R' hk)
theorem x_23 (P : OpS hi hm hb eb m t w sn v mems stale 23 A S S') (hk : PlK hi eb m t w sn mems orig 23 S' s0 l0 K) : CallX Hval.prog 186 [.pointer (some ⟨eb, 0, none⟩)] (join (join hi hm) hb) K :=
  CallX.fj P.X.dj (alu_23 P.X.M (P.hA 0) (P.hA 1) (P.hA 2) P.ho (Int.ofNat_le.1 P.sp) P.pc fun hm' M' hd' => fin_val P.X (T := 2) rfl rfl (by omega) rfl M' hd' (Ext.refl hi) (fun _ h => h) rfl (by rw [opA_eq P.hA (T := 2) rfl]; rfl) P.R' hk)
theorem x_24 (P : OpS hi hm hb eb m t w sn v mems stale 24 A S S') (hk : PlK hi eb m t w sn mems orig 24 S' s0 l0 K) : CallX Hval.prog 186 [.pointer (some ⟨eb, 0, none⟩)] (join (join hi hm) hb) K :=
  CallX.fj P.X.dj (alu_24 P.X.M (P.hA 0) (P.hA 1) (P.hA 2) P.ho (Int.ofNat_le.1 P.sp) P.pc fun hm' M' hd' => fin_val P.X (T := 2) rfl rfl (by omega) rfl M' hd' (Ext.refl hi) (fun _ h => h) rfl (by rw [opA_eq P.hA (T := 2) rfl]; rfl) P.R' hk)
theorem x_25 (P : OpS hi hm hb eb m t w sn v mems stale 25 A S S') (hk : PlK hi eb m t w sn mems orig 25 S' s0 l0 K) : CallX Hval.prog 186 [.pointer (some ⟨eb, 0, none⟩)] (join (join hi hm) hb) K :=
  CallX.fj P.X.dj (alu_25 P.X.M (P.hA 0) (P.hA 1) (P.hA 2) P.ho (Int.ofNat_le.1 P.sp) P.pc fun hm' M' hd' => fin_val P.X (T := 1) rfl rfl (by omega) rfl M' hd' (Ext.refl hi) (fun _ h => h) rfl (by rw [opA_eq P.hA (T := 1) rfl]; rfl) P.R' hk)
theorem x_26 (P : OpS hi hm hb eb m t w sn v mems stale 26 A S S') (hk : PlK hi eb m t w sn mems orig 26 S' s0 l0 K) : CallX Hval.prog 186 [.pointer (some ⟨eb, 0, none⟩)] (join (join hi hm) hb) K :=
  CallX.fj P.X.dj (alu_26 P.X.M (P.hA 0) (P.hA 1) (P.hA 2) P.ho (Int.ofNat_le.1 P.sp) P.pc fun hm' M' hd' => fin_val P.X (T := 2) rfl rfl (by omega) rfl M' hd' (Ext.refl hi) (fun _ h => h) rfl (by rw [opA_eq P.hA (T := 2) rfl]; rfl) P.R' hk)
theorem x_27 (P : OpS hi hm hb eb m t w sn v mems stale 27 A S S') (hk : PlK hi eb m t w sn mems orig 27 S' s0 l0 K) : CallX Hval.prog 186 [.pointer (some ⟨eb, 0, none⟩)] (join (join hi hm) hb) K :=
  CallX.fj P.X.dj (alu_27 P.X.M (P.hA 0) (P.hA 1) (P.hA 2) P.ho (Int.ofNat_le.1 P.sp) P.pc fun hm' M' hd' => fin_val P.X (T := 2) rfl rfl (by omega) rfl M' hd' (Ext.refl hi) (fun _ h => h) rfl (by rw [opA_eq P.hA (T := 2) rfl]; rfl) P.R' hk)
theorem x_28 (P : OpS hi hm hb eb m t w sn v mems stale 28 A S S') (hk : PlK hi eb m t w sn mems orig 28 S' s0 l0 K) : CallX Hval.prog 186 [.pointer (some ⟨eb, 0, none⟩)] (join (join hi hm) hb) K :=
  CallX.fj P.X.dj (alu_28 P.X.M (P.hA 0) (P.hA 1) (P.hA 2) P.ho (Int.ofNat_le.1 P.sp) P.pc fun hm' M' hd' => fin_val P.X (T := 2) rfl rfl (by omega) rfl M' hd' (Ext.refl hi) (fun _ h => h) rfl (by rw [opA_eq P.hA (T := 2) rfl]; rfl) P.R' hk)
theorem x_29 (P : OpS hi hm hb eb m t w sn v mems stale 29 A S S') (hk : PlK hi eb m t w sn mems orig 29 S' s0 l0 K) : CallX Hval.prog 186 [.pointer (some ⟨eb, 0, none⟩)] (join (join hi hm) hb) K :=
  CallX.fj P.X.dj (alu_29 P.X.M (P.hA 0) (P.hA 1) (P.hA 2) P.ho (Int.ofNat_le.1 P.sp) P.pc fun hm' M' hd' => fin_val P.X (T := 2) rfl rfl (by omega) rfl M' hd' (Ext.refl hi) (fun _ h => h) rfl (by rw [opA_eq P.hA (T := 2) rfl]; rfl) P.R' hk)
theorem x_80 (P : OpS hi hm hb eb m t w sn v mems stale 80 A S S') (hk : PlK hi eb m t w sn mems orig 80 S' s0 l0 K) : CallX Hval.prog 200 [.pointer (some ⟨eb, 0, none⟩)] (join (join hi hm) hb) K :=
  CallX.fj P.X.dj (pop_ok P.X.M (Int.ofNat_le.1 P.sp) P.pc fun hm' M' hd' => fin_eff P.X (T := 1) rfl rfl (by omega) rfl M' hd' (Ext.refl hi) (fun _ h => h) P.X.mm.top rfl rfl P.R' hk)
theorem x_91 (P : OpS hi hm hb eb m t w sn v mems stale 91 A S S') (hk : PlK hi eb m t w sn mems orig 91 S' s0 l0 K) : CallX Hval.prog 194 [.pointer (some ⟨eb, 0, none⟩)] (join (join hi hm) hb) K :=
  CallX.fj P.X.dj (jumpdest_ok P.X.M (P.hA 0) (P.hA 1) P.ho P.pc fun hm' M' hd' => fin_eff P.X (T := 0) rfl rfl (by omega) rfl M' hd' (Ext.refl hi) (fun _ h => h) P.X.mm.top rfl rfl P.R' hk)
theorem x_push {n : Nat} (hn : n ≤ 32) (P : OpS hi hm hb eb m t w sn v mems stale ((95 + n : Nat) : Int) A S S') (hk : PlK hi eb m t w sn mems orig ((95 + n : Nat) : Int) S' s0 l0 K) : CallX Hval.prog 299 [.pointer (some ⟨eb, 0, none⟩)] (join (join hi hm) hb) K := by
  have hf : famI ((95 + n : Nat) : Int) = 2 := famI_row (by omega)
  have har : arI ((95 + n : Nat) : Int) = (0, 1, true) := by
    have key : ∀ k : Fin 33, arI ((95 + k.val : Nat) : Int) = (0, 1, true) := by decide +kernel
    exact key ⟨n, by omega⟩
  have him : immI ((95 + n : Nat) : Int) = n := by unfold immI; split <;> omega
  have hr := P.room
  rw [har] at hr
  refine CallX.fj P.X.dj (push_ok P.X.M hn P.ho (by have : ((m.fr t).sp : Int) - 0 + 1 ≤ 64 := hr; omega) P.pc fun hm' M' hd' => fin_val P.X (T := 0) (by rw [har]; rfl) (by rw [har]) (by omega) (by rw [him]; omega) M' hd' (Ext.refl hi) (fun _ h => h) ?_ ?_ P.R' hk)
  · unfold valW; rw [if_neg (by omega), if_neg (by omega)]
  · unfold valA
    rw [if_neg (by omega), if_neg (by rw [hf]; decide), if_pos (by omega), him, Int.toNat_natCast]
    rfl
theorem x_dup {n : Nat} (hn : n < 16) (P : OpS hi hm hb eb m t w sn v mems stale ((128 + n : Nat) : Int) A S S') (hk : PlK hi eb m t w sn mems orig ((128 + n : Nat) : Int) S' s0 l0 K) : CallX Hval.prog 300 [.pointer (some ⟨eb, 0, none⟩)] (join (join hi hm) hb) K := by
  have har : arI ((128 + n : Nat) : Int) = (((n + 1 : Nat) : Int), ((n + 2 : Nat) : Int), true) := by
    have key : ∀ k : Fin 16, arI ((128 + k.val : Nat) : Int) = (((k.val + 1 : Nat) : Int), ((k.val + 2 : Nat) : Int), true) := by decide +kernel
    exact key ⟨n, hn⟩
  have hr := P.room
  rw [har] at hr
  have hr : ((m.fr t).sp : Int) - ((n + 1 : Nat) : Int) + ((n + 2 : Nat) : Int) ≤ 64 := hr
  refine CallX.fj P.X.dj (dup_ok P.X.M hn P.ho (by omega) P.pc fun hm' M' hd' => ?_)
  obtain ⟨X', e⟩ := P.X.settle (s0 := s0) (l0 := l0) M' hd' (P.X.mm.set P.X.mm.top fun i _ => rfl) fun _ h => h
  refine hk hi hm' hb _ w sn v (Ext.refl hi) (.inl ⟨t, _, _, X', e.trans ?_⟩) fixM.settle P.R'
  unfold plainA
  rw [if_neg (by omega), if_pos (by omega), har]
  refine congrArg (fun y => (⟨w, frsM m t sn mems ++ [y], m.ret, 1, s0, l0⟩ : AS)) ?_
  unfold settleF
  have e1 : opA (frM m sn mems t) ((128 + n : Nat) : Int) ((((n + 1 : Nat) : Int)).toNat - 1) = argM m t n := by
    rw [opA_eq P.hA (T := n + 1) (by rw [har]), P.hA]
    show (if n + 1 - 1 < n + 1 then _ else _) = _
    rw [if_pos (by omega)]; rfl
  have e2 : immI ((128 + n : Nat) : Int) = 0 := by unfold immI; rw [if_neg (by omega)]
  rw [e1, e2, Nat.sub_zero, List.take_length]
  rfl
end
end Go.Proofs.YgvalwGreat.X
