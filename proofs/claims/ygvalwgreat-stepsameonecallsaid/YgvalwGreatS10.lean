import Derived.Test.YgvalwGreatS9
import Derived.Test.YgvalwGreatM56
set_option linter.unusedVariables false
set_option linter.unusedSimpArgs false
namespace Go.Proofs.YgvalwGreat.X
open Go

theorem accF_all0 (P : List Int → AA → Prop) (ws : List WA) : ∀ f : List Int → AA, (∀ a, P a (f a)) → (∀ x ∈ ws, P x.a ⟨x.n, bv x.b, x.code, fun _ => 0⟩) → ∀ a, P a (ws.foldl (fun f x => updA f x.a ⟨x.n, bv x.b, x.code, fun _ => 0⟩) f a) := by
  induction ws with
  | nil => exact fun f hf _ => hf
  | cons x ws ih =>
    intro f hf hx
    refine ih _ (fun a => ?_) fun y hy => hx y (List.mem_cons_of_mem _ hy)
    show P a (updA f x.a ⟨x.n, bv x.b, x.code, fun _ => 0⟩ a)
    unfold updA
    by_cases h : a = x.a
    · rw [if_pos h, h]; exact hx x List.mem_cons_self
    · rw [if_neg h]; exact hf a
theorem stgW_all {cs : List (Sl × List Int)} (h256 : ∀ p ∈ cs, p.2.length ≤ 256) (a : List Int) : (accF (stgW cs) a).code.length ≤ 256 ∧ (a ≠ sndA → (accF (stgW cs) a).bal = 0) ∧ (0 ≤ (accF (stgW cs) a).nonce ∧ (accF (stgW cs) a).nonce ≤ 1) := by
  refine accF_all0 (fun a x => x.code.length ≤ 256 ∧ (a ≠ sndA → x.bal = 0) ∧ (0 ≤ x.nonce ∧ x.nonce ≤ 1)) (stgW cs) _ (fun a => ⟨Nat.zero_le _, fun _ => rfl, Int.le_refl 0, by decide⟩) (fun x hx => ?_) a
  unfold stgW at hx
  rcases List.mem_append.1 hx with h1 | h1
  · obtain ⟨j, hj, rfl⟩ := List.mem_mapIdx.1 h1
    exact ⟨h256 _ (List.getElem_mem hj), fun _ => rfl, by show (0 : Int) ≤ 1; decide, by show (1 : Int) ≤ 1; decide⟩
  · rw [List.mem_singleton.1 h1]; exact ⟨Nat.zero_le _, fun h => absurd rfl h, by show (0 : Int) ≤ 0; decide, by show (0 : Int) ≤ 1; decide⟩
theorem ai_beg {cs : List (Sl × List Int)} (h256 : ∀ p ∈ cs, p.2.length ≤ 256) {d : List Int} {g : Int} (hi : intr d ≤ g) (h0 : 0 ≤ intr d) (hg : g ≤ 1048576) : AI 0 (begW (wldA (stgW cs))) [] (begF (wldA (stgW cs)) d g) := by
  have hall := stgW_all h256
  have ha : ∀ a, (begW (wldA (stgW cs))).acct a = updA (accF (stgW cs)) sndA { accF (stgW cs) sndA with nonce := 1 } a := fun a => rfl
  have hw : ∀ S, 0 ≤ S → WG S (begW (wldA (stgW cs))) := fun S hS => by
    refine ⟨⟨Int.le_refl 0, by show (0 : Int) ≤ 199 * S; omega⟩, by show 375 * ((0 : Nat) : Int) ≤ S; omega, fun a => ?_, fun a hne => ?_, ⟨?_, ?_⟩, fun a => ?_⟩
    · rw [ha]; unfold updA; split
      · exact Nat.le_trans (hall sndA).1 (by decide)
      · exact Nat.le_trans (hall a).1 (by decide)
    · rw [ha]; unfold updA; rw [if_neg hne]; exact (hall a).2.1 hne
    · rw [ha]; unfold updA; rw [if_pos rfl, stgW_snd]
    · rw [ha]; unfold updA; rw [if_pos rfl]; show (1 : Int) ≠ 0; decide
    · rw [ha]; unfold updA; split
      · exact ⟨by show (0 : Int) ≤ 1; decide, by show 32000 * (1 : Int) ≤ S + 64000; omega⟩
      · have := (hall a).2.2; omega
  have hgs : gsum [begF (wldA (stgW cs)) d g] = g - intr d := by show g - intr d + 0 = _; omega
  have hS : 0 ≤ 1048576 - gsum ([] ++ [begF (wldA (stgW cs)) d g]) - 0 := by rw [List.nil_append, hgs]; omega
  refine ⟨Nat.zero_le _, ?_, hw _ hS, fun q hq => ?_, fun q hq => (by cases hq), by show (0 : Int) ≤ 545; decide⟩
  · show g - intr d + memCost ((0 / 32 : Nat) : Int) + 0 + 0 ≤ 1048576
    have : memCost ((0 / 32 : Nat) : Int) = 0 := rfl
    omega
  · rw [List.nil_append, List.mem_singleton] at hq
    subst hq
    refine ⟨hw _ hS, rfl, fun _ => by show adr 1 ≠ sndA; decide, Nat.le_trans (hall (adr 1)).1 (by decide), rfl, by show 0 ≤ g - intr d; omega⟩
section
variable {hi hm hb h : Hp} {K : Value → Hp → Prop} {eb : Nat} {m : MS} {t : Nat} {w : AW} {sn : List AW} {v : VS} {mems : Nat → List Int} {stale : List Int} {c : Nat} {tc : TypeId} {s : YS} {frs : List (YF × List Int)} {ret : List Int} {left : Int}
theorem stepP_of (X : EX hi hm hb eb m t w sn v mems stale) (hI : AI 0 w (frsM m t sn mems) (frM m sn mems t)) : StepP w (frsM m t sn mems) (frM m sn mems t) := by
  have he := hI.each (Int.le_refl 0)
  have hsd := sM_bd hI
  have hw := hI.w
  refine ⟨hI.n, (he _ (frsM_mem (Nat.le_refl t))).2.1, fun q hq => ?_, by have := hI.pc; omega, hI.tf.mod, X.M.f.self.2, X.M.f.caller.2, hI.tf.val, fun hc => hw.bal _ (hI.tf.own (.inl hc)), ?_⟩
  · have hwt := hI.wait q hq
    have hq2 := (he q (List.mem_append.2 (.inl hq))).1
    unfold frsM at hq
    obtain ⟨i, hi, rfl⟩ := List.mem_map.1 hq
    have hi := List.mem_range.1 hi
    have hx := X.wait i hi
    refine ⟨hq2, ?_, by omega, ?_⟩
    · show (stM m i).length < 64
      rw [stM_len]; exact hx.sp
    · show (m.fr i).ol < 2 ^ 40
      have := hx.ol; omega
  · have := hw.ref.2
    unfold sM at hsd
    omega
set_option maxRecDepth 100000 in
set_option maxHeartbeats 4000000 in
theorem ystep_no (hc : h c = some (sCells s, tc)) (hp : s.phase ≠ 1) (hk : K (.bool false) h) : CallX Hval.prog 16 [.pointer (some ⟨c, 0, none⟩)] h K := by
  refine CallX.of_xf T_ok Hval.func16 rfl (by kernel_rfl) (Nat.le_of_ble_eq_true rfl) ?_; conv => whnf
  refine LoadX.blk hc (.int .u8 s.phase) rfl ?_; conv => whnf
  refine CondX.neI (fun _ => ?_) (fun h => absurd h hp); conv => whnf
  repeat (first | (refine CondX.tt ?_; conv => whnf) | (refine CondX.ff ?_; conv => whnf))
  exact RetX.same hk
end
end Go.Proofs.YgvalwGreat.X
