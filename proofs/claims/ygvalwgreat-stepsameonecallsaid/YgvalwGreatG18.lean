import Derived.Test.YgvalwGreatG17
set_option linter.unusedVariables false
set_option linter.unusedSimpArgs false
namespace Go.Proofs.YgvalwGreat.X
open Go

def vL : List Int := [32, 48, 49, 50, 51, 52, 53, 54, 56, 58, 59, 61, 63, 64, 65, 66, 67, 68, 69, 70, 71, 72, 81, 84, 88, 89, 90, 92]
def eL : List Int := [55, 57, 62, 94, 60, 82, 83, 85, 93, 80, 91, 87]
def vB (n : Nat) : Bool := !(decide ((arI n).2.1 = 1) && (arI n).2.2 && !decide (famI n = 16)) || (vL.any (fun x => decide ((n : Int) = x)) || (decide (famI n = 1) && !decide ((n : Int) = 32)) || (decide (95 ≤ n) && decide (n ≤ 127)))
def eB (n : Nat) : Bool := !(decide ((arI n).2.1 = 0) && (arI n).2.2 && !decide (famI n = 16) && !decide (famI n = 31) && !decide (n = 86)) || (eL.any (fun x => decide ((n : Int) = x)) || (decide (160 ≤ n) && decide (n ≤ 164)))
theorem vB_all : (List.range 256).all vB = true := by decide +kernel
theorem eB_all : (List.range 256).all eB = true := by decide +kernel
theorem vOp_cases (n : Nat) (hn : n < 256) (h1 : (arI n).2.1 = 1) (h2 : (arI n).2.2 = true) (h3 : famI n ≠ 16) : ((n : Int) ∈ vL) ∨ (famI n = 1 ∧ (n : Int) ≠ 32) ∨ (95 ≤ (n : Int) ∧ (n : Int) ≤ 127) := by
  have h := List.all_eq_true.1 vB_all n (List.mem_range.2 hn)
  unfold vB at h
  simp only [h1, h2, h3, decide_true, decide_false, Bool.and_self, Bool.not_false, Bool.not_true, Bool.false_or, Bool.or_eq_true, List.any_eq_true, Bool.and_eq_true, decide_eq_true_eq, Bool.not_eq_true', decide_eq_false_iff_not] at h
  rcases h with (⟨x, hx, he⟩ | h) | h
  · rw [he]; exact .inl hx
  · exact .inr (.inl h)
  · exact .inr (.inr (by omega))
theorem eOp_cases (n : Nat) (hn : n < 256) (h1 : (arI n).2.1 = 0) (h2 : (arI n).2.2 = true) (h3 : famI n ≠ 16) (h4 : famI n ≠ 31) (h5 : (n : Int) ≠ 86) : ((n : Int) ∈ eL) ∨ (160 ≤ (n : Int) ∧ (n : Int) ≤ 164) := by
  have h := List.all_eq_true.1 eB_all n (List.mem_range.2 hn)
  have h6 : n ≠ 86 := by omega
  unfold eB at h
  simp only [h1, h2, h3, h4, h6, decide_true, decide_false, Bool.and_self, Bool.not_false, Bool.not_true, Bool.false_or, Bool.or_eq_true, List.any_eq_true, Bool.and_eq_true, decide_eq_true_eq] at h
  rcases h with ⟨x, hx, he⟩ | h
  · rw [he]; exact .inl hx
  · exact .inr (by omega)
section
variable {hi hm : Hp} {K : Value → Hp → Prop} {c : Nat} {tc : TypeId} {s : YS} {base frs : List (YF × List Int)} {f : YF} {m ret : List Int} {left : Int} {N : Nat} {sa : Sl} {xs : List (Sl × Int)}
theorem value_ok {o : Int} (ho0 : 0 ≤ o) (ho1 : o < 256) (h1 : (arI o).2.1 = 1) (h2 : (arI o).2.2 = true) (h3 : famI o ≠ 16) (hlen : o = 32 → opdI xs 1 < 2 ^ 40) (hpc : f.pc + 1 < big)
    (S : StOK hi hm c tc s (base ++ [(f, m)]) ret left) (hN : StN N s (base ++ [(f, m)])) (hN30 : N + 3 < 2 ^ 30) (E : EnvOK hi s) (ha : Arr hi sa 1 (xs.map stCells)) (hxs : ∀ p ∈ xs, NtS hi p.1 p.2) (hr : sa.2.1 < 2 ^ 30) {fb : Nat} (hfb : at0 s.frS fb) (hself : isB f.self) (hcal : isB f.caller) (hW : ∀ p ∈ xs, p.2 < W)
    (hk : VK hi hm c tc s (base ++ [(f, m)]) ret left N (valW (absW s.w) f.self o (opdI xs)) (valA (absW s.w) (absF (f, m)) ret s.origin o (opdI xs)) K) :
    CallX Hval.prog 135 [.pointer (some ⟨c, 0, none⟩), .pointer (some ⟨fb, (preC base).length, none⟩), .int .u8 o, sl sa] (join hi hm) K := by
  obtain ⟨n, rfl⟩ : ∃ n : Nat, o = n := ⟨o.toNat, by omega⟩
  rcases vOp_cases n (by omega) h1 h2 h3 with h | h | h
  · simp only [vL, List.mem_cons, List.not_mem_nil, or_false] at h
    rcases h with h | h | h | h | h | h | h | h | h | h | h | h | h | h | h | h | h | h | h | h | h | h | h | h | h | h | h | h
    all_goals (rw [h] at hk hlen ⊢)
    · exact value_32 S hN hN30 E ha hxs hr hfb hself hcal (hlen rfl) hW hk
    · exact value_48 S hN hN30 E ha hxs hr hfb hself hcal hW hk
    · exact value_49 S hN hN30 E ha hxs hr hfb hself hcal hW hk
    · exact value_50 S hN hN30 E ha hxs hr hfb hself hcal hW hk
    · exact value_51 S hN hN30 E ha hxs hr hfb hself hcal hW hk
    · exact value_52 S hN hN30 E ha hxs hr hfb hself hcal hW hk
    · exact value_53 S hN hN30 E ha hxs hr hfb hself hcal hW hk
    · exact value_54 S hN hN30 E ha hxs hr hfb hself hcal hW hk
    · exact value_56 S hN hN30 E ha hxs hr hfb hself hcal hW hk
    · exact value_58 S hN hN30 E ha hxs hr hfb hself hcal hW hk
    · exact value_59 S hN hN30 E ha hxs hr hfb hself hcal hW hk
    · exact value_61 S hN hN30 E ha hxs hr hfb hself hcal hW hk
    · exact value_63 S hN hN30 E ha hxs hr hfb hself hcal hW hk
    · exact value_64 S hN hN30 E ha hxs hr hfb hself hcal hW hk
    · exact value_65 S hN hN30 E ha hxs hr hfb hself hcal hW hk
    · exact value_66 S hN hN30 E ha hxs hr hfb hself hcal hW hk
    · exact value_67 S hN hN30 E ha hxs hr hfb hself hcal hW hk
    · exact value_68 S hN hN30 E ha hxs hr hfb hself hcal hW hk
    · exact value_69 S hN hN30 E ha hxs hr hfb hself hcal hW hk
    · exact value_70 S hN hN30 E ha hxs hr hfb hself hcal hW hk
    · exact value_71 S hN hN30 E ha hxs hr hfb hself hcal hW hk
    · exact value_72 S hN hN30 E ha hxs hr hfb hself hcal hW hk
    · exact value_81 S hN hN30 E ha hxs hr hfb hself hcal hW hk
    · exact value_84 S hN hN30 E ha hxs hr hfb hself hcal hW hk
    · exact value_88 S hN hN30 E ha hxs hr hfb hself hcal hW hk
    · exact value_89 S hN hN30 E ha hxs hr hfb hself hcal hW hk
    · exact value_90 S hN hN30 E ha hxs hr hfb hself hcal hW hk
    · exact value_92 S hN hN30 E ha hxs hr hfb hself hcal hW hk
  · exact value_alu h.1 h.2 S hN hN30 E ha hxs hr hfb hself hcal hW hk
  · exact value_push h hpc S hN hN30 E ha hxs hr hfb hself hcal hW hk
theorem effect_ok {o : Int} (ho0 : 0 ≤ o) (ho1 : o < 256) (h1 : (arI o).2.1 = 0) (h2 : (arI o).2.2 = true) (h3 : famI o ≠ 16) (h4 : famI o ≠ 31) (h5 : o ≠ 86) (hlen : (o = 55 ∨ o = 57 ∨ o = 62 ∨ o = 94 → opdI xs 2 < 2 ^ 40) ∧ (o = 60 → opdI xs 3 < 2 ^ 40) ∧ (160 ≤ o → opdI xs 1 < 2 ^ 40)) (hxl : 160 ≤ o → 2 ≤ xs.length ∧ xs.length ≤ 6) (hxa : o = 85 → opdI xs 0 = argI f.st 0 ∧ opdI xs 1 = argI f.st 1) (href : s.w.ref + 100000 < big)
    (S : StOK hi hm c tc s (base ++ [(f, m)]) ret left) (hN : StN N s (base ++ [(f, m)])) (hN30 : N + 3 < 2 ^ 30) (ha : Arr hi sa 1 (xs.map stCells)) (hxs : ∀ p ∈ xs, NtS hi p.1 p.2) (hr : sa.2.1 < 2 ^ 30) {fb : Nat} (hfb : at0 s.frS fb) (hW : ∀ p ∈ xs, p.2 < W)
    (hk : EK hi c tc s base f ret left N (effW (absW s.w) f.self o (opdI xs)) (effM (absW s.w) (absF (f, m)) ret o (opdI xs)) K) :
    CallX Hval.prog 136 [.pointer (some ⟨c, 0, none⟩), .pointer (some ⟨fb, (preC base).length, none⟩), .int .u8 o, sl sa] (join hi hm) K := by
  obtain ⟨n, rfl⟩ : ∃ n : Nat, o = n := ⟨o.toNat, by omega⟩
  rcases eOp_cases n (by omega) h1 h2 h3 h4 h5 with h | h
  · simp only [eL, List.mem_cons, List.not_mem_nil, or_false] at h
    rcases h with h | h | h | h | h | h | h | h | h | h | h | h
    all_goals (rw [h] at hk hlen hxa ⊢)
    · exact effect_55 (hlen.1 (by omega)) S hN hN30 ha hxs hr hfb hW hk
    · exact effect_57 (hlen.1 (by omega)) S hN hN30 ha hxs hr hfb hW hk
    · exact effect_62 (hlen.1 (by omega)) S hN hN30 ha hxs hr hfb hW hk
    · exact effect_94 (hlen.1 (by omega)) S hN hN30 ha hxs hr hfb hW hk
    · exact effect_60 (hlen.2.1 rfl) S hN hN30 ha hxs hr hfb hW hk
    · exact effect_82 S hN hN30 ha hxs hr hfb hW hk
    · exact effect_83 S hN hN30 ha hxs hr hfb hW hk
    · exact effect_85 (hxa rfl).1 (hxa rfl).2 href S hN hN30 ha hxs hr hfb hW hk
    · exact effect_93 S hN hN30 ha hxs hr hfb hW hk
    · exact effect_80 S hN hN30 ha hxs hr hfb hW hk
    · exact effect_91 S hN hN30 ha hxs hr hfb hW hk
    · exact effect_87 S hN hN30 ha hxs hr hfb hW hk
  · exact effect_log h (hxl h.1) (hlen.2.2 h.1) S hN hN30 ha hxs hr hfb hW hk
end
end Go.Proofs.YgvalwGreat.X
