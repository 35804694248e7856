/-
  REGIONS THAT DRAW THEIR ORDER: the rule.
-/
import Derived.Test.YgvalwGreatXi
set_option linter.unusedVariables false
set_option linter.unusedSimpArgs false
namespace Go.Proofs.YgvalwGreat.X
open Go

def lkd : List (Nat × List (List Nat) × List Nat) → Nat → Option (List (List Nat) × List Nat)
  | [], _ => none
  | p :: l, i => bif Nat.beq p.1 i then some p.2 else lkd l i

def tyOk (T : Nat → Option Ty) (ops : List Oper) : Bool := ops.all fun o => match o.op with
  | .alloc t => (T t).isSome
  | .select .. => false
  | _ => true

section
variable {P : Program} {T : Nat → Option Ty} {f : FuncId} {n : Nat} {K : Value → Hp → Prop} {ρ : Env} {h : Hp} {ops : List Oper} {anc : List (List Nat)} {ord : List Nat}

theorem drawOk_rg (hok : drawOk T ops anc ord = true) (hty : tyOk T ops = true) : Rg T ops anc ∧ ordB ops anc ord = true ∧ ord.Nodup ∧ (∀ i, i < ops.length → i ∈ ord) := by
  unfold drawOk at hok
  simp only [Bool.and_eq_true] at hok
  obtain ⟨⟨⟨⟨⟨⟨⟨⟨⟨h1, h2⟩, h3⟩, h4⟩, h5⟩, h6⟩, h7⟩, h8⟩, h9⟩, h10⟩ := hok
  refine ⟨⟨h1, h3, h4, h5, h2, ?_⟩, h6, onceB_nodup h7, ?_⟩
  · intro i o cs b ho hs
    rw [List.all_eq_true] at h10
    have := h10 o (List.mem_of_getElem? ho)
    simp [hs] at this
  · intro i hi
    have hn := onceB_nodup h7
    have hl := Nat.eq_of_beq_eq_true h8
    have hsub : ∀ x ∈ ord, x ∈ List.range ops.length := by
      intro x hx
      rw [List.all_eq_true] at h9
      have := h9 x hx
      exact List.mem_range.2 (by simpa using this)
    have hp : ∀ (a b : List Nat), a.Nodup → (∀ x ∈ a, x ∈ b) → b.length ≤ a.length → ∀ x ∈ b, x ∈ a := by
      intro a
      induction a with
      | nil =>
        intro b _ _ hlen x hx
        have : b.length = 0 := by simpa using hlen
        rw [List.length_eq_zero_iff.1 this] at hx; cases hx
      | cons y a ih =>
        intro b hnd hs hlen x hx
        obtain ⟨hy, hnd⟩ := List.nodup_cons.1 hnd
        by_cases hxy : x = y
        · subst hxy; exact List.mem_cons_self ..
        · refine List.mem_cons_of_mem _ (ih (b.erase y) hnd (fun z hz => ?_) ?_ x ?_)
          · have hzy : z ≠ y := by rintro rfl; exact hy hz
            exact (List.mem_erase_of_ne hzy).2 (hs z (List.mem_cons_of_mem _ hz))
          · rw [List.length_erase_of_mem (hs y (List.mem_cons_self ..))]
            simp at hlen; omega
          · exact (List.mem_erase_of_ne hxy).2 hx
    exact hp ord (List.range ops.length) hn hsub (by simp [hl]) i (List.mem_range.2 hi)

theorem left_all (l : List Nat) (L : Nat → Bool) : left L l ≤ l.length := List.countP_le_length

theorem DrawX.go (hT : TOk P T) (hm : P.follows .mixedOrders = true) {fn : Func} (hf : P.funcs[f]? = some fn) {id : Nat} {k : List Item} {tb : List (Nat × List (List Nat) × List Nat)} (hd : lkd tb id = some (anc, ord))
    (hok : (drawOk T ops anc ord && tyOk T ops) = true) (hx : xdr P T n ops anc ord [] ρ h fun ρ' h' => xs P T f n fn.results.toList K 10000 k ρ' h') : DrawX P f n K id ops k ρ h := by
  rw [Bool.and_eq_true] at hok
  obtain ⟨hR, hord, hnd, hall⟩ := drawOk_rg hok.1 hok.2
  refine ⟨Good.region fun w hs => ?_⟩
  refine wp_region_any hm ?_
  have hf0 : Fr h w h { w with drawn := w.drawn + 1 } := ⟨Nat.le_refl _, fun _ _ _ => rfl, fun _ h0 h1 => absurd h0 h1, rfl, rfl⟩
  have h1 := draw_any (n := n) (K := fun ρ' h' => xs P T f n fn.results.toList K 10000 k ρ' h') (K' := fun ρ' h' => Good P f n K k ρ' h') (ρ0 := ρ) (h0 := h) (w0 := w) (fun ρ' h' hx => xs_sound hT hf 10000 k ρ' h' hx) hT hR (fun i o t ho hot => by
    have := hok.2
    unfold tyOk at this
    rw [List.all_eq_true] at this
    have := this o (List.mem_of_getElem? ho)
    simp only [hot] at this
    exact Option.isSome_iff_exists.1 this) ops.length (Array.replicate ops.length false) (actOf n ρ) { w with drawn := w.drawn + 1 } (by simp) (Nat.le_trans (left_all ..) (by simp)) ?_
  · simpa using h1
  · have hLs : ∀ i, LsB (Array.replicate ops.length false) i = false := by
      intro i
      unfold LsB
      by_cases hi : i < ops.length
      · simp [hi]
      · simp [hi]
    refine ⟨fun _ => undef, fun _ => 0, [], ord, fun _ => false, ρ, h, ?_⟩
    refine { act := ?_, can := ?_, run := ?_, ord := hord, all := fun i hi => .inr (hall i hi), not := fun _ _ => rfl, mem := (fun _ hh => by cases hh), ndp := hnd, clL := ?_, clD := ?_, q := ?_, f := ?_, l := ?_, early := ?_, dist := ?_, pend := ?_, sub := ?_, fr := hf0 }
    · congr 1
      funext t
      unfold envS
      cases wr ops t with
      | none => rfl
      | some j => simp [hLs]
    · congr 1
      funext t
      unfold envS
      cases wr ops t with
      | none => rfl
      | some j => rfl
    · exact hx
    · intro i o _ hi; rw [hLs] at hi; cases hi
    · intro i o _ hi; cases hi
    · intro i o _ _ hi; rw [hLs] at hi; cases hi
    · intro i o _ _ hi; cases hi
    · intro i o _ _ _; exact hLs i
    · intro i o _ _ hi; rw [hLs] at hi; cases hi
    · intro i j oi oj _ _ _ _ hi; rw [hLs] at hi; cases hi
    · intro i o _ _ hi; cases hi
    · intro b c t hb; exact hs b c t hb
end
end Go.Proofs.YgvalwGreat.X
