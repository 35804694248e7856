import Derived.Test.YgvalwGreatF3
set_option linter.unusedVariables false
set_option linter.unusedSimpArgs false
namespace Go.Proofs.YgvalwGreat.X
open Go

/-- The value of the first i digits. -/
def pd (l : List Int) : Nat → Int
  | 0 => 0
  | i + 1 => pd l i + l.getD i 0 * 256 ^ i

theorem pd_cons (d : Int) (l : List Int) (i : Nat) : pd (d :: l) (i + 1) = d + 256 * pd l i := by
  induction i with
  | zero => simp [pd]
  | succ i ih =>
    rw [pd, ih, pd]
    simp only [List.getD_cons_succ]
    rw [Int.pow_succ]
    grind

theorem pd_nil (i : Nat) : pd [] i = 0 := by
  induction i with
  | zero => rfl
  | succ i ih => simp [pd, ih]

theorem pd_dv (l : List Int) {i : Nat} (hi : l.length ≤ i) : pd l i = dv l := by
  induction l generalizing i with
  | nil => exact pd_nil i
  | cons d l ih =>
    cases i with
    | zero => simp at hi
    | succ i => rw [pd_cons, dv, ih (by simpa using hi)]

theorem getD_set_same {l : List Int} {i : Nat} {d : Int} (hi : i < l.length) : (l.set i d).getD i 0 = d := by
  simp [hi]
theorem getD_set_other {l : List Int} {i j : Nat} {d : Int} (hij : j ≠ i) : (l.set i d).getD j 0 = l.getD j 0 := by
  simp [List.getElem?_set_ne (Ne.symm hij)]

theorem pd_congr {l l' : List Int} {i : Nat} (h : ∀ j, j < i → l.getD j 0 = l'.getD j 0) : pd l i = pd l' i := by
  induction i with
  | zero => rfl
  | succ i ih => rw [pd, pd, ih (fun j hj => h j (by omega)), h i (by omega)]

theorem pd_set {l : List Int} {i k : Nat} {d : Int} (hk : k ≤ i) : pd (l.set i d) k = pd l k :=
  pd_congr fun j hj => getD_set_other (by omega)

theorem dv_ext {l l' : List Int} (hl : l.length = l'.length) (h : ∀ j, j < l.length → l.getD j 0 = l'.getD j 0) : l = l' := by
  apply List.ext_getElem hl
  intro j h1 h2
  have := h j h1
  simpa [List.getElem?_eq_getElem h1, List.getElem?_eq_getElem h2] using this

theorem dv_lt_pow {l : List Int} (hb : isB l) : dv l < 256 ^ l.length := by
  induction l with
  | nil => simp [dv]
  | cons d l ih =>
    have h1 := hb d (List.mem_cons_self ..)
    have h2 := ih (fun x hx => hb x (List.mem_cons_of_mem _ hx))
    simp only [dv, List.length_cons]
    rw [Int.pow_succ]
    omega

theorem Tr_tail {d : Int} {l : List Int} (hl : l ≠ []) (ht : Tr (d :: l)) : Tr l := by
  unfold Tr at *
  cases l with
  | nil => exact absurd rfl hl
  | cons e l => simpa using ht

theorem pow_le_dv {l : List Int} (hb : isB l) (ht : Tr l) (hl : l ≠ []) : 256 ^ (l.length - 1) ≤ dv l := by
  induction l with
  | nil => exact absurd rfl hl
  | cons d l ih =>
    have h1 := hb d (List.mem_cons_self ..)
    have hb' : isB l := fun x hx => hb x (List.mem_cons_of_mem _ hx)
    by_cases hn : l = []
    · subst hn
      simp [Tr] at ht
      simp [dv]; omega
    · have h2 := ih hb' (Tr_tail hn ht) hn
      have hpos : 0 < l.length := List.length_pos_iff.2 hn
      simp only [dv, List.length_cons, Nat.add_sub_cancel]
      have : (256 : Int) ^ l.length = 256 ^ (l.length - 1) * 256 := by
        rw [← Int.pow_succ]; congr 1; omega
      omega

theorem dv_lt_of_len {a b : List Int} (ha : isB a) (hb : isB b) (ht : Tr b) (hl : a.length < b.length) : dv a < dv b := by
  have h1 := dv_lt_pow ha
  have h2 := pow_le_dv hb ht (by rintro rfl; simp at hl)
  have h3 : (256 : Int) ^ a.length ≤ 256 ^ (b.length - 1) := by
    obtain ⟨k, hk⟩ : ∃ k, b.length - 1 = a.length + k := ⟨b.length - 1 - a.length, by omega⟩
    rw [hk, Int.pow_add]
    have h4 : (0 : Int) < 256 ^ k := Int.pow_pos (by decide)
    have h5 : (0 : Int) < 256 ^ a.length := Int.pow_pos (by decide)
    have := Int.mul_le_mul_of_nonneg_left (show (1 : Int) ≤ 256 ^ k by omega) (show (0 : Int) ≤ 256 ^ a.length by omega)
    omega
  omega

theorem dv_lt_of_digit : ∀ {a b : List Int}, isB a → isB b → a.length = b.length → ∀ i, a.getD i 0 < b.getD i 0 → (∀ j, i < j → a.getD j 0 = b.getD j 0) → dv a < dv b
  | [], [], _, _, _, i, hi, _ => by simp at hi
  | [], _ :: _, _, _, hl, _, _, _ => by simp at hl
  | _ :: _, [], _, _, hl, _, _, _ => by simp at hl
  | x :: a, y :: b, ha, hb, hl, i, hi, hj => by
    have h1 := ha x (List.mem_cons_self ..)
    have h2 := hb y (List.mem_cons_self ..)
    have ha' : isB a := fun z hz => ha z (List.mem_cons_of_mem _ hz)
    have hb' : isB b := fun z hz => hb z (List.mem_cons_of_mem _ hz)
    have hl' : a.length = b.length := by simpa using hl
    cases i with
    | zero =>
      have : a = b := dv_ext hl' fun j _ => by have := hj (j + 1) (by omega); simpa using this
      subst this
      simp at hi
      simp only [dv]; omega
    | succ i =>
      have := dv_lt_of_digit ha' hb' hl' i (by simpa using hi) (fun j hjj => by have := hj (j + 1) (by omega); simpa using this)
      simp only [dv]; omega

theorem dv_inj {a b : List Int} (ha : isB a) (hb : isB b) (hl : a.length = b.length) (h : dv a = dv b) : a = b := by
  induction a generalizing b with
  | nil => cases b with
    | nil => rfl
    | cons y b => simp at hl
  | cons x a ih => cases b with
    | nil => simp at hl
    | cons y b =>
      have h1 := ha x (List.mem_cons_self ..)
      have h2 := hb y (List.mem_cons_self ..)
      simp only [dv] at h
      have e1 : x = y := by omega
      have e2 : dv a = dv b := by omega
      rw [e1, ih (fun z hz => ha z (List.mem_cons_of_mem _ hz)) (fun z hz => hb z (List.mem_cons_of_mem _ hz)) (by simpa using hl) e2]

theorem Tr_unique {a b : List Int} (ha : isB a) (hb : isB b) (hta : Tr a) (htb : Tr b) (h : dv a = dv b) : a = b := by
  rcases Nat.lt_trichotomy a.length b.length with hl | hl | hl
  · have := dv_lt_of_len ha hb htb hl; omega
  · exact dv_inj ha hb hl h
  · have := dv_lt_of_len hb ha hta hl; omega

/-- A bound of all the specification's numbers. -/
def big : Int := 256 ^ 200
theorem big_val : big = 256 ^ 200 := rfl

theorem Tr_len {l : List Int} (hb : isB l) (ht : Tr l) (hx : dv l < big) : l.length ≤ 200 := by
  rcases Nat.lt_or_ge 200 l.length with h1 | h1
  · have h2 := pow_le_dv hb ht (by rintro rfl; simp at h1)
    obtain ⟨k, hk⟩ : ∃ k, l.length - 1 = 200 + k := ⟨l.length - 1 - 200, by omega⟩
    rw [hk, Int.pow_add, ← big_val] at h2
    have h4 : (0 : Int) < 256 ^ k := Int.pow_pos (by decide)
    have h5 : 0 ≤ dv l := dv_nonneg hb
    have := Int.mul_le_mul_of_nonneg_left (show (1 : Int) ≤ 256 ^ k by omega) (show (0 : Int) ≤ big by omega)
    omega
  · exact h1

def cmpI (x y : Int) : Int := if x < y then -1 else if y < x then 1 else 0

theorem wrap_u8 (x : Int) : IntKind.u8.wrap x = x % 256 := by simp [IntKind.wrap, IntKind.signed, IntKind.bits]
theorem wrap_u16 (x : Int) : IntKind.u16.wrap x = x % 65536 := by simp [IntKind.wrap, IntKind.signed, IntKind.bits]
theorem wrap_u32 (x : Int) : IntKind.u32.wrap x = x % 4294967296 := by simp [IntKind.wrap, IntKind.signed, IntKind.bits]
theorem shr_nn {x : Int} (h0 : 0 ≤ x) (k : Nat) : x.fdiv (2 ^ k) = x / 2 ^ k := Int.fdiv_eq_ediv_of_nonneg _ (by
  have : (0 : Int) < 2 ^ k := Int.pow_pos (by decide)
  omega)
end Go.Proofs.YgvalwGreat.X
