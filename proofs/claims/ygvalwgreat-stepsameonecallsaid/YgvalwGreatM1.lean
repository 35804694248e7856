import Derived.Test.YgvalwGreatE59
import Derived.Test.YgvalwGreatK6
set_option linter.unusedVariables false
set_option linter.unusedSimpArgs false
namespace Go.Proofs.YgvalwGreat.X
open Go

/-! ### THE MACHINE's CELLS -/
structure MF where
  kind : Int
  depth : Int
  natv : Int
  static : Bool
  pc : Nat
  sb : Nat
  sp : Nat
  gas : Int
  snap : Nat
  self : List Int
  caller : List Int
  val : Int
  cs : Sl
  code : List Int
  is : Sl
  input : List Int
  dst : Nat → Int
  oo : Int
  ol : Int
def wcD (x : Int) (i : Nat) : Value := (wc x).getD i (.bool false)
def fcell (f : MF) (j : Nat) : Value :=
  if j = 0 then .int .u8 f.kind else if j = 1 then .int .u8 f.depth else if j = 2 then .int .u8 f.natv else if j = 3 then .bool f.static
  else if j = 4 then .int .u16 f.pc else if j = 5 then .int .u16 f.sb else if j = 6 then .int .u16 f.sp else if j = 7 then .int .u64 f.gas else if j = 8 then .int .i32 f.snap
  else if j < 29 then .int .u8 (f.self.getD (j - 9) 0) else if j < 49 then .int .u8 (f.caller.getD (j - 29) 0) else if j < 53 then wcD f.val (j - 49)
  else if j = 53 then sl f.cs else if j = 54 then sl f.is else if j < 63 then .int .u64 (f.dst (j - 55)) else if j = 63 then .int .u32 f.oo else .int .u32 f.ol
structure MS where
  bufS : Sl
  base : Nat → Int
  mtop : Int
  stk : Nat → Int
  fr : Nat → MF
  top : Int
  retS : Sl
  ret : List Int
  env : Nat → Value
  origin : List Int
  price : Int
  phase : Int
  status : Int
  applied : Int
  limit : Int
  txgas : Int
  held : Int
  a0 : Int
  s0 : Int
  made : List Int
  tree : Nat → Value
def mC (eb : Nat) (m : MS) (k : Nat) : Value :=
  if k = 0 then .pointer (some ⟨eb, 2435, none⟩) else if k = 1 then sl m.bufS else if k < 10 then .int .u32 (m.base (k - 2)) else if k = 10 then .int .u8 m.mtop
  else if k < 1803 then wcD (m.stk ((k - 11) / 4)) ((k - 11) % 4) else if k < 2258 then fcell (m.fr ((k - 1803) / 65)) ((k - 1803) % 65)
  else if k = 2258 then .int .i8 m.top else if k = 2259 then sl m.retS else if k < 2380 then m.env (k - 2260) else if k < 2400 then .int .u8 (m.origin.getD (k - 2380) 0)
  else if k < 2404 then wcD m.price (k - 2400) else if k = 2404 then .int .u8 m.phase else if k = 2405 then .int .u8 m.status else if k = 2406 then .int .u8 m.applied
  else if k = 2407 then .int .u64 m.limit else if k = 2408 then .int .u64 m.txgas else if k < 2413 then wcD m.held (k - 2409) else if k = 2413 then .int .i32 m.a0
  else if k = 2414 then .int .i32 m.s0 else if k < 2435 then .int .u8 (m.made.getD (k - 2415) 0) else m.tree k
section
variable {eb : Nat} {m : MS} {v : VS}
theorem eM {mc : Nat → Value} {k : Nat} (h : k < 2435) : eC mc v k = mc k := if_pos h
theorem mR_S : eC (mC eb m) v 0 = .pointer (some ⟨eb, 2435, none⟩) := rfl
theorem mR_buf : eC (mC eb m) v 1 = sl m.bufS := rfl
theorem mR_mtop : eC (mC eb m) v 10 = .int .u8 m.mtop := rfl
theorem mR_top : eC (mC eb m) v 2258 = .int .i8 m.top := rfl
theorem mR_ret : eC (mC eb m) v 2259 = sl m.retS := rfl
theorem mR_phase : eC (mC eb m) v 2404 = .int .u8 m.phase := rfl
theorem mR_base {i : Nat} (h : i < 8) : eC (mC eb m) v (2 + i) = .int .u32 (m.base i) := by
  rw [eM (by omega)]
  unfold mC
  rw [if_neg (by omega), if_neg (by omega), if_pos (by omega), show 2 + i - 2 = i by omega]
theorem mR_stk {i j : Nat} (h : i < 448) (hj : j < 4) : eC (mC eb m) v (11 + i * 4 + j) = wcD (m.stk i) j := by
  rw [eM (by omega)]
  unfold mC
  rw [if_neg (by omega), if_neg (by omega), if_neg (by omega), if_neg (by omega), if_pos (by omega), show (11 + i * 4 + j - 11) / 4 = i by omega, show (11 + i * 4 + j - 11) % 4 = j by omega]
theorem mF_at {t j : Nat} (h : t < 7) (hj : j < 65) : mC eb m (1803 + t * 65 + j) = fcell (m.fr t) j := by
  unfold mC
  rw [if_neg (by omega), if_neg (by omega), if_neg (by omega), if_neg (by omega), if_neg (by omega), if_pos (by omega), show (1803 + t * 65 + j - 1803) / 65 = t by omega, show (1803 + t * 65 + j - 1803) % 65 = j by omega]
theorem mR_fr {t j : Nat} (h : t < 7) (hj : j < 65) : eC (mC eb m) v (1803 + t * 65 + j) = fcell (m.fr t) j := by
  rw [eM (by omega), mF_at h hj]
section
variable {t : Nat}
theorem mR_kind (h : t < 7) : eC (mC eb m) v (1803 + t * 65) = .int .u8 (m.fr t).kind := mR_fr (j := 0) h (by omega)
theorem mR_depth (h : t < 7) : eC (mC eb m) v (1803 + t * 65 + 1) = .int .u8 (m.fr t).depth := mR_fr h (by omega)
theorem mR_native (h : t < 7) : eC (mC eb m) v (1803 + t * 65 + 2) = .int .u8 (m.fr t).natv := mR_fr h (by omega)
theorem mR_static (h : t < 7) : eC (mC eb m) v (1803 + t * 65 + 3) = .bool (m.fr t).static := mR_fr h (by omega)
theorem mR_pc (h : t < 7) : eC (mC eb m) v (1803 + t * 65 + 4) = .int .u16 (m.fr t).pc := mR_fr h (by omega)
theorem mR_sb (h : t < 7) : eC (mC eb m) v (1803 + t * 65 + 5) = .int .u16 (m.fr t).sb := mR_fr h (by omega)
theorem mR_sp (h : t < 7) : eC (mC eb m) v (1803 + t * 65 + 6) = .int .u16 (m.fr t).sp := mR_fr h (by omega)
theorem mR_gas (h : t < 7) : eC (mC eb m) v (1803 + t * 65 + 7) = .int .u64 (m.fr t).gas := mR_fr h (by omega)
theorem mR_snap (h : t < 7) : eC (mC eb m) v (1803 + t * 65 + 8) = .int .i32 (m.fr t).snap := mR_fr h (by omega)
theorem mR_cs (h : t < 7) : eC (mC eb m) v (1803 + t * 65 + 53) = sl (m.fr t).cs := mR_fr h (by omega)
theorem mR_is (h : t < 7) : eC (mC eb m) v (1803 + t * 65 + 54) = sl (m.fr t).is := mR_fr h (by omega)
theorem mR_dst (h : t < 7) {i : Nat} (hi : i < 8) : eC (mC eb m) v (1803 + t * 65 + 55 + i) = .int .u64 ((m.fr t).dst i) := by
  rw [show 1803 + t * 65 + 55 + i = 1803 + t * 65 + (55 + i) by omega, mR_fr h (by omega)]
  unfold fcell
  rw [if_neg (by omega), if_neg (by omega), if_neg (by omega), if_neg (by omega), if_neg (by omega), if_neg (by omega), if_neg (by omega), if_neg (by omega), if_neg (by omega), if_neg (by omega), if_neg (by omega), if_neg (by omega), if_neg (by omega), if_neg (by omega), if_pos (by omega), show 55 + i - 55 = i by omega]
theorem mR_oo (h : t < 7) : eC (mC eb m) v (1803 + t * 65 + 63) = .int .u32 (m.fr t).oo := mR_fr h (by omega)
theorem mR_ol (h : t < 7) : eC (mC eb m) v (1803 + t * 65 + 64) = .int .u32 (m.fr t).ol := mR_fr h (by omega)
theorem mR_self (h : t < 7) (hl : (m.fr t).self.length = 20) : (fnv 20 fun i => eC (mC eb m) v (1803 + t * 65 + 9 + i)) = bcells (m.fr t).self := by
  refine (list_fnv (by rw [bcells_length, hl]) fun i hi => ?_).symm
  rw [show 1803 + t * 65 + 9 + i = 1803 + t * 65 + (9 + i) by omega, mR_fr h (by omega)]
  unfold fcell bcells
  rw [if_neg (by omega), if_neg (by omega), if_neg (by omega), if_neg (by omega), if_neg (by omega), if_neg (by omega), if_neg (by omega), if_neg (by omega), if_neg (by omega), if_pos (by omega), show 9 + i - 9 = i by omega, List.getElem?_map, List.getD_eq_getElem?_getD, List.getElem?_eq_getElem (by omega)]; rfl
theorem mR_caller (h : t < 7) (hl : (m.fr t).caller.length = 20) : (fnv 20 fun i => eC (mC eb m) v (1803 + t * 65 + 29 + i)) = bcells (m.fr t).caller := by
  refine (list_fnv (by rw [bcells_length, hl]) fun i hi => ?_).symm
  rw [show 1803 + t * 65 + 29 + i = 1803 + t * 65 + (29 + i) by omega, mR_fr h (by omega)]
  unfold fcell bcells
  rw [if_neg (by omega), if_neg (by omega), if_neg (by omega), if_neg (by omega), if_neg (by omega), if_neg (by omega), if_neg (by omega), if_neg (by omega), if_neg (by omega), if_neg (by omega), if_pos (by omega), show 29 + i - 29 = i by omega, List.getElem?_map, List.getD_eq_getElem?_getD, List.getElem?_eq_getElem (by omega)]; rfl
theorem mR_val (h : t < 7) : (fnv 4 fun i => eC (mC eb m) v (1803 + t * 65 + 49 + i)) = wc (m.fr t).val := by
  have e : ∀ i, i < 4 → eC (mC eb m) v (1803 + t * 65 + 49 + i) = wcD (m.fr t).val i := fun i hi => by
    rw [show 1803 + t * 65 + 49 + i = 1803 + t * 65 + (49 + i) by omega, mR_fr h (by omega)]
    unfold fcell
    rw [if_neg (by omega), if_neg (by omega), if_neg (by omega), if_neg (by omega), if_neg (by omega), if_neg (by omega), if_neg (by omega), if_neg (by omega), if_neg (by omega), if_neg (by omega), if_neg (by omega), if_pos (by omega), show 49 + i - 49 = i by omega]
  rw [fnv_ext e]; rfl
end
theorem mR_word {i : Nat} (h : i < 448) : (fnv 4 fun j => eC (mC eb m) v (11 + i * 4 + j)) = wc (m.stk i) := by
  rw [fnv_ext fun j hj => mR_stk h hj]; rfl
/-! Changes. -/
theorem mC_fr (f : Nat → MF) {k : Nat} (h : k < 1803 ∨ 2258 ≤ k) : mC eb { m with fr := f } k = mC eb m k := by
  unfold mC
  dsimp only
  rcases h with h | h
  · simp only [if_pos h]
  · simp only [if_neg (show ¬ k < 2258 by omega)]
set_option maxRecDepth 100000 in
set_option maxHeartbeats 4000000 in
theorem mU_fr {t j : Nat} {x : Value} {f : MF} (h : t < 7) (hj : j < 65) (hf : ∀ i, i < 65 → fcell f i = if i = j then x else fcell (m.fr t) i) : updV (mC eb m) (1803 + t * 65 + j) x = mC eb { m with fr := updN m.fr t f } := by
  funext k
  unfold updV
  by_cases hk : k < 1803 ∨ 2258 ≤ k
  · rw [if_neg (by omega)]; exact (mC_fr _ hk).symm
  · obtain ⟨t', j', ht', hj', rfl⟩ : ∃ t' j', t' < 7 ∧ j' < 65 ∧ k = 1803 + t' * 65 + j' := ⟨(k - 1803) / 65, (k - 1803) % 65, by omega, by omega, by omega⟩
    rw [mF_at ht' hj', mF_at (m := { m with fr := updN m.fr t f }) ht' hj']
    dsimp only
    unfold updN
    by_cases htt : t' = t
    · subst htt
      rw [if_pos rfl, hf j' hj']
      by_cases hjj : j' = j
      · subst hjj; rw [if_pos rfl, if_pos rfl]
      · rw [if_neg (by omega), if_neg hjj]
    · rw [if_neg htt, if_neg (by omega)]
end
section
variable {eb : Nat} {m : MS} {v : VS} {t : Nat}
theorem eU_fr (h : t < 7) {j : Nat} {x : Value} (f : MF) (hj : j < 65) (hf : ∀ i, i < 65 → fcell f i = if i = j then x else fcell (m.fr t) i) : updV (eC (mC eb m) v) (1803 + t * 65 + j) x = eC (mC eb { m with fr := updN m.fr t f }) v := by
  rw [eU_m (by omega), mU_fr h hj hf]
theorem eU_pc (h : t < 7) (x : Nat) : updV (eC (mC eb m) v) (1803 + t * 65 + 4) (.int .u16 x) = eC (mC eb { m with fr := updN m.fr t { m.fr t with pc := x } }) v := eU_fr h _ (by omega) fun i _ => by
  unfold fcell; by_cases hi : i = 4
  · subst hi; rfl
  · simp only [if_neg hi]
theorem eU_sp (h : t < 7) (x : Nat) : updV (eC (mC eb m) v) (1803 + t * 65 + 6) (.int .u16 x) = eC (mC eb { m with fr := updN m.fr t { m.fr t with sp := x } }) v := eU_fr h _ (by omega) fun i _ => by
  unfold fcell; by_cases hi : i = 6
  · subst hi; rfl
  · simp only [if_neg hi]
theorem eU_gas (h : t < 7) (x : Int) : updV (eC (mC eb m) v) (1803 + t * 65 + 7) (.int .u64 x) = eC (mC eb { m with fr := updN m.fr t { m.fr t with gas := x } }) v := eU_fr h _ (by omega) fun i _ => by
  unfold fcell; by_cases hi : i = 7
  · subst hi; rfl
  · simp only [if_neg hi]
theorem eU_oo (h : t < 7) (x : Int) : updV (eC (mC eb m) v) (1803 + t * 65 + 63) (.int .u32 x) = eC (mC eb { m with fr := updN m.fr t { m.fr t with oo := x } }) v := eU_fr h _ (by omega) fun i _ => by
  unfold fcell; by_cases hi : i = 63
  · subst hi; rfl
  · simp only [if_neg hi]
theorem eU_ol (h : t < 7) (x : Int) : updV (eC (mC eb m) v) (1803 + t * 65 + 64) (.int .u32 x) = eC (mC eb { m with fr := updN m.fr t { m.fr t with ol := x } }) v := eU_fr h _ (by omega) fun i hi65 => by
  unfold fcell; by_cases hi : i = 64
  · subst hi; rfl
  · by_cases h0 : i = 63
    · subst h0; rfl
    · rw [if_neg hi]
      have hlt : i < 63 := by omega
      simp only [if_pos hlt]
end
end Go.Proofs.YgvalwGreat.X
