import Derived.Test.YgvalwGreatE13
set_option linter.unusedVariables false
set_option linter.unusedSimpArgs false
namespace Go.Proofs.YgvalwGreat.X
open Go

/-- A number shifted down, the highest limb first. -/
def shD (s : Nat) : Nat → List Int → List Int
  | _, [] => []
  | x, d :: l => ((d.toNat / 2 ^ s + x * 2 ^ (64 - s) : Nat) : Int) :: shD s (d.toNat % 2 ^ s) l
theorem shD_len (s : Nat) : ∀ (c : Nat) (l : List Int), (shD s c l).length = l.length
  | _, [] => rfl
  | _, _ :: l => by simp [shD, shD_len s _ l]
theorem shD_step {s d x : Nat} (hs : s < 64) (hd : d < 18446744073709551616) (hx : x < 2 ^ s) : d / 2 ^ s + x * 2 ^ (64 - s) < 18446744073709551616 ∧ x * 18446744073709551616 + d = 2 ^ s * (d / 2 ^ s + x * 2 ^ (64 - s)) + d % 2 ^ s ∧ d / 2 ^ s ||| x * 2 ^ (64 - s) = d / 2 ^ s + x * 2 ^ (64 - s) ∧ d * 2 ^ (64 - s) % 18446744073709551616 = d % 2 ^ s * 2 ^ (64 - s) ∧ x * 2 ^ (64 - s) < 18446744073709551616 := by
  have hp : 2 ^ s * 2 ^ (64 - s) = 18446744073709551616 := by rw [← Nat.pow_add, show s + (64 - s) = 64 by omega]
  have hp0 : 0 < 2 ^ (64 - s) := Nat.pow_pos (by decide)
  have hps : 0 < 2 ^ s := Nat.pow_pos (by decide)
  have h1 : d / 2 ^ s < 2 ^ (64 - s) := (Nat.div_lt_iff_lt_mul hps).2 (by rw [Nat.mul_comm, hp]; exact hd)
  have h2 : (x + 1) * 2 ^ (64 - s) ≤ 2 ^ s * 2 ^ (64 - s) := Nat.mul_le_mul_right _ hx
  rw [hp, Nat.add_mul, Nat.one_mul] at h2
  have hdm := Nat.div_add_mod d (2 ^ s)
  have hor := Nat.two_pow_add_eq_or_of_lt h1 x
  rw [Nat.mul_comm (2 ^ (64 - s))] at hor
  refine ⟨by omega, ?_, ?_, ?_, by omega⟩
  · have : 2 ^ s * (d / 2 ^ s + x * 2 ^ (64 - s)) = 2 ^ s * (d / 2 ^ s) + x * 18446744073709551616 := by rw [← hp, Nat.mul_add]; congr 1; rw [Nat.mul_left_comm]
    omega
  · rw [Nat.or_comm, ← hor, Nat.add_comm]
  · rw [← hp, Nat.mul_mod_mul_right]
theorem lv_rev_cons (d : Int) (l : List Int) : lv (d :: l).reverse = lv l.reverse + 18446744073709551616 ^ l.length * d := by
  rw [List.reverse_cons, lv_append, List.length_reverse]; simp [lv]
theorem shD_ok {s : Nat} (hs : s < 64) : ∀ {x : Nat} {l : List Int}, isL l → x < 2 ^ s → isL (shD s x l) ∧ ∃ e : Nat, e < 2 ^ s ∧ lv l.reverse + 18446744073709551616 ^ l.length * x = lv (shD s x l).reverse * 2 ^ s + e
  | x, [], _, hx => ⟨fun d hd => (by cases hd), x, hx, by simp [lv, shD]⟩
  | x, d :: l, hL, hx => by
    obtain ⟨⟨hd0, hd1⟩, hl⟩ := hL.cons
    obtain ⟨n, rfl⟩ := Int.eq_ofNat_of_zero_le hd0
    have st := shD_step hs (show n < 18446744073709551616 by omega) hx
    obtain ⟨ih1, e, he, ih2⟩ := shD_ok hs (x := n % 2 ^ s) hl (Nat.mod_lt _ (Nat.pow_pos (by decide)))
    refine ⟨fun z hz => ?_, e, he, ?_⟩
    · simp only [shD, Int.toNat_natCast, List.mem_cons] at hz
      rcases hz with rfl | hz
      · unfold U; have := st.1; omega
      · exact ih1 z hz
    · simp only [shD, Int.toNat_natCast]
      rw [lv_rev_cons, lv_rev_cons, shD_len, List.length_cons, Int.pow_succ]
      have h5 := st.2.1
      have h3 : (x : Int) * 18446744073709551616 + n = 2 ^ s * ((n / 2 ^ s + x * 2 ^ (64 - s) : Nat) : Int) + ((n % 2 ^ s : Nat) : Int) := by
        have h4 : (2 : Int) ^ s * ((n / 2 ^ s + x * 2 ^ (64 - s) : Nat) : Int) = ((2 ^ s * (n / 2 ^ s + x * 2 ^ (64 - s)) : Nat) : Int) := by simp
        rw [h4]
        clear st ih1 ih2 h4
        generalize 2 ^ s * (n / 2 ^ s + x * 2 ^ (64 - s)) = q at *
        generalize n % 2 ^ s = p at *
        omega
      clear h5 st ih1
      generalize ((n / 2 ^ s + x * 2 ^ (64 - s) : Nat) : Int) = z at *
      generalize lv (shD s (n % 2 ^ s) l).reverse = M at *
      generalize ((n % 2 ^ s : Nat) : Int) = p at *
      generalize (2 : Int) ^ s = S at *
      generalize (18446744073709551616 : Int) ^ l.length = BL at *
      generalize lv l.reverse = L at *
      grind
section
variable {h : Hp} {K : Value → Hp → Prop} {pre post : List Value} {l : List Int} {m n cap s : Nat} {t : TypeId}
theorem shl64z {a s : Nat} (hs : s ≤ 64) : IntKind.u64.wrap ((a : Int) * 2 ^ min ((s : Int)).toNat IntKind.u64.bits) = ((a * 2 ^ s % 18446744073709551616 : Nat) : Int) := by
  rw [Int.toNat_natCast, show IntKind.u64.bits = 64 from rfl, Nat.min_eq_left (by omega), wrap_u64']
  have : (a : Int) * 2 ^ s = ((a * 2 ^ s : Nat) : Int) := by simp
  rw [this]; omega
set_option maxRecDepth 100000 in
set_option maxHeartbeats 4000000 in
theorem shiftDown_ok (hb : h m = some (pre ++ (ul l ++ post), t)) (hl : isL l) (hs : s < 64) (hn : l.length = n) (hn30 : n < 2 ^ 30) (hk : K (.tuple #[]) (hput h m (pre ++ (ul (shD s 0 l.reverse).reverse ++ post), t))) : CallX Hval.prog 376 [.slice (some ⟨m, pre.length, none⟩) n cap, .int .u8 s] h K := by
  refine CallX.of_xf T_ok Hval.func376 rfl (by kernel_rfl) (Nat.le_of_ble_eq_true rfl) ?_; conv => whnf
  refine CondX.dF (by omega) ?_; conv => whnf
  refine LoopX.st T_ok Hval.func376 (σ := Nat × List Int × Nat) (fun q => [(0, .slice (some ⟨m, pre.length, none⟩) n cap), (1, .int .u8 s), (4, .int .u64 ((q.2.2 * 2 ^ (64 - s) : Nat) : Int)), (5, .int .i64 q.1)])
    (fun q h' => q.1 ≤ n ∧ h' = hput h m (pre ++ (ul (l.take q.1 ++ q.2.1) ++ post), t) ∧ q.2.1.length = n - q.1 ∧ shD s 0 l.reverse = q.2.1.reverse ++ shD s q.2.2 (l.take q.1).reverse ∧ q.2.2 < 2 ^ s) (fun q => q.1) (n, [], 0)
    ⟨rfl, rfl, by rw [Nat.zero_mul]; rfl, rfl, trivial⟩ ⟨Nat.le_refl _, ?_, by simp, ?_, Nat.pow_pos (by decide)⟩ ?_
  · dsimp only
    rw [List.take_of_length_le (by omega), List.append_nil]
    exact (hput_id hb).symm
  · dsimp only
    rw [List.take_of_length_le (by omega)]; rfl
  rintro ⟨k, A, x⟩ ρ h' ⟨hk1, rfl, hA, hsh, hx⟩ ih
  dsimp only at hk1 hA hsh hx ⊢
  conv => whnf
  refine CondX.decI (fun hlt => ?_) (fun hlt => ?_) <;> conv => whnf
  · have hlt : 0 < k := by omega
    have hb1 := hput_same h m (pre ++ (ul (l.take k ++ A) ++ post), t)
    have hd := hl.get (k - 1)
    have htk : (l.take k).length = k := by simp; omega
    have hg : (l.take k ++ A).getD (k - 1) 0 = l.getD (k - 1) 0 := by
      rw [List.getD_eq_getElem?_getD, List.getElem?_append_left (by omega), List.getElem?_take_of_lt (by omega), ← List.getD_eq_getElem?_getD]
    obtain ⟨d, hde⟩ := Int.eq_ofNat_of_zero_le hd.1
    have hd64 : d < 18446744073709551616 := by have := hd.2; omega
    have htake : l.take k = l.take (k - 1) ++ [(d : Int)] := by
      rw [show k = (k - 1) + 1 by omega, List.take_succ_eq_append_getElem (by omega)]
      congr 2
      rw [← hde, List.getD_eq_getElem?_getD, List.getElem?_eq_getElem (by omega)]; rfl
    have st := shD_step hs hd64 hx
    have eI : IntKind.i64.wrap ((k : Int) - 1) = ((k - 1 : Nat) : Int) := by rw [wrap_i64 (by omega) (by omega)]; omega
    rw [eI]
    refine IdxX.at (by omega) (by omega) ?_; conv => whnf
    refine LoadX.lim hb1 (k - 1) (by simp [show y24.size = 1 from rfl]) (by simp; omega) ?_; conv => whnf
    rw [hg, hde]
    repeat (refine Ob.mk (by first | decide | omega) ?_; conv => whnf)
    rw [shrN (by omega), or64 (Nat.lt_of_le_of_lt (Nat.div_le_self _ _) hd64) st.2.2.2.2, st.2.2.1]
    rw [eI]
    refine IdxX.at (by omega) (by omega) ?_; conv => whnf
    refine StoreX.lim hb1 (k - 1) (by simp [show y24.size = 1 from rfl]) (by simp; omega) ?_; conv => whnf
    rw [hput_hput]
    rw [u8_sub hs]
    repeat (refine Ob.mk (by first | decide | omega) ?_; conv => whnf)
    rw [shl64z (by omega), st.2.2.2.1]
    refine ih (k - 1, ((d / 2 ^ s + x * 2 ^ (64 - s) : Nat) : Int) :: A, d % 2 ^ s) _ _ ⟨by dsimp only; omega, ?_, by simp [hA]; omega, ?_, Nat.mod_lt _ (Nat.pow_pos (by decide))⟩ (by dsimp only; omega) ⟨rfl, rfl, rfl, congrArg (Value.int .i64) eI, trivial⟩
    · dsimp only
      congr 4
      rw [htake, List.set_append_left _ _ (by simp; omega), List.set_append_right _ _ (by simp; omega)]
      simp
      rw [show k - 1 - min (k - 1) l.length = 0 by omega]
      rfl
    · dsimp only
      rw [hsh, htake, List.reverse_append]
      simp [shD]
  · have hkn : k = 0 := by omega
    subst hkn
    rw [List.take_zero] at hsh
    simp only [List.reverse_nil, shD, List.append_nil] at hsh
    rw [List.take_zero, List.nil_append]
    rw [hsh, List.reverse_reverse] at hk
    exact RetX.same hk
end
end Go.Proofs.YgvalwGreat.X
