import Derived.Test.YgvalwGreatE11
set_option linter.unusedVariables false
set_option linter.unusedSimpArgs false
namespace Go.Proofs.YgvalwGreat.X
open Go

theorem ul_get {pre post : List Value} {l : List Int} {j : Nat} (hj : j < l.length) : (pre ++ (ul l ++ post))[pre.length + j]? = some (.int .u64 (l.getD j 0)) := by
  rw [List.getElem?_append_right (by omega), Nat.add_sub_cancel_left, List.getElem?_append_left (by rw [ul_len]; exact hj)]
  unfold ul
  rw [List.getElem?_map, List.getElem?_eq_getElem hj, List.getD_eq_getElem?_getD, List.getElem?_eq_getElem hj]
  rfl
theorem ul_set {pre post : List Value} {l : List Int} {j : Nat} {v : Int} (hj : j < l.length) : setSeg (pre ++ (ul l ++ post)) (pre.length + j) [.int .u64 v] = pre ++ (ul (l.set j v) ++ post) := by
  rw [set_mid (by rw [ul_len]; exact hj)]
  unfold ul
  rw [List.map_set]
theorem isL.get {l : List Int} (h : isL l) (j : Nat) : U (l.getD j 0) := by
  rw [List.getD_eq_getElem?_getD]
  by_cases hj : j < l.length
  · rw [List.getElem?_eq_getElem hj]; exact h _ (List.getElem_mem hj)
  · rw [List.getElem?_eq_none (by omega)]; unfold U; simp
theorem isL.set {l : List Int} (h : isL l) {j : Nat} {v : Int} (hv : U v) : isL (l.set j v) := fun d hd => (List.mem_or_eq_of_mem_set hd).elim (h d) fun e => e ▸ hv
section
variable {h : Hp} {K : Value → Hp → Prop} {pre post : List Value} {l : List Int} {m : Nat} {t : TypeId}
theorem LoadX.lim {o : Nat} {KK : Value → Prop} (hb : h m = some (pre ++ (ul l ++ post), t)) (j : Nat) (ho : o = pre.length + j) (hj : j < l.length) (hk : KK (.int .u64 (l.getD j 0))) : LoadX false 1 h m o KK := by
  subst ho; exact LoadX.of _ (ldV_blk hb (ul_get hj)) hk
theorem StoreX.lim {o : Nat} {v : Int} {KK : Hp → Prop} (hb : h m = some (pre ++ (ul l ++ post), t)) (j : Nat) (ho : o = pre.length + j) (hj : j < l.length) (hk : KK (hput h m (pre ++ (ul (l.set j v) ++ post), t))) : StoreX h m o [.int .u64 v] KK := by
  subst ho
  refine StoreX.at hb (by simp [ul_len]; omega) ?_
  rw [ul_set hj]; exact hk
set_option maxRecDepth 100000 in
set_option maxHeartbeats 4000000 in
theorem nDiv64_ok {hi lo y : Nat} (hhi : hi < 18446744073709551616) (hlo : lo < 18446744073709551616) (hy : y < 18446744073709551616)
    (hk0 : y ≤ hi → K (.tuple #[.int .u64 0, .int .u64 0, .bool false]) h)
    (hk : hi < y → K (.tuple #[.int .u64 (((hi * 18446744073709551616 + lo) / y : Nat) : Int), .int .u64 (((hi * 18446744073709551616 + lo) % y : Nat) : Int), .bool true]) h) : CallX Hval.prog 346 [.int .u64 hi, .int .u64 lo, .int .u64 y] h K := by
  refine CallX.of_xf T_ok Hval.func346 rfl (by kernel_rfl) (Nat.le_of_ble_eq_true rfl) ?_; conv => whnf
  refine CondX.eqI (fun h0 => ?_) (fun h0 => ?_) <;> conv => whnf
  · repeat (first | (refine CondX.tt ?_; conv => whnf) | (refine CondX.ff ?_; conv => whnf))
    exact RetX.same (hk0 (by omega))
  · repeat (first | (refine CondX.tt ?_; conv => whnf) | (refine CondX.ff ?_; conv => whnf))
    refine CondX.decI (fun h1 => ?_) (fun h1 => ?_) <;> conv => whnf
    · exact RetX.same (hk0 (by omega))
    · refine bDiv64_ok (by omega) hlo hy ?_; conv => whnf
      exact RetX.same (hk (by omega))
/-- A number shifted up, limb by limb. -/
def shU (s : Nat) : Nat → List Int → List Int
  | _, [] => []
  | c, d :: l => ((d.toNat * 2 ^ s % 18446744073709551616 + c : Nat) : Int) :: shU s (d.toNat / 2 ^ (64 - s)) l
theorem shU_len (s : Nat) : ∀ (c : Nat) (l : List Int), (shU s c l).length = l.length
  | _, [] => rfl
  | _, _ :: l => by simp [shU, shU_len s _ l]
theorem shU_step {s d c : Nat} (hs : s < 64) (hd : d < 18446744073709551616) (hc : c < 2 ^ s) : d * 2 ^ s % 18446744073709551616 + c < 18446744073709551616 ∧ d / 2 ^ (64 - s) < 2 ^ s ∧ d * 2 ^ s + c = (d * 2 ^ s % 18446744073709551616 + c) + 18446744073709551616 * (d / 2 ^ (64 - s)) ∧ d * 2 ^ s % 18446744073709551616 ||| c = d * 2 ^ s % 18446744073709551616 + c := by
  have hp : 2 ^ s * 2 ^ (64 - s) = 18446744073709551616 := by rw [← Nat.pow_add, show s + (64 - s) = 64 by omega]
  have hp0 : 0 < 2 ^ (64 - s) := Nat.pow_pos (by decide)
  have hps : 0 < 2 ^ s := Nat.pow_pos (by decide)
  have e : d * 2 ^ s / 18446744073709551616 = d / 2 ^ (64 - s) := by rw [← hp, Nat.mul_comm d, Nat.mul_div_mul_left _ _ hps]
  have em : d * 2 ^ s % 18446744073709551616 = d % 2 ^ (64 - s) * 2 ^ s := by rw [← hp, Nat.mul_comm (2 ^ s), Nat.mul_mod_mul_right]
  have hdm := Nat.div_add_mod (d * 2 ^ s) 18446744073709551616
  rw [e] at hdm
  have hlt : d % 2 ^ (64 - s) < 2 ^ (64 - s) := Nat.mod_lt _ hp0
  have h1 : (d % 2 ^ (64 - s) + 1) * 2 ^ s ≤ 2 ^ (64 - s) * 2 ^ s := Nat.mul_le_mul_right _ hlt
  rw [Nat.mul_comm (2 ^ (64 - s)), hp, Nat.add_mul, Nat.one_mul] at h1
  have hor := Nat.two_pow_add_eq_or_of_lt hc (d % 2 ^ (64 - s))
  rw [Nat.mul_comm (2 ^ s)] at hor
  refine ⟨by omega, (Nat.div_lt_iff_lt_mul hp0).2 (by rw [hp]; exact hd), by omega, by rw [em]; exact hor.symm⟩
theorem shU_ok {s : Nat} (hs : s < 64) : ∀ {c : Nat} {l : List Int}, isL l → c < 2 ^ s → isL (shU s c l) ∧ ∃ e : Nat, e < 2 ^ s ∧ lv l * 2 ^ s + c = lv (shU s c l) + 18446744073709551616 ^ l.length * e
  | c, [], _, hc => ⟨fun d hd => (by cases hd), c, hc, by simp [lv, shU]⟩
  | c, d :: l, hL, hc => by
    obtain ⟨⟨hd0, hd1⟩, hl⟩ := hL.cons
    obtain ⟨n, rfl⟩ := Int.eq_ofNat_of_zero_le hd0
    have st := shU_step hs (show n < 18446744073709551616 by omega) hc
    obtain ⟨ih1, e, he, ih2⟩ := shU_ok hs (c := n / 2 ^ (64 - s)) hl st.2.1
    refine ⟨fun x hx => ?_, e, he, ?_⟩
    · simp only [shU, Int.toNat_natCast, List.mem_cons] at hx
      rcases hx with rfl | hx
      · unfold U; omega
      · exact ih1 x hx
    · simp only [lv, shU, Int.toNat_natCast, List.length_cons, Int.pow_succ]
      have h4 : (n : Int) * 2 ^ s = ((n * 2 ^ s : Nat) : Int) := by simp
      have h5 := st.2.2.1
      have h3 : ((n : Int) * 2 ^ s + c) = (((n * 2 ^ s % 18446744073709551616 + c : Nat) : Int)) + 18446744073709551616 * ((n / 2 ^ (64 - s) : Nat) : Int) := by
        rw [h4]
        clear st ih1 ih2 h4
        generalize n / 2 ^ (64 - s) = p at *
        generalize n * 2 ^ s = q at *
        omega
      clear h4 h5 st
      generalize ((n / 2 ^ (64 - s) : Nat) : Int) = p at *
      generalize ((n * 2 ^ s % 18446744073709551616 + c : Nat) : Int) = z at *
      generalize (2 : Int) ^ s = S at *
      generalize (18446744073709551616 : Int) ^ l.length = BL at *
      generalize lv l = L at *
      generalize lv (shU s (n / 2 ^ (64 - s)) l) = M at *
      grind
end
end Go.Proofs.YgvalwGreat.X
