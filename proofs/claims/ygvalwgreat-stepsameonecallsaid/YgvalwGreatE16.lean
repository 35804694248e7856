import Derived.Test.YgvalwGreatE15
set_option linter.unusedVariables false
set_option linter.unusedSimpArgs false
namespace Go.Proofs.YgvalwGreat.X
open Go

section
variable {h : Hp} {K : Value → Hp → Prop}
set_option maxRecDepth 100000 in
set_option maxHeartbeats 4000000 in
theorem trial_ok {high mid low top next : Nat} (h1 : high ≤ top) (h2 : mid < 18446744073709551616) (h3 : low < 18446744073709551616) (h4 : top < 18446744073709551616) (h5 : next < 18446744073709551616) (h6 : 0 < top)
    (hk : ∀ (q : Nat) (f : Int), q < 18446744073709551616 → q * (top * 18446744073709551616 + next) ≤ (high * 18446744073709551616 + mid) * 18446744073709551616 + low → ((high * 18446744073709551616 + mid) * 18446744073709551616 + low < (q + 1) * (top * 18446744073709551616 + next) ∨ q + 1 = 18446744073709551616) → K (.tuple #[.int .u64 q, .int .u8 f]) h) :
    CallX Hval.prog 391 [.int .u64 high, .int .u64 mid, .int .u64 low, .int .u64 top, .int .u64 next] h K := by
  have main : ∀ {q r : Nat} {o : Nat} {f : Int}, Tri 18446744073709551616 top next (high * 18446744073709551616 + mid) low q (r + o * 18446744073709551616) → True := fun _ => trivial
  refine CallX.of_xf T_ok Hval.func391 rfl (by kernel_rfl) (Nat.le_of_ble_eq_true rfl) ?_; conv => whnf
  refine nDiv64_ok (by omega) h2 h4 (fun hge => ?_) fun hlt => ?_
  · have he : high = top := by omega
    subst he
    conv => whnf
    repeat (first | (refine CondX.tt ?_; conv => whnf) | (refine CondX.ff ?_; conv => whnf))
    refine add64_rel (by omega) (by omega) (by omega) (by omega) (by omega) (by omega) fun r o hr0 hr1 ho0 ho1 er => ?_; conv => whnf
    obtain ⟨r, rfl⟩ := Int.eq_ofNat_of_zero_le hr0
    obtain ⟨o, rfl⟩ := Int.eq_ofNat_of_zero_le ho0
    have hT : Tri 18446744073709551616 high next (high * 18446744073709551616 + mid) low 18446744073709551615 (r + o * 18446744073709551616) := by
      have := Tri.top (b := 18446744073709551616) (v1 := high) (v0 := next) (mid := mid) (u1 := low) (by omega)
      have e : r + o * 18446744073709551616 = mid + high := by omega
      rw [e]
      exact this
    refine LoopX.st T_ok Hval.func391 (σ := Nat × Nat × Nat × Int) (fun q => [(2, .int .u64 low), (3, .int .u64 high), (4, .int .u64 next), (10, .int .u64 q.1), (11, .int .u8 q.2.2.2), (12, .int .u64 q.2.1), (14, .int .u64 q.2.2.1)])
      (fun q h' => h' = h ∧ Tri 18446744073709551616 high next (high * 18446744073709551616 + mid) low q.1 (q.2.1 + q.2.2.1 * 18446744073709551616) ∧ q.2.1 < 18446744073709551616 ∧ q.2.2.1 ≤ 1) (fun q => q.1) (18446744073709551615, r, o, 0) ⟨rfl, rfl, rfl, rfl, rfl, rfl, by first | rfl | (rw [ho]; rfl), trivial⟩ ⟨rfl, hT, by dsimp only; omega, by dsimp only; omega⟩ ?_
    rintro ⟨q, r, o, f⟩ ρ h' ⟨rfl, T, hrr, hoo⟩ ih
    dsimp only at T hrr hoo ⊢
    clear hT
    conv => whnf
    have hql := T.lt
    refine CondX.eqI (fun hz => ?_) (fun hz => ?_) <;> conv => whnf
    · have hz : o = 0 := by omega
      subst hz
      rw [Nat.zero_mul, Nat.add_zero] at T
      refine mul64_rel (by omega) (by omega) (by omega) (by omega) fun ph pl hp0 hp1 hl0 hl1 ep => ?_; conv => whnf
      obtain ⟨ph, rfl⟩ := Int.eq_ofNat_of_zero_le hp0
      obtain ⟨pl, rfl⟩ := Int.eq_ofNat_of_zero_le hl0
      have ep2 : ph * 18446744073709551616 + pl = q * next := by
        rw [← Int.natCast_mul] at ep
        generalize q * next = z at *
        omega
      have hbrk : q * next ≤ r * 18446744073709551616 + low → RetX K h' (.tuple #[.int .u64 q, .int .u8 f]) := fun hc => RetX.same (hk q f hql (T.done hc) T.up)
      have hgo : r * 18446744073709551616 + low < q * next → Tri 18446744073709551616 high next (high * 18446744073709551616 + mid) low (q - 1) (r + high) ∧ 1 ≤ q := fun hc => T.next hc
      clear ep T
      generalize q * next = z at *
      refine CondX.decI (fun c1 => ?_) (fun c1 => ?_) <;> conv => whnf
      · repeat (first | (refine CondX.tt ?_; conv => whnf) | (refine CondX.ff ?_; conv => whnf))
        exact hbrk (by omega)
      · repeat (first | (refine CondX.tt ?_; conv => whnf) | (refine CondX.ff ?_; conv => whnf))
        refine CondX.eqI (fun c2 => ?_) (fun c2 => ?_) <;> conv => whnf
        · repeat (first | (refine CondX.tt ?_; conv => whnf) | (refine CondX.ff ?_; conv => whnf))
          refine CondX.decI (fun c3 => ?_) (fun c3 => ?_) <;> conv => whnf
          · exact hbrk (by omega)
          · obtain ⟨T2, hq1⟩ := hgo (by omega)
            have eD : IntKind.u64.wrap (((q : Nat) : Int) - 1) = ((q - 1 : Nat) : Int) := by rw [wrap_u64']; omega
            rw [eD]
            refine add64_rel (by omega) (by omega) (by omega) (by omega) (by omega) (by omega) fun r2 o2 hr20 hr21 ho20 ho21 er2 => ?_; conv => whnf
            obtain ⟨r2, rfl⟩ := Int.eq_ofNat_of_zero_le hr20
            obtain ⟨o2, rfl⟩ := Int.eq_ofNat_of_zero_le ho20
            refine ih (q - 1, r2, o2, _) _ _ ⟨rfl, ?_, by dsimp only; omega, by dsimp only; omega⟩ (by dsimp only; omega) ⟨rfl, rfl, rfl, rfl, rfl, rfl, rfl, trivial⟩
            have e2 : r2 + o2 * 18446744073709551616 = r + high := by omega
            dsimp only
            rw [e2]
            exact T2
        · repeat (first | (refine CondX.tt ?_; conv => whnf) | (refine CondX.ff ?_; conv => whnf))
          obtain ⟨T2, hq1⟩ := hgo (by omega)
          have eD : IntKind.u64.wrap (((q : Nat) : Int) - 1) = ((q - 1 : Nat) : Int) := by rw [wrap_u64']; omega
          rw [eD]
          refine add64_rel (by omega) (by omega) (by omega) (by omega) (by omega) (by omega) fun r2 o2 hr20 hr21 ho20 ho21 er2 => ?_; conv => whnf
          obtain ⟨r2, rfl⟩ := Int.eq_ofNat_of_zero_le hr20
          obtain ⟨o2, rfl⟩ := Int.eq_ofNat_of_zero_le ho20
          refine ih (q - 1, r2, o2, _) _ _ ⟨rfl, ?_, by dsimp only; omega, by dsimp only; omega⟩ (by dsimp only; omega) ⟨rfl, rfl, rfl, rfl, rfl, rfl, rfl, trivial⟩
          have e2 : r2 + o2 * 18446744073709551616 = r + high := by omega
          dsimp only
          rw [e2]
          exact T2
    · have ho : o = 1 := by omega
      subst ho
      rw [Nat.one_mul] at T
      exact RetX.same (hk q f hql (T.over h5 (by omega)) T.up)
  · have hst := Tri.start (b := 18446744073709551616) (v0 := next) (u1 := low) hlt h2 h3
    have hrl := Nat.mod_lt (high * 18446744073709551616 + mid) h6
    conv => whnf
    generalize (high * 18446744073709551616 + mid) / top = q0 at *
    generalize (high * 18446744073709551616 + mid) % top = r at *
    repeat (first | (refine CondX.tt ?_; conv => whnf) | (refine CondX.ff ?_; conv => whnf))
    obtain ⟨o, ho⟩ : ∃ o : Nat, o = 0 := ⟨0, rfl⟩
    have hr1 : (r : Int) < 18446744073709551616 := by omega
    have ho1 : (o : Int) ≤ 1 := by omega
    have hT : Tri 18446744073709551616 top next (high * 18446744073709551616 + mid) low q0 (r + o * 18446744073709551616) := by rw [ho, Nat.zero_mul, Nat.add_zero]; exact hst
    refine LoopX.st T_ok Hval.func391 (σ := Nat × Nat × Nat × Int) (fun q => [(2, .int .u64 low), (3, .int .u64 top), (4, .int .u64 next), (10, .int .u64 q.1), (11, .int .u8 q.2.2.2), (12, .int .u64 q.2.1), (14, .int .u64 q.2.2.1)])
      (fun q h' => h' = h ∧ Tri 18446744073709551616 top next (high * 18446744073709551616 + mid) low q.1 (q.2.1 + q.2.2.1 * 18446744073709551616) ∧ q.2.1 < 18446744073709551616 ∧ q.2.2.1 ≤ 1) (fun q => q.1) (q0, r, o, 0) ⟨rfl, rfl, rfl, rfl, rfl, rfl, by first | rfl | (rw [ho]; rfl), trivial⟩ ⟨rfl, hT, by dsimp only; omega, by dsimp only; omega⟩ ?_
    rintro ⟨q, r, o, f⟩ ρ h' ⟨rfl, T, hrr, hoo⟩ ih
    dsimp only at T hrr hoo ⊢
    clear hT
    conv => whnf
    have hql := T.lt
    refine CondX.eqI (fun hz => ?_) (fun hz => ?_) <;> conv => whnf
    · have hz : o = 0 := by omega
      subst hz
      rw [Nat.zero_mul, Nat.add_zero] at T
      refine mul64_rel (by omega) (by omega) (by omega) (by omega) fun ph pl hp0 hp1 hl0 hl1 ep => ?_; conv => whnf
      obtain ⟨ph, rfl⟩ := Int.eq_ofNat_of_zero_le hp0
      obtain ⟨pl, rfl⟩ := Int.eq_ofNat_of_zero_le hl0
      have ep2 : ph * 18446744073709551616 + pl = q * next := by
        rw [← Int.natCast_mul] at ep
        generalize q * next = z at *
        omega
      have hbrk : q * next ≤ r * 18446744073709551616 + low → RetX K h' (.tuple #[.int .u64 q, .int .u8 f]) := fun hc => RetX.same (hk q f hql (T.done hc) T.up)
      have hgo : r * 18446744073709551616 + low < q * next → Tri 18446744073709551616 top next (high * 18446744073709551616 + mid) low (q - 1) (r + top) ∧ 1 ≤ q := fun hc => T.next hc
      clear ep T
      generalize q * next = z at *
      refine CondX.decI (fun c1 => ?_) (fun c1 => ?_) <;> conv => whnf
      · repeat (first | (refine CondX.tt ?_; conv => whnf) | (refine CondX.ff ?_; conv => whnf))
        exact hbrk (by omega)
      · repeat (first | (refine CondX.tt ?_; conv => whnf) | (refine CondX.ff ?_; conv => whnf))
        refine CondX.eqI (fun c2 => ?_) (fun c2 => ?_) <;> conv => whnf
        · repeat (first | (refine CondX.tt ?_; conv => whnf) | (refine CondX.ff ?_; conv => whnf))
          refine CondX.decI (fun c3 => ?_) (fun c3 => ?_) <;> conv => whnf
          · exact hbrk (by omega)
          · obtain ⟨T2, hq1⟩ := hgo (by omega)
            have eD : IntKind.u64.wrap (((q : Nat) : Int) - 1) = ((q - 1 : Nat) : Int) := by rw [wrap_u64']; omega
            rw [eD]
            refine add64_rel (by omega) (by omega) (by omega) (by omega) (by omega) (by omega) fun r2 o2 hr20 hr21 ho20 ho21 er2 => ?_; conv => whnf
            obtain ⟨r2, rfl⟩ := Int.eq_ofNat_of_zero_le hr20
            obtain ⟨o2, rfl⟩ := Int.eq_ofNat_of_zero_le ho20
            refine ih (q - 1, r2, o2, _) _ _ ⟨rfl, ?_, by dsimp only; omega, by dsimp only; omega⟩ (by dsimp only; omega) ⟨rfl, rfl, rfl, rfl, rfl, rfl, rfl, trivial⟩
            have e2 : r2 + o2 * 18446744073709551616 = r + top := by omega
            dsimp only
            rw [e2]
            exact T2
        · repeat (first | (refine CondX.tt ?_; conv => whnf) | (refine CondX.ff ?_; conv => whnf))
          obtain ⟨T2, hq1⟩ := hgo (by omega)
          have eD : IntKind.u64.wrap (((q : Nat) : Int) - 1) = ((q - 1 : Nat) : Int) := by rw [wrap_u64']; omega
          rw [eD]
          refine add64_rel (by omega) (by omega) (by omega) (by omega) (by omega) (by omega) fun r2 o2 hr20 hr21 ho20 ho21 er2 => ?_; conv => whnf
          obtain ⟨r2, rfl⟩ := Int.eq_ofNat_of_zero_le hr20
          obtain ⟨o2, rfl⟩ := Int.eq_ofNat_of_zero_le ho20
          refine ih (q - 1, r2, o2, _) _ _ ⟨rfl, ?_, by dsimp only; omega, by dsimp only; omega⟩ (by dsimp only; omega) ⟨rfl, rfl, rfl, rfl, rfl, rfl, rfl, trivial⟩
          have e2 : r2 + o2 * 18446744073709551616 = r + top := by omega
          dsimp only
          rw [e2]
          exact T2
    · have ho : o = 1 := by omega
      subst ho
      rw [Nat.one_mul] at T
      exact RetX.same (hk q f hql (T.over h5 (by omega)) T.up)
end
end Go.Proofs.YgvalwGreat.X
