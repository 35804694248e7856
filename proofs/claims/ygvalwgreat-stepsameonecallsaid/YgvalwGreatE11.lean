import Derived.Test.YgvalwGreatE10
set_option linter.unusedVariables false
set_option linter.unusedSimpArgs false
namespace Go.Proofs.YgvalwGreat.X
open Go

theorem shlN {a s : Nat} (hs : s < 64) (h : a * 2 ^ s < 18446744073709551616) : IntKind.u64.wrap ((a : Int) * 2 ^ min ((s : Int)).toNat IntKind.u64.bits) = ((a * 2 ^ s : Nat) : Int) := by
  rw [Int.toNat_natCast, show IntKind.u64.bits = 64 from rfl, Nat.min_eq_left (by omega), wrap_u64']
  have : (a : Int) * 2 ^ s = ((a * 2 ^ s : Nat) : Int) := by simp
  rw [this]; omega
theorem shlM {a s : Nat} (hs : s < 64) : IntKind.u64.wrap ((a : Int) * 2 ^ min ((s : Int)).toNat IntKind.u64.bits) = ((a * 2 ^ s % 18446744073709551616 : Nat) : Int) := by
  rw [Int.toNat_natCast, show IntKind.u64.bits = 64 from rfl, Nat.min_eq_left (by omega), wrap_u64']
  have : (a : Int) * 2 ^ s = ((a * 2 ^ s : Nat) : Int) := by simp
  rw [this]; omega
theorem shrN {a s : Nat} (hs : s ≤ 64) : ((a : Int)).fdiv (2 ^ min ((s : Int)).toNat IntKind.u64.bits) = ((a / 2 ^ s : Nat) : Int) := by
  rw [Int.toNat_natCast, show IntKind.u64.bits = 64 from rfl, Nat.min_eq_left hs, Int.fdiv_eq_ediv_of_nonneg _ (by exact Int.le_of_lt (Int.pow_pos (by decide)))]
  simp
/-- The high part of a shifted pair. -/
theorem un32_law {hi lo s : Nat} (hs : s < 64) (hhi : hi * 2 ^ s < 18446744073709551616) (hlo : lo < 18446744073709551616) : hi * 2 ^ s ||| lo / 2 ^ (64 - s) = hi * 2 ^ s + lo / 2 ^ (64 - s) ∧ (hi * 18446744073709551616 + lo) * 2 ^ s = (hi * 2 ^ s + lo / 2 ^ (64 - s)) * 18446744073709551616 + lo * 2 ^ s % 18446744073709551616 := by
  have hp : 2 ^ s * 2 ^ (64 - s) = 18446744073709551616 := by rw [← Nat.pow_add, show s + (64 - s) = 64 by omega]
  have hp0 : 0 < 2 ^ (64 - s) := Nat.pow_pos (by decide)
  have hps : 0 < 2 ^ s := Nat.pow_pos (by decide)
  constructor
  · have hlt : lo / 2 ^ (64 - s) < 2 ^ s := (Nat.div_lt_iff_lt_mul hp0).2 (by rw [hp]; exact hlo)
    have := Nat.two_pow_add_eq_or_of_lt hlt hi
    rw [Nat.mul_comm hi]
    exact this.symm
  · have e : lo * 2 ^ s / 18446744073709551616 = lo / 2 ^ (64 - s) := by
      rw [← hp, Nat.mul_comm lo, Nat.mul_div_mul_left _ _ hps]
    have := Nat.div_add_mod (lo * 2 ^ s) 18446744073709551616
    rw [e] at this
    rw [Nat.add_mul]
    have e3 : hi * 18446744073709551616 * 2 ^ s = hi * 2 ^ s * 18446744073709551616 := by rw [Nat.mul_right_comm]
    omega
theorem tail_sub {A q Y z : Nat} (h1 : q * Y ≤ A) (h2 : A < q * Y + Y) (hz : A - q * Y = z) : A = q * Y + z ∧ z < Y := by
  generalize q * Y = t at *
  omega
theorem div64_fin {hi lo y s un32 un10 u1 u0 Y q1 q w z : Nat} (hN : (hi * 18446744073709551616 + lo) * 2 ^ s = un32 * 18446744073709551616 + un10) (hY : y * 2 ^ s = Y) (hu : un10 = u1 * 4294967296 + u0) (hw : un32 * 4294967296 + u1 = q1 * Y + w) (hz : w * 4294967296 + u0 = q * Y + z) (hzY : z < Y) (hy : hi < y) :
    (hi * 18446744073709551616 + lo) / y = q1 * 4294967296 + q ∧ (hi * 18446744073709551616 + lo) % y = z / 2 ^ s := by
  have hps : 0 < 2 ^ s := Nat.pow_pos (by decide)
  have hfin : (hi * 18446744073709551616 + lo) * 2 ^ s = (q1 * 4294967296 + q) * Y + z := by
    rw [hN, Nat.add_mul, Nat.mul_right_comm q1]
    clear hN hY hps
    generalize q1 * Y = t1 at *
    generalize q * Y = t2 at *
    clear hy hzY
    grind
  constructor
  · rw [← Nat.mul_div_mul_right _ _ hps, hY, hfin, Nat.mul_comm _ Y, Nat.mul_add_div (by omega), Nat.div_eq_of_lt hzY, Nat.add_zero]
  · have h1 : ((hi * 18446744073709551616 + lo) * 2 ^ s) % (y * 2 ^ s) = z := by
      rw [hY, hfin, Nat.mul_comm _ Y, Nat.mul_add_mod, Nat.mod_eq_of_lt hzY]
    rw [Nat.mul_mod_mul_right] at h1
    rw [← h1, Nat.mul_div_cancel _ hps]
section
variable {h : Hp} {K : Value → Hp → Prop}
set_option maxRecDepth 100000 in
set_option maxHeartbeats 4000000 in
theorem bDiv64_ok {hi lo y : Nat} (hhy : hi < y) (hlo : lo < 18446744073709551616) (hy : y < 18446744073709551616)
    (hk : K (.tuple #[.int .u64 (((hi * 18446744073709551616 + lo) / y : Nat) : Int), .int .u64 (((hi * 18446744073709551616 + lo) % y : Nat) : Int)]) h) : CallX Hval.prog 379 [.int .u64 hi, .int .u64 lo, .int .u64 y] h K := by
  refine CallX.of_xf T_ok Hval.func379 rfl (by kernel_rfl) (Nat.le_of_ble_eq_true rfl) ?_; conv => whnf
  refine CondX.eqF (by omega) ?_; conv => whnf
  refine CondX.dF (by omega) ?_; conv => whnf
  refine CondX.eqI (fun h0 => ?_) (fun h0 => ?_) <;> conv => whnf
  · have h0 : hi = 0 := by omega
    subst h0
    refine DrawX.go T_ok hM Hval.func379 (tb := dr379) rfl (by kernel_rfl) ?_; conv => whnf
    repeat (refine Ob.mk (by first | decide | omega) ?_; conv => whnf)
    have e1 : IntKind.u64.wrap (((lo : Nat) : Int).tdiv ((y : Nat) : Int)) = ((lo / y : Nat) : Int) := by
      rw [show ((lo : Nat) : Int).tdiv ((y : Nat) : Int) = ((lo / y : Nat) : Int) from rfl]
      exact wrapN64 (Nat.lt_of_le_of_lt (Nat.div_le_self _ _) hlo)
    rw [e1, show ((lo : Nat) : Int).tmod ((y : Nat) : Int) = ((lo % y : Nat) : Int) from rfl]
    rw [Nat.zero_mul, Nat.zero_add] at hk
    exact RetX.same hk
  refine bLz64_ok hy (by omega) fun s hs1 hs2 hs3 => ?_; conv => whnf
  have es : IntKind.u64.wrap ((s : Nat) : Int) = ((s : Nat) : Int) := by rw [wrap_u64']; omega
  rw [es]
  have h2s : hi * 2 ^ s < 18446744073709551616 := Nat.lt_of_le_of_lt (Nat.mul_le_mul_right _ (Nat.le_of_lt hhy)) hs2
  obtain ⟨hor, hN⟩ := un32_law hs1 h2s hlo
  refine Ob.mk (by first | decide | omega) ?_; conv => whnf
  rw [shlN hs1 hs2]
  generalize hY : y * 2 ^ s = Y at *
  repeat (refine Ob.mk (by first | decide | omega) ?_; conv => whnf)
  have e64 : IntKind.u64.wrap (64 - ((s : Nat) : Int)) = ((64 - s : Nat) : Int) := by rw [wrap_u64']; omega
  rw [e64]
  repeat (refine Ob.mk (by first | decide | omega) ?_; conv => whnf)
  have mk : ∀ n : Nat, n < 18446744073709551616 → IntKind.u64.wrap ((BitVec.ofInt IntKind.u64.bits (n : Int) &&& BitVec.ofInt IntKind.u64.bits 4294967295).toNat : Int) = ((n % 4294967296 : Nat) : Int) := fun n hn => by
    have := and64 (a := n) (b := 4294967295) hn (by decide)
    rw [mask32] at this
    exact this
  have s32 : ∀ n : Nat, ((n : Nat) : Int).fdiv (2 ^ min (Int.toNat 32) IntKind.u64.bits) = ((n / 4294967296 : Nat) : Int) := fun n => shrN (a := n) (s := 32) (by decide)
  have hl64 : lo / 2 ^ (64 - s) < 2 ^ 64 := Nat.lt_of_le_of_lt (Nat.div_le_self _ _) hlo
  rw [shlN hs1 h2s, shrN (by omega), or64 h2s hl64, hor, shlM hs1, s32, s32, mk _ hs2, mk _ (Nat.mod_lt _ (by decide))]
  generalize hU : hi * 2 ^ s + lo / 2 ^ (64 - s) = un32 at *
  generalize hL : lo * 2 ^ s % 18446744073709551616 = un10 at *
  have hu10 : un10 < 18446744073709551616 := by rw [← hL]; exact Nat.mod_lt _ (by decide)
  have hYe : Y = Y / 4294967296 * 4294967296 + Y % 4294967296 := by omega
  have hv0 : Y % 4294967296 < 4294967296 := Nat.mod_lt _ (by decide)
  have hv1 : 4294967296 ≤ 2 * (Y / 4294967296) := by omega
  have hv1' : Y / 4294967296 < 4294967296 := by omega
  have hu1 : un10 / 4294967296 < 4294967296 := by omega
  have hu0 : un10 % 4294967296 < 4294967296 := Nat.mod_lt _ (by decide)
  have hu10e : un10 = un10 / 4294967296 * 4294967296 + un10 % 4294967296 := by omega
  have huY : un32 < Y := by
    have h1 : (hi * 18446744073709551616 + lo) < y * 18446744073709551616 := by omega
    have h2 := Nat.mul_lt_mul_of_pos_right h1 (show 0 < 2 ^ s from Nat.pow_pos (by decide))
    rw [Nat.mul_right_comm, hY, hN] at h2
    exact Nat.lt_of_mul_lt_mul_right (a := 18446744073709551616) (Nat.lt_of_le_of_lt (Nat.le_add_right _ _) h2)
  clear hU hL hs3 h2s hor hl64
  generalize Y / 4294967296 = v1 at *
  generalize Y % 4294967296 = v0 at *
  generalize un10 / 4294967296 = u1 at *
  generalize un10 % 4294967296 = u0 at *
  have mw : ∀ m n : Nat, m * n < 18446744073709551616 → IntKind.u64.wrap ((m : Int) * (n : Int)) = ((m * n : Nat) : Int) := fun m n hmn => by rw [← Int.natCast_mul]; exact wrapN64 hmn
  have hst := Dg.start (u := un32) (u1 := u1) hv0 hv1 (by decide) (by rw [← hYe]; exact huY) hu1
  have hv1p : 0 < v1 := by omega
  refine Ob.mk (by omega) ?_; conv => whnf
  have eQ : IntKind.u64.wrap (((un32 : Nat) : Int).tdiv ((v1 : Nat) : Int)) = ((un32 / v1 : Nat) : Int) := by
    rw [show ((un32 : Nat) : Int).tdiv ((v1 : Nat) : Int) = ((un32 / v1 : Nat) : Int) from rfl]
    exact wrapN64 (Nat.lt_of_le_of_lt (Nat.div_le_self _ _) (by omega))
  have eR : IntKind.u64.wrap (((un32 : Nat) : Int) - IntKind.u64.wrap (((un32 / v1 : Nat) : Int) * ((v1 : Nat) : Int))) = ((un32 % v1 : Nat) : Int) := by
    have h1 : un32 / v1 * v1 ≤ un32 := Nat.div_mul_le_self un32 v1
    have h2 := Nat.div_add_mod un32 v1
    rw [Nat.mul_comm] at h2
    rw [mw _ _ (by omega), wrap_u64']
    omega
  rw [eQ, eR]
  clear eQ eR
  refine LoopX.st T_ok Hval.func379 (σ := Nat × Nat) (fun q => [(2, .int .u64 Y), (8, .int .u64 s), (9, .int .u64 v1), (10, .int .u64 v0), (11, .int .u64 un32), (13, .int .u64 u1), (14, .int .u64 u0), (15, .int .u64 q.1), (16, .int .u64 q.2)])
    (fun q h' => h' = h ∧ Dg 4294967296 v1 v0 un32 u1 q.1 q.2 ∧ q.2 < 4294967296 ∧ q.1 ≤ 4294967297) (fun q => q.1) (un32 / v1, un32 % v1) ⟨rfl, rfl, rfl, rfl, rfl, rfl, rfl, rfl, rfl, trivial⟩ ⟨rfl, hst.1, by have := Nat.mod_lt un32 (show 0 < v1 by omega); dsimp only; omega, hst.2⟩ ?_
  rintro ⟨q, r⟩ ρ h' ⟨rfl, dg, hr, hq⟩ ih
  dsimp only at dg hr hq
  conv => whnf
  refine CondX.decI (fun hc => ?_) (fun hc => ?_) <;> conv => whnf
  · repeat (first | (refine CondX.tt ?_; conv => whnf) | (refine CondX.ff ?_; conv => whnf))
    have hcc : (4294967296 : Nat) ≤ q ∨ 4294967296 * r + u1 < q * v0 := .inl (by omega)
    obtain ⟨dg2, hq1⟩ := dg.next (by first | (rw [← hYe]; assumption) | (rw [← hYe]; exact huY)) (by assumption) hcc (by decide)
    have eD : IntKind.u64.wrap (((q : Nat) : Int) - 1) = ((q - 1 : Nat) : Int) := by rw [wrap_u64']; omega
    have eE : IntKind.u64.wrap (((r : Nat) : Int) + ((v1 : Nat) : Int)) = ((r + v1 : Nat) : Int) := by rw [wrap_u64']; omega
    rw [eD, eE]
    refine CondX.decI (fun hb => ?_) (fun hb => ?_) <;> conv => whnf
    · have dg := dg2
      obtain ⟨hqe, hqm⟩ := dg.brk (by omega) (by omega) (by omega)
      generalize q - 1 = q at *
      have hup := dg.up
      rw [← hYe] at hqe hqm hup
      rw [Nat.add_mul, Nat.one_mul] at hup
      have hq32 : q < 4294967296 := by
        rw [hqe]
        refine (Nat.div_lt_iff_lt_mul (by omega)).2 ?_
        have := Nat.mul_le_mul_right 4294967296 (show un32 + 1 ≤ Y from huY)
        rw [Nat.add_mul, Nat.mul_comm Y] at this
        omega
      have eW : IntKind.u64.wrap (IntKind.u64.wrap (IntKind.u64.wrap (((un32 : Nat) : Int) * 4294967296) + ((u1 : Nat) : Int)) - IntKind.u64.wrap (((q : Nat) : Int) * ((Y : Nat) : Int))) = ((un32 * 4294967296 + u1 - q * Y : Nat) : Int) := by
        rw [← Int.natCast_mul]
        simp only [wrap_u64']
        generalize q * Y = qY at *
        omega
      rw [eW]
      clear eW ih dg
      obtain ⟨w, hw⟩ : ∃ w, un32 * 4294967296 + u1 - q * Y = w := ⟨_, rfl⟩
      have hwe : un32 * 4294967296 + u1 = q * Y + w := by omega
      have hwY : w < Y := by omega
      rw [hw]
      obtain ⟨q1, hq1⟩ : ∃ q1, q1 = q := ⟨_, rfl⟩
      rw [← hq1] at hwe hq32 ⊢
      clear hw hup hqm hqe hq1
      have hst2 := Dg.start (u := w) (u1 := u0) hv0 hv1 (by decide) (by rw [← hYe]; exact hwY) hu0
      have hv1p : 0 < v1 := by omega
      refine Ob.mk (by omega) ?_; conv => whnf
      have eQ : IntKind.u64.wrap (((w : Nat) : Int).tdiv ((v1 : Nat) : Int)) = ((w / v1 : Nat) : Int) := by
        rw [show ((w : Nat) : Int).tdiv ((v1 : Nat) : Int) = ((w / v1 : Nat) : Int) from rfl]
        exact wrapN64 (Nat.lt_of_le_of_lt (Nat.div_le_self _ _) (by omega))
      have eR : IntKind.u64.wrap (((w : Nat) : Int) - IntKind.u64.wrap (((w / v1 : Nat) : Int) * ((v1 : Nat) : Int))) = ((w % v1 : Nat) : Int) := by
        have h1 : w / v1 * v1 ≤ w := Nat.div_mul_le_self w v1
        have h2 := Nat.div_add_mod w v1
        rw [Nat.mul_comm] at h2
        rw [mw _ _ (by omega), wrap_u64']
        omega
      rw [eQ, eR]
      clear eQ eR
      refine LoopX.st T_ok Hval.func379 (σ := Nat × Nat) (fun q => [(2, .int .u64 Y), (8, .int .u64 s), (9, .int .u64 v1), (10, .int .u64 v0), (14, .int .u64 u0), (15, .int .u64 q1), (17, .int .u64 w), (18, .int .u64 q.1), (16, .int .u64 q.2)])
        (fun q h'' => h'' = h' ∧ Dg 4294967296 v1 v0 w u0 q.1 q.2 ∧ q.2 < 4294967296 ∧ q.1 ≤ 4294967297) (fun q => q.1) (w / v1, w % v1) ⟨rfl, rfl, rfl, rfl, rfl, rfl, rfl, rfl, rfl, trivial⟩ ⟨rfl, hst2.1, by have := Nat.mod_lt w (show 0 < v1 by omega); dsimp only; omega, hst2.2⟩ ?_
      rintro ⟨q, r⟩ ρ2 h2 ⟨rfl, dg, hr, hq⟩ ih
      dsimp only at dg hr hq
      conv => whnf
      refine CondX.decI (fun hc => ?_) (fun hc => ?_) <;> conv => whnf
      · repeat (first | (refine CondX.tt ?_; conv => whnf) | (refine CondX.ff ?_; conv => whnf))
        have hcc : (4294967296 : Nat) ≤ q ∨ 4294967296 * r + u0 < q * v0 := .inl (by omega)
        obtain ⟨dg2, hq1⟩ := dg.next (by first | (rw [← hYe]; assumption) | (rw [← hYe]; exact huY)) (by assumption) hcc (by decide)
        have eD : IntKind.u64.wrap (((q : Nat) : Int) - 1) = ((q - 1 : Nat) : Int) := by rw [wrap_u64']; omega
        have eE : IntKind.u64.wrap (((r : Nat) : Int) + ((v1 : Nat) : Int)) = ((r + v1 : Nat) : Int) := by rw [wrap_u64']; omega
        rw [eD, eE]
        refine CondX.decI (fun hb => ?_) (fun hb => ?_) <;> conv => whnf
        · have dg := dg2
          obtain ⟨hqe, hqm⟩ := dg.brk (by omega) (by omega) (by omega)
          generalize q - 1 = q at *
          have hup := dg.up
          rw [← hYe] at hqe hqm hup
          rw [Nat.add_mul, Nat.one_mul] at hup
          have hq0 : q < 4294967296 := by
            rw [hqe]
            refine (Nat.div_lt_iff_lt_mul (by omega)).2 ?_
            have := Nat.mul_le_mul_right 4294967296 (show w + 1 ≤ Y from hwY)
            rw [Nat.add_mul, Nat.mul_comm Y] at this
            omega
          clear hqe
          have eW : IntKind.u64.wrap (IntKind.u64.wrap (IntKind.u64.wrap (((w : Nat) : Int) * 4294967296) + ((u0 : Nat) : Int)) - IntKind.u64.wrap (((q : Nat) : Int) * ((Y : Nat) : Int))) = ((w * 4294967296 + u0 - q * Y : Nat) : Int) := by
            rw [← Int.natCast_mul]
            simp only [wrap_u64']
            generalize q * Y = qY at *
            omega
          have eQQ : IntKind.u64.wrap (IntKind.u64.wrap (((q1 : Nat) : Int) * 4294967296) + ((q : Nat) : Int)) = ((q1 * 4294967296 + q : Nat) : Int) := by
            simp only [wrap_u64']; omega
          repeat (refine Ob.mk (by first | decide | omega) ?_; conv => whnf)
          rw [eW, eQQ, shrN (by omega)]
          clear eW eQQ
          obtain ⟨z, hz⟩ : ∃ z, w * 4294967296 + u0 - q * Y = z := ⟨_, rfl⟩
          obtain ⟨hze, hzY⟩ := tail_sub hqm hup hz
          rw [hz]
          obtain ⟨e1, e2⟩ := div64_fin hN hY hu10e hwe hze hzY hhy
          rw [e1, e2] at hk
          exact RetX.same hk
        · exact ih (q - 1, r + v1) _ _ ⟨rfl, dg2, by dsimp only; omega, by dsimp only; omega⟩ (by dsimp only; omega) ⟨rfl, rfl, rfl, rfl, rfl, rfl, rfl, rfl, rfl, trivial⟩
      · repeat (first | (refine CondX.tt ?_; conv => whnf) | (refine CondX.ff ?_; conv => whnf))
        have hqb : q < 4294967296 := by omega
        have hqv : q * v0 ≤ 4294967295 * 4294967295 := Nat.mul_le_mul (by omega) (by omega)
        have eC1 : IntKind.u64.wrap (((q : Nat) : Int) * ((v0 : Nat) : Int)) = ((q * v0 : Nat) : Int) := mw _ _ (by omega)
        have eC2 : IntKind.u64.wrap (IntKind.u64.wrap (4294967296 * ((r : Nat) : Int)) + ((u0 : Nat) : Int)) = ((4294967296 * r + u0 : Nat) : Int) := by rw [wrap_u64', wrap_u64']; omega
        rw [eC1, eC2]
        refine CondX.decI (fun hd => ?_) (fun hd => ?_) <;> conv => whnf
        · have hcc : (4294967296 : Nat) ≤ q ∨ 4294967296 * r + u0 < q * v0 := .inr (by omega)
          obtain ⟨dg2, hq1⟩ := dg.next (by first | (rw [← hYe]; assumption) | (rw [← hYe]; exact huY)) (by assumption) hcc (by decide)
          have eD : IntKind.u64.wrap (((q : Nat) : Int) - 1) = ((q - 1 : Nat) : Int) := by rw [wrap_u64']; omega
          have eE : IntKind.u64.wrap (((r : Nat) : Int) + ((v1 : Nat) : Int)) = ((r + v1 : Nat) : Int) := by rw [wrap_u64']; omega
          rw [eD, eE]
          refine CondX.decI (fun hb => ?_) (fun hb => ?_) <;> conv => whnf
          · have dg := dg2
            obtain ⟨hqe, hqm⟩ := dg.brk (by omega) (by omega) (by omega)
            generalize q - 1 = q at *
            have hup := dg.up
            rw [← hYe] at hqe hqm hup
            rw [Nat.add_mul, Nat.one_mul] at hup
            have hq0 : q < 4294967296 := by
              rw [hqe]
              refine (Nat.div_lt_iff_lt_mul (by omega)).2 ?_
              have := Nat.mul_le_mul_right 4294967296 (show w + 1 ≤ Y from hwY)
              rw [Nat.add_mul, Nat.mul_comm Y] at this
              omega
            clear hqe
            have eW : IntKind.u64.wrap (IntKind.u64.wrap (IntKind.u64.wrap (((w : Nat) : Int) * 4294967296) + ((u0 : Nat) : Int)) - IntKind.u64.wrap (((q : Nat) : Int) * ((Y : Nat) : Int))) = ((w * 4294967296 + u0 - q * Y : Nat) : Int) := by
              rw [← Int.natCast_mul]
              simp only [wrap_u64']
              generalize q * Y = qY at *
              omega
            have eQQ : IntKind.u64.wrap (IntKind.u64.wrap (((q1 : Nat) : Int) * 4294967296) + ((q : Nat) : Int)) = ((q1 * 4294967296 + q : Nat) : Int) := by
              simp only [wrap_u64']; omega
            repeat (refine Ob.mk (by first | decide | omega) ?_; conv => whnf)
            rw [eW, eQQ, shrN (by omega)]
            clear eW eQQ
            obtain ⟨z, hz⟩ : ∃ z, w * 4294967296 + u0 - q * Y = z := ⟨_, rfl⟩
            obtain ⟨hze, hzY⟩ := tail_sub hqm hup hz
            rw [hz]
            obtain ⟨e1, e2⟩ := div64_fin hN hY hu10e hwe hze hzY hhy
            rw [e1, e2] at hk
            exact RetX.same hk
          · exact ih (q - 1, r + v1) _ _ ⟨rfl, dg2, by dsimp only; omega, by dsimp only; omega⟩ (by dsimp only; omega) ⟨rfl, rfl, rfl, rfl, rfl, rfl, rfl, rfl, rfl, trivial⟩
        · obtain ⟨hqe, hqm⟩ := dg.done (by omega)
          have hup := dg.up
          rw [← hYe] at hqe hqm hup
          rw [Nat.add_mul, Nat.one_mul] at hup
          have hq0 : q < 4294967296 := by
            rw [hqe]
            refine (Nat.div_lt_iff_lt_mul (by omega)).2 ?_
            have := Nat.mul_le_mul_right 4294967296 (show w + 1 ≤ Y from hwY)
            rw [Nat.add_mul, Nat.mul_comm Y] at this
            omega
          clear hqe
          have eW : IntKind.u64.wrap (IntKind.u64.wrap (IntKind.u64.wrap (((w : Nat) : Int) * 4294967296) + ((u0 : Nat) : Int)) - IntKind.u64.wrap (((q : Nat) : Int) * ((Y : Nat) : Int))) = ((w * 4294967296 + u0 - q * Y : Nat) : Int) := by
            rw [← Int.natCast_mul]
            simp only [wrap_u64']
            generalize q * Y = qY at *
            omega
          have eQQ : IntKind.u64.wrap (IntKind.u64.wrap (((q1 : Nat) : Int) * 4294967296) + ((q : Nat) : Int)) = ((q1 * 4294967296 + q : Nat) : Int) := by
            simp only [wrap_u64']; omega
          repeat (refine Ob.mk (by first | decide | omega) ?_; conv => whnf)
          rw [eW, eQQ, shrN (by omega)]
          clear eW eQQ
          obtain ⟨z, hz⟩ : ∃ z, w * 4294967296 + u0 - q * Y = z := ⟨_, rfl⟩
          obtain ⟨hze, hzY⟩ := tail_sub hqm hup hz
          rw [hz]
          obtain ⟨e1, e2⟩ := div64_fin hN hY hu10e hwe hze hzY hhy
          rw [e1, e2] at hk
          exact RetX.same hk
    · exact ih (q - 1, r + v1) _ _ ⟨rfl, dg2, by dsimp only; omega, by dsimp only; omega⟩ (by dsimp only; omega) ⟨rfl, rfl, rfl, rfl, rfl, rfl, rfl, rfl, rfl, trivial⟩
  · repeat (first | (refine CondX.tt ?_; conv => whnf) | (refine CondX.ff ?_; conv => whnf))
    have hqb : q < 4294967296 := by omega
    have hqv : q * v0 ≤ 4294967295 * 4294967295 := Nat.mul_le_mul (by omega) (by omega)
    have eC1 : IntKind.u64.wrap (((q : Nat) : Int) * ((v0 : Nat) : Int)) = ((q * v0 : Nat) : Int) := mw _ _ (by omega)
    have eC2 : IntKind.u64.wrap (IntKind.u64.wrap (4294967296 * ((r : Nat) : Int)) + ((u1 : Nat) : Int)) = ((4294967296 * r + u1 : Nat) : Int) := by rw [wrap_u64', wrap_u64']; omega
    rw [eC1, eC2]
    refine CondX.decI (fun hd => ?_) (fun hd => ?_) <;> conv => whnf
    · have hcc : (4294967296 : Nat) ≤ q ∨ 4294967296 * r + u1 < q * v0 := .inr (by omega)
      obtain ⟨dg2, hq1⟩ := dg.next (by first | (rw [← hYe]; assumption) | (rw [← hYe]; exact huY)) (by assumption) hcc (by decide)
      have eD : IntKind.u64.wrap (((q : Nat) : Int) - 1) = ((q - 1 : Nat) : Int) := by rw [wrap_u64']; omega
      have eE : IntKind.u64.wrap (((r : Nat) : Int) + ((v1 : Nat) : Int)) = ((r + v1 : Nat) : Int) := by rw [wrap_u64']; omega
      rw [eD, eE]
      refine CondX.decI (fun hb => ?_) (fun hb => ?_) <;> conv => whnf
      · have dg := dg2
        obtain ⟨hqe, hqm⟩ := dg.brk (by omega) (by omega) (by omega)
        generalize q - 1 = q at *
        have hup := dg.up
        rw [← hYe] at hqe hqm hup
        rw [Nat.add_mul, Nat.one_mul] at hup
        have hq32 : q < 4294967296 := by
          rw [hqe]
          refine (Nat.div_lt_iff_lt_mul (by omega)).2 ?_
          have := Nat.mul_le_mul_right 4294967296 (show un32 + 1 ≤ Y from huY)
          rw [Nat.add_mul, Nat.mul_comm Y] at this
          omega
        have eW : IntKind.u64.wrap (IntKind.u64.wrap (IntKind.u64.wrap (((un32 : Nat) : Int) * 4294967296) + ((u1 : Nat) : Int)) - IntKind.u64.wrap (((q : Nat) : Int) * ((Y : Nat) : Int))) = ((un32 * 4294967296 + u1 - q * Y : Nat) : Int) := by
          rw [← Int.natCast_mul]
          simp only [wrap_u64']
          generalize q * Y = qY at *
          omega
        rw [eW]
        clear eW ih dg
        obtain ⟨w, hw⟩ : ∃ w, un32 * 4294967296 + u1 - q * Y = w := ⟨_, rfl⟩
        have hwe : un32 * 4294967296 + u1 = q * Y + w := by omega
        have hwY : w < Y := by omega
        rw [hw]
        obtain ⟨q1, hq1⟩ : ∃ q1, q1 = q := ⟨_, rfl⟩
        rw [← hq1] at hwe hq32 ⊢
        clear hw hup hqm hqe hq1
        have hst2 := Dg.start (u := w) (u1 := u0) hv0 hv1 (by decide) (by rw [← hYe]; exact hwY) hu0
        have hv1p : 0 < v1 := by omega
        refine Ob.mk (by omega) ?_; conv => whnf
        have eQ : IntKind.u64.wrap (((w : Nat) : Int).tdiv ((v1 : Nat) : Int)) = ((w / v1 : Nat) : Int) := by
          rw [show ((w : Nat) : Int).tdiv ((v1 : Nat) : Int) = ((w / v1 : Nat) : Int) from rfl]
          exact wrapN64 (Nat.lt_of_le_of_lt (Nat.div_le_self _ _) (by omega))
        have eR : IntKind.u64.wrap (((w : Nat) : Int) - IntKind.u64.wrap (((w / v1 : Nat) : Int) * ((v1 : Nat) : Int))) = ((w % v1 : Nat) : Int) := by
          have h1 : w / v1 * v1 ≤ w := Nat.div_mul_le_self w v1
          have h2 := Nat.div_add_mod w v1
          rw [Nat.mul_comm] at h2
          rw [mw _ _ (by omega), wrap_u64']
          omega
        rw [eQ, eR]
        clear eQ eR
        refine LoopX.st T_ok Hval.func379 (σ := Nat × Nat) (fun q => [(2, .int .u64 Y), (8, .int .u64 s), (9, .int .u64 v1), (10, .int .u64 v0), (14, .int .u64 u0), (15, .int .u64 q1), (17, .int .u64 w), (18, .int .u64 q.1), (16, .int .u64 q.2)])
          (fun q h'' => h'' = h' ∧ Dg 4294967296 v1 v0 w u0 q.1 q.2 ∧ q.2 < 4294967296 ∧ q.1 ≤ 4294967297) (fun q => q.1) (w / v1, w % v1) ⟨rfl, rfl, rfl, rfl, rfl, rfl, rfl, rfl, rfl, trivial⟩ ⟨rfl, hst2.1, by have := Nat.mod_lt w (show 0 < v1 by omega); dsimp only; omega, hst2.2⟩ ?_
        rintro ⟨q, r⟩ ρ2 h2 ⟨rfl, dg, hr, hq⟩ ih
        dsimp only at dg hr hq
        conv => whnf
        refine CondX.decI (fun hc => ?_) (fun hc => ?_) <;> conv => whnf
        · repeat (first | (refine CondX.tt ?_; conv => whnf) | (refine CondX.ff ?_; conv => whnf))
          have hcc : (4294967296 : Nat) ≤ q ∨ 4294967296 * r + u0 < q * v0 := .inl (by omega)
          obtain ⟨dg2, hq1⟩ := dg.next (by first | (rw [← hYe]; assumption) | (rw [← hYe]; exact huY)) (by assumption) hcc (by decide)
          have eD : IntKind.u64.wrap (((q : Nat) : Int) - 1) = ((q - 1 : Nat) : Int) := by rw [wrap_u64']; omega
          have eE : IntKind.u64.wrap (((r : Nat) : Int) + ((v1 : Nat) : Int)) = ((r + v1 : Nat) : Int) := by rw [wrap_u64']; omega
          rw [eD, eE]
          refine CondX.decI (fun hb => ?_) (fun hb => ?_) <;> conv => whnf
          · have dg := dg2
            obtain ⟨hqe, hqm⟩ := dg.brk (by omega) (by omega) (by omega)
            generalize q - 1 = q at *
            have hup := dg.up
            rw [← hYe] at hqe hqm hup
            rw [Nat.add_mul, Nat.one_mul] at hup
            have hq0 : q < 4294967296 := by
              rw [hqe]
              refine (Nat.div_lt_iff_lt_mul (by omega)).2 ?_
              have := Nat.mul_le_mul_right 4294967296 (show w + 1 ≤ Y from hwY)
              rw [Nat.add_mul, Nat.mul_comm Y] at this
              omega
            clear hqe
            have eW : IntKind.u64.wrap (IntKind.u64.wrap (IntKind.u64.wrap (((w : Nat) : Int) * 4294967296) + ((u0 : Nat) : Int)) - IntKind.u64.wrap (((q : Nat) : Int) * ((Y : Nat) : Int))) = ((w * 4294967296 + u0 - q * Y : Nat) : Int) := by
              rw [← Int.natCast_mul]
              simp only [wrap_u64']
              generalize q * Y = qY at *
              omega
            have eQQ : IntKind.u64.wrap (IntKind.u64.wrap (((q1 : Nat) : Int) * 4294967296) + ((q : Nat) : Int)) = ((q1 * 4294967296 + q : Nat) : Int) := by
              simp only [wrap_u64']; omega
            repeat (refine Ob.mk (by first | decide | omega) ?_; conv => whnf)
            rw [eW, eQQ, shrN (by omega)]
            clear eW eQQ
            obtain ⟨z, hz⟩ : ∃ z, w * 4294967296 + u0 - q * Y = z := ⟨_, rfl⟩
            obtain ⟨hze, hzY⟩ := tail_sub hqm hup hz
            rw [hz]
            obtain ⟨e1, e2⟩ := div64_fin hN hY hu10e hwe hze hzY hhy
            rw [e1, e2] at hk
            exact RetX.same hk
          · exact ih (q - 1, r + v1) _ _ ⟨rfl, dg2, by dsimp only; omega, by dsimp only; omega⟩ (by dsimp only; omega) ⟨rfl, rfl, rfl, rfl, rfl, rfl, rfl, rfl, rfl, trivial⟩
        · repeat (first | (refine CondX.tt ?_; conv => whnf) | (refine CondX.ff ?_; conv => whnf))
          have hqb : q < 4294967296 := by omega
          have hqv : q * v0 ≤ 4294967295 * 4294967295 := Nat.mul_le_mul (by omega) (by omega)
          have eC1 : IntKind.u64.wrap (((q : Nat) : Int) * ((v0 : Nat) : Int)) = ((q * v0 : Nat) : Int) := mw _ _ (by omega)
          have eC2 : IntKind.u64.wrap (IntKind.u64.wrap (4294967296 * ((r : Nat) : Int)) + ((u0 : Nat) : Int)) = ((4294967296 * r + u0 : Nat) : Int) := by rw [wrap_u64', wrap_u64']; omega
          rw [eC1, eC2]
          refine CondX.decI (fun hd => ?_) (fun hd => ?_) <;> conv => whnf
          · have hcc : (4294967296 : Nat) ≤ q ∨ 4294967296 * r + u0 < q * v0 := .inr (by omega)
            obtain ⟨dg2, hq1⟩ := dg.next (by first | (rw [← hYe]; assumption) | (rw [← hYe]; exact huY)) (by assumption) hcc (by decide)
            have eD : IntKind.u64.wrap (((q : Nat) : Int) - 1) = ((q - 1 : Nat) : Int) := by rw [wrap_u64']; omega
            have eE : IntKind.u64.wrap (((r : Nat) : Int) + ((v1 : Nat) : Int)) = ((r + v1 : Nat) : Int) := by rw [wrap_u64']; omega
            rw [eD, eE]
            refine CondX.decI (fun hb => ?_) (fun hb => ?_) <;> conv => whnf
            · have dg := dg2
              obtain ⟨hqe, hqm⟩ := dg.brk (by omega) (by omega) (by omega)
              generalize q - 1 = q at *
              have hup := dg.up
              rw [← hYe] at hqe hqm hup
              rw [Nat.add_mul, Nat.one_mul] at hup
              have hq0 : q < 4294967296 := by
                rw [hqe]
                refine (Nat.div_lt_iff_lt_mul (by omega)).2 ?_
                have := Nat.mul_le_mul_right 4294967296 (show w + 1 ≤ Y from hwY)
                rw [Nat.add_mul, Nat.mul_comm Y] at this
                omega
              clear hqe
              have eW : IntKind.u64.wrap (IntKind.u64.wrap (IntKind.u64.wrap (((w : Nat) : Int) * 4294967296) + ((u0 : Nat) : Int)) - IntKind.u64.wrap (((q : Nat) : Int) * ((Y : Nat) : Int))) = ((w * 4294967296 + u0 - q * Y : Nat) : Int) := by
                rw [← Int.natCast_mul]
                simp only [wrap_u64']
                generalize q * Y = qY at *
                omega
              have eQQ : IntKind.u64.wrap (IntKind.u64.wrap (((q1 : Nat) : Int) * 4294967296) + ((q : Nat) : Int)) = ((q1 * 4294967296 + q : Nat) : Int) := by
                simp only [wrap_u64']; omega
              repeat (refine Ob.mk (by first | decide | omega) ?_; conv => whnf)
              rw [eW, eQQ, shrN (by omega)]
              clear eW eQQ
              obtain ⟨z, hz⟩ : ∃ z, w * 4294967296 + u0 - q * Y = z := ⟨_, rfl⟩
              obtain ⟨hze, hzY⟩ := tail_sub hqm hup hz
              rw [hz]
              obtain ⟨e1, e2⟩ := div64_fin hN hY hu10e hwe hze hzY hhy
              rw [e1, e2] at hk
              exact RetX.same hk
            · exact ih (q - 1, r + v1) _ _ ⟨rfl, dg2, by dsimp only; omega, by dsimp only; omega⟩ (by dsimp only; omega) ⟨rfl, rfl, rfl, rfl, rfl, rfl, rfl, rfl, rfl, trivial⟩
          · obtain ⟨hqe, hqm⟩ := dg.done (by omega)
            have hup := dg.up
            rw [← hYe] at hqe hqm hup
            rw [Nat.add_mul, Nat.one_mul] at hup
            have hq0 : q < 4294967296 := by
              rw [hqe]
              refine (Nat.div_lt_iff_lt_mul (by omega)).2 ?_
              have := Nat.mul_le_mul_right 4294967296 (show w + 1 ≤ Y from hwY)
              rw [Nat.add_mul, Nat.mul_comm Y] at this
              omega
            clear hqe
            have eW : IntKind.u64.wrap (IntKind.u64.wrap (IntKind.u64.wrap (((w : Nat) : Int) * 4294967296) + ((u0 : Nat) : Int)) - IntKind.u64.wrap (((q : Nat) : Int) * ((Y : Nat) : Int))) = ((w * 4294967296 + u0 - q * Y : Nat) : Int) := by
              rw [← Int.natCast_mul]
              simp only [wrap_u64']
              generalize q * Y = qY at *
              omega
            have eQQ : IntKind.u64.wrap (IntKind.u64.wrap (((q1 : Nat) : Int) * 4294967296) + ((q : Nat) : Int)) = ((q1 * 4294967296 + q : Nat) : Int) := by
              simp only [wrap_u64']; omega
            repeat (refine Ob.mk (by first | decide | omega) ?_; conv => whnf)
            rw [eW, eQQ, shrN (by omega)]
            clear eW eQQ
            obtain ⟨z, hz⟩ : ∃ z, w * 4294967296 + u0 - q * Y = z := ⟨_, rfl⟩
            obtain ⟨hze, hzY⟩ := tail_sub hqm hup hz
            rw [hz]
            obtain ⟨e1, e2⟩ := div64_fin hN hY hu10e hwe hze hzY hhy
            rw [e1, e2] at hk
            exact RetX.same hk
      · exact ih (q - 1, r + v1) _ _ ⟨rfl, dg2, by dsimp only; omega, by dsimp only; omega⟩ (by dsimp only; omega) ⟨rfl, rfl, rfl, rfl, rfl, rfl, rfl, rfl, rfl, trivial⟩
    · obtain ⟨hqe, hqm⟩ := dg.done (by omega)
      have hup := dg.up
      rw [← hYe] at hqe hqm hup
      rw [Nat.add_mul, Nat.one_mul] at hup
      have hq32 : q < 4294967296 := by
        rw [hqe]
        refine (Nat.div_lt_iff_lt_mul (by omega)).2 ?_
        have := Nat.mul_le_mul_right 4294967296 (show un32 + 1 ≤ Y from huY)
        rw [Nat.add_mul, Nat.mul_comm Y] at this
        omega
      have eW : IntKind.u64.wrap (IntKind.u64.wrap (IntKind.u64.wrap (((un32 : Nat) : Int) * 4294967296) + ((u1 : Nat) : Int)) - IntKind.u64.wrap (((q : Nat) : Int) * ((Y : Nat) : Int))) = ((un32 * 4294967296 + u1 - q * Y : Nat) : Int) := by
        rw [← Int.natCast_mul]
        simp only [wrap_u64']
        generalize q * Y = qY at *
        omega
      rw [eW]
      clear eW ih dg
      obtain ⟨w, hw⟩ : ∃ w, un32 * 4294967296 + u1 - q * Y = w := ⟨_, rfl⟩
      have hwe : un32 * 4294967296 + u1 = q * Y + w := by omega
      have hwY : w < Y := by omega
      rw [hw]
      obtain ⟨q1, hq1⟩ : ∃ q1, q1 = q := ⟨_, rfl⟩
      rw [← hq1] at hwe hq32 ⊢
      clear hw hup hqm hqe hq1
      have hst2 := Dg.start (u := w) (u1 := u0) hv0 hv1 (by decide) (by rw [← hYe]; exact hwY) hu0
      have hv1p : 0 < v1 := by omega
      refine Ob.mk (by omega) ?_; conv => whnf
      have eQ : IntKind.u64.wrap (((w : Nat) : Int).tdiv ((v1 : Nat) : Int)) = ((w / v1 : Nat) : Int) := by
        rw [show ((w : Nat) : Int).tdiv ((v1 : Nat) : Int) = ((w / v1 : Nat) : Int) from rfl]
        exact wrapN64 (Nat.lt_of_le_of_lt (Nat.div_le_self _ _) (by omega))
      have eR : IntKind.u64.wrap (((w : Nat) : Int) - IntKind.u64.wrap (((w / v1 : Nat) : Int) * ((v1 : Nat) : Int))) = ((w % v1 : Nat) : Int) := by
        have h1 : w / v1 * v1 ≤ w := Nat.div_mul_le_self w v1
        have h2 := Nat.div_add_mod w v1
        rw [Nat.mul_comm] at h2
        rw [mw _ _ (by omega), wrap_u64']
        omega
      rw [eQ, eR]
      clear eQ eR
      refine LoopX.st T_ok Hval.func379 (σ := Nat × Nat) (fun q => [(2, .int .u64 Y), (8, .int .u64 s), (9, .int .u64 v1), (10, .int .u64 v0), (14, .int .u64 u0), (15, .int .u64 q1), (17, .int .u64 w), (18, .int .u64 q.1), (16, .int .u64 q.2)])
        (fun q h'' => h'' = h' ∧ Dg 4294967296 v1 v0 w u0 q.1 q.2 ∧ q.2 < 4294967296 ∧ q.1 ≤ 4294967297) (fun q => q.1) (w / v1, w % v1) ⟨rfl, rfl, rfl, rfl, rfl, rfl, rfl, rfl, rfl, trivial⟩ ⟨rfl, hst2.1, by have := Nat.mod_lt w (show 0 < v1 by omega); dsimp only; omega, hst2.2⟩ ?_
      rintro ⟨q, r⟩ ρ2 h2 ⟨rfl, dg, hr, hq⟩ ih
      dsimp only at dg hr hq
      conv => whnf
      refine CondX.decI (fun hc => ?_) (fun hc => ?_) <;> conv => whnf
      · repeat (first | (refine CondX.tt ?_; conv => whnf) | (refine CondX.ff ?_; conv => whnf))
        have hcc : (4294967296 : Nat) ≤ q ∨ 4294967296 * r + u0 < q * v0 := .inl (by omega)
        obtain ⟨dg2, hq1⟩ := dg.next (by first | (rw [← hYe]; assumption) | (rw [← hYe]; exact huY)) (by assumption) hcc (by decide)
        have eD : IntKind.u64.wrap (((q : Nat) : Int) - 1) = ((q - 1 : Nat) : Int) := by rw [wrap_u64']; omega
        have eE : IntKind.u64.wrap (((r : Nat) : Int) + ((v1 : Nat) : Int)) = ((r + v1 : Nat) : Int) := by rw [wrap_u64']; omega
        rw [eD, eE]
        refine CondX.decI (fun hb => ?_) (fun hb => ?_) <;> conv => whnf
        · have dg := dg2
          obtain ⟨hqe, hqm⟩ := dg.brk (by omega) (by omega) (by omega)
          generalize q - 1 = q at *
          have hup := dg.up
          rw [← hYe] at hqe hqm hup
          rw [Nat.add_mul, Nat.one_mul] at hup
          have hq0 : q < 4294967296 := by
            rw [hqe]
            refine (Nat.div_lt_iff_lt_mul (by omega)).2 ?_
            have := Nat.mul_le_mul_right 4294967296 (show w + 1 ≤ Y from hwY)
            rw [Nat.add_mul, Nat.mul_comm Y] at this
            omega
          clear hqe
          have eW : IntKind.u64.wrap (IntKind.u64.wrap (IntKind.u64.wrap (((w : Nat) : Int) * 4294967296) + ((u0 : Nat) : Int)) - IntKind.u64.wrap (((q : Nat) : Int) * ((Y : Nat) : Int))) = ((w * 4294967296 + u0 - q * Y : Nat) : Int) := by
            rw [← Int.natCast_mul]
            simp only [wrap_u64']
            generalize q * Y = qY at *
            omega
          have eQQ : IntKind.u64.wrap (IntKind.u64.wrap (((q1 : Nat) : Int) * 4294967296) + ((q : Nat) : Int)) = ((q1 * 4294967296 + q : Nat) : Int) := by
            simp only [wrap_u64']; omega
          repeat (refine Ob.mk (by first | decide | omega) ?_; conv => whnf)
          rw [eW, eQQ, shrN (by omega)]
          clear eW eQQ
          obtain ⟨z, hz⟩ : ∃ z, w * 4294967296 + u0 - q * Y = z := ⟨_, rfl⟩
          obtain ⟨hze, hzY⟩ := tail_sub hqm hup hz
          rw [hz]
          obtain ⟨e1, e2⟩ := div64_fin hN hY hu10e hwe hze hzY hhy
          rw [e1, e2] at hk
          exact RetX.same hk
        · exact ih (q - 1, r + v1) _ _ ⟨rfl, dg2, by dsimp only; omega, by dsimp only; omega⟩ (by dsimp only; omega) ⟨rfl, rfl, rfl, rfl, rfl, rfl, rfl, rfl, rfl, trivial⟩
      · repeat (first | (refine CondX.tt ?_; conv => whnf) | (refine CondX.ff ?_; conv => whnf))
        have hqb : q < 4294967296 := by omega
        have hqv : q * v0 ≤ 4294967295 * 4294967295 := Nat.mul_le_mul (by omega) (by omega)
        have eC1 : IntKind.u64.wrap (((q : Nat) : Int) * ((v0 : Nat) : Int)) = ((q * v0 : Nat) : Int) := mw _ _ (by omega)
        have eC2 : IntKind.u64.wrap (IntKind.u64.wrap (4294967296 * ((r : Nat) : Int)) + ((u0 : Nat) : Int)) = ((4294967296 * r + u0 : Nat) : Int) := by rw [wrap_u64', wrap_u64']; omega
        rw [eC1, eC2]
        refine CondX.decI (fun hd => ?_) (fun hd => ?_) <;> conv => whnf
        · have hcc : (4294967296 : Nat) ≤ q ∨ 4294967296 * r + u0 < q * v0 := .inr (by omega)
          obtain ⟨dg2, hq1⟩ := dg.next (by first | (rw [← hYe]; assumption) | (rw [← hYe]; exact huY)) (by assumption) hcc (by decide)
          have eD : IntKind.u64.wrap (((q : Nat) : Int) - 1) = ((q - 1 : Nat) : Int) := by rw [wrap_u64']; omega
          have eE : IntKind.u64.wrap (((r : Nat) : Int) + ((v1 : Nat) : Int)) = ((r + v1 : Nat) : Int) := by rw [wrap_u64']; omega
          rw [eD, eE]
          refine CondX.decI (fun hb => ?_) (fun hb => ?_) <;> conv => whnf
          · have dg := dg2
            obtain ⟨hqe, hqm⟩ := dg.brk (by omega) (by omega) (by omega)
            generalize q - 1 = q at *
            have hup := dg.up
            rw [← hYe] at hqe hqm hup
            rw [Nat.add_mul, Nat.one_mul] at hup
            have hq0 : q < 4294967296 := by
              rw [hqe]
              refine (Nat.div_lt_iff_lt_mul (by omega)).2 ?_
              have := Nat.mul_le_mul_right 4294967296 (show w + 1 ≤ Y from hwY)
              rw [Nat.add_mul, Nat.mul_comm Y] at this
              omega
            clear hqe
            have eW : IntKind.u64.wrap (IntKind.u64.wrap (IntKind.u64.wrap (((w : Nat) : Int) * 4294967296) + ((u0 : Nat) : Int)) - IntKind.u64.wrap (((q : Nat) : Int) * ((Y : Nat) : Int))) = ((w * 4294967296 + u0 - q * Y : Nat) : Int) := by
              rw [← Int.natCast_mul]
              simp only [wrap_u64']
              generalize q * Y = qY at *
              omega
            have eQQ : IntKind.u64.wrap (IntKind.u64.wrap (((q1 : Nat) : Int) * 4294967296) + ((q : Nat) : Int)) = ((q1 * 4294967296 + q : Nat) : Int) := by
              simp only [wrap_u64']; omega
            repeat (refine Ob.mk (by first | decide | omega) ?_; conv => whnf)
            rw [eW, eQQ, shrN (by omega)]
            clear eW eQQ
            obtain ⟨z, hz⟩ : ∃ z, w * 4294967296 + u0 - q * Y = z := ⟨_, rfl⟩
            obtain ⟨hze, hzY⟩ := tail_sub hqm hup hz
            rw [hz]
            obtain ⟨e1, e2⟩ := div64_fin hN hY hu10e hwe hze hzY hhy
            rw [e1, e2] at hk
            exact RetX.same hk
          · exact ih (q - 1, r + v1) _ _ ⟨rfl, dg2, by dsimp only; omega, by dsimp only; omega⟩ (by dsimp only; omega) ⟨rfl, rfl, rfl, rfl, rfl, rfl, rfl, rfl, rfl, trivial⟩
        · obtain ⟨hqe, hqm⟩ := dg.done (by omega)
          have hup := dg.up
          rw [← hYe] at hqe hqm hup
          rw [Nat.add_mul, Nat.one_mul] at hup
          have hq0 : q < 4294967296 := by
            rw [hqe]
            refine (Nat.div_lt_iff_lt_mul (by omega)).2 ?_
            have := Nat.mul_le_mul_right 4294967296 (show w + 1 ≤ Y from hwY)
            rw [Nat.add_mul, Nat.mul_comm Y] at this
            omega
          clear hqe
          have eW : IntKind.u64.wrap (IntKind.u64.wrap (IntKind.u64.wrap (((w : Nat) : Int) * 4294967296) + ((u0 : Nat) : Int)) - IntKind.u64.wrap (((q : Nat) : Int) * ((Y : Nat) : Int))) = ((w * 4294967296 + u0 - q * Y : Nat) : Int) := by
            rw [← Int.natCast_mul]
            simp only [wrap_u64']
            generalize q * Y = qY at *
            omega
          have eQQ : IntKind.u64.wrap (IntKind.u64.wrap (((q1 : Nat) : Int) * 4294967296) + ((q : Nat) : Int)) = ((q1 * 4294967296 + q : Nat) : Int) := by
            simp only [wrap_u64']; omega
          repeat (refine Ob.mk (by first | decide | omega) ?_; conv => whnf)
          rw [eW, eQQ, shrN (by omega)]
          clear eW eQQ
          obtain ⟨z, hz⟩ : ∃ z, w * 4294967296 + u0 - q * Y = z := ⟨_, rfl⟩
          obtain ⟨hze, hzY⟩ := tail_sub hqm hup hz
          rw [hz]
          obtain ⟨e1, e2⟩ := div64_fin hN hY hu10e hwe hze hzY hhy
          rw [e1, e2] at hk
          exact RetX.same hk
end
end Go.Proofs.YgvalwGreat.X
