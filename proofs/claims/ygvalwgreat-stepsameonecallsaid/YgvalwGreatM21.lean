import Derived.Test.YgvalwGreatM20
set_option linter.unusedVariables false
set_option linter.unusedSimpArgs false
namespace Go.Proofs.YgvalwGreat.X
open Go

section
variable {h : Hp} {K : Value → Hp → Prop}
theorem nb_len {b n L T : Nat} (hn : 1 ≤ n) (hT : b / 2 ^ (64 * (n - 1)) = T) (h0 : T ≠ 0) (h1 : T < 2 ^ L) (h2 : 2 ^ (L - 1) ≤ T) (hL : 1 ≤ L) : bitsI b = 64 * (n - 1) + L := by
  have hp : 0 < 2 ^ (64 * (n - 1)) := Nat.pow_pos (by decide)
  have e1 : b < 2 ^ (64 * (n - 1) + L) := by
    rw [Nat.pow_add]
    have h3 : b < 2 ^ (64 * (n - 1)) * (T + 1) := by
      rw [← hT]; exact Nat.lt_mul_div_succ b hp
    exact Nat.lt_of_lt_of_le h3 (Nat.mul_le_mul_left _ h1)
  have e2 : 2 ^ (64 * (n - 1) + L - 1) ≤ b := by
    rw [show 64 * (n - 1) + L - 1 = 64 * (n - 1) + (L - 1) by omega, Nat.pow_add]
    have h3 : 2 ^ (64 * (n - 1)) * T ≤ b := by rw [← hT]; exact Nat.mul_div_le ..
    exact Nat.le_trans (Nat.mul_le_mul_left _ h2) h3
  refine bitsI_eq (by omega) ?_ (fun _ => ?_)
  · exact_mod_cast e1
  · exact_mod_cast e2
theorem used_top {b n : Nat} (hb : (b : Int) < W) (u : Used [(lmN b 0 : Int), lmN b 1, lmN b 2, lmN b 3] n) : n ≤ 4 ∧ (n = 0 → b = 0) ∧ (0 < n → b / 2 ^ (64 * (n - 1)) = lmN b (n - 1) ∧ lmN b (n - 1) ≠ 0) := by
  have hb' : b < 2 ^ 256 := by
    have := toNat_bd (x := (b : Int)) (by omega) hb
    simpa using this
  have hn : n ≤ 4 := by simpa using u.le
  have hlv : X.lv [(lmN b 0 : Int), lmN b 1, lmN b 2, lmN b 3] = b := by
    rw [lmN_wv hb]
    simp only [X.lv, wv]
    omega
  have hL : isL [(lmN b 0 : Int), lmN b 1, lmN b 2, lmN b 3] := fun x hx => by
    have h0 := lmN_lt b 0
    have h1 := lmN_lt b 1
    have h2 := lmN_lt b 2
    have h3 := lmN_lt b 3
    rw [show (2 : Nat) ^ 64 = 18446744073709551616 from rfl] at h0 h1 h2 h3
    simp only [List.mem_cons, List.not_mem_nil, or_false] at hx
    rcases hx with rfl | rfl | rfl | rfl <;> exact ⟨by omega, by omega⟩
  have hbd := u.bd hL
  rw [hlv] at hbd
  have hpn : b < 2 ^ (64 * n) := by
    have h1 := hbd.1
    have e : (18446744073709551616 : Int) ^ n = ((2 ^ (64 * n) : Nat) : Int) := by
      rw [Nat.pow_mul, show (2 : Nat) ^ 64 = 18446744073709551616 from rfl]; exact (Int.natCast_pow ..).symm
    rw [e] at h1
    exact_mod_cast h1
  refine ⟨hn, fun h0 => by subst h0; simpa using hpn, fun h0 => ?_⟩
  have htop := u.top h0
  rw [limbsN_get b (by omega)] at htop
  refine ⟨?_, fun hc => htop (by rw [hc]; rfl)⟩
  unfold lmN
  rw [Nat.shiftRight_eq_div_pow, Nat.mod_eq_of_lt]
  rw [Nat.div_lt_iff_lt_mul (Nat.pow_pos (by decide)), ← Nat.pow_add, show 64 + 64 * (n - 1) = 64 * n by omega]
  exact hpn
set_option maxRecDepth 100000 in
set_option maxHeartbeats 4000000 in
theorem nBytes_ok {b : Nat} (hb : (b : Int) < W) (hk : K (.int .u8 (nbI b)) h) : CallX Hval.prog 378 [.agg (wc b).toArray] h K := by
  refine CallX.of_xf T_ok Hval.func378 rfl (by kernel_rfl) (Nat.le_of_ble_eq_true rfl) ?_; conv => whnf
  refine BoxX.ext fun n1 hn1 en1 => ?_; conv => whnf
  refine LoadX.all (c := wc b) (hput_same ..) rfl ?_
  rw [wcL]; conv => whnf
  refine eLimbs_ok rfl fun n u => ?_; conv => whnf
  obtain ⟨t1, t2, t3⟩ := used_top hb u
  refine CondX.eqI (fun h0 => ?_) (fun h0 => ?_) <;> conv => whnf
  · have : n = 0 := by omega
    subst this
    have hb0 := t2 rfl
    subst hb0
    exact RetX.drop (Ext.bd hn1) hk
  · obtain ⟨t4, t5⟩ := t3 (by omega)
    have e1 : IntKind.u8.wrap ((n : Int) - 1) = ((n - 1 : Nat) : Int) := by rw [wrap_u8]; omega
    have e2 : IntKind.u8.wrap (8 * ((n - 1 : Nat) : Int)) = ((8 * (n - 1) : Nat) : Int) := by rw [wrap_u8]; omega
    rw [e1, e2]
    refine Ob.mk ⟨by omega, by omega⟩ ?_; conv => whnf
    have hlt := lmN_lt b (n - 1)
    refine LoadX.lim0 (l := [(lmN b 0 : Int), lmN b 1, lmN b 2, lmN b 3]) (hput_same ..) (n - 1) (by rw [Int.toNat_natCast]; show 0 + (n - 1) * 1 = _; omega) (by show n - 1 < 4; omega) ?_
    rw [limbsN_get b (by omega)]; conv => whnf
    refine nLen64_ok hlt fun L l1 l2 l3 l4 => ?_; conv => whnf
    obtain ⟨l5, l6⟩ := l3 t5
    repeat (refine Ob.mk (by first | decide | omega) ?_; conv => whnf)
    have hbits := nb_len (by omega) t4 t5 l2 l6 l5
    rw [show IntKind.i64.wrap ((L : Int) + 7) = ((L + 7 : Nat) : Int) by rw [wrap_i64 (by omega) (by omega)]; omega, show Int.tdiv ((L + 7 : Nat) : Int) 8 = (((L + 7) / 8 : Nat) : Int) from tdivN (L + 7) 8, show IntKind.i64.wrap (((L + 7) / 8 : Nat) : Int) = (((L + 7) / 8 : Nat) : Int) from wrap_i64 (by omega) (by omega), show IntKind.u8.wrap (((L + 7) / 8 : Nat) : Int) = (((L + 7) / 8 : Nat) : Int) by rw [wrap_u8]; omega, show IntKind.u8.wrap (((8 * (n - 1) : Nat) : Int) + (((L + 7) / 8 : Nat) : Int)) = nbI b by unfold nbI; rw [hbits, wrap_u8]; omega]
    exact RetX.drop (Ext.bd hn1) hk
set_option maxRecDepth 100000 in
set_option maxHeartbeats 4000000 in
theorem eExpCost_ok {b : Nat} (hb : (b : Int) < W) (hk : K (.int .u64 (10 + 50 * nbI b)) h) : CallX Hval.prog 340 [.agg (wc b).toArray] h K := by
  have hnb : 0 ≤ nbI b ∧ nbI b ≤ 32 := by
    have hb' : b < 2 ^ 256 := by
      have := toNat_bd (x := (b : Int)) (by omega) hb
      simpa using this
    unfold nbI bitsI
    split
    · simp
    · have h1 : Nat.log2 ((b : Int)).toNat < 256 := by
        rw [Int.toNat_natCast]
        by_cases h0 : b = 0
        · subst h0; decide
        · exact (Nat.log2_lt h0).2 hb'
      omega
  refine CallX.of_xf T_ok Hval.func340 rfl (by kernel_rfl) (Nat.le_of_ble_eq_true rfl) ?_; conv => whnf
  refine BoxX.ext fun n1 hn1 en1 => ?_; conv => whnf
  refine LoadX.all (c := wc b) (hput_same ..) rfl ?_; conv => whnf
  refine nBytes_ok hb ?_; conv => whnf
  rw [show IntKind.u64.wrap (nbI b) = nbI b by rw [wrap_u64']; omega, show IntKind.u64.wrap (50 * nbI b) = 50 * nbI b by rw [wrap_u64']; omega, show IntKind.u64.wrap (10 + 50 * nbI b) = 10 + 50 * nbI b by rw [wrap_u64']; omega]
  exact RetX.drop (Ext.bd hn1) hk
end
end Go.Proofs.YgvalwGreat.X
