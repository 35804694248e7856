import Derived.Test.YgvalwGreatF11
set_option linter.unusedVariables false
set_option linter.unusedSimpArgs false
namespace Go.Proofs.YgvalwGreat.X
open Go

theorem Bd.upd {h : Hp} {m b : Nat} {x y} (hb : Bd (X.hput h m x) b) : Bd (X.hput h m y) b := by
  intro c z hz
  by_cases hcm : c = m
  · subst hcm; exact hb.top
  · exact hb c z (by rw [hput_ne hcm] at hz ⊢; exact hz)

set_option maxRecDepth 100000 in
theorem divMod_ok {h : Hp} {K : Value → Hp → Prop} {ba bb : Option Addr} {na ca nb cb : Nat} {la lb : List Int} (ha : Byt h ba na ca la) (hb : Byt h bb nb cb lb) (hxa : dv la < big) (hxb : dv lb < big)
    (hk0 : dv lb = 0 → K (.tuple #[.slice none 0 0, .slice none 0 0, .bool false]) h)
    (hk : dv lb ≠ 0 → ∀ b n c b' n' c' h', Ext h h' → Nt h' b n c (dv la / dv lb) → Nt h' b' n' c' (dv la % dv lb) → K (.tuple #[.slice b n c, .slice b' n' c', .bool true]) h') :
    CallX Hval.prog 234 [.slice ba na ca, .slice bb nb cb] h K := by
  refine CallX.of_xf T_ok Hval.func234 rfl (by kernel_rfl) (Nat.le_of_ble_eq_true rfl) ?_; conv => whnf
  refine trim_ok ha fun ka A _ _ hA hda hta => ?_; conv => whnf
  refine trim_ok hb fun kb B _ _ hB hdb htb => ?_; conv => whnf
  have hka := Tr_len hA.isB hta (by omega)
  have hkb := Tr_len hB.isB htb (by omega)
  have hla := hA.len
  have hlb := hB.len
  rw [← hdb] at hk0 hk
  rw [← hda] at hk
  refine CondX.mk (fun hz => ?_) (fun hz => ?_) <;> conv => whnf
  · have hz := eq_of_beq hz
    have : B = [] := List.length_eq_zero_iff.1 (by omega)
    subst this
    exact RetX.same (hk0 rfl)
  have hz := ne_of_beq_false hz
  have hBpos : 0 < dv B := by
    have h1 := pow_le_dv hB.isB htb (by rintro rfl; simp at hlb; omega)
    have h2 : (0 : Int) < 256 ^ (B.length - 1) := Int.pow_pos (by decide)
    omega
  have hBlt := dv_lt_pow hB.isB
  have hAnn := dv_nonneg hA.isB
  have hAlt := dv_lt_pow hA.isB
  have hk := hk (by omega)
  refine MakeX.bytes ka rfl (by omega) fun m1 hm1 => ?_; conv => whnf
  rw [wsucc (show kb < 2 ^ 41 by omega)]
  refine MakeX.bytes (kb + 1) rfl (by omega) fun m2 hm2 => ?_; conv => whnf
  have hm12 := hm2.top
  have e8 : IntKind.i64.wrap (8 * (ka : Int)) = ((8 * ka : Nat) : Int) := by rw [wrap_i64 (by omega) (by omega)]; omega
  refine LoopX.st T_ok Hval.func234 (σ := Nat × List Int × List Int) (fun s => [(0, .slice ba ka ka), (1, .slice bb kb kb), (7, .slice (some ⟨m1, 0, none⟩) ka ka), (8, .slice (some ⟨m2, 0, none⟩) (kb + 1) (kb + 1)), (9, .int .i64 s.1)])
    (fun s h' => s.1 ≤ 8 * ka ∧ s.2.1.length = ka ∧ isB s.2.1 ∧ s.2.2.length = kb + 1 ∧ isB s.2.2 ∧ h' = hput (hput h m1 (bcells s.2.1, 5)) m2 (bcells s.2.2, 5) ∧ ∃ Q, dv s.2.1 = Q * 2 ^ s.1 ∧ dv A / 2 ^ s.1 = Q * dv B + dv s.2.2 ∧ dv s.2.2 < dv B) (fun s => s.1) (8 * ka, List.replicate ka 0, List.replicate (kb + 1) 0)
    ⟨rfl, rfl, rfl, rfl, congrArg (Value.int .i64) e8, trivial⟩ ⟨Nat.le_refl _, by simp, isB_zeros _, by simp, isB_zeros _, rfl, 0, ?_, ?_, ?_⟩ ?_
  · dsimp only; rw [dv_zeros fun j => getD_zeros _ _]; omega
  · dsimp only; rw [dv_zeros fun j => getD_zeros _ _, Int.ediv_eq_zero_of_lt hAnn]
    · omega
    · have : (256 : Int) = 2 ^ 8 := by decide
      rw [this, ← Int.pow_mul, hla] at hAlt
      exact hAlt
  · dsimp only; rw [dv_zeros fun j => getD_zeros _ _]; exact hBpos
  rintro ⟨i, q, r⟩ ρ h' ⟨hi, hql, hqb, hrl, hrb, rfl, Q, hQ, hX, hR⟩ ih
  simp only at hi hql hqb hrl hrb hQ hX hR ⊢
  conv => whnf
  have hrn := dv_nonneg hrb
  refine CondX.mk (fun hp => ?_) (fun hp => ?_) <;> conv => whnf
  · have hp : 0 < i := by have := of_decide_eq_true hp; omega
    obtain ⟨i, rfl⟩ : ∃ i', i = i' + 1 := ⟨i - 1, by omega⟩
    have e1 : IntKind.i64.wrap (((i + 1 : Nat) : Int) - 1) = ((i : Nat) : Int) := by rw [wrap_i64 (by omega) (by omega)]; omega
    have e2 : IntKind.i64.wrap (Int.tdiv ((i : Nat) : Int) 8) = ((i / 8 : Nat) : Int) := by
      rw [show (8 : Int) = ((8 : Nat) : Int) by rfl, tdivN, wrap_i64 (by omega) (by omega)]
    have e3 : IntKind.u64.wrap (Int.tmod ((i : Nat) : Int) 8) = ((i % 8 : Nat) : Int) := by
      rw [show (8 : Int) = ((8 : Nat) : Int) by rfl, tmodN, wrap_u64']; omega
    rw [e1]
    refine Ob.mk (by first | decide | omega) ?_; conv => whnf
    rw [e2]
    refine Ob.mk (by first | decide | omega) ?_; conv => whnf
    rw [e1, e3]
    have hm2q : Bd (hput h m1 (bcells q, 5)) m2 := hm2.upd
    have hA' := hA.ext ((Ext.bd (x := (bcells q, 5)) hm1).trans (Ext.bd (x := (bcells r, 5)) hm2q))
    refine IdxX.rd hA'.rd (by omega) (by omega) fun b1 o1 e4 _ => ?_; conv => whnf
    refine LoadX.byte hA' e4 (i / 8) rfl (by omega) rfl ?_; conv => whnf
    have ga := hA.isB.get (i / 8)
    refine Ob.mk (by omega) ?_; conv => whnf
    have hr8 : i % 8 < 8 := Nat.mod_lt _ (by decide)
    have hp8 : (0 : Int) < 2 ^ (i % 8) := Int.pow_pos (by decide)
    have q1 : 0 ≤ A.getD (i / 8) 0 / 2 ^ (i % 8) := Int.ediv_nonneg ga.1 (by omega)
    have q2 : A.getD (i / 8) 0 / 2 ^ (i % 8) < 256 := by
      have := Int.ediv_le_self (2 ^ (i % 8)) ga.1; omega
    have hcar : IntKind.u8.wrap (BitVec.ofInt IntKind.u8.bits ((A.getD (i / 8) 0).fdiv (2 ^ (min (Int.toNat ((i % 8 : Nat) : Int)) IntKind.u8.bits))) &&& BitVec.ofInt IntKind.u8.bits 1).toNat = dv A / 2 ^ i % 2 := by
      rw [Int.toNat_natCast, show IntKind.u8.bits = 8 by rfl, Nat.min_eq_left (by omega), shr_nn ga.1, and_u8 q1 q2 (by decide) (by decide), and_one q1, bit_val hA.isB]
    rw [hcar]
    have hhalf := halve (dv A) i
    generalize hc0 : dv A / 2 ^ i % 2 = c0 at hhalf
    have hc01 : 0 ≤ c0 ∧ c0 ≤ 1 := by omega
    refine LoopX.st T_ok Hval.func234 (σ := Nat × Int × List Int) (fun s => [(0, .slice ba ka ka), (1, .slice bb kb kb), (7, .slice (some ⟨m1, 0, none⟩) ka ka), (8, .slice (some ⟨m2, 0, none⟩) (kb + 1) (kb + 1)), (9, .int .i64 ((i + 1 : Nat) : Int)), (10, .int .i64 ((i / 8 : Nat) : Int)), (11, .int .u64 ((i % 8 : Nat) : Int)), (12, .int .u8 s.2.1), (50, .slice (some ⟨m2, 0, none⟩) (kb + 1) (kb + 1)), (51, .int .i64 ((kb + 1 : Nat) : Int)), (52, .int .i64 s.1)])
      (fun s h' => s.1 ≤ kb + 1 ∧ 0 ≤ s.2.1 ∧ s.2.1 ≤ 1 ∧ s.2.2.length = kb + 1 ∧ isB s.2.2 ∧ h' = hput (hput h m1 (bcells q, 5)) m2 (bcells s.2.2, 5) ∧ pd s.2.2 s.1 + s.2.1 * 256 ^ s.1 = 2 * pd r s.1 + c0 ∧ ∀ j, s.1 ≤ j → s.2.2.getD j 0 = r.getD j 0) (fun s => kb + 1 - s.1) (0, c0, r)
      ⟨rfl, rfl, rfl, rfl, rfl, rfl, rfl, rfl, rfl, rfl, rfl, trivial⟩ ⟨Nat.zero_le _, hc01.1, hc01.2, hrl, hrb, rfl, by simp [pd], fun _ _ => rfl⟩ ?_
    rintro ⟨k, c, r2⟩ ρ2 h2 ⟨hk1, hc0', hc1', hr2l, hr2b, rfl, hpd, hrest⟩ ih2
    simp only at hk1 hc0' hc1' hr2l hr2b hpd hrest ⊢
    conv => whnf
    refine CondX.mk (fun hlt => ?_) (fun hlt => ?_) <;> conv => whnf
    · have hlt : k < kb + 1 := by have := of_decide_eq_true hlt; omega
      refine IdxX.at (by omega) (by omega) ?_; conv => whnf
      refine LoadX.byte (own_all hr2b (n := kb + 1) (by omega) (by omega)) rfl k rfl (by omega) rfl ?_; conv => whnf
      refine Ob.mk (by first | decide | omega) ?_; conv => whnf
      have gd := hr2b.get k
      have hdig : IntKind.u8.wrap (BitVec.ofInt IntKind.u8.bits (IntKind.u8.wrap (r2.getD k 0 * 2 ^ (min (Int.toNat 1) IntKind.u8.bits))) ||| BitVec.ofInt IntKind.u8.bits c).toNat = r2.getD k 0 % 128 * 2 + c := by
        rw [show (2 : Int) ^ (min (Int.toNat 1) IntKind.u8.bits) = 2 by decide, wrap_u8 (r2.getD k 0 * 2), show r2.getD k 0 * 2 % 256 = r2.getD k 0 % 128 * 2 by omega]
        rw [show IntKind.u8.bits = 8 by rfl, or_u8 (by omega) (by omega) hc0' (by omega), or_add1 (by omega) hc0' (by omega)]
      rw [hdig]
      refine IdxX.at (by omega) (by omega) ?_; conv => whnf
      refine StoreX.bix k rfl rfl (by omega) ?_; conv => whnf
      refine Ob.mk (by first | decide | omega) ?_; conv => whnf
      refine ih2 (k + 1, r2.getD k 0 / 128, r2.set k (r2.getD k 0 % 128 * 2 + c)) _ _ ⟨by dsimp only; omega, by dsimp only; omega, by dsimp only; omega, by simp [hr2l], hr2b.set (by omega) (by omega), rfl, ?_, ?_⟩ (by dsimp only; omega) ⟨rfl, rfl, rfl, rfl, rfl, rfl, rfl, ?_, rfl, rfl, ?_, trivial⟩
      · dsimp only [pd]
        rw [pd_set (Nat.le_refl _), getD_set_same (by omega), ← hrest k (Nat.le_refl _), Int.pow_succ]
        have : r2.getD k 0 = 128 * (r2.getD k 0 / 128) + r2.getD k 0 % 128 := by omega
        grind
      · intro j hj
        dsimp only at hj ⊢
        rw [getD_set_other (by omega)]
        exact hrest j (by omega)
      · have : (r2.getD k 0).fdiv (2 ^ (min (Int.toNat 7) IntKind.u8.bits)) = r2.getD k 0 / 128 := by rw [shr_nn gd.1]; rfl
        exact congrArg (Value.int .u8) this
      · exact congrArg (Value.int .i64) (wsucc (by omega))
    have hlt : k = kb + 1 := by have := of_decide_eq_false hlt; omega
    subst hlt
    rw [pd_dv r2 (by omega), pd_dv r (by omega), Int.pow_succ] at hpd
    have hr2n := dv_nonneg hr2b
    rw [hlb] at hBlt
    have hPpos : (0 : Int) < 256 ^ kb := Int.pow_pos (by decide)
    have hc : c = 0 := by
      rcases (show c = 0 ∨ c = 1 by omega) with e | e
      · exact e
      · subst e; omega
    subst hc
    have hr2 : dv r2 = 2 * dv r + c0 := by omega
    have hown2 : Byt (hput (hput h m1 (bcells q, 5)) m2 (bcells r2, 5)) (some ⟨m2, 0, none⟩) (kb + 1) (kb + 1) r2 := own_all hr2b (by omega) (by omega)
    refine cmp_ok hown2 (hB.ext ((Ext.bd (x := (bcells q, 5)) hm1).trans (Ext.bd (x := (bcells r2, 5)) hm2q))) ?_; conv => whnf
    have h2p : (2 : Int) ^ (i + 1) = 2 ^ i * 2 := Int.pow_succ ..
    refine CondX.mk (fun hge => ?_) (fun hge => ?_) <;> conv => whnf
    · have hge : dv B ≤ dv r2 := by
        have := of_decide_eq_true hge
        unfold cmpI at this
        split at this <;> omega
      refine take_ok hm2q hr2b (by omega) (Nat.le_refl _) (by omega) (hB.ext (Ext.bd (x := (bcells q, 5)) hm1)) (by omega) hge fun r3 hr3b hr3l hr3 => ?_; conv => whnf
      refine IdxX.at (by omega) (by omega) ?_; conv => whnf
      refine LoadX.byte ((own_all hqb (n := ka) (by omega) (by omega)).ext (Ext.bd (x := (bcells r3, 5)) hm2q)) rfl (i / 8) rfl (by omega) rfl ?_; conv => whnf
      refine Ob.mk (by omega) ?_; conv => whnf
      have hpw : IntKind.u8.wrap (1 * 2 ^ (min (Int.toNat ((i % 8 : Nat) : Int)) IntKind.u8.bits)) = 2 ^ (i % 8) := by
        rw [show IntKind.u8.bits = 8 by rfl, Int.toNat_natCast, Nat.min_eq_left (by omega), Int.one_mul, wrap_u8]
        rcases (by omega : i % 8 = 0 ∨ i % 8 = 1 ∨ i % 8 = 2 ∨ i % 8 = 3 ∨ i % 8 = 4 ∨ i % 8 = 5 ∨ i % 8 = 6 ∨ i % 8 = 7) with e | e | e | e | e | e | e | e <;> rw [e] <;> decide
      have hplt : (2 : Int) ^ (i % 8) < 256 := by
        rcases (by omega : i % 8 = 0 ∨ i % 8 = 1 ∨ i % 8 = 2 ∨ i % 8 = 3 ∨ i % 8 = 4 ∨ i % 8 = 5 ∨ i % 8 = 6 ∨ i % 8 = 7) with e | e | e | e | e | e | e | e <;> rw [e] <;> decide
      have gq := hqb.get (i / 8)
      obtain ⟨w, hw0, hw⟩ := digit_mult hqb hQ
      have hor : IntKind.u8.wrap (BitVec.ofInt IntKind.u8.bits (q.getD (i / 8) 0) ||| BitVec.ofInt IntKind.u8.bits (IntKind.u8.wrap (1 * 2 ^ (min (Int.toNat ((i % 8 : Nat) : Int)) IntKind.u8.bits)))).toNat = q.getD (i / 8) 0 + 2 ^ (i % 8) := by
        rw [hpw, show IntKind.u8.bits = 8 by rfl, or_u8 gq.1 gq.2 (by omega) hplt, hw, or_bit hw0]
      have hor2 : q.getD (i / 8) 0 + 2 ^ (i % 8) < 256 := by
        rw [← hor, wrap_u8]; omega
      rw [hor]
      refine IdxX.at (by omega) (by omega) ?_; conv => whnf
      refine StoreX.ne (by omega) (StoreX.bix (i / 8) rfl rfl (by omega) ?_); conv => whnf
      refine ih (i, q.set (i / 8) (q.getD (i / 8) 0 + 2 ^ (i % 8)), r3) _ _ ⟨by dsimp only; omega, by simp [hql], hqb.set (by omega) hor2, by dsimp only; omega, hr3b, rfl, 2 * Q + 1, ?_, ?_, ?_⟩ (by dsimp only; omega) ⟨rfl, rfl, rfl, rfl, ?_, trivial⟩
      · dsimp only
        rw [dv_set (by omega), hQ, h2p, pow_split i]
        grind
      · dsimp only
        rw [hhalf, hX, hr3]; grind
      · dsimp only; omega
      · exact congrArg (Value.int .i64) e1
    · have hge : dv r2 < dv B := by
        have := of_decide_eq_false hge
        unfold cmpI at this
        split at this
        · assumption
        · split at this <;> omega
      refine ih (i, q, r2) _ _ ⟨by dsimp only; omega, hql, hqb, hr2l, hr2b, rfl, 2 * Q, ?_, ?_, hge⟩ (by dsimp only; omega) ⟨rfl, rfl, rfl, rfl, ?_, trivial⟩
      · dsimp only; rw [hQ, h2p]; grind
      · dsimp only; rw [hhalf, hX, hr2]; grind
      · exact congrArg (Value.int .i64) e1
  · have hp : i = 0 := by have := of_decide_eq_false hp; omega
    subst hp
    simp only [Int.pow_zero, Int.mul_one, Int.ediv_one] at hQ hX
    refine clip_ok (l := q) ((own_all hqb (by omega) (by omega)).ext (Ext.bd hm2.upd)) fun b n c hn => ?_; conv => whnf
    refine clip_ok (l := r) (own_all hrb (by omega) (by omega)) fun b' n' c' hn' => ?_; conv => whnf
    have e1 : dv A / dv B = dv q := by
      rw [hQ, hX, Int.add_comm, Int.add_mul_ediv_right _ _ (by omega), Int.ediv_eq_zero_of_lt hrn hR]; omega
    have e2 : dv A % dv B = dv r := by
      rw [hX, Int.add_comm, Int.add_mul_emod_self_right, Int.emod_eq_of_lt hrn hR]
    refine RetX.same (hk _ _ _ _ _ _ _ ((Ext.bd hm1).trans (Ext.bd hm2.upd)) ?_ ?_)
    · rw [e1]; exact hn
    · rw [e2]; exact hn'
end Go.Proofs.YgvalwGreat.X
