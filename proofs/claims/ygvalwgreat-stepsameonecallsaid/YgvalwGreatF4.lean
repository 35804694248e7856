import Derived.Test.YgvalwGreatN1
set_option linter.unusedVariables false
set_option linter.unusedSimpArgs false
namespace Go.Proofs.YgvalwGreat.X
open Go

theorem shr8 {y : Int} {k : Nat} (h0 : 0 ≤ y) (hk : k = 8) : y.fdiv (2 ^ k) = y / 256 := by
  subst hk; rw [shr_nn h0]; rfl

set_option maxRecDepth 100000 in
theorem fromU64_ok {h : Hp} {K : Value → Hp → Prop} {x : Int} (h0 : 0 ≤ x) (h1 : x < 18446744073709551616)
    (hk : ∀ b n c h', Ext h h' → Nt h' b n c x → K (.slice b n c) h') : CallX Hval.prog 90 [.int .u64 x] h K := by
  refine CallX.of_xf T_ok Hval.func90 rfl (by kernel_rfl) (Nat.le_of_ble_eq_true rfl) ?_; conv => whnf
  refine BoxX.mk fun m hm => ?_; conv => whnf
  refine LoopX.st T_ok Hval.func90 (σ := Nat × Int) (fun s => [(0, .int .u64 s.2), (3, .pointer (some ⟨m, 0, none⟩)), (5, .int .i64 s.1)])
    (fun s h' => s.1 ≤ 8 ∧ 0 ≤ s.2 ∧ s.2 < 256 ^ (8 - s.1) ∧ ∃ l, l.length = 8 ∧ isB l ∧ h' = hput h m (bcells l, 258) ∧ pd l s.1 + s.2 * 256 ^ s.1 = x) (fun s => 8 - s.1) (0, x)
    ⟨rfl, rfl, rfl, trivial⟩ ⟨by simp, h0, h1, List.replicate 8 0, rfl, isB_zeros 8, rfl, by simp [pd]⟩ ?_
  rintro ⟨i, y⟩ ρ h' ⟨hi, hy0, hy1, l, hl, hb, rfl, hpd⟩ ih
  simp only at hi hy0 hy1 hpd ⊢
  conv => whnf
  refine CondX.mk (fun hc => ?_) (fun hc => ?_) <;> conv => whnf
  · have hc : i < 8 := by have := of_decide_eq_true hc; omega
    refine Ob.mk (by omega) ?_; conv => whnf
    refine StoreX.byte i (by simp [y5]) (by omega) ?_; conv => whnf
    refine Ob.mk (by first | decide | omega) ?_; conv => whnf
    have hw : IntKind.i64.wrap ((i : Int) + 1) = ((i + 1 : Nat) : Int) := by rw [wrap_i64 (by omega) (by omega)]; omega
    have hd : IntKind.u8.wrap y = y % 256 := wrap_u8 y
    have hs : y.fdiv (2 ^ (min (Int.toNat 8) 64)) = y / 256 := shr8 hy0 rfl
    refine ih (i + 1, y / 256) _ _ ⟨by simp; omega, by simp; omega, ?_, l.set i (IntKind.u8.wrap y), by simp [hl], hb.set (by omega) (by omega), rfl, ?_⟩ (by simp; omega) ?_
    rotate_left
    rotate_left
    · exact ⟨congrArg (Value.int .u64) hs, rfl, congrArg (Value.int .i64) hw, trivial⟩
    · have : (256 : Int) ^ (8 - i) = 256 ^ (8 - (i + 1)) * 256 := by rw [← Int.pow_succ]; congr 1; omega
      simp only
      rw [this] at hy1
      exact Int.ediv_lt_of_lt_mul (by decide) hy1
    · simp only [pd]
      rw [pd_set (Nat.le_refl _), getD_set_same (by omega), hd, Int.pow_succ]
      have : y = 256 * (y / 256) + y % 256 := by omega
      grind
  · have hc : i = 8 := by have := of_decide_eq_false hc; omega
    subst hc
    have hy : y = 0 := by simp at hy1; omega
    subst hy
    refine norm_ok (own_all hb (by simp [hl]) (by omega)) fun b n c h'' he hn => ?_
    conv => whnf
    refine RetX.same (hk _ _ _ _ ((Ext.bd hm).trans he) ?_)
    rw [← pd_dv l (show l.length ≤ 8 by omega)] at hn
    have : pd l 8 = x := by simpa using hpd
    rwa [this] at hn

set_option maxRecDepth 100000 in
theorem num_ok {h : Hp} {K : Value → Hp → Prop} {x : Int} (h0 : 0 ≤ x) (h1 : x < 18446744073709551616)
    (hk : ∀ b n c h', Ext h h' → Nt h' b n c x → K (.slice b n c) h') : CallX Hval.prog 29 [.int .u64 x] h K := by
  refine CallX.of_xf T_ok Hval.func29 rfl (by kernel_rfl) (Nat.le_of_ble_eq_true rfl) ?_; conv => whnf
  refine fromU64_ok h0 h1 fun b n c h' he hn => ?_
  conv => whnf
  exact RetX.same (hk _ _ _ _ he hn)

set_option maxRecDepth 100000 in
theorem cmp_ok {h : Hp} {K : Value → Hp → Prop} {ba bb : Option Addr} {na ca nb cb : Nat} {la lb : List Int} (ha : Byt h ba na ca la) (hb : Byt h bb nb cb lb)
    (hk : K (.int .i8 (cmpI (dv la) (dv lb))) h) : CallX Hval.prog 85 [.slice ba na ca, .slice bb nb cb] h K := by
  refine CallX.of_xf T_ok Hval.func85 rfl (by kernel_rfl) (Nat.le_of_ble_eq_true rfl) ?_; conv => whnf
  refine trim_ok ha fun ka a' _ _ ha' hda hta => ?_; conv => whnf
  refine trim_ok hb fun kb b' _ _ hb' hdb htb => ?_; conv => whnf
  rw [← hda, ← hdb] at hk
  clear hda hdb ha hb
  have hla := ha'.len
  have hlb := hb'.len
  have hra := ha'.room
  have hrb := hb'.room
  refine CondX.mk (fun hc => ?_) (fun hc => ?_) <;> conv => whnf
  · have hc : ka < kb := by have := of_decide_eq_true hc; omega
    have := dv_lt_of_len ha'.isB hb'.isB htb (by omega)
    simp only [cmpI, if_pos this] at hk
    exact RetX.same hk
  have hc : ¬ ka < kb := by have := of_decide_eq_false hc; omega
  refine CondX.mk (fun hd => ?_) (fun hd => ?_) <;> conv => whnf
  · have hd : kb < ka := by have := of_decide_eq_true hd; omega
    have := dv_lt_of_len hb'.isB ha'.isB hta (by omega)
    simp only [cmpI, if_pos this, if_neg (show ¬ dv a' < dv b' by omega)] at hk
    exact RetX.same hk
  have hd : ¬ kb < ka := by have := of_decide_eq_false hd; omega
  have he : ka = kb := by omega
  subst he
  refine LoopX.st T_ok Hval.func85 (σ := Nat) (fun i => [(0, .slice ba ka ka), (1, .slice bb ka ka), (5, .int .i64 i)])
    (fun i h' => h' = h ∧ i ≤ ka ∧ ∀ j, i ≤ j → a'.getD j 0 = b'.getD j 0) (fun i => i) ka
    ⟨rfl, rfl, rfl, trivial⟩ ⟨rfl, Nat.le_refl _, fun j hj => ?_⟩ ?_
  · simp [List.getElem?_eq_none (show a'.length ≤ j by omega), List.getElem?_eq_none (show b'.length ≤ j by omega)]
  rintro i ρ h' ⟨rfl, hi, hz⟩ ih
  conv => whnf
  refine CondX.mk (fun hp => ?_) (fun hp => ?_) <;> conv => whnf
  · have hp : 0 < i := by have := of_decide_eq_true hp; omega
    have hw : IntKind.i64.wrap ((i : Int) - 1) = ((i - 1 : Nat) : Int) := by rw [wrap_i64 (by omega) (by omega)]; omega
    refine DrawX.go T_ok hM Hval.func85 (tb := dr85) rfl (by kernel_rfl) ?_; conv => whnf
    refine IdxX.rd ha'.rd (by rw [hw]; omega) (by rw [hw]; omega) fun b1 o1 e1 _ => ?_; conv => whnf
    refine LoadX.byte ha' e1 (i - 1) hw (by omega) rfl ?_; conv => whnf
    refine IdxX.rd hb'.rd (by rw [hw]; omega) (by rw [hw]; omega) fun b2 o2 e2 _ => ?_; conv => whnf
    refine LoadX.byte hb' e2 (i - 1) hw (by omega) rfl ?_; conv => whnf
    refine CondX.mk (fun hq => ?_) (fun hq => ?_) <;> conv => whnf
    · have := dv_lt_of_digit ha'.isB hb'.isB (by omega) (i - 1) (of_decide_eq_true hq) (fun j hj => hz j (by omega))
      simp only [cmpI, if_pos this] at hk
      exact RetX.same hk
    have hq := of_decide_eq_false hq
    refine DrawX.go T_ok hM Hval.func85 (tb := dr85) rfl (by kernel_rfl) ?_; conv => whnf
    refine IdxX.rd ha'.rd (by rw [hw]; omega) (by rw [hw]; omega) fun b3 o3 e3 _ => ?_; conv => whnf
    refine LoadX.byte ha' e3 (i - 1) hw (by omega) rfl ?_; conv => whnf
    refine IdxX.rd hb'.rd (by rw [hw]; omega) (by rw [hw]; omega) fun b4 o4 e4 _ => ?_; conv => whnf
    refine LoadX.byte hb' e4 (i - 1) hw (by omega) rfl ?_; conv => whnf
    refine CondX.mk (fun hr => ?_) (fun hr => ?_) <;> conv => whnf
    · have := dv_lt_of_digit hb'.isB ha'.isB (by omega) (i - 1) (of_decide_eq_true hr) (fun j hj => (hz j (by omega)).symm)
      simp only [cmpI, if_pos this, if_neg (show ¬ dv a' < dv b' by omega)] at hk
      exact RetX.same hk
    have hr := of_decide_eq_false hr
    refine ih (i - 1) _ _ ⟨rfl, by omega, fun j hj => ?_⟩ (by omega) ⟨rfl, rfl, by exact congrArg (Value.int .i64) hw, trivial⟩
    by_cases hji : j = i - 1
    · subst hji; omega
    · exact hz j (by omega)
  · have hp : i = 0 := by have := of_decide_eq_false hp; omega
    subst hp
    have : a' = b' := dv_ext (by omega) fun j _ => hz j (by omega)
    subst this
    simp only [cmpI, if_neg (show ¬ dv a' < dv a' by omega)] at hk
    exact RetX.same hk

end Go.Proofs.YgvalwGreat.X
