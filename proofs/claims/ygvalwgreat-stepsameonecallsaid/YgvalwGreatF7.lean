import Derived.Test.YgvalwGreatF6
set_option linter.unusedVariables false
set_option linter.unusedSimpArgs false
namespace Go.Proofs.YgvalwGreat.X
open Go

theorem wadd {a b : Nat} (h : a + b < 2 ^ 41) : IntKind.i64.wrap ((a : Int) + (b : Int)) = ((a + b : Nat) : Int) := by rw [wrap_i64 (by omega) (by omega)]; omega
theorem wsucc {a : Nat} (h : a < 2 ^ 41) : IntKind.i64.wrap ((a : Int) + 1) = ((a + 1 : Nat) : Int) := by rw [wrap_i64 (by omega) (by omega)]; omega
theorem wpred {a : Nat} (h : a < 2 ^ 41) (h0 : 0 < a) : IntKind.i64.wrap ((a : Int) - 1) = ((a - 1 : Nat) : Int) := by rw [wrap_i64 (by omega) (by omega)]; omega

theorem StoreX.bix {h : Hp} {m : Nat} {l : List Int} {t : TypeId} {j : Int} {sz : Nat} {d : Int} {KK : Hp → Prop} (k : Nat) (hj : j = k) (hsz : sz = 1) (ho : k < l.length) (hk : KK (hput h m (bcells (l.set k d), t))) :
    StoreX (hput h m (bcells l, t)) m (0 + j.toNat * sz) [.int .u8 d] KK := by
  subst hj hsz
  exact StoreX.byte k (by simp) ho hk

theorem mul_bd {x y m n : Int} (h1 : 0 ≤ x) (h2 : x ≤ m) (h3 : 0 ≤ y) (h4 : y ≤ n) : 0 ≤ x * y ∧ x * y ≤ m * n :=
  ⟨Int.mul_nonneg h1 h3, Int.mul_le_mul h2 h4 h3 (by omega)⟩

set_option maxRecDepth 100000 in
theorem mul_ok {h : Hp} {K : Value → Hp → Prop} {ba bb : Option Addr} {na ca nb cb : Nat} {la lb : List Int} (ha : Byt h ba na ca la) (hb : Byt h bb nb cb lb) (hxa : dv la < big) (hxb : dv lb < big)
    (hk : ∀ b n c h', Ext h h' → Nt h' b n c (dv la * dv lb) → K (.slice b n c) h') : CallX Hval.prog 36 [.slice ba na ca, .slice bb nb cb] h K := by
  refine CallX.of_xf T_ok Hval.func36 rfl (by kernel_rfl) (Nat.le_of_ble_eq_true rfl) ?_; conv => whnf
  refine trim_ok ha fun ka A _ _ hA hda hta => ?_; conv => whnf
  refine trim_ok hb fun kb B _ _ hB hdb htb => ?_; conv => whnf
  have hka := Tr_len hA.isB hta (by omega)
  have hkb := Tr_len hB.isB htb (by omega)
  have hla := hA.len
  have hlb := hB.len
  rw [wadd (show ka + kb < 2 ^ 41 by omega)]
  refine MakeX.bytes (ka + kb) rfl (by omega) fun m hm => ?_; conv => whnf
  refine LoopX.st T_ok Hval.func36 (σ := Nat × List Int) (fun s => [(0, .slice ba ka ka), (1, .slice bb kb kb), (5, .slice (some ⟨m, 0, none⟩) (ka + kb) (ka + kb)), (21, .slice ba ka ka), (22, .int .i64 ka), (23, .int .i64 s.1)])
    (fun s h' => s.1 ≤ ka ∧ s.2.length = ka + kb ∧ isB s.2 ∧ h' = hput h m (bcells s.2, 5) ∧ pd s.2 (s.1 + kb) = pd A s.1 * dv B) (fun s => ka - s.1) (0, List.replicate (ka + kb) 0)
    ⟨rfl, rfl, rfl, rfl, rfl, rfl, trivial⟩ ⟨by simp, by simp, isB_zeros _, rfl, ?_⟩ ?_
  · have : pd (List.replicate (ka + kb) 0) (0 + kb) = pd [] (0 + kb) := pd_congr fun j _ => by
      by_cases hj : j < ka + kb
      · simp [hj]
      · simp [hj]
    rw [this, pd_nil]; simp [pd]
  rintro ⟨i, l⟩ ρ h' ⟨hi, hl, hlB, rfl, hpd⟩ ih
  simp only at hi hl hlB hpd ⊢
  conv => whnf
  refine CondX.mk (fun hc => ?_) (fun hc => ?_) <;> conv => whnf
  · have hc : i < ka := by have := of_decide_eq_true hc; omega
    have hA' := hA.ext (Ext.bd (x := (bcells l, 5)) hm)
    refine IdxX.rd hA'.rd (by omega) (by omega) fun b1 o1 e1 _ => ?_; conv => whnf
    refine LoadX.byte hA' e1 i rfl (by omega) rfl ?_; conv => whnf
    have ga := hA.isB.get i
    generalize hx : A.getD i 0 = x at ga
    refine LoopX.st T_ok Hval.func36 (σ := Nat × Int × List Int) (fun s => [(0, .slice ba ka ka), (1, .slice bb kb kb), (5, .slice (some ⟨m, 0, none⟩) (ka + kb) (ka + kb)), (21, .slice ba ka ka), (22, .int .i64 ka), (23, .int .i64 i), (6, .int .i64 i), (7, .int .u8 x), (8, .int .u32 s.2.1), (28, .slice bb kb kb), (29, .int .i64 kb), (30, .int .i64 s.1)])
      (fun s h' => s.1 ≤ kb ∧ 0 ≤ s.2.1 ∧ s.2.1 ≤ 255 ∧ s.2.2.length = ka + kb ∧ isB s.2.2 ∧ h' = hput h m (bcells s.2.2, 5) ∧ pd s.2.2 (i + s.1) + s.2.1 * 256 ^ (i + s.1) = pd l (i + s.1) + x * pd B s.1 * 256 ^ i ∧ ∀ j, i + s.1 ≤ j → s.2.2.getD j 0 = l.getD j 0) (fun s => kb - s.1) (0, 0, l)
      ⟨rfl, rfl, rfl, rfl, rfl, rfl, rfl, rfl, rfl, rfl, rfl, rfl, trivial⟩ ⟨by simp, by simp, by simp, hl, hlB, rfl, by simp [pd], fun _ _ => rfl⟩ ?_
    rintro ⟨j, c, l2⟩ ρ2 h2 ⟨hj, hc0, hc1, hl2, hlB2, rfl, hpd2, hrest⟩ ih2
    simp only at hj hc0 hc1 hl2 hlB2 hpd2 hrest ⊢
    conv => whnf
    have hown : Byt (hput h m (bcells l2, 5)) (some ⟨m, 0, none⟩) (ka + kb) (ka + kb) l2 := own_all hlB2 (by omega) (by omega)
    have hB' := hB.ext (Ext.bd (x := (bcells l2, 5)) hm)
    refine CondX.mk (fun hd => ?_) (fun hd => ?_) <;> conv => whnf
    · have hd : j < kb := by have := of_decide_eq_true hd; omega
      refine IdxX.rd hB'.rd (by omega) (by omega) fun b2 o2 e2 _ => ?_; conv => whnf
      refine LoadX.byte hB' e2 j rfl (by omega) rfl ?_; conv => whnf
      have gb := hB.isB.get j
      have go := hlB2.get (i + j)
      rw [wadd (show i + j < 2 ^ 41 by omega)]
      refine IdxX.at (by omega) (by omega) ?_; conv => whnf
      refine LoadX.byte hown rfl (i + j) rfl (by omega) rfl ?_; conv => whnf
      have hm1 := mul_bd ga.1 (show x ≤ 255 by omega) gb.1 (show B.getD j 0 ≤ 255 by omega)
      have hs : IntKind.u32.wrap (c + IntKind.u32.wrap (IntKind.u32.wrap (IntKind.u32.wrap x * IntKind.u32.wrap (B.getD j 0)) + IntKind.u32.wrap (l2.getD (i + j) 0))) = c + x * B.getD j 0 + l2.getD (i + j) 0 := by
        simp only [wrap_u32]
        rw [Int.emod_eq_of_lt ga.1 (by omega), Int.emod_eq_of_lt gb.1 (by omega)]
        omega
      rw [hs]
      generalize hS : c + x * B.getD j 0 + l2.getD (i + j) 0 = S
      have hS0 : 0 ≤ S ∧ S ≤ 65535 := by omega
      rw [wrap_u8, wadd (show i + j < 2 ^ 41 by omega)]
      refine IdxX.at (by omega) (by omega) ?_; conv => whnf
      refine StoreX.bix (i + j) rfl rfl (by omega) ?_; conv => whnf
      refine Ob.mk (by first | decide | omega) ?_; conv => whnf
      refine ih2 (j + 1, S / 256, l2.set (i + j) (S % 256)) _ _ ?_ ?_ ?_
      · refine ⟨by dsimp only; omega, by dsimp only; omega, by dsimp only; omega, by simp [hl2], hlB2.set (by omega) (by omega), rfl, ?_, ?_⟩
        · have ho := hrest (i + j) (Nat.le_refl _)
          show pd _ (i + j + 1) + _ = pd l (i + j + 1) + _
          simp only [pd]
          rw [pd_set (Nat.le_refl _), getD_set_same (by omega)]
          have hp1 : (256 : Int) ^ (i + (j + 1)) = 256 ^ (i + j) * 256 := by rw [← Int.pow_succ]; rfl
          have hp2 : (256 : Int) ^ (i + j) = 256 ^ i * 256 ^ j := Int.pow_add ..
          have : S = 256 * (S / 256) + S % 256 := by omega
          grind
        · intro k hk
          dsimp only at hk ⊢
          rw [getD_set_other (by omega)]
          exact hrest k (by omega)
      · dsimp only; omega
      · exact ⟨rfl, rfl, rfl, rfl, rfl, rfl, rfl, rfl, congrArg (Value.int .u32) (shr8 hS0.1 rfl), rfl, rfl, congrArg (Value.int .i64) (wsucc (by omega)), trivial⟩
    · have hd : j = kb := by have := of_decide_eq_false hd; omega
      subst hd
      rw [wadd (show i + j < 2 ^ 41 by omega), wrap_u8, Int.emod_eq_of_lt hc0 (by omega)]
      refine IdxX.at (by omega) (by omega) ?_; conv => whnf
      refine StoreX.bix (i + j) rfl rfl (by omega) ?_; conv => whnf
      refine ih (i + 1, l2.set (i + j) c) _ _ ?_ ?_ ?_
      · refine ⟨by dsimp only; omega, by simp [hl2], hlB2.set (by omega) (by omega), rfl, ?_⟩
        have e : i + 1 + j = (i + j) + 1 := by omega
        dsimp only
        rw [e]
        simp only [pd]
        rw [pd_set (Nat.le_refl _), getD_set_same (by omega), hpd2, hpd, pd_dv B (by omega), hx]
        grind
      · dsimp only; omega
      · exact ⟨rfl, rfl, rfl, rfl, rfl, congrArg (Value.int .i64) (wsucc (by omega)), trivial⟩
  · have hc : i = ka := by have := of_decide_eq_false hc; omega
    subst hc
    refine clip_ok (own_all hlB (by omega) (by omega)) fun b n c hn => ?_; conv => whnf
    refine RetX.same (hk _ _ _ _ (Ext.bd hm) ?_)
    rw [pd_dv l (by omega), pd_dv A (by omega), hda, hdb] at hpd
    rwa [hpd] at hn
end Go.Proofs.YgvalwGreat.X
