import Derived.Test.YgvalwGreatF5
set_option linter.unusedVariables false
set_option linter.unusedSimpArgs false
namespace Go.Proofs.YgvalwGreat.X
open Go

set_option maxRecDepth 100000 in
theorem norm_own {h : Hp} {K : Value → Hp → Prop} {base : Option Addr} {len cap : Nat} {l : List Int} (hb : Byt h base len cap l)
    (hk0 : dv l = 0 → K (.slice none 0 0) h)
    (hk : ∀ m l', Bd h m → isB l' → Tr l' → dv l' = dv l → l'.length < 2 ^ 40 → K (.slice (some ⟨m, 0, none⟩) l'.length l'.length) (hput h m (bcells l', 5))) : CallX Hval.prog 88 [.slice base len cap] h K := by
  refine CallX.of_xf T_ok Hval.func88 rfl (by kernel_rfl) (Nat.le_of_ble_eq_true rfl) ?_; conv => whnf
  refine trim_ok hb fun k l' hkl hl' hb' hdv htr => ?_; conv => whnf
  refine CondX.mk (fun hz => ?_) (fun hz => ?_) <;> conv => whnf
  · have hz : k = 0 := by simpa using hz
    subst hz
    have : l' = [] := List.length_eq_zero_iff.1 hb'.len
    subst this
    exact RetX.same (hk0 hdv.symm)
  · refine MakeX.bytes k rfl hb'.room fun b hbd => ?_; conv => whnf
    have hlen := hb'.len
    refine CopyX.bytes (hb'.ext (Ext.bd hbd)) (by simp) ?_; conv => whnf
    have := hk b l' hbd hb'.isB htr hdv (by have := hb'.room; omega)
    rw [hlen] at this
    rw [show (Nat.min k (Int.toNat (k : Int))) = k by simp, ovl_all (by simp; omega), List.take_of_length_le (by omega)]
    exact RetX.same (by simpa using this)

theorem take_nil {h : Hp} {K : Value → Hp → Prop} {bb : Option Addr} {nb cb : Nat} (hk : K (.int .u16 0) h) : CallX Hval.prog 170 [.slice none 0 0, .slice bb nb cb] h K := by
  refine CallX.of_xf T_ok Hval.func170 rfl (by kernel_rfl) (Nat.le_of_ble_eq_true rfl) ?_; conv => whnf
  refine LoopX.st T_ok Hval.func170 (σ := Unit) (fun _ => [(5, .int .u16 0), (10, .int .i64 0), (11, .int .i64 0)]) (fun _ h' => h' = h) (fun _ => 0) () ⟨rfl, rfl, rfl, trivial⟩ rfl ?_
  rintro ⟨⟩ ρ h' rfl ih
  conv => whnf
  refine CondX.neg (by decide) ?_; conv => whnf
  exact RetX.same hk

set_option maxRecDepth 100000 in
theorem take_ok {h : Hp} {K : Value → Hp → Prop} {m t n ca : Nat} {la : List Int} {bb : Option Addr} {nb cb : Nat} {lb : List Int} (hm : Bd h m) (hla : isB la) (hn : n = la.length) (hca : n ≤ ca) (hr : n < 2 ^ 40) (hb : Byt h bb nb cb lb) (hnb : nb ≤ n)
    (hle : dv lb ≤ dv la)
    (hk : ∀ l', isB l' → l'.length = la.length → dv l' = dv la - dv lb → K (.int .u16 0) (hput h m (bcells l', t))) : CallX Hval.prog 170 [.slice (some ⟨m, 0, none⟩) n ca, .slice bb nb cb] (hput h m (bcells la, t)) K := by
  refine CallX.of_xf T_ok Hval.func170 rfl (by kernel_rfl) (Nat.le_of_ble_eq_true rfl) ?_; conv => whnf
  have hlb' := hb.len
  refine LoopX.st T_ok Hval.func170 (σ := Nat × Int × List Int) (fun s => [(0, .slice (some ⟨m, 0, none⟩) n ca), (1, .slice bb nb cb), (5, .int .u16 s.2.1), (10, .int .i64 n), (11, .int .i64 s.1)])
    (fun s h' => s.1 ≤ n ∧ 0 ≤ s.2.1 ∧ s.2.1 ≤ 1 ∧ s.2.2.length = n ∧ isB s.2.2 ∧ h' = hput h m (bcells s.2.2, t) ∧ pd s.2.2 s.1 + pd lb s.1 = pd la s.1 + s.2.1 * 256 ^ s.1 ∧ ∀ j, s.1 ≤ j → s.2.2.getD j 0 = la.getD j 0) (fun s => n - s.1) (0, 0, la)
    ⟨rfl, rfl, rfl, rfl, rfl, trivial⟩ ⟨by simp, by simp, by simp, hn.symm, hla, rfl, by simp [pd], fun _ _ => rfl⟩ ?_
  rintro ⟨i, c, l⟩ ρ h' ⟨hi, hc0, hc1, hl, hlb, rfl, hpd, hrest⟩ ih
  simp only at hi hc0 hc1 hl hlb hpd hrest ⊢
  conv => whnf
  have hB' := hb.ext (Ext.bd (x := (bcells l, t)) hm)
  have hown : Byt (hput h m (bcells l, t)) (some ⟨m, 0, none⟩) n n l := own_all hlb (by omega) (by omega)
  refine CondX.mk (fun hc => ?_) (fun hc => ?_) <;> conv => whnf
  · have hc : i < n := by have := of_decide_eq_true hc; omega
    have ga := hlb.get i
    have gb := hb.isB.get i
    have hai := hrest i (Nat.le_refl _)
    refine CondX.mk (fun hd => ?_) (fun hd => ?_) <;> conv => whnf
    · have hd : i < nb := by have := of_decide_eq_true hd; omega
      refine IdxX.rd hB'.rd (by omega) (by omega) fun b2 o2 e2 _ => ?_; conv => whnf
      refine LoadX.byte hB' e2 i rfl (by omega) rfl ?_; conv => whnf
      have hsum : IntKind.u16.wrap (c + IntKind.u16.wrap (lb.getD i 0)) = c + lb.getD i 0 := by simp only [wrap_u16]; omega
      refine IdxX.at (by omega) (by omega) ?_; conv => whnf
      refine LoadX.byte hown rfl i rfl (by omega) rfl ?_; conv => whnf
      have hu : IntKind.u16.wrap (l.getD i 0) = l.getD i 0 := by rw [wrap_u16]; omega
      have hw : IntKind.i64.wrap ((i : Int) + 1) = ((i + 1 : Nat) : Int) := by rw [wrap_i64 (by omega) (by omega)]; omega
      rw [hsum, hu]
      refine CondX.mk (fun hlt => ?_) (fun hlt => ?_) <;> conv => whnf
      · have hlt := of_decide_eq_true hlt
        have e1 : IntKind.u8.wrap (IntKind.u16.wrap (IntKind.u16.wrap (l.getD i 0 + 256) - (c + lb.getD i 0))) = l.getD i 0 + 256 - (c + lb.getD i 0) := by simp only [wrap_u8, wrap_u16]; omega
        rw [e1]
        refine IdxX.at (by omega) (by omega) ?_; conv => whnf
        refine StoreX.byte i (by simp [y5]) (by omega) ?_; conv => whnf
        refine ih (i + 1, 1, l.set i (l.getD i 0 + 256 - (c + lb.getD i 0))) _ _ ?_ ?_ ?_
        · refine ⟨by dsimp only; omega, by dsimp only; omega, by dsimp only; omega, by simp [hl], hlb.set (by omega) (by omega), rfl, ?_, ?_⟩
          · simp only [pd]
            rw [pd_set (Nat.le_refl _), getD_set_same (by omega), Int.pow_succ]
            grind
          · intro j hj
            dsimp only at hj ⊢
            rw [getD_set_other (by omega)]
            exact hrest j (by omega)
        · dsimp only; omega
        · exact ⟨rfl, rfl, rfl, rfl, congrArg (Value.int .i64) hw, trivial⟩
      · have hlt := of_decide_eq_false hlt
        have e1 : IntKind.u8.wrap (IntKind.u16.wrap (l.getD i 0 - (c + lb.getD i 0))) = l.getD i 0 - (c + lb.getD i 0) := by simp only [wrap_u8, wrap_u16]; omega
        rw [e1]
        refine IdxX.at (by omega) (by omega) ?_; conv => whnf
        refine StoreX.byte i (by simp [y5]) (by omega) ?_; conv => whnf
        refine ih (i + 1, 0, l.set i (l.getD i 0 - (c + lb.getD i 0))) _ _ ?_ ?_ ?_
        · refine ⟨by dsimp only; omega, by dsimp only; omega, by dsimp only; omega, by simp [hl], hlb.set (by omega) (by omega), rfl, ?_, ?_⟩
          · simp only [pd]
            rw [pd_set (Nat.le_refl _), getD_set_same (by omega), Int.pow_succ]
            grind
          · intro j hj
            dsimp only at hj ⊢
            rw [getD_set_other (by omega)]
            exact hrest j (by omega)
        · dsimp only; omega
        · exact ⟨rfl, rfl, rfl, rfl, congrArg (Value.int .i64) hw, trivial⟩
    · have hd : nb ≤ i := by have := of_decide_eq_false hd; omega
      have hb0 : lb.getD i 0 = 0 := getD_nil (by omega)
      have hsum : c = c + 0 := by omega
      refine IdxX.at (by omega) (by omega) ?_; conv => whnf
      refine LoadX.byte hown rfl i rfl (by omega) rfl ?_; conv => whnf
      have hu : IntKind.u16.wrap (l.getD i 0) = l.getD i 0 := by rw [wrap_u16]; omega
      have hw : IntKind.i64.wrap ((i : Int) + 1) = ((i + 1 : Nat) : Int) := by rw [wrap_i64 (by omega) (by omega)]; omega
      rw [hsum, hu]
      refine CondX.mk (fun hlt => ?_) (fun hlt => ?_) <;> conv => whnf
      · have hlt := of_decide_eq_true hlt
        have e1 : IntKind.u8.wrap (IntKind.u16.wrap (IntKind.u16.wrap (l.getD i 0 + 256) - (c + 0))) = l.getD i 0 + 256 - (c + 0) := by simp only [wrap_u8, wrap_u16]; omega
        rw [e1]
        refine IdxX.at (by omega) (by omega) ?_; conv => whnf
        refine StoreX.byte i (by simp [y5]) (by omega) ?_; conv => whnf
        refine ih (i + 1, 1, l.set i (l.getD i 0 + 256 - (c + 0))) _ _ ?_ ?_ ?_
        · refine ⟨by dsimp only; omega, by dsimp only; omega, by dsimp only; omega, by simp [hl], hlb.set (by omega) (by omega), rfl, ?_, ?_⟩
          · simp only [pd]
            rw [pd_set (Nat.le_refl _), getD_set_same (by omega), Int.pow_succ]
            grind
          · intro j hj
            dsimp only at hj ⊢
            rw [getD_set_other (by omega)]
            exact hrest j (by omega)
        · dsimp only; omega
        · exact ⟨rfl, rfl, rfl, rfl, congrArg (Value.int .i64) hw, trivial⟩
      · have hlt := of_decide_eq_false hlt
        have e1 : IntKind.u8.wrap (IntKind.u16.wrap (l.getD i 0 - (c + 0))) = l.getD i 0 - (c + 0) := by simp only [wrap_u8, wrap_u16]; omega
        rw [e1]
        refine IdxX.at (by omega) (by omega) ?_; conv => whnf
        refine StoreX.byte i (by simp [y5]) (by omega) ?_; conv => whnf
        refine ih (i + 1, 0, l.set i (l.getD i 0 - (c + 0))) _ _ ?_ ?_ ?_
        · refine ⟨by dsimp only; omega, by dsimp only; omega, by dsimp only; omega, by simp [hl], hlb.set (by omega) (by omega), rfl, ?_, ?_⟩
          · simp only [pd]
            rw [pd_set (Nat.le_refl _), getD_set_same (by omega), Int.pow_succ]
            grind
          · intro j hj
            dsimp only at hj ⊢
            rw [getD_set_other (by omega)]
            exact hrest j (by omega)
        · dsimp only; omega
        · exact ⟨rfl, rfl, rfl, rfl, congrArg (Value.int .i64) hw, trivial⟩
  · have hc : i = n := by have := of_decide_eq_false hc; omega
    subst hc
    rw [pd_dv _ (by omega), pd_dv _ (by omega), pd_dv _ (by omega)] at hpd
    have h1 := dv_lt_pow hlb
    have h2 := dv_nonneg hlb
    rw [hl] at h1
    have hc : c = 0 := by
      rcases (show c = 0 ∨ c = 1 by omega) with e | e
      · exact e
      · subst e; omega
    subst hc
    exact RetX.same (hk l hlb (by omega) (by omega))

set_option maxRecDepth 100000 in
theorem sub_ok {h : Hp} {K : Value → Hp → Prop} {ba bb : Option Addr} {na ca nb cb : Nat} {la lb : List Int} (ha : Byt h ba na ca la) (hb : Byt h bb nb cb lb)
    (hk0 : dv la < dv lb → K (.tuple #[.slice none 0 0, .bool false]) h)
    (hk : dv lb ≤ dv la → ∀ b n c h', Ext h h' → Nt h' b n c (dv la - dv lb) → K (.tuple #[.slice b n c, .bool true]) h') : CallX Hval.prog 91 [.slice ba na ca, .slice bb nb cb] h K := by
  refine CallX.of_xf T_ok Hval.func91 rfl (by kernel_rfl) (Nat.le_of_ble_eq_true rfl) ?_; conv => whnf
  refine cmp_ok ha hb ?_; conv => whnf
  refine CondX.mk (fun hlt => ?_) (fun hlt => ?_) <;> conv => whnf
  · have hlt : dv la < dv lb := by
      have := of_decide_eq_true hlt
      unfold cmpI at this
      split at this
      · assumption
      · split at this <;> omega
    exact RetX.same (hk0 hlt)
  have hge : dv lb ≤ dv la := by
    have := of_decide_eq_false hlt
    unfold cmpI at this
    split at this
    · omega
    · omega
  have hk := hk hge
  refine norm_own ha (fun h0 => ?_) fun m l' hm hl' htr hdv hr => ?_
  · conv => whnf
    refine trim_ok hb fun kb b' _ _ hb' hdb htb => ?_; conv => whnf
    refine take_nil ?_; conv => whnf
    refine clip_ok (Byt_nil h) fun b n c hn => ?_; conv => whnf
    refine RetX.same (hk _ _ _ _ (Ext.refl _) ?_)
    have := dv_nonneg hb.isB
    have e : dv la - dv lb = dv [] := by simp only [dv]; omega
    rwa [e]
  · conv => whnf
    refine trim_ok (hb.ext (Ext.bd hm)) fun kb b' _ hb'e hb' hdb htb => ?_; conv => whnf
    have hB : Byt h bb kb kb b' := by
      have := hb.pre (k := kb) (m := kb) (by assumption) (Nat.le_refl _) (by have := hb.le; omega)
      rwa [← hb'e] at this
    have hlen := hB.len
    refine take_ok hm hl' rfl (Nat.le_refl _) hr hB ?_ (by omega) fun l2 h2 hl2 hd2 => ?_
    · rcases Nat.lt_or_ge l'.length kb with h1 | h1
      · have := dv_lt_of_len hl' hB.isB htb (by omega); omega
      · exact h1
    conv => whnf
    refine clip_ok (own_all h2 (by omega) (by omega)) fun b n c hn => ?_; conv => whnf
    refine RetX.same (hk _ _ _ _ (Ext.bd hm) ?_)
    have e : dv la - dv lb = dv l2 := by omega
    rwa [e]

theorem Nt.val {h : Hp} {base : Option Addr} {len cap : Nat} {x : Int} (hn : Nt h base len cap x) : 0 ≤ x := by
  obtain ⟨l, hb, rfl, -⟩ := hn
  exact dv_nonneg hb.isB
end Go.Proofs.YgvalwGreat.X
