import Derived.Test.YgvalwGreatF4
set_option linter.unusedVariables false
set_option linter.unusedSimpArgs false
namespace Go.Proofs.YgvalwGreat.X
open Go

theorem IdxX.at {b off len : Nat} {j : Int} {KK : Nat → Nat → Prop} (h0 : 0 ≤ j) (h1 : j < len) (hk : KK b off) : IdxX (some ⟨b, off, none⟩) len j KK := ⟨⟨⟨h0, h1⟩, hk⟩⟩

theorem getD_nil {l : List Int} {j : Nat} (h : l.length ≤ j) : l.getD j 0 = 0 := by simp [List.getElem?_eq_none h]

set_option maxRecDepth 100000 in
theorem add_ok {h : Hp} {K : Value → Hp → Prop} {ba bb : Option Addr} {na ca nb cb : Nat} {la lb : List Int} (ha : Byt h ba na ca la) (hb : Byt h bb nb cb lb) (hx : dv la + dv lb < big)
    (hk : ∀ b n c h', Ext h h' → Nt h' b n c (dv la + dv lb) → K (.slice b n c) h') : CallX Hval.prog 34 [.slice ba na ca, .slice bb nb cb] h K := by
  refine CallX.of_xf T_ok Hval.func34 rfl (by kernel_rfl) (Nat.le_of_ble_eq_true rfl) ?_; conv => whnf
  refine trim_ok ha fun ka a' _ _ ha' hda hta => ?_; conv => whnf
  refine trim_ok hb fun kb b' _ _ hb' hdb htb => ?_; conv => whnf
  have n1 := dv_nonneg ha'.isB
  have n2 := dv_nonneg hb'.isB
  have hka := Tr_len ha'.isB hta (by omega)
  have hkb := Tr_len hb'.isB htb (by omega)
  refine CondX.mk (fun hlt => ?_) (fun hlt => ?_) <;> conv => whnf
  · have hlt : ka < kb := by have := of_decide_eq_true hlt; omega
    have hla := hb'.len
    have hlb' := ha'.len
    have hra := hb'.room
    have hrb := ha'.room
    have hw0 : IntKind.i64.wrap ((kb : Int) + 1) = ((kb + 1 : Nat) : Int) := by rw [wrap_i64 (by omega) (by omega)]; omega
    rw [hw0]
    refine MakeX.bytes (kb + 1) rfl (by omega) fun m hm => ?_; conv => whnf
    refine LoopX.st T_ok Hval.func34 (σ := Nat × Int × List Int) (fun s => [(0, .slice bb kb kb), (1, .slice ba ka ka), (5, .slice (some ⟨m, 0, none⟩) (kb + 1) (kb + 1)), (6, .int .u16 s.2.1), (24, .slice bb kb kb), (25, .int .i64 kb), (26, .int .i64 s.1)])
      (fun s h' => s.1 ≤ kb ∧ 0 ≤ s.2.1 ∧ s.2.1 ≤ 1 ∧ s.2.2.length = kb + 1 ∧ isB s.2.2 ∧ h' = hput h m (bcells s.2.2, 5) ∧ pd s.2.2 s.1 + s.2.1 * 256 ^ s.1 = pd b' s.1 + pd a' s.1) (fun s => kb - s.1) (0, 0, List.replicate (kb + 1) 0)
      ⟨rfl, rfl, rfl, rfl, rfl, rfl, rfl, trivial⟩ ⟨by simp, by simp, by simp, by simp, isB_zeros _, rfl, by simp [pd]⟩ ?_
    rintro ⟨i, c, l⟩ ρ h' ⟨hi, hc0, hc1, hl, hlb, rfl, hpd⟩ ih
    simp only at hi hc0 hc1 hl hlb hpd ⊢
    conv => whnf
    have hA' := hb'.ext (Ext.bd (x := (bcells l, 5)) hm)
    have hB' := ha'.ext (Ext.bd (x := (bcells l, 5)) hm)
    refine CondX.mk (fun hc => ?_) (fun hc => ?_) <;> conv => whnf
    · have hc : i < kb := by have := of_decide_eq_true hc; omega
      have ga := hb'.isB.get i
      have gb := ha'.isB.get i
      refine IdxX.rd hA'.rd (by omega) (by omega) fun b1 o1 e1 _ => ?_; conv => whnf
      refine LoadX.byte hA' e1 i rfl (by omega) rfl ?_; conv => whnf
      refine CondX.mk (fun hd => ?_) (fun hd => ?_) <;> conv => whnf
      · have hd : i < ka := by have := of_decide_eq_true hd; omega
        refine IdxX.rd hB'.rd (by omega) (by omega) fun b2 o2 e2 _ => ?_; conv => whnf
        refine LoadX.byte hB' e2 i rfl (by omega) rfl ?_; conv => whnf
        have hsum : IntKind.u16.wrap (IntKind.u16.wrap (c + IntKind.u16.wrap (b'.getD i 0)) + IntKind.u16.wrap (a'.getD i 0)) = c + b'.getD i 0 + a'.getD i 0 := by simp only [wrap_u16]; omega
        have hw : IntKind.i64.wrap ((i : Int) + 1) = ((i + 1 : Nat) : Int) := by rw [wrap_i64 (by omega) (by omega)]; omega
        have hs : (c + b'.getD i 0 + (a'.getD i 0)).fdiv (2 ^ (min (Int.toNat 8) 16)) = (c + b'.getD i 0 + (a'.getD i 0)) / 256 := shr8 (by omega) rfl
        have hd : IntKind.u8.wrap (c + b'.getD i 0 + (a'.getD i 0)) = (c + b'.getD i 0 + (a'.getD i 0)) % 256 := wrap_u8 _
        rw [hsum, hd]
        refine IdxX.at (by omega) (by omega) ?_; conv => whnf
        refine StoreX.byte i (by simp [y5]) (by omega) ?_; conv => whnf
        refine Ob.mk (by first | decide | omega) ?_; conv => whnf
        refine ih (i + 1, (c + b'.getD i 0 + (a'.getD i 0)) / 256, l.set i ((c + b'.getD i 0 + (a'.getD i 0)) % 256)) _ _ ?_ ?_ ?_
        · refine ⟨by dsimp only; omega, by dsimp only; omega, by dsimp only; omega, by simp [hl], hlb.set (by omega) (by omega), rfl, ?_⟩
          simp only [pd]
          rw [pd_set (Nat.le_refl _), getD_set_same (by omega), Int.pow_succ]
          have : c + b'.getD i 0 + (a'.getD i 0) = 256 * ((c + b'.getD i 0 + (a'.getD i 0)) / 256) + (c + b'.getD i 0 + (a'.getD i 0)) % 256 := by omega
          grind
        · dsimp only; omega
        · exact ⟨rfl, rfl, rfl, congrArg (Value.int .u16) hs, rfl, rfl, congrArg (Value.int .i64) hw, trivial⟩
      · have hd : ka ≤ i := by have := of_decide_eq_false hd; omega
        have hb0 : a'.getD i 0 = 0 := getD_nil (by omega)
        have hsum : IntKind.u16.wrap (c + IntKind.u16.wrap (b'.getD i 0)) = c + b'.getD i 0 + 0 := by simp only [wrap_u16]; omega
        have hw : IntKind.i64.wrap ((i : Int) + 1) = ((i + 1 : Nat) : Int) := by rw [wrap_i64 (by omega) (by omega)]; omega
        have hs : (c + b'.getD i 0 + 0).fdiv (2 ^ (min (Int.toNat 8) 16)) = (c + b'.getD i 0 + 0) / 256 := shr8 (by omega) rfl
        have hd : IntKind.u8.wrap (c + b'.getD i 0 + 0) = (c + b'.getD i 0 + 0) % 256 := wrap_u8 _
        rw [hsum, hd]
        refine IdxX.at (by omega) (by omega) ?_; conv => whnf
        refine StoreX.byte i (by simp [y5]) (by omega) ?_; conv => whnf
        refine Ob.mk (by first | decide | omega) ?_; conv => whnf
        refine ih (i + 1, (c + b'.getD i 0 + 0) / 256, l.set i ((c + b'.getD i 0 + 0) % 256)) _ _ ?_ ?_ ?_
        · refine ⟨by dsimp only; omega, by dsimp only; omega, by dsimp only; omega, by simp [hl], hlb.set (by omega) (by omega), rfl, ?_⟩
          simp only [pd]
          rw [pd_set (Nat.le_refl _), getD_set_same (by omega), Int.pow_succ]
          have : c + b'.getD i 0 + 0 = 256 * ((c + b'.getD i 0 + 0) / 256) + (c + b'.getD i 0 + 0) % 256 := by omega
          grind
        · dsimp only; omega
        · exact ⟨rfl, rfl, rfl, congrArg (Value.int .u16) hs, rfl, rfl, congrArg (Value.int .i64) hw, trivial⟩
    · have hc : i = kb := by have := of_decide_eq_false hc; omega
      subst hc
      refine IdxX.at (by omega) (by omega) ?_; conv => whnf
      have hd : IntKind.u8.wrap c = c := by rw [wrap_u8]; omega
      rw [hd]
      refine StoreX.byte i (by simp [y5]) (by omega) ?_; conv => whnf
      have hb' : isB (l.set i c) := hlb.set hc0 (by omega)
      refine clip_ok (own_all hb' (by simp [hl]) (by simp [hl]; omega)) fun b n cc hn => ?_; conv => whnf
      refine RetX.same (hk _ _ _ _ (Ext.bd hm) ?_)
      have e : dv (l.set i c) = dv la + dv lb := by
        rw [← pd_dv (l.set i c) (i := i + 1) (by simp [hl]), pd, pd_set (Nat.le_refl _), getD_set_same (by omega), hpd, pd_dv _ (by omega), pd_dv _ (by omega)]
        omega
      rwa [e] at hn
  · have hlt : ¬ ka < kb := by have := of_decide_eq_false hlt; omega
    have hla := ha'.len
    have hlb' := hb'.len
    have hra := ha'.room
    have hrb := hb'.room
    have hw0 : IntKind.i64.wrap ((ka : Int) + 1) = ((ka + 1 : Nat) : Int) := by rw [wrap_i64 (by omega) (by omega)]; omega
    rw [hw0]
    refine MakeX.bytes (ka + 1) rfl (by omega) fun m hm => ?_; conv => whnf
    refine LoopX.st T_ok Hval.func34 (σ := Nat × Int × List Int) (fun s => [(0, .slice ba ka ka), (1, .slice bb kb kb), (5, .slice (some ⟨m, 0, none⟩) (ka + 1) (ka + 1)), (6, .int .u16 s.2.1), (24, .slice ba ka ka), (25, .int .i64 ka), (26, .int .i64 s.1)])
      (fun s h' => s.1 ≤ ka ∧ 0 ≤ s.2.1 ∧ s.2.1 ≤ 1 ∧ s.2.2.length = ka + 1 ∧ isB s.2.2 ∧ h' = hput h m (bcells s.2.2, 5) ∧ pd s.2.2 s.1 + s.2.1 * 256 ^ s.1 = pd a' s.1 + pd b' s.1) (fun s => ka - s.1) (0, 0, List.replicate (ka + 1) 0)
      ⟨rfl, rfl, rfl, rfl, rfl, rfl, rfl, trivial⟩ ⟨by simp, by simp, by simp, by simp, isB_zeros _, rfl, by simp [pd]⟩ ?_
    rintro ⟨i, c, l⟩ ρ h' ⟨hi, hc0, hc1, hl, hlb, rfl, hpd⟩ ih
    simp only at hi hc0 hc1 hl hlb hpd ⊢
    conv => whnf
    have hA' := ha'.ext (Ext.bd (x := (bcells l, 5)) hm)
    have hB' := hb'.ext (Ext.bd (x := (bcells l, 5)) hm)
    refine CondX.mk (fun hc => ?_) (fun hc => ?_) <;> conv => whnf
    · have hc : i < ka := by have := of_decide_eq_true hc; omega
      have ga := ha'.isB.get i
      have gb := hb'.isB.get i
      refine IdxX.rd hA'.rd (by omega) (by omega) fun b1 o1 e1 _ => ?_; conv => whnf
      refine LoadX.byte hA' e1 i rfl (by omega) rfl ?_; conv => whnf
      refine CondX.mk (fun hd => ?_) (fun hd => ?_) <;> conv => whnf
      · have hd : i < kb := by have := of_decide_eq_true hd; omega
        refine IdxX.rd hB'.rd (by omega) (by omega) fun b2 o2 e2 _ => ?_; conv => whnf
        refine LoadX.byte hB' e2 i rfl (by omega) rfl ?_; conv => whnf
        have hsum : IntKind.u16.wrap (IntKind.u16.wrap (c + IntKind.u16.wrap (a'.getD i 0)) + IntKind.u16.wrap (b'.getD i 0)) = c + a'.getD i 0 + b'.getD i 0 := by simp only [wrap_u16]; omega
        have hw : IntKind.i64.wrap ((i : Int) + 1) = ((i + 1 : Nat) : Int) := by rw [wrap_i64 (by omega) (by omega)]; omega
        have hs : (c + a'.getD i 0 + (b'.getD i 0)).fdiv (2 ^ (min (Int.toNat 8) 16)) = (c + a'.getD i 0 + (b'.getD i 0)) / 256 := shr8 (by omega) rfl
        have hd : IntKind.u8.wrap (c + a'.getD i 0 + (b'.getD i 0)) = (c + a'.getD i 0 + (b'.getD i 0)) % 256 := wrap_u8 _
        rw [hsum, hd]
        refine IdxX.at (by omega) (by omega) ?_; conv => whnf
        refine StoreX.byte i (by simp [y5]) (by omega) ?_; conv => whnf
        refine Ob.mk (by first | decide | omega) ?_; conv => whnf
        refine ih (i + 1, (c + a'.getD i 0 + (b'.getD i 0)) / 256, l.set i ((c + a'.getD i 0 + (b'.getD i 0)) % 256)) _ _ ?_ ?_ ?_
        · refine ⟨by dsimp only; omega, by dsimp only; omega, by dsimp only; omega, by simp [hl], hlb.set (by omega) (by omega), rfl, ?_⟩
          simp only [pd]
          rw [pd_set (Nat.le_refl _), getD_set_same (by omega), Int.pow_succ]
          have : c + a'.getD i 0 + (b'.getD i 0) = 256 * ((c + a'.getD i 0 + (b'.getD i 0)) / 256) + (c + a'.getD i 0 + (b'.getD i 0)) % 256 := by omega
          grind
        · dsimp only; omega
        · exact ⟨rfl, rfl, rfl, congrArg (Value.int .u16) hs, rfl, rfl, congrArg (Value.int .i64) hw, trivial⟩
      · have hd : kb ≤ i := by have := of_decide_eq_false hd; omega
        have hb0 : b'.getD i 0 = 0 := getD_nil (by omega)
        have hsum : IntKind.u16.wrap (c + IntKind.u16.wrap (a'.getD i 0)) = c + a'.getD i 0 + 0 := by simp only [wrap_u16]; omega
        have hw : IntKind.i64.wrap ((i : Int) + 1) = ((i + 1 : Nat) : Int) := by rw [wrap_i64 (by omega) (by omega)]; omega
        have hs : (c + a'.getD i 0 + 0).fdiv (2 ^ (min (Int.toNat 8) 16)) = (c + a'.getD i 0 + 0) / 256 := shr8 (by omega) rfl
        have hd : IntKind.u8.wrap (c + a'.getD i 0 + 0) = (c + a'.getD i 0 + 0) % 256 := wrap_u8 _
        rw [hsum, hd]
        refine IdxX.at (by omega) (by omega) ?_; conv => whnf
        refine StoreX.byte i (by simp [y5]) (by omega) ?_; conv => whnf
        refine Ob.mk (by first | decide | omega) ?_; conv => whnf
        refine ih (i + 1, (c + a'.getD i 0 + 0) / 256, l.set i ((c + a'.getD i 0 + 0) % 256)) _ _ ?_ ?_ ?_
        · refine ⟨by dsimp only; omega, by dsimp only; omega, by dsimp only; omega, by simp [hl], hlb.set (by omega) (by omega), rfl, ?_⟩
          simp only [pd]
          rw [pd_set (Nat.le_refl _), getD_set_same (by omega), Int.pow_succ]
          have : c + a'.getD i 0 + 0 = 256 * ((c + a'.getD i 0 + 0) / 256) + (c + a'.getD i 0 + 0) % 256 := by omega
          grind
        · dsimp only; omega
        · exact ⟨rfl, rfl, rfl, congrArg (Value.int .u16) hs, rfl, rfl, congrArg (Value.int .i64) hw, trivial⟩
    · have hc : i = ka := by have := of_decide_eq_false hc; omega
      subst hc
      refine IdxX.at (by omega) (by omega) ?_; conv => whnf
      have hd : IntKind.u8.wrap c = c := by rw [wrap_u8]; omega
      rw [hd]
      refine StoreX.byte i (by simp [y5]) (by omega) ?_; conv => whnf
      have hb' : isB (l.set i c) := hlb.set hc0 (by omega)
      refine clip_ok (own_all hb' (by simp [hl]) (by simp [hl]; omega)) fun b n cc hn => ?_; conv => whnf
      refine RetX.same (hk _ _ _ _ (Ext.bd hm) ?_)
      have e : dv (l.set i c) = dv la + dv lb := by
        rw [← pd_dv (l.set i c) (i := i + 1) (by simp [hl]), pd, pd_set (Nat.le_refl _), getD_set_same (by omega), hpd, pd_dv _ (by omega), pd_dv _ (by omega)]
        omega
      rwa [e] at hn
end Go.Proofs.YgvalwGreat.X
