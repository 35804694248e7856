import Derived.Test.YgvalwGreatW6
import Derived.Test.YgvalwGreatM36
set_option linter.unusedVariables false
set_option linter.unusedSimpArgs false
namespace Go.Proofs.YgvalwGreat.X
open Go

section
variable {h g : Hp} {K : Value → Hp → Prop} {bc : Option Addr} {nc cc : Nat} {l : List Int}
theorem noneE {h1 h2 : Hp} (he : Ext h1 h2) {b : Nat} (hb : h2 b = none) : h1 b = none := by
  cases hx : h1 b with
  | none => rfl
  | some x => rw [he _ _ hx] at hb; cases hb
theorem lv_dig : ∀ (r : List Int) (i : Nat), isL r → lv r / 18446744073709551616 ^ i % 18446744073709551616 = r.getD i 0
  | [], i, _ => by simp [lv]
  | d :: l, 0, h => by
    have hd := h d (List.mem_cons_self ..)
    show (d + 18446744073709551616 * lv l) / 18446744073709551616 ^ 0 % _ = d
    rw [Int.pow_zero, Int.ediv_one]
    have := hd.1; have := hd.2
    omega
  | d :: l, i + 1, h => by
    have hd := h d (List.mem_cons_self ..)
    have ih := lv_dig l i fun x hx => h x (List.mem_cons_of_mem _ hx)
    show (d + 18446744073709551616 * lv l) / 18446744073709551616 ^ (i + 1) % _ = l.getD i 0
    rw [Int.pow_succ, Int.mul_comm (18446744073709551616 ^ i), ← Int.ediv_ediv_of_nonneg (by decide)]
    have e : (d + 18446744073709551616 * lv l) / 18446744073709551616 = lv l := by have := hd.1; have := hd.2; omega
    rw [e, ih]
theorem be_lim {r : List Int} (hL : isL r) (i : Nat) : be 8 (r.getD i 0) ++ be (8 * i) (lv r) = be (8 * (i + 1)) (lv r) := by
  rw [show 8 * (i + 1) = 8 * i + 8 by omega, be_app, ← lv_dig r i hL, show (18446744073709551616 : Int) ^ i = 256 ^ (8 * i) by rw [Int.pow_mul]; rfl]
  rw [show (18446744073709551616 : Int) = 256 ^ 8 from rfl, be_mod]
theorem intCells_ulR : ∀ l : List Int, intCells .u64 (ul l) = true
  | [] => rfl
  | _ :: l => intCells_ulR l
set_option maxRecDepth 100000 in
set_option maxHeartbeats 4000000 in
theorem mNativeRun_ok {k : Int} (hs : Byt h bc nc cc l) (hc : ∃ y, natCost k l = some y) (hk : ∀ s h', Ext h h' → BytS h' s (natOut k l) → New h s → K (sl s) h') : CallX Hval.prog 182 [.int .u8 k, .slice bc nc cc] h K := by
  refine CallX.of_xf T_ok Hval.func182 rfl (by kernel_rfl) (Nat.le_of_ble_eq_true rfl) ?_; conv => whnf
  refine CondX.eqI (fun h4 => ?_) (fun h4 => ?_) <;> conv => whnf
  · refine copiedM_own hs fun s h' e hb hw => ?_; conv => whnf
    refine RetX.same (hk s h' e ?_ hw)
    rw [natOut, if_pos h4]; exact hb
  · have h5 : k = 5 ∧ lensOk l = true := by
      obtain ⟨y, hy⟩ := hc
      rw [natCost, if_neg h4] at hy
      split at hy
      · assumption
      · cases hy
    obtain ⟨rfl, hok⟩ := h5
    have hb0 := lenI_nonneg hs.isB 0
    have hb1 := lenI_nonneg hs.isB 1
    have hb2 := lenI_nonneg hs.isB 2
    have hb3 : lenI l 0 ≤ 64 ∧ lenI l 1 ≤ 64 ∧ lenI l 2 ≤ 64 := of_decide_eq_true hok
    have hout : natOut 5 l = be (lenI l 2).toNat (modexpI (bv (cutN l 96 (lenI l 0).toNat)) (bv (cutN l (96 + (lenI l 0).toNat) (lenI l 1).toNat)) (bv (cutN l (96 + (lenI l 0).toNat + (lenI l 1).toNat) (lenI l 2).toNat))) := rfl
    refine mLengths_ok hs (fun hf => by rw [hf] at hok; cases hok) (fun _ => ?_); conv => whnf
    repeat (first | (refine CondX.tt ?_; conv => whnf) | (refine CondX.ff ?_; conv => whnf))
    obtain ⟨z0, hz0⟩ : ∃ z : Nat, lenI l 0 = z := ⟨_, (Int.toNat_of_nonneg hb0).symm⟩
    obtain ⟨z1, hz1⟩ : ∃ z : Nat, lenI l 1 = z := ⟨_, (Int.toNat_of_nonneg hb1).symm⟩
    obtain ⟨z2, hz2⟩ : ∃ z : Nat, lenI l 2 = z := ⟨_, (Int.toNat_of_nonneg hb2).symm⟩
    rw [hz0, hz1, hz2] at hb3 hout ⊢
    simp only [Int.toNat_natCast] at hout
    refine CondX.eqI (fun hz => ?_) (fun hz => ?_) <;> conv => whnf
    · refine RetX.same (hk nilS h (Ext.refl _) ?_ fun a ha => by cases ha)
      rw [hout, show z2 = 0 by omega]
      exact Byt_nil h
    refine mOperand_ok (off := 96) (n := z0) hs (by omega) (by omega) fun rb hrb hLb hvb => ?_; conv => whnf
    refine BoxX.ext fun m9 hm9 em9 => ?_; conv => whnf
    refine Ob.mk ⟨by rw [List.size_toArray, ul_len, hrb]; rfl, ones_ul _⟩ ?_; conv => whnf
    refine StoreX.whole (hput_same ..) (by rw [List.toList_toArray, ul_len, hrb]; rfl) ?_
    rw [hput_hput, List.toList_toArray]; conv => whnf
    have hE9 : Ext h (hput h m9 (ul rb, 317)) := Ext.new hm9.at
    have b9 : hput h m9 (ul rb, 317) m9 = some (ul rb, 317) := hput_same ..
    generalize hput h m9 (ul rb, 317) = g9 at *
    rw [show IntKind.i64.wrap (96 + (z0 : Int)) = ((96 + z0 : Nat) : Int) by rw [wrap_i64 (by omega) (by omega)]; omega]
    refine mOperand_ok (off := 96 + z0) (n := z1) (hs.ext hE9) (by omega) (by omega) fun re hre hLe hve => ?_; conv => whnf
    refine BoxX.ext fun m10 hm10 em10 => ?_; conv => whnf
    refine Ob.mk ⟨by rw [List.size_toArray, ul_len, hre]; rfl, ones_ul _⟩ ?_; conv => whnf
    refine StoreX.whole (hput_same ..) (by rw [List.toList_toArray, ul_len, hre]; rfl) ?_
    rw [hput_hput, List.toList_toArray]; conv => whnf
    have e10 : Ext g9 (hput g9 m10 (ul re, 317)) := Ext.new hm10.at
    have b10 : hput g9 m10 (ul re, 317) m10 = some (ul re, 317) := hput_same ..
    have b9 := e10 _ _ b9
    have hE10 := hE9.trans e10
    clear em9 em10 hm9 hm10 e10 hE9
    generalize hput g9 m10 (ul re, 317) = g10 at *
    rw [show IntKind.i64.wrap (IntKind.i64.wrap (96 + (z0 : Int)) + (z1 : Int)) = ((96 + z0 + z1 : Nat) : Int) by rw [wrap_i64 (x := 96 + (z0 : Int)) (by omega) (by omega), wrap_i64 (by omega) (by omega)]; omega]
    refine mOperand_ok (off := 96 + z0 + z1) (n := z2) (hs.ext hE10) (by omega) (by omega) fun rm hrm hLm hvm => ?_; conv => whnf
    refine BoxX.ext fun m11 hm11 em11 => ?_; conv => whnf
    refine Ob.mk ⟨by rw [List.size_toArray, ul_len, hrm]; rfl, ones_ul _⟩ ?_; conv => whnf
    refine StoreX.whole (hput_same ..) (by rw [List.toList_toArray, ul_len, hrm]; rfl) ?_
    rw [hput_hput, List.toList_toArray]; conv => whnf
    have e11 : Ext g10 (hput g10 m11 (ul rm, 317)) := Ext.new hm11.at
    have b11 : hput g10 m11 (ul rm, 317) m11 = some (ul rm, 317) := hput_same ..
    have b9 := e11 _ _ b9
    have b10 := e11 _ _ b10
    have hE11 := hE10.trans e11
    clear em11 hm11 e11 hE10
    generalize hput g10 m11 (ul rm, 317) = g11 at *
    refine wModExp_ok b9 b10 b11 hrb hre hrm hLb hLe hLm fun r hr hLr hvr => ?_; conv => whnf
    refine BoxX.ext fun m12 hm12 em12 => ?_; conv => whnf
    refine Ob.mk ⟨by rw [List.size_toArray, ul_len, hr]; rfl, ones_ul _⟩ ?_; conv => whnf
    refine StoreX.whole (hput_same ..) (by rw [List.toList_toArray, ul_len, hr]; rfl) ?_
    rw [hput_hput, List.toList_toArray]; conv => whnf
    have e12 : Ext g11 (hput g11 m12 (ul r, 317)) := Ext.new hm12.at
    have b12 : hput g11 m12 (ul r, 317) m12 = some (ul r, 317) := hput_same ..
    have hE12 := hE11.trans e12
    clear em12 hm12 e12 hE11 b9 b10 b11
    generalize hput g11 m12 (ul r, 317) = g12 at *
    rw [hvb, hve, hvm] at hvr
    rw [← hvr] at hout
    refine BoxX.ext fun m13 hm13 em13 => ?_; conv => whnf
    have b12 := em13 _ _ b12
    have hE13 : ∀ y, Ext h (hput g12 m13 y) := fun y => hE12.trans (Ext.new hm13.at)
    refine LoadX.all (c := ul r) b12 (by rw [ul_len, hr]; rfl) ?_; conv => whnf
    erw [show (321, y321).snd.zero = bcells (List.replicate (64 - 8 * 0) 0 ++ be (8 * 0) (lv r)) from rfl]
    refine LoopX.st T_ok Hval.func182 (σ := Nat) (fun i => [(7, .int .i64 z2), (13, .pointer (some ⟨m13, 0, none⟩)), (53, .agg (ul r).toArray), (54, .int .i64 i)])
      (fun i h' => i ≤ 8 ∧ h' = hput g12 m13 (bcells (List.replicate (64 - 8 * i) 0 ++ be (8 * i) (lv r)), 321)) (fun i => 8 - i) 0
      ⟨rfl, rfl, rfl, rfl, trivial⟩ ⟨Nat.zero_le _, rfl⟩ ?_
    rintro i ρ h' ⟨hi, rfl⟩ ih
    conv => whnf
    refine CondX.decI (fun hp => ?_) (fun hp => ?_) <;> conv => whnf
    · refine Ob.mk ⟨by omega, by omega, by rw [List.size_toArray, ul_len, hr], by rw [List.toList_toArray]; exact intCells_ulR r⟩ ?_
      intro y hy
      rw [List.toList_toArray, Int.toNat_natCast, ul, List.getElem?_map] at hy
      have hyi : r.getD i 0 = y := by
        rw [List.getElem?_eq_getElem (by omega)] at hy
        rw [List.getD_eq_getElem?_getD, List.getElem?_eq_getElem (by omega), Option.getD_some]
        simpa using hy
      conv => whnf
      rw [show IntKind.i64.wrap (56 - IntKind.i64.wrap (8 * (i : Int))) = ((56 - 8 * i : Nat) : Int) by rw [wrap_i64 (x := 8 * (i : Int)) (by omega) (by omega), wrap_i64 (by omega) (by omega)]; omega]
      repeat (refine Ob.mk (by first | decide | omega) ?_; conv => whnf)
      have hU := hLr.get i
      rw [hyi] at hU
      have hlen : (List.replicate (64 - 8 * i) (0 : Int) ++ be (8 * i) (lv r)).length = 64 := by rw [List.length_append, List.length_replicate, be_length]; omega
      refine putBE64_ok (pre := []) (post := []) (l := List.replicate (64 - 8 * i) 0 ++ be (8 * i) (lv r)) (m := m13) (n := 64) (cap := 64) (o := 56 - 8 * i) (t := 321) (by rw [hput_same, List.append_nil]; rfl) hlen (by omega) (by omega) (by omega) hU.1 hU.2 ?_
      rw [List.append_nil, hput_hput]; conv => whnf
      refine ih (i + 1) _ _ ⟨by omega, ?_⟩ (by omega) ⟨rfl, rfl, rfl, ?_, trivial⟩
      · congr 3
        rw [List.take_append_of_le_length (by rw [List.length_replicate]; omega), List.take_replicate, Nat.min_eq_left (by omega), List.drop_append, List.length_replicate, List.drop_of_length_le (by rw [List.length_replicate]; omega), show 56 - 8 * i + 8 - (64 - 8 * i) = 0 by omega, List.drop_zero, ← hyi]
        simp only [List.nil_append]
        rw [be_lim hLr i, show 64 - 8 * (i + 1) = 56 - 8 * i by omega]
      · exact congrArg (Value.int .i64) (wsucc (by omega))
    · have hp : i = 8 := by omega
      subst hp
      rw [show IntKind.i64.wrap (64 - (z2 : Int)) = ((64 - z2 : Nat) : Int) by rw [wrap_i64 (by omega) (by omega)]; omega]
      repeat (refine Ob.mk (by first | decide | omega) ?_; conv => whnf)
      have hb64 : Byt (hput g12 m13 (bcells (List.replicate (64 - 8 * 8) 0 ++ be (8 * 8) (lv r)), 321)) (some ⟨m13, 0, none⟩) 64 64 (be 64 (lv r)) := own_all (isB_be _ _) (by rw [be_length]) (by rw [be_length]; decide)
      have hsl := hb64.slice (lo := 64 - z2) (hh := 64) (m := 64) (by omega) (by omega) (by omega) (by omega)
      rw [Int.toNat_natCast]
      have e1 : ((be 64 (lv r)).drop (64 - z2)).take (64 - (64 - z2)) = be z2 (lv r) := by
        have h1 := be_app z2 (64 - z2) (lv r)
        rw [show z2 + (64 - z2) = 64 by omega] at h1
        rw [h1, List.drop_left' (by rw [be_length]), List.take_of_length_le (by rw [be_length]; omega)]
      rw [e1] at hsl
      refine copiedM_own hsl fun s h' e hb hw => ?_; conv => whnf
      refine RetX.same (hk s h' ((hE13 _).trans e) ?_ fun a ha => noneE (hE13 _) (hw a ha))
      rw [hout]; exact hb
end
end Go.Proofs.YgvalwGreat.X
