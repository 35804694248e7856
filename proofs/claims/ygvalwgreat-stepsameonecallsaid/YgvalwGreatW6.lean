import Derived.Test.YgvalwGreatW5
import Derived.Test.YgvalwGreatF26
import Derived.Test.YgvalwGreatE52
set_option linter.unusedVariables false
set_option linter.unusedSimpArgs false
namespace Go.Proofs.YgvalwGreat.X
open Go

section
variable {h g : Hp} {K : Value → Hp → Prop} {bc : Option Addr} {nc cc : Nat} {l : List Int}
theorem bv32' {l : List Int} (h : l.length = 32) (hB : isB l) : 0 ≤ bv l ∧ bv l < W := by
  have := bv_lt hB
  rw [h] at this
  exact ⟨bv_nonneg hB, by rw [W_val]; exact this⟩
theorem cutN_out {a n : Nat} (ha : l.length ≤ a) : cutN l a n = List.replicate n 0 := by
  unfold cutN
  rw [List.drop_eq_nil_of_le ha, List.take_nil, List.nil_append, show n - (l.length - a) = n by omega]
theorem ovl_endW {L n : Nat} {z : List Int} (hn : n ≤ L) (hz : z.length ≤ n) : ovl (List.replicate L 0) (L - n) z = List.replicate (L - n) 0 ++ (z ++ List.replicate (n - z.length) 0) := by
  unfold ovl
  rw [List.take_replicate, List.drop_replicate, Nat.min_eq_left (by omega), show L - (L - n + z.length) = n - z.length by omega]
  try rw [List.append_assoc]
set_option maxRecDepth 100000 in
set_option maxHeartbeats 4000000 in
theorem mpart_ok {m L t off n : Nat} (hs : Byt g bc nc cc l) (hm : g m = none) (hL : L < 2 ^ 20) (hn : n ≤ L) (ho : off < 2 ^ 30)
    (hk : K (.tuple #[]) (hput g m (bcells (List.replicate (L - n) 0 ++ cutN l off n), t))) : CallX Hval.prog 236 [.slice (some ⟨m, 0, none⟩) L L, .slice bc nc cc, .int .i64 off, .int .i64 n] (hput g m (bcells (List.replicate L 0), t)) K := by
  have hl := hs.len
  have hr := hs.room
  have hle := hs.le
  refine CallX.of_xf T_ok Hval.func236 rfl (by kernel_rfl) (Nat.le_of_ble_eq_true rfl) ?_; conv => whnf
  refine CondX.decI (fun h1 => ?_) (fun h1 => ?_) <;> conv => whnf
  · repeat (first | (refine CondX.tt ?_; conv => whnf) | (refine CondX.ff ?_; conv => whnf))
    refine CondX.dT (by omega) ?_; conv => whnf
    repeat (first | (refine CondX.tt ?_; conv => whnf) | (refine CondX.ff ?_; conv => whnf))
    have e1 : IntKind.i64.wrap ((nc : Int) - (off : Int)) = (nc : Int) - off := wrap_i64 (by omega) (by omega)
    rw [e1]
    have e2 : IntKind.i64.wrap ((off : Int) + (n : Int)) = ((off + n : Nat) : Int) := by rw [wrap_i64 (by omega) (by omega)]; omega
    have e3 : IntKind.i64.wrap ((L : Int) - (n : Int)) = ((L - n : Nat) : Int) := by rw [wrap_i64 (by omega) (by omega)]; omega
    have hs' : Byt (hput g m (bcells (List.replicate L 0), t)) bc nc cc l := hs.ext (Ext.new hm)
    have key : ∀ q : Nat, (q : Int) = (if off + n < nc then ((off + n : Nat) : Int) else (nc : Int)) → cutN l off n = ((l.drop off).take (q - off)) ++ List.replicate (n - (q - off)) 0 := fun q hq => by
      unfold cutN
      split at hq
      · have : q = off + n := by omega
        subst this
        rw [show off + n - off = n by omega, hl, show n - (nc - off) = 0 by omega, show n - n = 0 by omega]
      · have : q = nc := by omega
        subst this
        rw [hl, List.take_of_length_le (by rw [List.length_drop]; omega), List.take_of_length_le (by rw [List.length_drop]; omega)]
    refine CondX.decI (fun h2 => ?_) (fun h2 => ?_) <;> conv => whnf
    · refine DrawX.go T_ok hM Hval.func236 (tb := dr236) rfl (by kernel_rfl) ?_; conv => whnf
      rw [e3]
      refine SlcX.at (Nat.le_refl _) (L - n) L L rfl rfl rfl (by omega) (Nat.le_refl _) (Nat.le_refl _) (.inl rfl) ?_; conv => whnf
      try rw [e2]
      refine SlcX.gen hs'.rd hs'.nil hs'.le off ((off + n)) cc rfl rfl rfl (by omega) (by omega) (Nat.le_refl _) (.inl rfl) ?_; conv => whnf
      have hsl := hs'.slice (lo := off) (hh := ((off + n))) (m := cc) (by omega) (by omega) (by omega) (Nat.le_refl _)
      have hqn : ((off + n)) - off ≤ n := by omega
      by_cases hn0 : n = 0
      · rw [show soff 0 (L - n) L (5, y5).snd.size = 0 by unfold soff; rw [if_pos (by omega)]]
        refine CopyX.bytes hsl (by rw [List.length_replicate]; omega) ?_; conv => whnf
        refine RetX.same (cast (congrArg (fun y => K (.tuple #[]) (hput g m (bcells y, t))) ?_) hk)
        rw [show Nat.min (((off + n)) - off) (L - (L - n)) = 0 by rw [show L - (L - n) = 0 by omega]; exact Nat.min_zero _, List.take_zero, hn0]
        unfold ovl cutN
        simp
      · rw [show soff 0 (L - n) L (5, y5).snd.size = L - n by unfold soff; rw [if_neg (by omega), show (5, y5).snd.size = 1 from rfl]; omega]
        refine CopyX.bytes hsl (by rw [List.length_replicate]; omega) ?_; conv => whnf
        refine RetX.same (cast (congrArg (fun y => K (.tuple #[]) (hput g m (bcells y, t))) ?_) hk)
        rw [show Nat.min (((off + n)) - off) (L - (L - n)) = ((off + n)) - off from Nat.min_eq_left (by omega), List.take_of_length_le (by rw [hsl.len]; exact Nat.le_refl _), ovl_endW hn (by rw [hsl.len]; exact hqn), hsl.len, key ((off + n)) (by first | (rw [if_pos (by omega)]) | (rw [if_neg (by omega)]))]
    · refine DrawX.go T_ok hM Hval.func236 (tb := dr236) rfl (by kernel_rfl) ?_; conv => whnf
      rw [e3]
      refine SlcX.at (Nat.le_refl _) (L - n) L L rfl rfl rfl (by omega) (Nat.le_refl _) (Nat.le_refl _) (.inl rfl) ?_; conv => whnf
      try rw [e2]
      refine SlcX.gen hs'.rd hs'.nil hs'.le off (nc) cc rfl rfl rfl (by omega) (by omega) (Nat.le_refl _) (.inl rfl) ?_; conv => whnf
      have hsl := hs'.slice (lo := off) (hh := (nc)) (m := cc) (by omega) (by omega) (by omega) (Nat.le_refl _)
      have hqn : (nc) - off ≤ n := by omega
      by_cases hn0 : n = 0
      · rw [show soff 0 (L - n) L (5, y5).snd.size = 0 by unfold soff; rw [if_pos (by omega)]]
        refine CopyX.bytes hsl (by rw [List.length_replicate]; omega) ?_; conv => whnf
        refine RetX.same (cast (congrArg (fun y => K (.tuple #[]) (hput g m (bcells y, t))) ?_) hk)
        rw [show Nat.min ((nc) - off) (L - (L - n)) = 0 by rw [show L - (L - n) = 0 by omega]; exact Nat.min_zero _, List.take_zero, hn0]
        unfold ovl cutN
        simp
      · rw [show soff 0 (L - n) L (5, y5).snd.size = L - n by unfold soff; rw [if_neg (by omega), show (5, y5).snd.size = 1 from rfl]; omega]
        refine CopyX.bytes hsl (by rw [List.length_replicate]; omega) ?_; conv => whnf
        refine RetX.same (cast (congrArg (fun y => K (.tuple #[]) (hput g m (bcells y, t))) ?_) hk)
        rw [show Nat.min ((nc) - off) (L - (L - n)) = (nc) - off from Nat.min_eq_left (by omega), List.take_of_length_le (by rw [hsl.len]; exact Nat.le_refl _), ovl_endW hn (by rw [hsl.len]; exact hqn), hsl.len, key (nc) (by first | (rw [if_pos (by omega)]) | (rw [if_neg (by omega)]))]
  · repeat (first | (refine CondX.tt ?_; conv => whnf) | (refine CondX.ff ?_; conv => whnf))
    refine RetX.same (cast (congrArg (fun y => K (.tuple #[]) (hput g m (bcells y, t))) ?_) hk)
    rw [cutN_out (by omega), List.replicate_append_replicate, show L - n + n = L by omega]
def ilist (a b c : Int) : List Value := [.int .i64 a, .int .i64 b, .int .i64 c]
set_option maxRecDepth 100000 in
set_option maxHeartbeats 4000000 in
theorem mLengths_ok (hs : Byt h bc nc cc l) (hk0 : lensOk l = false → K (.tuple #[.int .i64 0, .int .i64 0, .int .i64 0, .bool false]) h)
    (hk : lensOk l = true → K (.tuple #[.int .i64 (lenI l 0), .int .i64 (lenI l 1), .int .i64 (lenI l 2), .bool true]) h) : CallX Hval.prog 235 [.slice bc nc cc] h K := by
  refine CallX.of_xf T_ok Hval.func235 rfl (by kernel_rfl) (Nat.le_of_ble_eq_true rfl) ?_; conv => whnf
  refine BoxX.mk fun m hm => ?_; conv => whnf
  have hmn : h m = none := hm.none (Nat.le_refl _)
  let v := fun (i j : Nat) => if j < i then lenI l j else 0
  refine LoopX.st T_ok Hval.func235 (σ := Nat) (fun i => [(0, .slice bc nc cc), (6, .pointer (some ⟨m, 0, none⟩)), (11, .int .i64 i)])
    (fun i h' => i ≤ 3 ∧ Ext h h' ∧ h' m = some (ilist (v i 0) (v i 1) (v i 2), 375) ∧ ∀ j, j < i → lenI l j ≤ 64) (fun i => 3 - i) 0
    ⟨rfl, rfl, rfl, trivial⟩ ⟨Nat.zero_le _, Ext.bd hm, hput_same .., fun j hj => by omega⟩ ?_
  rintro i ρ h' ⟨hi, he, hv, hle⟩ ih
  conv => whnf
  refine CondX.decI (fun hp => ?_) (fun hp => ?_) <;> conv => whnf
  · refine BoxX.mk fun m8 hm8 => ?_; conv => whnf
    erw [show (32, y32).snd.zero = bcells (List.replicate 32 0) from rfl]
    have e1 : IntKind.i64.wrap (32 * (i : Int)) = ((32 * i : Nat) : Int) := by
      rw [wrap_i64 (by omega) (by omega)]; omega
    rw [e1]
    repeat (refine Ob.mk (by first | decide | omega) ?_; conv => whnf)
    refine mpart_ok (L := 32) (n := 32) (off := 32 * i) (t := 32) (hs.ext he) (hm8.none (Nat.le_refl _)) (by omega) (by omega) (by omega) ?_; conv => whnf
    have hcl : (cutN l (32 * i) 32).length = 32 := cutN_length ..
    have hcB : isB (cutN l (32 * i) 32) := isB_cutN hs.isB _ _
    refine LoadX.arr (l := cutN l (32 * i) 32) (hput_same ..) hcl ?_; conv => whnf
    refine fromBytes_ok hcl hcB ?_; conv => whnf
    have hb := bv32' hcl hcB
    obtain ⟨a, ha⟩ : ∃ a : Nat, bv (cutN l (32 * i) 32) = a := ⟨_, (Int.toNat_of_nonneg hb.1).symm⟩
    have hli : lenI l i = a := ha
    rw [ha] at hb ⊢
    refine eU64_ok hb.2 ?_; conv => whnf
    have heA : Ext h (hput h' m8 (bcells (cutN l (32 * i) 32), 32)) := he.trans (Ext.new (hm8.none (Nat.le_refl _)))
    have hbad : ¬ lenI l i ≤ 64 → lensOk l = false := fun hz => by
      rw [lensOk, decide_eq_false_iff_not]
      rintro ⟨h0, h1, h2⟩
      rcases (by omega : i = 0 ∨ i = 1 ∨ i = 2) with e | e | e <;> subst e <;> omega
    by_cases hfit : (a : Int) < 18446744073709551616
    · rw [decide_eq_true hfit, if_pos hfit]
      repeat (first | (refine CondX.tt ?_; conv => whnf) | (refine CondX.ff ?_; conv => whnf))
      refine CondX.decI (fun hz => ?_) (fun hz => ?_) <;> conv => whnf
      · exact RetX.drop heA (hk0 (hbad (by omega)))
      · rw [show IntKind.i64.wrap (a : Int) = (a : Int) from wrap_i64 (by omega) (by omega)]
        refine Ob.mk (by first | decide | omega) ?_; conv => whnf
        refine StoreX.at (c := ilist (v i 0) (v i 1) (v i 2)) (t := 375) (by rw [hput_ne (fun e => by rw [e, hm8.none (Nat.le_refl _)] at hv; cases hv)]; exact hv) (by show 0 + (i : Int).toNat * 1 + 1 ≤ 3; omega) ?_; conv => whnf
        refine ih (i + 1) _ _ ⟨by omega, fun b x hb => ?_, ?_, fun j hj => ?_⟩ (by omega) ⟨rfl, rfl, ?_, trivial⟩
        · have : b ≠ m := by rintro rfl; rw [hmn] at hb; cases hb
          rw [hput_ne this]; exact heA _ _ hb
        · rw [hput_same, ← hli]
          rcases (by omega : i = 0 ∨ i = 1 ∨ i = 2) with e | e | e <;> subst e <;> rfl
        · by_cases hji : j = i
          · subst hji; omega
          · exact hle j (by omega)
        · exact congrArg (Value.int .i64) (wsucc (by omega))
    · rw [decide_eq_false hfit]
      repeat (first | (refine CondX.tt ?_; conv => whnf) | (refine CondX.ff ?_; conv => whnf))
      exact RetX.drop heA (hk0 (hbad (by omega)))
  · have hp : i = 3 := by omega
    subst hp
    have hok : lensOk l = true := decide_eq_true ⟨hle 0 (by omega), hle 1 (by omega), hle 2 (by omega)⟩
    refine DrawX.go T_ok hM Hval.func235 (tb := dr235) rfl (by kernel_rfl) ?_; conv => whnf
    have hv' : h' m = some (ilist (lenI l 0) (lenI l 1) (lenI l 2), 375) := hv
    refine Ob.mk (by first | decide | omega) ?_; conv => whnf
    refine LoadX.blk hv' (.int .i64 (lenI l 0)) rfl ?_; conv => whnf
    refine Ob.mk (by first | decide | omega) ?_; conv => whnf
    refine LoadX.blk hv' (.int .i64 (lenI l 1)) rfl ?_; conv => whnf
    refine Ob.mk (by first | decide | omega) ?_; conv => whnf
    refine LoadX.blk hv' (.int .i64 (lenI l 2)) rfl ?_; conv => whnf
    exact RetX.drop he (hk hok)
theorem p64 (n : Nat) : (18446744073709551616 : Int) ^ n = 2 ^ (64 * n) := by
  rw [Int.pow_mul]; rfl
/-- The bits of a number by its limbs. -/
theorem bits_limbs {ls : List Int} {n L a : Nat} (hL : isL ls) (hu : Used ls n) (hn : 0 < n) (ha : ls.getD (n - 1) 0 = a) (h1 : a < 2 ^ L) (h2 : 1 ≤ L ∧ 2 ^ (L - 1) ≤ a) : bitsI (lv ls) = 64 * (n - 1) + L := by
  have hle := hu.le
  have e1 : lv ls = lv (ls.take (n - 1)) + 18446744073709551616 ^ (n - 1) * a := by
    rw [hu.lv]
    have := lv_take_succ (l := ls) (k := n - 1) (by omega)
    rw [show n - 1 + 1 = n by omega, ha] at this
    exact this
  have hb := lv_bd (l := ls.take (n - 1)) (fun x hx => hL x (List.mem_of_mem_take hx))
  rw [List.length_take, Nat.min_eq_left (by omega), p64] at hb
  rw [p64] at e1
  have hp : (0 : Int) < 2 ^ (64 * (n - 1)) := Int.pow_pos (by decide)
  have h1' : (a : Int) + 1 ≤ 2 ^ L := by have : ((a + 1 : Nat) : Int) ≤ ((2 ^ L : Nat) : Int) := Int.ofNat_le.2 h1; simpa using this
  have h2' : (2 : Int) ^ (L - 1) ≤ a := by have : ((2 ^ (L - 1) : Nat) : Int) ≤ (a : Int) := Int.ofNat_le.2 h2.2; simpa using this
  have m1 := Int.mul_le_mul_of_nonneg_left h1' (Int.le_of_lt hp)
  have m2 := Int.mul_le_mul_of_nonneg_left h2' (Int.le_of_lt hp)
  rw [← Int.pow_add] at m1 m2
  have hbn := hb.1
  refine bitsI_eq (by rw [e1]; have := Int.mul_nonneg (Int.le_of_lt hp) (Int.natCast_nonneg a); omega) ?_ (fun _ => ?_)
  · rw [e1, Int.mul_add, Int.mul_one] at *
    omega
  · rw [show 64 * (n - 1) + L - 1 = 64 * (n - 1) + (L - 1) by omega, e1]
    omega
theorem dv_snoc0 (c : List Int) (k : Nat) : dv (c ++ List.replicate k 0) = dv c := by
  induction c with
  | nil => rw [List.nil_append]; exact dv_zeros fun j => getD_zeros ..
  | cons x c ih => show x + 256 * dv (c ++ List.replicate k 0) = x + 256 * dv c; rw [ih]
theorem bv_pad (c : List Int) (k : Nat) : bv (List.replicate k 0 ++ c) = bv c := by
  unfold bv
  rw [List.reverse_append, List.reverse_replicate, dv_snoc0]
theorem cost_fin {w T T' : Int} (hw : 0 ≤ w * w ∧ w * w ≤ 64) (hT : 0 ≤ T ∧ T ≤ 600) (e : T' = T) : max 200 (w * w * max T 1 / 3) = if IntKind.u64.wrap ((IntKind.u64.wrap (IntKind.u64.wrap (w * w) * if 1 > T' then 1 else T')).tdiv 3) > 200 then IntKind.u64.wrap ((IntKind.u64.wrap (IntKind.u64.wrap (w * w) * if 1 > T' then 1 else T')).tdiv 3) else 200 := by
  subst e
  rw [show (if 1 > T' then (1 : Int) else T') = max T' 1 by split <;> omega]
  generalize w * w = y at *
  have h := mul_bd hw.1 hw.2 (show (0 : Int) ≤ max T' 1 by omega) (show max T' 1 ≤ 600 by omega)
  rw [show IntKind.u64.wrap y = y by rw [wrap_u64']; omega]
  generalize y * max T' 1 = z at *
  rw [show IntKind.u64.wrap z = z by rw [wrap_u64']; omega, Int.tdiv_eq_ediv_of_nonneg h.1, show IntKind.u64.wrap (z / 3) = z / 3 by rw [wrap_u64']; omega]
  split <;> omega
set_option maxRecDepth 100000 in
set_option maxHeartbeats 4000000 in
theorem mNativeCost_ok {k : Int} (hs : Byt h bc nc cc l) (hk0 : natCost k l = none → K (.tuple #[.int .u64 0, .bool false]) h)
    (hk : ∀ y, natCost k l = some y → 0 ≤ y → y < 18446744073709551616 → K (.tuple #[.int .u64 y, .bool true]) h) : CallX Hval.prog 179 [.int .u8 k, .slice bc nc cc] h K := by
  have hl := hs.len
  have hr := hs.room
  have hle := hs.le
  refine CallX.of_xf T_ok Hval.func179 rfl (by kernel_rfl) (Nat.le_of_ble_eq_true rfl) ?_; conv => whnf
  refine CondX.eqI (fun h4 => ?_) (fun h4 => ?_) <;> conv => whnf
  · rw [show IntKind.u64.wrap (nc : Int) = (nc : Int) by rw [wrap_u64']; omega]
    refine words_ok (by omega) (by omega) ?_; conv => whnf
    rw [show IntKind.u64.wrap (3 * (((nc : Int) + 31) / 32)) = 3 * (((nc : Int) + 31) / 32) by rw [wrap_u64']; omega, show IntKind.u64.wrap (15 + 3 * (((nc : Int) + 31) / 32)) = 15 + 3 * (((nc : Int) + 31) / 32) by rw [wrap_u64']; omega]
    exact RetX.same (hk _ (by rw [natCost, if_pos h4, hl]) (by omega) (by omega))
  · refine CondX.eqI (fun h5 => ?_) (fun h5 => ?_) <;> conv => whnf
    · refine mLengths_ok hs (fun hok => ?_) (fun hok => ?_) <;> conv => whnf
      · repeat (first | (refine CondX.tt ?_; conv => whnf) | (refine CondX.ff ?_; conv => whnf))
        exact RetX.same (hk0 (by rw [natCost, if_neg h4, if_neg (by simp [hok])]))
      · repeat (first | (refine CondX.tt ?_; conv => whnf) | (refine CondX.ff ?_; conv => whnf))
        have hb0 := lenI_nonneg hs.isB 0
        have hb1 := lenI_nonneg hs.isB 1
        have hb2 := lenI_nonneg hs.isB 2
        have hb3 : lenI l 0 ≤ 64 ∧ lenI l 1 ≤ 64 ∧ lenI l 2 ≤ 64 := of_decide_eq_true hok
        repeat (refine Ob.mk (by first | decide | omega) ?_; conv => whnf)
        rw [show IntKind.u64.wrap ((IntKind.u64.wrap (IntKind.u64.wrap (if lenI l 2 > lenI l 0 then lenI l 2 else lenI l 0) + 7)).tdiv 8) = wideI l by
          rw [show (if lenI l 2 > lenI l 0 then lenI l 2 else lenI l 0) = max (lenI l 0) (lenI l 2) by split <;> omega, wrap_u64', wrap_u64', wrap_u64', Int.tdiv_eq_ediv_of_nonneg (by omega)]
          unfold wideI; omega]
        refine BoxX.mk fun m hm => ?_; conv => whnf
        erw [show (32, y32).snd.zero = bcells (List.replicate 32 0) from rfl]
        repeat (refine Ob.mk (by first | decide | omega) ?_; conv => whnf)
        obtain ⟨q, hq⟩ : ∃ q : Nat, (min (lenI l 1) 32).toNat = q := ⟨_, rfl⟩
        have hq1 : (q : Int) = min (lenI l 1) 32 := by omega
        obtain ⟨z, hz⟩ : ∃ z : Nat, (lenI l 0).toNat = z := ⟨_, rfl⟩
        have hz1 : (z : Int) = lenI l 0 := by omega
        rw [show IntKind.i64.wrap (96 + lenI l 0) = ((96 + z : Nat) : Int) by rw [wrap_i64 (by omega) (by omega)]; omega, show (if 32 < lenI l 1 then 32 else lenI l 1) = (q : Int) by split <;> omega]
        refine mpart_ok (L := 32) (n := q) (off := 96 + z) (t := 32) hs (hm.none (Nat.le_refl _)) (by omega) (by omega) (by omega) ?_; conv => whnf
        obtain ⟨cc', hcc⟩ : ∃ c, c = List.replicate (32 - q) 0 ++ cutN l (96 + z) q := ⟨_, rfl⟩
        have hcl : cc'.length = 32 := by rw [hcc, List.length_append, List.length_replicate, cutN_length]; omega
        have hcB : isB cc' := by rw [hcc]; exact (isB_zeros _).append (isB_cutN hs.isB _ _)
        have hcv : bv cc' = bv (cutN l (96 + z) q) := by rw [hcc, bv_pad]
        rw [← hcc]
        refine LoadX.arr (l := cc') (hput_same ..) hcl ?_; conv => whnf
        refine fromBytes_ok hcl hcB ?_; conv => whnf
        have hx := bv32' hcl hcB
        rw [hcv] at hx ⊢
        obtain ⟨x, hxe⟩ : ∃ x, bv (cutN l (96 + z) q) = x := ⟨_, rfl⟩
        rw [hxe] at hx ⊢
        obtain ⟨ls, hls, hLs, hvs, hws⟩ := wc_ul hx.1 hx.2
        rw [hws]
        refine BoxX.on fun m2 hm12 hm2 => ?_; conv => whnf
        refine Ob.mk ⟨by rw [List.size_toArray, ul_len, hls]; rfl, ones_ul _⟩ ?_; conv => whnf
        refine StoreX.same (by rw [List.toList_toArray, ul_len, hls]; exact Nat.le_of_ble_eq_true rfl) ?_; conv => whnf
        rw [List.toList_toArray, setSeg_all (by rw [ul_len, hls]; rfl)]
        have heA : Ext h (hput (hput h m (bcells cc', 32)) m2 (ul ls, 75)) := (Ext.bd hm).trans (Ext.new (hm2.none (Nat.le_refl _)))
        refine LoadX.all (c := ul ls) (hput_same ..) (by rw [ul_len, hls]; rfl) ?_; conv => whnf
        refine eLimbs_ok hls fun n hn => ?_; conv => whnf
        have htu : turnsI l = (if 1 < bitsI x then (bitsI x : Int) - 1 else 0) + (if 32 < lenI l 1 then 8 * (lenI l 1 - 32) else 0) := by
          unfold turnsI
          rw [hq, hz, hxe]
        have hbx : bitsI x ≤ 256 := bitsI_le hx.1 (by have := hx.2; rw [W_val] at this; exact this)
        have hwd : (wideI l : Int) = (max (lenI l 0) (lenI l 2) + 7) / 8 := rfl
        have hw9 : 0 ≤ wideI l ∧ wideI l ≤ 8 := by omega
        have hww := mul_bd hw9.1 hw9.2 hw9.1 hw9.2
        have htb : 0 ≤ turnsI l ∧ turnsI l ≤ 600 := by rw [htu]; split <;> split <;> omega
        have hwork := (mul_bd hww.1 hww.2 (show (0 : Int) ≤ max (turnsI l) 1 by omega) (show max (turnsI l) 1 ≤ 600 by omega))
        refine CondX.decI (fun hn0 => ?_) (fun hn0 => ?_) <;> conv => whnf
        · have hn0 : 0 < n := by omega
          have hn4 : n ≤ 4 := by have := hn.le; omega
          rw [show IntKind.u8.wrap (((n : Nat) : Int) - 1) = ((n - 1 : Nat) : Int) by rw [wrap_u8]; omega]
          refine Ob.mk (by omega) ?_; conv => whnf
          refine LoadX.lim0 (l := ls) (hput_same ..) (n - 1) (by rw [Int.toNat_natCast, show (24, y24).snd.size = 1 from rfl, Nat.mul_one, Nat.zero_add]) (by omega) ?_; conv => whnf
          have hg := hLs.get (n - 1)
          obtain ⟨a, ha⟩ : ∃ a : Nat, ls.getD (n - 1) 0 = a := ⟨_, (Int.toNat_of_nonneg hg.1).symm⟩
          have hne := hn.top hn0
          rw [ha] at hg hne ⊢
          refine nLen64_ok (by have := hg.2; omega) fun B hB1 hB2 hB3 hB4 => ?_; conv => whnf
          have hbb := hB3 (by omega)
          have hbits := bits_limbs hLs hn hn0 ha hB2 hbb
          rw [hvs] at hbits
          refine CondX.decI (fun h32 => ?_) (fun h32 => ?_) <;> conv => whnf
          · repeat (refine Ob.mk (by first | decide | omega) ?_; conv => whnf)
            refine RetX.drop heA (cast (congrArg (fun y => K (.tuple #[.int .u64 y, .bool true]) h) ?_) (hk (max 200 (wideI l * wideI l * max (turnsI l) 1 / 3)) (by rw [natCost, if_neg h4, if_pos ⟨h5, hok⟩]) (by omega) (by omega)))
            refine cost_fin hww htb ?_
            rw [htu, hbits]
            try simp only [wrap_u64']
            try rw [wrap_i64 (by omega) (by omega)]
            repeat' split
            all_goals omega
          · repeat (refine Ob.mk (by first | decide | omega) ?_; conv => whnf)
            refine RetX.drop heA (cast (congrArg (fun y => K (.tuple #[.int .u64 y, .bool true]) h) ?_) (hk (max 200 (wideI l * wideI l * max (turnsI l) 1 / 3)) (by rw [natCost, if_neg h4, if_pos ⟨h5, hok⟩]) (by omega) (by omega)))
            refine cost_fin hww htb ?_
            rw [htu, hbits]
            try simp only [wrap_u64']
            try rw [wrap_i64 (by omega) (by omega)]
            repeat' split
            all_goals omega
        · have hn0 : n = 0 := by omega
          have hx0 : x = 0 := by rw [← hvs, hn.lv, hn0]; rfl
          have hbits : bitsI x = 0 := by rw [hx0]; rfl
          refine CondX.decI (fun h32 => ?_) (fun h32 => ?_) <;> conv => whnf
          · repeat (refine Ob.mk (by first | decide | omega) ?_; conv => whnf)
            refine RetX.drop heA (cast (congrArg (fun y => K (.tuple #[.int .u64 y, .bool true]) h) ?_) (hk (max 200 (wideI l * wideI l * max (turnsI l) 1 / 3)) (by rw [natCost, if_neg h4, if_pos ⟨h5, hok⟩]) (by omega) (by omega)))
            refine cost_fin hww htb ?_
            rw [htu, hbits]
            try simp only [wrap_u64']
            try rw [wrap_i64 (by omega) (by omega)]
            repeat' split
            all_goals omega
          · repeat (refine Ob.mk (by first | decide | omega) ?_; conv => whnf)
            refine RetX.drop heA (cast (congrArg (fun y => K (.tuple #[.int .u64 y, .bool true]) h) ?_) (hk (max 200 (wideI l * wideI l * max (turnsI l) 1 / 3)) (by rw [natCost, if_neg h4, if_pos ⟨h5, hok⟩]) (by omega) (by omega)))
            refine cost_fin hww htb ?_
            rw [htu, hbits]
            try simp only [wrap_u64']
            try rw [wrap_i64 (by omega) (by omega)]
            repeat' split
            all_goals omega
    · exact RetX.same (hk0 (by rw [natCost, if_neg h4, if_neg (fun h => h5 h.1)]))
/-- The j-th limb of 64 bytes. -/
def ch8 (c : List Int) (j : Nat) : Int := bv ((c.drop (56 - 8 * j)).take 8)
def rl (c : List Int) (i : Nat) : List Int := (List.range 8).map fun j => if j < i then ch8 c j else 0
theorem rl_len (c : List Int) (i : Nat) : (rl c i).length = 8 := by simp [rl]
theorem rl_get (c : List Int) (i j : Nat) (hj : j < 8) : (rl c i)[j]? = some (if j < i then ch8 c j else 0) := by
  unfold rl; rw [List.getElem?_map, List.getElem?_range hj]; rfl
theorem rl_set (c : List Int) {i : Nat} (hi : i < 8) : (rl c i).set i (ch8 c i) = rl c (i + 1) := by
  refine List.ext_getElem? fun j => ?_
  by_cases hj : j < 8
  · rw [rl_get _ _ _ hj, List.getElem?_set, rl_get _ _ _ hj, rl_len]
    by_cases h : i = j
    · subst h; rw [if_pos rfl, if_pos hj, if_pos (by omega)]
    · rw [if_neg h]
      by_cases h2 : j < i
      · rw [if_pos h2, if_pos (by omega)]
      · rw [if_neg h2, if_neg (by omega)]
  · rw [List.getElem?_eq_none (by rw [List.length_set, rl_len]; omega), List.getElem?_eq_none (by rw [rl_len]; omega)]
theorem dv_cat (a b : List Int) : dv (a ++ b) = dv a + 256 ^ a.length * dv b := by
  induction a with
  | nil => simp [dv]
  | cons x a ih =>
    show x + 256 * dv (a ++ b) = x + 256 * dv a + _
    rw [ih, List.length_cons, Int.pow_succ]
    grind
theorem bv_cat (a b : List Int) : bv (a ++ b) = bv b + 256 ^ b.length * bv a := by
  unfold bv
  rw [List.reverse_append, dv_cat, List.length_reverse]
theorem ch8_sum {c : List Int} (hc : c.length = 64) : ∀ k, k ≤ 8 → lv ((List.range k).map (ch8 c)) = bv (c.drop (64 - 8 * k))
  | 0, _ => by rw [List.drop_of_length_le (by omega)]; rfl
  | k + 1, hk => by
    have ih := ch8_sum hc k (by omega)
    rw [List.range_succ, List.map_append, List.map_singleton, lv_snoc, ih, List.length_map, List.length_range]
    have e : c.drop (64 - 8 * (k + 1)) = (c.drop (56 - 8 * k)).take 8 ++ c.drop (64 - 8 * k) := by
      rw [show 64 - 8 * (k + 1) = 56 - 8 * k by omega]
      have := (List.take_append_drop 8 (c.drop (56 - 8 * k))).symm
      rw [List.drop_drop, show 56 - 8 * k + 8 = 64 - 8 * k by omega] at this
      exact this
    rw [e, bv_cat, List.length_drop, hc, show 64 - (64 - 8 * k) = 8 * k by omega, Int.pow_mul]
    rfl
theorem ch8_U {c : List Int} (hB : isB c) (hc : c.length = 64) {j : Nat} (hj : j < 8) : U (ch8 c j) := by
  have hB' : isB ((c.drop (56 - 8 * j)).take 8) := fun x hx => hB x (List.mem_of_mem_drop (List.mem_of_mem_take hx))
  have h1 := bv_lt hB'
  rw [List.length_take, List.length_drop, hc, Nat.min_eq_left (by omega)] at h1
  exact ⟨bv_nonneg hB', h1⟩
set_option maxRecDepth 100000 in
set_option maxHeartbeats 4000000 in
theorem mOperand_ok {off n : Nat} (hs : Byt h bc nc cc l) (hn : n ≤ 64) (ho : off < 2 ^ 30)
    (hk : ∀ r : List Int, r.length = 8 → isL r → lv r = bv (cutN l off n) → K (.agg (ul r).toArray) h) : CallX Hval.prog 245 [.slice bc nc cc, .int .i64 off, .int .i64 n] h K := by
  refine CallX.of_xf T_ok Hval.func245 rfl (by kernel_rfl) (Nat.le_of_ble_eq_true rfl) ?_; conv => whnf
  refine BoxX.mk fun m6 hm6 => ?_; conv => whnf
  refine BoxX.on fun m7 h67 hm7 => ?_; conv => whnf
  erw [show (321, y321).snd.zero = bcells (List.replicate 64 0) from rfl]
  repeat (refine Ob.mk (by first | decide | omega) ?_; conv => whnf)
  refine mpart_ok (L := 64) (n := n) (off := off) (t := 321) (hs.ext (Ext.bd hm6)) (hm7.none (Nat.le_refl _)) (by omega) (by omega) (by omega) ?_; conv => whnf
  obtain ⟨c, hcc⟩ : ∃ c, c = List.replicate (64 - n) 0 ++ cutN l off n := ⟨_, rfl⟩
  have hcl : c.length = 64 := by rw [hcc, List.length_append, List.length_replicate, cutN_length]; omega
  have hcB : isB c := by rw [hcc]; exact (isB_zeros _).append (isB_cutN hs.isB _ _)
  have hcv : bv c = bv (cutN l off n) := by rw [hcc, bv_pad]
  rw [← hcc]
  have e7 : Ext h (hput (hput h m6 ((317, y317).snd.zero, 317)) m7 (bcells c, 321)) := (Ext.bd hm6).trans (Ext.new (hm7.none (Nat.le_refl _)))
  have q6 : hput (hput h m6 ((317, y317).snd.zero, 317)) m7 (bcells c, 321) m6 = some ((317, y317).snd.zero, 317) := by rw [hput_ne (by omega)]; exact hput_same ..
  have hbt : Byt (hput (hput h m6 ((317, y317).snd.zero, 317)) m7 (bcells c, 321)) (some ⟨m7, 0, none⟩) 64 64 c := own_all hcB hcl.symm (by omega)
  have h6n : h m6 = none := hm6.none (Nat.le_refl _)
  generalize hput (hput h m6 ((317, y317).snd.zero, 317)) m7 (bcells c, 321) = g1 at *
  refine BoxX.mk fun m8 hm8 => ?_; conv => whnf
  erw [show (317, y317).snd.zero = ul (rl c 0) from rfl]
  have q68 := hm8 _ _ q6
  refine LoopX.st T_ok Hval.func245 (σ := Nat) (fun i => [(6, .pointer (some ⟨m6, 0, none⟩)), (7, .pointer (some ⟨m7, 0, none⟩)), (8, .pointer (some ⟨m8, 0, none⟩)), (17, .int .i64 i)])
    (fun i h' => i ≤ 8 ∧ h' = hput g1 m8 (ul (rl c i), 317)) (fun i => 8 - i) 0
    ⟨rfl, rfl, rfl, rfl, trivial⟩ ⟨Nat.zero_le _, rfl⟩ ?_
  rintro i ρ h' ⟨hi, rfl⟩ ih
  conv => whnf
  refine CondX.decI (fun hp => ?_) (fun hp => ?_) <;> conv => whnf
  · rw [show IntKind.i64.wrap (56 - IntKind.i64.wrap (8 * (i : Int))) = ((56 - 8 * i : Nat) : Int) by rw [wrap_i64 (x := 8 * (i : Int)) (by omega) (by omega), wrap_i64 (by omega) (by omega)]; omega]
    repeat (refine Ob.mk (by first | decide | omega) ?_; conv => whnf)
    refine be64_ok (n := 64) (cap := 64) (o := 56 - 8 * i) (hbt.ext (Ext.bd hm8)) (by omega) ?_; conv => whnf
    repeat (refine Ob.mk (by first | decide | omega) ?_; conv => whnf)
    refine StoreX.lim0 (l := rl c i) (hput_same ..) i (by rw [Int.toNat_natCast, show (24, y24).snd.size = 1 from rfl, Nat.mul_one, Nat.zero_add]) (by rw [rl_len]; omega) ?_; conv => whnf
    rw [hput_hput]
    refine ih (i + 1) _ _ ⟨by omega, ?_⟩ (by omega) ⟨rfl, rfl, rfl, ?_, trivial⟩
    · rw [← rl_set c (by omega : i < 8)]; rfl
    · exact congrArg (Value.int .i64) (wsucc (by omega))
  · have hp : i = 8 := by omega
    subst hp
    refine LoadX.all (c := ul (rl c 8)) (hput_same ..) rfl ?_; conv => whnf
    refine Ob.mk ⟨rfl, ones_ul _⟩ ?_; conv => whnf
    refine StoreX.at (c := (317, y317).snd.zero) (t := 317) (by rw [hput_ne (by omega)]; exact q6) (by rw [List.toList_toArray]; exact Nat.le_of_ble_eq_true rfl) ?_; conv => whnf
    rw [List.toList_toArray, setSeg_all (by rfl)]
    refine LoadX.all (c := ul (rl c 8)) (hput_same ..) rfl ?_; conv => whnf
    have er : rl c 8 = (List.range 8).map (ch8 c) := List.map_congr_left fun j hj => if_pos (List.mem_range.1 hj)
    refine RetX.drop (Ext.keep (e7.trans (Ext.bd hm8)) h6n) (hk _ (rl_len _ _) (fun x hx => ?_) ?_)
    · rw [er] at hx
      obtain ⟨j, hj, rfl⟩ := List.mem_map.1 hx
      exact ch8_U hcB hcl (List.mem_range.1 hj)
    · rw [er, ch8_sum hcl 8 (Nat.le_refl _), hcv.symm]; rfl
end
end Go.Proofs.YgvalwGreat.X
