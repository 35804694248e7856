import Derived.Test.YgvalwGreatM6
set_option linter.unusedVariables false
set_option linter.unusedSimpArgs false
namespace Go.Proofs.YgvalwGreat.X
open Go


section
variable {hi hi0 hm h : Hp} {K : Value → Hp → Prop} {mc mc' : Nat → Value} {v : VS} {eb : Nat} {w : AW} {sn : List AW} {m : MS} {t : Nat}
theorem bv_snoc (l : List Int) (c : Int) : bv (l ++ [c]) = bv l * 256 + c := by
  unfold bv
  rw [List.reverse_append, List.reverse_singleton]
  show c + 256 * dv l.reverse = _
  omega
theorem bv_zeros (n : Nat) (l : List Int) : bv (List.replicate n 0 ++ l) = bv l := by
  induction n with
  | zero => rfl
  | succ n ih =>
    rw [List.replicate_succ]
    have := bv_cut (l := 0 :: List.replicate n 0 ++ l) (k := 1)
    rw [this]
    show bv [0] * _ + bv (List.replicate n 0 ++ l) = _
    rw [ih, show bv [0] = 0 from rfl, Int.zero_mul, Int.zero_add]
theorem wc_lim {x : Int} (h0 : 0 ≤ x) (h1 : x < 18446744073709551616) : wc x = [.int .u64 x, .int .u64 0, .int .u64 0, .int .u64 0] := by
  unfold wc
  rw [Int.emod_eq_of_lt h0 h1, Int.ediv_eq_zero_of_lt h0 h1, Int.ediv_eq_zero_of_lt h0 (by omega), Int.ediv_eq_zero_of_lt h0 (by omega)]
  rfl
theorem accB {x c : Int} (h0 : 0 ≤ x) (h1 : x < 72057594037927936) (c0 : 0 ≤ c) (c1 : c < 256) : IntKind.u64.wrap ((BitVec.ofInt IntKind.u64.bits (IntKind.u64.wrap (x * 2 ^ min (Int.toNat 8) IntKind.u64.bits)) ||| BitVec.ofInt IntKind.u64.bits (IntKind.u64.wrap c)).toNat : Int) = x * 256 + c := by
  obtain ⟨a, rfl⟩ := Int.eq_ofNat_of_zero_le h0
  obtain ⟨b, rfl⟩ := Int.eq_ofNat_of_zero_le c0
  have e1 := kshlN a 8 (by decide)
  rw [show ((8 : Nat) : Int) = 8 from rfl] at e1
  rw [e1, wrapN64 (show b < 2 ^ 64 by omega), or64 (Nat.mod_lt _ (by decide)) (by omega), Nat.mod_eq_of_lt (by rw [Nat.shiftLeft_eq]; omega), ← Nat.shiftLeft_add_eq_or_of_lt (by omega), Nat.shiftLeft_eq]
  omega
theorem bv_bd {l : List Int} (hB : isB l) : 0 ≤ bv l ∧ bv l < 256 ^ l.length := ⟨dv_nonneg (isB_rev hB), bv_lt hB⟩
theorem pushL {l : List Int} {a n : Nat} (hn : n ≤ 32) (ha : a < l.length) : ovl (List.replicate 32 0) (if 32 = 32 - n then 0 else 0 + (32 - n) * 1) (List.take (Nat.min (l.length - a) (32 - (32 - n))) (List.take (l.length - a) (List.drop a l))) = List.replicate (32 - n) 0 ++ cutN l a n := by
  by_cases h0 : n = 0
  · subst h0
    simp [ovl, cutN]
  · rw [if_neg (by omega), show 32 - (32 - n) = n by omega]
    have e1 : List.take (Nat.min (l.length - a) n) (List.take (l.length - a) (List.drop a l)) = (l.drop a).take n := by
      rw [List.take_take, List.take_eq_take_iff]; simp [List.length_drop]; omega
    rw [e1]
    unfold ovl cutN
    rw [List.take_replicate, List.drop_replicate, List.append_assoc]
    congr 1
    · congr 1; omega
    · congr 2; simp; omega
def PuK (hi : Hp) (eb : Nat) (m : MS) (t n : Nat) (w : AW) (sn : List AW) (v : VS) (K : Value → Hp → Prop) : Prop := ∀ hm', MA hi hm' eb (settleM m t 0 (some (bv (cutN (m.fr t).code ((m.fr t).pc + 1) n))) (1 + n)) t w sn v → K (.tuple #[]) (join hi hm')
set_option maxRecDepth 100000 in
set_option maxHeartbeats 4000000 in
theorem push_ok {n : Nat} (M : MA hi hm eb m t w sn v) (hn : n ≤ 32) (ho : opI (m.fr t).code (m.fr t).pc = ((95 + n : Nat) : Int)) (hroom : (m.fr t).sp < 64) (hpc : (m.fr t).pc < 600) (hk : PuK hi eb m t n w sn v K) : CallX Hval.prog 299 [.pointer (some ⟨eb, 0, none⟩)] (join hi hm) K := by
  have h7 := M.t7
  have F := M.f
  have hsp := F.sp
  have hcode := F.code.ext (Ext.jl hi hm)
  have hcl := hcode.len
  have hcap := hcode.le
  have hc512 := F.cl
  have hW64 : (18446744073709551616 : Int) < W := by rw [W_val]; decide
  refine CallX.of_xf T_ok Hval.func299 rfl (by kernel_rfl) (Nat.le_of_ble_eq_true rfl) ?_; conv => whnf
  refine running_ok M (Ext.refl _) ?_; conv => whnf
  repeat (first | (refine CondX.tt ?_; conv => whnf) | (refine CondX.ff ?_; conv => whnf))
  refine opcodeM_ok M (Ext.refl _) ?_
  rw [ho]; conv => whnf
  refine imm_ok (by omega) (by omega) ?_; conv => whnf
  have ei : IntKind.i64.wrap (immI ((95 + n : Nat) : Int)) = (n : Int) := by
    unfold immI
    split
    · rw [wrap_i64 (by omega) (by omega)]; omega
    · rw [wrap_i64 (by omega) (by omega)]; omega
  rw [ei]
  have hb := join_hm M.A.V.dj M.A.V.blk
  refine LoadX.fn hb (1803 + t * 65 + 4) rfl (by omega) ?_
  rw [mR_pc h7]; conv => whnf
  have e1 : IntKind.i64.wrap ((m.fr t).pc : Int) = (m.fr t).pc := wrap_i64 (by omega) (by omega)
  have e2 : IntKind.i64.wrap (((m.fr t).pc : Int) + 1) = (m.fr t).pc + 1 := wrap_i64 (by omega) (by omega)
  have e3 : IntKind.i64.wrap (((m.fr t).pc : Int) + 1 + n) = (m.fr t).pc + 1 + n := wrap_i64 (by omega) (by omega)
  rw [e1, e2, e3]
  refine CondX.decI (fun h8 => ?_) (fun h8 => ?_) <;> conv => whnf
  · repeat (first | (refine CondX.tt ?_; conv => whnf) | (refine CondX.ff ?_; conv => whnf))
    refine LoadX.fn hb (1803 + t * 65 + 53) rfl (by omega) ?_
    rw [mR_cs h7]; conv => whnf
    repeat (first | (refine CondX.tt ?_; conv => whnf) | (refine CondX.ff ?_; conv => whnf))
    refine CondX.decI (fun hle => ?_) (fun hle => ?_) <;> conv => whnf
    · refine LoadX.fn hb (1803 + t * 65 + 53) rfl (by omega) ?_
      rw [mR_cs h7]; conv => whnf
      have e4 : IntKind.i64.wrap (((m.fr t).pc : Int) + 1 + n - n) = (m.fr t).pc + 1 := by rw [wrap_i64 (by omega) (by omega)]; omega
      rw [e4]
      refine SlcX.gen hcode.rd hcode.nil hcode.le ((m.fr t).pc + 1) ((m.fr t).pc + 1 + n) (m.fr t).cs.2.2 (by show ((m.fr t).pc : Int) + 1 = _; omega) (by show ((m.fr t).pc : Int) + 1 + n = _; omega) rfl (by omega) (by omega) (by omega) (.inl rfl) ?_; conv => whnf
      obtain ⟨P, hP⟩ : ∃ P, P = ((m.fr t).code.drop ((m.fr t).pc + 1)).take n := ⟨_, rfl⟩
      have hS := hcode.slice (lo := (m.fr t).pc + 1) (hh := (m.fr t).pc + 1 + n) (m := (m.fr t).cs.2.2) (by omega) (by omega) (by omega) (by omega)
      rw [show (m.fr t).pc + 1 + n - ((m.fr t).pc + 1) = n by omega] at hS ⊢
      rw [← hP] at hS
      have hPl : P.length = n := hS.len
      have hPB : isB P := hS.isB
      have hcut : cutN (m.fr t).code ((m.fr t).pc + 1) n = P := by
        unfold cutN
        rw [← hP, show n - ((m.fr t).code.length - ((m.fr t).pc + 1)) = 0 by omega, List.replicate_zero, List.append_nil]
      refine LoopX.st T_ok Hval.func299 (σ := Nat) (fun k => [(0, .pointer (some ⟨eb, 0, none⟩)), (2, .pointer (some ⟨eb, 1803 + t * 65, none⟩)), (3, .int .i64 n), (5, .int .u64 (bv (P.take k))), (45, .slice (bsh (m.fr t).cs.1 ((m.fr t).pc + 1) (m.fr t).cs.2.2 1) n ((m.fr t).cs.2.2 - ((m.fr t).pc + 1))), (46, .int .i64 n), (47, .int .i64 k)]) (fun k h' => k ≤ n ∧ h' = join hi hm) (fun k => n - k) 0 ⟨rfl, rfl, rfl, rfl, rfl, rfl, rfl, trivial⟩ ⟨by omega, rfl⟩ ?_
      rintro k ρ h' ⟨hkn, rfl⟩ ih
      conv => whnf
      refine CondX.decI (fun hc => ?_) (fun hc => ?_) <;> conv => whnf
      · obtain ⟨b, off, hbo⟩ := rd_base hS.rd (by omega)
        rw [hbo]
        refine IdxX.at (by omega) (by omega) ?_; conv => whnf
        refine LoadX.byte hS hbo k rfl (by omega) rfl ?_; conv => whnf
        repeat (refine Ob.mk (by first | decide | omega) ?_; conv => whnf)
        have hg := hPB.get k
        have hbk := bv_bd (hPB.take k)
        have hk7 : (256 : Int) ^ (P.take k).length ≤ 72057594037927936 := by
          rw [List.length_take, hPl, Nat.min_eq_left (by omega)]
          have : (256 : Int) ^ k ≤ 256 ^ 7 := by
            have := Nat.pow_le_pow_right (n := 256) (by decide) (show k ≤ 7 by omega)
            exact_mod_cast this
          rw [show (256 : Int) ^ 7 = 72057594037927936 by decide] at this
          exact this
        rw [accB hbk.1 (by omega) hg.1 hg.2]
        rw [← hbo]
        refine ih (k + 1) _ _ ⟨by omega, rfl⟩ (by omega) ⟨rfl, rfl, rfl, ?_, rfl, rfl, congrArg (Value.int .i64) (wsucc (by omega)), trivial⟩
        rw [show P.take (k + 1) = P.take k ++ [P.getD k 0] by rw [List.getD_eq_getElem?_getD, List.getElem?_eq_getElem (by omega)]; exact List.take_succ_eq_append_getElem (by omega), bv_snoc]
        rfl
      · have : k = n := by omega
        subst this
        rw [List.take_of_length_le (by omega)]
        have hbk := bv_bd hPB
        have hk8 : (256 : Int) ^ P.length ≤ 18446744073709551616 := by
          have : (256 : Int) ^ P.length ≤ 256 ^ 8 := by
            have := Nat.pow_le_pow_right (n := 256) (by decide) (show P.length ≤ 8 by omega)
            exact_mod_cast this
          rw [show (256 : Int) ^ 8 = 18446744073709551616 by decide] at this
          exact this
        rw [show IntKind.i64.wrap (1 + (k : Int)) = ((1 + k : Nat) : Int) by rw [wrap_i64 (by omega) (by omega)]; omega, show IntKind.u16.wrap ((1 + k : Nat) : Int) = ((1 + k : Nat) : Int) by rw [wrap_u16]; omega]
        have hwl := wc_lim hbk.1 (by omega)
        rw [show #[Value.int IntKind.u64 (bv P), Value.int IntKind.u64 0, Value.int IntKind.u64 0, Value.int IntKind.u64 0] = (wc (bv P)).toArray by rw [hwl]]
        refine settle_some (tk := 0) (st := 1 + k) M (by omega) (by omega) (by omega) ⟨hbk.1, by omega⟩ fun hm' M' => ?_; conv => whnf
        rw [← hcut] at M'
        exact RetX.same (hk hm' M')
    · refine BoxX.wj M.A.V.dj fun n8 hd8 he8 => ?_; conv => whnf
      rw [show (32, y32).snd.zero = bcells (List.replicate 32 0) from rfl]
      have hb8 := join_hm (hd8 (bcells (List.replicate 32 0), 32)) M.A.V.blk
      have hc8 := F.code.ext ((he8 (bcells (List.replicate 32 0), 32)).trans (Ext.jl _ hm))
      refine LoadX.fn hb8 (1803 + t * 65 + 4) rfl (by omega) ?_
      rw [mR_pc h7]; conv => whnf
      rw [e1, e2]
      refine LoadX.fn hb8 (1803 + t * 65 + 53) rfl (by omega) ?_
      rw [mR_cs h7]; conv => whnf
      have hcb := isB_cutN hcode.isB ((m.fr t).pc + 1) n
      have hcbl := cutN_length (m.fr t).code ((m.fr t).pc + 1) n
      have hvW : 0 ≤ bv (cutN (m.fr t).code ((m.fr t).pc + 1) n) ∧ bv (cutN (m.fr t).code ((m.fr t).pc + 1) n) < W := by
        have h1 := bv_bd hcb
        rw [hcbl] at h1
        have h2 : (256 : Int) ^ n ≤ 256 ^ 32 := by
          have := Nat.pow_le_pow_right (n := 256) (by decide) hn
          exact_mod_cast this
        have h3 : (256 : Int) ^ 32 = W := by rw [W_val]; decide
        rw [h3] at h2
        omega
      refine CondX.decI (fun hfr => ?_) (fun hfr => ?_) <;> conv => whnf
      · refine DrawX.go T_ok hM Hval.func299 (tb := dr299) rfl (by kernel_rfl) ?_; conv => whnf
        have e5 : IntKind.i64.wrap (32 - (n : Int)) = ((32 - n : Nat) : Int) := by rw [wrap_i64 (by omega) (by omega)]; omega
        rw [e5]
        refine Ob.mk (by first | decide | omega) ?_; conv => whnf
        refine LoadX.fn hb8 (1803 + t * 65 + 53) rfl (by omega) ?_
        rw [mR_cs h7]; conv => whnf
        refine SlcX.gen hc8.rd hc8.nil hc8.le ((m.fr t).pc + 1) (m.fr t).cs.2.1 (m.fr t).cs.2.2 (by show ((m.fr t).pc : Int) + 1 = _; omega) rfl rfl (by omega) (by omega) (by omega) (.inl rfl) ?_; conv => whnf
        have hsl := hc8.slice (lo := (m.fr t).pc + 1) (hh := (m.fr t).cs.2.1) (m := (m.fr t).cs.2.2) (by omega) (by omega) (by omega) (by omega)
        rw [← join_put] at hsl
        rw [Int.toNat_natCast, ← join_put]
        refine CopyX.bytes hsl (by show (if 32 = 32 - n then 0 else 0 + (32 - n) * 1) + (32 - (32 - n)) ≤ (List.replicate 32 (0 : Int)).length; rw [List.length_replicate]; split <;> omega) ?_
        rw [join_put]; conv => whnf
        repeat (refine Ob.mk ((ldV_fn (join_hm (hd8 _) M.A.V.blk) (1803 + t * 65 + 53) rfl (by omega)).trans (by rw [mR_cs h7]; rfl)) ?_; conv => whnf)
        rw [show soff 0 (32 - n) 32 (5, y5).snd.size = (if 32 = 32 - n then 0 else 0 + (32 - n) * 1) from rfl, ← hcl, pushL hn (by omega)]
        refine LoadX.all (c := bcells (List.replicate (32 - n) 0 ++ cutN (m.fr t).code ((m.fr t).pc + 1) n)) (join_l (hput_same ..)) (by rw [bcells_length, List.length_append, List.length_replicate, hcbl]; show 32 - n + n = 32; omega) ?_; conv => whnf
        refine fromBytes_ok (by rw [List.length_append, List.length_replicate, hcbl]; omega) (fun d hd => by
          rcases List.mem_append.1 hd with h1 | h1
          · have := (List.mem_replicate.1 h1).2; omega
          · exact hcb d h1) ?_
        rw [bv_zeros]; conv => whnf
        rw [show IntKind.i64.wrap (1 + (n : Int)) = ((1 + n : Nat) : Int) by rw [wrap_i64 (by omega) (by omega)]; omega, show IntKind.u16.wrap ((1 + n : Nat) : Int) = ((1 + n : Nat) : Int) by rw [wrap_u16]; omega]
        refine settleS_b (tk := 0) (st := 1 + n) (he8 _) (hd8 _) M (by omega) (by omega) (by omega) hvW fun hm' hd' M' => ?_; conv => whnf
        exact RetX.drop (h' := join hi hm') (Ext.j2 (he8 _) hd' (Ext.refl _)) (hk hm' M')
      · refine LoadX.all (c := bcells (List.replicate 32 0)) (join_l (hput_same ..)) rfl ?_; conv => whnf
        refine fromBytes_ok (by simp) (fun d hd => by have := (List.mem_replicate.1 hd).2; omega) ?_
        rw [show bv (List.replicate 32 0) = bv (cutN (m.fr t).code ((m.fr t).pc + 1) n) by rw [cutN_past (by omega), ← List.append_nil (List.replicate 32 0), bv_zeros, ← List.append_nil (List.replicate n 0), bv_zeros]]; conv => whnf
        rw [show IntKind.i64.wrap (1 + (n : Int)) = ((1 + n : Nat) : Int) by rw [wrap_i64 (by omega) (by omega)]; omega, show IntKind.u16.wrap ((1 + n : Nat) : Int) = ((1 + n : Nat) : Int) by rw [wrap_u16]; omega]
        refine settleS_b (tk := 0) (st := 1 + n) (he8 _) (hd8 _) M (by omega) (by omega) (by omega) hvW fun hm' hd' M' => ?_; conv => whnf
        exact RetX.drop (h' := join hi hm') (Ext.j2 (he8 _) hd' (Ext.refl _)) (hk hm' M')
  · repeat (first | (refine CondX.tt ?_; conv => whnf) | (refine CondX.ff ?_; conv => whnf))
    refine BoxX.wj M.A.V.dj fun n8 hd8 he8 => ?_; conv => whnf
    rw [show (32, y32).snd.zero = bcells (List.replicate 32 0) from rfl]
    have hb8 := join_hm (hd8 (bcells (List.replicate 32 0), 32)) M.A.V.blk
    have hc8 := F.code.ext ((he8 (bcells (List.replicate 32 0), 32)).trans (Ext.jl _ hm))
    refine LoadX.fn hb8 (1803 + t * 65 + 4) rfl (by omega) ?_
    rw [mR_pc h7]; conv => whnf
    rw [e1, e2]
    refine LoadX.fn hb8 (1803 + t * 65 + 53) rfl (by omega) ?_
    rw [mR_cs h7]; conv => whnf
    have hcb := isB_cutN hcode.isB ((m.fr t).pc + 1) n
    have hcbl := cutN_length (m.fr t).code ((m.fr t).pc + 1) n
    have hvW : 0 ≤ bv (cutN (m.fr t).code ((m.fr t).pc + 1) n) ∧ bv (cutN (m.fr t).code ((m.fr t).pc + 1) n) < W := by
      have h1 := bv_bd hcb
      rw [hcbl] at h1
      have h2 : (256 : Int) ^ n ≤ 256 ^ 32 := by
        have := Nat.pow_le_pow_right (n := 256) (by decide) hn
        exact_mod_cast this
      have h3 : (256 : Int) ^ 32 = W := by rw [W_val]; decide
      rw [h3] at h2
      omega
    refine CondX.decI (fun hfr => ?_) (fun hfr => ?_) <;> conv => whnf
    · refine DrawX.go T_ok hM Hval.func299 (tb := dr299) rfl (by kernel_rfl) ?_; conv => whnf
      have e5 : IntKind.i64.wrap (32 - (n : Int)) = ((32 - n : Nat) : Int) := by rw [wrap_i64 (by omega) (by omega)]; omega
      rw [e5]
      refine Ob.mk (by first | decide | omega) ?_; conv => whnf
      refine LoadX.fn hb8 (1803 + t * 65 + 53) rfl (by omega) ?_
      rw [mR_cs h7]; conv => whnf
      refine SlcX.gen hc8.rd hc8.nil hc8.le ((m.fr t).pc + 1) (m.fr t).cs.2.1 (m.fr t).cs.2.2 (by show ((m.fr t).pc : Int) + 1 = _; omega) rfl rfl (by omega) (by omega) (by omega) (.inl rfl) ?_; conv => whnf
      have hsl := hc8.slice (lo := (m.fr t).pc + 1) (hh := (m.fr t).cs.2.1) (m := (m.fr t).cs.2.2) (by omega) (by omega) (by omega) (by omega)
      rw [← join_put] at hsl
      rw [Int.toNat_natCast, ← join_put]
      refine CopyX.bytes hsl (by show (if 32 = 32 - n then 0 else 0 + (32 - n) * 1) + (32 - (32 - n)) ≤ (List.replicate 32 (0 : Int)).length; rw [List.length_replicate]; split <;> omega) ?_
      rw [join_put]; conv => whnf
      repeat (refine Ob.mk ((ldV_fn (join_hm (hd8 _) M.A.V.blk) (1803 + t * 65 + 53) rfl (by omega)).trans (by rw [mR_cs h7]; rfl)) ?_; conv => whnf)
      rw [show soff 0 (32 - n) 32 (5, y5).snd.size = (if 32 = 32 - n then 0 else 0 + (32 - n) * 1) from rfl, ← hcl, pushL hn (by omega)]
      refine LoadX.all (c := bcells (List.replicate (32 - n) 0 ++ cutN (m.fr t).code ((m.fr t).pc + 1) n)) (join_l (hput_same ..)) (by rw [bcells_length, List.length_append, List.length_replicate, hcbl]; show 32 - n + n = 32; omega) ?_; conv => whnf
      refine fromBytes_ok (by rw [List.length_append, List.length_replicate, hcbl]; omega) (fun d hd => by
        rcases List.mem_append.1 hd with h1 | h1
        · have := (List.mem_replicate.1 h1).2; omega
        · exact hcb d h1) ?_
      rw [bv_zeros]; conv => whnf
      rw [show IntKind.i64.wrap (1 + (n : Int)) = ((1 + n : Nat) : Int) by rw [wrap_i64 (by omega) (by omega)]; omega, show IntKind.u16.wrap ((1 + n : Nat) : Int) = ((1 + n : Nat) : Int) by rw [wrap_u16]; omega]
      refine settleS_b (tk := 0) (st := 1 + n) (he8 _) (hd8 _) M (by omega) (by omega) (by omega) hvW fun hm' hd' M' => ?_; conv => whnf
      exact RetX.drop (h' := join hi hm') (Ext.j2 (he8 _) hd' (Ext.refl _)) (hk hm' M')
    · refine LoadX.all (c := bcells (List.replicate 32 0)) (join_l (hput_same ..)) rfl ?_; conv => whnf
      refine fromBytes_ok (by simp) (fun d hd => by have := (List.mem_replicate.1 hd).2; omega) ?_
      rw [show bv (List.replicate 32 0) = bv (cutN (m.fr t).code ((m.fr t).pc + 1) n) by rw [cutN_past (by omega), ← List.append_nil (List.replicate 32 0), bv_zeros, ← List.append_nil (List.replicate n 0), bv_zeros]]; conv => whnf
      rw [show IntKind.i64.wrap (1 + (n : Int)) = ((1 + n : Nat) : Int) by rw [wrap_i64 (by omega) (by omega)]; omega, show IntKind.u16.wrap ((1 + n : Nat) : Int) = ((1 + n : Nat) : Int) by rw [wrap_u16]; omega]
      refine settleS_b (tk := 0) (st := 1 + n) (he8 _) (hd8 _) M (by omega) (by omega) (by omega) hvW fun hm' hd' M' => ?_; conv => whnf
      exact RetX.drop (h' := join hi hm') (Ext.j2 (he8 _) hd' (Ext.refl _)) (hk hm' M')
end
end Go.Proofs.YgvalwGreat.X
