import Derived.Test.YgvalwGreatE32
set_option linter.unusedVariables false
set_option linter.unusedSimpArgs false
namespace Go.Proofs.YgvalwGreat.X
open Go

theorem orsh {a d k : Nat} (ha : a < 2 ^ k) (hd : d < 256) (hk : k ≤ 56) : IntKind.u64.wrap ((BitVec.ofInt IntKind.u64.bits (a : Int) ||| BitVec.ofInt IntKind.u64.bits (IntKind.u64.wrap (IntKind.u64.wrap (d : Int) * 2 ^ min k IntKind.u64.bits))).toNat : Int) = ((a + d * 2 ^ k : Nat) : Int) := by
  have h8 : d * 2 ^ k < 2 ^ 64 := by
    have h1 : d * 2 ^ k < 256 * 2 ^ k := Nat.mul_lt_mul_of_pos_right hd (Nat.pow_pos (by decide))
    have h2 : 256 * 2 ^ k ≤ 2 ^ 64 := by
      rw [show 256 = 2 ^ 8 from rfl, ← Nat.pow_add]; exact Nat.pow_le_pow_right (by decide) (by omega)
    omega
  have ha64 : a < 2 ^ 64 := Nat.lt_of_lt_of_le ha (Nat.pow_le_pow_right (by decide) (by omega))
  rw [show IntKind.u64.wrap (d : Int) = (d : Int) from wrapN64 (by omega), show min k IntKind.u64.bits = k by show min k 64 = k; omega, show (d : Int) * 2 ^ k = ((d * 2 ^ k : Nat) : Int) by simp, wrapN64 h8, or64 ha64 h8]
  have e := Nat.two_pow_add_eq_or_of_lt ha d
  rw [Nat.or_comm, Nat.mul_comm d, ← e, Nat.add_comm]
theorem bv8 {d0 d1 d2 d3 d4 d5 d6 d7 : Int} : bv [d0, d1, d2, d3, d4, d5, d6, d7] = d7 + 256 * d6 + 65536 * d5 + 16777216 * d4 + 4294967296 * d3 + 1099511627776 * d2 + 281474976710656 * d1 + 72057594037927936 * d0 := by
  unfold bv
  simp only [List.reverse_cons, List.reverse_nil, List.nil_append, List.cons_append, dv]
  omega
section
variable {h : Hp} {K : Value → Hp → Prop} {x y z : Int} {a b : Nat} {f : Bool}

theorem ldV_rdA {b off n : Nat} {cs : List Value} (hr : rd h (some ⟨b, off, none⟩) n = some cs) : ldV true n h b off = some (.agg cs.toArray) := by
  unfold rd at hr
  unfold ldV
  dsimp only at hr ⊢
  cases hb : h b with
  | none => rw [hb] at hr; simp at hr
  | some x =>
    rw [hb] at hr
    dsimp only at hr ⊢
    split at hr
    · rename_i hh; rw [if_pos hh]; simp at hr; rw [hr]
    · simp at hr
set_option maxRecDepth 100000 in
set_option maxHeartbeats 4000000 in
theorem inside_ok {n o : Nat} (hn : n < 2 ^ 40) (ho : o < 2 ^ 40) (hk : K (.bool (decide (o + 8 ≤ n))) h) : CallX Hval.prog 230 [.int .i64 n, .int .i64 o] h K := by
  refine CallX.of_xf T_ok Hval.func230 rfl (by kernel_rfl) (Nat.le_of_ble_eq_true rfl) ?_; conv => whnf
  refine CondX.dT (by omega) ?_; conv => whnf
  repeat (first | (refine CondX.tt ?_; conv => whnf) | (refine CondX.ff ?_; conv => whnf))
  by_cases h8 : (n : Int) ≥ 8
  · refine CondX.dT h8 ?_; conv => whnf
    repeat (first | (refine CondX.tt ?_; conv => whnf) | (refine CondX.ff ?_; conv => whnf))
    have e : IntKind.i64.wrap ((n : Int) - 8) = (n : Int) - 8 := wrap_i64 (by omega) (by omega)
    rw [e]
    refine RetX.same ?_
    refine cast (congrArg (fun v => K (.bool v) h) ?_) hk
    congr 1; apply propext; omega
  · refine CondX.dF h8 ?_; conv => whnf
    repeat (first | (refine CondX.tt ?_; conv => whnf) | (refine CondX.ff ?_; conv => whnf))
    refine RetX.same ?_
    refine cast (congrArg (fun v => K (.bool v) h) ?_) hk
    rw [decide_eq_false (by omega)]
set_option maxRecDepth 100000 in
set_option maxHeartbeats 4000000 in
theorem be64_ok {base : Option Addr} {n cap o : Nat} {l : List Int} (hb : Byt h base n cap l) (ho : o + 8 ≤ n) (hk : K (.tuple #[.int .u64 (bv ((l.drop o).take 8)), .bool true]) h) : CallX Hval.prog 161 [.slice base n cap, .int .i64 o] h K := by
  have hr := hb.room
  have hle := hb.le
  refine CallX.of_xf T_ok Hval.func161 rfl (by kernel_rfl) (Nat.le_of_ble_eq_true rfl) ?_; conv => whnf
  refine inside_ok (by omega) (by omega) ?_; conv => whnf
  rw [decide_eq_true ho]
  repeat (first | (refine CondX.tt ?_; conv => whnf) | (refine CondX.ff ?_; conv => whnf))
  obtain ⟨b, off, rfl⟩ := rd_base hb.rd (by omega)
  have hs := hb.slice (lo := o) (hh := o + 8) (m := cap) (by omega) ho (by omega) (Nat.le_refl _)
  refine SlcX.gen hb.rd hb.nil hle o (o + 8) cap rfl (by show IntKind.i64.wrap _ = _; rw [wrap_i64 (by omega) (by omega)]; omega) rfl (by omega) (by omega) (Nat.le_refl _) (Or.inl rfl) ?_; conv => whnf
  refine Ob.mk (by first | decide | omega) ?_; conv => whnf
  refine LoadX.of _ (ldV_rdA (n := 8) (by have := hs.rd; rw [Nat.add_sub_cancel_left] at this; exact this)) ?_; conv => whnf
  rw [Nat.add_sub_cancel_left] at hs
  have h8 := hs.len
  have hB := hs.isB
  generalize (l.drop o).take 8 = g at *
  obtain ⟨d0, d1, d2, d3, d4, d5, d6, d7, rfl⟩ : ∃ d0 d1 d2 d3 d4 d5 d6 d7, g = [d0, d1, d2, d3, d4, d5, d6, d7] := by
    match g, h8 with
    | [d0, d1, d2, d3, d4, d5, d6, d7], _ => exact ⟨_, _, _, _, _, _, _, _, rfl⟩
  refine BoxX.mk fun n1 hn1 => ?_; conv => whnf
  repeat' (first
    | (refine Ob.mk (by first | decide | exact ⟨rfl, rfl⟩ | ((repeat (refine (ldV_ne (by omega)).trans ?_)); exact (ldV_same _ _ _ _ _ _ _).trans rfl)) ?_; conv => whnf)
    | (refine BoxX.on fun n hn hbd => ?_; conv => whnf)
    | (refine LoadX.of _ (by (repeat (refine (ldV_ne (by omega)).trans ?_)); exact (ldV_same _ _ _ _ _ _ _).trans rfl) ?_; conv => whnf)
    | (fail; conv => whnf)
    | (refine StoreX.same (Nat.le_of_ble_eq_true rfl) ?_; conv => whnf)
    | (refine StoreX.at (by (repeat (refine (hput_ne (by omega)).trans ?_)); exact hput_same ..) (Nat.le_of_ble_eq_true rfl) ?_; conv => whnf))
  have b0 := hB d0 (by simp); have b1 := hB d1 (by simp); have b2 := hB d2 (by simp); have b3 := hB d3 (by simp)
  have b4 := hB d4 (by simp); have b5 := hB d5 (by simp); have b6 := hB d6 (by simp); have b7 := hB d7 (by simp)
  obtain ⟨c0, rfl⟩ := Int.eq_ofNat_of_zero_le b0.1; obtain ⟨c1, rfl⟩ := Int.eq_ofNat_of_zero_le b1.1
  obtain ⟨c2, rfl⟩ := Int.eq_ofNat_of_zero_le b2.1; obtain ⟨c3, rfl⟩ := Int.eq_ofNat_of_zero_le b3.1
  obtain ⟨c4, rfl⟩ := Int.eq_ofNat_of_zero_le b4.1; obtain ⟨c5, rfl⟩ := Int.eq_ofNat_of_zero_le b5.1
  obtain ⟨c6, rfl⟩ := Int.eq_ofNat_of_zero_le b6.1; obtain ⟨c7, rfl⟩ := Int.eq_ofNat_of_zero_le b7.1
  rw [show IntKind.u64.wrap (c7 : Int) = (c7 : Int) from wrapN64 (by omega)]
  rw [show Int.toNat 8 = 8 from rfl, show Int.toNat 16 = 16 from rfl, show Int.toNat 24 = 24 from rfl, show Int.toNat 32 = 32 from rfl, show Int.toNat 40 = 40 from rfl, show Int.toNat 48 = 48 from rfl, show Int.toNat 56 = 56 from rfl]
  rw [orsh (by omega) (by omega) (by omega), orsh (by omega) (by omega) (by omega), orsh (by omega) (by omega) (by omega), orsh (by omega) (by omega) (by omega), orsh (by omega) (by omega) (by omega), orsh (by omega) (by omega) (by omega), orsh (by omega) (by omega) (by omega)]
  rw [bv8] at hk
  refine RetX.drop (h' := h) (by intro b x hb; have hlt := hn1 b x hb; (repeat (rw [hput_ne (by omega)])); exact hb) ?_
  refine cast (congrArg (fun v : Int => K (.tuple #[.int .u64 v, .bool true]) h) ?_) hk
  omega
theorem StoreX.whole {m : Nat} {c vs : List Value} {t : TypeId} {KK : Hp → Prop} (hb : h m = some (c, t)) (hl : vs.length = c.length) (hk : KK (hput h m (vs, t))) : StoreX h m 0 vs KK := by
  refine StoreX.at hb (by omega) ?_
  rw [setSeg_all hl.symm]; exact hk
theorem SlcX.at {b o len cap sz : Nat} {lo hi mx : Option Int} {KK : Value → Prop} (hlen : len ≤ cap) (l hh m : Nat)
    (hlo : lo.getD 0 = l) (hhi : hi.getD len = hh) (hmx : mx.getD cap = m) (h1 : l ≤ hh) (h2 : hh ≤ m) (h3 : m ≤ cap) (hf : mx = none ∨ hi ≠ none)
    (hk : KK (.slice (some ⟨b, soff o l m sz, none⟩) (hh - l) (m - l))) : SlcX (some ⟨b, o, none⟩) len cap sz lo hi mx KK :=
  SlcX.gen (h := fun _ => some (List.replicate o (.bool false), 0)) (n := 0) (cs := []) (by simp [rd, seg]) (fun h => by cases h) hlen l hh m hlo hhi hmx h1 h2 h3 hf hk
theorem byt_set {pre post : List Value} {l : List Int} {j : Nat} {v : Int} (hj : j < l.length) : setSeg (pre ++ (bcells l ++ post)) (pre.length + j) [.int .u8 v] = pre ++ (bcells (l.set j v) ++ post) := by
  rw [set_mid (by simp [bcells]; exact hj)]
  unfold bcells
  rw [List.map_set]
theorem StoreX.byt {m o t : Nat} {pre post : List Value} {l : List Int} {v : Int} {KK : Hp → Prop} (hb : h m = some (pre ++ (bcells l ++ post), t)) (j : Nat) (ho : o = pre.length + j) (hj : j < l.length) (hk : KK (hput h m (pre ++ (bcells (l.set j v) ++ post), t))) : StoreX h m o [.int .u8 v] KK := by
  subst ho
  refine StoreX.at hb (by simp [bcells]; omega) ?_
  rw [byt_set hj]; exact hk
theorem be8 {x : Int} (hx0 : 0 ≤ x) (hx : x < 18446744073709551616) : be 8 x = [x / 72057594037927936 % 256, x / 281474976710656 % 256, x / 1099511627776 % 256, x / 4294967296 % 256, x / 16777216 % 256, x / 65536 % 256, x / 256 % 256, x % 256] := by
  unfold be
  simp only [le, List.reverse_cons, List.reverse_nil, List.nil_append, List.cons_append, Int.ediv_ediv_of_nonneg (show (0 : Int) ≤ 256 by decide)]
  simp
  omega
theorem shr8u {x : Int} {k : Nat} {P : Int} (hk : (2 : Int) ^ min k IntKind.u64.bits = P) (hP : 0 < P) : IntKind.u8.wrap (x.fdiv (2 ^ min k IntKind.u64.bits)) = x / P % 256 := by
  rw [hk, Int.fdiv_eq_ediv_of_nonneg _ (by omega), wrap_u8]
set_option maxRecDepth 100000 in
set_option maxHeartbeats 4000000 in
theorem putBE64_ok {m n cap o t : Nat} {pre post : List Value} {l : List Int} (hb : h m = some (pre ++ (bcells l ++ post), t)) (hl : l.length = n) (hn : n < 2 ^ 40) (hc : n ≤ cap) (ho : o + 8 ≤ n) (hx0 : 0 ≤ x) (hx : x < 18446744073709551616)
    (hk : K (.bool true) (hput h m (pre ++ (bcells (l.take o ++ (be 8 x ++ l.drop (o + 8))) ++ post), t))) : CallX Hval.prog 178 [.slice (some ⟨m, pre.length, none⟩) n cap, .int .i64 o, .int .u64 x] h K := by
  obtain ⟨g, hg⟩ : ∃ g, g = (l.drop o).take 8 := ⟨_, rfl⟩
  have h8 : g.length = 8 := by rw [hg]; simp; omega
  have esp : l = l.take o ++ (g ++ l.drop (o + 8)) := by
    rw [hg, ← List.drop_drop, List.take_append_drop, List.take_append_drop]
  have hb' : h m = some ((pre ++ bcells (l.take o)) ++ (bcells g ++ (bcells (l.drop (o + 8)) ++ post)), t) := by
    rw [hb]; congr 2
    conv => lhs; rw [esp]
    unfold bcells
    simp only [List.map_append, List.append_assoc]
  have hpl : (pre ++ bcells (l.take o)).length = pre.length + o := by simp [bcells]; omega
  have hk' : K (.bool true) (hput h m ((pre ++ bcells (l.take o)) ++ (bcells (be 8 x) ++ (bcells (l.drop (o + 8)) ++ post)), t)) := by
    refine cast (congrArg (fun c => K (.bool true) (hput h m (c, t))) ?_) hk
    unfold bcells
    simp only [List.map_append, List.append_assoc]
  clear hk
  obtain ⟨d0, d1, d2, d3, d4, d5, d6, d7, rfl⟩ : ∃ d0 d1 d2 d3 d4 d5 d6 d7, g = [d0, d1, d2, d3, d4, d5, d6, d7] := by
    match g, h8 with
    | [d0, d1, d2, d3, d4, d5, d6, d7], _ => exact ⟨_, _, _, _, _, _, _, _, rfl⟩
  generalize pre ++ bcells (l.take o) = pre' at *
  generalize bcells (l.drop (o + 8)) ++ post = post' at *
  refine CallX.of_xf T_ok Hval.func178 rfl (by kernel_rfl) (Nat.le_of_ble_eq_true rfl) ?_; conv => whnf
  refine inside_ok (by omega) (by omega) ?_; conv => whnf
  rw [decide_eq_true ho]
  repeat (first | (refine CondX.tt ?_; conv => whnf) | (refine CondX.ff ?_; conv => whnf))
  refine SlcX.at hc o (o + 8) cap rfl (by show IntKind.i64.wrap _ = _; rw [wrap_i64 (by omega) (by omega)]; omega) rfl (by omega) (by omega) (by omega) (Or.inl rfl) ?_; conv => whnf
  have es : soff pre.length o cap (5, y5).snd.size = pre'.length := by
    unfold soff; rw [if_neg (by omega), hpl]; show _ + _ * 1 = _; omega
  rw [es]
  refine Ob.mk (by first | decide | omega) ?_; conv => whnf
  repeat (refine Ob.mk (by first | decide | omega) ?_; conv => whnf)
  refine StoreX.byt hb' 0 (by simp) (by simp) ?_; conv => whnf
  repeat (refine Ob.mk (by first | decide | omega) ?_; conv => whnf)
  refine StoreX.byt (hput_same ..) 1 (by simp [show y5.size = 1 from rfl]) (by simp) ?_; conv => whnf
  rw [hput_hput]
  repeat (refine Ob.mk (by first | decide | omega) ?_; conv => whnf)
  refine StoreX.byt (hput_same ..) 2 (by simp [show y5.size = 1 from rfl]) (by simp) ?_; conv => whnf
  rw [hput_hput]
  repeat (refine Ob.mk (by first | decide | omega) ?_; conv => whnf)
  refine StoreX.byt (hput_same ..) 3 (by simp [show y5.size = 1 from rfl]) (by simp) ?_; conv => whnf
  rw [hput_hput]
  repeat (refine Ob.mk (by first | decide | omega) ?_; conv => whnf)
  refine StoreX.byt (hput_same ..) 4 (by simp [show y5.size = 1 from rfl]) (by simp) ?_; conv => whnf
  rw [hput_hput]
  repeat (refine Ob.mk (by first | decide | omega) ?_; conv => whnf)
  refine StoreX.byt (hput_same ..) 5 (by simp [show y5.size = 1 from rfl]) (by simp) ?_; conv => whnf
  rw [hput_hput]
  repeat (refine Ob.mk (by first | decide | omega) ?_; conv => whnf)
  refine StoreX.byt (hput_same ..) 6 (by simp [show y5.size = 1 from rfl]) (by simp) ?_; conv => whnf
  rw [hput_hput]
  repeat (refine Ob.mk (by first | decide | omega) ?_; conv => whnf)
  refine StoreX.byt (hput_same ..) 7 (by simp [show y5.size = 1 from rfl]) (by simp) ?_; conv => whnf
  rw [hput_hput]
  refine RetX.same ?_
  refine cast (congrArg (fun c => K (.bool true) (hput h m (pre' ++ (bcells c ++ post'), t))) ?_) hk'
  rw [be8 hx0 hx]
  simp only [List.set_cons_zero, List.set_cons_succ]
  rw [shr8u (k := Int.toNat 56) (P := 72057594037927936) (by decide) (by decide), shr8u (k := Int.toNat 48) (P := 281474976710656) (by decide) (by decide), shr8u (k := Int.toNat 40) (P := 1099511627776) (by decide) (by decide), shr8u (k := Int.toNat 32) (P := 4294967296) (by decide) (by decide), shr8u (k := Int.toNat 24) (P := 16777216) (by decide) (by decide), shr8u (k := Int.toNat 16) (P := 65536) (by decide) (by decide), shr8u (k := Int.toNat 8) (P := 256) (by decide) (by decide), wrap_u8]
theorem dvApp : ∀ (a b : List Int), dv (a ++ b) = dv a + 256 ^ a.length * dv b
  | [], b => by simp [dv]
  | d :: a, b => by
    rw [List.cons_append, dv, dv, dvApp a b, List.length_cons, Int.pow_succ]
    grind
theorem bv_cut {l : List Int} {k : Nat} : bv l = bv (l.take k) * 256 ^ (l.length - k) + bv (l.drop k) := by
  conv => lhs; rw [← List.take_append_drop k l]
  unfold bv
  rw [List.reverse_append, dvApp, List.length_reverse, List.length_drop]
  rw [Int.add_comm, Int.mul_comm]
theorem bv_4 {l : List Int} (hl : l.length = 32) : bv l = wv (bv ((l.drop 24).take 8)) (bv ((l.drop 16).take 8)) (bv ((l.drop 8).take 8)) (bv ((l.drop 0).take 8)) := by
  rw [bv_cut (l := l) (k := 8), bv_cut (l := l.drop 8) (k := 8), bv_cut (l := (l.drop 8).drop 8) (k := 8), List.drop_drop, List.drop_drop]
  have e : (l.drop (8 + 8 + 8)).take 8 = l.drop (8 + 8 + 8) := List.take_of_length_le (by simp; omega)
  simp only [List.length_drop, hl, List.drop_zero] at *
  rw [show 8 + 8 + 8 = 24 from rfl] at *
  rw [e]
  unfold wv
  simp only [show 32 - 8 = 24 from rfl, show 24 - 8 = 16 from rfl, show 32 - (8 + 8) - 8 = 8 from rfl, show 8 + 8 = 16 from rfl]
  rw [show (256 : Int) ^ 24 = 6277101735386680763835789423207666416102355444464034512896 by decide, show (256 : Int) ^ 16 = 340282366920938463463374607431768211456 by decide, show (256 : Int) ^ 8 = 18446744073709551616 by decide]
  omega
theorem bvU {l : List Int} (hB : isB l) (o : Nat) : U (bv ((l.drop o).take 8)) := by
  have h0 := bv_nonneg ((hB.drop o).take 8)
  have h1 := bv_lt ((hB.drop o).take 8)
  have h2 := p256_mono (show ((l.drop o).take 8).length ≤ 8 by simp; omega)
  rw [show (256 : Int) ^ 8 = 18446744073709551616 by decide] at h2
  unfold U; omega
theorem put8_ok {m o t : Nat} {l : List Int} (hb : h m = some (bcells l, t)) (hl : l.length = 32) (ho : o + 8 ≤ 32) (hx0 : 0 ≤ x) (hx : x < 18446744073709551616)
    (hk : K (.bool true) (hput h m (bcells (l.take o ++ (be 8 x ++ l.drop (o + 8))), t))) : CallX Hval.prog 178 [.slice (some ⟨m, 0, none⟩) 32 32, .int .i64 o, .int .u64 x] h K :=
  putBE64_ok (pre := []) (post := []) (by simpa using hb) hl (by omega) (Nat.le_refl _) ho hx0 hx (by simpa using hk)
theorem put8_at {m o t : Nat} {p z r : List Int} (hb : h m = some (bcells (p ++ (z ++ r)), t)) (hp : p.length = o) (hz : z.length = 8) (hl : o + 8 + r.length = 32) (hx0 : 0 ≤ x) (hx : x < 18446744073709551616)
    (hk : K (.bool true) (hput h m (bcells (p ++ (be 8 x ++ r)), t))) : CallX Hval.prog 178 [.slice (some ⟨m, 0, none⟩) 32 32, .int .i64 o, .int .u64 x] h K := by
  refine put8_ok hb (by simp; omega) (by omega) hx0 hx ?_
  rw [List.take_append_of_le_length (by omega), List.take_of_length_le (by omega), List.drop_append, List.drop_of_length_le (by omega), List.nil_append, List.drop_append, show o + 8 - p.length - z.length = 0 by omega, List.drop_of_length_le (l := z) (by omega), List.nil_append, List.drop_zero]
  exact hk
set_option maxRecDepth 100000 in
set_option maxHeartbeats 4000000 in
theorem fromBytes_ok {l : List Int} (hl : l.length = 32) (hB : isB l) (hk : K (.agg (wc (bv l)).toArray) h) : CallX Hval.prog 78 [.agg (bcells l).toArray] h K := by
  refine CallX.of_xf T_ok Hval.func78 rfl (by kernel_rfl) (Nat.le_of_ble_eq_true rfl) ?_; conv => whnf
  refine BoxX.mk fun n1 hn1 => ?_; conv => whnf
  refine BoxX.on fun n2 hn2 hbd2 => ?_; conv => whnf
  have hb1 : Byt (hput (hput h n1 ((bcells l).toArray.toList, 32)) n2 ((75, y75).snd.zero, 75)) (some ⟨n1, 0, none⟩) 32 32 l := (own_all hB hl.symm (by omega)).ext (Ext.bd hbd2)
  refine be64_ok (base := some ⟨n1, 0, none⟩) (n := 32) (cap := 32) (o := 0) hb1 (by omega) ?_; conv => whnf
  refine be64_ok (base := some ⟨n1, 0, none⟩) (n := 32) (cap := 32) (o := 8) hb1 (by omega) ?_; conv => whnf
  refine be64_ok (base := some ⟨n1, 0, none⟩) (n := 32) (cap := 32) (o := 16) hb1 (by omega) ?_; conv => whnf
  refine be64_ok (base := some ⟨n1, 0, none⟩) (n := 32) (cap := 32) (o := 24) hb1 (by omega) ?_; conv => whnf
  repeat' (first
    | (refine Ob.mk (by first | decide | exact ⟨rfl, rfl⟩ | ((repeat (refine (ldV_ne (by omega)).trans ?_)); exact (ldV_same _ _ _ _ _ _ _).trans rfl)) ?_; conv => whnf)
    | (refine BoxX.on fun n hn hbd => ?_; conv => whnf)
    | (refine LoadX.of _ (by (repeat (refine (ldV_ne (by omega)).trans ?_)); exact (ldV_same _ _ _ _ _ _ _).trans rfl) ?_; conv => whnf)
    | (fail; conv => whnf)
    | (refine StoreX.same (Nat.le_of_ble_eq_true rfl) ?_; conv => whnf)
    | (refine StoreX.at (by (repeat (refine (hput_ne (by omega)).trans ?_)); exact hput_same ..) (Nat.le_of_ble_eq_true rfl) ?_; conv => whnf))
  refine RetX.drop (h' := h) (by intro b x hb; have hlt := hn1 b x hb; (repeat (rw [hput_ne (by omega)])); exact hb) ?_
  have e := wc_eq (bvU hB 24) (bvU hB 16) (bvU hB 8) (bvU hB 0) (bv_4 hl).symm
  rw [← e] at hk
  exact hk
theorem le_app : ∀ (n m : Nat) (x : Int), le (n + m) x = le n x ++ le m (x / 256 ^ n)
  | 0, m, x => by simp [le]
  | n + 1, m, x => by
    rw [show n + 1 + m = (n + m) + 1 by omega, le, le_app n m, le, List.cons_append, Int.ediv_ediv_of_nonneg (by decide), Int.pow_succ, Int.mul_comm]
theorem le_mod : ∀ (n : Nat) (x : Int), le n (x % 256 ^ n) = le n x
  | 0, x => rfl
  | n + 1, x => by
    rw [le, le, ← le_mod n (x / 256)]
    have e1 : x % 256 ^ (n + 1) % 256 = x % 256 := by rw [Int.pow_succ]; exact Int.emod_emod_of_dvd _ (Int.dvd_mul_left ..)
    have e2 : x % 256 ^ (n + 1) / 256 = x / 256 % 256 ^ n := by
      have hp : (0 : Int) < 256 ^ n := Int.pow_pos (by decide)
      rw [Int.pow_succ]
      generalize (256 : Int) ^ n = p at *
      have h1 := Int.mul_ediv_add_emod x (p * 256)
      have h2 := Int.mul_ediv_add_emod (x / 256) p
      have e3 : x / 256 / p = x / (p * 256) := by rw [Int.ediv_ediv_of_nonneg (by decide), Int.mul_comm]
      rw [e3] at h2
      generalize x / (p * 256) = q at *
      have e4 : p * 256 * q = 256 * (p * q) := by grind
      rw [e4] at h1
      generalize p * q = r at *
      omega
    rw [e1, e2]
theorem be_app (n m : Nat) (x : Int) : be (n + m) x = be m (x / 256 ^ n) ++ be n x := by
  unfold be; rw [le_app, List.reverse_append]
theorem be_mod (n : Nat) (x : Int) : be n (x % 256 ^ n) = be n x := by unfold be; rw [le_mod]
theorem be_32 (x : Int) : be 32 x = be 8 (x / 6277101735386680763835789423207666416102355444464034512896 % 18446744073709551616) ++ (be 8 (x / 340282366920938463463374607431768211456 % 18446744073709551616) ++ (be 8 (x / 18446744073709551616 % 18446744073709551616) ++ be 8 (x % 18446744073709551616))) := by
  have h8 : ∀ y : Int, be 8 (y % 18446744073709551616) = be 8 y := fun y => be_mod 8 y
  rw [h8, h8, h8, h8]
  rw [show (32 : Nat) = 8 + 24 from rfl, be_app 8 24, show (24 : Nat) = 8 + 16 from rfl, be_app 8 16, show (16 : Nat) = 8 + 8 from rfl, be_app 8 8]
  rw [show (256 : Int) ^ 8 = 18446744073709551616 by decide, Int.ediv_ediv_of_nonneg (x := x) (by decide), Int.ediv_ediv_of_nonneg (x := x) (by decide)]
  simp
set_option maxRecDepth 100000 in
set_option maxHeartbeats 4000000 in
theorem eBE32_ok (hx0 : 0 ≤ x) (hx : x < W) (hk : K (.agg (bcells (be 32 x)).toArray) h) : CallX Hval.prog 109 [.agg (wc x).toArray] h K := by
  refine CallX.of_xf T_ok Hval.func109 rfl (by kernel_rfl) (Nat.le_of_ble_eq_true rfl) ?_; conv => whnf
  refine BoxX.mk fun n1 hn1 => ?_; conv => whnf
  refine BoxX.on fun n2 hn2 hbd2 => ?_; conv => whnf
  refine BoxX.on fun n3 hn3 hbd3 => ?_; conv => whnf
  have hz : (32, y32).snd.zero = bcells (List.replicate 32 0) := rfl
  rw [hz]
  obtain ⟨h1, hh1⟩ : ∃ h1 : Hp, h1 = hput (hput h n1 ((wc x).toArray.toList, 75)) n2 (bcells (List.replicate 32 0), 32) := ⟨_, rfl⟩
  erw [← hh1]
  have p1 : h1 n1 = some (wc x, 75) := by rw [hh1, hput_ne (by omega), hput_same]
  have p2 : h1 n2 = some (bcells (List.replicate 32 0), 32) := by rw [hh1, hput_same]
  have hold : ∀ b z, h b = some z → h1 b = some z ∧ b < n1 := fun b z hbz => by
    have := hn1 b z hbz
    rw [hh1, hput_ne (by omega), hput_ne (by omega)]; exact ⟨hbz, this⟩
  clear hh1
  have u0 := U_mod x; have u1 := U_mod (x / 18446744073709551616); have u2 := U_mod (x / 340282366920938463463374607431768211456); have u3 := U_mod (x / 6277101735386680763835789423207666416102355444464034512896)
  rw [be_32] at hk
  obtain ⟨z8, hz8⟩ : ∃ z8, z8 = List.replicate 8 (0 : Int) := ⟨_, rfl⟩
  have l8 : z8.length = 8 := by rw [hz8]; rfl
  have ez : List.replicate 32 (0 : Int) = [] ++ (z8 ++ (z8 ++ (z8 ++ z8))) := by rw [hz8]; rfl
  rw [ez]
  clear hz8
  refine DrawX.go T_ok hM Hval.func109 (tb := dr109) rfl (by kernel_rfl) ?_; conv => whnf
  repeat (refine Ob.mk (by first | decide | omega) ?_; conv => whnf)
  refine LoadX.of _ (by refine (ldV_ne (by omega)).trans ?_; exact (ldV_blk p1 rfl)) ?_; conv => whnf
  refine put8_at (o := 0) (hput_same ..) rfl l8 (by simp [l8]) u3.1 u3.2 ?_; conv => whnf
  rw [hput_hput, List.nil_append]
  refine DrawX.go T_ok hM Hval.func109 (tb := dr109) rfl (by kernel_rfl) ?_; conv => whnf
  repeat (refine Ob.mk (by first | decide | omega) ?_; conv => whnf)
  refine LoadX.of _ (by refine (ldV_ne (by omega)).trans ?_; exact (ldV_blk p1 rfl)) ?_; conv => whnf
  refine put8_at (o := 8) (hput_same ..) (by simp [be_length]) l8 (by simp [l8]) u2.1 u2.2 ?_; conv => whnf
  rw [hput_hput, ← List.append_assoc]
  refine DrawX.go T_ok hM Hval.func109 (tb := dr109) rfl (by kernel_rfl) ?_; conv => whnf
  repeat (refine Ob.mk (by first | decide | omega) ?_; conv => whnf)
  refine LoadX.of _ (by refine (ldV_ne (by omega)).trans ?_; exact (ldV_blk p1 rfl)) ?_; conv => whnf
  refine put8_at (o := 16) (hput_same ..) (by simp [be_length]) l8 (by simp [l8]) u1.1 u1.2 ?_; conv => whnf
  rw [hput_hput, ← List.append_assoc]
  have en : ∀ A : List Int, A ++ z8 = A ++ (z8 ++ []) := fun A => by rw [List.append_nil]
  rw [en]
  refine DrawX.go T_ok hM Hval.func109 (tb := dr109) rfl (by kernel_rfl) ?_; conv => whnf
  repeat (refine Ob.mk (by first | decide | omega) ?_; conv => whnf)
  refine LoadX.of _ (by refine (ldV_ne (by omega)).trans ?_; exact (ldV_blk p1 rfl)) ?_; conv => whnf
  refine put8_at (o := 24) (hput_same ..) (by simp [be_length]) l8 (by simp) u0.1 u0.2 ?_; conv => whnf
  rw [hput_hput, List.append_nil, List.append_assoc, List.append_assoc]
  refine LoadX.all (c := bcells _) (hput_same ..) (by simp [bcells, be_length]; rfl) ?_; conv => whnf
  refine Ob.mk ⟨rfl, by simp [bcells, be_length]; rfl⟩ ?_; conv => whnf
  refine StoreX.whole (by rw [hput_ne (by omega)]; exact p2) (by simp [bcells, be_length]) ?_; conv => whnf
  refine LoadX.all (hput_same ..) (by simp [bcells, be_length]; rfl) ?_; conv => whnf
  refine RetX.drop (h' := h) (fun b z hbz => ?_) hk
  have := hold b z hbz
  rw [hput_ne (by omega), hput_ne (by omega)]; exact this.1
end
end Go.Proofs.YgvalwGreat.X
