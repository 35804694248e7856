import Derived.Test.YgvalwGreatG4
set_option linter.unusedVariables false
set_option linter.unusedSimpArgs false
namespace Go.Proofs.YgvalwGreat.X
open Go

/-- The padded message's bits. -/
def padL (n : Nat) : Nat := 1088 * (8 * n / 1088 + 1)
def padB (l : List Int) : Nat → Bool := fun j => if j < 8 * l.length then (l.getD (j / 8) 0).toNat.testBit (j % 8) else decide (j = 8 * l.length ∨ j + 1 = padL l.length)
def absB (p : Nat → Bool) : Nat → Nat → Bool
  | 0 => fun _ => false
  | n + 1 => if n % 1088 = 1087 then kF (updB (absB p n) (n % 1088) (absB p n (n % 1088) != p n)) else updB (absB p n) (n % 1088) (absB p n (n % 1088) != p n)
def byB (s : Nat → Bool) (j : Nat) : Nat → Nat
  | 0 => 0
  | k + 1 => if s (8 * j + k) then byB s j k ||| 2 ^ k else byB s j k
def outB (s : Nat → Bool) : List Int := (List.range 32).map fun j => ((byB s j 8 : Nat) : Int)
/-- Keccak-256. -/
def kSum (l : List Int) : List Int := outB (absB (padB l) (padL l.length))
theorem byB_lt (s : Nat → Bool) (j : Nat) {k : Nat} : byB s j k < 2 ^ k := by
  induction k with
  | zero => simp [byB]
  | succ k ih =>
    unfold byB
    have h2 : 2 ^ k < 2 ^ (k + 1) := Nat.pow_lt_pow_right (by decide) (by omega)
    split
    · exact Nat.or_lt_two_pow (by omega) h2
    · omega
theorem outB_len (s : Nat → Bool) : (outB s).length = 32 := by simp [outB]
theorem kSum_len (l : List Int) : (kSum l).length = 32 := outB_len _
theorem outB_isB (s : Nat → Bool) : isB (outB s) := fun d hd => by
  obtain ⟨j, -, rfl⟩ := List.mem_map.1 hd
  have := byB_lt s j (k := 8)
  omega
theorem kSum_isB (l : List Int) : isB (kSum l) := outB_isB _
theorem ofInt8 {a : Nat} (ha : a < 256) : (BitVec.ofInt IntKind.u8.bits (a : Int)).toNat = a := by
  rw [show IntKind.u8.bits = 8 from rfl, BitVec.ofInt_natCast, BitVec.toNat_ofNat, Nat.mod_eq_of_lt ha]
theorem wrapN8 {a : Nat} (ha : a < 256) : IntKind.u8.wrap (a : Int) = (a : Int) := by rw [wrap_u8]; omega
theorem or8v {a b : Nat} {w : Int} (ha : a < 256) (hw : w = (b : Int)) (hb : b < 256) : IntKind.u8.wrap ((BitVec.ofInt IntKind.u8.bits (a : Int) ||| BitVec.ofInt IntKind.u8.bits w).toNat : Int) = ((a ||| b : Nat) : Int) := by
  subst hw
  rw [BitVec.toNat_or, ofInt8 ha, ofInt8 hb, wrapN8 (Nat.or_lt_two_pow (n := 8) ha hb)]
theorem bit8 {a : Int} {s : Nat} (hs : s < 8) (h0 : 0 ≤ a) (ha : a < 256) : (IntKind.u8.wrap ((BitVec.ofInt IntKind.u8.bits (a.fdiv (2 ^ min ((s : Int)).toNat IntKind.u8.bits)) &&& BitVec.ofInt IntKind.u8.bits 1).toNat : Int) == 1) = a.toNat.testBit s := by
  obtain ⟨a, rfl⟩ := Int.eq_ofNat_of_zero_le h0
  have hq : (a : Int).fdiv (2 ^ min ((s : Int)).toNat IntKind.u8.bits) = ((a >>> s : Nat) : Int) := by
    rw [Int.toNat_natCast, show IntKind.u8.bits = 8 from rfl, Nat.min_eq_left (by omega), Nat.shiftRight_eq_div_pow, Int.fdiv_eq_ediv_of_nonneg _ (by exact Int.le_of_lt (Int.pow_pos (by decide)))]
    simp
  have h1 : a >>> s < 256 := Nat.lt_of_le_of_lt (Nat.shiftRight_le a s) (by omega)
  rw [hq, BitVec.toNat_and, ofInt8 h1, show (BitVec.ofInt IntKind.u8.bits 1).toNat = 1 from rfl, Nat.and_one_is_mod, wrapN8 (by omega), Int.toNat_natCast, Nat.testBit_eq_decide_div_mod_eq, Nat.shiftRight_eq_div_pow, Bool.eq_iff_iff, beq_iff_eq, decide_eq_true_iff]
  generalize a / 2 ^ s = q
  omega
theorem AppendX.fb {h : Hp} {e : TypeId} {q n len : Nat} {B : Nat → Bool} {t : TypeId} {z : List Value} {nw : Option (List Value)} {v : Bool} {K : Value → Hp → Prop} (hq : h q = some (fnb n B, t)) (hnw : nw = some [.bool v]) (hl : len < n) (hr : n ≤ 2 ^ 46)
    (hk : K (.slice (some ⟨q, 0, none⟩) (len + 1) n) (hput h q (fnb n (updB B len v), t))) : AppendX h e 1 1 z (some ⟨q, 0, none⟩) len n nw 1 K := by
  refine ⟨by decide, fnb len B, [.bool v], ?_, hnw, by omega, fun _ => ?_, fun hc => by omega⟩
  · simp only [rd, hq]
    rw [if_pos (by rw [fnb_len]; omega), Nat.mul_one]
    have := seg_fnv (n := n) (g := fun i => .bool (B i)) (o := 0) (k := len) (by omega)
    simp only [Nat.zero_add] at this
    exact congrArg some this
  · refine ⟨_, _, hq, by rw [fnb_len]; omega, rfl, ?_⟩
    rw [Nat.zero_add, Nat.mul_one, fnb_set hl]
    exact hk
section
variable {h : Hp} {K : Value → Hp → Prop}
set_option maxRecDepth 100000 in
set_option maxHeartbeats 4000000 in
theorem kSum_ok {base : Option Addr} {len cap : Nat} {l : List Int} (hb : Byt h base len cap l) (hk : K (.agg (bcells (kSum l)).toArray) h) : CallX Hval.prog 169 [.slice base len cap] h K := by
  refine CallX.of_xf T_ok Hval.func169 rfl (by kernel_rfl) (Nat.le_of_ble_eq_true rfl) ?_; conv => whnf
  have hl := hb.len
  have hr := hb.room
  refine BoxX.ext fun r hr0 er => ?_; conv => whnf
  have hr00 := hr0.at
  rw [wrap_i64 (x := 8 * (len : Int)) (by omega) (by omega), show 8 * (len : Int) + 2176 = ((8 * len + 2176 : Nat) : Int) by omega, wrap_i64 (x := ((8 * len + 2176 : Nat) : Int)) (by omega) (by omega)]
  have hN : 8 * len + 2176 < 2 ^ 46 := by omega
  have hpl : padL len = 1088 * (8 * len / 1088 + 1) := rfl
  obtain ⟨N, hNe⟩ : ∃ N, N = 8 * len + 2176 := ⟨_, rfl⟩
  rw [← hNe]
  refine ⟨by decide, by decide, by omega, by show (N : Int) * 1 ≤ _; omega, fun q hq => ?_⟩; conv => whnf
  have hqr : q ≠ r := fun e => by have := hq.at; rw [e, hput_same] at this; cases this
  have hq0 : h q = Option.none := by have := hq.at; rwa [hput_ne hqr] at this
  have h0r : hput (hput h r (z32, 32)) q (zeros (4, y4).snd.zero N, 4) r = some (z32, 32) := by rw [hput_ne hqr.symm, hput_same]
  have h0q : hput (hput h r (z32, 32)) q (zeros (4, y4).snd.zero N, 4) q = some (fnb N (fun _ => false), 4) := by rw [hput_same]; exact congrArg (fun z => some (z, 4)) (zeros_one (.bool false) N)
  have e0 : Ext h (hput (hput h r (z32, 32)) q (zeros (4, y4).snd.zero N, 4)) := Ext.keep er hq0
  show LoopX _ _ _ _ _ _ _ (hput (hput h r (z32, 32)) q (zeros (4, y4).snd.zero N, 4))
  generalize hput (hput h r (z32, 32)) q (zeros (4, y4).snd.zero N, 4) = h1 at h0r h0q e0 ⊢
  clear er hq
  have hpb : ∀ j, j < 8 * len → padB l j = (l.getD (j / 8) 0).toNat.testBit (j % 8) := fun j hj => by unfold padB; rw [if_pos (by omega)]
  have hpe : ∀ j, 8 * len ≤ j → padB l j = decide (j = 8 * len ∨ j + 1 = padL len) := fun j hj => by unfold padB; rw [if_neg (by omega), hl]
  refine LoopX.st T_ok Hval.func169 (σ := Nat) (fun s => [(0, .slice base len cap), (2, .pointer (some ⟨r, 0, none⟩)), (3, .slice (some ⟨q, 0, none⟩) (8 * s) N), (17, .slice base len cap), (18, .int .i64 len), (19, .int .i64 s)])
    (fun s h' => s ≤ len ∧ ∃ B, h' q = some (fnb N B, 4) ∧ h' r = some (z32, 32) ∧ Ext h h' ∧ ∀ j, j < 8 * s → B j = padB l j) (fun s => len - s) 0 ⟨rfl, rfl, rfl, rfl, rfl, rfl, trivial⟩ ⟨by omega, _, h0q, h0r, e0, fun j hj => by omega⟩ ?_
  clear h0q h0r e0 h1
  rintro i ρ h' ⟨hi, B, hB, hR, e1, hI⟩ ih
  conv => whnf
  refine CondX.decI (fun hc => ?_) (fun hc => ?_) <;> conv => whnf
  · have hi5 : i < len := by omega
    have hb' := hb.ext e1
    refine IdxX.rd hb'.rd (by omega) (by omega) fun b1 o1 eb hrd => ?_; conv => whnf
    refine LoadX.byte hb' eb i rfl (by omega) rfl ?_; conv => whnf
    have hd := hb.isB.get i
    generalize hx : l.getD i 0 = x at hd ⊢
    refine LoopX.st T_ok Hval.func169 (σ := Nat) (fun s => [(0, .slice base len cap), (2, .pointer (some ⟨r, 0, none⟩)), (3, .slice (some ⟨q, 0, none⟩) (8 * i + s) N), (17, .slice base len cap), (18, .int .i64 len), (19, .int .i64 i), (5, .int .u8 x), (6, .int .i64 s)])
      (fun s h' => s ≤ 8 ∧ ∃ B, h' q = some (fnb N B, 4) ∧ h' r = some (z32, 32) ∧ Ext h h' ∧ ∀ j, j < 8 * i + s → B j = padB l j) (fun s => 8 - s) 0 ⟨rfl, rfl, rfl, rfl, rfl, rfl, rfl, rfl, trivial⟩ ⟨by omega, _, hB, hR, e1, hI⟩ ?_
    clear hrd hb' hB hR e1 hI B h'
    rintro k ρ h' ⟨hk8, B, hB, hR, e1, hI⟩ ih2
    conv => whnf
    refine CondX.decI (fun hc => ?_) (fun hc => ?_) <;> conv => whnf
    · have hk5 : k < 8 := by omega
      repeat (refine Ob.mk (by first | decide | omega) ?_; conv => whnf)
      rw [bit8 hk5 hd.1 hd.2]
      repeat (refine Ob.mk (by first | decide | omega) ?_; conv => whnf)
      refine BoxX.ext fun w hw ew => ?_; conv => whnf
      refine AppendX.fb (v := x.toNat.testBit k) (ew _ _ hB) (rd_own (show ([Value.bool (x.toNat.testBit k)] : List Value).length = 1 from rfl)) (by omega) (by omega) ?_; conv => whnf
      have hB' := ew _ _ hB
      have hR' := ew _ _ hR
      have e1' := e1.trans ew
      clear hB hR e1
      have hB := hB'
      have hR := hR'
      have e1 := e1'
      clear hB' hR' e1' ew
      generalize hput _ w _ = h' at hB hR e1 ⊢
      refine ih2 (k + 1) _ _ ⟨by omega, _, hput_same .., by rw [hput_ne hqr.symm]; exact hR, Ext.keep e1 hq0, fun j hj => ?_⟩ (by omega) ⟨rfl, rfl, rfl, rfl, rfl, rfl, rfl, congrArg (Value.int .i64) (wsucc (by omega)), trivial⟩
      unfold updB
      by_cases e : j = 8 * i + k
      · subst e
        rw [if_pos rfl, hpb _ (by omega), show (8 * i + k) / 8 = i by omega, show (8 * i + k) % 8 = k by omega, hx]
      · rw [if_neg e]; exact hI j (by omega)
    · have : k = 8 := by omega
      subst this
      exact ih (i + 1) _ _ ⟨by omega, B, hB, hR, e1, fun j hj => hI j (by omega)⟩ (by omega) ⟨rfl, rfl, rfl, rfl, rfl, congrArg (Value.int .i64) (wsucc (by omega)), trivial⟩
  · have : i = len := by omega
    subst this
    clear ih
    have hNi : 8 * i < N := by omega
    have hN46 : N ≤ 2 ^ 46 := by omega
    repeat (refine Ob.mk (by first | decide | omega) ?_; conv => whnf)
    refine BoxX.ext fun w hw ew => ?_; conv => whnf
    refine AppendX.fb (v := true) (ew _ _ hB) (rd_own (show ([Value.bool (true)] : List Value).length = 1 from rfl)) (by omega) (by omega) ?_; conv => whnf
    have hB' := ew _ _ hB
    have hR' := ew _ _ hR
    have e1' := e1.trans ew
    clear hB hR e1
    have hB := hB'
    have hR := hR'
    have e1 := e1'
    clear hB' hR' e1' ew
    generalize hput _ w _ = h' at hB hR e1 ⊢
    refine LoopX.st T_ok Hval.func169 (σ := Nat) (fun s => [(2, .pointer (some ⟨r, 0, none⟩)), (3, .slice (some ⟨q, 0, none⟩) s N)])
      (fun s h' => 8 * i + 1 ≤ s ∧ s + 1 ≤ padL i ∧ ∃ B, h' q = some (fnb N B, 4) ∧ h' r = some (z32, 32) ∧ Ext h h' ∧ ∀ j, j < s → B j = padB l j) (fun s => padL i - s) (8 * i + 1) ⟨rfl, rfl, trivial⟩ ⟨by omega, by omega, _, hput_same .., by rw [hput_ne hqr.symm]; exact hR, Ext.keep e1 hq0, fun j hj => ?_⟩ ?_
    · unfold updB
      by_cases e : j = 8 * i
      · subst e; rw [if_pos rfl, hpe _ (by omega)]; simp
      · rw [if_neg e]; exact hI j (by omega)
    clear hB hR e1 hI B h'
    rintro n ρ h' ⟨hn1, hn2, B, hB, hR, e1, hI⟩ ih
    conv => whnf
    repeat (refine Ob.mk (by first | decide | omega) ?_; conv => whnf)
    rw [show Int.tmod (n : Int) 1088 = ((n % 1088 : Nat) : Int) from tmodN n 1088]
    refine CondX.neI (fun hc => ?_) (fun hc => ?_) <;> conv => whnf
    · repeat (refine Ob.mk (by first | decide | omega) ?_; conv => whnf)
      refine BoxX.ext fun w hw ew => ?_; conv => whnf
      refine AppendX.fb (v := false) (ew _ _ hB) (rd_own (show ([Value.bool (false)] : List Value).length = 1 from rfl)) (by omega) (by omega) ?_; conv => whnf
      have hB' := ew _ _ hB
      have hR' := ew _ _ hR
      have e1' := e1.trans ew
      clear hB hR e1
      have hB := hB'
      have hR := hR'
      have e1 := e1'
      clear hB' hR' e1' ew
      generalize hput _ w _ = h' at hB hR e1 ⊢
      refine ih (n + 1) _ _ ⟨by omega, by omega, _, hput_same .., by rw [hput_ne hqr.symm]; exact hR, Ext.keep e1 hq0, fun j hj => ?_⟩ (by omega) ⟨rfl, rfl, trivial⟩
      unfold updB
      by_cases e : j = n
      · subst e; rw [if_pos rfl, hpe _ (by omega)]; symm; exact decide_eq_false (by omega)
      · rw [if_neg e]; exact hI j (by omega)
    · have hn : n + 1 = padL i := by omega
      repeat (refine Ob.mk (by first | decide | omega) ?_; conv => whnf)
      refine BoxX.ext fun w hw ew => ?_; conv => whnf
      refine AppendX.fb (v := true) (ew _ _ hB) (rd_own (show ([Value.bool (true)] : List Value).length = 1 from rfl)) (by omega) (by omega) ?_; conv => whnf
      have hB' := ew _ _ hB
      have hR' := ew _ _ hR
      have e1' := e1.trans ew
      clear hB hR e1
      have hB := hB'
      have hR := hR'
      have e1 := e1'
      clear hB' hR' e1' ew
      generalize hput _ w _ = h' at hB hR e1 ⊢
      have hB2 := hput_same (h := h') (b := q) (x := (fnb N (updB B n true), 4))
      have e2 := Ext.keep (x := (fnb N (updB B n true), 4)) e1 hq0
      have hR2 : hput h' q (fnb N (updB B n true), 4) r = some (z32, 32) := by rw [hput_ne hqr.symm]; exact hR
      have hI2 : ∀ j, j < n + 1 → updB B n true j = padB l j := fun j hj => by
        unfold updB
        by_cases e : j = n
        · subst e; rw [if_pos rfl, hpe _ (by omega)]; symm; exact decide_eq_true (by omega)
        · rw [if_neg e]; exact hI j (by omega)
      generalize hput h' q (fnb N (updB B n true), 4) = h2 at hB2 e2 hR2 ⊢
      rw [hn] at hI2 ⊢
      generalize updB B n true = B2 at hB2 hI2
      clear ih hB hR e1 hI B h'
      refine BoxX.ext fun s hs es => ?_; conv => whnf
      have hs0 := hs.at
      have hsr : s ≠ r := fun e => by rw [e, hR2] at hs0; cases hs0
      have hsq : s ≠ q := fun e => by rw [e, hB2] at hs0; cases hs0
      have hs00 : h s = Option.none := by
        cases e : h s with
        | none => rfl
        | some x => rw [e2 _ _ e] at hs0; cases hs0
      generalize hL : padL i = L at hI2 ⊢
      have hkS : kSum l = outB (absB (padB l) L) := by unfold kSum; rw [hl, hL]
      refine LoopX.st T_ok Hval.func169 (σ := Nat) (fun x => [(2, .pointer (some ⟨r, 0, none⟩)), (7, .pointer (some ⟨s, 0, none⟩)), (49, .slice (some ⟨q, 0, none⟩) L N), (50, .int .i64 L), (51, .int .i64 x)])
        (fun x h' => x ≤ L ∧ h' q = some (fnb N B2, 4) ∧ h' r = some (z32, 32) ∧ h' s = some (fnb 1600 (absB (padB l) x), 301) ∧ Ext h h') (fun x => L - x) 0 ⟨rfl, rfl, rfl, rfl, rfl, trivial⟩ ⟨by omega, es _ _ hB2, es _ _ hR2, ?_, e2.trans es⟩ ?_
      · rw [hput_same]; exact congrArg (fun z => some (z, 301)) (zeros_one (.bool false) 1600)
      clear hB2 hR2 e2 es hs hs0 h2
      rintro x ρ h' ⟨hx, hB, hR, hS, e1⟩ ih
      conv => whnf
      refine CondX.decI (fun hc => ?_) (fun hc => ?_) <;> conv => whnf
      · refine IdxX.at (by omega) (by omega) ?_; conv => whnf
        refine LoadX.fb hB x (by (try simp only [sz367, sz368, sz4]); omega) (by omega) ?_; conv => whnf
        repeat (refine Ob.mk (by first | decide | omega) ?_; conv => whnf)
        rw [show Int.tmod (x : Int) 1088 = ((x % 1088 : Nat) : Int) from tmodN x 1088]
        repeat (refine Ob.mk (by first | decide | omega) ?_; conv => whnf)
        refine LoadX.fb hS (x % 1088) (by (try simp only [sz367, sz368, sz4]); omega) (by omega) ?_; conv => whnf
        repeat (refine Ob.mk (by first | decide | omega) ?_; conv => whnf)
        refine StoreX.fb hS (x % 1088) (by (try simp only [sz367, sz368, sz4]); omega) (by omega) ?_; conv => whnf
        repeat (refine Ob.mk (by first | decide | omega) ?_; conv => whnf)
        have hab : absB (padB l) (x + 1) = if x % 1088 = 1087 then kF (updB (absB (padB l) x) (x % 1088) (absB (padB l) x (x % 1088) != padB l x)) else updB (absB (padB l) x) (x % 1088) (absB (padB l) x (x % 1088) != padB l x) := rfl
        rw [show (!(absB (padB l) x (x % 1088) == B2 x)) = (absB (padB l) x (x % 1088) != padB l x) by rw [hI2 x (by omega)]; rfl]
        rw [show Int.tmod (x : Int) 1088 = ((x % 1088 : Nat) : Int) from tmodN x 1088]
        refine CondX.eqI (fun hc => ?_) (fun hc => ?_) <;> conv => whnf
        · rw [if_pos (by omega)] at hab
          refine kF_ok (hput_same ..) ?_; conv => whnf
          rw [hput_hput, ← hab]
          refine ih (x + 1) _ _ ⟨by omega, by rw [hput_ne hsq.symm]; exact hB, by rw [hput_ne hsr.symm]; exact hR, hput_same .., Ext.keep e1 hs00⟩ (by omega) ⟨rfl, rfl, rfl, rfl, ?_, trivial⟩
          exact congrArg (Value.int .i64) (by rw [wrap_i64 (by omega) (by omega)]; omega)
        · rw [if_neg (by omega)] at hab
          rw [← hab]
          refine ih (x + 1) _ _ ⟨by omega, by rw [hput_ne hsq.symm]; exact hB, by rw [hput_ne hsr.symm]; exact hR, hput_same .., Ext.keep e1 hs00⟩ (by omega) ⟨rfl, rfl, rfl, rfl, ?_, trivial⟩
          exact congrArg (Value.int .i64) (by rw [wrap_i64 (by omega) (by omega)]; omega)
      · have : x = L := by omega
        subst this
        rw [hkS] at hk
        generalize absB (padB l) x = S at hS hk
        refine BoxX.ext fun o ho eo => ?_; conv => whnf
        have ho0 := ho.at
        have hor : o ≠ r := fun e => by rw [e, hR] at ho0; cases ho0
        have hos : o ≠ s := fun e => by rw [e, hS] at ho0; cases ho0
        have ho00 : h o = Option.none := by
          cases e : h o with
          | none => rfl
          | some x => rw [e1 _ _ e] at ho0; cases ho0
        clear ih
        refine LoopX.st T_ok Hval.func169 (σ := Nat) (fun x => [(2, .pointer (some ⟨r, 0, none⟩)), (7, .pointer (some ⟨s, 0, none⟩)), (10, .pointer (some ⟨o, 0, none⟩)), (11, .int .i64 x)])
          (fun x h' => x ≤ 256 ∧ h' r = some (z32, 32) ∧ h' s = some (fnb 1600 S, 301) ∧ h' o = some (fnv 32 (fun j => .int .u8 (byB S j (min 8 (x - 8 * j)) : Nat)), 32) ∧ Ext h h') (fun x => 256 - x) 0 ⟨rfl, rfl, rfl, rfl, trivial⟩ ⟨by omega, eo _ _ hR, eo _ _ hS, ?_, e1.trans eo⟩ ?_
        · rw [hput_same]
          exact congrArg (fun z => some (z, 32)) (show zeros z5 32 = _ from (zeros_one (.int .u8 0) 32).trans (fnv_ext fun j hj => by rw [show min 8 (0 - 8 * j) = 0 by omega]; rfl))
        clear hB hR hS e1 ho ho0 eo h'
        rintro n ρ h' ⟨hn, hR, hS, hO, e1⟩ ih
        conv => whnf
        refine CondX.decI (fun hc => ?_) (fun hc => ?_) <;> conv => whnf
        · repeat (refine Ob.mk (by first | decide | omega) ?_; conv => whnf)
          refine LoadX.fb hS n (by (try simp only [sz367, sz368, sz4]); omega) (by omega) ?_; conv => whnf
          refine CondX.mk (fun hc => ?_) (fun hc => ?_) <;> conv => whnf
          · refine DrawX.go T_ok hM Hval.func169 (tb := dr169) rfl (by kernel_rfl) ?_; conv => whnf
            repeat (refine Ob.mk (by first | decide | omega) ?_; conv => whnf)
            rw [show Int.tdiv (n : Int) 8 = ((n / 8 : Nat) : Int) from tdivN n 8, wrapI (show n / 8 < 2 ^ 41 by omega)]
            repeat (refine Ob.mk (by first | decide | omega) ?_; conv => whnf)
            refine LoadX.fn hO (n / 8) (by simp [show y5.size = 1 from rfl]; omega) (by omega) ?_; conv => whnf
            repeat (refine Ob.mk (by first | decide | omega) ?_; conv => whnf)
            rw [show Int.tmod (n : Int) 8 = ((n % 8 : Nat) : Int) from tmodN n 8]
            repeat (refine Ob.mk (by first | decide | omega) ?_; conv => whnf)
            have hmn : min 8 (n - 8 * (n / 8)) = n % 8 := by omega
            have hk8 : n % 8 < 8 := by omega
            have hby := byB_lt S (n / 8) (k := n % 8)
            have hp8 : 2 ^ (n % 8) ≤ 2 ^ 7 := Nat.pow_le_pow_right (by decide) (by omega)
            have hsh : IntKind.u8.wrap (1 * 2 ^ min ((n % 8 : Nat) : Int).toNat IntKind.u8.bits) = ((2 ^ (n % 8) : Nat) : Int) := by
              rw [Int.toNat_natCast, show IntKind.u8.bits = 8 from rfl, Nat.min_eq_left (by omega), Int.one_mul, ← wrapN8 (a := 2 ^ (n % 8)) (by omega)]
              simp
            rw [hmn, or8v (by omega) hsh (by omega)]
            refine StoreX.fn hO (n / 8) (by simp [show y5.size = 1 from rfl]; omega) (by omega) ?_; conv => whnf
            repeat (refine Ob.mk (by first | decide | omega) ?_; conv => whnf)
            refine ih (n + 1) _ _ ⟨by omega, by rw [hput_ne hor.symm]; exact hR, by rw [hput_ne hos.symm]; exact hS, ?_, Ext.keep e1 ho00⟩ (by omega) ⟨rfl, rfl, rfl, congrArg (Value.int .i64) (wsucc (by omega)), trivial⟩
            rw [hput_same]
            refine congrArg (fun z => some (z, 32)) (fnv_ext fun j hj => ?_)
            unfold updV
            by_cases e : j = n / 8
            · subst e
              rw [if_pos rfl, show min 8 (n + 1 - 8 * (n / 8)) = n % 8 + 1 by omega]
              conv => rhs; unfold byB
              rw [if_pos (by rw [show 8 * (n / 8) + n % 8 = n by omega]; exact hc)]
            · rw [if_neg e, show min 8 (n + 1 - 8 * j) = min 8 (n - 8 * j) by omega]
          · refine ih (n + 1) _ _ ⟨by omega, hR, hS, ?_, e1⟩ (by omega) ⟨rfl, rfl, rfl, congrArg (Value.int .i64) (wsucc (by omega)), trivial⟩
            rw [hO]
            refine congrArg (fun z => some (z, 32)) (fnv_ext fun j hj => ?_)
            by_cases e : j = n / 8
            · subst e
              rw [show min 8 (n + 1 - 8 * (n / 8)) = n % 8 + 1 by omega, show min 8 (n - 8 * (n / 8)) = n % 8 by omega]
              conv => rhs; unfold byB
              rw [if_neg (by rw [show 8 * (n / 8) + n % 8 = n by omega, hc]; decide)]
            · rw [show min 8 (n + 1 - 8 * j) = min 8 (n - 8 * j) by omega]
        · have : n = 256 := by omega
          subst this
          refine LoadX.fnA (sz := 32) hO 0 rfl (by decide) ?_; conv => whnf
          have hfin : (fnv 32 fun i => Value.int .u8 ((byB S (0 + i) (min 8 (256 - 8 * (0 + i))) : Nat) : Int)) = bcells (outB S) := by
            unfold bcells outB fnv
            rw [List.map_map]
            refine List.map_congr_left fun j hj => ?_
            have := List.mem_range.1 hj
            show Value.int .u8 _ = Value.int .u8 _
            rw [Nat.zero_add, show min 8 (256 - 8 * j) = 8 by omega]
          erw [hfin]
          refine Ob.mk ⟨by rw [List.size_toArray, bcells_length, outB_len]; rfl, ones_bcells _⟩ ?_; conv => whnf
          refine StoreX.at hR (by rw [List.toList_toArray, bcells_length, outB_len]; exact Nat.le_of_ble_eq_true rfl) ?_; conv => whnf
          rw [List.toList_toArray, setSeg_all (by rw [bcells_length, outB_len]; rfl)]
          refine LoadX.arr (hput_same ..) (outB_len S) ?_; conv => whnf
          exact RetX.drop (Ext.keep e1 hr00) hk
end
end Go.Proofs.YgvalwGreat.X
