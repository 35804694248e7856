import Derived.Test.YgvalwGreatF8
set_option linter.unusedVariables false
set_option linter.unusedSimpArgs false
namespace Go.Proofs.YgvalwGreat.X
open Go

/-- n digits of a number, the least first; and the most significant first. -/
def le : Nat → Int → List Int
  | 0, _ => []
  | n + 1, x => x % 256 :: le n (x / 256)
def be (n : Nat) (x : Int) : List Int := (le n x).reverse
/-- The value of bytes, the most significant first. -/
def bv (l : List Int) : Int := dv l.reverse

theorem le_length (n : Nat) (x : Int) : (le n x).length = n := by
  induction n generalizing x with
  | zero => rfl
  | succ n ih => simp [le, ih]
theorem be_length (n : Nat) (x : Int) : (be n x).length = n := by simp [be, le_length]
theorem isB_le (n : Nat) (x : Int) : isB (le n x) := by
  induction n generalizing x with
  | zero => intro d hd; cases hd
  | succ n ih =>
    intro d hd
    rcases List.mem_cons.1 hd with h1 | h1
    · omega
    · exact ih _ d h1
theorem isB_rev {l : List Int} (h : isB l) : isB l.reverse := fun d hd => h d (List.mem_reverse.1 hd)
theorem isB_be (n : Nat) (x : Int) : isB (be n x) := isB_rev (isB_le n x)
theorem le_dv {l : List Int} (hb : isB l) : le l.length (dv l) = l := by
  induction l with
  | nil => rfl
  | cons d l ih =>
    have h1 := hb d (List.mem_cons_self ..)
    simp only [List.length_cons, le, dv]
    rw [show (d + 256 * dv l) % 256 = d by omega, show (d + 256 * dv l) / 256 = dv l by omega, ih (fun x hx => hb x (List.mem_cons_of_mem _ hx))]
theorem dv_le {n : Nat} {x : Int} (h0 : 0 ≤ x) (h1 : x < 256 ^ n) : dv (le n x) = x := by
  induction n generalizing x with
  | zero => simp at h1; simp [le, dv]; omega
  | succ n ih =>
    rw [Int.pow_succ] at h1
    simp only [le, dv]
    rw [ih (by omega) (Int.ediv_lt_of_lt_mul (by decide) h1)]
    omega
theorem be_bv {l : List Int} (hb : isB l) : be l.length (bv l) = l := by
  have := le_dv (isB_rev hb)
  rw [List.length_reverse] at this
  unfold be bv
  rw [this, List.reverse_reverse]
theorem bv_be {n : Nat} {x : Int} (h0 : 0 ≤ x) (h1 : x < 256 ^ n) : bv (be n x) = x := by
  unfold be bv
  rw [List.reverse_reverse, dv_le h0 h1]
theorem getD_rev {l : List Int} {j : Nat} (hj : j < l.length) : l.reverse.getD j 0 = l.getD (l.length - 1 - j) 0 := by
  simp [List.getElem?_reverse hj]

theorem getD_zeros (n j : Nat) : (List.replicate n (0 : Int)).getD j 0 = 0 := by
  by_cases hj : j < n
  · simp [hj]
  · simp [hj]

theorem LoadX.arr {h : Hp} {b sz : Nat} {l : List Int} {t : TypeId} {KK : Value → Prop} (hb : h b = some (bcells l, t)) (hl : l.length = sz) (hk : KK (.agg (bcells l).toArray)) : LoadX true sz h b 0 KK := by
  refine ⟨_, ?_, hk⟩
  have : (bcells l).length = sz := by rw [bcells_length, hl]
  simp [ldV, hb, this, seg, List.take_of_length_le]

theorem setSeg_all {c vs : List Value} (h : c.length = vs.length) : setSeg c 0 vs = vs := by simp [setSeg, h]

set_option maxRecDepth 100000 in
theorem fromBE_ok {h : Hp} {K : Value → Hp → Prop} {base : Option Addr} {len cap : Nat} {l : List Int} (hb : Byt h base len cap l)
    (hk : ∀ b n c h', Ext h h' → Nt h' b n c (bv l) → K (.slice b n c) h') : CallX Hval.prog 39 [.slice base len cap] h K := by
  refine CallX.of_xf T_ok Hval.func39 rfl (by kernel_rfl) (Nat.le_of_ble_eq_true rfl) ?_; conv => whnf
  have hlen := hb.len
  have hroom := hb.room
  refine LoopX.st T_ok Hval.func39 (σ := Nat) (fun k => [(0, .slice base len cap), (3, .int .i64 k)]) (fun k h' => h' = h ∧ k ≤ len ∧ ∀ j, j < k → l.getD j 0 = 0) (fun k => len - k) 0
    ⟨rfl, rfl, trivial⟩ ⟨rfl, Nat.zero_le _, fun j hj => by omega⟩ ?_
  rintro k ρ h' ⟨rfl, hkl, hz⟩ ih
  conv => whnf
  have hrev : ∀ j, len - k ≤ j → l.reverse.getD j 0 = 0 := by
    intro j hj
    by_cases hjl : j < l.length
    · rw [getD_rev hjl]; exact hz _ (by omega)
    · exact getD_nil (by simp; omega)
  have fin : len ≤ k → K (.slice none 0 0) h' := by
    intro hge
    refine hk _ _ _ _ (Ext.refl _) ?_
    have : bv l = 0 := dv_zeros fun j => hrev j (by omega)
    rw [this]; exact Nt_nil _
  refine CondX.mk (fun hp => ?_) (fun hp => ?_) <;> conv => whnf
  · have hp : k < len := by have := of_decide_eq_true hp; omega
    refine CondX.tt ?_; conv => whnf
    refine CondX.tt ?_; conv => whnf
    refine IdxX.rd hb.rd (by omega) (by omega) fun b1 o1 e1 _ => ?_; conv => whnf
    refine CondX.tt ?_; conv => whnf
    refine LoadX.byte hb e1 k rfl (by omega) rfl ?_; conv => whnf
    refine CondX.tt ?_; conv => whnf
    refine CondX.mk (fun hq => ?_) (fun hq => ?_) <;> conv => whnf
    · have hq : l.getD k 0 = 0 := by simpa using hq
      refine ih (k + 1) _ _ ⟨rfl, by omega, fun j hj => ?_⟩ (by omega) ⟨rfl, ?_, trivial⟩
      · by_cases hjk : j = k
        · subst hjk; exact hq
        · exact hz j (by omega)
      · exact congrArg (Value.int .i64) (wsucc (by omega))
    · have hq : l.getD k 0 ≠ 0 := by simpa using hq
      refine CondX.mk (fun hr => ?_) (fun hr => ?_) <;> conv => whnf
      · have hr := eq_of_beq hr
        omega
      have hsub : IntKind.i64.wrap ((len : Int) - (k : Int)) = ((len - k : Nat) : Int) := by rw [wrap_i64 (by omega) (by omega)]; omega
      rw [hsub]
      refine MakeX.bytes (len - k) rfl (by omega) fun m hm => ?_; conv => whnf
      refine LoopX.st T_ok Hval.func39 (σ := Nat × List Int) (fun s => [(0, .slice base len cap), (4, .slice (some ⟨m, 0, none⟩) (len - k) (len - k)), (29, .int .i64 ((len - k : Nat) : Int)), (30, .int .i64 s.1)])
        (fun s h2 => s.1 ≤ len - k ∧ s.2.length = len - k ∧ isB s.2 ∧ h2 = hput h' m (bcells s.2, 5) ∧ ∀ j, j < s.1 → s.2.getD j 0 = l.reverse.getD j 0) (fun s => len - k - s.1) (0, List.replicate (len - k) 0)
        ⟨rfl, rfl, rfl, rfl, trivial⟩ ⟨Nat.zero_le _, by simp, isB_zeros _, rfl, fun j hj => by simp at hj⟩ ?_
      rintro ⟨i, o⟩ ρ2 h2 ⟨hi, hol, hob, rfl, heq⟩ ih2
      simp only at hi hol hob heq ⊢
      conv => whnf
      have hb' := hb.ext (Ext.bd (x := (bcells o, 5)) hm)
      refine CondX.mk (fun hc => ?_) (fun hc => ?_) <;> conv => whnf
      · have hc : i < len - k := by have := of_decide_eq_true hc; omega
        have hw : IntKind.i64.wrap (IntKind.i64.wrap ((len : Int) - 1) - (i : Int)) = ((len - 1 - i : Nat) : Int) := by
          rw [wrap_i64 (x := (len : Int) - 1) (by omega) (by omega), wrap_i64 (by omega) (by omega)]; omega
        rw [hw]
        refine IdxX.rd hb'.rd (by omega) (by omega) fun b2 o2 e2 _ => ?_; conv => whnf
        refine LoadX.byte hb' e2 (len - 1 - i) rfl (by omega) rfl ?_; conv => whnf
        refine IdxX.at (by omega) (by omega) ?_; conv => whnf
        refine StoreX.bix i rfl rfl (by omega) ?_; conv => whnf
        have gd := hb.isB.get (len - 1 - i)
        refine ih2 (i + 1, o.set i (l.getD (len - 1 - i) 0)) _ _ ⟨by dsimp only; omega, by simp [hol], hob.set gd.1 gd.2, rfl, ?_⟩ (by dsimp only; omega) ⟨rfl, rfl, rfl, ?_, trivial⟩
        · intro j hj
          dsimp only at hj ⊢
          by_cases hji : j = i
          · subst hji; rw [getD_set_same (by omega), getD_rev (by omega), hlen]
          · rw [getD_set_other hji]; exact heq j (by omega)
        · exact congrArg (Value.int .i64) (wsucc (by omega))
      · have hc : i = len - k := by have := of_decide_eq_false hc; omega
        subst hc
        refine RetX.same (hk _ _ _ _ (Ext.bd hm) ?_)
        have ho : o = l.reverse.take (len - k) := dv_ext (by simp; omega) fun j hj => by
          rw [heq j (by omega)]
          simp [List.getElem?_take_of_lt (show j < len - k by omega)]
        refine ⟨o, own_all hob (by omega) (by omega), ?_, ?_⟩
        · rw [ho, dv_take hrev]; rfl
        · unfold Tr
          rw [hol]
          have : o.getD (len - k - 1) 0 = l.getD k 0 := by
            rw [heq _ (by omega), getD_rev (by omega)]
            congr 1; omega
          have hlt : len - k - 1 < o.length := by omega
          simp [List.getElem?_eq_getElem hlt] at this ⊢
          rw [this]; simpa using hq
  · have hp : len ≤ k := by have := of_decide_eq_false hp; omega
    repeat (first | (refine CondX.tt ?_; conv => whnf) | (refine CondX.ff ?_; conv => whnf))
    refine CondX.mk (fun hr => ?_) (fun hr => ?_) <;> conv => whnf
    · exact RetX.same (fin hp)
    · have hr := ne_of_beq_false hr
      omega

set_option maxRecDepth 100000 in
theorem be32_ok {h : Hp} {K : Value → Hp → Prop} {base : Option Addr} {len cap : Nat} {l : List Int} (hb : Byt h base len cap l) (hx : dv l < 256 ^ 32)
    (hk : K (.tuple #[.agg (bcells (be 32 (dv l))).toArray, .bool true]) h) : CallX Hval.prog 111 [.slice base len cap] h K := by
  refine CallX.of_xf T_ok Hval.func111 rfl (by kernel_rfl) (Nat.le_of_ble_eq_true rfl) ?_; conv => whnf
  refine BoxX.mk fun m1 hm1 => ?_; conv => whnf
  refine BoxX.on fun m2 hm2 hbd2 => ?_; conv => whnf
  have hE : Ext h (hput (hput h m1 ((32, y32).snd.zero, 32)) m2 ((32, y32).snd.zero, 32)) := (Ext.bd hm1).trans (Ext.bd hbd2)
  refine trim_ok (hb.ext hE) fun k A hkl hAe hA hda hta => ?_; conv => whnf
  have hA : Byt h base k k A := by
    have := hb.pre (k := k) (m := k) hkl (Nat.le_refl _) (by have := hb.le; omega)
    rwa [← hAe] at this
  have hla := hA.len
  have hra := hA.room
  have hk32 : k ≤ 32 := by
    rcases Nat.lt_or_ge 32 k with h1 | h1
    · have h2 := pow_le_dv hA.isB hta (by rintro rfl; simp at hla; omega)
      obtain ⟨j, hj⟩ : ∃ j, A.length - 1 = 32 + j := ⟨A.length - 1 - 32, by omega⟩
      rw [hj, Int.pow_add] at h2
      have h4 : (0 : Int) < 256 ^ j := Int.pow_pos (by decide)
      have h5 : (0 : Int) < 256 ^ 32 := Int.pow_pos (by decide)
      have := Int.mul_le_mul_of_nonneg_left (show (1 : Int) ≤ 256 ^ j by omega) (show (0 : Int) ≤ 256 ^ 32 by omega)
      omega
    · exact h1
  refine CondX.neg (by simp; omega) ?_; conv => whnf
  refine LoopX.st T_ok Hval.func111 (σ := Nat × List Int) (fun s => [(0, .slice base k k), (2, .pointer (some ⟨m1, 0, none⟩)), (4, .pointer (some ⟨m2, 0, none⟩)), (13, .slice base k k), (14, .int .i64 k), (15, .int .i64 s.1)])
    (fun s h' => s.1 ≤ k ∧ s.2.length = 32 ∧ isB s.2 ∧ h' = hput (hput h m1 ((32, y32).snd.zero, 32)) m2 (bcells s.2, 32) ∧ ∀ j, j < 32 → s.2.getD (31 - j) 0 = if j < s.1 then A.getD j 0 else 0) (fun s => k - s.1) (0, List.replicate 32 0)
    ⟨rfl, rfl, rfl, rfl, rfl, rfl, trivial⟩ ⟨Nat.zero_le _, by simp, isB_zeros _, rfl, fun j hj => ?_⟩ ?_
  · rw [getD_zeros]; simp
  rintro ⟨i, o⟩ ρ h' ⟨hi, hol, hob, rfl, heq⟩ ih
  simp only at hi hol hob heq ⊢
  conv => whnf
  have hA' := hA.ext ((Ext.bd hm1).trans (Ext.bd (x := (bcells o, 32)) hbd2))
  refine CondX.mk (fun hc => ?_) (fun hc => ?_) <;> conv => whnf
  · have hc : i < k := by have := of_decide_eq_true hc; omega
    refine IdxX.rd hA'.rd (by omega) (by omega) fun b2 o2 e2 _ => ?_; conv => whnf
    refine LoadX.byte hA' e2 i rfl (by omega) rfl ?_; conv => whnf
    have hw : IntKind.i64.wrap ((31 : Int) - (i : Int)) = ((31 - i : Nat) : Int) := by rw [wrap_i64 (by omega) (by omega)]; omega
    rw [hw]
    refine Ob.mk (by first | decide | omega) ?_; conv => whnf
    refine StoreX.bix (31 - i) rfl rfl (by omega) ?_; conv => whnf
    have gd := hA.isB.get i
    refine ih (i + 1, o.set (31 - i) (A.getD i 0)) _ _ ⟨by dsimp only; omega, by simp [hol], hob.set gd.1 gd.2, rfl, ?_⟩ (by dsimp only; omega) ⟨rfl, rfl, rfl, rfl, rfl, ?_, trivial⟩
    · intro j hj
      dsimp only
      by_cases hji : j = i
      · subst hji; rw [getD_set_same (by omega), if_pos (by omega)]
      · rw [getD_set_other (by omega), heq j hj]
        by_cases h1 : j < i
        · rw [if_pos h1, if_pos (by omega)]
        · rw [if_neg h1, if_neg (by omega)]
    · exact congrArg (Value.int .i64) (wsucc (by omega))
  · have hc : i = k := by have := of_decide_eq_false hc; omega
    subst hc
    have ho : o = be 32 (dv l) := by
      have h1 : dv o.reverse = dv A := by
        rw [← pd_dv o.reverse (i := 32) (by simp [hol]), ← pd_dv A (i := 32) (by omega)]
        refine pd_congr fun j hj => ?_
        rw [getD_rev (by omega), hol, heq j hj]
        by_cases h1 : j < i
        · rw [if_pos h1]
        · rw [if_neg h1, getD_nil (by omega)]
      have h2 := be_bv hob
      unfold bv at h2
      rw [h1, hda, hol] at h2
      exact h2.symm
    subst ho
    refine LoadX.arr (hput_same ..) (be_length ..) ?_; conv => whnf
    refine Ob.mk ⟨by rw [List.size_toArray, bcells_length, be_length]; rfl, ones_bcells _⟩ ?_; conv => whnf
    refine StoreX.ne (by omega) (StoreX.same (by rw [List.toList_toArray, bcells_length, be_length]; decide) ?_); conv => whnf
    rw [setSeg_all (by rw [List.toList_toArray, bcells_length, be_length]; rfl)]
    refine LoadX.arr (b := m1) (l := be 32 (dv l)) (t := 32) ?_ (be_length ..) ?_
    · rw [hput_ne (by omega), hput_same]
    conv => whnf
    refine RetX.drop (h' := h) (fun b x hb => ?_) hk
    have := hm1 b x hb
    rw [hput_ne (by omega), hput_ne (by omega)]; exact hb
end Go.Proofs.YgvalwGreat.X
