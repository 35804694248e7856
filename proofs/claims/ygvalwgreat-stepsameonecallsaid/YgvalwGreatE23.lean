import Derived.Test.YgvalwGreatEA
set_option linter.unusedVariables false
set_option linter.unusedSimpArgs false
namespace Go.Proofs.YgvalwGreat.X
open Go

section
variable {h : Hp} {K : Value → Hp → Prop} {l lB : List Int} {mx : Nat} {tx : TypeId}
theorem ClearX.ul {z : List Value} {m n : Nat} {t : TypeId} {l : List Int} {KK : Hp → Prop} (hb : h m = some (X.ul l, t)) (hl : l.length = n) (hn : n ≠ 0) (hz : z = [.int .u64 0]) (hk : KK (hput h m (X.ul (List.replicate n 0), t))) : ClearX h z (some ⟨m, 0, none⟩) n KK := by
  subst hz
  have e : zeros [Value.int .u64 0] n = X.ul (List.replicate n 0) := by
    unfold zeros X.ul
    induction n with
    | zero => rfl
    | succ n ih => rw [List.replicate_succ, List.replicate_succ, List.flatten_cons, List.map_cons]; exact congrArg _ (by
        clear hk hb hl hn ih
        induction n with
        | zero => rfl
        | succ n ih => rw [List.replicate_succ, List.replicate_succ, List.flatten_cons, List.map_cons, ih]; rfl)
  refine ⟨fun h0 => absurd h0 hn, fun _ => ⟨X.ul l, t, hb, ?_, ?_, ?_⟩⟩
  · rw [e, ul_len, ul_len, hl]; simp
  · rw [e]; exact ones_ul _
  · rw [e, setSeg_all (by rw [ul_len, ul_len, hl]; simp)]; exact hk
theorem isL_zeros (n : Nat) : isL (List.replicate n 0) := fun d hd => by rw [(List.mem_replicate.1 hd).2]; unfold U; omega
theorem lv_rep (n : Nat) : lv (List.replicate n 0) = 0 := lv_zeros fun i => by
  rw [List.getD_eq_getElem?_getD, List.getElem?_replicate]; split <;> rfl
theorem CopyX.ul {m m' n n' : Nat} {t t' : TypeId} {l l' : List Int} {KK : Value → Hp → Prop} (hb : h m = some (X.ul l, t)) (hb' : h m' = some (X.ul l', t')) (hl : l.length = 9) (hl' : l'.length = 8) (hn : n = 9) (hn' : n' = 8) (hk : KK (.int .i64 8) (hput h m (X.ul (l' ++ l.drop 8), t))) : CopyX h 1 (some ⟨m, 0, none⟩) n (some ⟨m', 0, none⟩) n' KK := by
  subst hn hn'
  refine ⟨X.ul l', ?_, X.ul l, t, hb, ?_, ones_ul _, ?_⟩
  · have : Nat.min 8 9 * 1 = 8 := rfl
    rw [this]
    simp only [rd, hb']
    rw [if_pos (by rw [ul_len, hl']; decide)]
    have e : (X.ul l').length = 8 := by rw [ul_len, hl']
    rw [← e]; exact congrArg some (by simp [seg])
  · rw [ul_len, ul_len, hl, hl']; decide
  · have e : setSeg (X.ul l) 0 (X.ul l') = X.ul (l' ++ l.drop 8) := by
      unfold setSeg
      rw [List.take_zero, List.nil_append, ul_len, hl', Nat.zero_add]
      unfold X.ul
      rw [List.map_append, List.map_drop]
    rw [e]; exact hk
set_option maxRecDepth 100000 in
set_option maxHeartbeats 4000000 in
theorem divide_ok (hb : h mx = some (ul l, tx)) (hl : l.length = 8) (hL : isL l) (hlB : lB.length = 4) (hLB : isL lB)
    (hk : ∀ (l' : List Int) (r a1 a2 a3 : Int), l'.length = 8 → isL l' → 0 ≤ r → r < W → (lv lB = 0 → lv l' = 0 ∧ r = 0) → (lv lB ≠ 0 → lv l = lv l' * lv lB + r ∧ r < lv lB) → K (.tuple #[.agg (wc r).toArray, .agg #[.int .u8 a1, .int .u8 a2, .int .u8 a3]]) (hput h mx (ul l', tx))) :
    CallX Hval.prog 380 [.pointer (some ⟨mx, 0, none⟩), .agg (ul lB).toArray] h K := by
  refine CallX.of_xf T_ok Hval.func380 rfl (by kernel_rfl) (Nat.le_of_ble_eq_true rfl) ?_; conv => whnf
  refine BoxX.mk fun m3 hm3 => ?_; conv => whnf
  refine BoxX.on fun m4 h34 hm4 => ?_; conv => whnf
  refine BoxX.on fun m5 h45 hm5 => ?_; conv => whnf
  have hx3 : mx < m3 := hm3 mx _ hb
  obtain ⟨h0, hh0⟩ : ∃ h0 : Hp, h0 = hput (hput (hput h m3 (ul lB, 75)) m4 ((75, y75).snd.zero, 75)) m5 ((378, y378).snd.zero, 378) := ⟨_, rfl⟩
  have p3 : h0 m3 = some (ul lB, 75) := by rw [hh0, hput_ne (by omega), hput_ne (by omega), hput_same]
  have p4 : h0 m4 = some (ul [0, 0, 0, 0], 75) := by rw [hh0, hput_ne (by omega), hput_same]; rfl
  have p5 : h0 m5 = some ([.int .u8 0, .int .u8 0, .int .u8 0], 378) := by rw [hh0, hput_same]; rfl
  have px : h0 mx = some (ul l, tx) := by rw [hh0, hput_ne (by omega), hput_ne (by omega), hput_ne (by omega)]; exact hb
  have hold : ∀ b z, h b = some z → h0 b = some z ∧ b < m3 := fun b z hbz => by
    have := hm3 b z hbz
    rw [hh0, hput_ne (by omega), hput_ne (by omega), hput_ne (by omega)]; exact ⟨hbz, this⟩
  erw [← hh0]
  refine LoadX.all (c := ul lB) p3 (by rw [ul_len, hlB]; rfl) ?_; conv => whnf
  refine eLimbs_ok hlB fun n hUB => ?_; conv => whnf
  have hBbd := hUB.bd hLB
  refine CondX.eqI (fun hn0 => ?_) (fun hn0 => ?_) <;> conv => whnf
  · have hn0 : n = 0 := by omega
    subst hn0
    refine ClearX.ul (l := l) (m := mx) (n := 8) px hl (by decide) rfl ?_; conv => whnf
    obtain ⟨hF, hhF⟩ : ∃ hF : Hp, hF = hput h0 mx (ul (List.replicate 8 0), tx) := ⟨_, rfl⟩
    rw [← hhF]
    obtain ⟨LQ, hLQ⟩ : ∃ LQ : List Int, LQ = List.replicate 8 0 := ⟨_, rfl⟩
    have fx : hF mx = some (ul LQ, tx) := by rw [hhF, hput_same, hLQ]
    have f4 : hF m4 = some (ul [0, 0, 0, 0], 75) := by rw [hhF, hput_ne (by omega)]; exact p4
    obtain ⟨a1, a2, a3, f5⟩ : ∃ a1 a2 a3 : Int, hF m5 = some ([.int .u8 a1, .int .u8 a2, .int .u8 a3], 378) := ⟨0, 0, 0, by rw [hhF, hput_ne (by omega)]; exact p5⟩
    have fk : ∀ b z, h b = some z → b ≠ mx → hF b = some z := fun b z hbz hbx => by rw [hhF, hput_ne hbx]; exact (hold b z hbz).1
    have hR4 : ([0, 0, 0, 0] : List Int).length = 4 := rfl
    have hRL : isL [0, 0, 0, 0] := isL_zeros 4
    have hQ8 : LQ.length = 8 := by rw [hLQ]; rfl
    have hQL : isL LQ := by rw [hLQ]; exact isL_zeros 8
    have hB0 : lv lB = 0 := by rw [hUB.lv, List.take_zero]; rfl
    have hfin0 : lv lB = 0 → lv LQ = 0 ∧ lv [0, 0, 0, 0] = 0 := fun _ => ⟨by rw [hLQ]; exact lv_rep 8, rfl⟩
    have hfin1 : lv lB ≠ 0 → lv l = lv LQ * lv lB + lv [0, 0, 0, 0] ∧ lv [0, 0, 0, 0] < lv lB := fun hh => absurd hB0 hh
    have ld4 : ldV true 4 hF m4 0 = some (.agg (ul [0, 0, 0, 0]).toArray) := by
      obtain ⟨v, q1, q2⟩ := (LoadX.all (n := 4) (KK := fun v => v = .agg (ul [0, 0, 0, 0]).toArray) f4 (by rw [ul_len, hR4]) rfl).run
      rw [q1, q2]
    have ld5 : ldV true 3 hF m5 0 = some (.agg #[.int .u8 a1, .int .u8 a2, .int .u8 a3]) := by
      obtain ⟨v, q1, q2⟩ := (LoadX.all (n := 3) (KK := fun v => v = .agg #[.int .u8 a1, .int .u8 a2, .int .u8 a3]) f5 rfl rfl).run
      rw [q1, q2]
    have id4 : hput hF m4 (setSeg (ul [0, 0, 0, 0]) 0 (ul [0, 0, 0, 0]), 75) = hF := by rw [setSeg_all rfl]; exact hput_id f4
    have id5 : hput hF m5 ([.int .u8 a1, .int .u8 a2, .int .u8 a3], 378) = hF := hput_id f5
    refine DrawX.go T_ok hM Hval.func380 (tb := dr380) rfl (by kernel_rfl) ?_; conv => whnf
    refine LoadX.of _ ld4 ?_; conv => whnf
    refine LoadX.of _ ld5 ?_; conv => whnf
    refine Ob.mk ⟨by rw [List.size_toArray, ul_len, hR4]; rfl, ones_ul _⟩ ?_; conv => whnf
    refine StoreX.at f4 (by rw [List.toList_toArray]; omega) ?_; conv => whnf
    erw [id4]
    repeat (refine Ob.mk (by first | exact ld4 | exact ld5 | exact ⟨rfl, rfl⟩) ?_; conv => whnf)
    refine StoreX.at f5 (Nat.le_of_ble_eq_true rfl) ?_; conv => whnf
    erw [id5]
    repeat (refine Ob.mk (by first | exact ld4 | exact ld5 | exact ⟨rfl, rfl⟩) ?_; conv => whnf)
    refine LoadX.of _ ld4 ?_; conv => whnf
    refine LoadX.of _ ld5 ?_; conv => whnf
    rw [ul_wc hR4 hRL]
    refine RetX.drop (h' := hput h mx (ul LQ, tx)) (fun b z hb' => ?_) (hk LQ (lv [0, 0, 0, 0]) a1 a2 a3 hQ8 hQL (lv_bd hRL).1 (by have := (lv_bd hRL).2; rw [hR4] at this; exact this) hfin0 hfin1)
    by_cases hbx : b = mx
    · subst hbx; rw [hput_same] at hb'; rw [fx]; exact hb'
    · rw [hput_ne hbx] at hb'; exact fk b z hb' hbx
  have hn1 : 1 ≤ n := by omega
  have hn4 : n ≤ 4 := by have := hUB.le; omega
  have hBp : lv lB ≠ 0 := by
    have := hBbd.2 (by omega)
    have : (0 : Int) < 18446744073709551616 ^ (n - 1) := Int.pow_pos (by decide)
    omega
  have pxx : h0 mx = some ([] ++ (ul l ++ []), tx) := by rw [px]; simp
  refine LoopX.st T_ok Hval.func380 (σ := Nat) (fun i => [(0, .pointer (some ⟨mx, 0, none⟩)), (3, .pointer (some ⟨m3, 0, none⟩)), (4, .pointer (some ⟨m4, 0, none⟩)), (5, .pointer (some ⟨m5, 0, none⟩)), (6, .int .u8 n), (7, .int .u8 i)]) (fun i h' => h0 = h' ∧ i ≤ 8 ∧ ∀ k, i ≤ k → l.getD k 0 = 0) (fun i => i) 8 ⟨rfl, rfl, rfl, rfl, rfl, rfl, trivial⟩ ⟨rfl, Nat.le_refl _, fun k hk => by rw [List.getD_eq_getElem?_getD, List.getElem?_eq_none (by omega)]; rfl⟩ ?_
  rintro top ρ h' ⟨rfl, hi, hz⟩ ih
  conv => whnf
  refine CondX.decI (fun hc => ?_) (fun hc => ?_) <;> conv => whnf
  · repeat (first | (refine CondX.tt ?_; conv => whnf) | (refine CondX.ff ?_; conv => whnf))
    have e4 : IntKind.u8.wrap (((top : Nat) : Int) - 1) = ((top - 1 : Nat) : Int) := by rw [wrap_u8]; omega
    rw [e4]
    refine Ob.mk (by omega) ?_; conv => whnf
    repeat (first | (refine CondX.tt ?_; conv => whnf) | (refine CondX.ff ?_; conv => whnf))
    refine LoadX.lim pxx (top - 1) (by rw [Int.toNat_natCast, show (24, y24).snd.size = 1 from rfl, Nat.mul_one]; simp) (by omega) ?_; conv => whnf
    repeat (first | (refine CondX.tt ?_; conv => whnf) | (refine CondX.ff ?_; conv => whnf))
    refine CondX.eqI (fun hq => ?_) (fun hq => ?_) <;> conv => whnf
    · rw [e4]
      refine ih (top - 1) _ _ ⟨rfl, by omega, fun k hk => ?_⟩ (by omega) ⟨rfl, rfl, rfl, rfl, rfl, rfl, trivial⟩
      by_cases hki : k = top - 1
      · rw [hki]; exact hq
      · exact hz k (by omega)
    · clear ih
      have hUl : Used l top := ⟨by omega, hz, fun _ => hq⟩
      have htopb := hUl.bd hL
      refine CondX.decI (fun htn => ?_) (fun htn => ?_) <;> conv => whnf
      · repeat (refine Ob.mk (by first | decide | omega) ?_; conv => whnf)
        have ldx : ldV true 4 h0 mx 0 = some (.agg (ul (l.take 4)).toArray) := by
          simp only [ldV, px]
          rw [if_pos (by rw [ul_len, hl]; decide)]
          simp [seg, ul, List.map_take]
        refine LoadX.of _ ldx ?_; conv => whnf
        have hR4 : (l.take 4).length = 4 := by simp; omega
        have hRL : isL (l.take 4) := fun x hx => hL x (List.mem_of_mem_take hx)
        refine Ob.mk ⟨by rw [List.size_toArray, ul_len, hR4]; rfl, ones_ul _⟩ ?_; conv => whnf
        refine StoreX.at p4 (by rw [List.toList_toArray, ul_len, ul_len, hR4]; decide) ?_; conv => whnf
        rw [setSeg_all (by rw [List.toList_toArray, ul_len, ul_len, hR4]; rfl), List.toList_toArray]
        refine ClearX.ul (l := l) (m := mx) (n := 8) (by rw [hput_ne (by omega)]; exact px) hl (by decide) rfl ?_; conv => whnf
        obtain ⟨hF, hhF⟩ : ∃ hF : Hp, hF = hput (hput h0 m4 (ul (l.take 4), 75)) mx (ul (List.replicate 8 0), tx) := ⟨_, rfl⟩
        rw [← hhF]
        obtain ⟨LQ, hLQ⟩ : ∃ LQ : List Int, LQ = List.replicate 8 0 := ⟨_, rfl⟩
        have fx : hF mx = some (ul LQ, tx) := by rw [hhF, hput_same, hLQ]
        have f4 : hF m4 = some (ul (l.take 4), 75) := by rw [hhF, hput_ne (by omega), hput_same]
        obtain ⟨a1, a2, a3, f5⟩ : ∃ a1 a2 a3 : Int, hF m5 = some ([.int .u8 a1, .int .u8 a2, .int .u8 a3], 378) := ⟨0, 0, 0, by rw [hhF, hput_ne (by omega), hput_ne (by omega)]; exact p5⟩
        have fk : ∀ b z, h b = some z → b ≠ mx → hF b = some z := fun b z hbz hbx => by
          have := (hold b z hbz).2
          rw [hhF, hput_ne hbx, hput_ne (by omega)]; exact (hold b z hbz).1
        have hQ8 : LQ.length = 8 := by rw [hLQ]; rfl
        have hQL : isL LQ := by rw [hLQ]; exact isL_zeros 8
        have hfin0 : lv lB = 0 → lv LQ = 0 ∧ lv (l.take 4) = 0 := fun hh => absurd hh hBp
        have hl4 : lv l = lv (l.take 4) := by
          have e : l = l.take 4 ++ l.drop 4 := (List.take_append_drop 4 l).symm
          rw [show lv l = lv (l.take 4 ++ l.drop 4) from congrArg lv e, lv_append, lv_zeros (l := l.drop 4) fun i => by
            rw [List.getD_eq_getElem?_getD, List.getElem?_drop, ← List.getD_eq_getElem?_getD]; exact hz _ (by omega)]
          omega
        have hfin1 : lv lB ≠ 0 → lv l = lv LQ * lv lB + lv (l.take 4) ∧ lv (l.take 4) < lv lB := fun _ => by
          rw [hLQ, lv_rep, Int.zero_mul, Int.zero_add, hl4]
          refine ⟨rfl, ?_⟩
          rw [← hl4]
          have h1 : (18446744073709551616 : Int) ^ top ≤ 18446744073709551616 ^ (n - 1) := powB_mono (by omega)
          have h2 := hBbd.2 (by omega)
          omega
        have ld4 : ldV true 4 hF m4 0 = some (.agg (ul (l.take 4)).toArray) := by
          obtain ⟨v, q1, q2⟩ := (LoadX.all (n := 4) (KK := fun v => v = .agg (ul (l.take 4)).toArray) f4 (by rw [ul_len, hR4]) rfl).run
          rw [q1, q2]
        have ld5 : ldV true 3 hF m5 0 = some (.agg #[.int .u8 a1, .int .u8 a2, .int .u8 a3]) := by
          obtain ⟨v, q1, q2⟩ := (LoadX.all (n := 3) (KK := fun v => v = .agg #[.int .u8 a1, .int .u8 a2, .int .u8 a3]) f5 rfl rfl).run
          rw [q1, q2]
        have id4 : hput hF m4 (setSeg (ul (l.take 4)) 0 (ul (l.take 4)), 75) = hF := by rw [setSeg_all rfl]; exact hput_id f4
        have id5 : hput hF m5 ([.int .u8 a1, .int .u8 a2, .int .u8 a3], 378) = hF := hput_id f5
        refine DrawX.go T_ok hM Hval.func380 (tb := dr380) rfl (by kernel_rfl) ?_; conv => whnf
        refine LoadX.of _ ld4 ?_; conv => whnf
        refine LoadX.of _ ld5 ?_; conv => whnf
        refine Ob.mk ⟨by rw [List.size_toArray, ul_len, hR4]; rfl, ones_ul _⟩ ?_; conv => whnf
        refine StoreX.at f4 (by rw [List.toList_toArray]; omega) ?_; conv => whnf
        erw [id4]
        repeat (refine Ob.mk (by first | exact ld4 | exact ld5 | exact ⟨rfl, rfl⟩) ?_; conv => whnf)
        refine StoreX.at f5 (Nat.le_of_ble_eq_true rfl) ?_; conv => whnf
        erw [id5]
        repeat (refine Ob.mk (by first | exact ld4 | exact ld5 | exact ⟨rfl, rfl⟩) ?_; conv => whnf)
        refine LoadX.of _ ld4 ?_; conv => whnf
        refine LoadX.of _ ld5 ?_; conv => whnf
        rw [ul_wc hR4 hRL]
        refine RetX.drop (h' := hput h mx (ul LQ, tx)) (fun b z hb' => ?_) (hk LQ (lv (l.take 4)) a1 a2 a3 hQ8 hQL (lv_bd hRL).1 (by have := (lv_bd hRL).2; rw [hR4] at this; exact this) hfin0 hfin1)
        by_cases hbx : b = mx
        · subst hbx; rw [hput_same] at hb'; rw [fx]; exact hb'
        · rw [hput_ne hbx] at hb'; exact fk b z hb' hbx
      have eR : IntKind.u8.wrap (IntKind.u8.wrap (((top : Nat) : Int) - ((n : Nat) : Int)) + 1) = ((top - n + 1 : Nat) : Int) := by rw [wrap_u8, wrap_u8]; omega
      rw [eR]
      refine StoreX.at p5 (Nat.le_of_ble_eq_true rfl) ?_; conv => whnf
      have e5 : setSeg [Value.int .u8 0, .int .u8 0, .int .u8 0] 0 [Value.int .u8 ((top - n + 1 : Nat) : Int)] = [Value.int .u8 ((top - n + 1 : Nat) : Int), .int .u8 0, .int .u8 0] := rfl
      erw [e5]
      refine CondX.eqI (fun hn1e => ?_) (fun hn1e => ?_) <;> conv => whnf
      · have hn1e : n = 1 := by omega
        subst hn1e
        repeat (refine Ob.mk (by first | decide | omega) ?_; conv => whnf)
        have p3' : hput h0 m5 ([Value.int .u8 ((top - 1 + 1 : Nat) : Int), .int .u8 0, .int .u8 0], 378) m3 = some ([] ++ (ul lB ++ []), 75) := by rw [hput_ne (by omega), p3]; simp
        refine LoadX.lim p3' 0 rfl (by omega) ?_; conv => whnf
        obtain ⟨y, hy⟩ := Int.eq_ofNat_of_zero_le (hLB.get 0).1
        have hy1 := (hLB.get 0).2
        have hy0 := hUB.top (by omega)
        have hBy : lv lB = y := by
          rw [hUB.lv, lv_take_succ (by omega), hy]; simp [lv]
        rw [show (1 - 1 : Nat) = 0 from rfl, hy] at hy0
        rw [hy] at hy1 ⊢
        refine short_ok (l := l) (by rw [hput_ne (by omega)]; exact px) hl hL hi hz (by omega) (by omega) fun l' r hl' hLl' hr er => ?_; conv => whnf
        repeat (refine Ob.mk (by first | decide | omega) ?_; conv => whnf)
        have p4' : hput (hput h0 m5 ([Value.int .u8 ((top - 1 + 1 : Nat) : Int), .int .u8 0, .int .u8 0], 378)) mx (ul l', tx) m4 = some ([] ++ (ul [0, 0, 0, 0] ++ []), 75) := by rw [hput_ne (by omega), hput_ne (by omega), p4]; simp
        refine StoreX.lim p4' 0 rfl (by decide) ?_; conv => whnf
        rw [List.nil_append, List.append_nil]
        obtain ⟨hF, hhF⟩ : ∃ hF : Hp, hF = hput (hput (hput h0 m5 ([Value.int .u8 ((top - 1 + 1 : Nat) : Int), .int .u8 0, .int .u8 0], 378)) mx (ul l', tx)) m4 (ul ([0, 0, 0, 0].set 0 (r : Int)), 75) := ⟨_, rfl⟩
        rw [← hhF]
        obtain ⟨LQ, hLQ⟩ : ∃ LQ : List Int, LQ = l' := ⟨_, rfl⟩
        have fx : hF mx = some (ul LQ, tx) := by rw [hhF, hput_ne (by omega), hput_same, hLQ]
        have f4 : hF m4 = some (ul [(r : Int), 0, 0, 0], 75) := by rw [hhF, hput_same]; rfl
        obtain ⟨a1, a2, a3, f5⟩ : ∃ a1 a2 a3 : Int, hF m5 = some ([.int .u8 a1, .int .u8 a2, .int .u8 a3], 378) := ⟨_, 0, 0, by rw [hhF, hput_ne (by omega), hput_ne (by omega), hput_same]⟩
        have fk : ∀ b z, h b = some z → b ≠ mx → hF b = some z := fun b z hbz hbx => by
          have := (hold b z hbz).2
          rw [hhF, hput_ne (by omega), hput_ne hbx, hput_ne (by omega)]; exact (hold b z hbz).1
        have hR4 : ([(r : Int), 0, 0, 0] : List Int).length = 4 := rfl
        have hRL : isL [(r : Int), 0, 0, 0] := fun d hd => by
          rcases List.mem_cons.1 hd with rfl | hd
          · unfold U; omega
          · exact isL_zeros 3 d hd
        have hQ8 : LQ.length = 8 := by rw [hLQ]; exact hl'
        have hQL : isL LQ := by rw [hLQ]; exact hLl'
        have hrv : lv [(r : Int), 0, 0, 0] = r := by simp [lv]
        have hfin0 : lv lB = 0 → lv LQ = 0 ∧ lv [(r : Int), 0, 0, 0] = 0 := fun hh => absurd hh hBp
        have hfin1 : lv lB ≠ 0 → lv l = lv LQ * lv lB + lv [(r : Int), 0, 0, 0] ∧ lv [(r : Int), 0, 0, 0] < lv lB := fun _ => by
          rw [hrv, hBy, hLQ]; exact ⟨er, by omega⟩
        have ld4 : ldV true 4 hF m4 0 = some (.agg (ul [(r : Int), 0, 0, 0]).toArray) := by
          obtain ⟨v, q1, q2⟩ := (LoadX.all (n := 4) (KK := fun v => v = .agg (ul [(r : Int), 0, 0, 0]).toArray) f4 (by rw [ul_len, hR4]) rfl).run
          rw [q1, q2]
        have ld5 : ldV true 3 hF m5 0 = some (.agg #[.int .u8 a1, .int .u8 a2, .int .u8 a3]) := by
          obtain ⟨v, q1, q2⟩ := (LoadX.all (n := 3) (KK := fun v => v = .agg #[.int .u8 a1, .int .u8 a2, .int .u8 a3]) f5 rfl rfl).run
          rw [q1, q2]
        have id4 : hput hF m4 (setSeg (ul [(r : Int), 0, 0, 0]) 0 (ul [(r : Int), 0, 0, 0]), 75) = hF := by rw [setSeg_all rfl]; exact hput_id f4
        have id5 : hput hF m5 ([.int .u8 a1, .int .u8 a2, .int .u8 a3], 378) = hF := hput_id f5
        refine DrawX.go T_ok hM Hval.func380 (tb := dr380) rfl (by kernel_rfl) ?_; conv => whnf
        refine LoadX.of _ ld4 ?_; conv => whnf
        refine LoadX.of _ ld5 ?_; conv => whnf
        refine Ob.mk ⟨by rw [List.size_toArray, ul_len, hR4]; rfl, ones_ul _⟩ ?_; conv => whnf
        refine StoreX.at f4 (by rw [List.toList_toArray]; omega) ?_; conv => whnf
        erw [id4]
        repeat (refine Ob.mk (by first | exact ld4 | exact ld5 | exact ⟨rfl, rfl⟩) ?_; conv => whnf)
        refine StoreX.at f5 (Nat.le_of_ble_eq_true rfl) ?_; conv => whnf
        erw [id5]
        repeat (refine Ob.mk (by first | exact ld4 | exact ld5 | exact ⟨rfl, rfl⟩) ?_; conv => whnf)
        refine LoadX.of _ ld4 ?_; conv => whnf
        refine LoadX.of _ ld5 ?_; conv => whnf
        rw [ul_wc hR4 hRL]
        refine RetX.drop (h' := hput h mx (ul LQ, tx)) (fun b z hb' => ?_) (hk LQ (lv [(r : Int), 0, 0, 0]) a1 a2 a3 hQ8 hQL (lv_bd hRL).1 (by have := (lv_bd hRL).2; rw [hR4] at this; exact this) hfin0 hfin1)
        by_cases hbx : b = mx
        · subst hbx; rw [hput_same] at hb'; rw [fx]; exact hb'
        · rw [hput_ne hbx] at hb'; exact fk b z hb' hbx
      have hn2 : 2 ≤ n := by omega
      refine BoxX.on fun m8 h58 hm8 => ?_; conv => whnf
      obtain ⟨h2, hh2⟩ : ∃ h2 : Hp, h2 = hput (hput h0 m5 ([Value.int .u8 ((top - n + 1 : Nat) : Int), .int .u8 0, .int .u8 0], 378)) m8 ((432, y432).snd.zero, 432) := ⟨_, rfl⟩
      erw [← hh2]
      have g8 : h2 m8 = some (ul (List.replicate 9 0), 432) := by rw [hh2, hput_same]; rfl
      have gx : h2 mx = some (ul l, tx) := by rw [hh2, hput_ne (by omega), hput_ne (by omega)]; exact px
      have g3 : h2 m3 = some (ul lB, 75) := by rw [hh2, hput_ne (by omega), hput_ne (by omega)]; exact p3
      have g4 : h2 m4 = some (ul [0, 0, 0, 0], 75) := by rw [hh2, hput_ne (by omega), hput_ne (by omega)]; exact p4
      have g5 : h2 m5 = some ([Value.int .u8 ((top - n + 1 : Nat) : Int), .int .u8 0, .int .u8 0], 378) := by rw [hh2, hput_ne (by omega), hput_same]
      have gk : ∀ b z, h b = some z → h2 b = some z ∧ b < m3 := fun b z hbz => by
        have := hold b z hbz
        rw [hh2, hput_ne (by omega), hput_ne (by omega)]; exact this
      clear hh2 p3 p4 p5 px pxx hold
      refine DrawX.go T_ok hM Hval.func380 (tb := dr380) rfl (by kernel_rfl) ?_; conv => whnf
      refine CopyX.ul (l := List.replicate 9 0) (l' := l) g8 gx (by simp) hl rfl rfl ?_; conv => whnf
      have eU : (l ++ (List.replicate 9 (0 : Int)).drop 8) = l ++ [0] := rfl
      erw [eU]
      have e4 : IntKind.u8.wrap (((n : Nat) : Int) - 1) = ((n - 1 : Nat) : Int) := by rw [wrap_u8]; omega
      rw [e4]
      refine Ob.mk (by omega) ?_; conv => whnf
      have g3' : hput h2 m8 (ul (l ++ [0]), 432) m3 = some ([] ++ (ul lB ++ []), 75) := by rw [hput_ne (by omega), g3]; simp
      refine LoadX.lim g3' (n - 1) (by rw [Int.toNat_natCast, show (24, y24).snd.size = 1 from rfl, Nat.mul_one]; simp) (by omega) ?_; conv => whnf
      obtain ⟨bt, hbt⟩ := Int.eq_ofNat_of_zero_le (hLB.get (n - 1)).1
      have hbt1 := (hLB.get (n - 1)).2
      have hbt0 := hUB.top (by omega)
      rw [hbt] at hbt1 hbt0 ⊢
      refine nLz64_ok (by omega) (by omega) fun s hs1 hs2 hs3 => ?_; conv => whnf
      have es : IntKind.u8.wrap ((s : Nat) : Int) = ((s : Nat) : Int) := by rw [wrap_u8]; omega
      rw [es]
      have hL9 : isL (l ++ [0]) := isL_snoc hL ⟨by decide, by decide⟩
      refine shiftUp_ok (pre := []) (post := []) (l := l ++ [0]) (n := 9) (t := 432) (by rw [hput_same]; simp) hL9 hs1 (by simp [hl]) (by decide) ?_; conv => whnf
      rw [hput_hput, List.nil_append, List.append_nil]
      refine shiftUp_ok (pre := []) (post := []) (l := lB) (n := 4) (t := 75) (by rw [hput_ne (by omega), g3]; simp) hLB hs1 hlB (by decide) ?_; conv => whnf
      rw [List.nil_append, List.append_nil]
      refine ClearX.ul (l := l) (m := mx) (n := 8) (by rw [hput_ne (by omega), hput_ne (by omega)]; exact gx) hl (by decide) rfl ?_; conv => whnf
      obtain ⟨F1, F2, F3, F4, F5, F6⟩ := div_prep hs1 hl hL hlB hLB hUB hBbd.1 hn2 hbt hs2 hs3 hUl htopb.1 (by omega)
      generalize hlu0 : shU s 0 (l ++ [0]) = lu0 at *
      generalize hlV : shU s 0 lB = lV at *
      obtain ⟨h3, hh3⟩ : ∃ h3 : Hp, h3 = hput (hput (hput h2 m8 (ul lu0, 432)) m3 (ul lV, 75)) mx (ul (List.replicate 8 0), tx) := ⟨_, rfl⟩
      rw [← hh3]
      have k8 : h3 m8 = some (ul lu0, 432) := by rw [hh3, hput_ne (by omega), hput_ne (by omega), hput_same]
      have kx : h3 mx = some (ul (List.replicate 8 0), tx) := by rw [hh3, hput_same]
      have k3 : h3 m3 = some (ul lV, 75) := by rw [hh3, hput_ne (by omega), hput_same]
      have k4 : h3 m4 = some (ul [0, 0, 0, 0], 75) := by rw [hh3, hput_ne (by omega), hput_ne (by omega), hput_ne (by omega)]; exact g4
      have k5 : h3 m5 = some ([Value.int .u8 ((top - n + 1 : Nat) : Int), .int .u8 0, .int .u8 0], 378) := by rw [hh3, hput_ne (by omega), hput_ne (by omega), hput_ne (by omega)]; exact g5
      have kk : ∀ b z, h b = some z → b ≠ mx → h3 b = some z := fun b z hbz hbx => by
        have := (gk b z hbz).2
        rw [hh3, hput_ne hbx, hput_ne (by omega), hput_ne (by omega)]; exact (gk b z hbz).1
      clear hh3 g8 gx g3 g4 g5 g3'
      refine LoadX.blk k5 (.int .u8 ((top - n + 1 : Nat) : Int)) rfl ?_; conv => whnf
      obtain ⟨G1, G2, G3⟩ := F5
      obtain ⟨G4, G5⟩ := F6
      have hVlen : lV.length = 4 := by rw [← hlV, shU_len, hlB]
      have hUlen : lu0.length = 9 := by rw [← hlu0, shU_len]; simp [hl]
      have hVt : lv (lV.take n) = lv lV := G1.lv.symm
      clear hlu0 hlV
      refine LoopX.st T_ok Hval.func380 (σ := Nat × List Int × List Int × Int × Int) (fun z => [(0, .pointer (some ⟨mx, 0, none⟩)), (3, .pointer (some ⟨m3, 0, none⟩)), (4, .pointer (some ⟨m4, 0, none⟩)), (5, .pointer (some ⟨m5, 0, none⟩)), (6, .int .u8 n), (8, .pointer (some ⟨m8, 0, none⟩)), (9, .int .u8 s), (10, .int .u8 z.1)])
        (fun z h' => (z.1 ≤ top - n + 1 ∧ isL z.2.1 ∧ z.2.1.length = 9 ∧ isL z.2.2.1 ∧ z.2.2.1.length = 8 ∧ (∀ i, i < z.1 → z.2.2.1.getD i 0 = 0) ∧ lv l * 2 ^ s = lv z.2.2.1 * lv lV + lv z.2.1 ∧ (∀ i, z.1 + n ≤ i → z.2.1.getD i 0 = 0) ∧ lv ((z.2.1.drop z.1).take n) < lv lV) ∧
          h' m8 = some (ul z.2.1, 432) ∧ h' mx = some (ul z.2.2.1, tx) ∧ h' m3 = some (ul lV, 75) ∧ h' m4 = some (ul [0, 0, 0, 0], 75) ∧ h' m5 = some ([Value.int .u8 ((top - n + 1 : Nat) : Int), .int .u8 z.2.2.2.1, .int .u8 z.2.2.2.2], 378) ∧ ∀ b z, h b = some z → b ≠ mx → h' b = some z)
        (fun z => z.1) (top - n + 1, lu0, List.replicate 8 0, 0, 0) ⟨rfl, rfl, rfl, rfl, rfl, rfl, rfl, rfl, trivial⟩
        ⟨⟨Nat.le_refl _, F1, hUlen, isL_zeros 8, rfl, fun i _ => by rw [List.getD_eq_getElem?_getD, List.getElem?_replicate]; split <;> rfl, by dsimp only; rw [lv_rep, F2]; omega, fun i hi' => G4 i (by dsimp only at hi'; omega), G5⟩, k8, kx, k3, k4, k5, kk⟩ ?_
      clear k8 kx k3 k4 k5 kk
      rintro ⟨j, lu, X, c2, c3⟩ ρ2 hJ ⟨⟨hj, hLu, hlu, hLX, hX8, hX0, hN, hzu, hlt⟩, k8, kx, k3, k4, k5, kk⟩ ih
      dsimp only at hj hLu hlu hLX hX8 hX0 hN hzu hlt k8 kx k5 ⊢
      conv => whnf
      refine CondX.decI (fun hjc => ?_) (fun hjc => ?_) <;> conv => whnf
      · have e1 : IntKind.u8.wrap (((j : Nat) : Int) - 1) = ((j - 1 : Nat) : Int) := by rw [wrap_u8]; omega
        rw [e1]
        refine eRound_ok (j := j - 1) (n := n) k8 k3 (by omega) hLu F3 hlu hVlen hn2 hn4 (by omega) G1 G2 (fun i hi1 _ => hzu i (by omega)) (by rw [show j - 1 + 1 = j by omega, hVt]; exact hlt) fun q l' fx' bk hq hl' hLl' ee el => ?_; conv => whnf
        obtain ⟨D1, D2, D3, D4, D5⟩ := div_round (k := j - 1) hLu hlu hX8 hLl' hl' (by omega) (by omega) G3 hVt (hX0 (j - 1) (by omega)) hN (fun i hi1 => hzu i (by omega)) ee el
        generalize lu.take (j - 1) ++ (l' ++ lu.drop (j - 1 + n + 1)) = lu2 at *
        rw [e1]
        refine Ob.mk (by omega) ?_; conv => whnf
        refine StoreX.lim (pre := []) (post := []) (l := X) (t := tx) (by rw [hput_ne (by omega), kx]; simp) (j - 1) (by rw [Int.toNat_natCast, show (24, y24).snd.size = 1 from rfl, Nat.mul_one]; simp) (by omega) ?_; conv => whnf
        rw [List.nil_append, List.append_nil]
        have w5 : hput (hput hJ m8 (ul lu2, 432)) mx (ul (X.set (j - 1) (q : Int)), tx) m5 = some ([Value.int .u8 ((top - n + 1 : Nat) : Int), .int .u8 c2, .int .u8 c3], 378) := by rw [hput_ne (by omega), hput_ne (by omega)]; exact k5
        refine LoadX.blk w5 (.int .u8 c2) rfl ?_; conv => whnf
        refine StoreX.at w5 (Nat.le_of_ble_eq_true rfl) ?_; conv => whnf
        have w6 : ∀ v : Int, setSeg [Value.int .u8 ((top - n + 1 : Nat) : Int), .int .u8 c2, .int .u8 c3] 1 [Value.int .u8 v] = [Value.int .u8 ((top - n + 1 : Nat) : Int), .int .u8 v, .int .u8 c3] := fun v => rfl
        erw [w6]
        have nx : ∀ {hN2 : Hp} {d2 d3 : Int}, hN2 = hput (hput (hput hJ m8 (ul lu2, 432)) mx (ul (X.set (j - 1) (q : Int)), tx)) m5 ([Value.int .u8 ((top - n + 1 : Nat) : Int), .int .u8 d2, .int .u8 d3], 378) →
            hN2 m8 = some (ul lu2, 432) ∧ hN2 mx = some (ul (X.set (j - 1) (q : Int)), tx) ∧ hN2 m3 = some (ul lV, 75) ∧ hN2 m4 = some (ul [0, 0, 0, 0], 75) ∧ hN2 m5 = some ([Value.int .u8 ((top - n + 1 : Nat) : Int), .int .u8 d2, .int .u8 d3], 378) ∧ ∀ b z, h b = some z → b ≠ mx → hN2 b = some z := fun {hN2 d2 d3} e => by
          subst e
          refine ⟨by rw [hput_ne (by omega), hput_ne (by omega), hput_same], by rw [hput_ne (by omega), hput_same], by rw [hput_ne (by omega), hput_ne (by omega), hput_ne (by omega)]; exact k3, by rw [hput_ne (by omega), hput_ne (by omega), hput_ne (by omega)]; exact k4, hput_same .., fun b z hbz hbx => ?_⟩
          have := (gk b z hbz).2
          rw [hput_ne (by omega), hput_ne hbx, hput_ne (by omega)]; exact kk b z hbz hbx
        have st : ∀ {hN2 : Hp} {d2 d3 : Int}, hN2 = hput (hput (hput hJ m8 (ul lu2, 432)) mx (ul (X.set (j - 1) (q : Int)), tx)) m5 ([Value.int .u8 ((top - n + 1 : Nat) : Int), .int .u8 d2, .int .u8 d3], 378) →
            ((j - 1 ≤ top - n + 1 ∧ isL lu2 ∧ lu2.length = 9 ∧ isL (X.set (j - 1) (q : Int)) ∧ (X.set (j - 1) (q : Int)).length = 8 ∧ (∀ i, i < j - 1 → (X.set (j - 1) (q : Int)).getD i 0 = 0) ∧ lv l * 2 ^ s = lv (X.set (j - 1) (q : Int)) * lv lV + lv lu2 ∧ (∀ i, j - 1 + n ≤ i → lu2.getD i 0 = 0) ∧ lv ((lu2.drop (j - 1)).take n) < lv lV) ∧
              hN2 m8 = some (ul lu2, 432) ∧ hN2 mx = some (ul (X.set (j - 1) (q : Int)), tx) ∧ hN2 m3 = some (ul lV, 75) ∧ hN2 m4 = some (ul [0, 0, 0, 0], 75) ∧ hN2 m5 = some ([Value.int .u8 ((top - n + 1 : Nat) : Int), .int .u8 d2, .int .u8 d3], 378) ∧ ∀ b z, h b = some z → b ≠ mx → hN2 b = some z) := fun {hN2 d2 d3} e => by
          refine ⟨⟨by omega, D1, D2, hLX.set ⟨by omega, by omega⟩, by simp [hX8], fun i hi' => ?_, D3, D4, D5⟩, nx e⟩
          rw [List.getD_eq_getElem?_getD, List.getElem?_set_ne (by omega), ← List.getD_eq_getElem?_getD]; exact hX0 i (by omega)
        cases bk with
        | false =>
          conv => whnf
          repeat (first | (refine CondX.tt ?_; conv => whnf) | (refine CondX.ff ?_; conv => whnf))
          exact ih (j - 1, lu2, X.set (j - 1) (q : Int), _, c3) _ _ (st rfl) (by dsimp only; omega) ⟨rfl, rfl, rfl, rfl, rfl, rfl, rfl, congrArg (Value.int .u8) e1, trivial⟩
        | true =>
          conv => whnf
          repeat (first | (refine CondX.tt ?_; conv => whnf) | (refine CondX.ff ?_; conv => whnf))
          refine LoadX.of _ ((ldV_same _ _ _ _ _ _ _).trans rfl) ?_; conv => whnf
          refine StoreX.same (Nat.le_of_ble_eq_true rfl) ?_; conv => whnf
          have w7 : ∀ u v : Int, setSeg [Value.int .u8 ((top - n + 1 : Nat) : Int), .int .u8 u, .int .u8 c3] 2 [Value.int .u8 v] = [Value.int .u8 ((top - n + 1 : Nat) : Int), .int .u8 u, .int .u8 v] := fun u v => rfl
          erw [w7]
          exact ih (j - 1, lu2, X.set (j - 1) (q : Int), _, _) _ _ (st rfl) (by dsimp only; omega) ⟨rfl, rfl, rfl, rfl, rfl, rfl, rfl, congrArg (Value.int .u8) e1, trivial⟩
      · have hj0 : j = 0 := by omega
        subst hj0
        clear ih
        repeat (refine Ob.mk (by first | decide | omega) ?_; conv => whnf)
        have ldx : ldV true 4 hJ m8 0 = some (.agg (ul (lu.take 4)).toArray) := by
          simp only [ldV, k8]
          rw [if_pos (by rw [ul_len, hlu]; decide)]
          simp [seg, ul, List.map_take]
        refine LoadX.of _ ldx ?_; conv => whnf
        have hR4' : (lu.take 4).length = 4 := by simp; omega
        have hRL' : isL (lu.take 4) := fun x hx => hLu x (List.mem_of_mem_take hx)
        refine Ob.mk ⟨by rw [List.size_toArray, ul_len, hR4']; rfl, ones_ul _⟩ ?_; conv => whnf
        refine StoreX.at k4 (by rw [List.toList_toArray, ul_len, ul_len, hR4']; decide) ?_; conv => whnf
        rw [setSeg_all (by rw [List.toList_toArray, ul_len, ul_len, hR4']; rfl), List.toList_toArray]
        refine shiftDown_ok (pre := []) (post := []) (l := lu.take 4) (n := 4) (t := 75) (by rw [hput_same]; simp) hRL' hs1 hR4' (by decide) ?_; conv => whnf
        rw [hput_hput, List.nil_append, List.append_nil]
        have hrv : isL (lu.take 4).reverse := fun x hx => hRL' x (List.mem_reverse.1 hx)
        obtain ⟨S1, e, S2, S3⟩ := shD_ok hs1 hrv (x := 0) (Nat.pow_pos (by decide))
        have hR4 : (shD s 0 (lu.take 4).reverse).reverse.length = 4 := by rw [List.length_reverse, shD_len, List.length_reverse, hR4']
        have hRL : isL (shD s 0 (lu.take 4).reverse).reverse := fun x hx => S1 x (List.mem_reverse.1 hx)
        rw [List.reverse_reverse] at S3
        generalize (shD s 0 (lu.take 4).reverse).reverse = RR at *
        obtain ⟨hF, hhF⟩ : ∃ hF : Hp, hF = hput hJ m4 (ul RR, 75) := ⟨_, rfl⟩
        rw [← hhF]
        obtain ⟨LQ, hLQ⟩ : ∃ LQ : List Int, LQ = X := ⟨_, rfl⟩
        have fx : hF mx = some (ul LQ, tx) := by rw [hhF, hput_ne (by omega), hLQ]; exact kx
        have f4 : hF m4 = some (ul RR, 75) := by rw [hhF, hput_same]
        obtain ⟨a1, a2, a3, f5⟩ : ∃ a1 a2 a3 : Int, hF m5 = some ([.int .u8 a1, .int .u8 a2, .int .u8 a3], 378) := ⟨_, _, _, by rw [hhF, hput_ne (by omega)]; exact k5⟩
        have fk : ∀ b z, h b = some z → b ≠ mx → hF b = some z := fun b z hbz hbx => by
          have := (gk b z hbz).2
          rw [hhF, hput_ne (by omega)]; exact kk b z hbz hbx
        have hQ8 : LQ.length = 8 := by rw [hLQ]; exact hX8
        have hQL : isL LQ := by rw [hLQ]; exact hLX
        have hl4 : lv lu = lv (lu.take 4) := by
          rw [lv_drop (l := lu) (n := 4) (by omega), lv_zeros (l := lu.drop 4) fun i => by
            rw [List.getD_eq_getElem?_getD, List.getElem?_drop, ← List.getD_eq_getElem?_getD]; exact hzu _ (by omega)]
          omega
        have hfin0 : lv lB = 0 → lv LQ = 0 ∧ lv RR = 0 := fun hh => absurd hh hBp
        have hltu : lv lu < lv lV := by
          rw [List.drop_zero] at hlt
          have : lv lu = lv (lu.take n) := by
            rw [lv_drop (l := lu) (n := n) (by omega), lv_zeros (l := lu.drop n) fun i => by
              rw [List.getD_eq_getElem?_getD, List.getElem?_drop, ← List.getD_eq_getElem?_getD]; exact hzu _ (by omega)]
            omega
          omega
        have hfin1 : lv lB ≠ 0 → lv l = lv LQ * lv lB + lv RR ∧ lv RR < lv lB := fun _ => by
          rw [hLQ]
          exact div_end (e := e) S2 (by rw [← F4]; exact hN) (by rw [hl4, ← S3]; simp) (by rw [← F4]; exact hltu)
        have ld4 : ldV true 4 hF m4 0 = some (.agg (ul RR).toArray) := by
          obtain ⟨v, q1, q2⟩ := (LoadX.all (n := 4) (KK := fun v => v = .agg (ul RR).toArray) f4 (by rw [ul_len, hR4]) rfl).run
          rw [q1, q2]
        have ld5 : ldV true 3 hF m5 0 = some (.agg #[.int .u8 a1, .int .u8 a2, .int .u8 a3]) := by
          obtain ⟨v, q1, q2⟩ := (LoadX.all (n := 3) (KK := fun v => v = .agg #[.int .u8 a1, .int .u8 a2, .int .u8 a3]) f5 rfl rfl).run
          rw [q1, q2]
        have id4 : hput hF m4 (setSeg (ul RR) 0 (ul RR), 75) = hF := by rw [setSeg_all rfl]; exact hput_id f4
        have id5 : hput hF m5 ([.int .u8 a1, .int .u8 a2, .int .u8 a3], 378) = hF := hput_id f5
        refine DrawX.go T_ok hM Hval.func380 (tb := dr380) rfl (by kernel_rfl) ?_; conv => whnf
        refine LoadX.of _ ld4 ?_; conv => whnf
        refine LoadX.of _ ld5 ?_; conv => whnf
        refine Ob.mk ⟨by rw [List.size_toArray, ul_len, hR4]; rfl, ones_ul _⟩ ?_; conv => whnf
        refine StoreX.at f4 (by rw [List.toList_toArray]; omega) ?_; conv => whnf
        erw [id4]
        repeat (refine Ob.mk (by first | exact ld4 | exact ld5 | exact ⟨rfl, rfl⟩) ?_; conv => whnf)
        refine StoreX.at f5 (Nat.le_of_ble_eq_true rfl) ?_; conv => whnf
        erw [id5]
        repeat (refine Ob.mk (by first | exact ld4 | exact ld5 | exact ⟨rfl, rfl⟩) ?_; conv => whnf)
        refine LoadX.of _ ld4 ?_; conv => whnf
        refine LoadX.of _ ld5 ?_; conv => whnf
        rw [ul_wc hR4 hRL]
        refine RetX.drop (h' := hput h mx (ul LQ, tx)) (fun b z hb' => ?_) (hk LQ (lv RR) a1 a2 a3 hQ8 hQL (lv_bd hRL).1 (by have := (lv_bd hRL).2; rw [hR4] at this; exact this) hfin0 hfin1)
        by_cases hbx : b = mx
        · subst hbx; rw [hput_same] at hb'; rw [fx]; exact hb'
        · rw [hput_ne hbx] at hb'; exact fk b z hb' hbx
  · repeat (first | (refine CondX.tt ?_; conv => whnf) | (refine CondX.ff ?_; conv => whnf))
    clear ih
    have hUl : Used l top := ⟨by omega, hz, fun hh => by omega⟩
    have htopb := hUl.bd hL
    refine CondX.decI (fun htn => ?_) (fun htn => ?_) <;> conv => whnf
    · repeat (refine Ob.mk (by first | decide | omega) ?_; conv => whnf)
      have ldx : ldV true 4 h0 mx 0 = some (.agg (ul (l.take 4)).toArray) := by
        simp only [ldV, px]
        rw [if_pos (by rw [ul_len, hl]; decide)]
        simp [seg, ul, List.map_take]
      refine LoadX.of _ ldx ?_; conv => whnf
      have hR4 : (l.take 4).length = 4 := by simp; omega
      have hRL : isL (l.take 4) := fun x hx => hL x (List.mem_of_mem_take hx)
      refine Ob.mk ⟨by rw [List.size_toArray, ul_len, hR4]; rfl, ones_ul _⟩ ?_; conv => whnf
      refine StoreX.at p4 (by rw [List.toList_toArray, ul_len, ul_len, hR4]; decide) ?_; conv => whnf
      rw [setSeg_all (by rw [List.toList_toArray, ul_len, ul_len, hR4]; rfl), List.toList_toArray]
      refine ClearX.ul (l := l) (m := mx) (n := 8) (by rw [hput_ne (by omega)]; exact px) hl (by decide) rfl ?_; conv => whnf
      obtain ⟨hF, hhF⟩ : ∃ hF : Hp, hF = hput (hput h0 m4 (ul (l.take 4), 75)) mx (ul (List.replicate 8 0), tx) := ⟨_, rfl⟩
      rw [← hhF]
      obtain ⟨LQ, hLQ⟩ : ∃ LQ : List Int, LQ = List.replicate 8 0 := ⟨_, rfl⟩
      have fx : hF mx = some (ul LQ, tx) := by rw [hhF, hput_same, hLQ]
      have f4 : hF m4 = some (ul (l.take 4), 75) := by rw [hhF, hput_ne (by omega), hput_same]
      obtain ⟨a1, a2, a3, f5⟩ : ∃ a1 a2 a3 : Int, hF m5 = some ([.int .u8 a1, .int .u8 a2, .int .u8 a3], 378) := ⟨0, 0, 0, by rw [hhF, hput_ne (by omega), hput_ne (by omega)]; exact p5⟩
      have fk : ∀ b z, h b = some z → b ≠ mx → hF b = some z := fun b z hbz hbx => by
        have := (hold b z hbz).2
        rw [hhF, hput_ne hbx, hput_ne (by omega)]; exact (hold b z hbz).1
      have hQ8 : LQ.length = 8 := by rw [hLQ]; rfl
      have hQL : isL LQ := by rw [hLQ]; exact isL_zeros 8
      have hfin0 : lv lB = 0 → lv LQ = 0 ∧ lv (l.take 4) = 0 := fun hh => absurd hh hBp
      have hl4 : lv l = lv (l.take 4) := by
        have e : l = l.take 4 ++ l.drop 4 := (List.take_append_drop 4 l).symm
        rw [show lv l = lv (l.take 4 ++ l.drop 4) from congrArg lv e, lv_append, lv_zeros (l := l.drop 4) fun i => by
          rw [List.getD_eq_getElem?_getD, List.getElem?_drop, ← List.getD_eq_getElem?_getD]; exact hz _ (by omega)]
        omega
      have hfin1 : lv lB ≠ 0 → lv l = lv LQ * lv lB + lv (l.take 4) ∧ lv (l.take 4) < lv lB := fun _ => by
        rw [hLQ, lv_rep, Int.zero_mul, Int.zero_add, hl4]
        refine ⟨rfl, ?_⟩
        rw [← hl4]
        have h1 : (18446744073709551616 : Int) ^ top ≤ 18446744073709551616 ^ (n - 1) := powB_mono (by omega)
        have h2 := hBbd.2 (by omega)
        omega
      have ld4 : ldV true 4 hF m4 0 = some (.agg (ul (l.take 4)).toArray) := by
        obtain ⟨v, q1, q2⟩ := (LoadX.all (n := 4) (KK := fun v => v = .agg (ul (l.take 4)).toArray) f4 (by rw [ul_len, hR4]) rfl).run
        rw [q1, q2]
      have ld5 : ldV true 3 hF m5 0 = some (.agg #[.int .u8 a1, .int .u8 a2, .int .u8 a3]) := by
        obtain ⟨v, q1, q2⟩ := (LoadX.all (n := 3) (KK := fun v => v = .agg #[.int .u8 a1, .int .u8 a2, .int .u8 a3]) f5 rfl rfl).run
        rw [q1, q2]
      have id4 : hput hF m4 (setSeg (ul (l.take 4)) 0 (ul (l.take 4)), 75) = hF := by rw [setSeg_all rfl]; exact hput_id f4
      have id5 : hput hF m5 ([.int .u8 a1, .int .u8 a2, .int .u8 a3], 378) = hF := hput_id f5
      refine DrawX.go T_ok hM Hval.func380 (tb := dr380) rfl (by kernel_rfl) ?_; conv => whnf
      refine LoadX.of _ ld4 ?_; conv => whnf
      refine LoadX.of _ ld5 ?_; conv => whnf
      refine Ob.mk ⟨by rw [List.size_toArray, ul_len, hR4]; rfl, ones_ul _⟩ ?_; conv => whnf
      refine StoreX.at f4 (by rw [List.toList_toArray]; omega) ?_; conv => whnf
      erw [id4]
      repeat (refine Ob.mk (by first | exact ld4 | exact ld5 | exact ⟨rfl, rfl⟩) ?_; conv => whnf)
      refine StoreX.at f5 (Nat.le_of_ble_eq_true rfl) ?_; conv => whnf
      erw [id5]
      repeat (refine Ob.mk (by first | exact ld4 | exact ld5 | exact ⟨rfl, rfl⟩) ?_; conv => whnf)
      refine LoadX.of _ ld4 ?_; conv => whnf
      refine LoadX.of _ ld5 ?_; conv => whnf
      rw [ul_wc hR4 hRL]
      refine RetX.drop (h' := hput h mx (ul LQ, tx)) (fun b z hb' => ?_) (hk LQ (lv (l.take 4)) a1 a2 a3 hQ8 hQL (lv_bd hRL).1 (by have := (lv_bd hRL).2; rw [hR4] at this; exact this) hfin0 hfin1)
      by_cases hbx : b = mx
      · subst hbx; rw [hput_same] at hb'; rw [fx]; exact hb'
      · rw [hput_ne hbx] at hb'; exact fk b z hb' hbx
    have eR : IntKind.u8.wrap (IntKind.u8.wrap (((top : Nat) : Int) - ((n : Nat) : Int)) + 1) = ((top - n + 1 : Nat) : Int) := by rw [wrap_u8, wrap_u8]; omega
    rw [eR]
    refine StoreX.at p5 (Nat.le_of_ble_eq_true rfl) ?_; conv => whnf
    have e5 : setSeg [Value.int .u8 0, .int .u8 0, .int .u8 0] 0 [Value.int .u8 ((top - n + 1 : Nat) : Int)] = [Value.int .u8 ((top - n + 1 : Nat) : Int), .int .u8 0, .int .u8 0] := rfl
    erw [e5]
    refine CondX.eqI (fun hn1e => ?_) (fun hn1e => ?_) <;> conv => whnf
    · have hn1e : n = 1 := by omega
      subst hn1e
      repeat (refine Ob.mk (by first | decide | omega) ?_; conv => whnf)
      have p3' : hput h0 m5 ([Value.int .u8 ((top - 1 + 1 : Nat) : Int), .int .u8 0, .int .u8 0], 378) m3 = some ([] ++ (ul lB ++ []), 75) := by rw [hput_ne (by omega), p3]; simp
      refine LoadX.lim p3' 0 rfl (by omega) ?_; conv => whnf
      obtain ⟨y, hy⟩ := Int.eq_ofNat_of_zero_le (hLB.get 0).1
      have hy1 := (hLB.get 0).2
      have hy0 := hUB.top (by omega)
      have hBy : lv lB = y := by
        rw [hUB.lv, lv_take_succ (by omega), hy]; simp [lv]
      rw [show (1 - 1 : Nat) = 0 from rfl, hy] at hy0
      rw [hy] at hy1 ⊢
      refine short_ok (l := l) (by rw [hput_ne (by omega)]; exact px) hl hL hi hz (by omega) (by omega) fun l' r hl' hLl' hr er => ?_; conv => whnf
      repeat (refine Ob.mk (by first | decide | omega) ?_; conv => whnf)
      have p4' : hput (hput h0 m5 ([Value.int .u8 ((top - 1 + 1 : Nat) : Int), .int .u8 0, .int .u8 0], 378)) mx (ul l', tx) m4 = some ([] ++ (ul [0, 0, 0, 0] ++ []), 75) := by rw [hput_ne (by omega), hput_ne (by omega), p4]; simp
      refine StoreX.lim p4' 0 rfl (by decide) ?_; conv => whnf
      rw [List.nil_append, List.append_nil]
      obtain ⟨hF, hhF⟩ : ∃ hF : Hp, hF = hput (hput (hput h0 m5 ([Value.int .u8 ((top - 1 + 1 : Nat) : Int), .int .u8 0, .int .u8 0], 378)) mx (ul l', tx)) m4 (ul ([0, 0, 0, 0].set 0 (r : Int)), 75) := ⟨_, rfl⟩
      rw [← hhF]
      obtain ⟨LQ, hLQ⟩ : ∃ LQ : List Int, LQ = l' := ⟨_, rfl⟩
      have fx : hF mx = some (ul LQ, tx) := by rw [hhF, hput_ne (by omega), hput_same, hLQ]
      have f4 : hF m4 = some (ul [(r : Int), 0, 0, 0], 75) := by rw [hhF, hput_same]; rfl
      obtain ⟨a1, a2, a3, f5⟩ : ∃ a1 a2 a3 : Int, hF m5 = some ([.int .u8 a1, .int .u8 a2, .int .u8 a3], 378) := ⟨_, 0, 0, by rw [hhF, hput_ne (by omega), hput_ne (by omega), hput_same]⟩
      have fk : ∀ b z, h b = some z → b ≠ mx → hF b = some z := fun b z hbz hbx => by
        have := (hold b z hbz).2
        rw [hhF, hput_ne (by omega), hput_ne hbx, hput_ne (by omega)]; exact (hold b z hbz).1
      have hR4 : ([(r : Int), 0, 0, 0] : List Int).length = 4 := rfl
      have hRL : isL [(r : Int), 0, 0, 0] := fun d hd => by
        rcases List.mem_cons.1 hd with rfl | hd
        · unfold U; omega
        · exact isL_zeros 3 d hd
      have hQ8 : LQ.length = 8 := by rw [hLQ]; exact hl'
      have hQL : isL LQ := by rw [hLQ]; exact hLl'
      have hrv : lv [(r : Int), 0, 0, 0] = r := by simp [lv]
      have hfin0 : lv lB = 0 → lv LQ = 0 ∧ lv [(r : Int), 0, 0, 0] = 0 := fun hh => absurd hh hBp
      have hfin1 : lv lB ≠ 0 → lv l = lv LQ * lv lB + lv [(r : Int), 0, 0, 0] ∧ lv [(r : Int), 0, 0, 0] < lv lB := fun _ => by
        rw [hrv, hBy, hLQ]; exact ⟨er, by omega⟩
      have ld4 : ldV true 4 hF m4 0 = some (.agg (ul [(r : Int), 0, 0, 0]).toArray) := by
        obtain ⟨v, q1, q2⟩ := (LoadX.all (n := 4) (KK := fun v => v = .agg (ul [(r : Int), 0, 0, 0]).toArray) f4 (by rw [ul_len, hR4]) rfl).run
        rw [q1, q2]
      have ld5 : ldV true 3 hF m5 0 = some (.agg #[.int .u8 a1, .int .u8 a2, .int .u8 a3]) := by
        obtain ⟨v, q1, q2⟩ := (LoadX.all (n := 3) (KK := fun v => v = .agg #[.int .u8 a1, .int .u8 a2, .int .u8 a3]) f5 rfl rfl).run
        rw [q1, q2]
      have id4 : hput hF m4 (setSeg (ul [(r : Int), 0, 0, 0]) 0 (ul [(r : Int), 0, 0, 0]), 75) = hF := by rw [setSeg_all rfl]; exact hput_id f4
      have id5 : hput hF m5 ([.int .u8 a1, .int .u8 a2, .int .u8 a3], 378) = hF := hput_id f5
      refine DrawX.go T_ok hM Hval.func380 (tb := dr380) rfl (by kernel_rfl) ?_; conv => whnf
      refine LoadX.of _ ld4 ?_; conv => whnf
      refine LoadX.of _ ld5 ?_; conv => whnf
      refine Ob.mk ⟨by rw [List.size_toArray, ul_len, hR4]; rfl, ones_ul _⟩ ?_; conv => whnf
      refine StoreX.at f4 (by rw [List.toList_toArray]; omega) ?_; conv => whnf
      erw [id4]
      repeat (refine Ob.mk (by first | exact ld4 | exact ld5 | exact ⟨rfl, rfl⟩) ?_; conv => whnf)
      refine StoreX.at f5 (Nat.le_of_ble_eq_true rfl) ?_; conv => whnf
      erw [id5]
      repeat (refine Ob.mk (by first | exact ld4 | exact ld5 | exact ⟨rfl, rfl⟩) ?_; conv => whnf)
      refine LoadX.of _ ld4 ?_; conv => whnf
      refine LoadX.of _ ld5 ?_; conv => whnf
      rw [ul_wc hR4 hRL]
      refine RetX.drop (h' := hput h mx (ul LQ, tx)) (fun b z hb' => ?_) (hk LQ (lv [(r : Int), 0, 0, 0]) a1 a2 a3 hQ8 hQL (lv_bd hRL).1 (by have := (lv_bd hRL).2; rw [hR4] at this; exact this) hfin0 hfin1)
      by_cases hbx : b = mx
      · subst hbx; rw [hput_same] at hb'; rw [fx]; exact hb'
      · rw [hput_ne hbx] at hb'; exact fk b z hb' hbx
    have hn2 : 2 ≤ n := by omega
    refine BoxX.on fun m8 h58 hm8 => ?_; conv => whnf
    obtain ⟨h2, hh2⟩ : ∃ h2 : Hp, h2 = hput (hput h0 m5 ([Value.int .u8 ((top - n + 1 : Nat) : Int), .int .u8 0, .int .u8 0], 378)) m8 ((432, y432).snd.zero, 432) := ⟨_, rfl⟩
    erw [← hh2]
    have g8 : h2 m8 = some (ul (List.replicate 9 0), 432) := by rw [hh2, hput_same]; rfl
    have gx : h2 mx = some (ul l, tx) := by rw [hh2, hput_ne (by omega), hput_ne (by omega)]; exact px
    have g3 : h2 m3 = some (ul lB, 75) := by rw [hh2, hput_ne (by omega), hput_ne (by omega)]; exact p3
    have g4 : h2 m4 = some (ul [0, 0, 0, 0], 75) := by rw [hh2, hput_ne (by omega), hput_ne (by omega)]; exact p4
    have g5 : h2 m5 = some ([Value.int .u8 ((top - n + 1 : Nat) : Int), .int .u8 0, .int .u8 0], 378) := by rw [hh2, hput_ne (by omega), hput_same]
    have gk : ∀ b z, h b = some z → h2 b = some z ∧ b < m3 := fun b z hbz => by
      have := hold b z hbz
      rw [hh2, hput_ne (by omega), hput_ne (by omega)]; exact this
    clear hh2 p3 p4 p5 px pxx hold
    refine DrawX.go T_ok hM Hval.func380 (tb := dr380) rfl (by kernel_rfl) ?_; conv => whnf
    refine CopyX.ul (l := List.replicate 9 0) (l' := l) g8 gx (by simp) hl rfl rfl ?_; conv => whnf
    have eU : (l ++ (List.replicate 9 (0 : Int)).drop 8) = l ++ [0] := rfl
    erw [eU]
    have e4 : IntKind.u8.wrap (((n : Nat) : Int) - 1) = ((n - 1 : Nat) : Int) := by rw [wrap_u8]; omega
    rw [e4]
    refine Ob.mk (by omega) ?_; conv => whnf
    have g3' : hput h2 m8 (ul (l ++ [0]), 432) m3 = some ([] ++ (ul lB ++ []), 75) := by rw [hput_ne (by omega), g3]; simp
    refine LoadX.lim g3' (n - 1) (by rw [Int.toNat_natCast, show (24, y24).snd.size = 1 from rfl, Nat.mul_one]; simp) (by omega) ?_; conv => whnf
    obtain ⟨bt, hbt⟩ := Int.eq_ofNat_of_zero_le (hLB.get (n - 1)).1
    have hbt1 := (hLB.get (n - 1)).2
    have hbt0 := hUB.top (by omega)
    rw [hbt] at hbt1 hbt0 ⊢
    refine nLz64_ok (by omega) (by omega) fun s hs1 hs2 hs3 => ?_; conv => whnf
    have es : IntKind.u8.wrap ((s : Nat) : Int) = ((s : Nat) : Int) := by rw [wrap_u8]; omega
    rw [es]
    have hL9 : isL (l ++ [0]) := isL_snoc hL ⟨by decide, by decide⟩
    refine shiftUp_ok (pre := []) (post := []) (l := l ++ [0]) (n := 9) (t := 432) (by rw [hput_same]; simp) hL9 hs1 (by simp [hl]) (by decide) ?_; conv => whnf
    rw [hput_hput, List.nil_append, List.append_nil]
    refine shiftUp_ok (pre := []) (post := []) (l := lB) (n := 4) (t := 75) (by rw [hput_ne (by omega), g3]; simp) hLB hs1 hlB (by decide) ?_; conv => whnf
    rw [List.nil_append, List.append_nil]
    refine ClearX.ul (l := l) (m := mx) (n := 8) (by rw [hput_ne (by omega), hput_ne (by omega)]; exact gx) hl (by decide) rfl ?_; conv => whnf
    obtain ⟨F1, F2, F3, F4, F5, F6⟩ := div_prep hs1 hl hL hlB hLB hUB hBbd.1 hn2 hbt hs2 hs3 hUl htopb.1 (by omega)
    generalize hlu0 : shU s 0 (l ++ [0]) = lu0 at *
    generalize hlV : shU s 0 lB = lV at *
    obtain ⟨h3, hh3⟩ : ∃ h3 : Hp, h3 = hput (hput (hput h2 m8 (ul lu0, 432)) m3 (ul lV, 75)) mx (ul (List.replicate 8 0), tx) := ⟨_, rfl⟩
    rw [← hh3]
    have k8 : h3 m8 = some (ul lu0, 432) := by rw [hh3, hput_ne (by omega), hput_ne (by omega), hput_same]
    have kx : h3 mx = some (ul (List.replicate 8 0), tx) := by rw [hh3, hput_same]
    have k3 : h3 m3 = some (ul lV, 75) := by rw [hh3, hput_ne (by omega), hput_same]
    have k4 : h3 m4 = some (ul [0, 0, 0, 0], 75) := by rw [hh3, hput_ne (by omega), hput_ne (by omega), hput_ne (by omega)]; exact g4
    have k5 : h3 m5 = some ([Value.int .u8 ((top - n + 1 : Nat) : Int), .int .u8 0, .int .u8 0], 378) := by rw [hh3, hput_ne (by omega), hput_ne (by omega), hput_ne (by omega)]; exact g5
    have kk : ∀ b z, h b = some z → b ≠ mx → h3 b = some z := fun b z hbz hbx => by
      have := (gk b z hbz).2
      rw [hh3, hput_ne hbx, hput_ne (by omega), hput_ne (by omega)]; exact (gk b z hbz).1
    clear hh3 g8 gx g3 g4 g5 g3'
    refine LoadX.blk k5 (.int .u8 ((top - n + 1 : Nat) : Int)) rfl ?_; conv => whnf
    obtain ⟨G1, G2, G3⟩ := F5
    obtain ⟨G4, G5⟩ := F6
    have hVlen : lV.length = 4 := by rw [← hlV, shU_len, hlB]
    have hUlen : lu0.length = 9 := by rw [← hlu0, shU_len]; simp [hl]
    have hVt : lv (lV.take n) = lv lV := G1.lv.symm
    clear hlu0 hlV
    refine LoopX.st T_ok Hval.func380 (σ := Nat × List Int × List Int × Int × Int) (fun z => [(0, .pointer (some ⟨mx, 0, none⟩)), (3, .pointer (some ⟨m3, 0, none⟩)), (4, .pointer (some ⟨m4, 0, none⟩)), (5, .pointer (some ⟨m5, 0, none⟩)), (6, .int .u8 n), (8, .pointer (some ⟨m8, 0, none⟩)), (9, .int .u8 s), (10, .int .u8 z.1)])
      (fun z h' => (z.1 ≤ top - n + 1 ∧ isL z.2.1 ∧ z.2.1.length = 9 ∧ isL z.2.2.1 ∧ z.2.2.1.length = 8 ∧ (∀ i, i < z.1 → z.2.2.1.getD i 0 = 0) ∧ lv l * 2 ^ s = lv z.2.2.1 * lv lV + lv z.2.1 ∧ (∀ i, z.1 + n ≤ i → z.2.1.getD i 0 = 0) ∧ lv ((z.2.1.drop z.1).take n) < lv lV) ∧
        h' m8 = some (ul z.2.1, 432) ∧ h' mx = some (ul z.2.2.1, tx) ∧ h' m3 = some (ul lV, 75) ∧ h' m4 = some (ul [0, 0, 0, 0], 75) ∧ h' m5 = some ([Value.int .u8 ((top - n + 1 : Nat) : Int), .int .u8 z.2.2.2.1, .int .u8 z.2.2.2.2], 378) ∧ ∀ b z, h b = some z → b ≠ mx → h' b = some z)
      (fun z => z.1) (top - n + 1, lu0, List.replicate 8 0, 0, 0) ⟨rfl, rfl, rfl, rfl, rfl, rfl, rfl, rfl, trivial⟩
      ⟨⟨Nat.le_refl _, F1, hUlen, isL_zeros 8, rfl, fun i _ => by rw [List.getD_eq_getElem?_getD, List.getElem?_replicate]; split <;> rfl, by dsimp only; rw [lv_rep, F2]; omega, fun i hi' => G4 i (by dsimp only at hi'; omega), G5⟩, k8, kx, k3, k4, k5, kk⟩ ?_
    clear k8 kx k3 k4 k5 kk
    rintro ⟨j, lu, X, c2, c3⟩ ρ2 hJ ⟨⟨hj, hLu, hlu, hLX, hX8, hX0, hN, hzu, hlt⟩, k8, kx, k3, k4, k5, kk⟩ ih
    dsimp only at hj hLu hlu hLX hX8 hX0 hN hzu hlt k8 kx k5 ⊢
    conv => whnf
    refine CondX.decI (fun hjc => ?_) (fun hjc => ?_) <;> conv => whnf
    · have e1 : IntKind.u8.wrap (((j : Nat) : Int) - 1) = ((j - 1 : Nat) : Int) := by rw [wrap_u8]; omega
      rw [e1]
      refine eRound_ok (j := j - 1) (n := n) k8 k3 (by omega) hLu F3 hlu hVlen hn2 hn4 (by omega) G1 G2 (fun i hi1 _ => hzu i (by omega)) (by rw [show j - 1 + 1 = j by omega, hVt]; exact hlt) fun q l' fx' bk hq hl' hLl' ee el => ?_; conv => whnf
      obtain ⟨D1, D2, D3, D4, D5⟩ := div_round (k := j - 1) hLu hlu hX8 hLl' hl' (by omega) (by omega) G3 hVt (hX0 (j - 1) (by omega)) hN (fun i hi1 => hzu i (by omega)) ee el
      generalize lu.take (j - 1) ++ (l' ++ lu.drop (j - 1 + n + 1)) = lu2 at *
      rw [e1]
      refine Ob.mk (by omega) ?_; conv => whnf
      refine StoreX.lim (pre := []) (post := []) (l := X) (t := tx) (by rw [hput_ne (by omega), kx]; simp) (j - 1) (by rw [Int.toNat_natCast, show (24, y24).snd.size = 1 from rfl, Nat.mul_one]; simp) (by omega) ?_; conv => whnf
      rw [List.nil_append, List.append_nil]
      have w5 : hput (hput hJ m8 (ul lu2, 432)) mx (ul (X.set (j - 1) (q : Int)), tx) m5 = some ([Value.int .u8 ((top - n + 1 : Nat) : Int), .int .u8 c2, .int .u8 c3], 378) := by rw [hput_ne (by omega), hput_ne (by omega)]; exact k5
      refine LoadX.blk w5 (.int .u8 c2) rfl ?_; conv => whnf
      refine StoreX.at w5 (Nat.le_of_ble_eq_true rfl) ?_; conv => whnf
      have w6 : ∀ v : Int, setSeg [Value.int .u8 ((top - n + 1 : Nat) : Int), .int .u8 c2, .int .u8 c3] 1 [Value.int .u8 v] = [Value.int .u8 ((top - n + 1 : Nat) : Int), .int .u8 v, .int .u8 c3] := fun v => rfl
      erw [w6]
      have nx : ∀ {hN2 : Hp} {d2 d3 : Int}, hN2 = hput (hput (hput hJ m8 (ul lu2, 432)) mx (ul (X.set (j - 1) (q : Int)), tx)) m5 ([Value.int .u8 ((top - n + 1 : Nat) : Int), .int .u8 d2, .int .u8 d3], 378) →
          hN2 m8 = some (ul lu2, 432) ∧ hN2 mx = some (ul (X.set (j - 1) (q : Int)), tx) ∧ hN2 m3 = some (ul lV, 75) ∧ hN2 m4 = some (ul [0, 0, 0, 0], 75) ∧ hN2 m5 = some ([Value.int .u8 ((top - n + 1 : Nat) : Int), .int .u8 d2, .int .u8 d3], 378) ∧ ∀ b z, h b = some z → b ≠ mx → hN2 b = some z := fun {hN2 d2 d3} e => by
        subst e
        refine ⟨by rw [hput_ne (by omega), hput_ne (by omega), hput_same], by rw [hput_ne (by omega), hput_same], by rw [hput_ne (by omega), hput_ne (by omega), hput_ne (by omega)]; exact k3, by rw [hput_ne (by omega), hput_ne (by omega), hput_ne (by omega)]; exact k4, hput_same .., fun b z hbz hbx => ?_⟩
        have := (gk b z hbz).2
        rw [hput_ne (by omega), hput_ne hbx, hput_ne (by omega)]; exact kk b z hbz hbx
      have st : ∀ {hN2 : Hp} {d2 d3 : Int}, hN2 = hput (hput (hput hJ m8 (ul lu2, 432)) mx (ul (X.set (j - 1) (q : Int)), tx)) m5 ([Value.int .u8 ((top - n + 1 : Nat) : Int), .int .u8 d2, .int .u8 d3], 378) →
          ((j - 1 ≤ top - n + 1 ∧ isL lu2 ∧ lu2.length = 9 ∧ isL (X.set (j - 1) (q : Int)) ∧ (X.set (j - 1) (q : Int)).length = 8 ∧ (∀ i, i < j - 1 → (X.set (j - 1) (q : Int)).getD i 0 = 0) ∧ lv l * 2 ^ s = lv (X.set (j - 1) (q : Int)) * lv lV + lv lu2 ∧ (∀ i, j - 1 + n ≤ i → lu2.getD i 0 = 0) ∧ lv ((lu2.drop (j - 1)).take n) < lv lV) ∧
            hN2 m8 = some (ul lu2, 432) ∧ hN2 mx = some (ul (X.set (j - 1) (q : Int)), tx) ∧ hN2 m3 = some (ul lV, 75) ∧ hN2 m4 = some (ul [0, 0, 0, 0], 75) ∧ hN2 m5 = some ([Value.int .u8 ((top - n + 1 : Nat) : Int), .int .u8 d2, .int .u8 d3], 378) ∧ ∀ b z, h b = some z → b ≠ mx → hN2 b = some z) := fun {hN2 d2 d3} e => by
        refine ⟨⟨by omega, D1, D2, hLX.set ⟨by omega, by omega⟩, by simp [hX8], fun i hi' => ?_, D3, D4, D5⟩, nx e⟩
        rw [List.getD_eq_getElem?_getD, List.getElem?_set_ne (by omega), ← List.getD_eq_getElem?_getD]; exact hX0 i (by omega)
      cases bk with
      | false =>
        conv => whnf
        repeat (first | (refine CondX.tt ?_; conv => whnf) | (refine CondX.ff ?_; conv => whnf))
        exact ih (j - 1, lu2, X.set (j - 1) (q : Int), _, c3) _ _ (st rfl) (by dsimp only; omega) ⟨rfl, rfl, rfl, rfl, rfl, rfl, rfl, congrArg (Value.int .u8) e1, trivial⟩
      | true =>
        conv => whnf
        repeat (first | (refine CondX.tt ?_; conv => whnf) | (refine CondX.ff ?_; conv => whnf))
        refine LoadX.of _ ((ldV_same _ _ _ _ _ _ _).trans rfl) ?_; conv => whnf
        refine StoreX.same (Nat.le_of_ble_eq_true rfl) ?_; conv => whnf
        have w7 : ∀ u v : Int, setSeg [Value.int .u8 ((top - n + 1 : Nat) : Int), .int .u8 u, .int .u8 c3] 2 [Value.int .u8 v] = [Value.int .u8 ((top - n + 1 : Nat) : Int), .int .u8 u, .int .u8 v] := fun u v => rfl
        erw [w7]
        exact ih (j - 1, lu2, X.set (j - 1) (q : Int), _, _) _ _ (st rfl) (by dsimp only; omega) ⟨rfl, rfl, rfl, rfl, rfl, rfl, rfl, congrArg (Value.int .u8) e1, trivial⟩
    · have hj0 : j = 0 := by omega
      subst hj0
      clear ih
      repeat (refine Ob.mk (by first | decide | omega) ?_; conv => whnf)
      have ldx : ldV true 4 hJ m8 0 = some (.agg (ul (lu.take 4)).toArray) := by
        simp only [ldV, k8]
        rw [if_pos (by rw [ul_len, hlu]; decide)]
        simp [seg, ul, List.map_take]
      refine LoadX.of _ ldx ?_; conv => whnf
      have hR4' : (lu.take 4).length = 4 := by simp; omega
      have hRL' : isL (lu.take 4) := fun x hx => hLu x (List.mem_of_mem_take hx)
      refine Ob.mk ⟨by rw [List.size_toArray, ul_len, hR4']; rfl, ones_ul _⟩ ?_; conv => whnf
      refine StoreX.at k4 (by rw [List.toList_toArray, ul_len, ul_len, hR4']; decide) ?_; conv => whnf
      rw [setSeg_all (by rw [List.toList_toArray, ul_len, ul_len, hR4']; rfl), List.toList_toArray]
      refine shiftDown_ok (pre := []) (post := []) (l := lu.take 4) (n := 4) (t := 75) (by rw [hput_same]; simp) hRL' hs1 hR4' (by decide) ?_; conv => whnf
      rw [hput_hput, List.nil_append, List.append_nil]
      have hrv : isL (lu.take 4).reverse := fun x hx => hRL' x (List.mem_reverse.1 hx)
      obtain ⟨S1, e, S2, S3⟩ := shD_ok hs1 hrv (x := 0) (Nat.pow_pos (by decide))
      have hR4 : (shD s 0 (lu.take 4).reverse).reverse.length = 4 := by rw [List.length_reverse, shD_len, List.length_reverse, hR4']
      have hRL : isL (shD s 0 (lu.take 4).reverse).reverse := fun x hx => S1 x (List.mem_reverse.1 hx)
      rw [List.reverse_reverse] at S3
      generalize (shD s 0 (lu.take 4).reverse).reverse = RR at *
      obtain ⟨hF, hhF⟩ : ∃ hF : Hp, hF = hput hJ m4 (ul RR, 75) := ⟨_, rfl⟩
      rw [← hhF]
      obtain ⟨LQ, hLQ⟩ : ∃ LQ : List Int, LQ = X := ⟨_, rfl⟩
      have fx : hF mx = some (ul LQ, tx) := by rw [hhF, hput_ne (by omega), hLQ]; exact kx
      have f4 : hF m4 = some (ul RR, 75) := by rw [hhF, hput_same]
      obtain ⟨a1, a2, a3, f5⟩ : ∃ a1 a2 a3 : Int, hF m5 = some ([.int .u8 a1, .int .u8 a2, .int .u8 a3], 378) := ⟨_, _, _, by rw [hhF, hput_ne (by omega)]; exact k5⟩
      have fk : ∀ b z, h b = some z → b ≠ mx → hF b = some z := fun b z hbz hbx => by
        have := (gk b z hbz).2
        rw [hhF, hput_ne (by omega)]; exact kk b z hbz hbx
      have hQ8 : LQ.length = 8 := by rw [hLQ]; exact hX8
      have hQL : isL LQ := by rw [hLQ]; exact hLX
      have hl4 : lv lu = lv (lu.take 4) := by
        rw [lv_drop (l := lu) (n := 4) (by omega), lv_zeros (l := lu.drop 4) fun i => by
          rw [List.getD_eq_getElem?_getD, List.getElem?_drop, ← List.getD_eq_getElem?_getD]; exact hzu _ (by omega)]
        omega
      have hfin0 : lv lB = 0 → lv LQ = 0 ∧ lv RR = 0 := fun hh => absurd hh hBp
      have hltu : lv lu < lv lV := by
        rw [List.drop_zero] at hlt
        have : lv lu = lv (lu.take n) := by
          rw [lv_drop (l := lu) (n := n) (by omega), lv_zeros (l := lu.drop n) fun i => by
            rw [List.getD_eq_getElem?_getD, List.getElem?_drop, ← List.getD_eq_getElem?_getD]; exact hzu _ (by omega)]
          omega
        omega
      have hfin1 : lv lB ≠ 0 → lv l = lv LQ * lv lB + lv RR ∧ lv RR < lv lB := fun _ => by
        rw [hLQ]
        exact div_end (e := e) S2 (by rw [← F4]; exact hN) (by rw [hl4, ← S3]; simp) (by rw [← F4]; exact hltu)
      have ld4 : ldV true 4 hF m4 0 = some (.agg (ul RR).toArray) := by
        obtain ⟨v, q1, q2⟩ := (LoadX.all (n := 4) (KK := fun v => v = .agg (ul RR).toArray) f4 (by rw [ul_len, hR4]) rfl).run
        rw [q1, q2]
      have ld5 : ldV true 3 hF m5 0 = some (.agg #[.int .u8 a1, .int .u8 a2, .int .u8 a3]) := by
        obtain ⟨v, q1, q2⟩ := (LoadX.all (n := 3) (KK := fun v => v = .agg #[.int .u8 a1, .int .u8 a2, .int .u8 a3]) f5 rfl rfl).run
        rw [q1, q2]
      have id4 : hput hF m4 (setSeg (ul RR) 0 (ul RR), 75) = hF := by rw [setSeg_all rfl]; exact hput_id f4
      have id5 : hput hF m5 ([.int .u8 a1, .int .u8 a2, .int .u8 a3], 378) = hF := hput_id f5
      refine DrawX.go T_ok hM Hval.func380 (tb := dr380) rfl (by kernel_rfl) ?_; conv => whnf
      refine LoadX.of _ ld4 ?_; conv => whnf
      refine LoadX.of _ ld5 ?_; conv => whnf
      refine Ob.mk ⟨by rw [List.size_toArray, ul_len, hR4]; rfl, ones_ul _⟩ ?_; conv => whnf
      refine StoreX.at f4 (by rw [List.toList_toArray]; omega) ?_; conv => whnf
      erw [id4]
      repeat (refine Ob.mk (by first | exact ld4 | exact ld5 | exact ⟨rfl, rfl⟩) ?_; conv => whnf)
      refine StoreX.at f5 (Nat.le_of_ble_eq_true rfl) ?_; conv => whnf
      erw [id5]
      repeat (refine Ob.mk (by first | exact ld4 | exact ld5 | exact ⟨rfl, rfl⟩) ?_; conv => whnf)
      refine LoadX.of _ ld4 ?_; conv => whnf
      refine LoadX.of _ ld5 ?_; conv => whnf
      rw [ul_wc hR4 hRL]
      refine RetX.drop (h' := hput h mx (ul LQ, tx)) (fun b z hb' => ?_) (hk LQ (lv RR) a1 a2 a3 hQ8 hQL (lv_bd hRL).1 (by have := (lv_bd hRL).2; rw [hR4] at this; exact this) hfin0 hfin1)
      by_cases hbx : b = mx
      · subst hbx; rw [hput_same] at hb'; rw [fx]; exact hb'
      · rw [hput_ne hbx] at hb'; exact fk b z hb' hbx
end
end Go.Proofs.YgvalwGreat.X
