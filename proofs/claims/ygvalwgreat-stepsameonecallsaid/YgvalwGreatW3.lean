import Derived.Test.YgvalwGreatW2
set_option linter.unusedVariables false
set_option linter.unusedSimpArgs false
namespace Go.Proofs.YgvalwGreat.X
open Go

section
variable {h : Hp} {K : Value → Hp → Prop} {l lB : List Int} {mx mv : Nat} {tx tv : TypeId}
theorem CopyX.ulG {m m' n n' p q : Nat} {t t' : TypeId} {l l' : List Int} {KK : Value → Hp → Prop} (hb : h m = some (X.ul l, t)) (hb' : h m' = some (X.ul l', t')) (hl : l.length = p) (hl' : l'.length = q) (hn : n = p) (hn' : n' = q) (hpq : q ≤ p) (hk : KK (.int .i64 q) (hput h m (X.ul (l' ++ l.drop q), t))) : CopyX h 1 (some ⟨m, 0, none⟩) n (some ⟨m', 0, none⟩) n' KK := by
  have hn := hn.symm
  have hn' := hn'.symm
  subst hn hn'
  have hmin : Nat.min q p = q := Nat.min_eq_left hpq
  refine ⟨X.ul l', ?_, X.ul l, t, hb, ?_, ones_ul _, ?_⟩
  · rw [hmin, Nat.mul_one]
    simp only [rd, hb']
    rw [if_pos (by rw [ul_len, hl']; omega)]
    have e : (X.ul l').length = q := by rw [ul_len, hl']
    rw [← e]; exact congrArg some (by simp [seg])
  · rw [ul_len, ul_len, hl, hl']; omega
  · have e : setSeg (X.ul l) 0 (X.ul l') = X.ul (l' ++ l.drop q) := by
      unfold setSeg
      rw [List.take_zero, List.nil_append, ul_len, hl', Nat.zero_add]
      unfold X.ul
      rw [List.map_append, List.map_drop]
    rw [hmin, e]; exact hk
set_option maxRecDepth 100000 in
set_option maxHeartbeats 4000000 in
theorem rem1024_ok (hb : h mx = some (ul l, tx)) (hl : l.length = 16) (hL : isL l) (hbv : h mv = some (ul lB, tv)) (hlB : lB.length = 8) (hLB : isL lB)
    (hk : ∀ (r : List Int) (a1 a2 a3 : Int), r.length = 8 → isL r → (lv r = if lv lB = 0 then 0 else lv l % lv lB) → K (.tuple #[.agg (ul r).toArray, .agg #[.int .u8 a1, .int .u8 a2, .int .u8 a3]]) h) :
    CallX Hval.prog 336 [.pointer (some ⟨mx, 0, none⟩), .pointer (some ⟨mv, 0, none⟩)] h K := by
  refine CallX.of_xf T_ok Hval.func336 rfl (by kernel_rfl) (Nat.le_of_ble_eq_true rfl) ?_; conv => whnf
  refine BoxX.mk fun m4 hm4 => ?_; conv => whnf
  refine BoxX.on fun m5 h45 hm5 => ?_; conv => whnf
  have hx4 : mx < m4 := hm4 mx _ hb
  have hv4 : mv < m4 := hm4 mv _ hbv
  obtain ⟨h0, hh0⟩ : ∃ h0 : Hp, h0 = hput (hput h m4 ((317, y317).snd.zero, 317)) m5 ((378, y378).snd.zero, 378) := ⟨_, rfl⟩
  have p4 : h0 m4 = some (ul (List.replicate 8 0), 317) := by rw [hh0, hput_ne (by omega), hput_same]; rfl
  have p5 : h0 m5 = some ([.int .u8 0, .int .u8 0, .int .u8 0], 378) := by rw [hh0, hput_same]; rfl
  have px : h0 mx = some (ul l, tx) := by rw [hh0, hput_ne (by omega), hput_ne (by omega)]; exact hb
  have pv : h0 mv = some (ul lB, tv) := by rw [hh0, hput_ne (by omega), hput_ne (by omega)]; exact hbv
  have hold : ∀ b z, h b = some z → h0 b = some z ∧ b < m4 := fun b z hbz => by
    have := hm4 b z hbz
    rw [hh0, hput_ne (by omega), hput_ne (by omega)]; exact ⟨hbz, this⟩
  erw [← hh0]
  refine wLimbs_ok pv hlB fun n hUB => ?_; conv => whnf
  have hBbd := hUB.bd hLB
  have pxx : h0 mx = some ([] ++ (ul l ++ []), tx) := by rw [px]; simp
  refine LoopX.st T_ok Hval.func336 (σ := Nat) (fun i => [(0, .pointer (some ⟨mx, 0, none⟩)), (1, .pointer (some ⟨mv, 0, none⟩)), (4, .pointer (some ⟨m4, 0, none⟩)), (5, .pointer (some ⟨m5, 0, none⟩)), (6, .int .u8 n), (7, .int .u8 i)]) (fun i h' => h0 = h' ∧ i ≤ 16 ∧ ∀ k, i ≤ k → l.getD k 0 = 0) (fun i => i) 16 ⟨rfl, rfl, rfl, rfl, rfl, rfl, trivial⟩ ⟨rfl, Nat.le_refl _, fun k hk => by rw [List.getD_eq_getElem?_getD, List.getElem?_eq_none (by omega)]; rfl⟩ ?_
  rintro top ρ h' ⟨rfl, hi, hz⟩ ih
  conv => whnf
  refine CondX.decI (fun hc => ?_) (fun hc => ?_) <;> conv => whnf
  · repeat (first | (refine CondX.tt ?_; conv => whnf) | (refine CondX.ff ?_; conv => whnf))
    have e4 : IntKind.u8.wrap (((top : Nat) : Int) - 1) = ((top - 1 : Nat) : Int) := by rw [wrap_u8]; omega
    rw [e4]
    refine Ob.mk (by omega) ?_; conv => whnf
    repeat (first | (refine CondX.tt ?_; conv => whnf) | (refine CondX.ff ?_; conv => whnf))
    refine LoadX.lim pxx (top - 1) (by rw [Int.toNat_natCast, show (24, y24).snd.size = 1 from rfl, Nat.mul_one]; simp) (by omega) ?_; conv => whnf
    repeat (first | (refine CondX.tt ?_; conv => whnf) | (refine CondX.ff ?_; conv => whnf))
    refine CondX.eqI (fun hq => ?_) (fun hq => ?_) <;> conv => whnf
    · rw [e4]
      refine ih (top - 1) _ _ ⟨rfl, by omega, fun k hk => ?_⟩ (by omega) ⟨rfl, rfl, rfl, rfl, rfl, rfl, trivial⟩
      by_cases hki : k = top - 1
      · rw [hki]; exact hq
      · exact hz k (by omega)
    · clear ih
      have hUl : Used l top := ⟨by omega, hz, fun _ => hq⟩
      have htopb := hUl.bd hL
      refine CondX.eqI (fun hn0 => ?_) (fun hn0 => ?_) <;> conv => whnf
      · have hn0 : n = 0 := by omega
        subst hn0
        obtain ⟨hF, hhF⟩ : ∃ hF : Hp, hF = h0 := ⟨_, rfl⟩
        rw [← hhF]
        have f4 : hF m4 = some (ul (List.replicate 8 0), 317) := by rw [hhF]; exact p4
        obtain ⟨a1, a2, a3, f5⟩ : ∃ a1 a2 a3 : Int, hF m5 = some ([.int .u8 a1, .int .u8 a2, .int .u8 a3], 378) := ⟨0, 0, 0, by rw [hhF]; exact p5⟩
        have fk : Ext h hF := fun b z hbz => by rw [hhF]; exact (hold b z hbz).1
        have hR4 : (List.replicate 8 (0 : Int)).length = 8 := rfl
        have hRL : isL (List.replicate 8 0) := isL_zeros 8
        have hB0 : lv lB = 0 := by rw [hUB.lv, List.take_zero]; rfl
        have hfin : lv (List.replicate 8 0) = if lv lB = 0 then 0 else lv l % lv lB := by rw [if_pos hB0]; exact lv_rep 8
        have ld4 : ldV true 8 hF m4 0 = some (.agg (ul (List.replicate 8 0)).toArray) := by
          obtain ⟨v, q1, q2⟩ := (LoadX.all (n := 8) (KK := fun v => v = .agg (ul (List.replicate 8 0)).toArray) f4 (by rw [ul_len, hR4]) rfl).run
          rw [q1, q2]
        have ld5 : ldV true 3 hF m5 0 = some (.agg #[.int .u8 a1, .int .u8 a2, .int .u8 a3]) := by
          obtain ⟨v, q1, q2⟩ := (LoadX.all (n := 3) (KK := fun v => v = .agg #[.int .u8 a1, .int .u8 a2, .int .u8 a3]) f5 rfl rfl).run
          rw [q1, q2]
        have id4 : hput hF m4 (setSeg (ul (List.replicate 8 0)) 0 (ul (List.replicate 8 0)), 317) = hF := by rw [setSeg_all rfl]; exact hput_id f4
        have id5 : hput hF m5 ([.int .u8 a1, .int .u8 a2, .int .u8 a3], 378) = hF := hput_id f5
        refine DrawX.go T_ok hM Hval.func336 (tb := dr336) rfl (by kernel_rfl) ?_; conv => whnf
        refine LoadX.of _ ld4 ?_; conv => whnf
        refine LoadX.of _ ld5 ?_; conv => whnf
        refine Ob.mk ⟨by rw [List.size_toArray, ul_len, hR4]; rfl, ones_ul _⟩ ?_; conv => whnf
        refine StoreX.at f4 (by rw [List.toList_toArray]; omega) ?_; conv => whnf
        erw [id4]
        repeat (refine Ob.mk (by first | exact ld4 | exact ld5 | exact ⟨rfl, rfl⟩) ?_; conv => whnf)
        refine StoreX.at f5 (Nat.le_of_ble_eq_true rfl) ?_; conv => whnf
        erw [id5]
        repeat (refine Ob.mk (by first | exact ld4 | exact ld5 | exact ⟨rfl, rfl⟩) ?_; conv => whnf)
        refine LoadX.of _ ld4 ?_; conv => whnf
        refine LoadX.of _ ld5 ?_; conv => whnf
        exact RetX.drop (h' := h) fk (hk (List.replicate 8 0) a1 a2 a3 hR4 hRL hfin)
      have hn1 : 1 ≤ n := by omega
      have hn8 : n ≤ 8 := by have := hUB.le; omega
      have hBp : lv lB ≠ 0 := by
        have := hBbd.2 (by omega)
        have : (0 : Int) < 18446744073709551616 ^ (n - 1) := Int.pow_pos (by decide)
        omega
      refine CondX.decI (fun htn => ?_) (fun htn => ?_) <;> conv => whnf
      · have ldx : ldV true 8 h0 mx 0 = some (.agg (ul (l.take 8)).toArray) := by
          simp only [ldV, px]
          rw [if_pos (by rw [ul_len, hl]; decide)]
          simp [seg, ul, List.map_take]
        have ld5' : ldV true 3 h0 m5 0 = some (.agg #[.int .u8 0, .int .u8 0, .int .u8 0]) := by
          obtain ⟨v, q1, q2⟩ := (LoadX.all (n := 3) (KK := fun v => v = .agg #[.int .u8 0, .int .u8 0, .int .u8 0]) p5 rfl rfl).run
          rw [q1, q2]
        have hR4 : (l.take 8).length = 8 := by simp; omega
        have hRL : isL (l.take 8) := fun x hx => hL x (List.mem_of_mem_take hx)
        have hl4 : lv l = lv (l.take 8) := by
          have e : l = l.take 8 ++ l.drop 8 := (List.take_append_drop 8 l).symm
          rw [show lv l = lv (l.take 8 ++ l.drop 8) from congrArg lv e, lv_append, lv_zeros (l := l.drop 8) fun i => by
            rw [List.getD_eq_getElem?_getD, List.getElem?_drop, ← List.getD_eq_getElem?_getD]; exact hz _ (by omega)]
          omega
        have hfin : lv (l.take 8) = if lv lB = 0 then 0 else lv l % lv lB := by
          rw [if_neg hBp, ← hl4]
          have h1 : (18446744073709551616 : Int) ^ top ≤ 18446744073709551616 ^ (n - 1) := powB_mono (by omega)
          have h2 := hBbd.2 (by omega)
          rw [Int.emod_eq_of_lt (lv_bd hL).1 (by omega)]
        refine DrawX.go T_ok hM Hval.func336 (tb := dr336) rfl (by kernel_rfl) ?_; conv => whnf
        repeat (refine Ob.mk (by first | decide | omega) ?_; conv => whnf)
        refine LoadX.of _ ldx ?_; conv => whnf
        refine LoadX.of _ ld5' ?_; conv => whnf
        refine Ob.mk ⟨by rw [List.size_toArray, ul_len, hR4]; rfl, ones_ul _⟩ ?_; conv => whnf
        refine StoreX.at p4 (by rw [List.toList_toArray, ul_len, ul_len, hR4]; decide) ?_; conv => whnf
        rw [setSeg_all (by rw [List.toList_toArray, ul_len, ul_len, hR4]; rfl), List.toList_toArray]
        obtain ⟨hF, hhF⟩ : ∃ hF : Hp, hF = hput h0 m4 (ul (l.take 8), 317) := ⟨_, rfl⟩
        rw [← hhF]
        have f4 : hF m4 = some (ul (l.take 8), 317) := by rw [hhF, hput_same]
        have f5 : hF m5 = some ([.int .u8 0, .int .u8 0, .int .u8 0], 378) := by rw [hhF, hput_ne (by omega)]; exact p5
        have fx : hF mx = some (ul l, tx) := by rw [hhF, hput_ne (by omega)]; exact px
        have fk : Ext h hF := fun b z hbz => by
          have := (hold b z hbz).2
          rw [hhF, hput_ne (by omega)]; exact (hold b z hbz).1
        have ldx : ldV true 8 hF mx 0 = some (.agg (ul (l.take 8)).toArray) := by
          simp only [ldV, fx]
          rw [if_pos (by rw [ul_len, hl]; decide)]
          simp [seg, ul, List.map_take]
        have ld4 : ldV true 8 hF m4 0 = some (.agg (ul (l.take 8)).toArray) := by
          obtain ⟨v, q1, q2⟩ := (LoadX.all (n := 8) (KK := fun v => v = .agg (ul (l.take 8)).toArray) f4 (by rw [ul_len, hR4]) rfl).run
          rw [q1, q2]
        have ld5 : ldV true 3 hF m5 0 = some (.agg #[.int .u8 0, .int .u8 0, .int .u8 0]) := by
          obtain ⟨v, q1, q2⟩ := (LoadX.all (n := 3) (KK := fun v => v = .agg #[.int .u8 0, .int .u8 0, .int .u8 0]) f5 rfl rfl).run
          rw [q1, q2]
        have id5 : hput hF m5 ([.int .u8 0, .int .u8 0, .int .u8 0], 378) = hF := hput_id f5
        repeat (refine Ob.mk (by first | exact ldx | exact ld5 | exact ⟨rfl, rfl⟩) ?_; conv => whnf)
        refine StoreX.at f5 (Nat.le_of_ble_eq_true rfl) ?_; conv => whnf
        erw [id5]
        repeat (refine Ob.mk (by first | exact ldx | exact ld5 | exact ⟨rfl, rfl⟩) ?_; conv => whnf)
        refine LoadX.of _ ld4 ?_; conv => whnf
        refine LoadX.of _ ld5 ?_; conv => whnf
        exact RetX.drop (h' := h) fk (hk _ 0 0 0 hR4 hRL hfin)
      have eR : IntKind.u8.wrap (IntKind.u8.wrap (((top : Nat) : Int) - ((n : Nat) : Int)) + 1) = ((top - n + 1 : Nat) : Int) := by rw [wrap_u8, wrap_u8]; omega
      rw [eR]
      refine StoreX.at p5 (Nat.le_of_ble_eq_true rfl) ?_; conv => whnf
      have e5 : setSeg [Value.int .u8 0, .int .u8 0, .int .u8 0] 0 [Value.int .u8 ((top - n + 1 : Nat) : Int)] = [Value.int .u8 ((top - n + 1 : Nat) : Int), .int .u8 0, .int .u8 0] := rfl
      erw [e5]
      refine CondX.eqI (fun hn1e => ?_) (fun hn1e => ?_) <;> conv => whnf
      · have hn1e : n = 1 := by omega
        subst hn1e
        have p5' : hput h0 m5 ([Value.int .u8 ((top - 1 + 1 : Nat) : Int), .int .u8 0, .int .u8 0], 378) m5 = some ([Value.int .u8 ((top - 1 + 1 : Nat) : Int), .int .u8 0, .int .u8 0], 378) := hput_same ..
        have p4' : hput h0 m5 ([Value.int .u8 ((top - 1 + 1 : Nat) : Int), .int .u8 0, .int .u8 0], 378) m4 = some (ul (List.replicate 8 0), 317) := by rw [hput_ne (by omega)]; exact p4
        have px' : hput h0 m5 ([Value.int .u8 ((top - 1 + 1 : Nat) : Int), .int .u8 0, .int .u8 0], 378) mx = some ([] ++ (ul l ++ []), tx) := by rw [hput_ne (by omega)]; exact pxx
        have pv' : hput h0 m5 ([Value.int .u8 ((top - 1 + 1 : Nat) : Int), .int .u8 0, .int .u8 0], 378) mv = some ([] ++ (ul lB ++ []), tv) := by rw [hput_ne (by omega), pv]; simp
        have fk' : Ext h (hput h0 m5 ([Value.int .u8 ((top - 1 + 1 : Nat) : Int), .int .u8 0, .int .u8 0], 378)) := fun b z hbz => by
          have := (hold b z hbz).2
          rw [hput_ne (by omega)]; exact (hold b z hbz).1
        generalize hput h0 m5 ([Value.int .u8 ((top - 1 + 1 : Nat) : Int), .int .u8 0, .int .u8 0], 378) = h2 at *
        obtain ⟨y, hy⟩ := Int.eq_ofNat_of_zero_le (hLB.get 0).1
        have hy1 := (hLB.get 0).2
        have hy0 := hUB.top (by omega)
        have hBy : lv lB = y := by
          rw [hUB.lv, lv_take_succ (by omega), hy]; simp [lv]
        rw [show (1 - 1 : Nat) = 0 from rfl, hy] at hy0
        rw [hy] at hy1
        refine LoopX.st T_ok Hval.func336 (σ := Nat × Nat) (fun z => [(0, .pointer (some ⟨mx, 0, none⟩)), (1, .pointer (some ⟨mv, 0, none⟩)), (4, .pointer (some ⟨m4, 0, none⟩)), (5, .pointer (some ⟨m5, 0, none⟩)), (8, .int .u64 z.2), (9, .int .u8 z.1)])
          (fun z h' => h' = h2 ∧ z.1 ≤ top ∧ z.2 < y ∧ ∃ Q : Int, lv (l.drop z.1) = Q * y + z.2) (fun z => z.1) (top, 0) ⟨rfl, rfl, rfl, rfl, rfl, rfl, trivial⟩ ⟨rfl, Nat.le_refl _, by omega, 0, ?_⟩ ?_
        · dsimp only
          rw [lv_zeros (l := l.drop top) fun i => by rw [List.getD_eq_getElem?_getD, List.getElem?_drop, ← List.getD_eq_getElem?_getD]; exact hz _ (by omega)]
          simp
        rintro ⟨i, r⟩ ρ2 h' ⟨rfl, hi2, hr, Q, hQ⟩ ih
        dsimp only at hi2 hr hQ ⊢
        conv => whnf
        refine CondX.decI (fun hc => ?_) (fun hc => ?_) <;> conv => whnf
        · have e4 : IntKind.u8.wrap (((i : Nat) : Int) - 1) = ((i - 1 : Nat) : Int) := by rw [wrap_u8]; omega
          obtain ⟨x, hx⟩ := Int.eq_ofNat_of_zero_le (hL.get (i - 1)).1
          have hx1 := (hL.get (i - 1)).2
          rw [hx] at hx1
          refine DrawX.go T_ok hM Hval.func336 (tb := dr336) rfl (by kernel_rfl) ?_; conv => whnf
          rw [e4]
          refine Ob.mk (by omega) ?_; conv => whnf
          refine LoadX.lim px' (i - 1) (by rw [Int.toNat_natCast, show (24, y24).snd.size = 1 from rfl, Nat.mul_one]; simp) (by omega) ?_; conv => whnf
          repeat (refine Ob.mk (by first | decide | omega) ?_; conv => whnf)
          refine LoadX.lim pv' 0 rfl (by omega) ?_; conv => whnf
          rw [hx, hy]
          refine nDiv64_ok (by omega) (by omega) (by omega) (fun hge => by omega) fun hlt => ?_; conv => whnf
          have hml : (r * 18446744073709551616 + x) % y < y := Nat.mod_lt _ (by omega)
          refine ih (i - 1, (r * 18446744073709551616 + x) % y) _ _ ⟨rfl, by dsimp only; omega, hml, Q * 18446744073709551616 + ((r * 18446744073709551616 + x) / y : Nat), ?_⟩ (by dsimp only; omega) ⟨rfl, rfl, rfl, rfl, rfl, congrArg (Value.int .u8) e4, trivial⟩
          dsimp only
          have hd : l.drop (i - 1) = l.getD (i - 1) 0 :: l.drop i := by
            rw [List.drop_eq_getElem_cons (by omega), List.getD_eq_getElem?_getD, List.getElem?_eq_getElem (by omega), show i - 1 + 1 = i by omega]; rfl
          have hdm := Nat.div_add_mod (r * 18446744073709551616 + x) y
          have hdm' : (y : Int) * ((r * 18446744073709551616 + x) / y : Nat) + ((r * 18446744073709551616 + x) % y : Nat) = r * 18446744073709551616 + x := by have h2 := congrArg (fun z : Nat => (z : Int)) hdm; simp only [Int.natCast_add, Int.natCast_mul] at h2; exact h2
          rw [hd, lv, hx, hQ]
          generalize (((r * 18446744073709551616 + x) / y : Nat) : Int) = D at *
          generalize (((r * 18446744073709551616 + x) % y : Nat) : Int) = M at *
          grind
        · have hi0 : i = 0 := by omega
          subst hi0
          clear ih
          have p4s : h' m4 = some ([] ++ (ul (List.replicate 8 0) ++ []), 317) := by rw [p4']; simp
          repeat (refine Ob.mk (by first | decide | omega) ?_; conv => whnf)
          refine StoreX.lim p4s 0 rfl (by decide) ?_; conv => whnf
          rw [List.nil_append, List.append_nil]
          obtain ⟨hF, hhF⟩ : ∃ hF : Hp, hF = hput h' m4 (ul ((List.replicate 8 0).set 0 (r : Int)), 317) := ⟨_, rfl⟩
          rw [← hhF]
          have f4 : hF m4 = some (ul [(r : Int), 0, 0, 0, 0, 0, 0, 0], 317) := by rw [hhF, hput_same]; rfl
          obtain ⟨a1, a2, a3, f5⟩ : ∃ a1 a2 a3 : Int, hF m5 = some ([.int .u8 a1, .int .u8 a2, .int .u8 a3], 378) := ⟨_, 0, 0, by rw [hhF, hput_ne (by omega)]; exact p5'⟩
          have fk : Ext h hF := fun b z hbz => by
            have := (hold b z hbz).2
            rw [hhF, hput_ne (by omega)]; exact fk' b z hbz
          have hR4 : ([(r : Int), 0, 0, 0, 0, 0, 0, 0] : List Int).length = 8 := rfl
          have hRL : isL [(r : Int), 0, 0, 0, 0, 0, 0, 0] := fun d hd => by
            rcases List.mem_cons.1 hd with rfl | hd
            · unfold U; omega
            · exact isL_zeros 7 d hd
          have hfin : lv [(r : Int), 0, 0, 0, 0, 0, 0, 0] = if lv lB = 0 then 0 else lv l % lv lB := by
            rw [if_neg hBp, hBy]
            rw [List.drop_zero] at hQ
            rw [hQ, Int.add_comm, Int.mul_comm, Int.add_mul_emod_self_left, Int.emod_eq_of_lt (by omega) (by omega)]
            simp [lv]
          have ld4 : ldV true 8 hF m4 0 = some (.agg (ul [(r : Int), 0, 0, 0, 0, 0, 0, 0]).toArray) := by
            obtain ⟨v, q1, q2⟩ := (LoadX.all (n := 8) (KK := fun v => v = .agg (ul [(r : Int), 0, 0, 0, 0, 0, 0, 0]).toArray) f4 (by rw [ul_len, hR4]) rfl).run
            rw [q1, q2]
          have ld5 : ldV true 3 hF m5 0 = some (.agg #[.int .u8 a1, .int .u8 a2, .int .u8 a3]) := by
            obtain ⟨v, q1, q2⟩ := (LoadX.all (n := 3) (KK := fun v => v = .agg #[.int .u8 a1, .int .u8 a2, .int .u8 a3]) f5 rfl rfl).run
            rw [q1, q2]
          have id4 : hput hF m4 (setSeg (ul [(r : Int), 0, 0, 0, 0, 0, 0, 0]) 0 (ul [(r : Int), 0, 0, 0, 0, 0, 0, 0]), 317) = hF := by rw [setSeg_all rfl]; exact hput_id f4
          have id5 : hput hF m5 ([.int .u8 a1, .int .u8 a2, .int .u8 a3], 378) = hF := hput_id f5
          refine DrawX.go T_ok hM Hval.func336 (tb := dr336) rfl (by kernel_rfl) ?_; conv => whnf
          refine LoadX.of _ ld4 ?_; conv => whnf
          refine LoadX.of _ ld5 ?_; conv => whnf
          refine Ob.mk ⟨by rw [List.size_toArray, ul_len, hR4]; rfl, ones_ul _⟩ ?_; conv => whnf
          refine StoreX.at f4 (by rw [List.toList_toArray]; omega) ?_; conv => whnf
          erw [id4]
          repeat (refine Ob.mk (by first | exact ld4 | exact ld5 | exact ⟨rfl, rfl⟩) ?_; conv => whnf)
          refine StoreX.at f5 (Nat.le_of_ble_eq_true rfl) ?_; conv => whnf
          erw [id5]
          repeat (refine Ob.mk (by first | exact ld4 | exact ld5 | exact ⟨rfl, rfl⟩) ?_; conv => whnf)
          refine LoadX.of _ ld4 ?_; conv => whnf
          refine LoadX.of _ ld5 ?_; conv => whnf
          exact RetX.drop (h' := h) fk (hk [(r : Int), 0, 0, 0, 0, 0, 0, 0] a1 a2 a3 hR4 hRL hfin)
      have hn2 : 2 ≤ n := by omega
      refine BoxX.on fun m8 h58 hm8 => ?_; conv => whnf
      obtain ⟨h2, hh2⟩ : ∃ h2 : Hp, h2 = hput (hput h0 m5 ([Value.int .u8 ((top - n + 1 : Nat) : Int), .int .u8 0, .int .u8 0], 378)) m8 ((412, y412).snd.zero, 412) := ⟨_, rfl⟩
      erw [← hh2]
      have g8 : h2 m8 = some (ul (List.replicate 17 0), 412) := by rw [hh2, hput_same]; rfl
      have gx : h2 mx = some (ul l, tx) := by rw [hh2, hput_ne (by omega), hput_ne (by omega)]; exact px
      have gv : h2 mv = some (ul lB, tv) := by rw [hh2, hput_ne (by omega), hput_ne (by omega)]; exact pv
      have g4 : h2 m4 = some (ul (List.replicate 8 0), 317) := by rw [hh2, hput_ne (by omega), hput_ne (by omega)]; exact p4
      have g5 : h2 m5 = some ([Value.int .u8 ((top - n + 1 : Nat) : Int), .int .u8 0, .int .u8 0], 378) := by rw [hh2, hput_ne (by omega), hput_same]
      have gk : ∀ b z, h b = some z → h2 b = some z ∧ b < m4 := fun b z hbz => by
        have := hold b z hbz
        rw [hh2, hput_ne (by omega), hput_ne (by omega)]; exact this
      clear hh2 p4 p5 px pxx hold pv
      refine DrawX.go T_ok hM Hval.func336 (tb := dr336) rfl (by kernel_rfl) ?_; conv => whnf
      repeat (refine Ob.mk (by first | decide | omega) ?_; conv => whnf)
      refine CopyX.ulG (l := List.replicate 17 0) (l' := l) (p := 17) (q := 16) g8 gx (by simp) hl rfl rfl (by decide) ?_; conv => whnf
      have eU : (l ++ (List.replicate 17 (0 : Int)).drop 16) = l ++ [0] := rfl
      erw [eU]
      refine LoadX.all (c := ul lB) (show hput h2 m8 (ul (l ++ [0]), 412) mv = _ by rw [hput_ne (by omega)]; exact gv) (by rw [ul_len, hlB]; rfl) ?_; conv => whnf
      refine BoxX.on fun m3 h83 hm3 => ?_; conv => whnf
      refine Ob.mk ⟨by rw [List.size_toArray, ul_len, hlB]; rfl, ones_ul _⟩ ?_; conv => whnf
      refine StoreX.same (by rw [List.toList_toArray, ul_len, hlB]; exact Nat.le_of_ble_eq_true rfl) ?_; conv => whnf
      rw [List.toList_toArray, setSeg_all (by rw [ul_len, hlB]; rfl)]
      have e4 : IntKind.u8.wrap (((n : Nat) : Int) - 1) = ((n - 1 : Nat) : Int) := by rw [wrap_u8]; omega
      rw [e4]
      refine Ob.mk (by omega) ?_; conv => whnf
      have g3' : hput (hput h2 m8 (ul (l ++ [0]), 412)) m3 (ul lB, 317) m3 = some ([] ++ (ul lB ++ []), 317) := by rw [hput_same]; simp
      refine LoadX.lim g3' (n - 1) (by rw [Int.toNat_natCast, show (24, y24).snd.size = 1 from rfl, Nat.mul_one]; simp) (by omega) ?_; conv => whnf
      obtain ⟨bt, hbt⟩ := Int.eq_ofNat_of_zero_le (hLB.get (n - 1)).1
      have hbt1 := (hLB.get (n - 1)).2
      have hbt0 := hUB.top (by omega)
      rw [hbt] at hbt1 hbt0 ⊢
      refine nLz64_ok (by omega) (by omega) fun s hs1 hs2 hs3 => ?_; conv => whnf
      have es : IntKind.u8.wrap ((s : Nat) : Int) = ((s : Nat) : Int) := by rw [wrap_u8]; omega
      rw [es]
      repeat (refine Ob.mk (by first | decide | omega) ?_; conv => whnf)
      have hL17 : isL (l ++ [0]) := isL_snoc hL ⟨by decide, by decide⟩
      refine shiftUp_ok (pre := []) (post := []) (l := l ++ [0]) (n := 17) (t := 412) (by rw [hput_ne (by omega), hput_same]; simp) hL17 hs1 (by simp [hl]) (by decide) ?_; conv => whnf
      rw [List.nil_append, List.append_nil]
      repeat (refine Ob.mk (by first | decide | omega) ?_; conv => whnf)
      refine shiftUp_ok (pre := []) (post := []) (l := lB) (n := 8) (t := 317) (by rw [hput_ne (by omega), hput_same]; simp) hLB hs1 hlB (by decide) ?_; conv => whnf
      rw [List.nil_append, List.append_nil]
      obtain ⟨F1, F2, F3, F4, F5, F6⟩ := div_prepG hs1 hl hL hlB hLB hUB hBbd.1 hn2 hbt hs2 hs3 hUl htopb.1 (by omega)
      generalize hlu0 : shU s 0 (l ++ [0]) = lu0 at *
      generalize hlV : shU s 0 lB = lV at *
      obtain ⟨h3, hh3⟩ : ∃ h3 : Hp, h3 = hput (hput (hput (hput h2 m8 (ul (l ++ [0]), 412)) m3 (ul lB, 317)) m8 (ul lu0, 412)) m3 (ul lV, 317) := ⟨_, rfl⟩
      rw [← hh3]
      have k8 : h3 m8 = some (ul lu0, 412) := by rw [hh3, hput_ne (by omega), hput_same]
      have k3 : h3 m3 = some (ul lV, 317) := by rw [hh3, hput_same]
      have k4 : h3 m4 = some (ul (List.replicate 8 0), 317) := by rw [hh3, hput_ne (by omega), hput_ne (by omega), hput_ne (by omega), hput_ne (by omega)]; exact g4
      have k5 : h3 m5 = some ([Value.int .u8 ((top - n + 1 : Nat) : Int), .int .u8 0, .int .u8 0], 378) := by rw [hh3, hput_ne (by omega), hput_ne (by omega), hput_ne (by omega), hput_ne (by omega)]; exact g5
      have kk : Ext h h3 := fun b z hbz => by
        have := (gk b z hbz).2
        rw [hh3, hput_ne (by omega), hput_ne (by omega), hput_ne (by omega), hput_ne (by omega)]; exact (gk b z hbz).1
      clear hh3 g8 gx gv g4 g5 g3'
      refine LoadX.blk k5 (.int .u8 ((top - n + 1 : Nat) : Int)) rfl ?_; conv => whnf
      obtain ⟨G1, G2, G3⟩ := F5
      obtain ⟨G4, G5⟩ := F6
      have hVlen : lV.length = 8 := by rw [← hlV, shU_len, hlB]
      have hUlen : lu0.length = 17 := by rw [← hlu0, shU_len]; simp [hl]
      have hVt : lv (lV.take n) = lv lV := G1.lv.symm
      clear hlu0 hlV
      refine LoopX.st T_ok Hval.func336 (σ := Nat × List Int × Int × Int) (fun z => [(0, .pointer (some ⟨mx, 0, none⟩)), (1, .pointer (some ⟨mv, 0, none⟩)), (4, .pointer (some ⟨m4, 0, none⟩)), (5, .pointer (some ⟨m5, 0, none⟩)), (6, .int .u8 n), (13, .pointer (some ⟨m8, 0, none⟩)), (14, .pointer (some ⟨m3, 0, none⟩)), (15, .int .u8 s), (16, .int .u8 z.1)])
        (fun z h' => (z.1 ≤ top - n + 1 ∧ isL z.2.1 ∧ z.2.1.length = 17 ∧ (∃ X : Int, lv l * 2 ^ s = X * lv lV + lv z.2.1) ∧ (∀ i, z.1 + n ≤ i → z.2.1.getD i 0 = 0) ∧ lv ((z.2.1.drop z.1).take n) < lv lV) ∧
          h' m8 = some (ul z.2.1, 412) ∧ h' m3 = some (ul lV, 317) ∧ h' m4 = some (ul (List.replicate 8 0), 317) ∧ h' m5 = some ([Value.int .u8 ((top - n + 1 : Nat) : Int), .int .u8 z.2.2.1, .int .u8 z.2.2.2], 378) ∧ Ext h h')
        (fun z => z.1) (top - n + 1, lu0, 0, 0) ⟨rfl, rfl, rfl, rfl, rfl, rfl, rfl, rfl, rfl, trivial⟩
        ⟨⟨Nat.le_refl _, F1, hUlen, ⟨0, by dsimp only; rw [F2]; omega⟩, fun i hi' => G4 i (by dsimp only at hi'; omega), G5⟩, k8, k3, k4, k5, kk⟩ ?_
      clear k8 k3 k4 k5 kk
      rintro ⟨j, lu, c2, c3⟩ ρ2 hJ ⟨⟨hj, hLu, hlu, ⟨X, hN⟩, hzu, hlt⟩, k8, k3, k4, k5, kk⟩ ih
      dsimp only at hj hLu hlu hN hzu hlt k8 k5 ⊢
      conv => whnf
      refine CondX.decI (fun hjc => ?_) (fun hjc => ?_) <;> conv => whnf
      · have e1 : IntKind.u8.wrap (((j : Nat) : Int) - 1) = ((j - 1 : Nat) : Int) := by rw [wrap_u8]; omega
        rw [e1]
        refine wRound_ok (j := j - 1) (n := n) k8 k3 (by omega) hLu F3 hlu hVlen hn2 hn8 (by omega) G1 G2 (fun i hi1 _ => hzu i (by omega)) (by rw [show j - 1 + 1 = j by omega, hVt]; exact hlt) fun q l' fx' bk hq hl' hLl' ee el => ?_; conv => whnf
        obtain ⟨D1, D2, D3, D4, D5⟩ := div_roundG (k := j - 1) hLu hlu hLl' hl' (by omega) (by omega) G3 hVt hN (fun i hi1 => hzu i (by omega)) ee el
        generalize lu.take (j - 1) ++ (l' ++ lu.drop (j - 1 + n + 1)) = lu2 at *
        have w5 : hput hJ m8 (ul lu2, 412) m5 = some ([Value.int .u8 ((top - n + 1 : Nat) : Int), .int .u8 c2, .int .u8 c3], 378) := by rw [hput_ne (by omega)]; exact k5
        refine LoadX.blk w5 (.int .u8 c2) rfl ?_; conv => whnf
        refine StoreX.at w5 (Nat.le_of_ble_eq_true rfl) ?_; conv => whnf
        have w6 : ∀ v : Int, setSeg [Value.int .u8 ((top - n + 1 : Nat) : Int), .int .u8 c2, .int .u8 c3] 1 [Value.int .u8 v] = [Value.int .u8 ((top - n + 1 : Nat) : Int), .int .u8 v, .int .u8 c3] := fun v => rfl
        erw [w6]
        have st : ∀ {hN2 : Hp} {d2 d3 : Int}, hN2 = hput (hput hJ m8 (ul lu2, 412)) m5 ([Value.int .u8 ((top - n + 1 : Nat) : Int), .int .u8 d2, .int .u8 d3], 378) →
            ((j - 1 ≤ top - n + 1 ∧ isL lu2 ∧ lu2.length = 17 ∧ (∃ X : Int, lv l * 2 ^ s = X * lv lV + lv lu2) ∧ (∀ i, j - 1 + n ≤ i → lu2.getD i 0 = 0) ∧ lv ((lu2.drop (j - 1)).take n) < lv lV) ∧
              hN2 m8 = some (ul lu2, 412) ∧ hN2 m3 = some (ul lV, 317) ∧ hN2 m4 = some (ul (List.replicate 8 0), 317) ∧ hN2 m5 = some ([Value.int .u8 ((top - n + 1 : Nat) : Int), .int .u8 d2, .int .u8 d3], 378) ∧ Ext h hN2) := fun {hN2 d2 d3} e => by
          subst e
          refine ⟨⟨by omega, D1, D2, ⟨_, D3⟩, D4, D5⟩, by rw [hput_ne (by omega), hput_same], by rw [hput_ne (by omega), hput_ne (by omega)]; exact k3, by rw [hput_ne (by omega), hput_ne (by omega)]; exact k4, hput_same .., fun b z hbz => ?_⟩
          have := (gk b z hbz).2
          rw [hput_ne (by omega), hput_ne (by omega)]; exact kk b z hbz
        cases bk with
        | false =>
          conv => whnf
          repeat (first | (refine CondX.tt ?_; conv => whnf) | (refine CondX.ff ?_; conv => whnf))
          exact ih (j - 1, lu2, _, c3) _ _ (st rfl) (by dsimp only; omega) ⟨rfl, rfl, rfl, rfl, rfl, rfl, rfl, rfl, congrArg (Value.int .u8) e1, trivial⟩
        | true =>
          conv => whnf
          repeat (first | (refine CondX.tt ?_; conv => whnf) | (refine CondX.ff ?_; conv => whnf))
          refine LoadX.of _ ((ldV_same _ _ _ _ _ _ _).trans rfl) ?_; conv => whnf
          refine StoreX.same (Nat.le_of_ble_eq_true rfl) ?_; conv => whnf
          have w7 : ∀ u v : Int, setSeg [Value.int .u8 ((top - n + 1 : Nat) : Int), .int .u8 u, .int .u8 c3] 2 [Value.int .u8 v] = [Value.int .u8 ((top - n + 1 : Nat) : Int), .int .u8 u, .int .u8 v] := fun u v => rfl
          erw [w7]
          exact ih (j - 1, lu2, _, _) _ _ (st rfl) (by dsimp only; omega) ⟨rfl, rfl, rfl, rfl, rfl, rfl, rfl, rfl, congrArg (Value.int .u8) e1, trivial⟩
      · have hj0 : j = 0 := by omega
        subst hj0
        clear ih
        repeat (refine Ob.mk (by first | decide | omega) ?_; conv => whnf)
        have ldx : ldV true 8 hJ m8 0 = some (.agg (ul (lu.take 8)).toArray) := by
          simp only [ldV, k8]
          rw [if_pos (by rw [ul_len, hlu]; decide)]
          simp [seg, ul, List.map_take]
        refine LoadX.of _ ldx ?_; conv => whnf
        have hR4' : (lu.take 8).length = 8 := by simp; omega
        have hRL' : isL (lu.take 8) := fun x hx => hLu x (List.mem_of_mem_take hx)
        refine Ob.mk ⟨by rw [List.size_toArray, ul_len, hR4']; rfl, ones_ul _⟩ ?_; conv => whnf
        refine StoreX.at k4 (by rw [List.toList_toArray, ul_len, ul_len, hR4']; decide) ?_; conv => whnf
        rw [setSeg_all (by rw [List.toList_toArray, ul_len, ul_len, hR4']; rfl), List.toList_toArray]
        repeat (refine Ob.mk (by first | decide | omega) ?_; conv => whnf)
        refine shiftDown_ok (pre := []) (post := []) (l := lu.take 8) (n := 8) (t := 317) (by rw [hput_same]; simp) hRL' hs1 hR4' (by decide) ?_; conv => whnf
        rw [hput_hput, List.nil_append, List.append_nil]
        have hrv : isL (lu.take 8).reverse := fun x hx => hRL' x (List.mem_reverse.1 hx)
        obtain ⟨S1, e, S2, S3⟩ := shD_ok hs1 hrv (x := 0) (Nat.pow_pos (by decide))
        have hR4 : (shD s 0 (lu.take 8).reverse).reverse.length = 8 := by rw [List.length_reverse, shD_len, List.length_reverse, hR4']
        have hRL : isL (shD s 0 (lu.take 8).reverse).reverse := fun x hx => S1 x (List.mem_reverse.1 hx)
        rw [List.reverse_reverse] at S3
        generalize (shD s 0 (lu.take 8).reverse).reverse = RR at *
        obtain ⟨hF, hhF⟩ : ∃ hF : Hp, hF = hput hJ m4 (ul RR, 317) := ⟨_, rfl⟩
        rw [← hhF]
        have f4 : hF m4 = some (ul RR, 317) := by rw [hhF, hput_same]
        obtain ⟨a1, a2, a3, f5⟩ : ∃ a1 a2 a3 : Int, hF m5 = some ([.int .u8 a1, .int .u8 a2, .int .u8 a3], 378) := ⟨_, _, _, by rw [hhF, hput_ne (by omega)]; exact k5⟩
        have fk : Ext h hF := fun b z hbz => by
          have := (gk b z hbz).2
          rw [hhF, hput_ne (by omega)]; exact kk b z hbz
        have hl4 : lv lu = lv (lu.take 8) := by
          rw [lv_drop (l := lu) (n := 8) (by omega), lv_zeros (l := lu.drop 8) fun i => by
            rw [List.getD_eq_getElem?_getD, List.getElem?_drop, ← List.getD_eq_getElem?_getD]; exact hzu _ (by omega)]
          omega
        have hltu : lv lu < lv lV := by
          rw [List.drop_zero] at hlt
          have : lv lu = lv (lu.take n) := by
            rw [lv_drop (l := lu) (n := n) (by omega), lv_zeros (l := lu.drop n) fun i => by
              rw [List.getD_eq_getElem?_getD, List.getElem?_drop, ← List.getD_eq_getElem?_getD]; exact hzu _ (by omega)]
            omega
          omega
        have hfin : lv RR = if lv lB = 0 then 0 else lv l % lv lB := by
          rw [if_neg hBp]
          obtain ⟨q1, q2⟩ := div_end (L := lv l) (X := X) (V := lv lB) (R := lv RR) (Lu := lv lu) (e := e) S2 (by rw [← F4]; exact hN) (by rw [hl4, ← S3]; simp) (by rw [← F4]; exact hltu)
          rw [q1, Int.add_comm, Int.mul_comm, Int.add_mul_emod_self_left, Int.emod_eq_of_lt (lv_bd hRL).1 q2]
        have ld4 : ldV true 8 hF m4 0 = some (.agg (ul RR).toArray) := by
          obtain ⟨v, q1, q2⟩ := (LoadX.all (n := 8) (KK := fun v => v = .agg (ul RR).toArray) f4 (by rw [ul_len, hR4]) rfl).run
          rw [q1, q2]
        have ld5 : ldV true 3 hF m5 0 = some (.agg #[.int .u8 a1, .int .u8 a2, .int .u8 a3]) := by
          obtain ⟨v, q1, q2⟩ := (LoadX.all (n := 3) (KK := fun v => v = .agg #[.int .u8 a1, .int .u8 a2, .int .u8 a3]) f5 rfl rfl).run
          rw [q1, q2]
        have id4 : hput hF m4 (setSeg (ul RR) 0 (ul RR), 317) = hF := by rw [setSeg_all rfl]; exact hput_id f4
        have id5 : hput hF m5 ([.int .u8 a1, .int .u8 a2, .int .u8 a3], 378) = hF := hput_id f5
        refine DrawX.go T_ok hM Hval.func336 (tb := dr336) rfl (by kernel_rfl) ?_; conv => whnf
        refine LoadX.of _ ld4 ?_; conv => whnf
        refine LoadX.of _ ld5 ?_; conv => whnf
        refine Ob.mk ⟨by rw [List.size_toArray, ul_len, hR4]; rfl, ones_ul _⟩ ?_; conv => whnf
        refine StoreX.at f4 (by rw [List.toList_toArray]; omega) ?_; conv => whnf
        erw [id4]
        repeat (refine Ob.mk (by first | exact ld4 | exact ld5 | exact ⟨rfl, rfl⟩) ?_; conv => whnf)
        refine StoreX.at f5 (Nat.le_of_ble_eq_true rfl) ?_; conv => whnf
        erw [id5]
        repeat (refine Ob.mk (by first | exact ld4 | exact ld5 | exact ⟨rfl, rfl⟩) ?_; conv => whnf)
        refine LoadX.of _ ld4 ?_; conv => whnf
        refine LoadX.of _ ld5 ?_; conv => whnf
        exact RetX.drop (h' := h) fk (hk RR a1 a2 a3 hR4 hRL hfin)
  · repeat (first | (refine CondX.tt ?_; conv => whnf) | (refine CondX.ff ?_; conv => whnf))
    clear ih
    have hUl : Used l top := ⟨by omega, hz, fun hh => by omega⟩
    have htopb := hUl.bd hL
    refine CondX.eqI (fun hn0 => ?_) (fun hn0 => ?_) <;> conv => whnf
    · have hn0 : n = 0 := by omega
      subst hn0
      obtain ⟨hF, hhF⟩ : ∃ hF : Hp, hF = h0 := ⟨_, rfl⟩
      rw [← hhF]
      have f4 : hF m4 = some (ul (List.replicate 8 0), 317) := by rw [hhF]; exact p4
      obtain ⟨a1, a2, a3, f5⟩ : ∃ a1 a2 a3 : Int, hF m5 = some ([.int .u8 a1, .int .u8 a2, .int .u8 a3], 378) := ⟨0, 0, 0, by rw [hhF]; exact p5⟩
      have fk : Ext h hF := fun b z hbz => by rw [hhF]; exact (hold b z hbz).1
      have hR4 : (List.replicate 8 (0 : Int)).length = 8 := rfl
      have hRL : isL (List.replicate 8 0) := isL_zeros 8
      have hB0 : lv lB = 0 := by rw [hUB.lv, List.take_zero]; rfl
      have hfin : lv (List.replicate 8 0) = if lv lB = 0 then 0 else lv l % lv lB := by rw [if_pos hB0]; exact lv_rep 8
      have ld4 : ldV true 8 hF m4 0 = some (.agg (ul (List.replicate 8 0)).toArray) := by
        obtain ⟨v, q1, q2⟩ := (LoadX.all (n := 8) (KK := fun v => v = .agg (ul (List.replicate 8 0)).toArray) f4 (by rw [ul_len, hR4]) rfl).run
        rw [q1, q2]
      have ld5 : ldV true 3 hF m5 0 = some (.agg #[.int .u8 a1, .int .u8 a2, .int .u8 a3]) := by
        obtain ⟨v, q1, q2⟩ := (LoadX.all (n := 3) (KK := fun v => v = .agg #[.int .u8 a1, .int .u8 a2, .int .u8 a3]) f5 rfl rfl).run
        rw [q1, q2]
      have id4 : hput hF m4 (setSeg (ul (List.replicate 8 0)) 0 (ul (List.replicate 8 0)), 317) = hF := by rw [setSeg_all rfl]; exact hput_id f4
      have id5 : hput hF m5 ([.int .u8 a1, .int .u8 a2, .int .u8 a3], 378) = hF := hput_id f5
      refine DrawX.go T_ok hM Hval.func336 (tb := dr336) rfl (by kernel_rfl) ?_; conv => whnf
      refine LoadX.of _ ld4 ?_; conv => whnf
      refine LoadX.of _ ld5 ?_; conv => whnf
      refine Ob.mk ⟨by rw [List.size_toArray, ul_len, hR4]; rfl, ones_ul _⟩ ?_; conv => whnf
      refine StoreX.at f4 (by rw [List.toList_toArray]; omega) ?_; conv => whnf
      erw [id4]
      repeat (refine Ob.mk (by first | exact ld4 | exact ld5 | exact ⟨rfl, rfl⟩) ?_; conv => whnf)
      refine StoreX.at f5 (Nat.le_of_ble_eq_true rfl) ?_; conv => whnf
      erw [id5]
      repeat (refine Ob.mk (by first | exact ld4 | exact ld5 | exact ⟨rfl, rfl⟩) ?_; conv => whnf)
      refine LoadX.of _ ld4 ?_; conv => whnf
      refine LoadX.of _ ld5 ?_; conv => whnf
      exact RetX.drop (h' := h) fk (hk (List.replicate 8 0) a1 a2 a3 hR4 hRL hfin)
    have hn1 : 1 ≤ n := by omega
    have hn8 : n ≤ 8 := by have := hUB.le; omega
    have hBp : lv lB ≠ 0 := by
      have := hBbd.2 (by omega)
      have : (0 : Int) < 18446744073709551616 ^ (n - 1) := Int.pow_pos (by decide)
      omega
    refine CondX.decI (fun htn => ?_) (fun htn => ?_) <;> conv => whnf
    · have ldx : ldV true 8 h0 mx 0 = some (.agg (ul (l.take 8)).toArray) := by
        simp only [ldV, px]
        rw [if_pos (by rw [ul_len, hl]; decide)]
        simp [seg, ul, List.map_take]
      have ld5' : ldV true 3 h0 m5 0 = some (.agg #[.int .u8 0, .int .u8 0, .int .u8 0]) := by
        obtain ⟨v, q1, q2⟩ := (LoadX.all (n := 3) (KK := fun v => v = .agg #[.int .u8 0, .int .u8 0, .int .u8 0]) p5 rfl rfl).run
        rw [q1, q2]
      have hR4 : (l.take 8).length = 8 := by simp; omega
      have hRL : isL (l.take 8) := fun x hx => hL x (List.mem_of_mem_take hx)
      have hl4 : lv l = lv (l.take 8) := by
        have e : l = l.take 8 ++ l.drop 8 := (List.take_append_drop 8 l).symm
        rw [show lv l = lv (l.take 8 ++ l.drop 8) from congrArg lv e, lv_append, lv_zeros (l := l.drop 8) fun i => by
          rw [List.getD_eq_getElem?_getD, List.getElem?_drop, ← List.getD_eq_getElem?_getD]; exact hz _ (by omega)]
        omega
      have hfin : lv (l.take 8) = if lv lB = 0 then 0 else lv l % lv lB := by
        rw [if_neg hBp, ← hl4]
        have h1 : (18446744073709551616 : Int) ^ top ≤ 18446744073709551616 ^ (n - 1) := powB_mono (by omega)
        have h2 := hBbd.2 (by omega)
        rw [Int.emod_eq_of_lt (lv_bd hL).1 (by omega)]
      refine DrawX.go T_ok hM Hval.func336 (tb := dr336) rfl (by kernel_rfl) ?_; conv => whnf
      repeat (refine Ob.mk (by first | decide | omega) ?_; conv => whnf)
      refine LoadX.of _ ldx ?_; conv => whnf
      refine LoadX.of _ ld5' ?_; conv => whnf
      refine Ob.mk ⟨by rw [List.size_toArray, ul_len, hR4]; rfl, ones_ul _⟩ ?_; conv => whnf
      refine StoreX.at p4 (by rw [List.toList_toArray, ul_len, ul_len, hR4]; decide) ?_; conv => whnf
      rw [setSeg_all (by rw [List.toList_toArray, ul_len, ul_len, hR4]; rfl), List.toList_toArray]
      obtain ⟨hF, hhF⟩ : ∃ hF : Hp, hF = hput h0 m4 (ul (l.take 8), 317) := ⟨_, rfl⟩
      rw [← hhF]
      have f4 : hF m4 = some (ul (l.take 8), 317) := by rw [hhF, hput_same]
      have f5 : hF m5 = some ([.int .u8 0, .int .u8 0, .int .u8 0], 378) := by rw [hhF, hput_ne (by omega)]; exact p5
      have fx : hF mx = some (ul l, tx) := by rw [hhF, hput_ne (by omega)]; exact px
      have fk : Ext h hF := fun b z hbz => by
        have := (hold b z hbz).2
        rw [hhF, hput_ne (by omega)]; exact (hold b z hbz).1
      have ldx : ldV true 8 hF mx 0 = some (.agg (ul (l.take 8)).toArray) := by
        simp only [ldV, fx]
        rw [if_pos (by rw [ul_len, hl]; decide)]
        simp [seg, ul, List.map_take]
      have ld4 : ldV true 8 hF m4 0 = some (.agg (ul (l.take 8)).toArray) := by
        obtain ⟨v, q1, q2⟩ := (LoadX.all (n := 8) (KK := fun v => v = .agg (ul (l.take 8)).toArray) f4 (by rw [ul_len, hR4]) rfl).run
        rw [q1, q2]
      have ld5 : ldV true 3 hF m5 0 = some (.agg #[.int .u8 0, .int .u8 0, .int .u8 0]) := by
        obtain ⟨v, q1, q2⟩ := (LoadX.all (n := 3) (KK := fun v => v = .agg #[.int .u8 0, .int .u8 0, .int .u8 0]) f5 rfl rfl).run
        rw [q1, q2]
      have id5 : hput hF m5 ([.int .u8 0, .int .u8 0, .int .u8 0], 378) = hF := hput_id f5
      repeat (refine Ob.mk (by first | exact ldx | exact ld5 | exact ⟨rfl, rfl⟩) ?_; conv => whnf)
      refine StoreX.at f5 (Nat.le_of_ble_eq_true rfl) ?_; conv => whnf
      erw [id5]
      repeat (refine Ob.mk (by first | exact ldx | exact ld5 | exact ⟨rfl, rfl⟩) ?_; conv => whnf)
      refine LoadX.of _ ld4 ?_; conv => whnf
      refine LoadX.of _ ld5 ?_; conv => whnf
      exact RetX.drop (h' := h) fk (hk _ 0 0 0 hR4 hRL hfin)
    have eR : IntKind.u8.wrap (IntKind.u8.wrap (((top : Nat) : Int) - ((n : Nat) : Int)) + 1) = ((top - n + 1 : Nat) : Int) := by rw [wrap_u8, wrap_u8]; omega
    rw [eR]
    refine StoreX.at p5 (Nat.le_of_ble_eq_true rfl) ?_; conv => whnf
    have e5 : setSeg [Value.int .u8 0, .int .u8 0, .int .u8 0] 0 [Value.int .u8 ((top - n + 1 : Nat) : Int)] = [Value.int .u8 ((top - n + 1 : Nat) : Int), .int .u8 0, .int .u8 0] := rfl
    erw [e5]
    refine CondX.eqI (fun hn1e => ?_) (fun hn1e => ?_) <;> conv => whnf
    · have hn1e : n = 1 := by omega
      subst hn1e
      have p5' : hput h0 m5 ([Value.int .u8 ((top - 1 + 1 : Nat) : Int), .int .u8 0, .int .u8 0], 378) m5 = some ([Value.int .u8 ((top - 1 + 1 : Nat) : Int), .int .u8 0, .int .u8 0], 378) := hput_same ..
      have p4' : hput h0 m5 ([Value.int .u8 ((top - 1 + 1 : Nat) : Int), .int .u8 0, .int .u8 0], 378) m4 = some (ul (List.replicate 8 0), 317) := by rw [hput_ne (by omega)]; exact p4
      have px' : hput h0 m5 ([Value.int .u8 ((top - 1 + 1 : Nat) : Int), .int .u8 0, .int .u8 0], 378) mx = some ([] ++ (ul l ++ []), tx) := by rw [hput_ne (by omega)]; exact pxx
      have pv' : hput h0 m5 ([Value.int .u8 ((top - 1 + 1 : Nat) : Int), .int .u8 0, .int .u8 0], 378) mv = some ([] ++ (ul lB ++ []), tv) := by rw [hput_ne (by omega), pv]; simp
      have fk' : Ext h (hput h0 m5 ([Value.int .u8 ((top - 1 + 1 : Nat) : Int), .int .u8 0, .int .u8 0], 378)) := fun b z hbz => by
        have := (hold b z hbz).2
        rw [hput_ne (by omega)]; exact (hold b z hbz).1
      generalize hput h0 m5 ([Value.int .u8 ((top - 1 + 1 : Nat) : Int), .int .u8 0, .int .u8 0], 378) = h2 at *
      obtain ⟨y, hy⟩ := Int.eq_ofNat_of_zero_le (hLB.get 0).1
      have hy1 := (hLB.get 0).2
      have hy0 := hUB.top (by omega)
      have hBy : lv lB = y := by
        rw [hUB.lv, lv_take_succ (by omega), hy]; simp [lv]
      rw [show (1 - 1 : Nat) = 0 from rfl, hy] at hy0
      rw [hy] at hy1
      refine LoopX.st T_ok Hval.func336 (σ := Nat × Nat) (fun z => [(0, .pointer (some ⟨mx, 0, none⟩)), (1, .pointer (some ⟨mv, 0, none⟩)), (4, .pointer (some ⟨m4, 0, none⟩)), (5, .pointer (some ⟨m5, 0, none⟩)), (8, .int .u64 z.2), (9, .int .u8 z.1)])
        (fun z h' => h' = h2 ∧ z.1 ≤ top ∧ z.2 < y ∧ ∃ Q : Int, lv (l.drop z.1) = Q * y + z.2) (fun z => z.1) (top, 0) ⟨rfl, rfl, rfl, rfl, rfl, rfl, trivial⟩ ⟨rfl, Nat.le_refl _, by omega, 0, ?_⟩ ?_
      · dsimp only
        rw [lv_zeros (l := l.drop top) fun i => by rw [List.getD_eq_getElem?_getD, List.getElem?_drop, ← List.getD_eq_getElem?_getD]; exact hz _ (by omega)]
        simp
      rintro ⟨i, r⟩ ρ2 h' ⟨rfl, hi2, hr, Q, hQ⟩ ih
      dsimp only at hi2 hr hQ ⊢
      conv => whnf
      refine CondX.decI (fun hc => ?_) (fun hc => ?_) <;> conv => whnf
      · have e4 : IntKind.u8.wrap (((i : Nat) : Int) - 1) = ((i - 1 : Nat) : Int) := by rw [wrap_u8]; omega
        obtain ⟨x, hx⟩ := Int.eq_ofNat_of_zero_le (hL.get (i - 1)).1
        have hx1 := (hL.get (i - 1)).2
        rw [hx] at hx1
        refine DrawX.go T_ok hM Hval.func336 (tb := dr336) rfl (by kernel_rfl) ?_; conv => whnf
        rw [e4]
        refine Ob.mk (by omega) ?_; conv => whnf
        refine LoadX.lim px' (i - 1) (by rw [Int.toNat_natCast, show (24, y24).snd.size = 1 from rfl, Nat.mul_one]; simp) (by omega) ?_; conv => whnf
        repeat (refine Ob.mk (by first | decide | omega) ?_; conv => whnf)
        refine LoadX.lim pv' 0 rfl (by omega) ?_; conv => whnf
        rw [hx, hy]
        refine nDiv64_ok (by omega) (by omega) (by omega) (fun hge => by omega) fun hlt => ?_; conv => whnf
        have hml : (r * 18446744073709551616 + x) % y < y := Nat.mod_lt _ (by omega)
        refine ih (i - 1, (r * 18446744073709551616 + x) % y) _ _ ⟨rfl, by dsimp only; omega, hml, Q * 18446744073709551616 + ((r * 18446744073709551616 + x) / y : Nat), ?_⟩ (by dsimp only; omega) ⟨rfl, rfl, rfl, rfl, rfl, congrArg (Value.int .u8) e4, trivial⟩
        dsimp only
        have hd : l.drop (i - 1) = l.getD (i - 1) 0 :: l.drop i := by
          rw [List.drop_eq_getElem_cons (by omega), List.getD_eq_getElem?_getD, List.getElem?_eq_getElem (by omega), show i - 1 + 1 = i by omega]; rfl
        have hdm := Nat.div_add_mod (r * 18446744073709551616 + x) y
        have hdm' : (y : Int) * ((r * 18446744073709551616 + x) / y : Nat) + ((r * 18446744073709551616 + x) % y : Nat) = r * 18446744073709551616 + x := by have h2 := congrArg (fun z : Nat => (z : Int)) hdm; simp only [Int.natCast_add, Int.natCast_mul] at h2; exact h2
        rw [hd, lv, hx, hQ]
        generalize (((r * 18446744073709551616 + x) / y : Nat) : Int) = D at *
        generalize (((r * 18446744073709551616 + x) % y : Nat) : Int) = M at *
        grind
      · have hi0 : i = 0 := by omega
        subst hi0
        clear ih
        have p4s : h' m4 = some ([] ++ (ul (List.replicate 8 0) ++ []), 317) := by rw [p4']; simp
        repeat (refine Ob.mk (by first | decide | omega) ?_; conv => whnf)
        refine StoreX.lim p4s 0 rfl (by decide) ?_; conv => whnf
        rw [List.nil_append, List.append_nil]
        obtain ⟨hF, hhF⟩ : ∃ hF : Hp, hF = hput h' m4 (ul ((List.replicate 8 0).set 0 (r : Int)), 317) := ⟨_, rfl⟩
        rw [← hhF]
        have f4 : hF m4 = some (ul [(r : Int), 0, 0, 0, 0, 0, 0, 0], 317) := by rw [hhF, hput_same]; rfl
        obtain ⟨a1, a2, a3, f5⟩ : ∃ a1 a2 a3 : Int, hF m5 = some ([.int .u8 a1, .int .u8 a2, .int .u8 a3], 378) := ⟨_, 0, 0, by rw [hhF, hput_ne (by omega)]; exact p5'⟩
        have fk : Ext h hF := fun b z hbz => by
          have := (hold b z hbz).2
          rw [hhF, hput_ne (by omega)]; exact fk' b z hbz
        have hR4 : ([(r : Int), 0, 0, 0, 0, 0, 0, 0] : List Int).length = 8 := rfl
        have hRL : isL [(r : Int), 0, 0, 0, 0, 0, 0, 0] := fun d hd => by
          rcases List.mem_cons.1 hd with rfl | hd
          · unfold U; omega
          · exact isL_zeros 7 d hd
        have hfin : lv [(r : Int), 0, 0, 0, 0, 0, 0, 0] = if lv lB = 0 then 0 else lv l % lv lB := by
          rw [if_neg hBp, hBy]
          rw [List.drop_zero] at hQ
          rw [hQ, Int.add_comm, Int.mul_comm, Int.add_mul_emod_self_left, Int.emod_eq_of_lt (by omega) (by omega)]
          simp [lv]
        have ld4 : ldV true 8 hF m4 0 = some (.agg (ul [(r : Int), 0, 0, 0, 0, 0, 0, 0]).toArray) := by
          obtain ⟨v, q1, q2⟩ := (LoadX.all (n := 8) (KK := fun v => v = .agg (ul [(r : Int), 0, 0, 0, 0, 0, 0, 0]).toArray) f4 (by rw [ul_len, hR4]) rfl).run
          rw [q1, q2]
        have ld5 : ldV true 3 hF m5 0 = some (.agg #[.int .u8 a1, .int .u8 a2, .int .u8 a3]) := by
          obtain ⟨v, q1, q2⟩ := (LoadX.all (n := 3) (KK := fun v => v = .agg #[.int .u8 a1, .int .u8 a2, .int .u8 a3]) f5 rfl rfl).run
          rw [q1, q2]
        have id4 : hput hF m4 (setSeg (ul [(r : Int), 0, 0, 0, 0, 0, 0, 0]) 0 (ul [(r : Int), 0, 0, 0, 0, 0, 0, 0]), 317) = hF := by rw [setSeg_all rfl]; exact hput_id f4
        have id5 : hput hF m5 ([.int .u8 a1, .int .u8 a2, .int .u8 a3], 378) = hF := hput_id f5
        refine DrawX.go T_ok hM Hval.func336 (tb := dr336) rfl (by kernel_rfl) ?_; conv => whnf
        refine LoadX.of _ ld4 ?_; conv => whnf
        refine LoadX.of _ ld5 ?_; conv => whnf
        refine Ob.mk ⟨by rw [List.size_toArray, ul_len, hR4]; rfl, ones_ul _⟩ ?_; conv => whnf
        refine StoreX.at f4 (by rw [List.toList_toArray]; omega) ?_; conv => whnf
        erw [id4]
        repeat (refine Ob.mk (by first | exact ld4 | exact ld5 | exact ⟨rfl, rfl⟩) ?_; conv => whnf)
        refine StoreX.at f5 (Nat.le_of_ble_eq_true rfl) ?_; conv => whnf
        erw [id5]
        repeat (refine Ob.mk (by first | exact ld4 | exact ld5 | exact ⟨rfl, rfl⟩) ?_; conv => whnf)
        refine LoadX.of _ ld4 ?_; conv => whnf
        refine LoadX.of _ ld5 ?_; conv => whnf
        exact RetX.drop (h' := h) fk (hk [(r : Int), 0, 0, 0, 0, 0, 0, 0] a1 a2 a3 hR4 hRL hfin)
    have hn2 : 2 ≤ n := by omega
    refine BoxX.on fun m8 h58 hm8 => ?_; conv => whnf
    obtain ⟨h2, hh2⟩ : ∃ h2 : Hp, h2 = hput (hput h0 m5 ([Value.int .u8 ((top - n + 1 : Nat) : Int), .int .u8 0, .int .u8 0], 378)) m8 ((412, y412).snd.zero, 412) := ⟨_, rfl⟩
    erw [← hh2]
    have g8 : h2 m8 = some (ul (List.replicate 17 0), 412) := by rw [hh2, hput_same]; rfl
    have gx : h2 mx = some (ul l, tx) := by rw [hh2, hput_ne (by omega), hput_ne (by omega)]; exact px
    have gv : h2 mv = some (ul lB, tv) := by rw [hh2, hput_ne (by omega), hput_ne (by omega)]; exact pv
    have g4 : h2 m4 = some (ul (List.replicate 8 0), 317) := by rw [hh2, hput_ne (by omega), hput_ne (by omega)]; exact p4
    have g5 : h2 m5 = some ([Value.int .u8 ((top - n + 1 : Nat) : Int), .int .u8 0, .int .u8 0], 378) := by rw [hh2, hput_ne (by omega), hput_same]
    have gk : ∀ b z, h b = some z → h2 b = some z ∧ b < m4 := fun b z hbz => by
      have := hold b z hbz
      rw [hh2, hput_ne (by omega), hput_ne (by omega)]; exact this
    clear hh2 p4 p5 px pxx hold pv
    refine DrawX.go T_ok hM Hval.func336 (tb := dr336) rfl (by kernel_rfl) ?_; conv => whnf
    repeat (refine Ob.mk (by first | decide | omega) ?_; conv => whnf)
    refine CopyX.ulG (l := List.replicate 17 0) (l' := l) (p := 17) (q := 16) g8 gx (by simp) hl rfl rfl (by decide) ?_; conv => whnf
    have eU : (l ++ (List.replicate 17 (0 : Int)).drop 16) = l ++ [0] := rfl
    erw [eU]
    refine LoadX.all (c := ul lB) (show hput h2 m8 (ul (l ++ [0]), 412) mv = _ by rw [hput_ne (by omega)]; exact gv) (by rw [ul_len, hlB]; rfl) ?_; conv => whnf
    refine BoxX.on fun m3 h83 hm3 => ?_; conv => whnf
    refine Ob.mk ⟨by rw [List.size_toArray, ul_len, hlB]; rfl, ones_ul _⟩ ?_; conv => whnf
    refine StoreX.same (by rw [List.toList_toArray, ul_len, hlB]; exact Nat.le_of_ble_eq_true rfl) ?_; conv => whnf
    rw [List.toList_toArray, setSeg_all (by rw [ul_len, hlB]; rfl)]
    have e4 : IntKind.u8.wrap (((n : Nat) : Int) - 1) = ((n - 1 : Nat) : Int) := by rw [wrap_u8]; omega
    rw [e4]
    refine Ob.mk (by omega) ?_; conv => whnf
    have g3' : hput (hput h2 m8 (ul (l ++ [0]), 412)) m3 (ul lB, 317) m3 = some ([] ++ (ul lB ++ []), 317) := by rw [hput_same]; simp
    refine LoadX.lim g3' (n - 1) (by rw [Int.toNat_natCast, show (24, y24).snd.size = 1 from rfl, Nat.mul_one]; simp) (by omega) ?_; conv => whnf
    obtain ⟨bt, hbt⟩ := Int.eq_ofNat_of_zero_le (hLB.get (n - 1)).1
    have hbt1 := (hLB.get (n - 1)).2
    have hbt0 := hUB.top (by omega)
    rw [hbt] at hbt1 hbt0 ⊢
    refine nLz64_ok (by omega) (by omega) fun s hs1 hs2 hs3 => ?_; conv => whnf
    have es : IntKind.u8.wrap ((s : Nat) : Int) = ((s : Nat) : Int) := by rw [wrap_u8]; omega
    rw [es]
    repeat (refine Ob.mk (by first | decide | omega) ?_; conv => whnf)
    have hL17 : isL (l ++ [0]) := isL_snoc hL ⟨by decide, by decide⟩
    refine shiftUp_ok (pre := []) (post := []) (l := l ++ [0]) (n := 17) (t := 412) (by rw [hput_ne (by omega), hput_same]; simp) hL17 hs1 (by simp [hl]) (by decide) ?_; conv => whnf
    rw [List.nil_append, List.append_nil]
    repeat (refine Ob.mk (by first | decide | omega) ?_; conv => whnf)
    refine shiftUp_ok (pre := []) (post := []) (l := lB) (n := 8) (t := 317) (by rw [hput_ne (by omega), hput_same]; simp) hLB hs1 hlB (by decide) ?_; conv => whnf
    rw [List.nil_append, List.append_nil]
    obtain ⟨F1, F2, F3, F4, F5, F6⟩ := div_prepG hs1 hl hL hlB hLB hUB hBbd.1 hn2 hbt hs2 hs3 hUl htopb.1 (by omega)
    generalize hlu0 : shU s 0 (l ++ [0]) = lu0 at *
    generalize hlV : shU s 0 lB = lV at *
    obtain ⟨h3, hh3⟩ : ∃ h3 : Hp, h3 = hput (hput (hput (hput h2 m8 (ul (l ++ [0]), 412)) m3 (ul lB, 317)) m8 (ul lu0, 412)) m3 (ul lV, 317) := ⟨_, rfl⟩
    rw [← hh3]
    have k8 : h3 m8 = some (ul lu0, 412) := by rw [hh3, hput_ne (by omega), hput_same]
    have k3 : h3 m3 = some (ul lV, 317) := by rw [hh3, hput_same]
    have k4 : h3 m4 = some (ul (List.replicate 8 0), 317) := by rw [hh3, hput_ne (by omega), hput_ne (by omega), hput_ne (by omega), hput_ne (by omega)]; exact g4
    have k5 : h3 m5 = some ([Value.int .u8 ((top - n + 1 : Nat) : Int), .int .u8 0, .int .u8 0], 378) := by rw [hh3, hput_ne (by omega), hput_ne (by omega), hput_ne (by omega), hput_ne (by omega)]; exact g5
    have kk : Ext h h3 := fun b z hbz => by
      have := (gk b z hbz).2
      rw [hh3, hput_ne (by omega), hput_ne (by omega), hput_ne (by omega), hput_ne (by omega)]; exact (gk b z hbz).1
    clear hh3 g8 gx gv g4 g5 g3'
    refine LoadX.blk k5 (.int .u8 ((top - n + 1 : Nat) : Int)) rfl ?_; conv => whnf
    obtain ⟨G1, G2, G3⟩ := F5
    obtain ⟨G4, G5⟩ := F6
    have hVlen : lV.length = 8 := by rw [← hlV, shU_len, hlB]
    have hUlen : lu0.length = 17 := by rw [← hlu0, shU_len]; simp [hl]
    have hVt : lv (lV.take n) = lv lV := G1.lv.symm
    clear hlu0 hlV
    refine LoopX.st T_ok Hval.func336 (σ := Nat × List Int × Int × Int) (fun z => [(0, .pointer (some ⟨mx, 0, none⟩)), (1, .pointer (some ⟨mv, 0, none⟩)), (4, .pointer (some ⟨m4, 0, none⟩)), (5, .pointer (some ⟨m5, 0, none⟩)), (6, .int .u8 n), (13, .pointer (some ⟨m8, 0, none⟩)), (14, .pointer (some ⟨m3, 0, none⟩)), (15, .int .u8 s), (16, .int .u8 z.1)])
      (fun z h' => (z.1 ≤ top - n + 1 ∧ isL z.2.1 ∧ z.2.1.length = 17 ∧ (∃ X : Int, lv l * 2 ^ s = X * lv lV + lv z.2.1) ∧ (∀ i, z.1 + n ≤ i → z.2.1.getD i 0 = 0) ∧ lv ((z.2.1.drop z.1).take n) < lv lV) ∧
        h' m8 = some (ul z.2.1, 412) ∧ h' m3 = some (ul lV, 317) ∧ h' m4 = some (ul (List.replicate 8 0), 317) ∧ h' m5 = some ([Value.int .u8 ((top - n + 1 : Nat) : Int), .int .u8 z.2.2.1, .int .u8 z.2.2.2], 378) ∧ Ext h h')
      (fun z => z.1) (top - n + 1, lu0, 0, 0) ⟨rfl, rfl, rfl, rfl, rfl, rfl, rfl, rfl, rfl, trivial⟩
      ⟨⟨Nat.le_refl _, F1, hUlen, ⟨0, by dsimp only; rw [F2]; omega⟩, fun i hi' => G4 i (by dsimp only at hi'; omega), G5⟩, k8, k3, k4, k5, kk⟩ ?_
    clear k8 k3 k4 k5 kk
    rintro ⟨j, lu, c2, c3⟩ ρ2 hJ ⟨⟨hj, hLu, hlu, ⟨X, hN⟩, hzu, hlt⟩, k8, k3, k4, k5, kk⟩ ih
    dsimp only at hj hLu hlu hN hzu hlt k8 k5 ⊢
    conv => whnf
    refine CondX.decI (fun hjc => ?_) (fun hjc => ?_) <;> conv => whnf
    · have e1 : IntKind.u8.wrap (((j : Nat) : Int) - 1) = ((j - 1 : Nat) : Int) := by rw [wrap_u8]; omega
      rw [e1]
      refine wRound_ok (j := j - 1) (n := n) k8 k3 (by omega) hLu F3 hlu hVlen hn2 hn8 (by omega) G1 G2 (fun i hi1 _ => hzu i (by omega)) (by rw [show j - 1 + 1 = j by omega, hVt]; exact hlt) fun q l' fx' bk hq hl' hLl' ee el => ?_; conv => whnf
      obtain ⟨D1, D2, D3, D4, D5⟩ := div_roundG (k := j - 1) hLu hlu hLl' hl' (by omega) (by omega) G3 hVt hN (fun i hi1 => hzu i (by omega)) ee el
      generalize lu.take (j - 1) ++ (l' ++ lu.drop (j - 1 + n + 1)) = lu2 at *
      have w5 : hput hJ m8 (ul lu2, 412) m5 = some ([Value.int .u8 ((top - n + 1 : Nat) : Int), .int .u8 c2, .int .u8 c3], 378) := by rw [hput_ne (by omega)]; exact k5
      refine LoadX.blk w5 (.int .u8 c2) rfl ?_; conv => whnf
      refine StoreX.at w5 (Nat.le_of_ble_eq_true rfl) ?_; conv => whnf
      have w6 : ∀ v : Int, setSeg [Value.int .u8 ((top - n + 1 : Nat) : Int), .int .u8 c2, .int .u8 c3] 1 [Value.int .u8 v] = [Value.int .u8 ((top - n + 1 : Nat) : Int), .int .u8 v, .int .u8 c3] := fun v => rfl
      erw [w6]
      have st : ∀ {hN2 : Hp} {d2 d3 : Int}, hN2 = hput (hput hJ m8 (ul lu2, 412)) m5 ([Value.int .u8 ((top - n + 1 : Nat) : Int), .int .u8 d2, .int .u8 d3], 378) →
          ((j - 1 ≤ top - n + 1 ∧ isL lu2 ∧ lu2.length = 17 ∧ (∃ X : Int, lv l * 2 ^ s = X * lv lV + lv lu2) ∧ (∀ i, j - 1 + n ≤ i → lu2.getD i 0 = 0) ∧ lv ((lu2.drop (j - 1)).take n) < lv lV) ∧
            hN2 m8 = some (ul lu2, 412) ∧ hN2 m3 = some (ul lV, 317) ∧ hN2 m4 = some (ul (List.replicate 8 0), 317) ∧ hN2 m5 = some ([Value.int .u8 ((top - n + 1 : Nat) : Int), .int .u8 d2, .int .u8 d3], 378) ∧ Ext h hN2) := fun {hN2 d2 d3} e => by
        subst e
        refine ⟨⟨by omega, D1, D2, ⟨_, D3⟩, D4, D5⟩, by rw [hput_ne (by omega), hput_same], by rw [hput_ne (by omega), hput_ne (by omega)]; exact k3, by rw [hput_ne (by omega), hput_ne (by omega)]; exact k4, hput_same .., fun b z hbz => ?_⟩
        have := (gk b z hbz).2
        rw [hput_ne (by omega), hput_ne (by omega)]; exact kk b z hbz
      cases bk with
      | false =>
        conv => whnf
        repeat (first | (refine CondX.tt ?_; conv => whnf) | (refine CondX.ff ?_; conv => whnf))
        exact ih (j - 1, lu2, _, c3) _ _ (st rfl) (by dsimp only; omega) ⟨rfl, rfl, rfl, rfl, rfl, rfl, rfl, rfl, congrArg (Value.int .u8) e1, trivial⟩
      | true =>
        conv => whnf
        repeat (first | (refine CondX.tt ?_; conv => whnf) | (refine CondX.ff ?_; conv => whnf))
        refine LoadX.of _ ((ldV_same _ _ _ _ _ _ _).trans rfl) ?_; conv => whnf
        refine StoreX.same (Nat.le_of_ble_eq_true rfl) ?_; conv => whnf
        have w7 : ∀ u v : Int, setSeg [Value.int .u8 ((top - n + 1 : Nat) : Int), .int .u8 u, .int .u8 c3] 2 [Value.int .u8 v] = [Value.int .u8 ((top - n + 1 : Nat) : Int), .int .u8 u, .int .u8 v] := fun u v => rfl
        erw [w7]
        exact ih (j - 1, lu2, _, _) _ _ (st rfl) (by dsimp only; omega) ⟨rfl, rfl, rfl, rfl, rfl, rfl, rfl, rfl, congrArg (Value.int .u8) e1, trivial⟩
    · have hj0 : j = 0 := by omega
      subst hj0
      clear ih
      repeat (refine Ob.mk (by first | decide | omega) ?_; conv => whnf)
      have ldx : ldV true 8 hJ m8 0 = some (.agg (ul (lu.take 8)).toArray) := by
        simp only [ldV, k8]
        rw [if_pos (by rw [ul_len, hlu]; decide)]
        simp [seg, ul, List.map_take]
      refine LoadX.of _ ldx ?_; conv => whnf
      have hR4' : (lu.take 8).length = 8 := by simp; omega
      have hRL' : isL (lu.take 8) := fun x hx => hLu x (List.mem_of_mem_take hx)
      refine Ob.mk ⟨by rw [List.size_toArray, ul_len, hR4']; rfl, ones_ul _⟩ ?_; conv => whnf
      refine StoreX.at k4 (by rw [List.toList_toArray, ul_len, ul_len, hR4']; decide) ?_; conv => whnf
      rw [setSeg_all (by rw [List.toList_toArray, ul_len, ul_len, hR4']; rfl), List.toList_toArray]
      repeat (refine Ob.mk (by first | decide | omega) ?_; conv => whnf)
      refine shiftDown_ok (pre := []) (post := []) (l := lu.take 8) (n := 8) (t := 317) (by rw [hput_same]; simp) hRL' hs1 hR4' (by decide) ?_; conv => whnf
      rw [hput_hput, List.nil_append, List.append_nil]
      have hrv : isL (lu.take 8).reverse := fun x hx => hRL' x (List.mem_reverse.1 hx)
      obtain ⟨S1, e, S2, S3⟩ := shD_ok hs1 hrv (x := 0) (Nat.pow_pos (by decide))
      have hR4 : (shD s 0 (lu.take 8).reverse).reverse.length = 8 := by rw [List.length_reverse, shD_len, List.length_reverse, hR4']
      have hRL : isL (shD s 0 (lu.take 8).reverse).reverse := fun x hx => S1 x (List.mem_reverse.1 hx)
      rw [List.reverse_reverse] at S3
      generalize (shD s 0 (lu.take 8).reverse).reverse = RR at *
      obtain ⟨hF, hhF⟩ : ∃ hF : Hp, hF = hput hJ m4 (ul RR, 317) := ⟨_, rfl⟩
      rw [← hhF]
      have f4 : hF m4 = some (ul RR, 317) := by rw [hhF, hput_same]
      obtain ⟨a1, a2, a3, f5⟩ : ∃ a1 a2 a3 : Int, hF m5 = some ([.int .u8 a1, .int .u8 a2, .int .u8 a3], 378) := ⟨_, _, _, by rw [hhF, hput_ne (by omega)]; exact k5⟩
      have fk : Ext h hF := fun b z hbz => by
        have := (gk b z hbz).2
        rw [hhF, hput_ne (by omega)]; exact kk b z hbz
      have hl4 : lv lu = lv (lu.take 8) := by
        rw [lv_drop (l := lu) (n := 8) (by omega), lv_zeros (l := lu.drop 8) fun i => by
          rw [List.getD_eq_getElem?_getD, List.getElem?_drop, ← List.getD_eq_getElem?_getD]; exact hzu _ (by omega)]
        omega
      have hltu : lv lu < lv lV := by
        rw [List.drop_zero] at hlt
        have : lv lu = lv (lu.take n) := by
          rw [lv_drop (l := lu) (n := n) (by omega), lv_zeros (l := lu.drop n) fun i => by
            rw [List.getD_eq_getElem?_getD, List.getElem?_drop, ← List.getD_eq_getElem?_getD]; exact hzu _ (by omega)]
          omega
        omega
      have hfin : lv RR = if lv lB = 0 then 0 else lv l % lv lB := by
        rw [if_neg hBp]
        obtain ⟨q1, q2⟩ := div_end (L := lv l) (X := X) (V := lv lB) (R := lv RR) (Lu := lv lu) (e := e) S2 (by rw [← F4]; exact hN) (by rw [hl4, ← S3]; simp) (by rw [← F4]; exact hltu)
        rw [q1, Int.add_comm, Int.mul_comm, Int.add_mul_emod_self_left, Int.emod_eq_of_lt (lv_bd hRL).1 q2]
      have ld4 : ldV true 8 hF m4 0 = some (.agg (ul RR).toArray) := by
        obtain ⟨v, q1, q2⟩ := (LoadX.all (n := 8) (KK := fun v => v = .agg (ul RR).toArray) f4 (by rw [ul_len, hR4]) rfl).run
        rw [q1, q2]
      have ld5 : ldV true 3 hF m5 0 = some (.agg #[.int .u8 a1, .int .u8 a2, .int .u8 a3]) := by
        obtain ⟨v, q1, q2⟩ := (LoadX.all (n := 3) (KK := fun v => v = .agg #[.int .u8 a1, .int .u8 a2, .int .u8 a3]) f5 rfl rfl).run
        rw [q1, q2]
      have id4 : hput hF m4 (setSeg (ul RR) 0 (ul RR), 317) = hF := by rw [setSeg_all rfl]; exact hput_id f4
      have id5 : hput hF m5 ([.int .u8 a1, .int .u8 a2, .int .u8 a3], 378) = hF := hput_id f5
      refine DrawX.go T_ok hM Hval.func336 (tb := dr336) rfl (by kernel_rfl) ?_; conv => whnf
      refine LoadX.of _ ld4 ?_; conv => whnf
      refine LoadX.of _ ld5 ?_; conv => whnf
      refine Ob.mk ⟨by rw [List.size_toArray, ul_len, hR4]; rfl, ones_ul _⟩ ?_; conv => whnf
      refine StoreX.at f4 (by rw [List.toList_toArray]; omega) ?_; conv => whnf
      erw [id4]
      repeat (refine Ob.mk (by first | exact ld4 | exact ld5 | exact ⟨rfl, rfl⟩) ?_; conv => whnf)
      refine StoreX.at f5 (Nat.le_of_ble_eq_true rfl) ?_; conv => whnf
      erw [id5]
      repeat (refine Ob.mk (by first | exact ld4 | exact ld5 | exact ⟨rfl, rfl⟩) ?_; conv => whnf)
      refine LoadX.of _ ld4 ?_; conv => whnf
      refine LoadX.of _ ld5 ?_; conv => whnf
      exact RetX.drop (h' := h) fk (hk RR a1 a2 a3 hR4 hRL hfin)
end
end Go.Proofs.YgvalwGreat.X
