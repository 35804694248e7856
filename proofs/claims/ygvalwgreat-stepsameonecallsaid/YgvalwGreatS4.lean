import Derived.Test.YgvalwGreatS3
set_option linter.unusedVariables false
set_option linter.unusedSimpArgs false
namespace Go.Proofs.YgvalwGreat.X
open Go

section
variable {h h0 : Hp} {K : Value → Hp → Prop}
theorem rd_fld {b o n k q sz : Nat} {c : List Value} {v : Value} (hr : rd h (some ⟨b, o, none⟩) n = some c) (hk : k < n) (hv : c[k]? = some v) (hq : q = o + k) : ldV false sz h b q = some v := by
  subst hq
  unfold rd at hr
  unfold ldV
  cases hb : h b with
  | none => simp only [hb] at hr; cases hr
  | some y =>
    obtain ⟨x, t⟩ := y
    simp only [hb] at hr ⊢
    split at hr
    · have hr := Option.some.inj hr
      rw [← hr] at hv
      simp only [X.seg, List.getElem?_take, hk, if_true, List.getElem?_drop] at hv
      exact hv
    · cases hr
theorem rd_sub {b o n k q m : Nat} {c c' : List Value} (hr : rd h (some ⟨b, o, none⟩) n = some c) (hk : k + m ≤ n) (hs : seg c k m = c') (hq : q = o + k) : ldV true m h b q = some (.agg c'.toArray) := by
  subst hq
  unfold rd at hr
  unfold ldV
  cases hb : h b with
  | none => simp only [hb] at hr; cases hr
  | some y =>
    obtain ⟨x, t⟩ := y
    simp only [hb] at hr ⊢
    split at hr
    · have hr := Option.some.inj hr
      have e2 : X.seg x (o + k) m = X.seg (X.seg x o n) k m := by
        simp only [X.seg, List.drop_take, List.take_take, List.drop_drop]
        congr 1
        omega
      rw [if_pos (show o + k + m ≤ x.length by omega), e2, hr, hs]
    · cases hr
theorem rd_part {b o n k q m : Nat} {c c' : List Value} (hr : rd h (some ⟨b, o, none⟩) n = some c) (hk : k + m ≤ n) (hs : seg c k m = c') (hq : q = o + k) : rd h (some ⟨b, q, none⟩) m = some c' := rd_ldV (rd_sub hr hk hs hq)
set_option maxRecDepth 100000 in
set_option maxHeartbeats 4000000 in
theorem envOK_ok (hk : K (.bool true) h) : CallX Hval.prog 61 [.agg stEnv.toArray] h K := by
  refine CallX.of_xf T_ok Hval.func61 rfl (by kernel_rfl) (Nat.le_of_ble_eq_true rfl) ?_; conv => whnf
  refine BoxX.mk fun m1 hm1 => ?_; conv => whnf
  refine LoadX.blk (c := stEnv) (hput_same ..) (sl nilS) rfl ?_; conv => whnf
  exact RetX.drop (Ext.bd hm1) hk
set_option maxRecDepth 100000 in
set_option maxHeartbeats 4000000 in
theorem addTo_ok {m b o : Nat} {l : List Int} (hm : Bd h0 m) (hr : rd h0 (some ⟨b, o, none⟩) 32 = some (bcells l)) (hl : l.length = 32) (hB : isB l) (hk : K (.bool true) (hput h0 m (bcells l, 33))) : CallX Hval.prog 142 [.pointer (some ⟨m, 0, none⟩), .pointer (some ⟨b, o, none⟩)] (hput h0 m (bcells zz32, 33)) K := by
  refine CallX.of_xf T_ok Hval.func142 rfl (by kernel_rfl) (Nat.le_of_ble_eq_true rfl) ?_; conv => whnf
  refine LoopX.st T_ok Hval.func142 (σ := Nat) (fun i => [(0, .pointer (some ⟨m, 0, none⟩)), (1, .pointer (some ⟨b, o, none⟩)), (5, .int .u16 0), (6, .int .i64 i)])
    (fun i h' => i ≤ 32 ∧ h' = hput h0 m (bcells (List.replicate i 0 ++ l.drop i), 33)) (fun i => i) 32 ⟨rfl, rfl, rfl, rfl, trivial⟩ ⟨Nat.le_refl _, by rw [List.drop_of_length_le (by omega), List.append_nil]; rfl⟩ ?_
  rintro i ρ h' ⟨hi, rfl⟩ ih
  conv => whnf
  refine CondX.decI (fun hp => ?_) (fun hp => ?_) <;> conv => whnf
  · obtain ⟨j, rfl⟩ : ∃ j, i = j + 1 := ⟨i - 1, by omega⟩
    have e1 : IntKind.i64.wrap (((j + 1 : Nat) : Int) - 1) = ((j : Nat) : Int) := by rw [wrap_i64 (by omega) (by omega)]; omega
    have hbj : 0 ≤ l.getD j 0 ∧ l.getD j 0 < 256 := by
      rw [List.getD_eq_getElem?_getD, List.getElem?_eq_getElem (by omega)]
      exact hB _ (List.getElem_mem (by omega))
    refine DrawX.go T_ok hM Hval.func142 (tb := dr142) rfl (by kernel_rfl) ?_; conv => whnf
    rw [e1]; conv => whnf
    refine Ob.mk ⟨by omega, by omega⟩ ?_; conv => whnf
    have hL : (List.replicate (j + 1) (0 : Int) ++ l.drop (j + 1)).length = 32 := by simp [hl]; omega
    refine LoadX.blk (hput_same ..) (.int .u8 0) (by
      show (bcells (List.replicate (j + 1) (0 : Int) ++ l.drop (j + 1)))[0 + ((j : Nat) : Int).toNat * 1]? = _
      rw [Int.toNat_natCast, Nat.zero_add, Nat.mul_one]
      simp only [bcells, List.map_append, List.map_replicate]
      rw [List.getElem?_append_left (by simp)]
      simp) ?_; conv => whnf
    rw [e1]; conv => whnf
    refine Ob.mk ⟨by omega, by omega⟩ ?_; conv => whnf
    have hlj : (bcells l)[j]? = some (.int .u8 (l.getD j 0)) := by simp [bcells, List.getElem?_eq_getElem (show j < l.length by omega)]
    have hld : ldV false 1 (hput h0 m (bcells (List.replicate (j + 1) (0 : Int) ++ l.drop (j + 1)), 33)) b (o + ((j : Nat) : Int).toNat * 1) = some (.int .u8 (l.getD j 0)) := rd_fld (rd_ext (Ext.bd hm) hr) (k := j) (by omega) hlj (by rw [Int.toNat_natCast, Nat.mul_one])
    refine LoadX.of _ hld ?_; conv => whnf
    rw [e1]
    have e16 : IntKind.u16.wrap (0 + IntKind.u16.wrap (IntKind.u16.wrap 0 + IntKind.u16.wrap (l.getD j 0))) = l.getD j 0 := by simp only [wrap_u16]; omega
    rw [e16]
    refine Ob.mk ⟨by omega, by omega⟩ ?_; conv => whnf
    rw [show IntKind.u8.wrap (l.getD j 0) = l.getD j 0 by rw [wrap_u8]; omega]
    refine StoreX.byte j (by show 0 + ((j : Nat) : Int).toNat * 1 = j; rw [Int.toNat_natCast]; omega) (by rw [hL]; omega) ?_; conv => whnf
    refine Ob.mk (by decide) ?_; conv => whnf
    refine ih j _ _ ⟨by omega, ?_⟩ (by omega) ⟨rfl, rfl, congrArg (Value.int .u16) ?_, congrArg (Value.int .i64) e1, trivial⟩
    · congr 3
      apply List.ext_getElem?
      intro k
      rw [List.getElem?_set]
      by_cases hkj : j = k
      · subst hkj
        rw [if_pos rfl, if_pos (by rw [hL]; omega), List.getElem?_append_right (by simp)]
        simp [List.getElem?_eq_getElem (show j < l.length by omega)]
      · rw [if_neg hkj]
        by_cases h2 : k < j
        · rw [List.getElem?_append_left (by simp; omega), List.getElem?_append_left (by simp; omega)]
          simp [List.getElem?_replicate, h2, Nat.lt_succ_of_lt h2]
        · rw [List.getElem?_append_right (by simp; omega), List.getElem?_append_right (by simp; omega)]
          simp only [List.length_replicate, List.getElem?_drop]
          congr 1
          omega
    · show (l.getD j 0).fdiv 256 = 0
      rw [Int.fdiv_eq_ediv_of_nonneg _ (by decide)]
      omega
  · have : i = 0 := by omega
    subst this
    exact RetX.same hk
/-- An account of the stage: a contract, or the sender. -/
def okW (x : WA) : Prop := x.a.length = 20 ∧ x.b.length = 32 ∧ isB x.b ∧ x.cs.2.1 ≤ 256 ∧ (x.n = 1 ∨ (x.n = 0 ∧ x.cs.2.1 = 0 ∧ x.b = b128))
theorem waC_n {x : WA} (h1 : x.a.length = 20) : (waC x)[20]? = some (.int .u64 x.n) := by
  unfold waC
  rw [List.getElem?_append_right (by rw [bcells_length, h1]; omega), bcells_length, h1]; rfl
theorem waC_b {x : WA} (h1 : x.a.length = 20) (h2 : x.b.length = 32) : seg (waC x) 21 32 = bcells x.b := by
  have e1 : (bcells x.a).length = 20 := by rw [bcells_length, h1]
  have e2 : (bcells x.b).length = 32 := by rw [bcells_length, h2]
  unfold waC
  rw [seg_tail (k := 1) (by rw [e1])]
  simp only [X.seg, List.drop_succ_cons, List.drop_zero]
  rw [← e2, List.take_left]
theorem waC_a {x : WA} (h1 : x.a.length = 20) : seg (waC x) 0 20 = bcells x.a := by
  have e1 : (bcells x.a).length = 20 := by rw [bcells_length, h1]
  unfold waC
  simp only [X.seg, List.drop_zero]
  rw [← e1, List.take_left]
theorem waC_c {x : WA} (h1 : x.a.length = 20) (h2 : x.b.length = 32) : (waC x)[53]? = some (sl x.cs) := by
  have e1 : (bcells x.a).length = 20 := by rw [bcells_length, h1]
  have e2 : (bcells x.b).length = 32 := by rw [bcells_length, h2]
  unfold waC
  rw [List.getElem?_append_right (by omega), e1]
  show (bcells x.b ++ [sl x.cs, sl nilS])[32]? = _
  rw [List.getElem?_append_right (by omega), e2]; rfl
theorem waC_s {x : WA} (h1 : x.a.length = 20) (h2 : x.b.length = 32) : (waC x)[54]? = some (sl nilS) := by
  have e1 : (bcells x.a).length = 20 := by rw [bcells_length, h1]
  have e2 : (bcells x.b).length = 32 := by rw [bcells_length, h2]
  unfold waC
  rw [List.getElem?_append_right (by omega), e1]
  show (bcells x.b ++ [sl x.cs, sl nilS])[33]? = _
  rw [List.getElem?_append_right (by omega), e2]; rfl
set_option maxRecDepth 100000 in
set_option maxHeartbeats 4000000 in
theorem acctOK_ok {b o : Nat} {x : WA} (hr : rd h (some ⟨b, o, none⟩) 55 = some (waC x)) (hx : okW x) (hk : K (.bool true) h) : CallX Hval.prog 141 [.pointer (some ⟨b, o, none⟩)] h K := by
  obtain ⟨h1, h2, hB, hcl, hx⟩ := hx
  have ln := rd_fld (sz := 1) hr (k := 20) (by omega) (waC_n h1) rfl
  have lc := rd_fld (sz := 1) hr (k := 53) (by omega) (waC_c h1 h2) rfl
  have ls := rd_fld (sz := 1) hr (k := 54) (by omega) (waC_s h1 h2) rfl
  have lb := rd_sub hr (k := 21) (m := 32) (by omega) (waC_b h1 h2) rfl
  refine CallX.of_xf T_ok Hval.func141 rfl (by kernel_rfl) (Nat.le_of_ble_eq_true rfl) ?_; conv => whnf
  refine LoadX.of _ ln ?_; conv => whnf
  rcases hx with hx | ⟨hx, hx2, hx3⟩
  · rw [hx]
    repeat (first | (refine CondX.tt ?_; conv => whnf) | (refine CondX.ff ?_; conv => whnf))
    refine LoadX.of _ lc ?_; conv => whnf
    try refine CondX.dF (by omega) ?_
    conv => whnf
    repeat (first | (refine CondX.tt ?_; conv => whnf) | (refine CondX.ff ?_; conv => whnf))
    refine LoadX.of _ ls ?_; conv => whnf
    repeat (first | (refine CondX.tt ?_; conv => whnf) | (refine CondX.ff ?_; conv => whnf))
    refine LoadX.of _ ls ?_; conv => whnf
    refine LoopX.st T_ok Hval.func141 (σ := Unit) (fun _ => [(0, .pointer (some ⟨b, o, none⟩)), (51, .int .i64 0), (52, .int .i64 0)])
            (fun _ h2 => h2 = h) (fun _ => 0) () ⟨rfl, rfl, rfl, trivial⟩ rfl ?_
    rintro _ ρ2 h2 rfl ih2
    conv => whnf
    repeat (first | (refine CondX.tt ?_; conv => whnf) | (refine CondX.ff ?_; conv => whnf))
    exact RetX.same hk
  · rw [hx]
    repeat (first | (refine CondX.tt ?_; conv => whnf) | (refine CondX.ff ?_; conv => whnf))
    have lc : ldV false 1 h b (o + 53) = some (.slice x.cs.1 0 x.cs.2.2) := by rw [← hx2]; exact lc
    have lb : ldV true 32 h b (o + 21) = some (.agg (bcells b128).toArray) := by rw [← hx3]; exact lb
    refine LoadX.of _ lc ?_; conv => whnf
    repeat (first | (refine CondX.tt ?_; conv => whnf) | (refine CondX.ff ?_; conv => whnf))
    refine LoadX.of _ lb ?_; conv => whnf
    repeat (first | (refine CondX.tt ?_; conv => whnf) | (refine CondX.ff ?_; conv => whnf))
    refine Ob.mk ⟨rfl, rfl, rfl, rfl⟩ ?_; conv => whnf
    repeat (first | (refine CondX.tt ?_; conv => whnf) | (refine CondX.ff ?_; conv => whnf))
    refine LoadX.of _ ls ?_; conv => whnf
    repeat (first | (refine CondX.tt ?_; conv => whnf) | (refine CondX.ff ?_; conv => whnf))
    refine LoadX.of _ lc ?_; conv => whnf
    try refine CondX.dF (by omega) ?_
    conv => whnf
    repeat (first | (refine CondX.tt ?_; conv => whnf) | (refine CondX.ff ?_; conv => whnf))
    refine LoadX.of _ ls ?_; conv => whnf
    repeat (first | (refine CondX.tt ?_; conv => whnf) | (refine CondX.ff ?_; conv => whnf))
    refine LoadX.of _ ls ?_; conv => whnf
    refine LoopX.st T_ok Hval.func141 (σ := Unit) (fun _ => [(0, .pointer (some ⟨b, o, none⟩)), (51, .int .i64 0), (52, .int .i64 0)])
            (fun _ h2 => h2 = h) (fun _ => 0) () ⟨rfl, rfl, rfl, trivial⟩ rfl ?_
    rintro _ ρ2 h2 rfl ih2
    conv => whnf
    repeat (first | (refine CondX.tt ?_; conv => whnf) | (refine CondX.ff ?_; conv => whnf))
    exact RetX.same hk
def iaW (n i : Nat) : Int := if i < n then ((i : Nat) : Int) + 1 else 240
theorem stgW_len {cs : List (Sl × List Int)} : (stgW cs).length = cs.length + 1 := by simp [stgW]
theorem stgW_a {cs : List (Sl × List Int)} {i : Nat} (hi : i < (stgW cs).length) : ((stgW cs)[i]).a = adr (iaW cs.length i) := by
  unfold iaW
  have hl := stgW_len (cs := cs)
  unfold stgW at hi ⊢
  by_cases h1 : i < cs.length
  · rw [List.getElem_append_left (by simpa using h1), if_pos h1]
    simp [cwA]
  · rw [List.getElem_append_right (by simp; omega), if_neg h1]
    simp [sndW, sndA]
theorem stgW_b {cs : List (Sl × List Int)} {i : Nat} (hi : i < (stgW cs).length) : ((stgW cs)[i]).b = if i + 1 = cs.length + 1 then b128 else zz32 := by
  have hl := stgW_len (cs := cs)
  unfold stgW at hi ⊢
  by_cases h1 : i < cs.length
  · rw [List.getElem_append_left (by simpa using h1), if_neg (by omega)]
    simp [cwA]
  · simp at hi
    rw [List.getElem_append_right (by simp; omega), if_pos (by omega)]
    simp [sndW]
theorem stgW_ok {s : Sl} {cs : List (Sl × List Int)} (W : WldOK h s (stgW cs)) (h256 : ∀ p ∈ cs, p.2.length ≤ 256) : ∀ x ∈ stgW cs, okW x := fun x hx => by
  have hB := W.each x hx
  unfold stgW at hx
  rcases List.mem_append.1 hx with h1 | h1
  · obtain ⟨j, hj, rfl⟩ := List.mem_mapIdx.1 h1
    have := h256 _ (List.getElem_mem hj)
    have hl := hB.len
    refine ⟨rfl, rfl, isB_zeros _, ?_, .inl rfl⟩
    show (cs[j]).1.2.1 ≤ 256
    have hl : (cs[j]).2.length = (cs[j]).1.2.1 := hl
    omega
  · rw [List.mem_singleton.1 h1]
    exact ⟨rfl, rfl, by unfold isB sndW b128; decide, by decide, .inr ⟨rfl, rfl, rfl⟩⟩
theorem ba_loop (b : ByteArray) : ∀ n i r, b.size - i = n → ByteArray.toList.loop b i r = r.reverse ++ b.data.toList.drop i := by
  intro n
  induction n with
  | zero =>
    intro i r hn
    unfold ByteArray.toList.loop
    rw [if_neg (by omega), List.drop_of_length_le (by have : b.data.toList.length = b.size := rfl; omega), List.append_nil]
  | succ n ih =>
    intro i r hn
    have hs : b.data.toList.length = b.size := rfl
    unfold ByteArray.toList.loop
    rw [if_pos (by omega), ih (i + 1) _ (by omega), List.reverse_cons, List.append_assoc, List.drop_eq_getElem_cons (show i < b.data.toList.length by omega)]
    have hg : b.get! i = b.data.toList[i]'(by omega) := by
      show b.data[i]! = _
      rw [getElem!_pos b.data i (by have : b.data.size = b.size := rfl; omega)]
      simp
    rw [hg]
    rfl
theorem ba_toList (b : ByteArray) : b.toList = b.data.toList := by
  show ByteArray.toList.loop b 0 [] = _
  rw [ba_loop b _ 0 [] rfl]
  simp
theorem less_adr0 : ∀ n, n < 7 → ∀ i, i < 7 → 0 < i → i ≤ n → Op.bytesLess ((adr (iaW n (i - 1))).map fun x => UInt8.ofNat x.toNat) ((adr (iaW n i)).map fun x => UInt8.ofNat x.toNat) = true := by decide
theorem less_adr (n : Nat) (hn : n < 7) (i : Nat) (hi : i < 7) (h0 : 0 < i) (h1 : i ≤ n) : Op.bytesLess ({ data := (List.map (fun x : Int => UInt8.ofNat x.toNat) (adr (iaW n (i - 1)))).toArray } : ByteArray).toList ({ data := (List.map (fun x : Int => UInt8.ofNat x.toNat) (adr (iaW n i))).toArray } : ByteArray).toList = true := by
  rw [ba_toList, ba_toList]
  exact less_adr0 n hn i hi h0 h1
set_option maxRecDepth 100000 in
set_option maxHeartbeats 4000000 in
theorem worldOK_ok {s : Sl} {cs : List (Sl × List Int)} (W : WldOK h s (stgW cs)) (h6 : cs.length ≤ 6) (h256 : ∀ p ∈ cs, p.2.length ≤ 256) (hk : K (.bool true) h) : CallX Hval.prog 64 [sl s] h K := by
  have hok := stgW_ok W h256
  have hlen := stgW_len (cs := cs)
  have hn : (stgW cs).length = s.2.1 := by have := W.arr.len; simpa using this
  refine CallX.of_xf T_ok Hval.func64 rfl (by kernel_rfl) (Nat.le_of_ble_eq_true rfl) ?_; conv => whnf
  refine CondX.dF (by omega) ?_; conv => whnf
  refine BoxX.mk fun m3 hm3 => ?_; conv => whnf
  refine LoopX.st T_ok Hval.func64 (σ := Nat) (fun i => [(0, sl s), (3, .pointer (some ⟨m3, 0, none⟩)), (8, sl s), (9, .int .i64 s.2.1), (10, .int .i64 i)])
    (fun i h' => i ≤ s.2.1 ∧ h' = hput h m3 (bcells (if i = s.2.1 then b128 else zz32), 33)) (fun i => s.2.1 - i) 0 ⟨rfl, rfl, rfl, rfl, rfl, trivial⟩ ⟨Nat.zero_le _, by rw [if_neg (by omega)]; rfl⟩ ?_
  rintro i ρ h' ⟨hil, rfl⟩ ih
  conv => whnf
  refine CondX.decI (fun hc => ?_) (fun hc => ?_) <;> conv => whnf
  · have hc : i < s.2.1 := by omega
    rw [if_neg (by omega)] at *
    have hE : Ext h (hput h m3 (bcells zz32, 33)) := Ext.bd hm3
    have hA' := W.arr.ext hE
    have hix : i < (stgW cs).length := by omega
    refine DrawX.go T_ok hM Hval.func64 (tb := dr64) rfl (by kernel_rfl) ?_; conv => whnf
    refine CondX.decI (fun h1 => ?_) (fun h1 => ?_) <;> conv => whnf
    · repeat (first | (refine CondX.tt ?_; conv => whnf) | (refine CondX.ff ?_; conv => whnf))
      have e1 : IntKind.i64.wrap ((i : Int) - 1) = ((i - 1 : Nat) : Int) := by rw [wrap_i64 (by omega) (by omega)]; omega
      rw [e1]; conv => whnf
      refine IdxX.arr hA' (by omega) (by omega) (by omega) fun b off e => ?_; conv => whnf
      repeat (first | (refine CondX.tt ?_; conv => whnf) | (refine CondX.ff ?_; conv => whnf))
      have hjx : i - 1 < (stgW cs).length := by omega
      have hr1 := rd_part (rd_ldV (hA'.get e (k := i - 1) (by omega))) (k := 0) (m := 20) (q := off + (i - 1) * 55) (c' := bcells ((stgW cs)[i - 1]).a) (by omega) (by rw [getD_map hjx]; exact waC_a (hok _ (List.getElem_mem hjx)).1) rfl
      rw [stgW_a] at hr1
      refine ⟨⟨adr (iaW cs.length (i - 1)), hr1, ?_⟩⟩; conv => whnf
      repeat (first | (refine CondX.tt ?_; conv => whnf) | (refine CondX.ff ?_; conv => whnf))
      refine IdxX.arr hA' (by omega) (by omega) (by omega) fun b2 off2 e2 => ?_; conv => whnf
      repeat (first | (refine CondX.tt ?_; conv => whnf) | (refine CondX.ff ?_; conv => whnf))
      have hr2 := rd_part (rd_ldV (hA'.get e2 (k := i) (by omega))) (k := 0) (m := 20) (q := off2 + i * 55) (c' := bcells ((stgW cs)[i]).a) (by omega) (by rw [getD_map hix]; exact waC_a (hok _ (List.getElem_mem hix)).1) rfl
      rw [stgW_a] at hr2
      refine ⟨⟨adr (iaW cs.length i), hr2, ?_⟩⟩; conv => whnf
      repeat (first | (refine CondX.tt ?_; conv => whnf) | (refine CondX.ff ?_; conv => whnf))
      rw [less_adr cs.length (by omega) i (by omega) (by omega) (by omega)]
      repeat (first | (refine CondX.tt ?_; conv => whnf) | (refine CondX.ff ?_; conv => whnf))
      refine IdxX.arr hA' (by omega) (by omega) (by omega) fun b off e => ?_; conv => whnf
      have hrd := rd_ldV (hA'.get e (k := i) hc)
      rw [getD_map hix] at hrd
      refine acctOK_ok (x := (stgW cs)[i]) hrd (hok _ (List.getElem_mem hix)) ?_; conv => whnf
      repeat (first | (refine CondX.tt ?_; conv => whnf) | (refine CondX.ff ?_; conv => whnf))
      refine IdxX.arr hA' (by omega) (by omega) (by omega) fun b2 off2 e2 => ?_; conv => whnf
      repeat (first | (refine CondX.tt ?_; conv => whnf) | (refine CondX.ff ?_; conv => whnf))
      have hrb := rd_part (rd_ldV (W.arr.get e2 (k := i) hc)) (k := 21) (m := 32) (q := off2 + i * 55 + 21) (c' := bcells ((stgW cs)[i]).b) (by omega) (by rw [getD_map hix]; exact waC_b (hok _ (List.getElem_mem hix)).1 (hok _ (List.getElem_mem hix)).2.1) rfl
      have hokx := hok _ (List.getElem_mem hix)
      rw [Int.toNat_natCast]
      refine addTo_ok (o := off2 + i * 55 + 21) hm3 hrb hokx.2.1 hokx.2.2.1 ?_; conv => whnf
      repeat (first | (refine CondX.tt ?_; conv => whnf) | (refine CondX.ff ?_; conv => whnf))
      refine ih (i + 1) _ _ ⟨by omega, ?_⟩ (by omega) ⟨rfl, rfl, rfl, rfl, congrArg (Value.int .i64) (wsucc (by omega)), trivial⟩
      rw [stgW_b hix, ← hn, hlen]
    · repeat (first | (refine CondX.tt ?_; conv => whnf) | (refine CondX.ff ?_; conv => whnf))
      refine IdxX.arr hA' (by omega) (by omega) (by omega) fun b off e => ?_; conv => whnf
      have hrd := rd_ldV (hA'.get e (k := i) hc)
      rw [getD_map hix] at hrd
      refine acctOK_ok (x := (stgW cs)[i]) hrd (hok _ (List.getElem_mem hix)) ?_; conv => whnf
      repeat (first | (refine CondX.tt ?_; conv => whnf) | (refine CondX.ff ?_; conv => whnf))
      refine IdxX.arr hA' (by omega) (by omega) (by omega) fun b2 off2 e2 => ?_; conv => whnf
      repeat (first | (refine CondX.tt ?_; conv => whnf) | (refine CondX.ff ?_; conv => whnf))
      have hrb := rd_part (rd_ldV (W.arr.get e2 (k := i) hc)) (k := 21) (m := 32) (q := off2 + i * 55 + 21) (c' := bcells ((stgW cs)[i]).b) (by omega) (by rw [getD_map hix]; exact waC_b (hok _ (List.getElem_mem hix)).1 (hok _ (List.getElem_mem hix)).2.1) rfl
      have hokx := hok _ (List.getElem_mem hix)
      rw [Int.toNat_natCast]
      refine addTo_ok (o := off2 + i * 55 + 21) hm3 hrb hokx.2.1 hokx.2.2.1 ?_; conv => whnf
      repeat (first | (refine CondX.tt ?_; conv => whnf) | (refine CondX.ff ?_; conv => whnf))
      refine ih (i + 1) _ _ ⟨by omega, ?_⟩ (by omega) ⟨rfl, rfl, rfl, rfl, congrArg (Value.int .i64) (wsucc (by omega)), trivial⟩
      rw [stgW_b hix, ← hn, hlen]
  · exact RetX.drop (Ext.bd hm3) hk
end
end Go.Proofs.YgvalwGreat.X
