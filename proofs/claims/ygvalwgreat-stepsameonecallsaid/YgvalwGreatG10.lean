import Derived.Test.YgvalwGreatG9
set_option linter.unusedVariables false
set_option linter.unusedSimpArgs false
namespace Go.Proofs.YgvalwGreat.X
open Go

section
set_option maxRecDepth 100000 in
set_option maxHeartbeats 4000000 in
theorem fromBE_j {hi hm : Hp} {K : Value → Hp → Prop} {base : Option Addr} {len cap : Nat} {l : List Int} (hd : Dj hi hm) (hb : Byt (join hi hm) base len cap l)
    (hk : ∀ s hi', Ext hi hi' → Dj hi' hm → NtS hi' s (bv l) → K (sl s) (join hi' hm)) : CallX Hval.prog 39 [.slice base len cap] (join hi hm) K := by
  refine CallX.of_xf T_ok Hval.func39 rfl (by kernel_rfl) (Nat.le_of_ble_eq_true rfl) ?_; conv => whnf
  have hlen := hb.len
  have hroom := hb.room
  refine LoopX.st T_ok Hval.func39 (σ := Nat) (fun k => [(0, .slice base len cap), (3, .int .i64 k)]) (fun k h' => h' = join hi hm ∧ k ≤ len ∧ ∀ j, j < k → l.getD j 0 = 0) (fun k => len - k) 0
    ⟨rfl, rfl, trivial⟩ ⟨rfl, Nat.zero_le _, fun j hj => by omega⟩ ?_
  rintro k ρ h' ⟨rfl, hkl, hz⟩ ih
  conv => whnf
  have hrev : ∀ j, len - k ≤ j → l.reverse.getD j 0 = 0 := by
    intro j hj
    by_cases hjl : j < l.length
    · rw [getD_rev hjl]; exact hz _ (by omega)
    · exact getD_nil (by simp; omega)
  have fin : len ≤ k → K (.slice none 0 0) (join hi hm) := by
    intro hge
    refine hk nilS _ (Ext.refl _) hd ?_
    have : bv l = 0 := dv_zeros fun j => hrev j (by omega)
    rw [this]; exact Nt_nil _
  refine CondX.mk (fun hp => ?_) (fun hp => ?_) <;> conv => whnf
  · have hp : k < len := by have := of_decide_eq_true hp; omega
    refine CondX.tt ?_; conv => whnf
    refine CondX.tt ?_; conv => whnf
    refine IdxX.rd hb.rd (by omega) (by omega) fun b1 o1 e1 _ => ?_; conv => whnf
    refine CondX.tt ?_; conv => whnf
    refine LoadX.byte hb e1 k rfl (by omega) rfl ?_; conv => whnf
    refine CondX.tt ?_; conv => whnf
    refine CondX.mk (fun hq => ?_) (fun hq => ?_) <;> conv => whnf
    · have hq : l.getD k 0 = 0 := by simpa using hq
      refine ih (k + 1) _ _ ⟨rfl, by omega, fun j hj => ?_⟩ (by omega) ⟨rfl, ?_, trivial⟩
      · by_cases hjk : j = k
        · subst hjk; exact hq
        · exact hz j (by omega)
      · exact congrArg (Value.int .i64) (wsucc (by omega))
    · have hq : l.getD k 0 ≠ 0 := by simpa using hq
      refine CondX.mk (fun hr => ?_) (fun hr => ?_) <;> conv => whnf
      · have hr := eq_of_beq hr
        omega
      have hsub : IntKind.i64.wrap ((len : Int) - (k : Int)) = ((len - k : Nat) : Int) := by rw [wrap_i64 (by omega) (by omega)]; omega
      rw [hsub]
      refine MakeX.bytes (len - k) rfl (by omega) fun m hm' => ?_; conv => whnf
      obtain ⟨hin, hmn⟩ := join_none (hm'.none (Nat.le_refl _))
      refine LoopX.st T_ok Hval.func39 (σ := Nat × List Int) (fun s => [(0, .slice base len cap), (4, .slice (some ⟨m, 0, none⟩) (len - k) (len - k)), (29, .int .i64 ((len - k : Nat) : Int)), (30, .int .i64 s.1)])
        (fun s h2 => s.1 ≤ len - k ∧ s.2.length = len - k ∧ isB s.2 ∧ h2 = hput (join hi hm) m (bcells s.2, 5) ∧ ∀ j, j < s.1 → s.2.getD j 0 = l.reverse.getD j 0) (fun s => len - k - s.1) (0, List.replicate (len - k) 0)
        ⟨rfl, rfl, rfl, rfl, trivial⟩ ⟨Nat.zero_le _, by simp, isB_zeros _, rfl, fun j hj => by simp at hj⟩ ?_
      rintro ⟨i, o⟩ ρ2 h2 ⟨hi2, hol, hob, rfl, heq⟩ ih2
      simp only at hi2 hol hob heq ⊢
      conv => whnf
      have hb' := hb.ext (Ext.bd (x := (bcells o, 5)) hm')
      refine CondX.mk (fun hc => ?_) (fun hc => ?_) <;> conv => whnf
      · have hc : i < len - k := by have := of_decide_eq_true hc; omega
        have hw : IntKind.i64.wrap (IntKind.i64.wrap ((len : Int) - 1) - (i : Int)) = ((len - 1 - i : Nat) : Int) := by
          rw [wrap_i64 (x := (len : Int) - 1) (by omega) (by omega), wrap_i64 (by omega) (by omega)]; omega
        rw [hw]
        refine IdxX.rd hb'.rd (by omega) (by omega) fun b2 o2 e2 _ => ?_; conv => whnf
        refine LoadX.byte hb' e2 (len - 1 - i) rfl (by omega) rfl ?_; conv => whnf
        refine IdxX.at (by omega) (by omega) ?_; conv => whnf
        refine StoreX.bix i rfl rfl (by omega) ?_; conv => whnf
        have gd := hb.isB.get (len - 1 - i)
        refine ih2 (i + 1, o.set i (l.getD (len - 1 - i) 0)) _ _ ⟨by dsimp only; omega, by simp [hol], hob.set gd.1 gd.2, rfl, ?_⟩ (by dsimp only; omega) ⟨rfl, rfl, rfl, ?_, trivial⟩
        · intro j hj
          dsimp only at hj ⊢
          by_cases hji : j = i
          · subst hji; rw [getD_set_same (by omega), getD_rev (by omega), hlen]
          · rw [getD_set_other hji]; exact heq j (by omega)
        · exact congrArg (Value.int .i64) (wsucc (by omega))
      · have hc : i = len - k := by have := of_decide_eq_false hc; omega
        subst hc
        rw [join_put]
        refine RetX.same (hk (some ⟨m, 0, none⟩, len - k, len - k) _ (Ext.new hin) (hd.hn hmn) ?_)
        have ho : o = l.reverse.take (len - k) := dv_ext (by simp; omega) fun j hj => by
          rw [heq j (by omega)]
          simp [List.getElem?_take_of_lt (show j < len - k by omega)]
        refine ⟨o, own_all hob (by dsimp only; omega) (by omega), ?_, ?_⟩
        · rw [ho, dv_take hrev]; rfl
        · unfold Tr
          rw [hol]
          have : o.getD (len - k - 1) 0 = l.getD k 0 := by
            rw [heq _ (by omega), getD_rev (by omega)]
            congr 1; omega
          have hlt : len - k - 1 < o.length := by omega
          simp [List.getElem?_eq_getElem hlt] at this ⊢
          rw [this]; simpa using hq
  · have hp : len ≤ k := by have := of_decide_eq_false hp; omega
    repeat (first | (refine CondX.tt ?_; conv => whnf) | (refine CondX.ff ?_; conv => whnf))
    refine CondX.mk (fun hr => ?_) (fun hr => ?_) <;> conv => whnf
    · exact RetX.same (fin hp)
    · have hr := ne_of_beq_false hr
      omega
end
section
variable {h : Hp} {K : Value → Hp → Prop}
def opdP (xs : List (Sl × Int)) (i : Nat) : Sl × Int := xs.getD i (nilS, 0)
theorem opdP_ok {h : Hp} {xs : List (Sl × Int)} (hs : ∀ p ∈ xs, NtS h p.1 p.2) (i : Nat) : NtS h (opdP xs i).1 (opdP xs i).2 := by
  unfold opdP
  rw [List.getD_eq_getElem?_getD]
  cases he : xs[i]? with
  | none => exact Nt_nil h
  | some p => exact hs p (List.mem_of_getElem? he)
set_option maxRecDepth 100000 in
set_option maxHeartbeats 4000000 in
theorem operand_ok {s : Sl} {xs : List (Sl × Int)} (ha : Arr h s 1 (xs.map stCells)) (hr : s.2.1 < 2 ^ 30) (i : Nat) (hi : i < 2 ^ 30) (hk : K (sl (opdP xs i).1) h) :
    CallX Hval.prog 211 [sl s, .int .i64 i] h K := by
  refine CallX.of_xf T_ok Hval.func211 rfl (by kernel_rfl) (Nat.le_of_ble_eq_true rfl) ?_; conv => whnf
  have hn : xs.length = s.2.1 := by have := ha.len; simpa using this
  refine CondX.decI (fun hc => ?_) (fun hc => ?_) <;> conv => whnf
  · refine IdxX.arr ha (by omega) (by omega) (by omega) fun b1 off e1 => ?_; conv => whnf
    have hl := ha.get e1 (k := i) (by omega)
    rw [getD_map (by omega)] at hl
    have e2 : xs[i]'(by omega) = opdP xs i := by
      unfold opdP; rw [List.getD_eq_getElem?_getD, List.getElem?_eq_getElem (by omega)]; rfl
    rw [e2] at hl
    refine LoadX.of (sl (opdP xs i).1) ?_ ?_
    · show ldV false 1 h b1 (off + ((i : Nat) : Int).toNat * 1) = _
      rw [Int.toNat_natCast]
      unfold ldV at hl ⊢
      cases hx : h b1 with
      | none => simp [hx] at hl
      | some x =>
        obtain ⟨c, t'⟩ := x
        simp only [hx] at hl ⊢
        split at hl
        · rename_i hle
          simp only [Option.some.injEq, Value.agg.injEq] at hl
          have := congrArg Array.toList hl
          simp only [List.toList_toArray, stCells, seg] at this
          have h2 := congrArg (fun l => l[0]?) this
          simpa using h2
        · cases hl
    conv => whnf
    exact RetX.same hk
  · have : opdP xs i = (nilS, 0) := by unfold opdP; rw [List.getD_eq_getElem?_getD, List.getElem?_eq_none (by omega)]; rfl
    rw [this] at hk
    exact RetX.same hk
end
/-- The stage's surroundings. -/
def stCb : List Int := List.replicate 19 0 ++ [192]
def stEnv : List Value := bcells stCb ++ ([.int .u64 0, .int .u64 0, .int .u64 1048576] ++ (bcells (List.replicate 32 0) ++ (bcells (List.replicate 32 0) ++ (bcells (List.replicate 32 0) ++ [sl nilS]))))
theorem seg_tail {A B : List Value} {k n o : Nat} (h : o = A.length + k) : seg (A ++ B) o n = seg B k n := by
  subst h; simp only [seg]; rw [← List.drop_drop, List.drop_left]
theorem byt_seg {h : Hp} {b off n : Nat} {cells : List Value} {t : TypeId} {l : List Int} (hb : h b = some (cells, t)) (hs : seg cells off n = bcells l) (hl : off + n ≤ cells.length) (hB : isB l) (hr : n < 2 ^ 40) : Byt h (some ⟨b, off, none⟩) n n l :=
  ⟨by simp only [rd, hb]; rw [if_pos hl]; exact congrArg some hs, hB, Nat.le_refl _, fun h => (by cases h), hr⟩
/-- What no step of a staged run turns. -/
structure EnvOK (hi : Hp) (s : YS) : Prop where
  env : s.env = stEnv
  origin : s.origin.length = 20
  oB : isB s.origin
  made : s.made.length = 20
  price : NtS hi s.priceS 0
def preS (s : YS) : List Value := [sl s.w.sA, sl s.w.sWA, sl s.w.sWS, sl s.w.sR, sl s.w.sL, sl s.w.sT, sl s.w.sM, sl s.w.sG, sl nilS, sl s.frS, sl s.retS, .int .u8 s.phase, .int .u8 s.status, .int .u8 s.applied, sl s.limS, sl s.txS, sl s.leftS, sl s.priceS, sl s.totS] ++ (bcells s.origin ++ bcells s.made)
theorem preS_len {s : YS} (h1 : s.origin.length = 20) (h2 : s.made.length = 20) : (preS s).length = 59 := by simp [preS, bcells_length, h1, h2]
theorem sCells_env {s : YS} (h : s.env = stEnv) : sCells s = preS s ++ stEnv := by simp [sCells, preS, h]
theorem stEnv_len : stEnv.length = 120 := by decide
section
variable {hi hm : Hp} {K : Value → Hp → Prop} {c : Nat} {tc : TypeId} {s : YS}
theorem env_bytes {h : Hp} (hc : h c = some (sCells s, tc)) (E : EnvOK hi s) {o k n : Nat} {l : List Int} (ho : o = 59 + k) (hs : seg stEnv k n = bcells l) (hkn : k + n ≤ 120) (hB : isB l) : Byt h (some ⟨c, o, none⟩) n n l := by
  have hp := preS_len E.origin E.made
  have he := sCells_env E.env
  rw [he] at hc
  refine byt_seg hc (by rw [seg_tail (k := k) (by omega)]; exact hs) ?_ hB (by omega)
  rw [List.length_append, hp, stEnv_len]; omega
set_option maxRecDepth 100000 in
set_option maxHeartbeats 4000000 in
theorem baseFee_ok (hd : Dj hi hm) (hc : hm c = some (sCells s, tc)) (E : EnvOK hi s)
    (hk : ∀ sv hi', Ext hi hi' → Dj hi' hm → NtS hi' sv 0 → K (sl sv) (join hi' hm)) : CallX Hval.prog 87 [.pointer (some ⟨c, 0, none⟩)] (join hi hm) K := by
  refine CallX.of_xf T_ok Hval.func87 rfl (by kernel_rfl) (Nat.le_of_ble_eq_true rfl) ?_; conv => whnf
  refine fromBE_j hd (env_bytes (join_hm hd hc) E (k := 87) (l := List.replicate 32 0) rfl rfl (by decide) (isB_zeros _)) fun sv hi' e hd' g => ?_; conv => whnf
  exact RetX.same (hk sv hi' e hd' g)
/-- What the block's instructions give on the stage. -/
def blkI (o : Int) : Int := if o = 65 then 192 else if o = 69 then 1048576 else 0
theorem ldV_env {h : Hp} (hc : h c = some (sCells s, tc)) (E : EnvOK hi s) {o k sz : Nat} {v : Value} (ho : o = 59 + k) (hv : stEnv[k]? = some v) : ldV false sz h c o = some v := by
  have hp := preS_len E.origin E.made
  rw [sCells_env E.env] at hc
  subst ho
  refine ldV_blk hc ?_
  rw [List.getElem?_append_right (by omega), hp, Nat.add_sub_cancel_left]; exact hv
set_option maxRecDepth 100000 in
set_option maxHeartbeats 4000000 in
theorem blockValue_ok {o : Int} (ho : o = 64 ∨ o = 65 ∨ o = 66 ∨ o = 67 ∨ o = 68 ∨ o = 69 ∨ o = 70 ∨ o = 72) (hd : Dj hi hm) (hc : hm c = some (sCells s, tc)) (E : EnvOK hi s) {sa : Sl} {x : Int} (ha : NtS hi sa x) (hx : x < W)
    (hk : ∀ sv hi', Ext hi hi' → Dj hi' hm → NtS hi' sv (blkI o) → K (sl sv) (join hi' hm)) : CallX Hval.prog 213 [.pointer (some ⟨c, 0, none⟩), .int .u8 o, sl sa] (join hi hm) K := by
  refine CallX.of_xf T_ok Hval.func213 rfl (by kernel_rfl) (Nat.le_of_ble_eq_true rfl) ?_; conv => whnf
  rcases ho with rfl | rfl | rfl | rfl | rfl | rfl | rfl | rfl
  · repeat (first | (refine CondX.tt ?_; conv => whnf) | (refine CondX.ff ?_; conv => whnf))
    refine LoadX.of (.int .u64 0) (ldV_env (join_hm hd hc) E (k := 20) rfl rfl) ?_; conv => whnf
    refine CallX.fj hd (num_ok (by omega) (by omega) fun b1 n1 c1 hi1 e1 g1 hd1 => ?_); conv => whnf
    refine CallX.fj hd1 (num_ok (by omega) (by omega) fun b2 n2 c2 hi2 e2 g2 hd2 => ?_); conv => whnf
    have hx0 := ha.val
    refine CallX.fj hd2 (addN ((ha.ext e1).ext e2) g2 (by have : W + W < big := (by rw [W_val, big_val]; decide); have := W_pos; rw [W_val] at *; omega) fun b3 n3 c3 hi3 e3 g3 hd3 => ?_); conv => whnf
    refine subN (((g1.ext e2).ext e3).ext (Ext.jl _ _)) (g3.ext (Ext.jl _ _)) (fun _ => ?_) fun h => by omega
    conv => whnf
    repeat (first | (refine CondX.tt ?_; conv => whnf) | (refine CondX.ff ?_; conv => whnf))
    exact RetX.same (hk nilS hi3 ((e1.trans e2).trans e3) hd3 (Nt_nil _))
  · repeat (first | (refine CondX.tt ?_; conv => whnf) | (refine CondX.ff ?_; conv => whnf))
    refine fromBE_j hd (env_bytes (join_hm hd hc) E (k := 0) (l := stCb) rfl rfl (by decide) (by first | exact isB_zeros _ | (unfold isB stCb; decide))) fun sv hi' e hd' g => ?_; conv => whnf
    exact RetX.same (hk sv hi' e hd' g)
  · repeat (first | (refine CondX.tt ?_; conv => whnf) | (refine CondX.ff ?_; conv => whnf))
    refine LoadX.of (.int .u64 0) (ldV_env (join_hm hd hc) E (k := 21) rfl rfl) ?_; conv => whnf
    refine CallX.fj hd (num_ok (by omega) (by omega) fun b n c hi' e g hd' => ?_); conv => whnf
    exact RetX.same (hk (b, n, c) hi' e hd' g)
  · repeat (first | (refine CondX.tt ?_; conv => whnf) | (refine CondX.ff ?_; conv => whnf))
    refine LoadX.of (.int .u64 0) (ldV_env (join_hm hd hc) E (k := 20) rfl rfl) ?_; conv => whnf
    refine CallX.fj hd (num_ok (by omega) (by omega) fun b n c hi' e g hd' => ?_); conv => whnf
    exact RetX.same (hk (b, n, c) hi' e hd' g)
  · repeat (first | (refine CondX.tt ?_; conv => whnf) | (refine CondX.ff ?_; conv => whnf))
    refine fromBE_j hd (env_bytes (join_hm hd hc) E (k := 23) (l := (List.replicate 32 0)) rfl rfl (by decide) (by first | exact isB_zeros _ | (unfold isB stCb; decide))) fun sv hi' e hd' g => ?_; conv => whnf
    exact RetX.same (hk sv hi' e hd' g)
  · repeat (first | (refine CondX.tt ?_; conv => whnf) | (refine CondX.ff ?_; conv => whnf))
    refine LoadX.of (.int .u64 1048576) (ldV_env (join_hm hd hc) E (k := 22) rfl rfl) ?_; conv => whnf
    refine CallX.fj hd (num_ok (by omega) (by omega) fun b n c hi' e g hd' => ?_); conv => whnf
    exact RetX.same (hk (b, n, c) hi' e hd' g)
  · repeat (first | (refine CondX.tt ?_; conv => whnf) | (refine CondX.ff ?_; conv => whnf))
    refine fromBE_j hd (env_bytes (join_hm hd hc) E (k := 55) (l := (List.replicate 32 0)) rfl rfl (by decide) (by first | exact isB_zeros _ | (unfold isB stCb; decide))) fun sv hi' e hd' g => ?_; conv => whnf
    exact RetX.same (hk sv hi' e hd' g)
  · repeat (first | (refine CondX.tt ?_; conv => whnf) | (refine CondX.ff ?_; conv => whnf))
    refine baseFee_ok hd hc E fun sv hi' e hd' g => ?_; conv => whnf
    exact RetX.same (hk sv hi' e hd' g)
end
end Go.Proofs.YgvalwGreat.X
