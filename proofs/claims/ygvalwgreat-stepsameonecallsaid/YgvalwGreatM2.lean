import Derived.Test.YgvalwGreatM1
set_option linter.unusedVariables false
set_option linter.unusedSimpArgs false
namespace Go.Proofs.YgvalwGreat.X
open Go

section
variable {hi hm h : Hp} {K : Value → Hp → Prop} {mc mc' : Nat → Value} {v : VS} {eb : Nat} {w : AW} {sn : List AW} {m : MS} {t : Nat}
/-- A change of the machine's cells. -/
theorem VOK.setM (V : VOK hi hm eb mc v) (mc' : Nat → Value) : VOK hi (hput hm eb (fnv 27024 (eC mc' v), 101)) eb mc' v := by
  have kp : KpT 101 hm (hput hm eb (fnv 27024 (eC mc' v), 101)) := KpT.put V.blk
  refine ⟨V.dj.put V.blk, hput_same .., V.aT.kp kp (by decide), V.sT.kp kp (by decide), V.jT.kp kp (by decide), V.lT.kp kp (by decide), V.tT.kp kp (by decide), ?_, V.atab, V.stab, V.ac, V.jc, V.cok⟩
  rcases V.ttT with h1 | ⟨m, h1, h2, h3⟩
  · exact .inl h1
  · exact .inr ⟨m, h1, kp _ _ _ (by decide) h2, h3⟩
theorem VA.setM (A : VA hi hm eb mc w sn v) (mc' : Nat → Value) : VA hi (hput hm eb (fnv 27024 (eC mc' v), 101)) eb mc' w sn v := ⟨A.V.setM mc', A.abs, A.hist, A.orig⟩
theorem VOK.exti {hi' : Hp} (V : VOK hi hm eb mc v) (he : Ext hi hi') (hd : Dj hi' hm) : VOK hi' hm eb mc v :=
  ⟨hd, V.blk, V.aT, V.sT, V.jT, V.lT, V.tT, V.ttT, V.atab, V.stab, fun x hx => (V.ac x hx).ext he, fun x hx => (V.jc x hx).ext he, V.cok⟩
theorem VA.exti {hi' : Hp} (A : VA hi hm eb mc w sn v) (he : Ext hi hi') (hd : Dj hi' hm) : VA hi' hm eb mc w sn v := ⟨A.V.exti he hd, A.abs, A.hist, A.orig⟩
/-- The bit map of the places that may be jumped to. -/
def DstOK (d : Nat → Int) (code : List Int) : Prop := ∃ D : Nat → Nat, (∀ i, d i = D i) ∧ (∀ i, D i < 2 ^ 64) ∧ ∀ a, a < 512 → (D (a / 64)).testBit (a % 64) = isDestI code a
structure FOK (hi : Hp) (f : MF) (i : Nat) : Prop where
  sb : f.sb = 64 * i
  sp : f.sp ≤ 64
  pc : f.pc < 2000
  gas : 0 ≤ f.gas ∧ f.gas < 18446744073709551616
  self : f.self.length = 20 ∧ isB f.self
  caller : f.caller.length = 20 ∧ isB f.caller
  val : 0 ≤ f.val ∧ f.val < W
  code : BytS hi f.cs f.code
  cl : f.code.length ≤ 512
  input : BytS hi f.is f.input
  dst : DstOK f.dst f.code
/-- THE MACHINE, with frame t on top. -/
structure MA (hi hm : Hp) (eb : Nat) (m : MS) (t : Nat) (w : AW) (sn : List AW) (v : VS) : Prop where
  A : VA hi hm eb (mC eb m) w sn v
  phase : m.phase = 1
  top : m.top = t
  t7 : t < 7
  fok : ∀ i, i ≤ t → FOK hi (m.fr i) i
  stw : ∀ i, 0 ≤ m.stk i ∧ m.stk i < W
  ret : BytS hi m.retS m.ret
theorem MA.blk (M : MA hi hm eb m t w sn v) (he : Ext (join hi hm) h) : h eb = some (fnv 27024 (eC (mC eb m) v), 101) := M.A.blk he
theorem MA.f (M : MA hi hm eb m t w sn v) : FOK hi (m.fr t) t := M.fok t (Nat.le_refl _)
def argM (m : MS) (t i : Nat) : Int := if i < (m.fr t).sp then m.stk (64 * t + (m.fr t).sp - 1 - i) else 0
theorem argM_W (M : MA hi hm eb m t w sn v) (i : Nat) : 0 ≤ argM m t i ∧ argM m t i < W := by
  unfold argM; split
  · exact M.stw _
  · exact ⟨Int.le_refl 0, W_pos⟩
set_option maxRecDepth 100000 in
set_option maxHeartbeats 4000000 in
theorem running_ok (M : MA hi hm eb m t w sn v) (he : Ext (join hi hm) h) (hk : K (.pointer (some ⟨eb, 1803 + t * 65, none⟩)) h) : CallX Hval.prog 104 [.pointer (some ⟨eb, 0, none⟩)] h K := by
  have hb := M.blk he
  have h7 := M.t7
  refine CallX.of_xf T_ok Hval.func104 rfl (by kernel_rfl) (Nat.le_of_ble_eq_true rfl) ?_; conv => whnf
  refine LoadX.fn hb 2404 rfl (by omega) ?_
  rw [mR_phase, M.phase]; conv => whnf
  repeat (first | (refine CondX.tt ?_; conv => whnf) | (refine CondX.ff ?_; conv => whnf))
  refine LoadX.fn hb 0 rfl (by omega) ?_
  rw [mR_S]; conv => whnf
  repeat (first | (refine CondX.tt ?_; conv => whnf) | (refine CondX.ff ?_; conv => whnf))
  refine LoadX.fn hb 2258 rfl (by omega) ?_
  rw [mR_top, M.top]; conv => whnf
  repeat (first | (refine CondX.tt ?_; conv => whnf) | (refine CondX.ff ?_; conv => whnf))
  refine LoadX.fn hb 2258 rfl (by omega) ?_
  rw [mR_top, M.top]; conv => whnf
  repeat (first | (refine CondX.tt ?_; conv => whnf) | (refine CondX.ff ?_; conv => whnf))
  refine CondX.dF (by omega) ?_; conv => whnf
  repeat (first | (refine CondX.tt ?_; conv => whnf) | (refine CondX.ff ?_; conv => whnf))
  refine DrawX.go T_ok hM Hval.func104 (tb := dr104) rfl (by kernel_rfl) ?_; conv => whnf
  refine LoadX.fn hb 2258 rfl (by omega) ?_
  rw [mR_top, M.top]; conv => whnf
  refine Ob.mk ⟨by omega, by omega⟩ ?_; conv => whnf
  exact RetX.same hk
set_option maxRecDepth 100000 in
set_option maxHeartbeats 4000000 in
theorem opcodeM_ok (M : MA hi hm eb m t w sn v) (he : Ext (join hi hm) h) (hk : K (.int .u8 (opI (m.fr t).code (m.fr t).pc)) h) : CallX Hval.prog 113 [.pointer (some ⟨eb, 0, none⟩)] h K := by
  have hb := M.blk he
  have h7 := M.t7
  have F := M.f
  have hpc := F.pc
  have hcode := (F.code.ext (Ext.jl hi hm)).ext he
  have hcl := hcode.len
  have hrm := hcode.room
  refine CallX.of_xf T_ok Hval.func113 rfl (by kernel_rfl) (Nat.le_of_ble_eq_true rfl) ?_; conv => whnf
  refine running_ok M he ?_; conv => whnf
  refine DrawX.go T_ok hM Hval.func113 (tb := dr113) rfl (by kernel_rfl) ?_; conv => whnf
  repeat (first | (refine CondX.tt ?_; conv => whnf) | (refine CondX.ff ?_; conv => whnf))
  refine LoadX.fn hb (1803 + t * 65 + 4) rfl (by omega) ?_
  rw [mR_pc h7]; conv => whnf
  repeat (first | (refine CondX.tt ?_; conv => whnf) | (refine CondX.ff ?_; conv => whnf))
  refine LoadX.fn hb (1803 + t * 65 + 53) rfl (by omega) ?_
  rw [mR_cs h7]; conv => whnf
  repeat (first | (refine CondX.tt ?_; conv => whnf) | (refine CondX.ff ?_; conv => whnf))
  rw [show IntKind.i64.wrap ((m.fr t).pc : Int) = (m.fr t).pc from wrap_i64 (by omega) (by omega)]
  refine CondX.decI (fun hc => ?_) (fun hc => ?_) <;> conv => whnf
  · have hk := hk
    unfold opI at hk
    rw [if_neg (by omega)] at hk
    exact RetX.same hk
  · refine DrawX.go T_ok hM Hval.func113 (tb := dr113) rfl (by kernel_rfl) ?_; conv => whnf
    refine LoadX.fn hb (1803 + t * 65 + 53) rfl (by omega) ?_
    rw [mR_cs h7]; conv => whnf
    refine LoadX.fn hb (1803 + t * 65 + 4) rfl (by omega) ?_
    rw [mR_pc h7]; conv => whnf
    obtain ⟨b, off, hbo⟩ := rd_base hcode.rd (by omega)
    rw [hbo]
    refine IdxX.at (by omega) (by omega) ?_; conv => whnf
    refine LoadX.byte hcode hbo (m.fr t).pc rfl (by omega) rfl ?_; conv => whnf
    have hk := hk
    unfold opI at hk
    rw [if_pos (by omega), Int.toNat_natCast] at hk
    exact RetX.same hk
set_option maxRecDepth 100000 in
set_option maxHeartbeats 4000000 in
theorem arg_okM {i : Nat} (M : MA hi hm eb m t w sn v) (he : Ext (join hi hm) h) (hi64 : i < 2 ^ 20) (hk : K (.agg (wc (argM m t i)).toArray) h) : CallX Hval.prog 248 [.pointer (some ⟨eb, 0, none⟩), .pointer (some ⟨eb, 1803 + t * 65, none⟩), .int .i64 i] h K := by
  have h7 := M.t7
  have F := M.f
  have hsp := F.sp
  have hsb := F.sb
  refine CallX.of_xf T_ok Hval.func248 rfl (by kernel_rfl) (Nat.le_of_ble_eq_true rfl) ?_; conv => whnf
  refine BoxX.ext fun n1 hn1 en1 => ?_; conv => whnf
  have hb := M.blk (he.trans en1)
  refine DrawX.go T_ok hM Hval.func248 (tb := dr248) rfl (by kernel_rfl) ?_; conv => whnf
  refine LoadX.fn hb (1803 + t * 65 + 5) rfl (by omega) ?_
  rw [mR_sb h7]; conv => whnf
  refine LoadX.fn hb (1803 + t * 65 + 6) rfl (by omega) ?_
  rw [mR_sp h7]; conv => whnf
  have e1 : IntKind.i64.wrap ((m.fr t).sb : Int) = (m.fr t).sb := wrap_i64 (by omega) (by omega)
  have e2 : IntKind.i64.wrap ((m.fr t).sp : Int) = (m.fr t).sp := wrap_i64 (by omega) (by omega)
  have e3 : IntKind.i64.wrap (((m.fr t).sb : Int) + (m.fr t).sp) = (m.fr t).sb + (m.fr t).sp := wrap_i64 (by omega) (by omega)
  have e4 : IntKind.i64.wrap (((m.fr t).sb : Int) + (m.fr t).sp - 1) = (m.fr t).sb + (m.fr t).sp - 1 := wrap_i64 (by omega) (by omega)
  have e5 : IntKind.i64.wrap (((m.fr t).sb : Int) + (m.fr t).sp - 1 - i) = (m.fr t).sb + (m.fr t).sp - 1 - i := wrap_i64 (by omega) (by omega)
  rw [e1, e2, e3, e4, e5]
  refine LoadX.fn hb (1803 + t * 65 + 6) rfl (by omega) ?_
  rw [mR_sp h7]; conv => whnf
  rw [e2]
  refine CondX.decI (fun hc => ?_) (fun hc => ?_) <;> conv => whnf
  · repeat (first | (refine CondX.tt ?_; conv => whnf) | (refine CondX.ff ?_; conv => whnf))
    refine Ob.mk ⟨rfl, rfl⟩ ?_; conv => whnf
    refine StoreX.whole (c := (75, y75).snd.zero) (t := 75) (hput_same ..) rfl ?_; conv => whnf
    refine LoadX.all (c := wc 0) (hput_same ..) rfl ?_; conv => whnf
    rw [hput_hput]
    refine RetX.drop (h' := h) (Ext.bd hn1) ?_
    have hk := hk
    unfold argM at hk
    rw [if_neg (by omega)] at hk
    exact hk
  · repeat (first | (refine CondX.tt ?_; conv => whnf) | (refine CondX.ff ?_; conv => whnf))
    refine CondX.dF (by omega) ?_; conv => whnf
    repeat (first | (refine CondX.tt ?_; conv => whnf) | (refine CondX.ff ?_; conv => whnf))
    refine Ob.mk ⟨by omega, by omega⟩ ?_; conv => whnf
    have eo : (((m.fr t).sb : Int) + (m.fr t).sp - 1 - i).toNat = 64 * t + (m.fr t).sp - 1 - i := by omega
    rw [eo]
    refine LoadX.fnA hb (11 + (64 * t + (m.fr t).sp - 1 - i) * 4) rfl (by show _ + 4 ≤ _; omega) ?_
    rw [show (75, y75).snd.size = 4 from rfl, mR_word (by omega)]; conv => whnf
    refine Ob.mk ⟨rfl, rfl⟩ ?_; conv => whnf
    refine StoreX.whole (c := (75, y75).snd.zero) (t := 75) (hput_same ..) rfl ?_; conv => whnf
    refine LoadX.all (c := wc (m.stk (64 * t + (m.fr t).sp - 1 - i))) (hput_same ..) rfl ?_; conv => whnf
    rw [hput_hput]
    refine RetX.drop (h' := h) (Ext.bd hn1) ?_
    have hk := hk
    unfold argM at hk
    rw [if_pos (by omega)] at hk
    exact hk
end
end Go.Proofs.YgvalwGreat.X
