import Derived.Test.YgvalwGreatM5
set_option linter.unusedVariables false
set_option linter.unusedSimpArgs false
namespace Go.Proofs.YgvalwGreat.X
open Go


def swapM (m : MS) (t n : Nat) : MS :=
  { m with stk := updN (updN m.stk (64 * t + (m.fr t).sp - 1) (m.stk (64 * t + (m.fr t).sp - 1 - n - 1))) (64 * t + (m.fr t).sp - 1 - n - 1) (m.stk (64 * t + (m.fr t).sp - 1)), fr := updN m.fr t { m.fr t with pc := (m.fr t).pc + 1 } }
section
variable {hi hi0 hm h : Hp} {K : Value → Hp → Prop} {mc mc' : Nat → Value} {v : VS} {eb : Nat} {w : AW} {sn : List AW} {m : MS} {t : Nat}
set_option maxRecDepth 100000 in
set_option maxHeartbeats 4000000 in
theorem dup_ok {n : Nat} (M : MA hi hm eb m t w sn v) (hn : n < 16) (ho : opI (m.fr t).code (m.fr t).pc = ((128 + n : Nat) : Int)) (hroom : (m.fr t).sp < 64) (hpc : (m.fr t).pc < 600) (hk : ArK hi eb m t 0 w sn v (argM m t n) K) : CallX Hval.prog 300 [.pointer (some ⟨eb, 0, none⟩)] (join hi hm) K := by
  refine CallX.of_xf T_ok Hval.func300 rfl (by kernel_rfl) (Nat.le_of_ble_eq_true rfl) ?_; conv => whnf
  refine running_ok M (Ext.refl _) ?_; conv => whnf
  repeat (first | (refine CondX.tt ?_; conv => whnf) | (refine CondX.ff ?_; conv => whnf))
  refine opcodeM_ok M (Ext.refl _) ?_
  rw [ho]; conv => whnf
  rw [show IntKind.u8.wrap (((128 + n : Nat) : Int) - 128) = (n : Int) by rw [wrap_u8]; omega, show IntKind.i64.wrap (n : Int) = (n : Int) from wrap_i64 (by omega) (by omega)]
  refine arg_okM (i := n) M (Ext.refl _) (by omega) ?_; conv => whnf
  refine settle_some (tk := 0) (st := 1) M (by omega) (by omega) (by omega) (argM_W M n) fun hm' M' => ?_; conv => whnf
  exact RetX.same (hk hm' M')
set_option maxRecDepth 100000 in
set_option maxHeartbeats 4000000 in
theorem swap_ok {n : Nat} (M : MA hi hm eb m t w sn v) (hn : n < 16) (ho : opI (m.fr t).code (m.fr t).pc = ((144 + n : Nat) : Int)) (hs : n + 2 ≤ (m.fr t).sp) (hpc : (m.fr t).pc < 600) (hk : ∀ hm', MA hi hm' eb (swapM m t n) t w sn v → K (.tuple #[]) (join hi hm')) : CallX Hval.prog 301 [.pointer (some ⟨eb, 0, none⟩)] (join hi hm) K := by
  have h7 := M.t7
  have F := M.f
  have hsp := F.sp
  have hsb := F.sb
  refine CallX.of_xf T_ok Hval.func301 rfl (by kernel_rfl) (Nat.le_of_ble_eq_true rfl) ?_; conv => whnf
  refine running_ok M (Ext.refl _) ?_; conv => whnf
  repeat (first | (refine CondX.tt ?_; conv => whnf) | (refine CondX.ff ?_; conv => whnf))
  have hb := join_hm M.A.V.dj M.A.V.blk
  refine DrawX.go T_ok hM Hval.func301 (tb := dr301) rfl (by kernel_rfl) ?_; conv => whnf
  refine LoadX.fn hb (1803 + t * 65 + 5) rfl (by omega) ?_
  rw [mR_sb h7]; conv => whnf
  refine LoadX.fn hb (1803 + t * 65 + 6) rfl (by omega) ?_
  rw [mR_sp h7]; conv => whnf
  have e1 : IntKind.i64.wrap ((m.fr t).sb : Int) = (m.fr t).sb := wrap_i64 (by omega) (by omega)
  have e2 : IntKind.i64.wrap ((m.fr t).sp : Int) = (m.fr t).sp := wrap_i64 (by omega) (by omega)
  have e3 : IntKind.i64.wrap (((m.fr t).sb : Int) + (m.fr t).sp) = (m.fr t).sb + (m.fr t).sp := wrap_i64 (by omega) (by omega)
  have e4 : IntKind.i64.wrap (((m.fr t).sb : Int) + (m.fr t).sp - 1) = ((64 * t + (m.fr t).sp - 1 : Nat) : Int) := by rw [wrap_i64 (by omega) (by omega)]; omega
  rw [e1, e2, e3, e4]
  refine opcodeM_ok M (Ext.refl _) ?_
  rw [ho]; conv => whnf
  have e5 : IntKind.i64.wrap ((((64 * t + (m.fr t).sp - 1 : Nat) : Int)) - n) = ((64 * t + (m.fr t).sp - 1 - n : Nat) : Int) := by rw [wrap_i64 (by omega) (by omega)]; omega
  have e6 : IntKind.i64.wrap (((64 * t + (m.fr t).sp - 1 - n : Nat) : Int) - 1) = ((64 * t + (m.fr t).sp - 1 - n - 1 : Nat) : Int) := by rw [wrap_i64 (by omega) (by omega)]; omega
  rw [show IntKind.u8.wrap (((144 + n : Nat) : Int) - 144) = (n : Int) by rw [wrap_u8]; omega, show IntKind.i64.wrap (n : Int) = (n : Int) from wrap_i64 (by omega) (by omega), e5, e6]
  repeat (first | (refine CondX.tt ?_; conv => whnf) | (refine CondX.ff ?_; conv => whnf))
  refine CondX.dF (by omega) ?_; conv => whnf
  have htl : 64 * t + (m.fr t).sp - 1 < 448 := by omega
  have hll : 64 * t + (m.fr t).sp - 1 - n - 1 < 448 := by omega
  refine Ob.mk ⟨by omega, by omega⟩ ?_; conv => whnf
  refine LoadX.fnA hb (11 + (64 * t + (m.fr t).sp - 1) * 4) (by rw [Int.toNat_natCast]; rfl) (by show _ + 4 ≤ _; omega) ?_
  rw [show (75, y75).snd.size = 4 from rfl, mR_word htl]; conv => whnf
  refine BoxX.wj M.A.V.dj fun n3 hd3 he3 => ?_; conv => whnf
  refine Ob.mk ⟨rfl, rfl⟩ ?_; conv => whnf
  refine StoreX.j (Nat.le_of_ble_eq_true rfl) ?_
  rw [setSeg_all (by rfl)]; conv => whnf
  have hb3 := join_hm (hd3 ((wc (m.stk (64 * t + (m.fr t).sp - 1))).toArray.toList, 75)) M.A.V.blk
  refine DrawX.go T_ok hM Hval.func301 (tb := dr301) rfl (by kernel_rfl) ?_; conv => whnf
  refine Ob.mk ⟨by omega, by omega⟩ ?_; conv => whnf
  refine LoadX.fnA hb3 (11 + (64 * t + (m.fr t).sp - 1 - n - 1) * 4) (by rw [Int.toNat_natCast]; rfl) (by show _ + 4 ≤ _; omega) ?_
  rw [show (75, y75).snd.size = 4 from rfl, mR_word hll]; conv => whnf
  refine Ob.mk ⟨by omega, by omega⟩ ?_; conv => whnf
  refine Ob.mk ⟨rfl, rfl⟩ ?_; conv => whnf
  refine StoreX.jfL (hd3 _) M.A.V.blk (wc_fnv (m.stk (64 * t + (m.fr t).sp - 1 - n - 1))) (11 + (64 * t + (m.fr t).sp - 1) * 4) (by rw [Int.toNat_natCast]; rfl) (by omega) fun hd5 => ?_
  rw [mU_stk htl] at hd5 ⊢; conv => whnf
  refine DrawX.go T_ok hM Hval.func301 (tb := dr301) rfl (by kernel_rfl) ?_; conv => whnf
  refine LoadX.all (c := wc (m.stk (64 * t + (m.fr t).sp - 1))) (join_l (hput_same ..)) rfl ?_; conv => whnf
  refine Ob.mk ⟨by omega, by omega⟩ ?_; conv => whnf
  refine Ob.mk ⟨rfl, rfl⟩ ?_; conv => whnf
  refine StoreX.jfL hd5 (hput_same ..) (wc_fnv (m.stk (64 * t + (m.fr t).sp - 1))) (11 + (64 * t + (m.fr t).sp - 1 - n - 1) * 4) (by rw [Int.toNat_natCast]; rfl) (by omega) fun hd6 => ?_
  rw [mU_stk hll, hput_hput] at hd6 ⊢; conv => whnf
  refine LoadX.fn (join_hm hd6 (hput_same ..)) (1803 + t * 65 + 4) rfl (by omega) ?_
  rw [mR_pc h7]; conv => whnf
  dsimp only
  rw [show IntKind.u16.wrap (((m.fr t).pc : Int) + 1) = (((m.fr t).pc + 1 : Nat) : Int) by rw [wrap_u16]; omega]
  refine StoreX.jf hd6 (hput_same ..) (1803 + t * 65 + 4) rfl (by omega) fun hd7 => ?_
  rw [eU_pc h7, hput_hput] at hd7 ⊢; conv => whnf
  refine RetX.drop (h' := join hi (hput hm eb (fnv 27024 (eC (mC eb (swapM m t n)) v), 101))) (Ext.j2 (he3 _) hd7 (Ext.refl _)) (hk _ ?_)
  refine ⟨M.A.setM _, M.phase, M.top, M.t7, fun j hj => ?_, fun j => ?_, M.ret⟩
  · unfold swapM; dsimp only; unfold updN
    split <;> rename_i h1
    · rw [h1]; exact ⟨F.sb, F.sp, by show (m.fr t).pc + 1 < 2000; omega, F.gas, F.self, F.caller, F.val, F.code, F.cl, F.input, F.dst⟩
    · exact M.fok j hj
  · unfold swapM; dsimp only; unfold updN
    split
    · exact M.stw _
    split
    · exact M.stw _
    · exact M.stw j
end
end Go.Proofs.YgvalwGreat.X
