import Derived.Test.YgvalwGreatM11
set_option linter.unusedVariables false
set_option linter.unusedSimpArgs false
namespace Go.Proofs.YgvalwGreat.X
open Go

section
variable {eb : Nat} {m : MS} {v : VS}
theorem eU_buf (x : Sl) : updV (eC (mC eb m) v) 1 (sl x) = eC (mC eb { m with bufS := x }) v := by
  rw [eU_m (by omega)]; congr 1; funext k; unfold updV mC
  by_cases h : k = 1
  · subst h; rfl
  · simp only [if_neg h]
theorem eU_mtop (x : Int) : updV (eC (mC eb m) v) 10 (.int .u8 x) = eC (mC eb { m with mtop := x }) v := by
  rw [eU_m (by omega)]; congr 1; funext k; unfold updV mC
  by_cases h : k = 10
  · subst h; rfl
  · simp only [if_neg h]
theorem eU_top (x : Int) : updV (eC (mC eb m) v) 2258 (.int .i8 x) = eC (mC eb { m with top := x }) v := by
  rw [eU_m (by omega)]; congr 1; funext k; unfold updV mC
  by_cases h : k = 2258
  · subst h; rfl
  · simp only [if_neg h]
theorem eU_ret (x : Sl) (l : List Int) : updV (eC (mC eb m) v) 2259 (sl x) = eC (mC eb { m with retS := x, ret := l }) v := by
  rw [eU_m (by omega)]; congr 1; funext k; unfold updV mC
  by_cases h : k = 2259
  · subst h; rfl
  · simp only [if_neg h]
theorem eU_phase (x : Int) : updV (eC (mC eb m) v) 2404 (.int .u8 x) = eC (mC eb { m with phase := x }) v := by
  rw [eU_m (by omega)]; congr 1; funext k; unfold updV mC
  by_cases h : k = 2404
  · subst h; rfl
  · simp only [if_neg h]
theorem eU_status (x : Int) : updV (eC (mC eb m) v) 2405 (.int .u8 x) = eC (mC eb { m with status := x }) v := by
  rw [eU_m (by omega)]; congr 1; funext k; unfold updV mC
  by_cases h : k = 2405
  · subst h; rfl
  · simp only [if_neg h]
theorem eU_base {i : Nat} (hi : i < 8) (x : Int) : updV (eC (mC eb m) v) (2 + i) (.int .u32 x) = eC (mC eb { m with base := updN m.base i x }) v := by
  rw [eU_m (by omega)]; congr 1; funext k; unfold updV mC
  dsimp only
  by_cases h0 : k = 0
  · subst h0; rw [if_neg (by omega)]; rfl
  by_cases h1 : k = 1
  · subst h1; rw [if_neg (by omega)]; rfl
  rw [if_neg h0, if_neg h1, if_neg h0, if_neg h1]
  by_cases h2 : k < 10
  · rw [if_pos h2, if_pos h2]
    unfold updN
    by_cases h3 : k = 2 + i
    · rw [if_pos h3, if_pos (by omega)]
    · rw [if_neg h3, if_neg (by omega)]
  · rw [if_neg h2, if_neg h2, if_neg (by omega)]
end
section
variable {hi hm hb : Hp} {K : Value → Hp → Prop} {v : VS} {eb : Nat} {w : AW} {sn : List AW} {m : MS} {t : Nat} {low mem stale : List Int}
/-- A change of the arena's cells. -/
theorem MA.setMem (M : MA hi hm eb m t w sn v) (s : Sl) (b : Nat → Int) (k : Int) : MA hi (hput hm eb (fnv 27024 (eC (mC eb { m with bufS := s, base := b, mtop := k }) v), 101)) eb { m with bufS := s, base := b, mtop := k } t w sn v :=
  ⟨M.A.setM _, M.phase, M.top, M.t7, M.fok, M.stw, M.ret⟩
theorem Dj.st {y} (hd : Dj (join hi hm) hb) {c : Nat} {x} (hc : hm c = some x) : Dj (join hi (hput hm c y)) hb := fun b => by
  rcases hd b with h | h
  · refine .inl ?_
    unfold join at h ⊢
    cases h2 : hi b with
    | some z => rw [h2] at h; cases h
    | none =>
      rw [h2] at h
      dsimp only at h ⊢
      by_cases hbc : b = c
      · subst hbc; rw [hc] at h; cases h
      · rw [hput_ne hbc]; exact h
  · exact .inr h
def growM (m : MS) (t : Nat) (s : Sl) (n : Nat) : MS := { m with bufS := s, base := updN m.base (t + 1) n }
theorem ovl_end {x : List Int} (h : x.length ≤ stale.length) : ovl (low ++ (mem ++ stale)) (low.length + mem.length) x = low ++ (mem ++ (x ++ stale.drop x.length)) := by
  unfold ovl
  rw [List.take_length_add_append, List.take_left, Nat.add_assoc, List.drop_length_add_append, List.drop_length_add_append]
  simp only [List.append_assoc]
set_option maxRecDepth 100000 in
set_option maxHeartbeats 4000000 in
theorem agrow_ok {wd : Nat} (M : MA hi hm eb m t w sn v) (B : MBf hb m t low mem stale) (hd : Dj (join hi hm) hb) (hw : wd ≤ 22415) (hgt : mem.length < 32 * wd) (hlow : low.length ≤ 4400000)
    (hk : ∀ s hm' hb' stale', MA hi hm' eb (growM m t s (low.length + 32 * wd)) t w sn v → Dj (join hi hm') hb' → MBf hb' (growM m t s (low.length + 32 * wd)) t low (mem ++ List.replicate (32 * wd - mem.length) 0) stale' → K (.bool true) (join (join hi hm') hb')) :
    CallX Hval.prog 255 [.pointer (some ⟨eb, 1, none⟩), .int .u32 wd] (join (join hi hm) hb) K := by
  have h7 := M.t7
  have hbE := M.blk (Ext.refl _)
  have hll := B.lens
  have hcap := B.cap
  have hby := (B.buf.byt (by have := B.few; omega)).ext (Ext.jr hd)
  refine CallX.of_xf T_ok Hval.func255 rfl (by kernel_rfl) (Nat.le_of_ble_eq_true rfl) ?_; conv => whnf
  refine atop_ok (join_l hbE) B (Ext.jr hd) h7 ?_; conv => whnf
  repeat (first | (refine CondX.tt ?_; conv => whnf) | (refine CondX.ff ?_; conv => whnf))
  refine CondX.dF (by omega) ?_; conv => whnf
  rw [show IntKind.u32.wrap (32 * (wd : Int)) = ((32 * wd : Nat) : Int) by rw [wrap_u32]; omega, show IntKind.u32.wrap (mem.length : Int) = mem.length by rw [wrap_u32]; omega]
  refine CondX.dF (by omega) ?_; conv => whnf
  rw [show IntKind.u32.wrap (32 * (wd : Int)) = ((32 * wd : Nat) : Int) by rw [wrap_u32]; omega, show IntKind.i64.wrap ((32 * wd : Nat) : Int) = ((32 * wd : Nat) : Int) from wrap_i64 (by omega) (by omega), show IntKind.i64.wrap (((32 * wd : Nat) : Int) - mem.length) = ((32 * wd - mem.length : Nat) : Int) by rw [wrap_i64 (by omega) (by omega)]; omega]
  refine DrawX.go T_ok hM Hval.func255 (tb := dr255) rfl (by kernel_rfl) ?_; conv => whnf
  refine LoadX.fn (join_l hbE) 10 rfl (by omega) ?_
  rw [mR_mtop, B.mtop]; conv => whnf
  refine Ob.mk ⟨by omega, by omega⟩ ?_; conv => whnf
  refine LoadX.fn (join_l hbE) (2 + (t + 1)) (by rw [Int.toNat_natCast, show (fd 1 71).offset = 1 from rfl, show (70, y70).snd.size = 1 from rfl]; omega) (by omega) ?_
  rw [mR_base (by omega), B.b1]; conv => whnf
  refine LoadX.fn (join_l hbE) 1 rfl (by omega) ?_
  rw [mR_buf]; conv => whnf
  refine SlcX.gen hby.rd hby.nil hby.le (low.length + mem.length) m.bufS.2.1 m.bufS.2.2 rfl rfl rfl (by omega) (by omega) (Nat.le_refl _) (.inl rfl) ?_; conv => whnf
  refine CondX.decI (fun hc => ?_) (fun hc => ?_) <;> conv => whnf
  · have hstale : 0 < stale.length := by omega
    obtain ⟨mb, pad, e1, -, e3⟩ : ∃ mb pad, m.bufS.1 = some ⟨mb, 0, none⟩ ∧ hb mb = some (bcells ((low ++ (mem ++ stale)) ++ pad), 5) ∧ m.bufS.2.2 = (low ++ (mem ++ stale)).length + pad.length := by
      rcases B.buf.blk with ⟨_, _, h3⟩ | h
      · have := congrArg List.length h3
        rw [List.length_append, List.length_append, List.length_nil] at this
        omega
      · exact h
    have eb1 : bsh m.bufS.1 (low.length + mem.length) m.bufS.2.2 (5, y5).snd.size = some ⟨mb, low.length + mem.length, none⟩ := by
      rw [e1]
      show some (⟨mb, soff 0 (low.length + mem.length) m.bufS.2.2 1, none⟩ : Addr) = _
      unfold soff
      rw [if_neg (by omega), Nat.zero_add, Nat.mul_one]
    rw [eb1]
    refine SlcX.at (show m.bufS.2.1 - (low.length + mem.length) ≤ m.bufS.2.2 - (low.length + mem.length) by omega) 0 (32 * wd - mem.length) (m.bufS.2.2 - (low.length + mem.length)) rfl rfl rfl (by omega) (by omega) (by omega) (.inl rfl) ?_; conv => whnf
    rw [show soff (low.length + mem.length) 0 (m.bufS.2.2 - (low.length + mem.length)) (5, y5).snd.size = low.length + mem.length by unfold soff; split <;> simp]
    obtain ⟨c, q1, q2, q3, q4, q5⟩ := B.buf.put hd e1 (o := low.length + mem.length) (x := List.replicate (32 * wd - mem.length) 0) (by rw [List.length_replicate]; simp only [List.length_append]; omega) (fun d hd => by have := (List.mem_replicate.1 hd).2; omega)
    rw [ovl_end (by rw [List.length_replicate]; omega), List.length_replicate] at q3
    refine ⟨fun h0 => by omega, fun _ => ⟨c, 5, join_hm hd q1, by rw [show zeros (5, y5).snd.zero (32 * wd - mem.length - 0) = bcells (List.replicate (32 * wd - mem.length) 0) from zeros_bcells _]; exact q2, by rw [show zeros (5, y5).snd.zero (32 * wd - mem.length - 0) = bcells (List.replicate (32 * wd - mem.length) 0) from zeros_bcells _]; exact ones_bcells _, ?_⟩⟩
    rw [show zeros (5, y5).snd.zero (32 * wd - mem.length - 0) = bcells (List.replicate (32 * wd - mem.length) 0) from zeros_bcells _, q5]; conv => whnf
    have hstl : (stale.drop (32 * wd - mem.length)).length = stale.length - (32 * wd - mem.length) := List.length_drop ..
    obtain ⟨hb2, hmX, sX, stX, hdX, MX, BX, hsX, eX⟩ : ∃ hb2 hmX sX stX, Dj (join hi hmX) hb2 ∧ MA hi hmX eb { m with bufS := sX } t w sn v ∧ BufOK hb2 sX (low ++ (mem ++ (List.replicate (32 * wd - mem.length) 0 ++ stX))) ∧ low.length + (32 * wd + stX.length) ≤ 6000000 ∧ join (join hi hm) (hput hb mb (setSeg c (low.length + mem.length) (bcells (List.replicate (32 * wd - mem.length) 0)), 5)) = join (join hi hmX) hb2 := ⟨_, hm, m.bufS, _, q4, M, q3, by rw [hstl]; omega, rfl⟩
    rw [eX]
    have hbX := MX.blk (Ext.refl _)
    refine DrawX.go T_ok hM Hval.func255 (tb := dr255) rfl (by kernel_rfl) ?_; conv => whnf
    refine LoadX.fn (join_l hbX) 10 rfl (by omega) ?_
    rw [mR_mtop, show ({ m with bufS := sX } : MS).mtop = _ from B.mtop]; conv => whnf
    rw [show IntKind.u32.wrap ((32 * wd - mem.length : Nat) : Int) = ((32 * wd - mem.length : Nat) : Int) by rw [wrap_u32]; omega, show IntKind.u32.wrap (((low.length + mem.length : Nat) : Int) + ((32 * wd - mem.length : Nat) : Int)) = ((low.length + 32 * wd : Nat) : Int) by rw [wrap_u32]; omega]
    refine Ob.mk ⟨by omega, by omega⟩ ?_; conv => whnf
    refine StoreX.fr (StoreX.jf MX.A.V.dj MX.A.V.blk (2 + (t + 1)) (by rw [Int.toNat_natCast, show (fd 1 71).offset = 1 from rfl, show (70, y70).snd.size = 1 from rfl]; omega) (by omega) fun hd5 => ?_)
    rw [eU_base (by omega)] at hd5 ⊢; conv => whnf
    have hml : (mem ++ List.replicate (32 * wd - mem.length) 0).length = 32 * wd := by rw [List.length_append, List.length_replicate]; omega
    refine RetX.same (hk sX _ hb2 stX (MX.setMem sX _ _) (Dj.st hdX MX.A.V.blk) ⟨B.mtop, ?_, ?_, by rw [List.append_assoc]; exact BX, by simp only [List.length_append, List.length_replicate]; omega⟩)
    · show updN m.base (t + 1) _ t = _
      unfold updN; rw [if_neg (by omega)]; exact B.b0
    · show updN m.base (t + 1) _ (t + 1) = _
      unfold updN; rw [if_pos rfl, hml]
  · have hclr : ∀ KK : Hp → Prop, (∀ hb2, Dj (join hi hm) hb2 → BufOK hb2 m.bufS (low ++ (mem ++ List.replicate stale.length 0)) → KK (join (join hi hm) hb2)) → ClearX (join (join hi hm) hb) (5, y5).snd.zero (bsh m.bufS.1 (low.length + mem.length) m.bufS.2.2 (5, y5).snd.size) (m.bufS.2.1 - (low.length + mem.length)) KK := fun KK hKK => by
      have hds : m.bufS.2.1 - (low.length + mem.length) = stale.length := by omega
      rw [hds]
      refine ⟨fun h0 => ?_, fun h0 => ?_⟩
      · have hnil : stale = [] := List.eq_nil_of_length_eq_zero h0
        refine hKK _ hd ?_
        have := B.buf
        rw [hnil] at this ⊢
        exact this
      · obtain ⟨mb, pad, e1, -, e3⟩ : ∃ mb pad, m.bufS.1 = some ⟨mb, 0, none⟩ ∧ hb mb = some (bcells ((low ++ (mem ++ stale)) ++ pad), 5) ∧ m.bufS.2.2 = (low ++ (mem ++ stale)).length + pad.length := by
          rcases B.buf.blk with ⟨_, _, h3⟩ | h
          · have := congrArg List.length h3
            rw [List.length_append, List.length_append, List.length_nil] at this
            omega
          · exact h
        have eb1 : bsh m.bufS.1 (low.length + mem.length) m.bufS.2.2 (5, y5).snd.size = some ⟨mb, low.length + mem.length, none⟩ := by
          rw [e1]
          show some (⟨mb, soff 0 (low.length + mem.length) m.bufS.2.2 1, none⟩ : Addr) = _
          unfold soff
          rw [if_neg (by omega), Nat.zero_add, Nat.mul_one]
        rw [eb1]
        obtain ⟨c, q1, q2, q3, q4, q5⟩ := B.buf.put hd e1 (o := low.length + mem.length) (x := List.replicate stale.length 0) (by rw [List.length_replicate]; simp only [List.length_append]; omega) (fun d hd => by have := (List.mem_replicate.1 hd).2; omega)
        rw [ovl_end (by rw [List.length_replicate]; omega), List.length_replicate, List.drop_length, List.append_nil] at q3
        refine ⟨c, 5, join_hm hd q1, by rw [show zeros (5, y5).snd.zero stale.length = bcells (List.replicate stale.length 0) from zeros_bcells _]; exact q2, by rw [show zeros (5, y5).snd.zero stale.length = bcells (List.replicate stale.length 0) from zeros_bcells _]; exact ones_bcells _, ?_⟩
        rw [show zeros (5, y5).snd.zero stale.length = bcells (List.replicate stale.length 0) from zeros_bcells _, q5]
        exact hKK _ q4 q3
    refine hclr _ fun hb3 hd3 B3 => ?_; conv => whnf
    refine LoadX.fn (join_l hbE) 1 rfl (by omega) ?_
    rw [mR_buf]; conv => whnf
    have hds : m.bufS.2.1 - (low.length + mem.length) = stale.length := by omega
    rw [hds, show IntKind.i64.wrap (((32 * wd - mem.length : Nat) : Int) - stale.length) = ((32 * wd - mem.length - stale.length : Nat) : Int) by rw [wrap_i64 (by omega) (by omega)]; omega]
    refine Ob.mk (by first | decide | omega) ?_; conv => whnf
    rw [Int.toNat_natCast]
    refine AppendX.buf hd3 B3 (by simp only [List.length_append, List.length_replicate]; omega) fun s' hb4 hd4 B4 => ?_; conv => whnf
    refine StoreX.fr (StoreX.jf M.A.V.dj M.A.V.blk 1 rfl (by omega) fun hd5 => ?_)
    rw [show Value.slice s'.1 s'.2.1 s'.2.2 = sl s' from rfl, eU_buf] at hd5 ⊢; conv => whnf
    have hB4 : low ++ (mem ++ List.replicate stale.length 0) ++ List.replicate (32 * wd - mem.length - stale.length) 0 = low ++ (mem ++ (List.replicate (32 * wd - mem.length) 0 ++ [])) := by
      rw [List.append_assoc, List.append_assoc, List.replicate_append_replicate, List.append_nil]
      congr 3; omega
    rw [hB4] at B4
    obtain ⟨hb2, hmX, sX, stX, hdX, MX, BX, hsX, eX⟩ : ∃ hb2 hmX sX stX, Dj (join hi hmX) hb2 ∧ MA hi hmX eb { m with bufS := sX } t w sn v ∧ BufOK hb2 sX (low ++ (mem ++ (List.replicate (32 * wd - mem.length) 0 ++ stX))) ∧ low.length + (32 * wd + stX.length) ≤ 6000000 ∧ join (join hi (hput hm eb (fnv 27024 (eC (mC eb { m with bufS := s' }) v), 101))) hb4 = join (join hi hmX) hb2 := ⟨hb4, _, s', [], Dj.st hd4 M.A.V.blk, M.setMem s' m.base m.mtop, B4, by simp; omega, rfl⟩
    rw [eX]
    have hbX := MX.blk (Ext.refl _)
    refine DrawX.go T_ok hM Hval.func255 (tb := dr255) rfl (by kernel_rfl) ?_; conv => whnf
    refine LoadX.fn (join_l hbX) 10 rfl (by omega) ?_
    rw [mR_mtop, show ({ m with bufS := sX } : MS).mtop = _ from B.mtop]; conv => whnf
    rw [show IntKind.u32.wrap ((32 * wd - mem.length : Nat) : Int) = ((32 * wd - mem.length : Nat) : Int) by rw [wrap_u32]; omega, show IntKind.u32.wrap (((low.length + mem.length : Nat) : Int) + ((32 * wd - mem.length : Nat) : Int)) = ((low.length + 32 * wd : Nat) : Int) by rw [wrap_u32]; omega]
    refine Ob.mk ⟨by omega, by omega⟩ ?_; conv => whnf
    refine StoreX.fr (StoreX.jf MX.A.V.dj MX.A.V.blk (2 + (t + 1)) (by rw [Int.toNat_natCast, show (fd 1 71).offset = 1 from rfl, show (70, y70).snd.size = 1 from rfl]; omega) (by omega) fun hd5 => ?_)
    rw [eU_base (by omega)] at hd5 ⊢; conv => whnf
    have hml : (mem ++ List.replicate (32 * wd - mem.length) 0).length = 32 * wd := by rw [List.length_append, List.length_replicate]; omega
    refine RetX.same (hk sX _ hb2 stX (MX.setMem sX _ _) (Dj.st hdX MX.A.V.blk) ⟨B.mtop, ?_, ?_, by rw [List.append_assoc]; exact BX, by simp only [List.length_append, List.length_replicate]; omega⟩)
    · show updN m.base (t + 1) _ t = _
      unfold updN; rw [if_neg (by omega)]; exact B.b0
    · show updN m.base (t + 1) _ (t + 1) = _
      unfold updN; rw [if_pos rfl, hml]
end
end Go.Proofs.YgvalwGreat.X
