import Derived.Test.YgvalwGreatM25
set_option linter.unusedVariables false
set_option linter.unusedSimpArgs false
namespace Go.Proofs.YgvalwGreat.X
open Go

section
variable {hi hm hb h : Hp} {K : Value → Hp → Prop} {v : VS} {eb : Nat} {m : MS} {t : Nat} {mems : Nat → List Int} {stale : List Int} {w : AW} {sn : List AW} {so : Sl} {l : List Int} {st s0 l0 S : Int}
theorem LoadX.fx {b n o : Nat} {g : Nat → Value} {ty : TypeId} {KK : Value → Prop} (hb : h b = some (fnv n g, ty)) (k : Nat) (ho : o = k) (hk : k < n) {x : Value} (hx : g k = x) (hK : KK x) : LoadX false 1 h b o KK := LoadX.fn hb k ho hk (hx ▸ hK)
theorem StoreX.jx {b o : Nat} {c x : List Value} {ty : TypeId} {vs : List Value} {KK : Hp → Prop} (hl : o + vs.length ≤ c.length) (e : setSeg c o vs = x) (hk : KK (join (hput hi b (x, ty)) hm)) : StoreX (join (hput hi b (c, ty)) hm) b o vs KK := StoreX.j hl (e ▸ hk)
set_option maxRecDepth 100000 in
set_option maxHeartbeats 4000000 in
theorem end_0n (hst : st = 0) (hmade : crK (m.fr t).kind = false) (X : EX hi hm hb eb m t w sn v mems stale) (hgs : ∀ i, i ≤ t → (m.fr i).gas ≤ 1048576) (hS : 0 ≤ S ∧ S ≤ 1048576) (R : Rs S v sn) (hl : BytS hi so l)
    (hk : EnK hi eb m (S + ((m.fr t).gas - lvGA (frM m sn mems t) st l)) (leaveA (absM m t w sn mems s0 l0) (frsM m t sn mems) (frM m sn mems t) st l) s0 l0 (K (.tuple #[]))) :
    CallX Hval.prog 181 [.pointer (some ⟨eb, 0, none⟩), .int .u8 st, sl so] (join (join hi hm) hb) K := by
  subst hst
  have M := X.M
  have h7 := M.t7
  have F := M.f
  have hbE := M.blk (Ext.jl (join hi hm) hb)
  refine CallX.of_xf T_ok Hval.func181 rfl (by kernel_rfl) (Nat.le_of_ble_eq_true rfl) ?_; conv => whnf
  refine running_ok M (Ext.jl _ _) ?_; conv => whnf
  repeat (first | (refine CondX.tt ?_; conv => whnf) | (refine CondX.ff ?_; conv => whnf))
  refine LoadX.fn hbE (1803 + t * 65 + 7) rfl (by omega) ?_
  rw [mR_gas h7]; conv => whnf
  refine LoadX.fn hbE (1803 + t * 65) rfl (by omega) ?_
  rw [mR_kind h7]; conv => whnf
  refine createsM_ok ?_
  rw [hmade]; conv => whnf
  repeat (first | (refine CondX.tt ?_; conv => whnf) | (refine CondX.ff ?_; conv => whnf))
  refine DrawX.go T_ok hM Hval.func181 (tb := dr181) rfl (by kernel_rfl) ?_; conv => whnf
  repeat (first | (refine CondX.tt ?_; conv => whnf) | (refine CondX.ff ?_; conv => whnf))
  have hg0 := F.gas
  have hgt := hgs t (Nat.le_refl _)
  refine CallX.fj X.dj (arLeave_ok (k := t) M.A X.mm.mtop h7 fun hmL AL hdL => ?_); conv => whnf
  repeat (first | (refine CondX.tt ?_; conv => whnf) | (refine CondX.ff ?_; conv => whnf))
  have hLS : lvSA (frM m sn mems t) 0 l = 0 := by unfold lvSA; rw [if_neg (fun hh => by rw [show (frM m sn mems t).kind = (m.fr t).kind from rfl, hmade] at hh; cases hh.1)]
  have hLG : lvGA (frM m sn mems t) 0 l = (m.fr t).gas := by unfold lvGA; rw [hLS, if_neg (by omega), if_neg (fun hh => by rw [show (frM m sn mems t).kind = (m.fr t).kind from rfl, hmade] at hh; cases hh.1)]; rfl
  have hLO : lvOA (frM m sn mems t) 0 l = l := by unfold lvOA; rw [hLS, if_neg (by omega), if_neg (fun hh => by rw [show (frM m sn mems t).kind = (m.fr t).kind from rfl, hmade] at hh; cases hh.1)]
  have hLW : w = lvW w (frM m sn mems t).saved 0 (crK (frM m sn mems t).kind) (frM m sn mems t).self l := by unfold lvW; rw [if_neg (by omega), if_neg (fun hh => by rw [show (frM m sn mems t).kind = (m.fr t).kind from rfl, hmade] at hh; cases hh.1)]
  obtain ⟨gg, hgg⟩ : ∃ gg, (m.fr t).gas = gg := ⟨_, rfl⟩
  rw [hgg] at hg0 hgt hLG ⊢
  have hLF : lvFA (frM m sn mems t) 0 l = 1 := by unfold lvFA; rw [hLS, if_pos rfl, if_neg (fun hh => by rw [show (frM m sn mems t).kind = (m.fr t).kind from rfl, hmade] at hh; cases hh)]
  have hsn : ∀ i, i < t → sn[(m.fr i).snap]? = sn[(m.fr i).snap]? := fun _ _ => rfl
  have hhas : ∀ b, hasA v b = true → hasA v b = true := fun _ h => h
  have hX4 : 0 ≤ (1 : Int) ∧ (1 : Int) < W := ⟨by omega, by rw [W_val]; decide⟩
  have hEE := Ext.refl hi
  have RX : Rs (S + ((m.fr t).gas - lvGA (frM m sn mems t) 0 l)) v sn := R.mono (by rw [hLG, hgg]; omega)
  refine AL.sto hdL (eU_ret so l) rfl (by omega) fun hm1 A1 hd1 => ?_; conv => whnf
  refine LoadX.fx (A1.blk (Ext.jl _ _)) 2258 rfl (by omega) (x := .int .i8 t) (mR_top.trans (congrArg _ M.top)) ?_; conv => whnf
  rw [wrap_i8 (x := (t : Int) - 1) (by omega) (by omega)]
  by_cases ht : t = 0
  · subst ht
    rw [show ((0 : Nat) : Int) - 1 = -1 from rfl]
    refine A1.sto hd1 (eU_top _) rfl (by omega) fun hm2 A2 hd2 => ?_; conv => whnf
    refine LoadX.fx (A2.blk (Ext.jl _ _)) 2258 rfl (by omega) (x := .int .i8 (-1)) mR_top ?_; conv => whnf
    refine CondX.dT (by omega) ?_; conv => whnf
    refine A2.sto hd2 (eU_phase _) rfl (by omega) fun hm3 A3 hd3 => ?_; conv => whnf
    refine A3.sto hd3 (eU_status _) rfl (by omega) fun hm4 A4 hd4 => ?_; conv => whnf
    refine Ob.mk ⟨by omega, by omega⟩ ?_; conv => whnf
    refine A4.sto hd4 (eU_gas (t := 0) (by omega) _) rfl (by omega) fun hm5 A5 hd5 => ?_; conv => whnf
    refine RetX.same (end_last (stx := 0) (gx := gg) (sx := so) (lx := l) X A5 hd5 hEE hl (by omega) (by omega) ?_ hk RX)
    rw [show frsM m 0 sn mems = [] from rfl, leave_last, hLS, hLG, hLO]
    exact congrArg (fun y => (⟨y, [], l, 2, 0, gg⟩ : AS)) hLW
  · obtain ⟨k, rfl⟩ : ∃ k, t = k + 1 := ⟨t - 1, by omega⟩
    rw [show ((k + 1 : Nat) : Int) - 1 = (k : Int) by omega]
    have Fk := M.fok k (by omega)
    have hgk := hgs k (by omega)
    have Wk := X.wait k (by omega)
    have hol := Wk.ol
    have hoo := Wk.oo
    have hgk0 := Fk.gas
    have hbl := hl.len
    have hbr := hl.room
    refine A1.sto hd1 (eU_top _) rfl (by omega) fun hm2 A2 hd2 => ?_; conv => whnf
    refine LoadX.fx (A2.blk (Ext.jl _ _)) 2258 rfl (by omega) (x := .int .i8 k) mR_top ?_; conv => whnf
    refine CondX.dF (by omega) ?_; conv => whnf
    refine DrawX.go T_ok hM Hval.func181 (tb := dr181) rfl (by kernel_rfl) ?_; conv => whnf
    refine LoadX.fx (A2.blk (Ext.jl _ _)) 2258 rfl (by omega) (x := .int .i8 k) mR_top ?_; conv => whnf
    refine Ob.mk ⟨by omega, by omega⟩ ?_; conv => whnf
    refine LoadX.fx (A2.blk (Ext.jl _ _)) (1803 + k * 65 + 7) rfl (by omega) (x := .int .u64 (m.fr k).gas) (mR_gas (by omega)) ?_; conv => whnf
    rw [show IntKind.u64.wrap ((m.fr k).gas + gg) = (m.fr k).gas + gg by rw [wrap_u64']; omega]
    refine A2.sto hd2 (eU_gas (t := k) (by omega) _) rfl (by omega) fun hm3 A3 hd3 => ?_; conv => whnf
    have A3 : VA _ hm3 eb (mC eb (upM m k so l gg)) _ _ _ := A3
    have M3 := up_MA (gx := gg) X A3 hEE hl ⟨by omega, by omega⟩
    have e3 : (upM m k so l gg).fr k = { m.fr k with gas := (m.fr k).gas + gg } := updN_same ..
    have e3l : ((upM m k so l gg).fr k).ol = (m.fr k).ol := by rw [e3]
    have e3o : ((upM m k so l gg).fr k).oo = (m.fr k).oo := by rw [e3]
    have MMk := X.mm.low (m' := upM m k so l gg) rfl rfl rfl
    refine BoxX.jj A3.V.dj hd3 fun n4 he4 hd4 hdd4 => ?_; conv => whnf
    refine Ob.mk ⟨rfl, rfl⟩ ?_; conv => whnf
    refine StoreX.fr (StoreX.jx (x := wc 0) (Nat.le_of_ble_eq_true rfl) rfl ?_); conv => whnf
    repeat (first | (refine CondX.tt ?_; conv => whnf) | (refine CondX.ff ?_; conv => whnf))
    refine Ob.mk ⟨by omega, by omega⟩ ?_; conv => whnf
    refine StoreX.fr (StoreX.jx (x := wc 1) (Nat.le_of_ble_eq_true rfl) rfl ?_); conv => whnf
    repeat (first | (refine CondX.tt ?_; conv => whnf) | (refine CondX.ff ?_; conv => whnf))
    have hE4 := he4 (wc 1, 75)
    have hD4 := hd4 (wc 1, 75)
    have hDD4 := hdd4 (wc 1, 75)
    have hbx : (hput hi n4 (wc 1, 75)) n4 = some (wc 1, 75) := hput_same ..
    generalize hput hi n4 (wc 1, 75) = h4 at *
    have hbX := A3.blk (Ext.j2 hE4 hD4 (Ext.refl hm3))
    refine LoadX.fx (join_l hbX) (1803 + k * 65 + 64) rfl (by omega) (x := .int .u32 (m.fr k).ol) ((mR_ol (by omega)).trans (congrArg _ e3l)) ?_; conv => whnf
    rw [show IntKind.u64.wrap (m.fr k).ol = (m.fr k).ol by rw [wrap_u64']; omega, show IntKind.u64.wrap ((so.2.1 : Nat) : Int) = so.2.1 by rw [wrap_u64']; omega]
    refine CondX.decI (fun hc => ?_) (fun hc => ?_) <;> conv => whnf
    · rw [show IntKind.u32.wrap ((so.2.1 : Nat) : Int) = so.2.1 by rw [wrap_u32]; omega]
      have hq : ((so.2.1 : Nat) : Int) = min (m.fr k).ol l.length := by omega
      obtain ⟨q, eq⟩ : ∃ q : Nat, so.2.1 = q := ⟨_, rfl⟩
      rw [eq] at hq ⊢
      refine DrawX.go T_ok hM Hval.func181 (tb := dr181) rfl (by kernel_rfl) ?_; conv => whnf
      by_cases hq0 : q = 0
      · refine CondX.dF (by omega) ?_; conv => whnf
        repeat (first | (refine CondX.tt ?_; conv => whnf) | (refine CondX.ff ?_; conv => whnf))
        have hLM : mems k = lvMA (frM m sn mems k) l := by unfold lvMA; rw [if_pos (by show min (m.fr k).ol _ = 0; omega)]; rfl
        have mm6 := MMk.set MMk.top fun i _ => rfl
        refine LoadX.all (c := wc 1) (join_l (join_l hbx)) rfl ?_; conv => whnf
        refine settleS_w (t := k) (tk := 0) (st := 1) (x := 1) hE4 hD4 hDD4 M3 (Nat.zero_le _) (by rw [e3]; exact Wk.sp) (by rw [e3]; have := Wk.pc; show (m.fr k).pc + 1 < 2000; omega) hX4 fun hm6 hd6 hdd6 M6 => ?_; conv => whnf
        refine RetX.drop (h' := join (join _ hm6) hb) (Ext.jj hE4 hd6 hdd6) ?_
        refine end_up X M6 (Dj.back (Ext.j2 hE4 hd6 (Ext.refl hm6)) hdd6) hEE mm6 (fun i hi => hsn i (by omega)) hhas ?_ hk RX
        rw [frsM_succ, leave_up, hLS, hLO]
        unfold upA
        rw [hLG, hLF, hLO, ← hLM]
        exact congrArg (fun y => (⟨y, frsM m k sn mems ++ [_], l, 1, s0, l0⟩ : AS)) hLW
      · refine CondX.dT (by omega) ?_; conv => whnf
        repeat (first | (refine CondX.tt ?_; conv => whnf) | (refine CondX.ff ?_; conv => whnf))
        obtain ⟨o, eo⟩ : ∃ o : Nat, (m.fr k).oo = o := ⟨(m.fr k).oo.toNat, by omega⟩
        have hfit := Wk.fit (by omega)
        refine LoadX.fx (join_l hbX) (1803 + k * 65 + 63) rfl (by omega) (x := .int .u32 o) ((mR_oo (by omega)).trans (congrArg _ (e3o.trans eo))) ?_; conv => whnf
        repeat (first | (refine CondX.tt ?_; conv => whnf) | (refine CondX.ff ?_; conv => whnf))
        refine awrite_ok (off := o) (n := q) (fr := 0) hbX MMk.top hDD4 (by omega) (by omega) (by omega) ((hl.ext hE4).ext (Ext.jl h4 hm3)) (by omega) fun hb6 hdb6 B6 => ?_; conv => whnf
        repeat (first | (refine CondX.tt ?_; conv => whnf) | (refine CondX.ff ?_; conv => whnf))
        have hLM : ovl (mems k) o (cutN l 0 q) = lvMA (frM m sn mems k) l := by
          unfold lvMA
          rw [if_neg (by show ¬ min (m.fr k).ol _ = 0; omega), show min (frM m sn mems k).ol (l.length : Int) = (q : Int) from hq.symm, show (frM m sn mems k).oo = o from eo, Int.toNat_natCast, writeI_ovl (by rw [List.length_take]; show o + _ ≤ (mems k).length; omega) (by intro hh; have := congrArg List.length hh; rw [List.length_take, List.length_nil] at this; omega)]
          unfold cutN
          rw [show q - (l.length - 0) = 0 by omega, List.replicate_zero, List.append_nil, List.drop_zero]
          rfl
        have mm6 := MMk.set B6 fun i _ => rfl
        refine LoadX.all (c := wc 1) (join_l (join_l hbx)) rfl ?_; conv => whnf
        refine settleS_w (t := k) (tk := 0) (st := 1) (x := 1) hE4 hD4 hdb6 M3 (Nat.zero_le _) (by rw [e3]; exact Wk.sp) (by rw [e3]; have := Wk.pc; show (m.fr k).pc + 1 < 2000; omega) hX4 fun hm6 hd6 hdd6 M6 => ?_; conv => whnf
        refine RetX.drop (h' := join (join _ hm6) hb6) (Ext.jj hE4 hd6 hdd6) ?_
        refine end_up X M6 (Dj.back (Ext.j2 hE4 hd6 (Ext.refl hm6)) hdd6) hEE mm6 (fun i hi => hsn i (by omega)) hhas ?_ hk RX
        rw [frsM_succ, leave_up, hLS, hLO]
        unfold upA
        rw [hLG, hLF, hLO, ← hLM]
        exact congrArg (fun y => (⟨y, frsM m k sn mems ++ [_], l, 1, s0, l0⟩ : AS)) hLW
    · obtain ⟨q, eq⟩ : ∃ q : Nat, (m.fr k).ol = q := ⟨(m.fr k).ol.toNat, by omega⟩
      have hq : (q : Int) = min (m.fr k).ol l.length := by omega
      rw [eq]
      refine DrawX.go T_ok hM Hval.func181 (tb := dr181) rfl (by kernel_rfl) ?_; conv => whnf
      by_cases hq0 : q = 0
      · refine CondX.dF (by omega) ?_; conv => whnf
        repeat (first | (refine CondX.tt ?_; conv => whnf) | (refine CondX.ff ?_; conv => whnf))
        have hLM : mems k = lvMA (frM m sn mems k) l := by unfold lvMA; rw [if_pos (by show min (m.fr k).ol _ = 0; omega)]; rfl
        have mm6 := MMk.set MMk.top fun i _ => rfl
        refine LoadX.all (c := wc 1) (join_l (join_l hbx)) rfl ?_; conv => whnf
        refine settleS_w (t := k) (tk := 0) (st := 1) (x := 1) hE4 hD4 hDD4 M3 (Nat.zero_le _) (by rw [e3]; exact Wk.sp) (by rw [e3]; have := Wk.pc; show (m.fr k).pc + 1 < 2000; omega) hX4 fun hm6 hd6 hdd6 M6 => ?_; conv => whnf
        refine RetX.drop (h' := join (join _ hm6) hb) (Ext.jj hE4 hd6 hdd6) ?_
        refine end_up X M6 (Dj.back (Ext.j2 hE4 hd6 (Ext.refl hm6)) hdd6) hEE mm6 (fun i hi => hsn i (by omega)) hhas ?_ hk RX
        rw [frsM_succ, leave_up, hLS, hLO]
        unfold upA
        rw [hLG, hLF, hLO, ← hLM]
        exact congrArg (fun y => (⟨y, frsM m k sn mems ++ [_], l, 1, s0, l0⟩ : AS)) hLW
      · refine CondX.dT (by omega) ?_; conv => whnf
        repeat (first | (refine CondX.tt ?_; conv => whnf) | (refine CondX.ff ?_; conv => whnf))
        obtain ⟨o, eo⟩ : ∃ o : Nat, (m.fr k).oo = o := ⟨(m.fr k).oo.toNat, by omega⟩
        have hfit := Wk.fit (by omega)
        refine LoadX.fx (join_l hbX) (1803 + k * 65 + 63) rfl (by omega) (x := .int .u32 o) ((mR_oo (by omega)).trans (congrArg _ (e3o.trans eo))) ?_; conv => whnf
        repeat (first | (refine CondX.tt ?_; conv => whnf) | (refine CondX.ff ?_; conv => whnf))
        refine awrite_ok (off := o) (n := q) (fr := 0) hbX MMk.top hDD4 (by omega) (by omega) (by omega) ((hl.ext hE4).ext (Ext.jl h4 hm3)) (by omega) fun hb6 hdb6 B6 => ?_; conv => whnf
        repeat (first | (refine CondX.tt ?_; conv => whnf) | (refine CondX.ff ?_; conv => whnf))
        have hLM : ovl (mems k) o (cutN l 0 q) = lvMA (frM m sn mems k) l := by
          unfold lvMA
          rw [if_neg (by show ¬ min (m.fr k).ol _ = 0; omega), show min (frM m sn mems k).ol (l.length : Int) = (q : Int) from hq.symm, show (frM m sn mems k).oo = o from eo, Int.toNat_natCast, writeI_ovl (by rw [List.length_take]; show o + _ ≤ (mems k).length; omega) (by intro hh; have := congrArg List.length hh; rw [List.length_take, List.length_nil] at this; omega)]
          unfold cutN
          rw [show q - (l.length - 0) = 0 by omega, List.replicate_zero, List.append_nil, List.drop_zero]
          rfl
        have mm6 := MMk.set B6 fun i _ => rfl
        refine LoadX.all (c := wc 1) (join_l (join_l hbx)) rfl ?_; conv => whnf
        refine settleS_w (t := k) (tk := 0) (st := 1) (x := 1) hE4 hD4 hdb6 M3 (Nat.zero_le _) (by rw [e3]; exact Wk.sp) (by rw [e3]; have := Wk.pc; show (m.fr k).pc + 1 < 2000; omega) hX4 fun hm6 hd6 hdd6 M6 => ?_; conv => whnf
        refine RetX.drop (h' := join (join _ hm6) hb6) (Ext.jj hE4 hd6 hdd6) ?_
        refine end_up X M6 (Dj.back (Ext.j2 hE4 hd6 (Ext.refl hm6)) hdd6) hEE mm6 (fun i hi => hsn i (by omega)) hhas ?_ hk RX
        rw [frsM_succ, leave_up, hLS, hLO]
        unfold upA
        rw [hLG, hLF, hLO, ← hLM]
        exact congrArg (fun y => (⟨y, frsM m k sn mems ++ [_], l, 1, s0, l0⟩ : AS)) hLW
set_option maxRecDepth 100000 in
set_option maxHeartbeats 4000000 in
theorem end_1 (hst : st = 1) (X : EX hi hm hb eb m t w sn v mems stale) (hgs : ∀ i, i ≤ t → (m.fr i).gas ≤ 1048576) (hS : 0 ≤ S ∧ S ≤ 1048576) (R : Rs S v sn) (hl : BytS hi so l)
    (hk : EnK hi eb m (S + ((m.fr t).gas - lvGA (frM m sn mems t) st l)) (leaveA (absM m t w sn mems s0 l0) (frsM m t sn mems) (frM m sn mems t) st l) s0 l0 (K (.tuple #[]))) :
    CallX Hval.prog 181 [.pointer (some ⟨eb, 0, none⟩), .int .u8 st, sl so] (join (join hi hm) hb) K := by
  subst hst
  have M := X.M
  have h7 := M.t7
  have F := M.f
  have hbE := M.blk (Ext.jl (join hi hm) hb)
  refine CallX.of_xf T_ok Hval.func181 rfl (by kernel_rfl) (Nat.le_of_ble_eq_true rfl) ?_; conv => whnf
  refine running_ok M (Ext.jl _ _) ?_; conv => whnf
  repeat (first | (refine CondX.tt ?_; conv => whnf) | (refine CondX.ff ?_; conv => whnf))
  refine LoadX.fn hbE (1803 + t * 65 + 7) rfl (by omega) ?_
  rw [mR_gas h7]; conv => whnf
  refine LoadX.fn hbE (1803 + t * 65) rfl (by omega) ?_
  rw [mR_kind h7]; conv => whnf
  have hg0 := F.gas
  have hgt := hgs t (Nat.le_refl _)
  cases hmade : crK (m.fr t).kind with
  | true =>
    refine createsM_ok ?_
    rw [hmade]; conv => whnf
    repeat (first | (refine CondX.tt ?_; conv => whnf) | (refine CondX.ff ?_; conv => whnf))
    refine DrawX.go T_ok hM Hval.func181 (tb := dr181) rfl (by kernel_rfl) ?_; conv => whnf
    refine CondX.neI (fun _ => ?_) (fun hh => absurd hh (by omega)); conv => whnf
    repeat (first | (refine CondX.tt ?_; conv => whnf) | (refine CondX.ff ?_; conv => whnf))
    have hsx := X.sn1 t (Nat.le_refl _)
    refine LoadX.fx hbE 0 rfl (by omega) mR_S ?_; conv => whnf
    repeat (first | (refine CondX.tt ?_; conv => whnf) | (refine CondX.ff ?_; conv => whnf))
    refine LoadX.fx hbE (1803 + t * 65 + 8) rfl (by omega) (x := .int .i32 (m.fr t).snap) (mR_snap h7) ?_; conv => whnf
    repeat (first | (refine CondX.tt ?_; conv => whnf) | (refine CondX.ff ?_; conv => whnf))
    refine CallX.fj X.dj (revertTo_ok (id := (m.fr t).snap) M.A (List.getElem?_eq_getElem hsx) fun hmR vR AR hR hdR => ?_); conv => whnf
    repeat (first | (refine CondX.tt ?_; conv => whnf) | (refine CondX.ff ?_; conv => whnf))
    refine CallX.fj hdR (arLeave_ok (k := t) AR X.mm.mtop h7 fun hmL AL hdL => ?_); conv => whnf
    repeat (first | (refine CondX.tt ?_; conv => whnf) | (refine CondX.ff ?_; conv => whnf))
    obtain ⟨r1, r2, r3, r4, hhas⟩ := hR
    have hsv : (frM m sn mems t).saved = sn[(m.fr t).snap] := by show (sn[(m.fr t).snap]?).getD aw0 = _; rw [List.getElem?_eq_getElem hsx]; rfl
    have hsn : ∀ i, i < t → (sn.take (m.fr t).snap)[(m.fr i).snap]? = sn[(m.fr i).snap]? := fun i hi => by rw [List.getElem?_take_of_lt (X.sn2 i t hi (Nat.le_refl _))]
    have hX4 : 0 ≤ (0 : Int) ∧ (0 : Int) < W := ⟨by omega, W_pos⟩
    have hEE := Ext.refl hi
    have hlt : (sn.take (m.fr t).snap).length ≤ sn.length := by rw [List.length_take]; omega
    have hLS : lvSA (frM m sn mems t) 1 l = 1 := by unfold lvSA; rw [if_neg (fun hh => by cases hh.2)]
    have hLG : lvGA (frM m sn mems t) 1 l = (m.fr t).gas := by unfold lvGA; rw [hLS, if_neg (by omega), if_neg (fun hh => by cases hh.2)]; rfl
    have hLO : lvOA (frM m sn mems t) 1 l = l := by unfold lvOA; rw [hLS, if_neg (by omega), if_neg (fun hh => by cases hh.2)]
    have hLW : sn[(m.fr t).snap] = lvW w (frM m sn mems t).saved 1 (crK (frM m sn mems t).kind) (frM m sn mems t).self l := by unfold lvW; rw [if_pos (by omega), hsv]
    have hLF : lvFA (frM m sn mems t) 1 l = 0 := by unfold lvFA; rw [hLS, if_neg (by omega)]
    obtain ⟨gg, hgg⟩ : ∃ gg, (m.fr t).gas = gg := ⟨_, rfl⟩
    rw [hgg] at hg0 hgt hLG ⊢
    have RX : Rs (S + ((m.fr t).gas - lvGA (frM m sn mems t) 1 l)) vR (sn.take (m.fr t).snap) := by
      rw [hLG, hgg]
      obtain ⟨q1, q2, q3, q4, q5⟩ := R
      exact ⟨by omega, by omega, by omega, by omega, by omega⟩
    refine AL.sto hdL (eU_ret so l) rfl (by omega) fun hm1 A1 hd1 => ?_; conv => whnf
    refine LoadX.fx (A1.blk (Ext.jl _ _)) 2258 rfl (by omega) (x := .int .i8 t) (mR_top.trans (congrArg _ M.top)) ?_; conv => whnf
    rw [wrap_i8 (x := (t : Int) - 1) (by omega) (by omega)]
    by_cases ht : t = 0
    · subst ht
      rw [show ((0 : Nat) : Int) - 1 = -1 from rfl]
      refine A1.sto hd1 (eU_top _) rfl (by omega) fun hm2 A2 hd2 => ?_; conv => whnf
      refine LoadX.fx (A2.blk (Ext.jl _ _)) 2258 rfl (by omega) (x := .int .i8 (-1)) mR_top ?_; conv => whnf
      refine CondX.dT (by omega) ?_; conv => whnf
      refine A2.sto hd2 (eU_phase _) rfl (by omega) fun hm3 A3 hd3 => ?_; conv => whnf
      refine A3.sto hd3 (eU_status _) rfl (by omega) fun hm4 A4 hd4 => ?_; conv => whnf
      refine Ob.mk ⟨by omega, by omega⟩ ?_; conv => whnf
      refine A4.sto hd4 (eU_gas (t := 0) (by omega) _) rfl (by omega) fun hm5 A5 hd5 => ?_; conv => whnf
      refine RetX.same (end_last (stx := 1) (gx := gg) (sx := so) (lx := l) X A5 hd5 hEE hl (by omega) (by omega) ?_ hk RX)
      rw [show frsM m 0 sn mems = [] from rfl, leave_last, hLS, hLG, hLO]
      exact congrArg (fun y => (⟨y, [], l, 2, 1, gg⟩ : AS)) hLW
    · obtain ⟨k, rfl⟩ : ∃ k, t = k + 1 := ⟨t - 1, by omega⟩
      rw [show ((k + 1 : Nat) : Int) - 1 = (k : Int) by omega]
      have Fk := M.fok k (by omega)
      have hgk := hgs k (by omega)
      have Wk := X.wait k (by omega)
      have hol := Wk.ol
      have hoo := Wk.oo
      have hgk0 := Fk.gas
      have hbl := hl.len
      have hbr := hl.room
      refine A1.sto hd1 (eU_top _) rfl (by omega) fun hm2 A2 hd2 => ?_; conv => whnf
      refine LoadX.fx (A2.blk (Ext.jl _ _)) 2258 rfl (by omega) (x := .int .i8 k) mR_top ?_; conv => whnf
      refine CondX.dF (by omega) ?_; conv => whnf
      refine DrawX.go T_ok hM Hval.func181 (tb := dr181) rfl (by kernel_rfl) ?_; conv => whnf
      refine LoadX.fx (A2.blk (Ext.jl _ _)) 2258 rfl (by omega) (x := .int .i8 k) mR_top ?_; conv => whnf
      refine Ob.mk ⟨by omega, by omega⟩ ?_; conv => whnf
      refine LoadX.fx (A2.blk (Ext.jl _ _)) (1803 + k * 65 + 7) rfl (by omega) (x := .int .u64 (m.fr k).gas) (mR_gas (by omega)) ?_; conv => whnf
      rw [show IntKind.u64.wrap ((m.fr k).gas + gg) = (m.fr k).gas + gg by rw [wrap_u64']; omega]
      refine A2.sto hd2 (eU_gas (t := k) (by omega) _) rfl (by omega) fun hm3 A3 hd3 => ?_; conv => whnf
      have A3 : VA _ hm3 eb (mC eb (upM m k so l gg)) _ _ _ := A3
      have M3 := up_MA (gx := gg) X A3 hEE hl ⟨by omega, by omega⟩
      have e3 : (upM m k so l gg).fr k = { m.fr k with gas := (m.fr k).gas + gg } := updN_same ..
      have e3l : ((upM m k so l gg).fr k).ol = (m.fr k).ol := by rw [e3]
      have e3o : ((upM m k so l gg).fr k).oo = (m.fr k).oo := by rw [e3]
      have MMk := X.mm.low (m' := upM m k so l gg) rfl rfl rfl
      refine BoxX.jj A3.V.dj hd3 fun n4 he4 hd4 hdd4 => ?_; conv => whnf
      refine Ob.mk ⟨rfl, rfl⟩ ?_; conv => whnf
      refine StoreX.fr (StoreX.jx (x := wc 0) (Nat.le_of_ble_eq_true rfl) rfl ?_); conv => whnf
      repeat (first | (refine CondX.tt ?_; conv => whnf) | (refine CondX.ff ?_; conv => whnf))
      have hE4 := he4 (wc 0, 75)
      have hD4 := hd4 (wc 0, 75)
      have hDD4 := hdd4 (wc 0, 75)
      have hbx : (hput hi n4 (wc 0, 75)) n4 = some (wc 0, 75) := hput_same ..
      generalize hput hi n4 (wc 0, 75) = h4 at *
      have hbX := A3.blk (Ext.j2 hE4 hD4 (Ext.refl hm3))
      refine LoadX.fx (join_l hbX) (1803 + k * 65 + 64) rfl (by omega) (x := .int .u32 (m.fr k).ol) ((mR_ol (by omega)).trans (congrArg _ e3l)) ?_; conv => whnf
      rw [show IntKind.u64.wrap (m.fr k).ol = (m.fr k).ol by rw [wrap_u64']; omega, show IntKind.u64.wrap ((so.2.1 : Nat) : Int) = so.2.1 by rw [wrap_u64']; omega]
      refine CondX.decI (fun hc => ?_) (fun hc => ?_) <;> conv => whnf
      · rw [show IntKind.u32.wrap ((so.2.1 : Nat) : Int) = so.2.1 by rw [wrap_u32]; omega]
        have hq : ((so.2.1 : Nat) : Int) = min (m.fr k).ol l.length := by omega
        obtain ⟨q, eq⟩ : ∃ q : Nat, so.2.1 = q := ⟨_, rfl⟩
        rw [eq] at hq ⊢
        refine DrawX.go T_ok hM Hval.func181 (tb := dr181) rfl (by kernel_rfl) ?_; conv => whnf
        by_cases hq0 : q = 0
        · refine CondX.dF (by omega) ?_; conv => whnf
          repeat (first | (refine CondX.tt ?_; conv => whnf) | (refine CondX.ff ?_; conv => whnf))
          have hLM : mems k = lvMA (frM m sn mems k) l := by unfold lvMA; rw [if_pos (by show min (m.fr k).ol _ = 0; omega)]; rfl
          have mm6 := MMk.set MMk.top fun i _ => rfl
          refine LoadX.all (c := wc 0) (join_l (join_l hbx)) rfl ?_; conv => whnf
          refine settleS_w (t := k) (tk := 0) (st := 1) (x := 0) hE4 hD4 hDD4 M3 (Nat.zero_le _) (by rw [e3]; exact Wk.sp) (by rw [e3]; have := Wk.pc; show (m.fr k).pc + 1 < 2000; omega) hX4 fun hm6 hd6 hdd6 M6 => ?_; conv => whnf
          refine RetX.drop (h' := join (join _ hm6) hb) (Ext.jj hE4 hd6 hdd6) ?_
          refine end_up X M6 (Dj.back (Ext.j2 hE4 hd6 (Ext.refl hm6)) hdd6) hEE mm6 (fun i hi => hsn i (by omega)) hhas ?_ hk RX
          rw [frsM_succ, leave_up, hLS, hLO]
          unfold upA
          rw [hLG, hLF, hLO, ← hLM]
          exact congrArg (fun y => (⟨y, frsM m k sn mems ++ [_], l, 1, s0, l0⟩ : AS)) hLW
        · refine CondX.dT (by omega) ?_; conv => whnf
          repeat (first | (refine CondX.tt ?_; conv => whnf) | (refine CondX.ff ?_; conv => whnf))
          obtain ⟨o, eo⟩ : ∃ o : Nat, (m.fr k).oo = o := ⟨(m.fr k).oo.toNat, by omega⟩
          have hfit := Wk.fit (by omega)
          refine LoadX.fx (join_l hbX) (1803 + k * 65 + 63) rfl (by omega) (x := .int .u32 o) ((mR_oo (by omega)).trans (congrArg _ (e3o.trans eo))) ?_; conv => whnf
          repeat (first | (refine CondX.tt ?_; conv => whnf) | (refine CondX.ff ?_; conv => whnf))
          refine awrite_ok (off := o) (n := q) (fr := 0) hbX MMk.top hDD4 (by omega) (by omega) (by omega) ((hl.ext hE4).ext (Ext.jl h4 hm3)) (by omega) fun hb6 hdb6 B6 => ?_; conv => whnf
          repeat (first | (refine CondX.tt ?_; conv => whnf) | (refine CondX.ff ?_; conv => whnf))
          have hLM : ovl (mems k) o (cutN l 0 q) = lvMA (frM m sn mems k) l := by
            unfold lvMA
            rw [if_neg (by show ¬ min (m.fr k).ol _ = 0; omega), show min (frM m sn mems k).ol (l.length : Int) = (q : Int) from hq.symm, show (frM m sn mems k).oo = o from eo, Int.toNat_natCast, writeI_ovl (by rw [List.length_take]; show o + _ ≤ (mems k).length; omega) (by intro hh; have := congrArg List.length hh; rw [List.length_take, List.length_nil] at this; omega)]
            unfold cutN
            rw [show q - (l.length - 0) = 0 by omega, List.replicate_zero, List.append_nil, List.drop_zero]
            rfl
          have mm6 := MMk.set B6 fun i _ => rfl
          refine LoadX.all (c := wc 0) (join_l (join_l hbx)) rfl ?_; conv => whnf
          refine settleS_w (t := k) (tk := 0) (st := 1) (x := 0) hE4 hD4 hdb6 M3 (Nat.zero_le _) (by rw [e3]; exact Wk.sp) (by rw [e3]; have := Wk.pc; show (m.fr k).pc + 1 < 2000; omega) hX4 fun hm6 hd6 hdd6 M6 => ?_; conv => whnf
          refine RetX.drop (h' := join (join _ hm6) hb6) (Ext.jj hE4 hd6 hdd6) ?_
          refine end_up X M6 (Dj.back (Ext.j2 hE4 hd6 (Ext.refl hm6)) hdd6) hEE mm6 (fun i hi => hsn i (by omega)) hhas ?_ hk RX
          rw [frsM_succ, leave_up, hLS, hLO]
          unfold upA
          rw [hLG, hLF, hLO, ← hLM]
          exact congrArg (fun y => (⟨y, frsM m k sn mems ++ [_], l, 1, s0, l0⟩ : AS)) hLW
      · obtain ⟨q, eq⟩ : ∃ q : Nat, (m.fr k).ol = q := ⟨(m.fr k).ol.toNat, by omega⟩
        have hq : (q : Int) = min (m.fr k).ol l.length := by omega
        rw [eq]
        refine DrawX.go T_ok hM Hval.func181 (tb := dr181) rfl (by kernel_rfl) ?_; conv => whnf
        by_cases hq0 : q = 0
        · refine CondX.dF (by omega) ?_; conv => whnf
          repeat (first | (refine CondX.tt ?_; conv => whnf) | (refine CondX.ff ?_; conv => whnf))
          have hLM : mems k = lvMA (frM m sn mems k) l := by unfold lvMA; rw [if_pos (by show min (m.fr k).ol _ = 0; omega)]; rfl
          have mm6 := MMk.set MMk.top fun i _ => rfl
          refine LoadX.all (c := wc 0) (join_l (join_l hbx)) rfl ?_; conv => whnf
          refine settleS_w (t := k) (tk := 0) (st := 1) (x := 0) hE4 hD4 hDD4 M3 (Nat.zero_le _) (by rw [e3]; exact Wk.sp) (by rw [e3]; have := Wk.pc; show (m.fr k).pc + 1 < 2000; omega) hX4 fun hm6 hd6 hdd6 M6 => ?_; conv => whnf
          refine RetX.drop (h' := join (join _ hm6) hb) (Ext.jj hE4 hd6 hdd6) ?_
          refine end_up X M6 (Dj.back (Ext.j2 hE4 hd6 (Ext.refl hm6)) hdd6) hEE mm6 (fun i hi => hsn i (by omega)) hhas ?_ hk RX
          rw [frsM_succ, leave_up, hLS, hLO]
          unfold upA
          rw [hLG, hLF, hLO, ← hLM]
          exact congrArg (fun y => (⟨y, frsM m k sn mems ++ [_], l, 1, s0, l0⟩ : AS)) hLW
        · refine CondX.dT (by omega) ?_; conv => whnf
          repeat (first | (refine CondX.tt ?_; conv => whnf) | (refine CondX.ff ?_; conv => whnf))
          obtain ⟨o, eo⟩ : ∃ o : Nat, (m.fr k).oo = o := ⟨(m.fr k).oo.toNat, by omega⟩
          have hfit := Wk.fit (by omega)
          refine LoadX.fx (join_l hbX) (1803 + k * 65 + 63) rfl (by omega) (x := .int .u32 o) ((mR_oo (by omega)).trans (congrArg _ (e3o.trans eo))) ?_; conv => whnf
          repeat (first | (refine CondX.tt ?_; conv => whnf) | (refine CondX.ff ?_; conv => whnf))
          refine awrite_ok (off := o) (n := q) (fr := 0) hbX MMk.top hDD4 (by omega) (by omega) (by omega) ((hl.ext hE4).ext (Ext.jl h4 hm3)) (by omega) fun hb6 hdb6 B6 => ?_; conv => whnf
          repeat (first | (refine CondX.tt ?_; conv => whnf) | (refine CondX.ff ?_; conv => whnf))
          have hLM : ovl (mems k) o (cutN l 0 q) = lvMA (frM m sn mems k) l := by
            unfold lvMA
            rw [if_neg (by show ¬ min (m.fr k).ol _ = 0; omega), show min (frM m sn mems k).ol (l.length : Int) = (q : Int) from hq.symm, show (frM m sn mems k).oo = o from eo, Int.toNat_natCast, writeI_ovl (by rw [List.length_take]; show o + _ ≤ (mems k).length; omega) (by intro hh; have := congrArg List.length hh; rw [List.length_take, List.length_nil] at this; omega)]
            unfold cutN
            rw [show q - (l.length - 0) = 0 by omega, List.replicate_zero, List.append_nil, List.drop_zero]
            rfl
          have mm6 := MMk.set B6 fun i _ => rfl
          refine LoadX.all (c := wc 0) (join_l (join_l hbx)) rfl ?_; conv => whnf
          refine settleS_w (t := k) (tk := 0) (st := 1) (x := 0) hE4 hD4 hdb6 M3 (Nat.zero_le _) (by rw [e3]; exact Wk.sp) (by rw [e3]; have := Wk.pc; show (m.fr k).pc + 1 < 2000; omega) hX4 fun hm6 hd6 hdd6 M6 => ?_; conv => whnf
          refine RetX.drop (h' := join (join _ hm6) hb6) (Ext.jj hE4 hd6 hdd6) ?_
          refine end_up X M6 (Dj.back (Ext.j2 hE4 hd6 (Ext.refl hm6)) hdd6) hEE mm6 (fun i hi => hsn i (by omega)) hhas ?_ hk RX
          rw [frsM_succ, leave_up, hLS, hLO]
          unfold upA
          rw [hLG, hLF, hLO, ← hLM]
          exact congrArg (fun y => (⟨y, frsM m k sn mems ++ [_], l, 1, s0, l0⟩ : AS)) hLW
  | false =>
    refine createsM_ok ?_
    rw [hmade]; conv => whnf
    repeat (first | (refine CondX.tt ?_; conv => whnf) | (refine CondX.ff ?_; conv => whnf))
    refine DrawX.go T_ok hM Hval.func181 (tb := dr181) rfl (by kernel_rfl) ?_; conv => whnf
    refine CondX.neI (fun _ => ?_) (fun hh => absurd hh (by omega)); conv => whnf
    repeat (first | (refine CondX.tt ?_; conv => whnf) | (refine CondX.ff ?_; conv => whnf))
    have hsx := X.sn1 t (Nat.le_refl _)
    refine LoadX.fx hbE 0 rfl (by omega) mR_S ?_; conv => whnf
    repeat (first | (refine CondX.tt ?_; conv => whnf) | (refine CondX.ff ?_; conv => whnf))
    refine LoadX.fx hbE (1803 + t * 65 + 8) rfl (by omega) (x := .int .i32 (m.fr t).snap) (mR_snap h7) ?_; conv => whnf
    repeat (first | (refine CondX.tt ?_; conv => whnf) | (refine CondX.ff ?_; conv => whnf))
    refine CallX.fj X.dj (revertTo_ok (id := (m.fr t).snap) M.A (List.getElem?_eq_getElem hsx) fun hmR vR AR hR hdR => ?_); conv => whnf
    repeat (first | (refine CondX.tt ?_; conv => whnf) | (refine CondX.ff ?_; conv => whnf))
    refine CallX.fj hdR (arLeave_ok (k := t) AR X.mm.mtop h7 fun hmL AL hdL => ?_); conv => whnf
    repeat (first | (refine CondX.tt ?_; conv => whnf) | (refine CondX.ff ?_; conv => whnf))
    obtain ⟨r1, r2, r3, r4, hhas⟩ := hR
    have hsv : (frM m sn mems t).saved = sn[(m.fr t).snap] := by show (sn[(m.fr t).snap]?).getD aw0 = _; rw [List.getElem?_eq_getElem hsx]; rfl
    have hsn : ∀ i, i < t → (sn.take (m.fr t).snap)[(m.fr i).snap]? = sn[(m.fr i).snap]? := fun i hi => by rw [List.getElem?_take_of_lt (X.sn2 i t hi (Nat.le_refl _))]
    have hX4 : 0 ≤ (0 : Int) ∧ (0 : Int) < W := ⟨by omega, W_pos⟩
    have hEE := Ext.refl hi
    have hlt : (sn.take (m.fr t).snap).length ≤ sn.length := by rw [List.length_take]; omega
    have hLS : lvSA (frM m sn mems t) 1 l = 1 := by unfold lvSA; rw [if_neg (fun hh => by cases hh.2)]
    have hLG : lvGA (frM m sn mems t) 1 l = (m.fr t).gas := by unfold lvGA; rw [hLS, if_neg (by omega), if_neg (fun hh => by cases hh.2)]; rfl
    have hLO : lvOA (frM m sn mems t) 1 l = l := by unfold lvOA; rw [hLS, if_neg (by omega), if_neg (fun hh => by cases hh.2)]
    have hLW : sn[(m.fr t).snap] = lvW w (frM m sn mems t).saved 1 (crK (frM m sn mems t).kind) (frM m sn mems t).self l := by unfold lvW; rw [if_pos (by omega), hsv]
    have hLF : lvFA (frM m sn mems t) 1 l = 0 := by unfold lvFA; rw [hLS, if_neg (by omega)]
    obtain ⟨gg, hgg⟩ : ∃ gg, (m.fr t).gas = gg := ⟨_, rfl⟩
    rw [hgg] at hg0 hgt hLG ⊢
    have RX : Rs (S + ((m.fr t).gas - lvGA (frM m sn mems t) 1 l)) vR (sn.take (m.fr t).snap) := by
      rw [hLG, hgg]
      obtain ⟨q1, q2, q3, q4, q5⟩ := R
      exact ⟨by omega, by omega, by omega, by omega, by omega⟩
    refine AL.sto hdL (eU_ret so l) rfl (by omega) fun hm1 A1 hd1 => ?_; conv => whnf
    refine LoadX.fx (A1.blk (Ext.jl _ _)) 2258 rfl (by omega) (x := .int .i8 t) (mR_top.trans (congrArg _ M.top)) ?_; conv => whnf
    rw [wrap_i8 (x := (t : Int) - 1) (by omega) (by omega)]
    by_cases ht : t = 0
    · subst ht
      rw [show ((0 : Nat) : Int) - 1 = -1 from rfl]
      refine A1.sto hd1 (eU_top _) rfl (by omega) fun hm2 A2 hd2 => ?_; conv => whnf
      refine LoadX.fx (A2.blk (Ext.jl _ _)) 2258 rfl (by omega) (x := .int .i8 (-1)) mR_top ?_; conv => whnf
      refine CondX.dT (by omega) ?_; conv => whnf
      refine A2.sto hd2 (eU_phase _) rfl (by omega) fun hm3 A3 hd3 => ?_; conv => whnf
      refine A3.sto hd3 (eU_status _) rfl (by omega) fun hm4 A4 hd4 => ?_; conv => whnf
      refine Ob.mk ⟨by omega, by omega⟩ ?_; conv => whnf
      refine A4.sto hd4 (eU_gas (t := 0) (by omega) _) rfl (by omega) fun hm5 A5 hd5 => ?_; conv => whnf
      refine RetX.same (end_last (stx := 1) (gx := gg) (sx := so) (lx := l) X A5 hd5 hEE hl (by omega) (by omega) ?_ hk RX)
      rw [show frsM m 0 sn mems = [] from rfl, leave_last, hLS, hLG, hLO]
      exact congrArg (fun y => (⟨y, [], l, 2, 1, gg⟩ : AS)) hLW
    · obtain ⟨k, rfl⟩ : ∃ k, t = k + 1 := ⟨t - 1, by omega⟩
      rw [show ((k + 1 : Nat) : Int) - 1 = (k : Int) by omega]
      have Fk := M.fok k (by omega)
      have hgk := hgs k (by omega)
      have Wk := X.wait k (by omega)
      have hol := Wk.ol
      have hoo := Wk.oo
      have hgk0 := Fk.gas
      have hbl := hl.len
      have hbr := hl.room
      refine A1.sto hd1 (eU_top _) rfl (by omega) fun hm2 A2 hd2 => ?_; conv => whnf
      refine LoadX.fx (A2.blk (Ext.jl _ _)) 2258 rfl (by omega) (x := .int .i8 k) mR_top ?_; conv => whnf
      refine CondX.dF (by omega) ?_; conv => whnf
      refine DrawX.go T_ok hM Hval.func181 (tb := dr181) rfl (by kernel_rfl) ?_; conv => whnf
      refine LoadX.fx (A2.blk (Ext.jl _ _)) 2258 rfl (by omega) (x := .int .i8 k) mR_top ?_; conv => whnf
      refine Ob.mk ⟨by omega, by omega⟩ ?_; conv => whnf
      refine LoadX.fx (A2.blk (Ext.jl _ _)) (1803 + k * 65 + 7) rfl (by omega) (x := .int .u64 (m.fr k).gas) (mR_gas (by omega)) ?_; conv => whnf
      rw [show IntKind.u64.wrap ((m.fr k).gas + gg) = (m.fr k).gas + gg by rw [wrap_u64']; omega]
      refine A2.sto hd2 (eU_gas (t := k) (by omega) _) rfl (by omega) fun hm3 A3 hd3 => ?_; conv => whnf
      have A3 : VA _ hm3 eb (mC eb (upM m k so l gg)) _ _ _ := A3
      have M3 := up_MA (gx := gg) X A3 hEE hl ⟨by omega, by omega⟩
      have e3 : (upM m k so l gg).fr k = { m.fr k with gas := (m.fr k).gas + gg } := updN_same ..
      have e3l : ((upM m k so l gg).fr k).ol = (m.fr k).ol := by rw [e3]
      have e3o : ((upM m k so l gg).fr k).oo = (m.fr k).oo := by rw [e3]
      have MMk := X.mm.low (m' := upM m k so l gg) rfl rfl rfl
      refine BoxX.jj A3.V.dj hd3 fun n4 he4 hd4 hdd4 => ?_; conv => whnf
      refine Ob.mk ⟨rfl, rfl⟩ ?_; conv => whnf
      refine StoreX.fr (StoreX.jx (x := wc 0) (Nat.le_of_ble_eq_true rfl) rfl ?_); conv => whnf
      repeat (first | (refine CondX.tt ?_; conv => whnf) | (refine CondX.ff ?_; conv => whnf))
      have hE4 := he4 (wc 0, 75)
      have hD4 := hd4 (wc 0, 75)
      have hDD4 := hdd4 (wc 0, 75)
      have hbx : (hput hi n4 (wc 0, 75)) n4 = some (wc 0, 75) := hput_same ..
      generalize hput hi n4 (wc 0, 75) = h4 at *
      have hbX := A3.blk (Ext.j2 hE4 hD4 (Ext.refl hm3))
      refine LoadX.fx (join_l hbX) (1803 + k * 65 + 64) rfl (by omega) (x := .int .u32 (m.fr k).ol) ((mR_ol (by omega)).trans (congrArg _ e3l)) ?_; conv => whnf
      rw [show IntKind.u64.wrap (m.fr k).ol = (m.fr k).ol by rw [wrap_u64']; omega, show IntKind.u64.wrap ((so.2.1 : Nat) : Int) = so.2.1 by rw [wrap_u64']; omega]
      refine CondX.decI (fun hc => ?_) (fun hc => ?_) <;> conv => whnf
      · rw [show IntKind.u32.wrap ((so.2.1 : Nat) : Int) = so.2.1 by rw [wrap_u32]; omega]
        have hq : ((so.2.1 : Nat) : Int) = min (m.fr k).ol l.length := by omega
        obtain ⟨q, eq⟩ : ∃ q : Nat, so.2.1 = q := ⟨_, rfl⟩
        rw [eq] at hq ⊢
        refine DrawX.go T_ok hM Hval.func181 (tb := dr181) rfl (by kernel_rfl) ?_; conv => whnf
        by_cases hq0 : q = 0
        · refine CondX.dF (by omega) ?_; conv => whnf
          repeat (first | (refine CondX.tt ?_; conv => whnf) | (refine CondX.ff ?_; conv => whnf))
          have hLM : mems k = lvMA (frM m sn mems k) l := by unfold lvMA; rw [if_pos (by show min (m.fr k).ol _ = 0; omega)]; rfl
          have mm6 := MMk.set MMk.top fun i _ => rfl
          refine LoadX.all (c := wc 0) (join_l (join_l hbx)) rfl ?_; conv => whnf
          refine settleS_w (t := k) (tk := 0) (st := 1) (x := 0) hE4 hD4 hDD4 M3 (Nat.zero_le _) (by rw [e3]; exact Wk.sp) (by rw [e3]; have := Wk.pc; show (m.fr k).pc + 1 < 2000; omega) hX4 fun hm6 hd6 hdd6 M6 => ?_; conv => whnf
          refine RetX.drop (h' := join (join _ hm6) hb) (Ext.jj hE4 hd6 hdd6) ?_
          refine end_up X M6 (Dj.back (Ext.j2 hE4 hd6 (Ext.refl hm6)) hdd6) hEE mm6 (fun i hi => hsn i (by omega)) hhas ?_ hk RX
          rw [frsM_succ, leave_up, hLS, hLO]
          unfold upA
          rw [hLG, hLF, hLO, ← hLM]
          exact congrArg (fun y => (⟨y, frsM m k sn mems ++ [_], l, 1, s0, l0⟩ : AS)) hLW
        · refine CondX.dT (by omega) ?_; conv => whnf
          repeat (first | (refine CondX.tt ?_; conv => whnf) | (refine CondX.ff ?_; conv => whnf))
          obtain ⟨o, eo⟩ : ∃ o : Nat, (m.fr k).oo = o := ⟨(m.fr k).oo.toNat, by omega⟩
          have hfit := Wk.fit (by omega)
          refine LoadX.fx (join_l hbX) (1803 + k * 65 + 63) rfl (by omega) (x := .int .u32 o) ((mR_oo (by omega)).trans (congrArg _ (e3o.trans eo))) ?_; conv => whnf
          repeat (first | (refine CondX.tt ?_; conv => whnf) | (refine CondX.ff ?_; conv => whnf))
          refine awrite_ok (off := o) (n := q) (fr := 0) hbX MMk.top hDD4 (by omega) (by omega) (by omega) ((hl.ext hE4).ext (Ext.jl h4 hm3)) (by omega) fun hb6 hdb6 B6 => ?_; conv => whnf
          repeat (first | (refine CondX.tt ?_; conv => whnf) | (refine CondX.ff ?_; conv => whnf))
          have hLM : ovl (mems k) o (cutN l 0 q) = lvMA (frM m sn mems k) l := by
            unfold lvMA
            rw [if_neg (by show ¬ min (m.fr k).ol _ = 0; omega), show min (frM m sn mems k).ol (l.length : Int) = (q : Int) from hq.symm, show (frM m sn mems k).oo = o from eo, Int.toNat_natCast, writeI_ovl (by rw [List.length_take]; show o + _ ≤ (mems k).length; omega) (by intro hh; have := congrArg List.length hh; rw [List.length_take, List.length_nil] at this; omega)]
            unfold cutN
            rw [show q - (l.length - 0) = 0 by omega, List.replicate_zero, List.append_nil, List.drop_zero]
            rfl
          have mm6 := MMk.set B6 fun i _ => rfl
          refine LoadX.all (c := wc 0) (join_l (join_l hbx)) rfl ?_; conv => whnf
          refine settleS_w (t := k) (tk := 0) (st := 1) (x := 0) hE4 hD4 hdb6 M3 (Nat.zero_le _) (by rw [e3]; exact Wk.sp) (by rw [e3]; have := Wk.pc; show (m.fr k).pc + 1 < 2000; omega) hX4 fun hm6 hd6 hdd6 M6 => ?_; conv => whnf
          refine RetX.drop (h' := join (join _ hm6) hb6) (Ext.jj hE4 hd6 hdd6) ?_
          refine end_up X M6 (Dj.back (Ext.j2 hE4 hd6 (Ext.refl hm6)) hdd6) hEE mm6 (fun i hi => hsn i (by omega)) hhas ?_ hk RX
          rw [frsM_succ, leave_up, hLS, hLO]
          unfold upA
          rw [hLG, hLF, hLO, ← hLM]
          exact congrArg (fun y => (⟨y, frsM m k sn mems ++ [_], l, 1, s0, l0⟩ : AS)) hLW
      · obtain ⟨q, eq⟩ : ∃ q : Nat, (m.fr k).ol = q := ⟨(m.fr k).ol.toNat, by omega⟩
        have hq : (q : Int) = min (m.fr k).ol l.length := by omega
        rw [eq]
        refine DrawX.go T_ok hM Hval.func181 (tb := dr181) rfl (by kernel_rfl) ?_; conv => whnf
        by_cases hq0 : q = 0
        · refine CondX.dF (by omega) ?_; conv => whnf
          repeat (first | (refine CondX.tt ?_; conv => whnf) | (refine CondX.ff ?_; conv => whnf))
          have hLM : mems k = lvMA (frM m sn mems k) l := by unfold lvMA; rw [if_pos (by show min (m.fr k).ol _ = 0; omega)]; rfl
          have mm6 := MMk.set MMk.top fun i _ => rfl
          refine LoadX.all (c := wc 0) (join_l (join_l hbx)) rfl ?_; conv => whnf
          refine settleS_w (t := k) (tk := 0) (st := 1) (x := 0) hE4 hD4 hDD4 M3 (Nat.zero_le _) (by rw [e3]; exact Wk.sp) (by rw [e3]; have := Wk.pc; show (m.fr k).pc + 1 < 2000; omega) hX4 fun hm6 hd6 hdd6 M6 => ?_; conv => whnf
          refine RetX.drop (h' := join (join _ hm6) hb) (Ext.jj hE4 hd6 hdd6) ?_
          refine end_up X M6 (Dj.back (Ext.j2 hE4 hd6 (Ext.refl hm6)) hdd6) hEE mm6 (fun i hi => hsn i (by omega)) hhas ?_ hk RX
          rw [frsM_succ, leave_up, hLS, hLO]
          unfold upA
          rw [hLG, hLF, hLO, ← hLM]
          exact congrArg (fun y => (⟨y, frsM m k sn mems ++ [_], l, 1, s0, l0⟩ : AS)) hLW
        · refine CondX.dT (by omega) ?_; conv => whnf
          repeat (first | (refine CondX.tt ?_; conv => whnf) | (refine CondX.ff ?_; conv => whnf))
          obtain ⟨o, eo⟩ : ∃ o : Nat, (m.fr k).oo = o := ⟨(m.fr k).oo.toNat, by omega⟩
          have hfit := Wk.fit (by omega)
          refine LoadX.fx (join_l hbX) (1803 + k * 65 + 63) rfl (by omega) (x := .int .u32 o) ((mR_oo (by omega)).trans (congrArg _ (e3o.trans eo))) ?_; conv => whnf
          repeat (first | (refine CondX.tt ?_; conv => whnf) | (refine CondX.ff ?_; conv => whnf))
          refine awrite_ok (off := o) (n := q) (fr := 0) hbX MMk.top hDD4 (by omega) (by omega) (by omega) ((hl.ext hE4).ext (Ext.jl h4 hm3)) (by omega) fun hb6 hdb6 B6 => ?_; conv => whnf
          repeat (first | (refine CondX.tt ?_; conv => whnf) | (refine CondX.ff ?_; conv => whnf))
          have hLM : ovl (mems k) o (cutN l 0 q) = lvMA (frM m sn mems k) l := by
            unfold lvMA
            rw [if_neg (by show ¬ min (m.fr k).ol _ = 0; omega), show min (frM m sn mems k).ol (l.length : Int) = (q : Int) from hq.symm, show (frM m sn mems k).oo = o from eo, Int.toNat_natCast, writeI_ovl (by rw [List.length_take]; show o + _ ≤ (mems k).length; omega) (by intro hh; have := congrArg List.length hh; rw [List.length_take, List.length_nil] at this; omega)]
            unfold cutN
            rw [show q - (l.length - 0) = 0 by omega, List.replicate_zero, List.append_nil, List.drop_zero]
            rfl
          have mm6 := MMk.set B6 fun i _ => rfl
          refine LoadX.all (c := wc 0) (join_l (join_l hbx)) rfl ?_; conv => whnf
          refine settleS_w (t := k) (tk := 0) (st := 1) (x := 0) hE4 hD4 hdb6 M3 (Nat.zero_le _) (by rw [e3]; exact Wk.sp) (by rw [e3]; have := Wk.pc; show (m.fr k).pc + 1 < 2000; omega) hX4 fun hm6 hd6 hdd6 M6 => ?_; conv => whnf
          refine RetX.drop (h' := join (join _ hm6) hb6) (Ext.jj hE4 hd6 hdd6) ?_
          refine end_up X M6 (Dj.back (Ext.j2 hE4 hd6 (Ext.refl hm6)) hdd6) hEE mm6 (fun i hi => hsn i (by omega)) hhas ?_ hk RX
          rw [frsM_succ, leave_up, hLS, hLO]
          unfold upA
          rw [hLG, hLF, hLO, ← hLM]
          exact congrArg (fun y => (⟨y, frsM m k sn mems ++ [_], l, 1, s0, l0⟩ : AS)) hLW
set_option maxRecDepth 100000 in
set_option maxHeartbeats 4000000 in
theorem end_2 (hs1 : 1 < st) (hs2 : st < 256) (X : EX hi hm hb eb m t w sn v mems stale) (hgs : ∀ i, i ≤ t → (m.fr i).gas ≤ 1048576) (hS : 0 ≤ S ∧ S ≤ 1048576) (R : Rs S v sn) (hl : BytS hi so l)
    (hk : EnK hi eb m (S + ((m.fr t).gas - lvGA (frM m sn mems t) st l)) (leaveA (absM m t w sn mems s0 l0) (frsM m t sn mems) (frM m sn mems t) st l) s0 l0 (K (.tuple #[]))) :
    CallX Hval.prog 181 [.pointer (some ⟨eb, 0, none⟩), .int .u8 st, sl so] (join (join hi hm) hb) K := by
  obtain ⟨st0, hst0⟩ : ∃ st0, st0 = st := ⟨_, rfl⟩
  have M := X.M
  have h7 := M.t7
  have F := M.f
  have hbE := M.blk (Ext.jl (join hi hm) hb)
  refine CallX.of_xf T_ok Hval.func181 rfl (by kernel_rfl) (Nat.le_of_ble_eq_true rfl) ?_; conv => whnf
  refine running_ok M (Ext.jl _ _) ?_; conv => whnf
  repeat (first | (refine CondX.tt ?_; conv => whnf) | (refine CondX.ff ?_; conv => whnf))
  refine LoadX.fn hbE (1803 + t * 65 + 7) rfl (by omega) ?_
  rw [mR_gas h7]; conv => whnf
  refine LoadX.fn hbE (1803 + t * 65) rfl (by omega) ?_
  rw [mR_kind h7]; conv => whnf
  have hg0 := F.gas
  have hgt := hgs t (Nat.le_refl _)
  have hLS : lvSA (frM m sn mems t) st0 l = st := by unfold lvSA; rw [if_neg (fun hh => by have := hh.2; omega)]; exact hst0
  rw [← hst0] at hk
  cases hmade : crK (m.fr t).kind with
  | true =>
    refine createsM_ok ?_
    rw [hmade]; conv => whnf
    repeat (first | (refine CondX.tt ?_; conv => whnf) | (refine CondX.ff ?_; conv => whnf))
    refine CondX.eqF (by omega) ?_; conv => whnf
    repeat (first | (refine CondX.tt ?_; conv => whnf) | (refine CondX.ff ?_; conv => whnf))
    refine CondX.dT (by omega) ?_; conv => whnf
    refine DrawX.go T_ok hM Hval.func181 (tb := dr181) rfl (by kernel_rfl) ?_; conv => whnf
    refine CondX.neI (fun _ => ?_) (fun hh => absurd hh (by omega)); conv => whnf
    repeat (first | (refine CondX.tt ?_; conv => whnf) | (refine CondX.ff ?_; conv => whnf))
    have hsx := X.sn1 t (Nat.le_refl _)
    refine LoadX.fx hbE 0 rfl (by omega) mR_S ?_; conv => whnf
    repeat (first | (refine CondX.tt ?_; conv => whnf) | (refine CondX.ff ?_; conv => whnf))
    refine LoadX.fx hbE (1803 + t * 65 + 8) rfl (by omega) (x := .int .i32 (m.fr t).snap) (mR_snap h7) ?_; conv => whnf
    repeat (first | (refine CondX.tt ?_; conv => whnf) | (refine CondX.ff ?_; conv => whnf))
    refine CallX.fj X.dj (revertTo_ok (id := (m.fr t).snap) M.A (List.getElem?_eq_getElem hsx) fun hmR vR AR hR hdR => ?_); conv => whnf
    repeat (first | (refine CondX.tt ?_; conv => whnf) | (refine CondX.ff ?_; conv => whnf))
    refine CallX.fj hdR (arLeave_ok (k := t) AR X.mm.mtop h7 fun hmL AL hdL => ?_); conv => whnf
    repeat (first | (refine CondX.tt ?_; conv => whnf) | (refine CondX.ff ?_; conv => whnf))
    obtain ⟨r1, r2, r3, r4, hhas⟩ := hR
    have hsv : (frM m sn mems t).saved = sn[(m.fr t).snap] := by show (sn[(m.fr t).snap]?).getD aw0 = _; rw [List.getElem?_eq_getElem hsx]; rfl
    have hsn : ∀ i, i < t → (sn.take (m.fr t).snap)[(m.fr i).snap]? = sn[(m.fr i).snap]? := fun i hi => by rw [List.getElem?_take_of_lt (X.sn2 i t hi (Nat.le_refl _))]
    have hX4 : 0 ≤ (0 : Int) ∧ (0 : Int) < W := ⟨by omega, W_pos⟩
    have hEE := Ext.refl hi
    have hlt : (sn.take (m.fr t).snap).length ≤ sn.length := by rw [List.length_take]; omega
    have hLG : lvGA (frM m sn mems t) st0 l = 0 := by unfold lvGA; rw [hLS, if_pos hs1]
    have hLO : lvOA (frM m sn mems t) st0 l = [] := by unfold lvOA; rw [hLS, if_pos hs1]
    have hLW : sn[(m.fr t).snap] = lvW w (frM m sn mems t).saved st (crK (frM m sn mems t).kind) (frM m sn mems t).self l := by unfold lvW; rw [if_pos (by omega), hsv]
    have hLF : lvFA (frM m sn mems t) st0 l = 0 := by unfold lvFA; rw [hLS, if_neg (by omega)]
    have RX : Rs (S + ((m.fr t).gas - lvGA (frM m sn mems t) st0 l)) vR (sn.take (m.fr t).snap) := by
      rw [hLG]
      obtain ⟨q1, q2, q3, q4, q5⟩ := R
      exact ⟨by omega, by omega, by omega, by omega, by omega⟩
    have hbN := Byt_nil hi
    refine AL.sto hdL (eU_ret nilS []) rfl (by omega) fun hm1 A1 hd1 => ?_; conv => whnf
    refine LoadX.fx (A1.blk (Ext.jl _ _)) 2258 rfl (by omega) (x := .int .i8 t) (mR_top.trans (congrArg _ M.top)) ?_; conv => whnf
    rw [wrap_i8 (x := (t : Int) - 1) (by omega) (by omega)]
    by_cases ht : t = 0
    · subst ht
      rw [show ((0 : Nat) : Int) - 1 = -1 from rfl]
      refine A1.sto hd1 (eU_top _) rfl (by omega) fun hm2 A2 hd2 => ?_; conv => whnf
      refine LoadX.fx (A2.blk (Ext.jl _ _)) 2258 rfl (by omega) (x := .int .i8 (-1)) mR_top ?_; conv => whnf
      refine CondX.dT (by omega) ?_; conv => whnf
      refine A2.sto hd2 (eU_phase _) rfl (by omega) fun hm3 A3 hd3 => ?_; conv => whnf
      refine A3.sto hd3 (eU_status _) rfl (by omega) fun hm4 A4 hd4 => ?_; conv => whnf
      refine Ob.mk ⟨by omega, by omega⟩ ?_; conv => whnf
      refine A4.sto hd4 (eU_gas (t := 0) (by omega) _) rfl (by omega) fun hm5 A5 hd5 => ?_; conv => whnf
      refine RetX.same (end_last (stx := st) (gx := 0) (sx := nilS) (lx := []) X A5 hd5 hEE hbN (by omega) (by omega) ?_ hk RX)
      rw [show frsM m 0 sn mems = [] from rfl, leave_last, hLS, hLG, hLO]
      exact congrArg (fun y => (⟨y, [], [], 2, st, 0⟩ : AS)) hLW
    · obtain ⟨k, rfl⟩ : ∃ k, t = k + 1 := ⟨t - 1, by omega⟩
      rw [show ((k + 1 : Nat) : Int) - 1 = (k : Int) by omega]
      have Fk := M.fok k (by omega)
      have hgk := hgs k (by omega)
      have Wk := X.wait k (by omega)
      have hol := Wk.ol
      have hoo := Wk.oo
      have hgk0 := Fk.gas
      have hbl := hbN.len
      have hbr := hbN.room
      refine A1.sto hd1 (eU_top _) rfl (by omega) fun hm2 A2 hd2 => ?_; conv => whnf
      refine LoadX.fx (A2.blk (Ext.jl _ _)) 2258 rfl (by omega) (x := .int .i8 k) mR_top ?_; conv => whnf
      refine CondX.dF (by omega) ?_; conv => whnf
      refine DrawX.go T_ok hM Hval.func181 (tb := dr181) rfl (by kernel_rfl) ?_; conv => whnf
      refine LoadX.fx (A2.blk (Ext.jl _ _)) 2258 rfl (by omega) (x := .int .i8 k) mR_top ?_; conv => whnf
      refine Ob.mk ⟨by omega, by omega⟩ ?_; conv => whnf
      refine LoadX.fx (A2.blk (Ext.jl _ _)) (1803 + k * 65 + 7) rfl (by omega) (x := .int .u64 (m.fr k).gas) (mR_gas (by omega)) ?_; conv => whnf
      rw [show IntKind.u64.wrap ((m.fr k).gas + 0) = (m.fr k).gas + 0 by rw [wrap_u64']; omega]
      refine A2.sto hd2 (eU_gas (t := k) (by omega) _) rfl (by omega) fun hm3 A3 hd3 => ?_; conv => whnf
      have A3 : VA _ hm3 eb (mC eb (upM m k nilS [] 0)) _ _ _ := A3
      have M3 := up_MA (gx := 0) X A3 hEE hbN ⟨by omega, by omega⟩
      have e3 : (upM m k nilS [] 0).fr k = { m.fr k with gas := (m.fr k).gas + 0 } := updN_same ..
      have e3l : ((upM m k nilS [] 0).fr k).ol = (m.fr k).ol := by rw [e3]
      have e3o : ((upM m k nilS [] 0).fr k).oo = (m.fr k).oo := by rw [e3]
      have MMk := X.mm.low (m' := upM m k nilS [] 0) rfl rfl rfl
      refine BoxX.jj A3.V.dj hd3 fun n4 he4 hd4 hdd4 => ?_; conv => whnf
      refine Ob.mk ⟨rfl, rfl⟩ ?_; conv => whnf
      refine StoreX.fr (StoreX.jx (x := wc 0) (Nat.le_of_ble_eq_true rfl) rfl ?_); conv => whnf
      refine CondX.eqF (by omega) ?_; conv => whnf
      repeat (first | (refine CondX.tt ?_; conv => whnf) | (refine CondX.ff ?_; conv => whnf))
      have hE4 := he4 (wc 0, 75)
      have hD4 := hd4 (wc 0, 75)
      have hDD4 := hdd4 (wc 0, 75)
      have hbx : (hput hi n4 (wc 0, 75)) n4 = some (wc 0, 75) := hput_same ..
      generalize hput hi n4 (wc 0, 75) = h4 at *
      have hbX := A3.blk (Ext.j2 hE4 hD4 (Ext.refl hm3))
      refine LoadX.fx (join_l hbX) (1803 + k * 65 + 64) rfl (by omega) (x := .int .u32 (m.fr k).ol) ((mR_ol (by omega)).trans (congrArg _ e3l)) ?_; conv => whnf
      rw [show IntKind.u64.wrap (m.fr k).ol = (m.fr k).ol by rw [wrap_u64']; omega]
      have hLM : mems k = lvMA (frM m sn mems k) [] := by unfold lvMA; rw [if_pos (by show min (m.fr k).ol ((0 : Nat) : Int) = 0; omega)]; rfl
      have mm6 := MMk.set MMk.top fun i _ => rfl
      refine CondX.decI (fun hc => ?_) (fun hc => ?_) <;> conv => whnf
      · refine DrawX.go T_ok hM Hval.func181 (tb := dr181) rfl (by kernel_rfl) ?_; conv => whnf
        repeat (first | (refine CondX.tt ?_; conv => whnf) | (refine CondX.ff ?_; conv => whnf))
        refine LoadX.all (c := wc 0) (join_l (join_l hbx)) rfl ?_; conv => whnf
        refine settleS_w (t := k) (tk := 0) (st := 1) (x := 0) hE4 hD4 hDD4 M3 (Nat.zero_le _) (by rw [e3]; exact Wk.sp) (by rw [e3]; have := Wk.pc; show (m.fr k).pc + 1 < 2000; omega) hX4 fun hm6 hd6 hdd6 M6 => ?_; conv => whnf
        refine RetX.drop (h' := join (join _ hm6) hb) (Ext.jj hE4 hd6 hdd6) ?_
        refine end_up X M6 (Dj.back (Ext.j2 hE4 hd6 (Ext.refl hm6)) hdd6) hEE mm6 (fun i hi => hsn i (by omega)) hhas ?_ hk RX
        rw [frsM_succ, leave_up, hLS, hLO]
        unfold upA
        rw [hLG, hLF, hLO, ← hLM]
        exact congrArg (fun y => (⟨y, frsM m k sn mems ++ [_], [], 1, s0, l0⟩ : AS)) hLW
      · refine DrawX.go T_ok hM Hval.func181 (tb := dr181) rfl (by kernel_rfl) ?_; conv => whnf
        refine CondX.dF hc ?_; conv => whnf
        repeat (first | (refine CondX.tt ?_; conv => whnf) | (refine CondX.ff ?_; conv => whnf))
        refine LoadX.all (c := wc 0) (join_l (join_l hbx)) rfl ?_; conv => whnf
        refine settleS_w (t := k) (tk := 0) (st := 1) (x := 0) hE4 hD4 hDD4 M3 (Nat.zero_le _) (by rw [e3]; exact Wk.sp) (by rw [e3]; have := Wk.pc; show (m.fr k).pc + 1 < 2000; omega) hX4 fun hm6 hd6 hdd6 M6 => ?_; conv => whnf
        refine RetX.drop (h' := join (join _ hm6) hb) (Ext.jj hE4 hd6 hdd6) ?_
        refine end_up X M6 (Dj.back (Ext.j2 hE4 hd6 (Ext.refl hm6)) hdd6) hEE mm6 (fun i hi => hsn i (by omega)) hhas ?_ hk RX
        rw [frsM_succ, leave_up, hLS, hLO]
        unfold upA
        rw [hLG, hLF, hLO, ← hLM]
        exact congrArg (fun y => (⟨y, frsM m k sn mems ++ [_], [], 1, s0, l0⟩ : AS)) hLW
  | false =>
    refine createsM_ok ?_
    rw [hmade]; conv => whnf
    repeat (first | (refine CondX.tt ?_; conv => whnf) | (refine CondX.ff ?_; conv => whnf))
    refine CondX.dT (by omega) ?_; conv => whnf
    refine DrawX.go T_ok hM Hval.func181 (tb := dr181) rfl (by kernel_rfl) ?_; conv => whnf
    refine CondX.neI (fun _ => ?_) (fun hh => absurd hh (by omega)); conv => whnf
    repeat (first | (refine CondX.tt ?_; conv => whnf) | (refine CondX.ff ?_; conv => whnf))
    have hsx := X.sn1 t (Nat.le_refl _)
    refine LoadX.fx hbE 0 rfl (by omega) mR_S ?_; conv => whnf
    repeat (first | (refine CondX.tt ?_; conv => whnf) | (refine CondX.ff ?_; conv => whnf))
    refine LoadX.fx hbE (1803 + t * 65 + 8) rfl (by omega) (x := .int .i32 (m.fr t).snap) (mR_snap h7) ?_; conv => whnf
    repeat (first | (refine CondX.tt ?_; conv => whnf) | (refine CondX.ff ?_; conv => whnf))
    refine CallX.fj X.dj (revertTo_ok (id := (m.fr t).snap) M.A (List.getElem?_eq_getElem hsx) fun hmR vR AR hR hdR => ?_); conv => whnf
    repeat (first | (refine CondX.tt ?_; conv => whnf) | (refine CondX.ff ?_; conv => whnf))
    refine CallX.fj hdR (arLeave_ok (k := t) AR X.mm.mtop h7 fun hmL AL hdL => ?_); conv => whnf
    repeat (first | (refine CondX.tt ?_; conv => whnf) | (refine CondX.ff ?_; conv => whnf))
    obtain ⟨r1, r2, r3, r4, hhas⟩ := hR
    have hsv : (frM m sn mems t).saved = sn[(m.fr t).snap] := by show (sn[(m.fr t).snap]?).getD aw0 = _; rw [List.getElem?_eq_getElem hsx]; rfl
    have hsn : ∀ i, i < t → (sn.take (m.fr t).snap)[(m.fr i).snap]? = sn[(m.fr i).snap]? := fun i hi => by rw [List.getElem?_take_of_lt (X.sn2 i t hi (Nat.le_refl _))]
    have hX4 : 0 ≤ (0 : Int) ∧ (0 : Int) < W := ⟨by omega, W_pos⟩
    have hEE := Ext.refl hi
    have hlt : (sn.take (m.fr t).snap).length ≤ sn.length := by rw [List.length_take]; omega
    have hLG : lvGA (frM m sn mems t) st0 l = 0 := by unfold lvGA; rw [hLS, if_pos hs1]
    have hLO : lvOA (frM m sn mems t) st0 l = [] := by unfold lvOA; rw [hLS, if_pos hs1]
    have hLW : sn[(m.fr t).snap] = lvW w (frM m sn mems t).saved st (crK (frM m sn mems t).kind) (frM m sn mems t).self l := by unfold lvW; rw [if_pos (by omega), hsv]
    have hLF : lvFA (frM m sn mems t) st0 l = 0 := by unfold lvFA; rw [hLS, if_neg (by omega)]
    have RX : Rs (S + ((m.fr t).gas - lvGA (frM m sn mems t) st0 l)) vR (sn.take (m.fr t).snap) := by
      rw [hLG]
      obtain ⟨q1, q2, q3, q4, q5⟩ := R
      exact ⟨by omega, by omega, by omega, by omega, by omega⟩
    have hbN := Byt_nil hi
    refine AL.sto hdL (eU_ret nilS []) rfl (by omega) fun hm1 A1 hd1 => ?_; conv => whnf
    refine LoadX.fx (A1.blk (Ext.jl _ _)) 2258 rfl (by omega) (x := .int .i8 t) (mR_top.trans (congrArg _ M.top)) ?_; conv => whnf
    rw [wrap_i8 (x := (t : Int) - 1) (by omega) (by omega)]
    by_cases ht : t = 0
    · subst ht
      rw [show ((0 : Nat) : Int) - 1 = -1 from rfl]
      refine A1.sto hd1 (eU_top _) rfl (by omega) fun hm2 A2 hd2 => ?_; conv => whnf
      refine LoadX.fx (A2.blk (Ext.jl _ _)) 2258 rfl (by omega) (x := .int .i8 (-1)) mR_top ?_; conv => whnf
      refine CondX.dT (by omega) ?_; conv => whnf
      refine A2.sto hd2 (eU_phase _) rfl (by omega) fun hm3 A3 hd3 => ?_; conv => whnf
      refine A3.sto hd3 (eU_status _) rfl (by omega) fun hm4 A4 hd4 => ?_; conv => whnf
      refine Ob.mk ⟨by omega, by omega⟩ ?_; conv => whnf
      refine A4.sto hd4 (eU_gas (t := 0) (by omega) _) rfl (by omega) fun hm5 A5 hd5 => ?_; conv => whnf
      refine RetX.same (end_last (stx := st) (gx := 0) (sx := nilS) (lx := []) X A5 hd5 hEE hbN (by omega) (by omega) ?_ hk RX)
      rw [show frsM m 0 sn mems = [] from rfl, leave_last, hLS, hLG, hLO]
      exact congrArg (fun y => (⟨y, [], [], 2, st, 0⟩ : AS)) hLW
    · obtain ⟨k, rfl⟩ : ∃ k, t = k + 1 := ⟨t - 1, by omega⟩
      rw [show ((k + 1 : Nat) : Int) - 1 = (k : Int) by omega]
      have Fk := M.fok k (by omega)
      have hgk := hgs k (by omega)
      have Wk := X.wait k (by omega)
      have hol := Wk.ol
      have hoo := Wk.oo
      have hgk0 := Fk.gas
      have hbl := hbN.len
      have hbr := hbN.room
      refine A1.sto hd1 (eU_top _) rfl (by omega) fun hm2 A2 hd2 => ?_; conv => whnf
      refine LoadX.fx (A2.blk (Ext.jl _ _)) 2258 rfl (by omega) (x := .int .i8 k) mR_top ?_; conv => whnf
      refine CondX.dF (by omega) ?_; conv => whnf
      refine DrawX.go T_ok hM Hval.func181 (tb := dr181) rfl (by kernel_rfl) ?_; conv => whnf
      refine LoadX.fx (A2.blk (Ext.jl _ _)) 2258 rfl (by omega) (x := .int .i8 k) mR_top ?_; conv => whnf
      refine Ob.mk ⟨by omega, by omega⟩ ?_; conv => whnf
      refine LoadX.fx (A2.blk (Ext.jl _ _)) (1803 + k * 65 + 7) rfl (by omega) (x := .int .u64 (m.fr k).gas) (mR_gas (by omega)) ?_; conv => whnf
      rw [show IntKind.u64.wrap ((m.fr k).gas + 0) = (m.fr k).gas + 0 by rw [wrap_u64']; omega]
      refine A2.sto hd2 (eU_gas (t := k) (by omega) _) rfl (by omega) fun hm3 A3 hd3 => ?_; conv => whnf
      have A3 : VA _ hm3 eb (mC eb (upM m k nilS [] 0)) _ _ _ := A3
      have M3 := up_MA (gx := 0) X A3 hEE hbN ⟨by omega, by omega⟩
      have e3 : (upM m k nilS [] 0).fr k = { m.fr k with gas := (m.fr k).gas + 0 } := updN_same ..
      have e3l : ((upM m k nilS [] 0).fr k).ol = (m.fr k).ol := by rw [e3]
      have e3o : ((upM m k nilS [] 0).fr k).oo = (m.fr k).oo := by rw [e3]
      have MMk := X.mm.low (m' := upM m k nilS [] 0) rfl rfl rfl
      refine BoxX.jj A3.V.dj hd3 fun n4 he4 hd4 hdd4 => ?_; conv => whnf
      refine Ob.mk ⟨rfl, rfl⟩ ?_; conv => whnf
      refine StoreX.fr (StoreX.jx (x := wc 0) (Nat.le_of_ble_eq_true rfl) rfl ?_); conv => whnf
      refine CondX.eqF (by omega) ?_; conv => whnf
      repeat (first | (refine CondX.tt ?_; conv => whnf) | (refine CondX.ff ?_; conv => whnf))
      have hE4 := he4 (wc 0, 75)
      have hD4 := hd4 (wc 0, 75)
      have hDD4 := hdd4 (wc 0, 75)
      have hbx : (hput hi n4 (wc 0, 75)) n4 = some (wc 0, 75) := hput_same ..
      generalize hput hi n4 (wc 0, 75) = h4 at *
      have hbX := A3.blk (Ext.j2 hE4 hD4 (Ext.refl hm3))
      refine LoadX.fx (join_l hbX) (1803 + k * 65 + 64) rfl (by omega) (x := .int .u32 (m.fr k).ol) ((mR_ol (by omega)).trans (congrArg _ e3l)) ?_; conv => whnf
      rw [show IntKind.u64.wrap (m.fr k).ol = (m.fr k).ol by rw [wrap_u64']; omega]
      have hLM : mems k = lvMA (frM m sn mems k) [] := by unfold lvMA; rw [if_pos (by show min (m.fr k).ol ((0 : Nat) : Int) = 0; omega)]; rfl
      have mm6 := MMk.set MMk.top fun i _ => rfl
      refine CondX.decI (fun hc => ?_) (fun hc => ?_) <;> conv => whnf
      · refine DrawX.go T_ok hM Hval.func181 (tb := dr181) rfl (by kernel_rfl) ?_; conv => whnf
        repeat (first | (refine CondX.tt ?_; conv => whnf) | (refine CondX.ff ?_; conv => whnf))
        refine LoadX.all (c := wc 0) (join_l (join_l hbx)) rfl ?_; conv => whnf
        refine settleS_w (t := k) (tk := 0) (st := 1) (x := 0) hE4 hD4 hDD4 M3 (Nat.zero_le _) (by rw [e3]; exact Wk.sp) (by rw [e3]; have := Wk.pc; show (m.fr k).pc + 1 < 2000; omega) hX4 fun hm6 hd6 hdd6 M6 => ?_; conv => whnf
        refine RetX.drop (h' := join (join _ hm6) hb) (Ext.jj hE4 hd6 hdd6) ?_
        refine end_up X M6 (Dj.back (Ext.j2 hE4 hd6 (Ext.refl hm6)) hdd6) hEE mm6 (fun i hi => hsn i (by omega)) hhas ?_ hk RX
        rw [frsM_succ, leave_up, hLS, hLO]
        unfold upA
        rw [hLG, hLF, hLO, ← hLM]
        exact congrArg (fun y => (⟨y, frsM m k sn mems ++ [_], [], 1, s0, l0⟩ : AS)) hLW
      · refine DrawX.go T_ok hM Hval.func181 (tb := dr181) rfl (by kernel_rfl) ?_; conv => whnf
        refine CondX.dF hc ?_; conv => whnf
        repeat (first | (refine CondX.tt ?_; conv => whnf) | (refine CondX.ff ?_; conv => whnf))
        refine LoadX.all (c := wc 0) (join_l (join_l hbx)) rfl ?_; conv => whnf
        refine settleS_w (t := k) (tk := 0) (st := 1) (x := 0) hE4 hD4 hDD4 M3 (Nat.zero_le _) (by rw [e3]; exact Wk.sp) (by rw [e3]; have := Wk.pc; show (m.fr k).pc + 1 < 2000; omega) hX4 fun hm6 hd6 hdd6 M6 => ?_; conv => whnf
        refine RetX.drop (h' := join (join _ hm6) hb) (Ext.jj hE4 hd6 hdd6) ?_
        refine end_up X M6 (Dj.back (Ext.j2 hE4 hd6 (Ext.refl hm6)) hdd6) hEE mm6 (fun i hi => hsn i (by omega)) hhas ?_ hk RX
        rw [frsM_succ, leave_up, hLS, hLO]
        unfold upA
        rw [hLG, hLF, hLO, ← hLM]
        exact congrArg (fun y => (⟨y, frsM m k sn mems ++ [_], [], 1, s0, l0⟩ : AS)) hLW
theorem addr_bd {a : List Int} (h : a.length = 20) (hB : isB a) : 0 ≤ bv a ∧ bv a < W := by
  have := bv_bd hB
  rw [h] at this
  exact ⟨this.1, Int.lt_trans this.2 (by rw [W_val]; decide)⟩
set_option maxRecDepth 100000 in
set_option maxHeartbeats 4000000 in
theorem end_m (hst : st = 0) (hmade : crK (m.fr t).kind = true) (X : EX hi hm hb eb m t w sn v mems stale) (hgs : ∀ i, i ≤ t → (m.fr i).gas ≤ 1048576) (hS : 0 ≤ S ∧ S ≤ 1048576) (R : Rs S v sn) (hl : BytS hi so l)
    (hk : EnK hi eb m (S + ((m.fr t).gas - lvGA (frM m sn mems t) st l)) (leaveA (absM m t w sn mems s0 l0) (frsM m t sn mems) (frM m sn mems t) st l) s0 l0 (K (.tuple #[]))) :
    CallX Hval.prog 181 [.pointer (some ⟨eb, 0, none⟩), .int .u8 st, sl so] (join (join hi hm) hb) K := by
  subst hst
  have M := X.M
  have h7 := M.t7
  have F := M.f
  have hbE := M.blk (Ext.jl (join hi hm) hb)
  refine CallX.of_xf T_ok Hval.func181 rfl (by kernel_rfl) (Nat.le_of_ble_eq_true rfl) ?_; conv => whnf
  refine running_ok M (Ext.jl _ _) ?_; conv => whnf
  repeat (first | (refine CondX.tt ?_; conv => whnf) | (refine CondX.ff ?_; conv => whnf))
  refine LoadX.fn hbE (1803 + t * 65 + 7) rfl (by omega) ?_
  rw [mR_gas h7]; conv => whnf
  refine LoadX.fn hbE (1803 + t * 65) rfl (by omega) ?_
  rw [mR_kind h7]; conv => whnf
  have hg0 := F.gas
  have hgt := hgs t (Nat.le_refl _)
  refine createsM_ok ?_
  rw [hmade]; conv => whnf
  repeat (first | (refine CondX.tt ?_; conv => whnf) | (refine CondX.ff ?_; conv => whnf))
  refine depositM_ok hg0.1 hg0.2 ((hl.ext (Ext.jl hi hm)).ext (Ext.jl _ hb)) ?_
  have hLS : lvSA (frM m sn mems t) 0 l = (depI (m.fr t).gas l).2 := by unfold lvSA; rw [if_pos ⟨hmade, rfl⟩]; rfl
  have hdc : (1 < (depI (m.fr t).gas l).2 ∧ (depI (m.fr t).gas l).2 < 256) ∨ ((depI (m.fr t).gas l).2 = 0 ∧ (depI (m.fr t).gas l).1 = (m.fr t).gas - 200 * (l.length : Int) ∧ 200 * (l.length : Int) ≤ (m.fr t).gas ∧ l.length ≤ 256) := by
    unfold depI
    split
    · left; exact ⟨by decide, by decide⟩
    split
    · left; exact ⟨by decide, by decide⟩
    split
    · left; exact ⟨by decide, by decide⟩
    · right; exact ⟨rfl, rfl, by omega, by omega⟩
  rcases hdc with ⟨hs1, hs2⟩ | ⟨dp2, dp1, dp3, dp4⟩
  · obtain ⟨st, hst⟩ : ∃ st, (depI (m.fr t).gas l).2 = st := ⟨_, rfl⟩
    obtain ⟨st0, hst0⟩ : ∃ st0 : Int, st0 = 0 := ⟨_, rfl⟩
    rw [hst] at hLS hs1 hs2 ⊢
    rw [← hst0] at hk hLS
    conv => whnf
    repeat (first | (refine CondX.tt ?_; conv => whnf) | (refine CondX.ff ?_; conv => whnf))
    refine CondX.eqF (by omega) ?_; conv => whnf
    repeat (first | (refine CondX.tt ?_; conv => whnf) | (refine CondX.ff ?_; conv => whnf))
    refine CondX.dT (by omega) ?_; conv => whnf
    refine DrawX.go T_ok hM Hval.func181 (tb := dr181) rfl (by kernel_rfl) ?_; conv => whnf
    refine CondX.neI (fun _ => ?_) (fun hh => absurd hh (by omega)); conv => whnf
    repeat (first | (refine CondX.tt ?_; conv => whnf) | (refine CondX.ff ?_; conv => whnf))
    have hsx := X.sn1 t (Nat.le_refl _)
    refine LoadX.fx hbE 0 rfl (by omega) mR_S ?_; conv => whnf
    repeat (first | (refine CondX.tt ?_; conv => whnf) | (refine CondX.ff ?_; conv => whnf))
    refine LoadX.fx hbE (1803 + t * 65 + 8) rfl (by omega) (x := .int .i32 (m.fr t).snap) (mR_snap h7) ?_; conv => whnf
    repeat (first | (refine CondX.tt ?_; conv => whnf) | (refine CondX.ff ?_; conv => whnf))
    refine CallX.fj X.dj (revertTo_ok (id := (m.fr t).snap) M.A (List.getElem?_eq_getElem hsx) fun hmR vR AR hR hdR => ?_); conv => whnf
    repeat (first | (refine CondX.tt ?_; conv => whnf) | (refine CondX.ff ?_; conv => whnf))
    refine CallX.fj hdR (arLeave_ok (k := t) AR X.mm.mtop h7 fun hmL AL hdL => ?_); conv => whnf
    repeat (first | (refine CondX.tt ?_; conv => whnf) | (refine CondX.ff ?_; conv => whnf))
    obtain ⟨r1, r2, r3, r4, hhas⟩ := hR
    have hsv : (frM m sn mems t).saved = sn[(m.fr t).snap] := by show (sn[(m.fr t).snap]?).getD aw0 = _; rw [List.getElem?_eq_getElem hsx]; rfl
    have hsn : ∀ i, i < t → (sn.take (m.fr t).snap)[(m.fr i).snap]? = sn[(m.fr i).snap]? := fun i hi => by rw [List.getElem?_take_of_lt (X.sn2 i t hi (Nat.le_refl _))]
    have hX4 : 0 ≤ (0 : Int) ∧ (0 : Int) < W := ⟨by omega, W_pos⟩
    have hEE := Ext.refl hi
    have hlt : (sn.take (m.fr t).snap).length ≤ sn.length := by rw [List.length_take]; omega
    have hLG : lvGA (frM m sn mems t) st0 l = 0 := by unfold lvGA; rw [hLS, if_pos hs1]
    have hLO : lvOA (frM m sn mems t) st0 l = [] := by unfold lvOA; rw [hLS, if_pos hs1]
    have hLW : sn[(m.fr t).snap] = lvW w (frM m sn mems t).saved st (crK (frM m sn mems t).kind) (frM m sn mems t).self l := by unfold lvW; rw [if_pos (by omega), hsv]
    have hLF : lvFA (frM m sn mems t) st0 l = 0 := by unfold lvFA; rw [hLS, if_neg (by omega)]
    have RX : Rs (S + ((m.fr t).gas - lvGA (frM m sn mems t) st0 l)) vR (sn.take (m.fr t).snap) := by
      rw [hLG]
      obtain ⟨q1, q2, q3, q4, q5⟩ := R
      exact ⟨by omega, by omega, by omega, by omega, by omega⟩
    have hbN := Byt_nil hi
    refine AL.sto hdL (eU_ret nilS []) rfl (by omega) fun hm1 A1 hd1 => ?_; conv => whnf
    refine LoadX.fx (A1.blk (Ext.jl _ _)) 2258 rfl (by omega) (x := .int .i8 t) (mR_top.trans (congrArg _ M.top)) ?_; conv => whnf
    rw [wrap_i8 (x := (t : Int) - 1) (by omega) (by omega)]
    by_cases ht : t = 0
    · subst ht
      rw [show ((0 : Nat) : Int) - 1 = -1 from rfl]
      refine A1.sto hd1 (eU_top _) rfl (by omega) fun hm2 A2 hd2 => ?_; conv => whnf
      refine LoadX.fx (A2.blk (Ext.jl _ _)) 2258 rfl (by omega) (x := .int .i8 (-1)) mR_top ?_; conv => whnf
      refine CondX.dT (by omega) ?_; conv => whnf
      refine A2.sto hd2 (eU_phase _) rfl (by omega) fun hm3 A3 hd3 => ?_; conv => whnf
      refine A3.sto hd3 (eU_status _) rfl (by omega) fun hm4 A4 hd4 => ?_; conv => whnf
      refine Ob.mk ⟨by omega, by omega⟩ ?_; conv => whnf
      refine A4.sto hd4 (eU_gas (t := 0) (by omega) _) rfl (by omega) fun hm5 A5 hd5 => ?_; conv => whnf
      refine RetX.same (end_last (stx := st) (gx := 0) (sx := nilS) (lx := []) X A5 hd5 hEE hbN (by omega) (by omega) ?_ hk RX)
      rw [show frsM m 0 sn mems = [] from rfl, leave_last, hLS, hLG, hLO]
      exact congrArg (fun y => (⟨y, [], [], 2, st, 0⟩ : AS)) hLW
    · obtain ⟨k, rfl⟩ : ∃ k, t = k + 1 := ⟨t - 1, by omega⟩
      rw [show ((k + 1 : Nat) : Int) - 1 = (k : Int) by omega]
      have Fk := M.fok k (by omega)
      have hgk := hgs k (by omega)
      have Wk := X.wait k (by omega)
      have hol := Wk.ol
      have hoo := Wk.oo
      have hgk0 := Fk.gas
      have hbl := hbN.len
      have hbr := hbN.room
      refine A1.sto hd1 (eU_top _) rfl (by omega) fun hm2 A2 hd2 => ?_; conv => whnf
      refine LoadX.fx (A2.blk (Ext.jl _ _)) 2258 rfl (by omega) (x := .int .i8 k) mR_top ?_; conv => whnf
      refine CondX.dF (by omega) ?_; conv => whnf
      refine DrawX.go T_ok hM Hval.func181 (tb := dr181) rfl (by kernel_rfl) ?_; conv => whnf
      refine LoadX.fx (A2.blk (Ext.jl _ _)) 2258 rfl (by omega) (x := .int .i8 k) mR_top ?_; conv => whnf
      refine Ob.mk ⟨by omega, by omega⟩ ?_; conv => whnf
      refine LoadX.fx (A2.blk (Ext.jl _ _)) (1803 + k * 65 + 7) rfl (by omega) (x := .int .u64 (m.fr k).gas) (mR_gas (by omega)) ?_; conv => whnf
      rw [show IntKind.u64.wrap ((m.fr k).gas + 0) = (m.fr k).gas + 0 by rw [wrap_u64']; omega]
      refine A2.sto hd2 (eU_gas (t := k) (by omega) _) rfl (by omega) fun hm3 A3 hd3 => ?_; conv => whnf
      have A3 : VA _ hm3 eb (mC eb (upM m k nilS [] 0)) _ _ _ := A3
      have M3 := up_MA (gx := 0) X A3 hEE hbN ⟨by omega, by omega⟩
      have e3 : (upM m k nilS [] 0).fr k = { m.fr k with gas := (m.fr k).gas + 0 } := updN_same ..
      have e3l : ((upM m k nilS [] 0).fr k).ol = (m.fr k).ol := by rw [e3]
      have e3o : ((upM m k nilS [] 0).fr k).oo = (m.fr k).oo := by rw [e3]
      have MMk := X.mm.low (m' := upM m k nilS [] 0) rfl rfl rfl
      refine BoxX.jj A3.V.dj hd3 fun n4 he4 hd4 hdd4 => ?_; conv => whnf
      refine Ob.mk ⟨rfl, rfl⟩ ?_; conv => whnf
      refine StoreX.fr (StoreX.jx (x := wc 0) (Nat.le_of_ble_eq_true rfl) rfl ?_); conv => whnf
      refine CondX.eqF (by omega) ?_; conv => whnf
      repeat (first | (refine CondX.tt ?_; conv => whnf) | (refine CondX.ff ?_; conv => whnf))
      have hE4 := he4 (wc 0, 75)
      have hD4 := hd4 (wc 0, 75)
      have hDD4 := hdd4 (wc 0, 75)
      have hbx : (hput hi n4 (wc 0, 75)) n4 = some (wc 0, 75) := hput_same ..
      generalize hput hi n4 (wc 0, 75) = h4 at *
      have hbX := A3.blk (Ext.j2 hE4 hD4 (Ext.refl hm3))
      refine LoadX.fx (join_l hbX) (1803 + k * 65 + 64) rfl (by omega) (x := .int .u32 (m.fr k).ol) ((mR_ol (by omega)).trans (congrArg _ e3l)) ?_; conv => whnf
      rw [show IntKind.u64.wrap (m.fr k).ol = (m.fr k).ol by rw [wrap_u64']; omega]
      have hLM : mems k = lvMA (frM m sn mems k) [] := by unfold lvMA; rw [if_pos (by show min (m.fr k).ol ((0 : Nat) : Int) = 0; omega)]; rfl
      have mm6 := MMk.set MMk.top fun i _ => rfl
      refine CondX.decI (fun hc => ?_) (fun hc => ?_) <;> conv => whnf
      · refine DrawX.go T_ok hM Hval.func181 (tb := dr181) rfl (by kernel_rfl) ?_; conv => whnf
        repeat (first | (refine CondX.tt ?_; conv => whnf) | (refine CondX.ff ?_; conv => whnf))
        refine LoadX.all (c := wc 0) (join_l (join_l hbx)) rfl ?_; conv => whnf
        refine settleS_w (t := k) (tk := 0) (st := 1) (x := 0) hE4 hD4 hDD4 M3 (Nat.zero_le _) (by rw [e3]; exact Wk.sp) (by rw [e3]; have := Wk.pc; show (m.fr k).pc + 1 < 2000; omega) hX4 fun hm6 hd6 hdd6 M6 => ?_; conv => whnf
        refine RetX.drop (h' := join (join _ hm6) hb) (Ext.jj hE4 hd6 hdd6) ?_
        refine end_up X M6 (Dj.back (Ext.j2 hE4 hd6 (Ext.refl hm6)) hdd6) hEE mm6 (fun i hi => hsn i (by omega)) hhas ?_ hk RX
        rw [frsM_succ, leave_up, hLS, hLO]
        unfold upA
        rw [hLG, hLF, hLO, ← hLM]
        exact congrArg (fun y => (⟨y, frsM m k sn mems ++ [_], [], 1, s0, l0⟩ : AS)) hLW
      · refine DrawX.go T_ok hM Hval.func181 (tb := dr181) rfl (by kernel_rfl) ?_; conv => whnf
        refine CondX.dF hc ?_; conv => whnf
        repeat (first | (refine CondX.tt ?_; conv => whnf) | (refine CondX.ff ?_; conv => whnf))
        refine LoadX.all (c := wc 0) (join_l (join_l hbx)) rfl ?_; conv => whnf
        refine settleS_w (t := k) (tk := 0) (st := 1) (x := 0) hE4 hD4 hDD4 M3 (Nat.zero_le _) (by rw [e3]; exact Wk.sp) (by rw [e3]; have := Wk.pc; show (m.fr k).pc + 1 < 2000; omega) hX4 fun hm6 hd6 hdd6 M6 => ?_; conv => whnf
        refine RetX.drop (h' := join (join _ hm6) hb) (Ext.jj hE4 hd6 hdd6) ?_
        refine end_up X M6 (Dj.back (Ext.j2 hE4 hd6 (Ext.refl hm6)) hdd6) hEE mm6 (fun i hi => hsn i (by omega)) hhas ?_ hk RX
        rw [frsM_succ, leave_up, hLS, hLO]
        unfold upA
        rw [hLG, hLF, hLO, ← hLM]
        exact congrArg (fun y => (⟨y, frsM m k sn mems ++ [_], [], 1, s0, l0⟩ : AS)) hLW
  · rw [dp2] at hLS ⊢
    obtain ⟨gg, hgg⟩ : ∃ gg, (depI (m.fr t).gas l).1 = gg := ⟨_, rfl⟩
    rw [hgg] at dp1 ⊢
    have dp5 : (depI (frM m sn mems t).gas l).1 = gg := hgg
    have hll := hl.len
    have hrm := R.room hS.2
    conv => whnf
    repeat (first | (refine CondX.tt ?_; conv => whnf) | (refine CondX.ff ?_; conv => whnf))
    have hBs := F.self
    obtain ⟨xx, exx⟩ : ∃ xx, xx = bv (m.fr t).self := ⟨_, rfl⟩
    have hX4 : 0 ≤ xx ∧ xx < W := by rw [exx]; exact addr_bd hBs.1 hBs.2
    have hLG : lvGA (frM m sn mems t) 0 l = gg := by unfold lvGA; rw [hLS, if_neg (by omega), if_pos ⟨hmade, rfl⟩]; exact dp5
    have hLO : lvOA (frM m sn mems t) 0 l = [] := by unfold lvOA; rw [hLS, if_neg (by omega), if_pos ⟨hmade, rfl⟩]
    have hLF : lvFA (frM m sn mems t) 0 l = xx := by unfold lvFA; rw [hLS, if_pos rfl, show crK (frM m sn mems t).kind = true from hmade, if_pos rfl, exx]; rfl
    have hEE := Ext.refl hi
    have hsn : ∀ i, i < t → sn[(m.fr i).snap]? = sn[(m.fr i).snap]? := fun _ _ => rfl
    have hbN := Byt_nil hi
    refine DrawX.go T_ok hM Hval.func181 (tb := dr181) rfl (by kernel_rfl) ?_; conv => whnf
    by_cases hl0 : l = []
    · have hlz : so.2.1 = 0 := by rw [← hll, hl0]; rfl
      refine CondX.dF (by omega) ?_; conv => whnf
      repeat (first | (refine CondX.tt ?_; conv => whnf) | (refine CondX.ff ?_; conv => whnf))
      refine DrawX.go T_ok hM Hval.func181 (tb := dr181) rfl (by kernel_rfl) ?_; conv => whnf
      repeat (first | (refine CondX.tt ?_; conv => whnf) | (refine CondX.ff ?_; conv => whnf))
      refine CallX.fj X.dj (arLeave_ok (k := t) M.A X.mm.mtop h7 fun hmL AL hdL => ?_); conv => whnf
      repeat (first | (refine CondX.tt ?_; conv => whnf) | (refine CondX.ff ?_; conv => whnf))
      have hhas : ∀ b, hasA v b = true → hasA v b = true := fun _ h => h
      have hLW : w = lvW w (frM m sn mems t).saved 0 (crK (frM m sn mems t).kind) (frM m sn mems t).self l := by unfold lvW; rw [if_neg (by omega), if_neg (fun hh => hh.2 hl0)]
      have RX : Rs (S + ((m.fr t).gas - lvGA (frM m sn mems t) 0 l)) v sn := R.mono (by rw [hLG]; omega)
      refine AL.sto hdL (eU_ret nilS []) rfl (by omega) fun hm1 A1 hd1 => ?_; conv => whnf
      refine LoadX.fx (A1.blk (Ext.jl _ _)) 2258 rfl (by omega) (x := .int .i8 t) (mR_top.trans (congrArg _ M.top)) ?_; conv => whnf
      rw [wrap_i8 (x := (t : Int) - 1) (by omega) (by omega)]
      by_cases ht : t = 0
      · subst ht
        rw [show ((0 : Nat) : Int) - 1 = -1 from rfl]
        refine A1.sto hd1 (eU_top _) rfl (by omega) fun hm2 A2 hd2 => ?_; conv => whnf
        refine LoadX.fx (A2.blk (Ext.jl _ _)) 2258 rfl (by omega) (x := .int .i8 (-1)) mR_top ?_; conv => whnf
        refine CondX.dT (by omega) ?_; conv => whnf
        refine A2.sto hd2 (eU_phase _) rfl (by omega) fun hm3 A3 hd3 => ?_; conv => whnf
        refine A3.sto hd3 (eU_status _) rfl (by omega) fun hm4 A4 hd4 => ?_; conv => whnf
        refine Ob.mk ⟨by omega, by omega⟩ ?_; conv => whnf
        refine A4.sto hd4 (eU_gas (t := 0) (by omega) _) rfl (by omega) fun hm5 A5 hd5 => ?_; conv => whnf
        refine RetX.same (end_last (stx := 0) (gx := gg) (sx := nilS) (lx := []) X A5 hd5 hEE hbN (by omega) (by omega) ?_ hk RX)
        rw [show frsM m 0 sn mems = [] from rfl, leave_last, hLS, hLG, hLO]
        exact congrArg (fun y => (⟨y, [], [], 2, 0, gg⟩ : AS)) hLW
      · obtain ⟨k, rfl⟩ : ∃ k, t = k + 1 := ⟨t - 1, by omega⟩
        rw [show ((k + 1 : Nat) : Int) - 1 = (k : Int) by omega]
        have Fk := M.fok k (by omega)
        have hgk := hgs k (by omega)
        have Wk := X.wait k (by omega)
        have hol := Wk.ol
        have hoo := Wk.oo
        have hgk0 := Fk.gas
        have hbl := hbN.len
        have hbr := hbN.room
        refine A1.sto hd1 (eU_top _) rfl (by omega) fun hm2 A2 hd2 => ?_; conv => whnf
        refine LoadX.fx (A2.blk (Ext.jl _ _)) 2258 rfl (by omega) (x := .int .i8 k) mR_top ?_; conv => whnf
        refine CondX.dF (by omega) ?_; conv => whnf
        refine DrawX.go T_ok hM Hval.func181 (tb := dr181) rfl (by kernel_rfl) ?_; conv => whnf
        refine LoadX.fx (A2.blk (Ext.jl _ _)) 2258 rfl (by omega) (x := .int .i8 k) mR_top ?_; conv => whnf
        refine Ob.mk ⟨by omega, by omega⟩ ?_; conv => whnf
        refine LoadX.fx (A2.blk (Ext.jl _ _)) (1803 + k * 65 + 7) rfl (by omega) (x := .int .u64 (m.fr k).gas) (mR_gas (by omega)) ?_; conv => whnf
        rw [show IntKind.u64.wrap ((m.fr k).gas + gg) = (m.fr k).gas + gg by rw [wrap_u64']; omega]
        refine A2.sto hd2 (eU_gas (t := k) (by omega) _) rfl (by omega) fun hm3 A3 hd3 => ?_; conv => whnf
        have A3 : VA _ hm3 eb (mC eb (upM m k nilS [] gg)) _ _ _ := A3
        have M3 := up_MA (gx := gg) X A3 hEE hbN ⟨by omega, by omega⟩
        have e3 : (upM m k nilS [] gg).fr k = { m.fr k with gas := (m.fr k).gas + gg } := updN_same ..
        have e3l : ((upM m k nilS [] gg).fr k).ol = (m.fr k).ol := by rw [e3]
        have e3o : ((upM m k nilS [] gg).fr k).oo = (m.fr k).oo := by rw [e3]
        have MMk := X.mm.low (m' := upM m k nilS [] gg) rfl rfl rfl
        refine BoxX.jj A3.V.dj hd3 fun n4 he4 hd4 hdd4 => ?_; conv => whnf
        refine Ob.mk ⟨rfl, rfl⟩ ?_; conv => whnf
        refine StoreX.fr (StoreX.jx (x := wc 0) (Nat.le_of_ble_eq_true rfl) rfl ?_); conv => whnf
        repeat (first | (refine CondX.tt ?_; conv => whnf) | (refine CondX.ff ?_; conv => whnf))
        refine Ob.mk ⟨by omega, by omega⟩ ?_; conv => whnf
        refine StoreX.fr (StoreX.jx (x := wc 1) (Nat.le_of_ble_eq_true rfl) rfl ?_); conv => whnf
        repeat (first | (refine CondX.tt ?_; conv => whnf) | (refine CondX.ff ?_; conv => whnf))
        have ebS : (upM m k nilS [] gg).fr (k + 1) = m.fr (k + 1) := by show updN m.fr k _ (k + 1) = _; unfold updN; rw [if_neg (by omega)]
        have hS1 := (M.fok (k + 1) (Nat.le_refl _)).self
        refine LoadX.fnA (join_l (A3.blk (Ext.j2 (he4 _) (hd4 _) (Ext.refl hm3)))) (1803 + (k + 1) * 65 + 9) rfl (by show _ + 20 ≤ _; omega) ?_
        rw [show (31, y31).snd.size = 20 from rfl, mR_self (by omega) (by rw [ebS]; exact hS1.1), ebS]; conv => whnf
        refine addrWord_ok hS1.1 hS1.2 ?_; conv => whnf
        refine Ob.mk ⟨rfl, rfl⟩ ?_; conv => whnf
        refine StoreX.fr (StoreX.jx (x := wc xx) (Nat.le_of_ble_eq_true rfl) (by rw [exx]; exact setSeg_all (by rfl)) ?_); conv => whnf
        have hE4 := he4 (wc xx, 75)
        have hD4 := hd4 (wc xx, 75)
        have hDD4 := hdd4 (wc xx, 75)
        have hbx : (hput hi n4 (wc xx, 75)) n4 = some (wc xx, 75) := hput_same ..
        generalize hput hi n4 (wc xx, 75) = h4 at *
        have hbX := A3.blk (Ext.j2 hE4 hD4 (Ext.refl hm3))
        refine LoadX.fx (join_l hbX) (1803 + k * 65 + 64) rfl (by omega) (x := .int .u32 (m.fr k).ol) ((mR_ol (by omega)).trans (congrArg _ e3l)) ?_; conv => whnf
        rw [show IntKind.u64.wrap (m.fr k).ol = (m.fr k).ol by rw [wrap_u64']; omega]
        have hLM : mems k = lvMA (frM m sn mems k) [] := by unfold lvMA; rw [if_pos (by show min (m.fr k).ol ((0 : Nat) : Int) = 0; omega)]; rfl
        have mm6 := MMk.set MMk.top fun i _ => rfl
        refine CondX.decI (fun hc => ?_) (fun hc => ?_) <;> conv => whnf
        · refine DrawX.go T_ok hM Hval.func181 (tb := dr181) rfl (by kernel_rfl) ?_; conv => whnf
          repeat (first | (refine CondX.tt ?_; conv => whnf) | (refine CondX.ff ?_; conv => whnf))
          refine LoadX.all (c := wc xx) (join_l (join_l hbx)) rfl ?_; conv => whnf
          refine settleS_w (t := k) (tk := 0) (st := 1) (x := xx) hE4 hD4 hDD4 M3 (Nat.zero_le _) (by rw [e3]; exact Wk.sp) (by rw [e3]; have := Wk.pc; show (m.fr k).pc + 1 < 2000; omega) hX4 fun hm6 hd6 hdd6 M6 => ?_; conv => whnf
          refine RetX.drop (h' := join (join _ hm6) hb) (Ext.jj hE4 hd6 hdd6) ?_
          refine end_up X M6 (Dj.back (Ext.j2 hE4 hd6 (Ext.refl hm6)) hdd6) hEE mm6 (fun i hi => hsn i (by omega)) hhas ?_ hk RX
          rw [frsM_succ, leave_up, hLS, hLO]
          unfold upA
          rw [hLG, hLF, hLO, ← hLM]
          exact congrArg (fun y => (⟨y, frsM m k sn mems ++ [_], [], 1, s0, l0⟩ : AS)) hLW
        · refine DrawX.go T_ok hM Hval.func181 (tb := dr181) rfl (by kernel_rfl) ?_; conv => whnf
          refine CondX.dF hc ?_; conv => whnf
          repeat (first | (refine CondX.tt ?_; conv => whnf) | (refine CondX.ff ?_; conv => whnf))
          refine LoadX.all (c := wc xx) (join_l (join_l hbx)) rfl ?_; conv => whnf
          refine settleS_w (t := k) (tk := 0) (st := 1) (x := xx) hE4 hD4 hDD4 M3 (Nat.zero_le _) (by rw [e3]; exact Wk.sp) (by rw [e3]; have := Wk.pc; show (m.fr k).pc + 1 < 2000; omega) hX4 fun hm6 hd6 hdd6 M6 => ?_; conv => whnf
          refine RetX.drop (h' := join (join _ hm6) hb) (Ext.jj hE4 hd6 hdd6) ?_
          refine end_up X M6 (Dj.back (Ext.j2 hE4 hd6 (Ext.refl hm6)) hdd6) hEE mm6 (fun i hi => hsn i (by omega)) hhas ?_ hk RX
          rw [frsM_succ, leave_up, hLS, hLO]
          unfold upA
          rw [hLG, hLF, hLO, ← hLM]
          exact congrArg (fun y => (⟨y, frsM m k sn mems ++ [_], [], 1, s0, l0⟩ : AS)) hLW
    · have hlz : 0 < l.length := List.length_pos_iff.2 hl0
      refine CondX.dT (by omega) ?_; conv => whnf
      repeat (first | (refine CondX.tt ?_; conv => whnf) | (refine CondX.ff ?_; conv => whnf))
      refine LoadX.fx hbE 0 rfl (by omega) mR_S ?_; conv => whnf
      repeat (first | (refine CondX.tt ?_; conv => whnf) | (refine CondX.ff ?_; conv => whnf))
      refine LoadX.fnA hbE (1803 + t * 65 + 9) rfl (by show _ + 20 ≤ _; omega) ?_
      rw [show (31, y31).snd.size = 20 from rfl, mR_self h7 hBs.1]; conv => whnf
      repeat (first | (refine CondX.tt ?_; conv => whnf) | (refine CondX.ff ?_; conv => whnf))
      refine CallX.fj X.dj (putCode_ok hl (by omega) hBs.1 hBs.2 M.A (by omega) (by omega) fun hiP hmP vP hEP AP uP hhP hdP => ?_); conv => whnf
      repeat (first | (refine CondX.tt ?_; conv => whnf) | (refine CondX.ff ?_; conv => whnf))
      refine DrawX.go T_ok hM Hval.func181 (tb := dr181) rfl (by kernel_rfl) ?_; conv => whnf
      repeat (first | (refine CondX.tt ?_; conv => whnf) | (refine CondX.ff ?_; conv => whnf))
      refine CallX.fj hdP (arLeave_ok (k := t) AP X.mm.mtop h7 fun hmL AL hdL => ?_); conv => whnf
      repeat (first | (refine CondX.tt ?_; conv => whnf) | (refine CondX.ff ?_; conv => whnf))
      have hhas := uP.has
      have hLW : codeW w (m.fr t).self l = lvW w (frM m sn mems t).saved 0 (crK (frM m sn mems t).kind) (frM m sn mems t).self l := by unfold lvW; rw [if_neg (by omega), if_pos ⟨hmade, hl0⟩]; rfl
      have hn0 : newA v (m.fr t).self = 0 := by unfold newA; rw [if_pos (X.has t (Nat.le_refl _))]
      rw [hn0] at uP
      have RX : Rs (S + ((m.fr t).gas - lvGA (frM m sn mems t) 0 l)) vP sn := R.up uP (by rw [hLG]; omega) (by rw [hLG]; omega) (by rw [hLG]; omega) (by rw [hLG]; omega)
      have hbP := Byt_nil hiP
      refine AL.sto hdL (eU_ret nilS []) rfl (by omega) fun hm1 A1 hd1 => ?_; conv => whnf
      refine LoadX.fx (A1.blk (Ext.jl _ _)) 2258 rfl (by omega) (x := .int .i8 t) (mR_top.trans (congrArg _ M.top)) ?_; conv => whnf
      rw [wrap_i8 (x := (t : Int) - 1) (by omega) (by omega)]
      by_cases ht : t = 0
      · subst ht
        rw [show ((0 : Nat) : Int) - 1 = -1 from rfl]
        refine A1.sto hd1 (eU_top _) rfl (by omega) fun hm2 A2 hd2 => ?_; conv => whnf
        refine LoadX.fx (A2.blk (Ext.jl _ _)) 2258 rfl (by omega) (x := .int .i8 (-1)) mR_top ?_; conv => whnf
        refine CondX.dT (by omega) ?_; conv => whnf
        refine A2.sto hd2 (eU_phase _) rfl (by omega) fun hm3 A3 hd3 => ?_; conv => whnf
        refine A3.sto hd3 (eU_status _) rfl (by omega) fun hm4 A4 hd4 => ?_; conv => whnf
        refine Ob.mk ⟨by omega, by omega⟩ ?_; conv => whnf
        refine A4.sto hd4 (eU_gas (t := 0) (by omega) _) rfl (by omega) fun hm5 A5 hd5 => ?_; conv => whnf
        refine RetX.same (end_last (stx := 0) (gx := gg) (sx := nilS) (lx := []) X A5 hd5 hEP hbP (by omega) (by omega) ?_ hk RX)
        rw [show frsM m 0 sn mems = [] from rfl, leave_last, hLS, hLG, hLO]
        exact congrArg (fun y => (⟨y, [], [], 2, 0, gg⟩ : AS)) hLW
      · obtain ⟨k, rfl⟩ : ∃ k, t = k + 1 := ⟨t - 1, by omega⟩
        rw [show ((k + 1 : Nat) : Int) - 1 = (k : Int) by omega]
        have Fk := M.fok k (by omega)
        have hgk := hgs k (by omega)
        have Wk := X.wait k (by omega)
        have hol := Wk.ol
        have hoo := Wk.oo
        have hgk0 := Fk.gas
        have hbl := hbP.len
        have hbr := hbP.room
        refine A1.sto hd1 (eU_top _) rfl (by omega) fun hm2 A2 hd2 => ?_; conv => whnf
        refine LoadX.fx (A2.blk (Ext.jl _ _)) 2258 rfl (by omega) (x := .int .i8 k) mR_top ?_; conv => whnf
        refine CondX.dF (by omega) ?_; conv => whnf
        refine DrawX.go T_ok hM Hval.func181 (tb := dr181) rfl (by kernel_rfl) ?_; conv => whnf
        refine LoadX.fx (A2.blk (Ext.jl _ _)) 2258 rfl (by omega) (x := .int .i8 k) mR_top ?_; conv => whnf
        refine Ob.mk ⟨by omega, by omega⟩ ?_; conv => whnf
        refine LoadX.fx (A2.blk (Ext.jl _ _)) (1803 + k * 65 + 7) rfl (by omega) (x := .int .u64 (m.fr k).gas) (mR_gas (by omega)) ?_; conv => whnf
        rw [show IntKind.u64.wrap ((m.fr k).gas + gg) = (m.fr k).gas + gg by rw [wrap_u64']; omega]
        refine A2.sto hd2 (eU_gas (t := k) (by omega) _) rfl (by omega) fun hm3 A3 hd3 => ?_; conv => whnf
        have A3 : VA _ hm3 eb (mC eb (upM m k nilS [] gg)) _ _ _ := A3
        have M3 := up_MA (gx := gg) X A3 hEP hbP ⟨by omega, by omega⟩
        have e3 : (upM m k nilS [] gg).fr k = { m.fr k with gas := (m.fr k).gas + gg } := updN_same ..
        have e3l : ((upM m k nilS [] gg).fr k).ol = (m.fr k).ol := by rw [e3]
        have e3o : ((upM m k nilS [] gg).fr k).oo = (m.fr k).oo := by rw [e3]
        have MMk := X.mm.low (m' := upM m k nilS [] gg) rfl rfl rfl
        refine BoxX.jj A3.V.dj hd3 fun n4 he4 hd4 hdd4 => ?_; conv => whnf
        refine Ob.mk ⟨rfl, rfl⟩ ?_; conv => whnf
        refine StoreX.fr (StoreX.jx (x := wc 0) (Nat.le_of_ble_eq_true rfl) rfl ?_); conv => whnf
        repeat (first | (refine CondX.tt ?_; conv => whnf) | (refine CondX.ff ?_; conv => whnf))
        refine Ob.mk ⟨by omega, by omega⟩ ?_; conv => whnf
        refine StoreX.fr (StoreX.jx (x := wc 1) (Nat.le_of_ble_eq_true rfl) rfl ?_); conv => whnf
        repeat (first | (refine CondX.tt ?_; conv => whnf) | (refine CondX.ff ?_; conv => whnf))
        have ebS : (upM m k nilS [] gg).fr (k + 1) = m.fr (k + 1) := by show updN m.fr k _ (k + 1) = _; unfold updN; rw [if_neg (by omega)]
        have hS1 := (M.fok (k + 1) (Nat.le_refl _)).self
        refine LoadX.fnA (join_l (A3.blk (Ext.j2 (he4 _) (hd4 _) (Ext.refl hm3)))) (1803 + (k + 1) * 65 + 9) rfl (by show _ + 20 ≤ _; omega) ?_
        rw [show (31, y31).snd.size = 20 from rfl, mR_self (by omega) (by rw [ebS]; exact hS1.1), ebS]; conv => whnf
        refine addrWord_ok hS1.1 hS1.2 ?_; conv => whnf
        refine Ob.mk ⟨rfl, rfl⟩ ?_; conv => whnf
        refine StoreX.fr (StoreX.jx (x := wc xx) (Nat.le_of_ble_eq_true rfl) (by rw [exx]; exact setSeg_all (by rfl)) ?_); conv => whnf
        have hE4 := he4 (wc xx, 75)
        have hD4 := hd4 (wc xx, 75)
        have hDD4 := hdd4 (wc xx, 75)
        have hbx : (hput hiP n4 (wc xx, 75)) n4 = some (wc xx, 75) := hput_same ..
        generalize hput hiP n4 (wc xx, 75) = h4 at *
        have hbX := A3.blk (Ext.j2 hE4 hD4 (Ext.refl hm3))
        refine LoadX.fx (join_l hbX) (1803 + k * 65 + 64) rfl (by omega) (x := .int .u32 (m.fr k).ol) ((mR_ol (by omega)).trans (congrArg _ e3l)) ?_; conv => whnf
        rw [show IntKind.u64.wrap (m.fr k).ol = (m.fr k).ol by rw [wrap_u64']; omega]
        have hLM : mems k = lvMA (frM m sn mems k) [] := by unfold lvMA; rw [if_pos (by show min (m.fr k).ol ((0 : Nat) : Int) = 0; omega)]; rfl
        have mm6 := MMk.set MMk.top fun i _ => rfl
        refine CondX.decI (fun hc => ?_) (fun hc => ?_) <;> conv => whnf
        · refine DrawX.go T_ok hM Hval.func181 (tb := dr181) rfl (by kernel_rfl) ?_; conv => whnf
          repeat (first | (refine CondX.tt ?_; conv => whnf) | (refine CondX.ff ?_; conv => whnf))
          refine LoadX.all (c := wc xx) (join_l (join_l hbx)) rfl ?_; conv => whnf
          refine settleS_w (t := k) (tk := 0) (st := 1) (x := xx) hE4 hD4 hDD4 M3 (Nat.zero_le _) (by rw [e3]; exact Wk.sp) (by rw [e3]; have := Wk.pc; show (m.fr k).pc + 1 < 2000; omega) hX4 fun hm6 hd6 hdd6 M6 => ?_; conv => whnf
          refine RetX.drop (h' := join (join _ hm6) hb) (Ext.jj hE4 hd6 hdd6) ?_
          refine end_up X M6 (Dj.back (Ext.j2 hE4 hd6 (Ext.refl hm6)) hdd6) hEP mm6 (fun i hi => hsn i (by omega)) hhas ?_ hk RX
          rw [frsM_succ, leave_up, hLS, hLO]
          unfold upA
          rw [hLG, hLF, hLO, ← hLM]
          exact congrArg (fun y => (⟨y, frsM m k sn mems ++ [_], [], 1, s0, l0⟩ : AS)) hLW
        · refine DrawX.go T_ok hM Hval.func181 (tb := dr181) rfl (by kernel_rfl) ?_; conv => whnf
          refine CondX.dF hc ?_; conv => whnf
          repeat (first | (refine CondX.tt ?_; conv => whnf) | (refine CondX.ff ?_; conv => whnf))
          refine LoadX.all (c := wc xx) (join_l (join_l hbx)) rfl ?_; conv => whnf
          refine settleS_w (t := k) (tk := 0) (st := 1) (x := xx) hE4 hD4 hDD4 M3 (Nat.zero_le _) (by rw [e3]; exact Wk.sp) (by rw [e3]; have := Wk.pc; show (m.fr k).pc + 1 < 2000; omega) hX4 fun hm6 hd6 hdd6 M6 => ?_; conv => whnf
          refine RetX.drop (h' := join (join _ hm6) hb) (Ext.jj hE4 hd6 hdd6) ?_
          refine end_up X M6 (Dj.back (Ext.j2 hE4 hd6 (Ext.refl hm6)) hdd6) hEP mm6 (fun i hi => hsn i (by omega)) hhas ?_ hk RX
          rw [frsM_succ, leave_up, hLS, hLO]
          unfold upA
          rw [hLG, hLF, hLO, ← hLM]
          exact congrArg (fun y => (⟨y, frsM m k sn mems ++ [_], [], 1, s0, l0⟩ : AS)) hLW
end
end Go.Proofs.YgvalwGreat.X
