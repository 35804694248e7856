import Derived.Test.YgvalwGreatV1
set_option linter.unusedVariables false
set_option linter.unusedSimpArgs false
namespace Go.Proofs.YgvalwGreat.X
open Go

section
variable {hi hi' hm hm' hb hb' h : Hp} {K : Value → Hp → Prop} {KK : Hp → Prop} {v v' : VS} {eb : Nat} {m m' : MS} {t : Nat} {mems : Nat → List Int} {stale stale' mem' orig : List Int} {w w' : AW} {sn : List AW} {s0 l0 S S' x o : Int}
theorem byt_blk {g : Hp} {s : Sl} {l : List Int} (B : BytS g s l) : ∀ a, s.1 = some a → g a.block ≠ none := fun a ha hn => by
  have h1 := B.rd
  rw [ha] at h1
  obtain ⟨b, o, x⟩ := a
  cases x with
  | some _ => simp [X.rd] at h1
  | none => simp only [X.rd] at h1; rw [show g b = none from hn] at h1; cases h1
theorem byt_put {g : Hp} {s : Sl} {l : List Int} {n : Nat} {y} (B : BytS g s l) (hq : ∀ a, s.1 = some a → a.block ≠ n) : BytS (hput g n y) s l := B.move fun a ha => by rw [hput_ne (hq a ha)]
theorem vw_fill {st : Bool} {d p g r nl : Int} {self caller : List Int} {sM sR : Sl} (hs : self.length = 20) (hc : caller.length = 20) :
    fillL (placesOf T #[fd 0 4, fd 1 4, fd 2 5, fd 3 49, fd 4 24, fd 5 24, fd 6 31, fd 26 31, fd 46 34, fd 47 23, fd 48 23, fd 49 49].toList) z51
      [(1, .bool st), (2, .int .u8 d), (3, .int .u16 p), (4, .int .u64 g), (5, .int .u64 r), (6, .agg (bcells self).toArray), (7, .agg (bcells caller).toArray), (9, sl sM), (10, sl sR), (11, .int .u16 nl)] = some (vwCells false st d p g r self caller nilS sM sR nl) := by
  have alenS : (bcells self).length = 20 := by rw [bcells_length, hs]
  have alenC : (bcells caller).length = 20 := by rw [bcells_length, hc]
  obtain ⟨H, hH⟩ : ∃ H : List Value, H = [.bool false, .bool st, .int .u8 d, .int .u16 p, .int .u64 g, .int .u64 r] := ⟨_, rfl⟩
  have hHl : H.length = 6 := by rw [hH]; rfl
  have eH : setSeg (setSeg (setSeg (setSeg (setSeg z51 1 [.bool st]) 2 [.int .u8 d]) 3 [.int .u16 p]) 4 [.int .u64 g]) 5 [.int .u64 r] = H ++ z51.drop 6 := by rw [hH]; rfl
  have e2 := two_fill (R := z51.drop 6) hHl alenS alenC
  have l1 : 26 + 20 ≤ (setSeg (H ++ z51.drop 6) 6 (bcells self)).length := by
    rw [setSeg_length (by rw [alenS, List.length_append, hHl]; exact Nat.le_of_ble_eq_true rfl), List.length_append, hHl]; exact Nat.le_of_ble_eq_true rfl
  have l2 : ∀ R : List Value, (H ++ (bcells self ++ (bcells caller ++ R))).length = 46 + R.length := fun R => by simp [hHl, alenS, alenC]; omega
  have hHT : (H ++ (bcells self ++ bcells caller)).length = 46 := by simp [hHl, alenS, alenC]
  erw [fillL_one (off := 1) rfl rfl (Nat.le_of_ble_eq_true rfl), fillL_one (off := 2) rfl rfl (Nat.le_of_ble_eq_true rfl), fillL_one (off := 3) rfl rfl (Nat.le_of_ble_eq_true rfl), fillL_one (off := 4) rfl rfl (Nat.le_of_ble_eq_true rfl), fillL_one (off := 5) rfl rfl (Nat.le_of_ble_eq_true rfl)]
  erw [eH]
  erw [fillL_agg (off := 6) (n := 20) rfl alenS (by rw [List.length_append, hHl]; exact Nat.le_of_ble_eq_true rfl), fillL_agg (off := 26) (n := 20) rfl alenC l1]
  erw [e2]
  erw [fillL_one (off := 47) rfl rfl (by rw [l2]; exact Nat.le_of_ble_eq_true rfl)]
  rw [set_tail (k := 1) (by decide) (by rw [hHT])]
  erw [fillL_one (off := 48) rfl rfl (by rw [l2]; exact Nat.le_of_ble_eq_true rfl)]
  rw [set_tail (k := 2) (by simp; decide) (by rw [hHT])]
  erw [fillL_one (off := 49) rfl rfl (by rw [l2]; exact Nat.le_of_ble_eq_true rfl)]
  rw [set_tail (k := 3) (by simp; decide) (by rw [hHT])]
  erw [fillL_done]
  rw [hH]
  rfl
theorem fok_vw {st dn : Bool} {d p g r nl : Int} {self caller : List Int} {sS sM sR : Sl} : ∀ y ∈ vwCells dn st d p g r self caller sS sM sR nl, fok y := by
  unfold vwCells
  exact fok_app (fun v hv => by simp only [List.mem_cons, List.not_mem_nil, or_false] at hv; rcases hv with rfl | rfl | rfl | rfl | rfl | rfl <;> exact fun K hK => hK) (fok_app fok_bcells (fok_app fok_bcells fun v hv => by simp only [List.mem_cons, List.not_mem_nil, or_false] at hv; rcases hv with rfl | rfl | rfl | rfl <;> exact fun K hK => hK))
theorem ones_vw {st dn : Bool} {d p g r nl : Int} {self caller : List Int} {sS sM sR : Sl} : ones (vwCells dn st d p g r self caller sS sM sR nl) = true := ones_append rfl (ones_append (ones_bcells _) (ones_append (ones_bcells _) rfl))
theorem set_vw {st dn : Bool} {d p g r nl : Int} {self caller : List Int} {sS sM sR s9 : Sl} (hs : self.length = 20) (hc : caller.length = 20) : setSeg (vwCells dn st d p g r self caller sS sM sR nl) 46 [sl s9] = vwCells dn st d p g r self caller s9 sM sR nl := by
  unfold vwCells
  rw [set_tail (k := 0) (by simp) (by simp [bcells_length, hs, hc])]
  rfl
def wds (f : Nat → Int) (i : Nat) : List Int := ((List.range i).map fun j => be 32 (f j)).flatten
theorem wds_succ (f : Nat → Int) (i : Nat) : wds f (i + 1) = wds f i ++ be 32 (f i) := by unfold wds; rw [List.range_succ, List.map_append, List.flatten_append]; simp
theorem wds_len (f : Nat → Int) (i : Nat) : (wds f i).length = 32 * i := by
  induction i with
  | zero => rfl
  | succ i ih => rw [wds_succ, List.length_append, ih, be_length]; omega
theorem zeros_33 (n : Nat) : zeros (33, y33).snd.zero n = bcells (List.replicate (32 * n) 0) := by
  rw [show (33, y33).snd.zero = bcells (List.replicate 32 0) from rfl]
  unfold zeros
  induction n with
  | zero => rfl
  | succ n ih => rw [List.replicate_succ, List.flatten_cons, ih, show 32 * (n + 1) = 32 + 32 * n by omega, ← List.replicate_append_replicate]; unfold bcells; rw [List.map_append]
theorem bc_wds (f : Nat → Int) (i : Nat) : bcells (wds f i) = (((List.range i).map f).map fun x => bcells (be 32 x)).flatten := by
  induction i with
  | zero => rfl
  | succ i ih => rw [wds_succ, List.range_succ, List.map_append, List.map_append, List.flatten_append, ← ih]; unfold bcells; rw [List.map_append]; simp
set_option maxRecDepth 100000 in
set_option maxHeartbeats 4000000 in
theorem view_run (X : EX hi hm hb eb m t w sn v mems stale) (he : Ext (join (join hi hm) hb) h) (hk : ∀ h' sS sM sR, Ext h h' → VwOK h' (viewA (absM m t w sn mems s0 l0)) sS sM sR → K (.agg ((viewA (absM m t w sn mems s0 l0)).cells sS sM sR).toArray) h') : CallX Hval.prog 46 [.pointer (some ⟨eb, 0, none⟩)] h K := by
  have M := X.M
  have h7 := M.t7
  have F := M.f
  have hsf := F.self
  have hcl := F.caller
  have hln := logs_n M.A
  have hee : Ext (join hi hm) h := (Ext.jl _ _).trans he
  refine CallX.of_xf T_ok Hval.func46 rfl (by kernel_rfl) (Nat.le_of_ble_eq_true rfl) ?_; conv => whnf
  refine BoxX.ext fun m2 hm2 em2 => ?_; conv => whnf
  refine running_ok M (hee.trans em2) ?_; conv => whnf
  repeat (first | (refine CondX.tt ?_; conv => whnf) | (refine CondX.ff ?_; conv => whnf))
  have n2 := hm2.at
  have b2 : hput h m2 ((51, y51).snd.zero, 51) m2 = some ((51, y51).snd.zero, 51) := hput_same ..
  generalize hput h m2 ((51, y51).snd.zero, 51) = g2 at *
  have hbE := M.blk (hee.trans em2)
  refine DrawX.go T_ok hM Hval.func46 (tb := dr46) rfl (by kernel_rfl) ?_; conv => whnf
  refine LoadX.fx hbE (1803 + t * 65 + 3) rfl (by omega) (mR_static h7) ?_; conv => whnf
  refine LoadX.fx hbE 2258 rfl (by omega) (x := .int .i8 t) (mR_top.trans (congrArg _ M.top)) ?_; conv => whnf
  refine LoadX.fx hbE (1803 + t * 65 + 4) rfl (by omega) (mR_pc h7) ?_; conv => whnf
  refine LoadX.fx hbE (1803 + t * 65 + 7) rfl (by omega) (mR_gas h7) ?_; conv => whnf
  refine LoadX.fx hbE 0 rfl (by omega) mR_S ?_; conv => whnf
  refine LoadX.fnA hbE (1803 + t * 65 + 9) rfl (by show _ + 20 ≤ _; omega) ?_
  rw [show (31, y31).snd.size = 20 from rfl, mR_self h7 hsf.1]; conv => whnf
  refine LoadX.fnA hbE (1803 + t * 65 + 29) rfl (by show _ + 20 ≤ _; omega) ?_
  rw [show (31, y31).snd.size = 20 from rfl, mR_caller h7 hcl.1]; conv => whnf
  refine LoadX.fx hbE 2259 rfl (by omega) mR_ret ?_; conv => whnf
  refine LoadX.fx hbE 0 rfl (by omega) mR_S ?_; conv => whnf
  refine LoadX.fx hbE 27016 rfl (by omega) (eC_l _ _) ?_; conv => whnf
  refine refund_ok M.A (hee.trans em2) ?_; conv => whnf
  repeat (refine Ob.mk (by first | exact (ldV_fn hbE (1803 + t * 65 + 3) rfl (by omega)).trans (congrArg some (mR_static h7)) | exact (ldV_fn hbE (1803 + t * 65 + 4) rfl (by omega)).trans (congrArg some (mR_pc h7)) | exact (ldV_fn hbE (1803 + t * 65 + 7) rfl (by omega)).trans (congrArg some (mR_gas h7)) | exact ldV_fn hbE 0 rfl (by omega) | exact ldV_fn hbE 27016 rfl (by omega) | exact (ldV_fn hbE 2259 rfl (by omega)).trans (congrArg some mR_ret) | exact (ldV_fn hbE 2258 rfl (by omega)).trans (congrArg some (mR_top.trans (congrArg _ M.top))) | exact (ldV_fnA hbE (1803 + t * 65 + 9) rfl (by show _ + 20 ≤ _; omega)).trans (congrArg (fun y => some (Value.agg y.toArray)) (mR_self h7 hsf.1)) | exact (ldV_fnA hbE (1803 + t * 65 + 29) rfl (by show _ + 20 ≤ _; omega)).trans (congrArg (fun y => some (Value.agg y.toArray)) (mR_caller h7 hcl.1))) ?_; conv => whnf)
  refine alen_ok hbE X.mm.top (((Ext.jr X.dj).trans he).trans em2) h7 ?_; conv => whnf
  repeat (refine Ob.mk (by first | exact (ldV_fn hbE (1803 + t * 65 + 3) rfl (by omega)).trans (congrArg some (mR_static h7)) | exact (ldV_fn hbE (1803 + t * 65 + 4) rfl (by omega)).trans (congrArg some (mR_pc h7)) | exact (ldV_fn hbE (1803 + t * 65 + 7) rfl (by omega)).trans (congrArg some (mR_gas h7)) | exact ldV_fn hbE 0 rfl (by omega) | exact ldV_fn hbE 27016 rfl (by omega) | exact (ldV_fn hbE 2259 rfl (by omega)).trans (congrArg some mR_ret) | exact (ldV_fn hbE 2258 rfl (by omega)).trans (congrArg some (mR_top.trans (congrArg _ M.top))) | exact (ldV_fnA hbE (1803 + t * 65 + 9) rfl (by show _ + 20 ≤ _; omega)).trans (congrArg (fun y => some (Value.agg y.toArray)) (mR_self h7 hsf.1)) | exact (ldV_fnA hbE (1803 + t * 65 + 29) rfl (by show _ + 20 ≤ _; omega)).trans (congrArg (fun y => some (Value.agg y.toArray)) (mR_caller h7 hcl.1))) ?_; conv => whnf)
  refine aread_own (off := 0) hbE X.mm.top (((Ext.jr X.dj).trans he).trans em2) h7 (by omega) fun sM g3 e3 hsM _ hwM => ?_; conv => whnf
  have hbE3 := e3 _ _ hbE
  repeat (refine Ob.mk (by first | exact (ldV_fn hbE3 (1803 + t * 65 + 3) rfl (by omega)).trans (congrArg some (mR_static h7)) | exact (ldV_fn hbE3 (1803 + t * 65 + 4) rfl (by omega)).trans (congrArg some (mR_pc h7)) | exact (ldV_fn hbE3 (1803 + t * 65 + 7) rfl (by omega)).trans (congrArg some (mR_gas h7)) | exact ldV_fn hbE3 0 rfl (by omega) | exact ldV_fn hbE3 27016 rfl (by omega) | exact (ldV_fn hbE3 2259 rfl (by omega)).trans (congrArg some mR_ret) | exact (ldV_fn hbE3 2258 rfl (by omega)).trans (congrArg some (mR_top.trans (congrArg _ M.top))) | exact (ldV_fnA hbE3 (1803 + t * 65 + 9) rfl (by show _ + 20 ≤ _; omega)).trans (congrArg (fun y => some (Value.agg y.toArray)) (mR_self h7 hsf.1)) | exact (ldV_fnA hbE3 (1803 + t * 65 + 29) rfl (by show _ + 20 ≤ _; omega)).trans (congrArg (fun y => some (Value.agg y.toArray)) (mR_caller h7 hcl.1))) ?_; conv => whnf)
  refine copiedM_own (M.ret.ext ((((Ext.jl _ _).trans hee).trans em2).trans e3)) fun sR g4 e4 hsR hwR => ?_; conv => whnf
  have hbE4 := e4 _ _ hbE3
  repeat (refine Ob.mk (by first | exact (ldV_fn hbE4 (1803 + t * 65 + 3) rfl (by omega)).trans (congrArg some (mR_static h7)) | exact (ldV_fn hbE4 (1803 + t * 65 + 4) rfl (by omega)).trans (congrArg some (mR_pc h7)) | exact (ldV_fn hbE4 (1803 + t * 65 + 7) rfl (by omega)).trans (congrArg some (mR_gas h7)) | exact ldV_fn hbE4 0 rfl (by omega) | exact ldV_fn hbE4 27016 rfl (by omega) | exact (ldV_fn hbE4 2259 rfl (by omega)).trans (congrArg some mR_ret) | exact (ldV_fn hbE4 2258 rfl (by omega)).trans (congrArg some (mR_top.trans (congrArg _ M.top))) | exact (ldV_fnA hbE4 (1803 + t * 65 + 9) rfl (by show _ + 20 ≤ _; omega)).trans (congrArg (fun y => some (Value.agg y.toArray)) (mR_self h7 hsf.1)) | exact (ldV_fnA hbE4 (1803 + t * 65 + 29) rfl (by show _ + 20 ≤ _; omega)).trans (congrArg (fun y => some (Value.agg y.toArray)) (mR_caller h7 hcl.1))) ?_; conv => whnf)
  rw [hln.1, mask16 (by omega), show IntKind.u16.wrap (w.nlogs : Int) = ((w.nlogs % 65536 : Nat) : Int) by rw [wrap_u16']; omega, show IntKind.u8.wrap (t : Int) = (t : Int) by rw [wrap_u8]; omega]
  erw [vw_fill hsf.1 hcl.1]
  refine forceL_of fok_vw ?_; conv => whnf
  refine ⟨fun m5 hn5 => ?_⟩
  conv => whnf
  have vlen : ∀ sS, (vwCells false (m.fr t).static t (m.fr t).pc (m.fr t).gas w.ref (m.fr t).self (m.fr t).caller sS sM sR ((w.nlogs % 65536 : Nat) : Int)).length = 50 := fun sS => by unfold vwCells; simp [bcells_length, hsf.1, hcl.1]
  refine Ob.mk ⟨by rw [List.size_toArray]; exact vlen _, ones_vw⟩ ?_; conv => whnf
  refine StoreX.whole (hput_same ..) (by rw [List.toList_toArray]; exact vlen _) ?_
  rw [hput_hput, List.toList_toArray]; conv => whnf
  have e25 : ∀ y, Ext g2 (hput g4 m5 y) := fun y => (e3.trans e4).trans (Ext.new hn5)
  have h25 : m2 ≠ m5 := fun e => by have := e4 _ _ (e3 _ _ b2); rw [e, hn5] at this; cases this
  have nh5 : h m5 = none := noneE ((em2.trans e3).trans e4) hn5
  have hq5 : ∀ s : Sl, (∀ a, s.1 = some a → g4 a.block ≠ none) → ∀ a, s.1 = some a → a.block ≠ m5 := fun s hs a ha e => hs a ha (by rw [e]; exact hn5)
  have hbE5 : ∀ y, _ := fun y => (e25 y) _ _ hbE
  have hvw : viewA (absM m t w sn mems s0 l0) = ⟨false, (m.fr t).static, t, (m.fr t).pc, (m.fr t).gas, w.ref, (m.fr t).self, (m.fr t).caller, stM m t, mems t, m.ret, (w.nlogs % 65536 : Nat)⟩ := by
    have hg := F.gas
    have hr : 0 ≤ w.ref ∧ w.ref < 18446744073709551616 := by rw [← M.A.abs]; exact M.A.V.cok.ref
    have hp := F.pc
    unfold viewA
    rw [if_neg (show ¬ (absM m t w sn mems s0 l0).phase = 2 by show ¬ (1 : Int) = 2; decide)]
    show (match (frsM m t sn mems ++ [frM m sn mems t]).reverse with | [] => _ | f :: b => _) = _
    rw [List.reverse_append]
    show (if (1 : Int) = 1 then _ else _) = _
    rw [if_pos rfl]
    show (⟨false, (m.fr t).static, ((frsM m t sn mems).reverse.length : Nat), smI ((m.fr t).pc : Nat) % 65536, smI (m.fr t).gas, smI w.ref, (m.fr t).self, (m.fr t).caller, stM m t, mems t, m.ret, (w.nlogs % 65536 : Nat)⟩ : VW) = _
    rw [List.length_reverse, frsM_len, show smI (m.fr t).gas = (m.fr t).gas from if_pos hg.2, show smI w.ref = w.ref from if_pos hr.2, show smI (((m.fr t).pc : Nat) : Int) = (((m.fr t).pc : Nat) : Int) from if_pos (by omega), show (((m.fr t).pc : Nat) : Int) % 65536 = (((m.fr t).pc : Nat) : Int) by omega]
  rw [hvw] at hk
  refine DrawX.go T_ok hM Hval.func46 (tb := dr46) rfl (by kernel_rfl) ?_; conv => whnf
  refine LoadX.fx (hbE5 _) (1803 + t * 65 + 6) rfl (by omega) (mR_sp h7) ?_; conv => whnf
  have hst : (stM m t).length = (m.fr t).sp := stM_len ..
  have hsb := F.sb
  have hsp64 := F.sp
  obtain ⟨VC, hVC⟩ : ∃ VC : Sl → List Value, VC = fun sS => vwCells false (m.fr t).static t (m.fr t).pc (m.fr t).gas w.ref (m.fr t).self (m.fr t).caller sS sM sR ((w.nlogs % 65536 : Nat) : Int) := ⟨_, rfl⟩
  have hVCe : ∀ sS, vwCells false (m.fr t).static t (m.fr t).pc (m.fr t).gas w.ref (m.fr t).self (m.fr t).caller sS sM sR ((w.nlogs % 65536 : Nat) : Int) = VC sS := fun sS => by rw [hVC]
  have hVl : ∀ sS, (VC sS).length = 50 := fun sS => by rw [hVC]; exact vlen sS
  have hV1 : ∀ sS, ones (VC sS) = true := fun sS => by rw [hVC]; exact ones_vw
  have hVs : ∀ sS s9, setSeg (VC sS) 46 [sl s9] = VC s9 := fun sS s9 => by rw [hVC]; exact set_vw hsf.1 hcl.1
  have hV46 : ∀ sS, (VC sS)[46]? = some (sl sS) := fun sS => by
    rw [hVC]
    exact vw_get (v := ⟨false, (m.fr t).static, t, (m.fr t).pc, (m.fr t).gas, w.ref, (m.fr t).self, (m.fr t).caller, [], [], [], (w.nlogs % 65536 : Nat)⟩) (sS := sS) (sM := sM) (sR := sR) hsf.1 hcl.1 0
  rw [hVCe]
  have qM : ∀ a, sM.1 = some a → a.block ≠ m2 := fun a ha e => by have := hwM a ha; rw [e, b2] at this; cases this
  have qR : ∀ a, sR.1 = some a → a.block ≠ m2 := fun a ha e => by have := hwR a ha; rw [e, e3 _ _ b2] at this; cases this
  refine CondX.eqI (fun hz => ?_) (fun hz => ?_) <;> conv => whnf
  · repeat (first | (refine CondX.tt ?_; conv => whnf) | (refine CondX.ff ?_; conv => whnf))
    refine LoadX.all (c := VC nilS) (hput_same ..) (hVl _) ?_; conv => whnf
    refine Ob.mk ⟨by rw [List.size_toArray]; exact hVl _, hV1 _⟩ ?_; conv => whnf
    refine StoreX.whole (c := (51, y51).snd.zero) (t := 51) ((e25 _) _ _ b2) (by rw [List.toList_toArray]; exact hVl _) ?_
    rw [List.toList_toArray]; conv => whnf
    refine LoadX.all (c := VC nilS) (hput_same ..) (hVl _) ?_; conv => whnf
    have hs0 : stM m t = [] := List.eq_nil_of_length_eq_zero (by omega)
    rw [hs0] at hk
    rw [hVC]
    refine RetX.same (hk _ nilS sM sR (Ext.keep (em2.trans (e25 _)) n2) ⟨Arr_nil _ 32, ?_, ?_⟩)
    · rw [List.drop_zero, List.take_of_length_le (Nat.le_refl _)] at hsM
      exact byt_put (byt_put (hsM.ext e4) (hq5 sM (byt_blk (hsM.ext e4)))) qM
    · exact byt_put (byt_put hsR (hq5 sR (byt_blk hsR))) qR
  · repeat (first | (refine CondX.tt ?_; conv => whnf) | (refine CondX.ff ?_; conv => whnf))
    refine LoadX.fx (hbE5 _) (1803 + t * 65 + 5) rfl (by omega) (mR_sb h7) ?_; conv => whnf
    repeat (first | (refine CondX.tt ?_; conv => whnf) | (refine CondX.ff ?_; conv => whnf))
    refine LoadX.fx (hbE5 _) (1803 + t * 65 + 6) rfl (by omega) (mR_sp h7) ?_; conv => whnf
    repeat (first | (refine CondX.tt ?_; conv => whnf) | (refine CondX.ff ?_; conv => whnf))
    rw [show IntKind.i64.wrap (((m.fr t).sb : Nat) : Int) = (((m.fr t).sb : Nat) : Int) from wrap_i64 (by omega) (by omega), show IntKind.i64.wrap (((m.fr t).sp : Nat) : Int) = (((m.fr t).sp : Nat) : Int) from wrap_i64 (by omega) (by omega), show IntKind.i64.wrap ((((m.fr t).sb : Nat) : Int) + (((m.fr t).sp : Nat) : Int)) = (((m.fr t).sb : Nat) : Int) + (((m.fr t).sp : Nat) : Int) from wrap_i64 (by omega) (by omega)]
    refine CondX.dF (by omega) ?_; conv => whnf
    refine LoadX.fx (hbE5 _) (1803 + t * 65 + 6) rfl (by omega) (mR_sp h7) ?_; conv => whnf
    refine ⟨by decide, by omega, Int.le_refl _, ?_, fun m6 hm6 => ?_⟩
    · rw [show (33, y33).snd.bytes = 32 from rfl]; omega
    conv => whnf
    obtain ⟨n, hn⟩ : ∃ n, n = (m.fr t).sp := ⟨_, rfl⟩
    rw [← hn, Int.toNat_natCast]
    rw [List.toList_toArray] at hm6
    rw [zeros_33, List.toList_toArray]
    have h56 : m5 ≠ m6 := fun e => by have := hm6.none (Nat.le_refl _); rw [← e, hput_same] at this; cases this
    have n6 : hput g4 m5 (VC nilS, 51) m6 = none := hm6.none (Nat.le_refl _)
    refine StoreX.at (c := VC nilS) (t := 51) (by rw [hput_ne h56]; exact hput_same ..) (by rw [hVl]; exact Nat.le_of_ble_eq_true rfl) ?_; conv => whnf
    obtain ⟨sS, hsS⟩ : ∃ sS : Sl, sS = (some ⟨m6, 0, none⟩, n, n) := ⟨_, rfl⟩
    have e46 : setSeg (VC nilS) (0 + (fd 46 34).offset) [Value.slice (some ⟨m6, 0, none⟩) n n] = VC sS := by rw [hsS]; exact hVs nilS (some ⟨m6, 0, none⟩, n, n)
    rw [e46]
    refine LoadX.blk (hput_same ..) (sl sS) (hV46 sS) ?_; conv => whnf
    have hord : hput (hput (hput g4 m5 (VC nilS, 51)) m6 (bcells (List.replicate (32 * n) 0), 33)) m5 (VC sS, 51) = hput (hput g4 m5 (VC sS, 51)) m6 (bcells (wds (fun j => m.stk (64 * t + j)) 0 ++ List.replicate (32 * (n - 0)) 0), 33) := by
      rw [hput_comm h56.symm, hput_hput, hput_comm h56]; rfl
    rw [hord]
    have n6' : hput g4 m5 (VC sS, 51) m6 = none := by rw [hput_ne h56.symm] at n6 ⊢; exact n6
    have eLp : ∀ y, Ext g2 (hput (hput g4 m5 (VC sS, 51)) m6 y) := fun y => (e25 _).trans (Ext.new n6')
    rw [hsS]
    refine LoopX.st T_ok Hval.func46 (σ := Nat) (fun i => [(0, .pointer (some ⟨eb, 0, none⟩)), (2, .pointer (some ⟨m2, 0, none⟩)), (3, .pointer (some ⟨eb, 1803 + t * 65, none⟩)), (5, .pointer (some ⟨m5, 0, none⟩)), (137, .int .i64 n), (138, .int .i64 i)])
      (fun i h' => i ≤ n ∧ h' = hput (hput g4 m5 (VC sS, 51)) m6 (bcells (wds (fun j => m.stk (64 * t + j)) i ++ List.replicate (32 * (n - i)) 0), 33)) (fun i => n - i) 0
      ⟨rfl, rfl, rfl, rfl, rfl, rfl, trivial⟩ ⟨Nat.zero_le _, by rw [hsS]⟩ ?_
    rintro i ρ h' ⟨hi, rfl⟩ ih
    conv => whnf
    refine CondX.decI (fun hp => ?_) (fun hp => ?_) <;> conv => whnf
    · refine DrawX.go T_ok hM Hval.func46 (tb := dr46) rfl (by kernel_rfl) ?_; conv => whnf
      refine LoadX.blk (by rw [hput_ne h56]; exact hput_same ..) (sl sS) (hV46 sS) ?_; conv => whnf
      refine LoadX.fx ((eLp _) _ _ hbE) (1803 + t * 65 + 5) rfl (by omega) (mR_sb h7) ?_; conv => whnf
      rw [show IntKind.i64.wrap (((m.fr t).sb : Nat) : Int) = (((m.fr t).sb : Nat) : Int) from wrap_i64 (by omega) (by omega), show IntKind.i64.wrap ((((m.fr t).sb : Nat) : Int) + (i : Int)) = ((64 * t + i : Nat) : Int) by rw [wrap_i64 (by omega) (by omega)]; omega]
      refine Ob.mk ⟨by omega, by omega⟩ ?_; conv => whnf
      rw [Int.toNat_natCast]
      refine LoadX.fnA ((eLp _) _ _ hbE) (11 + (64 * t + i) * 4) rfl (by show _ + 4 ≤ _; omega) ?_
      rw [show (75, y75).snd.size = 4 from rfl, mR_word (by omega)]; conv => whnf
      refine eBE32_ok (M.stw _).1 (M.stw _).2 ?_; conv => whnf
      repeat (refine Ob.mk (by first | exact ldV_blk (by rw [hput_ne h56]; exact hput_same ..) (hV46 sS) | exact (ldV_fn ((eLp _) _ _ hbE) (1803 + t * 65 + 5) rfl (by omega)).trans (congrArg some (mR_sb h7)) | exact (ldV_fnA ((eLp _) _ _ hbE) (11 + (64 * t + i) * 4) rfl (by show _ + 4 ≤ _; omega)).trans (congrArg (fun y => some (Value.agg y.toArray)) (mR_word (by omega)))) ?_; conv => whnf)
      refine IdxX.of (b := m6) (off := 0) (by rw [hsS]) (by omega) (by rw [hsS]; show (i : Int) < (n : Nat); omega) ?_; conv => whnf
      have hbl : (be 32 (m.stk (64 * t + i))).length = 32 := be_length ..
      refine Ob.mk ⟨by rw [List.size_toArray, bcells_length, hbl]; rfl, ones_bcells _⟩ ?_; conv => whnf
      refine StoreX.at (c := bcells (wds (fun j => m.stk (64 * t + j)) i ++ List.replicate (32 * (n - i)) 0)) (t := 33) (hput_same ..) (by rw [List.toList_toArray, bcells_length, bcells_length, hbl, List.length_append, wds_len, List.length_replicate, Int.toNat_natCast, show (33, y33).snd.size = 32 from rfl]; omega) ?_
      rw [hput_hput, List.toList_toArray, setSeg_ovl, Int.toNat_natCast, show (33, y33).snd.size = 32 from rfl, Nat.zero_add]; conv => whnf
      refine ih (i + 1) _ _ ⟨by omega, ?_⟩ (by omega) ⟨rfl, rfl, rfl, rfl, rfl, ?_, trivial⟩
      · congr 3
        have e1 := ovl_head (p := wds (fun j => m.stk (64 * t + j)) i) (a := be 32 (m.stk (64 * t + i))) (z := List.replicate (32 * (n - (i + 1))) 0) (n := i * 32) (by rw [wds_len]; omega)
        rw [hbl, List.replicate_append_replicate, show 32 + 32 * (n - (i + 1)) = 32 * (n - i) by omega] at e1
        rw [Nat.zero_add, e1, wds_succ, List.append_assoc]
      · exact congrArg (Value.int .i64) (wsucc (by omega))
    · have hp : i = n := by omega
      subst hp
      refine LoadX.all (c := VC sS) (by rw [hput_ne h56]; exact hput_same ..) (hVl _) ?_; conv => whnf
      refine Ob.mk ⟨by rw [List.size_toArray]; exact hVl _, hV1 _⟩ ?_; conv => whnf
      refine StoreX.whole (c := (51, y51).snd.zero) (t := 51) ((eLp _) _ _ b2) (by rw [List.toList_toArray]; exact hVl _) ?_
      rw [List.toList_toArray]; conv => whnf
      refine LoadX.all (c := VC sS) (hput_same ..) (hVl _) ?_; conv => whnf
      have h26 : m2 ≠ m6 := fun e => by have := (e25 (VC sS, 51)) _ _ b2; rw [e, n6'] at this; cases this
      have hA : ∀ y, Arr (hput (hput (hput g4 m5 (VC sS, 51)) m6 (bcells (wds (fun j => m.stk (64 * t + j)) i ++ List.replicate (32 * (i - i)) 0), 33)) m2 y) sS 32 ((stM m t).map fun x => bcells (be 32 x)) := fun y => by
        have hc : bcells (wds (fun j => m.stk (64 * t + j)) i ++ List.replicate (32 * (i - i)) 0) = ((stM m t).map fun x => bcells (be 32 x)).flatten := by
          rw [Nat.sub_self, Nat.mul_zero, List.replicate_zero, List.append_nil, bc_wds]
          unfold stM
          rw [← hn]
        have hl : (((stM m t).map fun x => bcells (be 32 x)).flatten).length = i * 32 := by
          rw [← hc, bcells_length, List.length_append, wds_len, Nat.sub_self, Nat.mul_zero, List.replicate_zero]; simp; omega
        rw [hc, hsS]
        refine ⟨?_, by rw [List.length_map, hst, ← hn], fun e he => ?_, fun e he => ?_, Nat.le_refl _, fun h => by cases h⟩
        · show rd _ (some ⟨m6, 0, none⟩) (i * 32) = _
          exact rd_own_at (by rw [hput_ne h26.symm]; exact hput_same ..) hl
        · obtain ⟨x, -, rfl⟩ := List.mem_map.1 he
          rw [bcells_length, be_length]
        · obtain ⟨x, -, rfl⟩ := List.mem_map.1 he
          exact ones_bcells _
      have qM6 : ∀ a, sM.1 = some a → a.block ≠ m6 := fun a ha e => by
        have h1 := byt_blk (hsM.ext e4) a ha
        have h2 := n6'
        rw [hput_ne h56.symm, ← e] at h2
        exact h1 h2
      have qR6 : ∀ a, sR.1 = some a → a.block ≠ m6 := fun a ha e => by
        have h1 := byt_blk hsR a ha
        have h2 := n6'
        rw [hput_ne h56.symm, ← e] at h2
        exact h1 h2
      rw [hVC]
      rw [hVC] at hA
      refine RetX.same (hk _ sS sM sR (Ext.keep (em2.trans (by have := eLp (bcells (wds (fun j => m.stk (64 * t + j)) i ++ List.replicate (32 * (i - i)) 0), 33); rwa [hVC] at this)) n2) ⟨?_, ?_, ?_⟩)
      · exact hA _
      · rw [List.drop_zero, List.take_of_length_le (Nat.le_refl _)] at hsM
        exact byt_put (byt_put (byt_put (hsM.ext e4) (hq5 sM (byt_blk (hsM.ext e4)))) qM6) qM
      · exact byt_put (byt_put (byt_put hsR (hq5 sR (byt_blk hsR))) qR6) qR
end
end Go.Proofs.YgvalwGreat.X
