import Derived.Test.YgvalwGreatM38
set_option linter.unusedVariables false
set_option linter.unusedSimpArgs false
namespace Go.Proofs.YgvalwGreat.X
open Go


section
variable {hi hi' hm hm' hb hb' h : Hp} {K : Value → Hp → Prop} {v v' : VS} {eb : Nat} {m m' : MS} {t : Nat} {mems : Nat → List Int} {stale stale' mem' orig a : List Int} {w w' : AW} {sn : List AW} {s0 l0 S S' x o : Int} {A : Nat → Nat}
/-- The transaction's surroundings. -/
structure EnvM (m : MS) (orig : List Int) : Prop where
  origin : m.origin = orig
  ol : orig.length = 20
  oB : isB orig
  price : m.price = 0
  env : ∀ k, k < 120 → stEnv[k]? = some (m.env k)
theorem mR_origin (hl : m.origin.length = 20) : (fnv 20 fun i => eC (mC eb m) v (2380 + i)) = bcells m.origin := by
  refine (list_fnv (by rw [bcells_length, hl]) fun i hi => ?_).symm
  rw [eM (by omega)]
  unfold mC bcells
  rw [if_neg (by omega), if_neg (by omega), if_neg (by omega), if_neg (by omega), if_neg (by omega), if_neg (by omega), if_neg (by omega), if_neg (by omega), if_neg (by omega), if_pos (by omega), show 2380 + i - 2380 = i by omega, List.getElem?_map, List.getD_eq_getElem?_getD, List.getElem?_eq_getElem (by omega)]; rfl
theorem mR_price : (fnv 4 fun i => eC (mC eb m) v (2400 + i)) = wc m.price := by
  have e : ∀ i, i < 4 → eC (mC eb m) v (2400 + i) = wcD m.price i := fun i hi => by
    rw [eM (by omega)]
    unfold mC
    rw [if_neg (by omega), if_neg (by omega), if_neg (by omega), if_neg (by omega), if_neg (by omega), if_neg (by omega), if_neg (by omega), if_neg (by omega), if_neg (by omega), if_neg (by omega), if_pos (by omega), show 2400 + i - 2400 = i by omega]
  rw [fnv_ext e]; rfl
theorem mR_env {k : Nat} (hk : k < 120) : eC (mC eb m) v (2260 + k) = m.env k := by
  rw [eM (by omega)]
  unfold mC
  rw [if_neg (by omega), if_neg (by omega), if_neg (by omega), if_neg (by omega), if_neg (by omega), if_neg (by omega), if_neg (by omega), if_neg (by omega), if_pos (by omega), show 2260 + k - 2260 = k by omega]

theorem srcI_lt (a : Nat) : srcI a < 18446744073709551616 := by unfold srcI; split <;> omega
theorem srcI_cut {l : List Int} {n a k : Nat} (h1 : n < 2 ^ 40) (h2 : l.length = n) : cutN l (srcI a) k = cutN l a k := by
  unfold srcI
  split
  · rfl
  · rw [cutN_past (by omega), cutN_past (by omega)]
set_option maxRecDepth 100000 in
set_option maxHeartbeats 4000000 in
theorem x_48 (P : OpS hi hm hb eb m t w sn v mems stale 48 A S S') (hk : PlK hi eb m t w sn mems orig 48 S' s0 l0 K) : CallX Hval.prog 189 [.pointer (some ⟨eb, 0, none⟩)] (join (join hi hm) hb) K := by
  have X := P.X
  have M := X.M
  have h7 := M.t7
  have F := M.f
  have q : ∀ i, (A i : Int) < W := fun i => P.hA i ▸ (argM_W M i).2
  have hs64 := F.sp
  have hpc := P.pc
  have hro := P.room
  refine CallX.of_xf T_ok Hval.func189 rfl (by kernel_rfl) (Nat.le_of_ble_eq_true rfl) ?_; conv => whnf
  refine running_ok M (Ext.jl _ _) ?_; conv => whnf
  repeat (first | (refine CondX.tt ?_; conv => whnf) | (refine CondX.ff ?_; conv => whnf))
  refine BoxX.jj M.A.V.dj X.dj fun n4 he4 hd4 hdd4 => ?_; conv => whnf
  refine Ob.mk ⟨rfl, rfl⟩ ?_; conv => whnf
  refine StoreX.fr (StoreX.jx (x := wc 0) (Nat.le_of_ble_eq_true rfl) rfl ?_); conv => whnf
  have hMe : ∀ y, Ext (join hi hm) (join (join (hput hi n4 y) hm) hb) := fun y => (Ext.j2 (he4 y) (hd4 y) (Ext.refl hm)).trans (Ext.jl _ _)
  have hbE : ∀ y, (join (join (hput hi n4 y) hm) hb) eb = some (fnv 27024 (eC (mC eb m) v), 101) := fun y => M.blk (hMe y)
  refine opcodeM_ok M (hMe _) ?_
  rw [P.ho]; conv => whnf
  repeat (first | (refine CondX.tt ?_; conv => whnf) | (refine CondX.ff ?_; conv => whnf))
  refine LoadX.fnA (hbE _) (1803 + t * 65 + 9) rfl (by show _ + 20 ≤ _; omega) ?_
  rw [show (31, y31).snd.size = 20 from rfl, mR_self h7 F.self.1]; conv => whnf
  refine addrWord_ok F.self.1 F.self.2 ?_; conv => whnf
  obtain ⟨xx, exx⟩ : ∃ xx, bv (m.fr t).self = xx := ⟨_, rfl⟩
  rw [exx]
  have hX : 0 ≤ xx ∧ xx < W := by rw [← exx]; exact addr_bd F.self.1 F.self.2
  refine Ob.mk ⟨rfl, rfl⟩ ?_; conv => whnf
  refine StoreX.fr (StoreX.jx (x := wc xx) (Nat.le_of_ble_eq_true rfl) (setSeg_all (by rfl)) ?_); conv => whnf
  refine LoadX.all (c := wc xx) (join_l (join_l (hput_same ..))) rfl ?_; conv => whnf
  refine settleS_w (tk := 0) (st := 1) (he4 _) (hd4 _) (hdd4 _) M (by have h2 : ((0 : Nat) : Int) ≤ (m.fr t).sp := P.sp; omega) (by have h2 : ((m.fr t).sp : Int) - ((0 : Nat) : Int) + 1 ≤ 64 := P.room; omega) (by omega) hX fun hm2 g1 g2 M2 => ?_; conv => whnf
  refine RetX.drop (h' := join (join hi hm2) hb) (Ext.jj (he4 _) g1 g2) (fin_val X (T := 0) rfl rfl (by omega) rfl M2 (Dj.back (Ext.j2 (he4 _) g1 (Ext.refl hm2)) g2) (Ext.refl hi) (fun _ h => h) rfl ?_ P.R' hk)
  exact exx
set_option maxRecDepth 100000 in
set_option maxHeartbeats 4000000 in
theorem x_50 (E : EnvM m orig) (P : OpS hi hm hb eb m t w sn v mems stale 50 A S S') (hk : PlK hi eb m t w sn mems orig 50 S' s0 l0 K) : CallX Hval.prog 189 [.pointer (some ⟨eb, 0, none⟩)] (join (join hi hm) hb) K := by
  have X := P.X
  have M := X.M
  have h7 := M.t7
  have F := M.f
  have q : ∀ i, (A i : Int) < W := fun i => P.hA i ▸ (argM_W M i).2
  have hs64 := F.sp
  have hpc := P.pc
  have hro := P.room
  refine CallX.of_xf T_ok Hval.func189 rfl (by kernel_rfl) (Nat.le_of_ble_eq_true rfl) ?_; conv => whnf
  refine running_ok M (Ext.jl _ _) ?_; conv => whnf
  repeat (first | (refine CondX.tt ?_; conv => whnf) | (refine CondX.ff ?_; conv => whnf))
  refine BoxX.jj M.A.V.dj X.dj fun n4 he4 hd4 hdd4 => ?_; conv => whnf
  refine Ob.mk ⟨rfl, rfl⟩ ?_; conv => whnf
  refine StoreX.fr (StoreX.jx (x := wc 0) (Nat.le_of_ble_eq_true rfl) rfl ?_); conv => whnf
  have hMe : ∀ y, Ext (join hi hm) (join (join (hput hi n4 y) hm) hb) := fun y => (Ext.j2 (he4 y) (hd4 y) (Ext.refl hm)).trans (Ext.jl _ _)
  have hbE : ∀ y, (join (join (hput hi n4 y) hm) hb) eb = some (fnv 27024 (eC (mC eb m) v), 101) := fun y => M.blk (hMe y)
  refine opcodeM_ok M (hMe _) ?_
  rw [P.ho]; conv => whnf
  repeat (first | (refine CondX.tt ?_; conv => whnf) | (refine CondX.ff ?_; conv => whnf))
  refine LoadX.fnA (hbE _) (2380) rfl (by show _ + 20 ≤ _; omega) ?_
  rw [show (31, y31).snd.size = 20 from rfl, mR_origin (by rw [E.origin]; exact E.ol), E.origin]; conv => whnf
  refine addrWord_ok E.ol E.oB ?_; conv => whnf
  obtain ⟨xx, exx⟩ : ∃ xx, bv orig = xx := ⟨_, rfl⟩
  rw [exx]
  have hX : 0 ≤ xx ∧ xx < W := by rw [← exx]; exact addr_bd E.ol E.oB
  refine Ob.mk ⟨rfl, rfl⟩ ?_; conv => whnf
  refine StoreX.fr (StoreX.jx (x := wc xx) (Nat.le_of_ble_eq_true rfl) (setSeg_all (by rfl)) ?_); conv => whnf
  refine LoadX.all (c := wc xx) (join_l (join_l (hput_same ..))) rfl ?_; conv => whnf
  refine settleS_w (tk := 0) (st := 1) (he4 _) (hd4 _) (hdd4 _) M (by have h2 : ((0 : Nat) : Int) ≤ (m.fr t).sp := P.sp; omega) (by have h2 : ((m.fr t).sp : Int) - ((0 : Nat) : Int) + 1 ≤ 64 := P.room; omega) (by omega) hX fun hm2 g1 g2 M2 => ?_; conv => whnf
  refine RetX.drop (h' := join (join hi hm2) hb) (Ext.jj (he4 _) g1 g2) (fin_val X (T := 0) rfl rfl (by omega) rfl M2 (Dj.back (Ext.j2 (he4 _) g1 (Ext.refl hm2)) g2) (Ext.refl hi) (fun _ h => h) rfl ?_ P.R' hk)
  exact exx
set_option maxRecDepth 100000 in
set_option maxHeartbeats 4000000 in
theorem x_51 (P : OpS hi hm hb eb m t w sn v mems stale 51 A S S') (hk : PlK hi eb m t w sn mems orig 51 S' s0 l0 K) : CallX Hval.prog 189 [.pointer (some ⟨eb, 0, none⟩)] (join (join hi hm) hb) K := by
  have X := P.X
  have M := X.M
  have h7 := M.t7
  have F := M.f
  have q : ∀ i, (A i : Int) < W := fun i => P.hA i ▸ (argM_W M i).2
  have hs64 := F.sp
  have hpc := P.pc
  have hro := P.room
  refine CallX.of_xf T_ok Hval.func189 rfl (by kernel_rfl) (Nat.le_of_ble_eq_true rfl) ?_; conv => whnf
  refine running_ok M (Ext.jl _ _) ?_; conv => whnf
  repeat (first | (refine CondX.tt ?_; conv => whnf) | (refine CondX.ff ?_; conv => whnf))
  refine BoxX.jj M.A.V.dj X.dj fun n4 he4 hd4 hdd4 => ?_; conv => whnf
  refine Ob.mk ⟨rfl, rfl⟩ ?_; conv => whnf
  refine StoreX.fr (StoreX.jx (x := wc 0) (Nat.le_of_ble_eq_true rfl) rfl ?_); conv => whnf
  have hMe : ∀ y, Ext (join hi hm) (join (join (hput hi n4 y) hm) hb) := fun y => (Ext.j2 (he4 y) (hd4 y) (Ext.refl hm)).trans (Ext.jl _ _)
  have hbE : ∀ y, (join (join (hput hi n4 y) hm) hb) eb = some (fnv 27024 (eC (mC eb m) v), 101) := fun y => M.blk (hMe y)
  refine opcodeM_ok M (hMe _) ?_
  rw [P.ho]; conv => whnf
  repeat (first | (refine CondX.tt ?_; conv => whnf) | (refine CondX.ff ?_; conv => whnf))
  refine LoadX.fnA (hbE _) (1803 + t * 65 + 29) rfl (by show _ + 20 ≤ _; omega) ?_
  rw [show (31, y31).snd.size = 20 from rfl, mR_caller h7 F.caller.1]; conv => whnf
  refine addrWord_ok F.caller.1 F.caller.2 ?_; conv => whnf
  obtain ⟨xx, exx⟩ : ∃ xx, bv (m.fr t).caller = xx := ⟨_, rfl⟩
  rw [exx]
  have hX : 0 ≤ xx ∧ xx < W := by rw [← exx]; exact addr_bd F.caller.1 F.caller.2
  refine Ob.mk ⟨rfl, rfl⟩ ?_; conv => whnf
  refine StoreX.fr (StoreX.jx (x := wc xx) (Nat.le_of_ble_eq_true rfl) (setSeg_all (by rfl)) ?_); conv => whnf
  refine LoadX.all (c := wc xx) (join_l (join_l (hput_same ..))) rfl ?_; conv => whnf
  refine settleS_w (tk := 0) (st := 1) (he4 _) (hd4 _) (hdd4 _) M (by have h2 : ((0 : Nat) : Int) ≤ (m.fr t).sp := P.sp; omega) (by have h2 : ((m.fr t).sp : Int) - ((0 : Nat) : Int) + 1 ≤ 64 := P.room; omega) (by omega) hX fun hm2 g1 g2 M2 => ?_; conv => whnf
  refine RetX.drop (h' := join (join hi hm2) hb) (Ext.jj (he4 _) g1 g2) (fin_val X (T := 0) rfl rfl (by omega) rfl M2 (Dj.back (Ext.j2 (he4 _) g1 (Ext.refl hm2)) g2) (Ext.refl hi) (fun _ h => h) rfl ?_ P.R' hk)
  exact exx
set_option maxRecDepth 100000 in
set_option maxHeartbeats 4000000 in
theorem x_52 (P : OpS hi hm hb eb m t w sn v mems stale 52 A S S') (hk : PlK hi eb m t w sn mems orig 52 S' s0 l0 K) : CallX Hval.prog 189 [.pointer (some ⟨eb, 0, none⟩)] (join (join hi hm) hb) K := by
  have X := P.X
  have M := X.M
  have h7 := M.t7
  have F := M.f
  have q : ∀ i, (A i : Int) < W := fun i => P.hA i ▸ (argM_W M i).2
  have hs64 := F.sp
  have hpc := P.pc
  have hro := P.room
  refine CallX.of_xf T_ok Hval.func189 rfl (by kernel_rfl) (Nat.le_of_ble_eq_true rfl) ?_; conv => whnf
  refine running_ok M (Ext.jl _ _) ?_; conv => whnf
  repeat (first | (refine CondX.tt ?_; conv => whnf) | (refine CondX.ff ?_; conv => whnf))
  refine BoxX.jj M.A.V.dj X.dj fun n4 he4 hd4 hdd4 => ?_; conv => whnf
  refine Ob.mk ⟨rfl, rfl⟩ ?_; conv => whnf
  refine StoreX.fr (StoreX.jx (x := wc 0) (Nat.le_of_ble_eq_true rfl) rfl ?_); conv => whnf
  have hMe : ∀ y, Ext (join hi hm) (join (join (hput hi n4 y) hm) hb) := fun y => (Ext.j2 (he4 y) (hd4 y) (Ext.refl hm)).trans (Ext.jl _ _)
  have hbE : ∀ y, (join (join (hput hi n4 y) hm) hb) eb = some (fnv 27024 (eC (mC eb m) v), 101) := fun y => M.blk (hMe y)
  refine opcodeM_ok M (hMe _) ?_
  rw [P.ho]; conv => whnf
  repeat (first | (refine CondX.tt ?_; conv => whnf) | (refine CondX.ff ?_; conv => whnf))
  refine LoadX.fnA (hbE _) (1803 + t * 65 + 49) rfl (by show _ + 4 ≤ _; omega) ?_
  rw [show (75, y75).snd.size = 4 from rfl, mR_val h7]; conv => whnf
  have hX := F.val
  refine Ob.mk ⟨rfl, rfl⟩ ?_; conv => whnf
  refine StoreX.fr (StoreX.jx (x := wc (m.fr t).val) (Nat.le_of_ble_eq_true rfl) (setSeg_all (by rfl)) ?_); conv => whnf
  refine LoadX.all (c := wc (m.fr t).val) (join_l (join_l (hput_same ..))) rfl ?_; conv => whnf
  refine settleS_w (tk := 0) (st := 1) (he4 _) (hd4 _) (hdd4 _) M (by have h2 : ((0 : Nat) : Int) ≤ (m.fr t).sp := P.sp; omega) (by have h2 : ((m.fr t).sp : Int) - ((0 : Nat) : Int) + 1 ≤ 64 := P.room; omega) (by omega) hX fun hm2 g1 g2 M2 => ?_; conv => whnf
  refine RetX.drop (h' := join (join hi hm2) hb) (Ext.jj (he4 _) g1 g2) (fin_val X (T := 0) rfl rfl (by omega) rfl M2 (Dj.back (Ext.j2 (he4 _) g1 (Ext.refl hm2)) g2) (Ext.refl hi) (fun _ h => h) rfl ?_ P.R' hk)
  rfl
set_option maxRecDepth 100000 in
set_option maxHeartbeats 4000000 in
theorem x_53 (P : OpS hi hm hb eb m t w sn v mems stale 53 A S S') (hk : PlK hi eb m t w sn mems orig 53 S' s0 l0 K) : CallX Hval.prog 189 [.pointer (some ⟨eb, 0, none⟩)] (join (join hi hm) hb) K := by
  have X := P.X
  have M := X.M
  have h7 := M.t7
  have F := M.f
  have q : ∀ i, (A i : Int) < W := fun i => P.hA i ▸ (argM_W M i).2
  have hs64 := F.sp
  have hpc := P.pc
  have hro := P.room
  refine CallX.of_xf T_ok Hval.func189 rfl (by kernel_rfl) (Nat.le_of_ble_eq_true rfl) ?_; conv => whnf
  refine running_ok M (Ext.jl _ _) ?_; conv => whnf
  repeat (first | (refine CondX.tt ?_; conv => whnf) | (refine CondX.ff ?_; conv => whnf))
  refine BoxX.jj M.A.V.dj X.dj fun n4 he4 hd4 hdd4 => ?_; conv => whnf
  refine Ob.mk ⟨rfl, rfl⟩ ?_; conv => whnf
  refine StoreX.fr (StoreX.jx (x := wc 0) (Nat.le_of_ble_eq_true rfl) rfl ?_); conv => whnf
  have hMe : ∀ y, Ext (join hi hm) (join (join (hput hi n4 y) hm) hb) := fun y => (Ext.j2 (he4 y) (hd4 y) (Ext.refl hm)).trans (Ext.jl _ _)
  have hbE : ∀ y, (join (join (hput hi n4 y) hm) hb) eb = some (fnv 27024 (eC (mC eb m) v), 101) := fun y => M.blk (hMe y)
  refine opcodeM_ok M (hMe _) ?_
  rw [P.ho]; conv => whnf
  repeat (first | (refine CondX.tt ?_; conv => whnf) | (refine CondX.ff ?_; conv => whnf))
  refine DrawX.go T_ok hM Hval.func189 (tb := dr189) rfl (by kernel_rfl) ?_; conv => whnf
  refine LoadX.fx (hbE _) (1803 + t * 65 + 54) rfl (by omega) (mR_is h7) ?_; conv => whnf
  refine arg_okM (i := 0) M (hMe _) (by decide) ?_
  rw [P.hA]; conv => whnf
  repeat (refine Ob.mk (by first | exact (ldV_fn (hbE _) (1803 + t * 65 + 54) rfl (by omega)).trans (congrArg some (mR_is h7))) ?_; conv => whnf)
  refine source_ok (q 0) ?_; conv => whnf
  repeat (refine Ob.mk (by first | exact (ldV_fn (hbE _) (1803 + t * 65 + 54) rfl (by omega)).trans (congrArg some (mR_is h7))) ?_; conv => whnf)
  have hin := (F.input.ext (Ext.jl hi hm)).ext (hMe (wc 0, 75))
  refine word32_ok hin (srcI_lt _) ?_; conv => whnf
  repeat (refine Ob.mk (by first | exact (ldV_fn (hbE _) (1803 + t * 65 + 54) rfl (by omega)).trans (congrArg some (mR_is h7))) ?_; conv => whnf)
  obtain ⟨xx, exx⟩ : ∃ xx, bv (cutN (m.fr t).input (srcI (A 0)) 32) = xx := ⟨_, rfl⟩
  rw [exx]
  have hX : 0 ≤ xx ∧ xx < W := by rw [← exx]; exact bv32 (cutN_length ..) (isB_cutN F.input.isB _ _)
  refine Ob.mk ⟨rfl, rfl⟩ ?_; conv => whnf
  refine StoreX.fr (StoreX.jx (x := wc xx) (Nat.le_of_ble_eq_true rfl) (setSeg_all (by rfl)) ?_); conv => whnf
  refine LoadX.all (c := wc xx) (join_l (join_l (hput_same ..))) rfl ?_; conv => whnf
  refine settleS_w (tk := 1) (st := 1) (he4 _) (hd4 _) (hdd4 _) M (by have h2 : ((1 : Nat) : Int) ≤ (m.fr t).sp := P.sp; omega) (by have h2 : ((m.fr t).sp : Int) - ((1 : Nat) : Int) + 1 ≤ 64 := P.room; omega) (by omega) hX fun hm2 g1 g2 M2 => ?_; conv => whnf
  refine RetX.drop (h' := join (join hi hm2) hb) (Ext.jj (he4 _) g1 g2) (fin_val X (T := 1) rfl rfl (by omega) rfl M2 (Dj.back (Ext.j2 (he4 _) g1 (Ext.refl hm2)) g2) (Ext.refl hi) (fun _ h => h) rfl ?_ P.R' hk)
  rw [opA_eq P.hA (T := 1) rfl, ← exx, srcI_cut F.input.room F.input.len]
  rfl
set_option maxRecDepth 100000 in
set_option maxHeartbeats 4000000 in
theorem x_54 (P : OpS hi hm hb eb m t w sn v mems stale 54 A S S') (hk : PlK hi eb m t w sn mems orig 54 S' s0 l0 K) : CallX Hval.prog 189 [.pointer (some ⟨eb, 0, none⟩)] (join (join hi hm) hb) K := by
  have X := P.X
  have M := X.M
  have h7 := M.t7
  have F := M.f
  have q : ∀ i, (A i : Int) < W := fun i => P.hA i ▸ (argM_W M i).2
  have hs64 := F.sp
  have hpc := P.pc
  have hro := P.room
  refine CallX.of_xf T_ok Hval.func189 rfl (by kernel_rfl) (Nat.le_of_ble_eq_true rfl) ?_; conv => whnf
  refine running_ok M (Ext.jl _ _) ?_; conv => whnf
  repeat (first | (refine CondX.tt ?_; conv => whnf) | (refine CondX.ff ?_; conv => whnf))
  refine BoxX.jj M.A.V.dj X.dj fun n4 he4 hd4 hdd4 => ?_; conv => whnf
  refine Ob.mk ⟨rfl, rfl⟩ ?_; conv => whnf
  refine StoreX.fr (StoreX.jx (x := wc 0) (Nat.le_of_ble_eq_true rfl) rfl ?_); conv => whnf
  have hMe : ∀ y, Ext (join hi hm) (join (join (hput hi n4 y) hm) hb) := fun y => (Ext.j2 (he4 y) (hd4 y) (Ext.refl hm)).trans (Ext.jl _ _)
  have hbE : ∀ y, (join (join (hput hi n4 y) hm) hb) eb = some (fnv 27024 (eC (mC eb m) v), 101) := fun y => M.blk (hMe y)
  refine opcodeM_ok M (hMe _) ?_
  rw [P.ho]; conv => whnf
  repeat (first | (refine CondX.tt ?_; conv => whnf) | (refine CondX.ff ?_; conv => whnf))
  refine LoadX.fx (hbE _) (1803 + t * 65 + 54) rfl (by omega) (mR_is h7) ?_; conv => whnf
  have hsl := F.input.len
  have hsr := F.input.room
  obtain ⟨xx, exx⟩ : ∃ xx : Nat, (m.fr t).is.2.1 = xx := ⟨_, rfl⟩
  rw [exx] at hsl hsr ⊢
  rw [show IntKind.u64.wrap (xx : Int) = xx by rw [wrap_u64']; omega]
  have hX : 0 ≤ (xx : Int) ∧ (xx : Int) < W := ⟨by omega, Int.lt_trans (b := 2 ^ 40) (by omega) (by rw [W_val]; decide)⟩
  refine Ob.mk ⟨by omega, by omega⟩ ?_; conv => whnf
  refine StoreX.fr (StoreX.jx (x := wc (xx : Int)) (Nat.le_of_ble_eq_true rfl) (by rw [wc_lim (x := (xx : Int)) (by omega) (by omega)]; rfl) ?_); conv => whnf
  refine LoadX.all (c := wc (xx : Int)) (join_l (join_l (hput_same ..))) rfl ?_; conv => whnf
  refine settleS_w (tk := 0) (st := 1) (he4 _) (hd4 _) (hdd4 _) M (by have h2 : ((0 : Nat) : Int) ≤ (m.fr t).sp := P.sp; omega) (by have h2 : ((m.fr t).sp : Int) - ((0 : Nat) : Int) + 1 ≤ 64 := P.room; omega) (by omega) hX fun hm2 g1 g2 M2 => ?_; conv => whnf
  refine RetX.drop (h' := join (join hi hm2) hb) (Ext.jj (he4 _) g1 g2) (fin_val X (T := 0) rfl rfl (by omega) rfl M2 (Dj.back (Ext.j2 (he4 _) g1 (Ext.refl hm2)) g2) (Ext.refl hi) (fun _ h => h) rfl ?_ P.R' hk)
  rw [← hsl]
  rfl
set_option maxRecDepth 100000 in
set_option maxHeartbeats 4000000 in
theorem x_56 (P : OpS hi hm hb eb m t w sn v mems stale 56 A S S') (hk : PlK hi eb m t w sn mems orig 56 S' s0 l0 K) : CallX Hval.prog 189 [.pointer (some ⟨eb, 0, none⟩)] (join (join hi hm) hb) K := by
  have X := P.X
  have M := X.M
  have h7 := M.t7
  have F := M.f
  have q : ∀ i, (A i : Int) < W := fun i => P.hA i ▸ (argM_W M i).2
  have hs64 := F.sp
  have hpc := P.pc
  have hro := P.room
  refine CallX.of_xf T_ok Hval.func189 rfl (by kernel_rfl) (Nat.le_of_ble_eq_true rfl) ?_; conv => whnf
  refine running_ok M (Ext.jl _ _) ?_; conv => whnf
  repeat (first | (refine CondX.tt ?_; conv => whnf) | (refine CondX.ff ?_; conv => whnf))
  refine BoxX.jj M.A.V.dj X.dj fun n4 he4 hd4 hdd4 => ?_; conv => whnf
  refine Ob.mk ⟨rfl, rfl⟩ ?_; conv => whnf
  refine StoreX.fr (StoreX.jx (x := wc 0) (Nat.le_of_ble_eq_true rfl) rfl ?_); conv => whnf
  have hMe : ∀ y, Ext (join hi hm) (join (join (hput hi n4 y) hm) hb) := fun y => (Ext.j2 (he4 y) (hd4 y) (Ext.refl hm)).trans (Ext.jl _ _)
  have hbE : ∀ y, (join (join (hput hi n4 y) hm) hb) eb = some (fnv 27024 (eC (mC eb m) v), 101) := fun y => M.blk (hMe y)
  refine opcodeM_ok M (hMe _) ?_
  rw [P.ho]; conv => whnf
  repeat (first | (refine CondX.tt ?_; conv => whnf) | (refine CondX.ff ?_; conv => whnf))
  refine LoadX.fx (hbE _) (1803 + t * 65 + 53) rfl (by omega) (mR_cs h7) ?_; conv => whnf
  have hsl := F.code.len
  have hsr := F.code.room
  obtain ⟨xx, exx⟩ : ∃ xx : Nat, (m.fr t).cs.2.1 = xx := ⟨_, rfl⟩
  rw [exx] at hsl hsr ⊢
  rw [show IntKind.u64.wrap (xx : Int) = xx by rw [wrap_u64']; omega]
  have hX : 0 ≤ (xx : Int) ∧ (xx : Int) < W := ⟨by omega, Int.lt_trans (b := 2 ^ 40) (by omega) (by rw [W_val]; decide)⟩
  refine Ob.mk ⟨by omega, by omega⟩ ?_; conv => whnf
  refine StoreX.fr (StoreX.jx (x := wc (xx : Int)) (Nat.le_of_ble_eq_true rfl) (by rw [wc_lim (x := (xx : Int)) (by omega) (by omega)]; rfl) ?_); conv => whnf
  refine LoadX.all (c := wc (xx : Int)) (join_l (join_l (hput_same ..))) rfl ?_; conv => whnf
  refine settleS_w (tk := 0) (st := 1) (he4 _) (hd4 _) (hdd4 _) M (by have h2 : ((0 : Nat) : Int) ≤ (m.fr t).sp := P.sp; omega) (by have h2 : ((m.fr t).sp : Int) - ((0 : Nat) : Int) + 1 ≤ 64 := P.room; omega) (by omega) hX fun hm2 g1 g2 M2 => ?_; conv => whnf
  refine RetX.drop (h' := join (join hi hm2) hb) (Ext.jj (he4 _) g1 g2) (fin_val X (T := 0) rfl rfl (by omega) rfl M2 (Dj.back (Ext.j2 (he4 _) g1 (Ext.refl hm2)) g2) (Ext.refl hi) (fun _ h => h) rfl ?_ P.R' hk)
  rw [← hsl]
  rfl
set_option maxRecDepth 100000 in
set_option maxHeartbeats 4000000 in
theorem x_58 (E : EnvM m orig) (P : OpS hi hm hb eb m t w sn v mems stale 58 A S S') (hk : PlK hi eb m t w sn mems orig 58 S' s0 l0 K) : CallX Hval.prog 189 [.pointer (some ⟨eb, 0, none⟩)] (join (join hi hm) hb) K := by
  have X := P.X
  have M := X.M
  have h7 := M.t7
  have F := M.f
  have q : ∀ i, (A i : Int) < W := fun i => P.hA i ▸ (argM_W M i).2
  have hs64 := F.sp
  have hpc := P.pc
  have hro := P.room
  refine CallX.of_xf T_ok Hval.func189 rfl (by kernel_rfl) (Nat.le_of_ble_eq_true rfl) ?_; conv => whnf
  refine running_ok M (Ext.jl _ _) ?_; conv => whnf
  repeat (first | (refine CondX.tt ?_; conv => whnf) | (refine CondX.ff ?_; conv => whnf))
  refine BoxX.jj M.A.V.dj X.dj fun n4 he4 hd4 hdd4 => ?_; conv => whnf
  refine Ob.mk ⟨rfl, rfl⟩ ?_; conv => whnf
  refine StoreX.fr (StoreX.jx (x := wc 0) (Nat.le_of_ble_eq_true rfl) rfl ?_); conv => whnf
  have hMe : ∀ y, Ext (join hi hm) (join (join (hput hi n4 y) hm) hb) := fun y => (Ext.j2 (he4 y) (hd4 y) (Ext.refl hm)).trans (Ext.jl _ _)
  have hbE : ∀ y, (join (join (hput hi n4 y) hm) hb) eb = some (fnv 27024 (eC (mC eb m) v), 101) := fun y => M.blk (hMe y)
  refine opcodeM_ok M (hMe _) ?_
  rw [P.ho]; conv => whnf
  repeat (first | (refine CondX.tt ?_; conv => whnf) | (refine CondX.ff ?_; conv => whnf))
  refine LoadX.fnA (hbE _) 2400 rfl (by show _ + 4 ≤ _; omega) ?_
  rw [show (75, y75).snd.size = 4 from rfl, mR_price, E.price]; conv => whnf
  have hX : 0 ≤ (0 : Int) ∧ (0 : Int) < W := ⟨by omega, W_pos⟩
  refine Ob.mk ⟨rfl, rfl⟩ ?_; conv => whnf
  refine StoreX.fr (StoreX.jx (x := wc 0) (Nat.le_of_ble_eq_true rfl) (setSeg_all (by rfl)) ?_); conv => whnf
  refine LoadX.all (c := wc 0) (join_l (join_l (hput_same ..))) rfl ?_; conv => whnf
  refine settleS_w (tk := 0) (st := 1) (he4 _) (hd4 _) (hdd4 _) M (by have h2 : ((0 : Nat) : Int) ≤ (m.fr t).sp := P.sp; omega) (by have h2 : ((m.fr t).sp : Int) - ((0 : Nat) : Int) + 1 ≤ 64 := P.room; omega) (by omega) hX fun hm2 g1 g2 M2 => ?_; conv => whnf
  refine RetX.drop (h' := join (join hi hm2) hb) (Ext.jj (he4 _) g1 g2) (fin_val X (T := 0) rfl rfl (by omega) rfl M2 (Dj.back (Ext.j2 (he4 _) g1 (Ext.refl hm2)) g2) (Ext.refl hi) (fun _ h => h) rfl ?_ P.R' hk)
  rfl
set_option maxRecDepth 100000 in
set_option maxHeartbeats 4000000 in
theorem x_61 (P : OpS hi hm hb eb m t w sn v mems stale 61 A S S') (hk : PlK hi eb m t w sn mems orig 61 S' s0 l0 K) : CallX Hval.prog 189 [.pointer (some ⟨eb, 0, none⟩)] (join (join hi hm) hb) K := by
  have X := P.X
  have M := X.M
  have h7 := M.t7
  have F := M.f
  have q : ∀ i, (A i : Int) < W := fun i => P.hA i ▸ (argM_W M i).2
  have hs64 := F.sp
  have hpc := P.pc
  have hro := P.room
  refine CallX.of_xf T_ok Hval.func189 rfl (by kernel_rfl) (Nat.le_of_ble_eq_true rfl) ?_; conv => whnf
  refine running_ok M (Ext.jl _ _) ?_; conv => whnf
  repeat (first | (refine CondX.tt ?_; conv => whnf) | (refine CondX.ff ?_; conv => whnf))
  refine BoxX.jj M.A.V.dj X.dj fun n4 he4 hd4 hdd4 => ?_; conv => whnf
  refine Ob.mk ⟨rfl, rfl⟩ ?_; conv => whnf
  refine StoreX.fr (StoreX.jx (x := wc 0) (Nat.le_of_ble_eq_true rfl) rfl ?_); conv => whnf
  have hMe : ∀ y, Ext (join hi hm) (join (join (hput hi n4 y) hm) hb) := fun y => (Ext.j2 (he4 y) (hd4 y) (Ext.refl hm)).trans (Ext.jl _ _)
  have hbE : ∀ y, (join (join (hput hi n4 y) hm) hb) eb = some (fnv 27024 (eC (mC eb m) v), 101) := fun y => M.blk (hMe y)
  refine opcodeM_ok M (hMe _) ?_
  rw [P.ho]; conv => whnf
  repeat (first | (refine CondX.tt ?_; conv => whnf) | (refine CondX.ff ?_; conv => whnf))
  refine LoadX.fx (hbE _) (2259) rfl (by omega) (mR_ret) ?_; conv => whnf
  have hsl := M.ret.len
  have hsr := M.ret.room
  obtain ⟨xx, exx⟩ : ∃ xx : Nat, m.retS.2.1 = xx := ⟨_, rfl⟩
  rw [exx] at hsl hsr ⊢
  rw [show IntKind.u64.wrap (xx : Int) = xx by rw [wrap_u64']; omega]
  have hX : 0 ≤ (xx : Int) ∧ (xx : Int) < W := ⟨by omega, Int.lt_trans (b := 2 ^ 40) (by omega) (by rw [W_val]; decide)⟩
  refine Ob.mk ⟨by omega, by omega⟩ ?_; conv => whnf
  refine StoreX.fr (StoreX.jx (x := wc (xx : Int)) (Nat.le_of_ble_eq_true rfl) (by rw [wc_lim (x := (xx : Int)) (by omega) (by omega)]; rfl) ?_); conv => whnf
  refine LoadX.all (c := wc (xx : Int)) (join_l (join_l (hput_same ..))) rfl ?_; conv => whnf
  refine settleS_w (tk := 0) (st := 1) (he4 _) (hd4 _) (hdd4 _) M (by have h2 : ((0 : Nat) : Int) ≤ (m.fr t).sp := P.sp; omega) (by have h2 : ((m.fr t).sp : Int) - ((0 : Nat) : Int) + 1 ≤ 64 := P.room; omega) (by omega) hX fun hm2 g1 g2 M2 => ?_; conv => whnf
  refine RetX.drop (h' := join (join hi hm2) hb) (Ext.jj (he4 _) g1 g2) (fin_val X (T := 0) rfl rfl (by omega) rfl M2 (Dj.back (Ext.j2 (he4 _) g1 (Ext.refl hm2)) g2) (Ext.refl hi) (fun _ h => h) rfl ?_ P.R' hk)
  rw [← hsl]
  rfl
set_option maxRecDepth 100000 in
set_option maxHeartbeats 4000000 in
theorem x_71 (P : OpS hi hm hb eb m t w sn v mems stale 71 A S S') (hk : PlK hi eb m t w sn mems orig 71 S' s0 l0 K) : CallX Hval.prog 189 [.pointer (some ⟨eb, 0, none⟩)] (join (join hi hm) hb) K := by
  have X := P.X
  have M := X.M
  have h7 := M.t7
  have F := M.f
  have q : ∀ i, (A i : Int) < W := fun i => P.hA i ▸ (argM_W M i).2
  have hs64 := F.sp
  have hpc := P.pc
  have hro := P.room
  refine CallX.of_xf T_ok Hval.func189 rfl (by kernel_rfl) (Nat.le_of_ble_eq_true rfl) ?_; conv => whnf
  refine running_ok M (Ext.jl _ _) ?_; conv => whnf
  repeat (first | (refine CondX.tt ?_; conv => whnf) | (refine CondX.ff ?_; conv => whnf))
  refine BoxX.jj M.A.V.dj X.dj fun n4 he4 hd4 hdd4 => ?_; conv => whnf
  refine Ob.mk ⟨rfl, rfl⟩ ?_; conv => whnf
  refine StoreX.fr (StoreX.jx (x := wc 0) (Nat.le_of_ble_eq_true rfl) rfl ?_); conv => whnf
  have hMe : ∀ y, Ext (join hi hm) (join (join (hput hi n4 y) hm) hb) := fun y => (Ext.j2 (he4 y) (hd4 y) (Ext.refl hm)).trans (Ext.jl _ _)
  have hbE : ∀ y, (join (join (hput hi n4 y) hm) hb) eb = some (fnv 27024 (eC (mC eb m) v), 101) := fun y => M.blk (hMe y)
  refine opcodeM_ok M (hMe _) ?_
  rw [P.ho]; conv => whnf
  repeat (first | (refine CondX.tt ?_; conv => whnf) | (refine CondX.ff ?_; conv => whnf))
  refine DrawX.go T_ok hM Hval.func189 (tb := dr189) rfl (by kernel_rfl) ?_; conv => whnf
  refine LoadX.fx (hbE _) 0 rfl (by omega) mR_S ?_; conv => whnf
  refine LoadX.fnA (hbE _) (1803 + t * 65 + 9) rfl (by show _ + 20 ≤ _; omega) ?_
  rw [show (31, y31).snd.size = 20 from rfl, mR_self h7 F.self.1]; conv => whnf
  refine balance_ok F.self.1 F.self.2 M.A (hMe _) ?_; conv => whnf
  repeat (refine Ob.mk (by first | exact ldV_fn (hbE _) 0 rfl (by omega) | exact (ldV_fnA (hbE _) (1803 + t * 65 + 9) rfl (by show _ + 20 ≤ _; omega)).trans (congrArg (fun y => some (Value.agg y.toArray)) (mR_self h7 F.self.1))) ?_; conv => whnf)
  obtain ⟨xx, exx⟩ : ∃ xx, (w.acct (m.fr t).self).bal = xx := ⟨_, rfl⟩
  rw [exx]
  have hX : 0 ≤ xx ∧ xx < W := by rw [← exx]; exact (M.A.balW' _).1
  refine Ob.mk ⟨rfl, rfl⟩ ?_; conv => whnf
  refine StoreX.fr (StoreX.jx (x := wc xx) (Nat.le_of_ble_eq_true rfl) (setSeg_all (by rfl)) ?_); conv => whnf
  refine LoadX.all (c := wc xx) (join_l (join_l (hput_same ..))) rfl ?_; conv => whnf
  refine settleS_w (tk := 0) (st := 1) (he4 _) (hd4 _) (hdd4 _) M (by have h2 : ((0 : Nat) : Int) ≤ (m.fr t).sp := P.sp; omega) (by have h2 : ((m.fr t).sp : Int) - ((0 : Nat) : Int) + 1 ≤ 64 := P.room; omega) (by omega) hX fun hm2 g1 g2 M2 => ?_; conv => whnf
  refine RetX.drop (h' := join (join hi hm2) hb) (Ext.jj (he4 _) g1 g2) (fin_val X (T := 0) rfl rfl (by omega) rfl M2 (Dj.back (Ext.j2 (he4 _) g1 (Ext.refl hm2)) g2) (Ext.refl hi) (fun _ h => h) rfl ?_ P.R' hk)
  exact exx
set_option maxRecDepth 100000 in
set_option maxHeartbeats 4000000 in
theorem x_88 (P : OpS hi hm hb eb m t w sn v mems stale 88 A S S') (hk : PlK hi eb m t w sn mems orig 88 S' s0 l0 K) : CallX Hval.prog 189 [.pointer (some ⟨eb, 0, none⟩)] (join (join hi hm) hb) K := by
  have X := P.X
  have M := X.M
  have h7 := M.t7
  have F := M.f
  have q : ∀ i, (A i : Int) < W := fun i => P.hA i ▸ (argM_W M i).2
  have hs64 := F.sp
  have hpc := P.pc
  have hro := P.room
  refine CallX.of_xf T_ok Hval.func189 rfl (by kernel_rfl) (Nat.le_of_ble_eq_true rfl) ?_; conv => whnf
  refine running_ok M (Ext.jl _ _) ?_; conv => whnf
  repeat (first | (refine CondX.tt ?_; conv => whnf) | (refine CondX.ff ?_; conv => whnf))
  refine BoxX.jj M.A.V.dj X.dj fun n4 he4 hd4 hdd4 => ?_; conv => whnf
  refine Ob.mk ⟨rfl, rfl⟩ ?_; conv => whnf
  refine StoreX.fr (StoreX.jx (x := wc 0) (Nat.le_of_ble_eq_true rfl) rfl ?_); conv => whnf
  have hMe : ∀ y, Ext (join hi hm) (join (join (hput hi n4 y) hm) hb) := fun y => (Ext.j2 (he4 y) (hd4 y) (Ext.refl hm)).trans (Ext.jl _ _)
  have hbE : ∀ y, (join (join (hput hi n4 y) hm) hb) eb = some (fnv 27024 (eC (mC eb m) v), 101) := fun y => M.blk (hMe y)
  refine opcodeM_ok M (hMe _) ?_
  rw [P.ho]; conv => whnf
  repeat (first | (refine CondX.tt ?_; conv => whnf) | (refine CondX.ff ?_; conv => whnf))
  refine LoadX.fx (hbE _) (1803 + t * 65 + 4) rfl (by omega) (mR_pc h7) ?_; conv => whnf
  rw [show IntKind.u64.wrap ((m.fr t).pc : Int) = (m.fr t).pc by rw [wrap_u64']; omega]
  have hX : 0 ≤ ((m.fr t).pc : Int) ∧ ((m.fr t).pc : Int) < W := ⟨by omega, Int.lt_trans (b := 2 ^ 40) (by omega) (by rw [W_val]; decide)⟩
  refine Ob.mk ⟨by omega, by omega⟩ ?_; conv => whnf
  refine StoreX.fr (StoreX.jx (x := wc ((m.fr t).pc : Int)) (Nat.le_of_ble_eq_true rfl) (by rw [wc_lim (x := ((m.fr t).pc : Int)) (by omega) (by omega)]; rfl) ?_); conv => whnf
  refine LoadX.all (c := wc ((m.fr t).pc : Int)) (join_l (join_l (hput_same ..))) rfl ?_; conv => whnf
  refine settleS_w (tk := 0) (st := 1) (he4 _) (hd4 _) (hdd4 _) M (by have h2 : ((0 : Nat) : Int) ≤ (m.fr t).sp := P.sp; omega) (by have h2 : ((m.fr t).sp : Int) - ((0 : Nat) : Int) + 1 ≤ 64 := P.room; omega) (by omega) hX fun hm2 g1 g2 M2 => ?_; conv => whnf
  refine RetX.drop (h' := join (join hi hm2) hb) (Ext.jj (he4 _) g1 g2) (fin_val X (T := 0) rfl rfl (by omega) rfl M2 (Dj.back (Ext.j2 (he4 _) g1 (Ext.refl hm2)) g2) (Ext.refl hi) (fun _ h => h) rfl ?_ P.R' hk)
  rfl
set_option maxRecDepth 100000 in
set_option maxHeartbeats 4000000 in
theorem x_89 (P : OpS hi hm hb eb m t w sn v mems stale 89 A S S') (hk : PlK hi eb m t w sn mems orig 89 S' s0 l0 K) : CallX Hval.prog 189 [.pointer (some ⟨eb, 0, none⟩)] (join (join hi hm) hb) K := by
  have X := P.X
  have M := X.M
  have h7 := M.t7
  have F := M.f
  have q : ∀ i, (A i : Int) < W := fun i => P.hA i ▸ (argM_W M i).2
  have hs64 := F.sp
  have hpc := P.pc
  have hro := P.room
  refine CallX.of_xf T_ok Hval.func189 rfl (by kernel_rfl) (Nat.le_of_ble_eq_true rfl) ?_; conv => whnf
  refine running_ok M (Ext.jl _ _) ?_; conv => whnf
  repeat (first | (refine CondX.tt ?_; conv => whnf) | (refine CondX.ff ?_; conv => whnf))
  refine BoxX.jj M.A.V.dj X.dj fun n4 he4 hd4 hdd4 => ?_; conv => whnf
  refine Ob.mk ⟨rfl, rfl⟩ ?_; conv => whnf
  refine StoreX.fr (StoreX.jx (x := wc 0) (Nat.le_of_ble_eq_true rfl) rfl ?_); conv => whnf
  have hMe : ∀ y, Ext (join hi hm) (join (join (hput hi n4 y) hm) hb) := fun y => (Ext.j2 (he4 y) (hd4 y) (Ext.refl hm)).trans (Ext.jl _ _)
  have hbE : ∀ y, (join (join (hput hi n4 y) hm) hb) eb = some (fnv 27024 (eC (mC eb m) v), 101) := fun y => M.blk (hMe y)
  refine opcodeM_ok M (hMe _) ?_
  rw [P.ho]; conv => whnf
  repeat (first | (refine CondX.tt ?_; conv => whnf) | (refine CondX.ff ?_; conv => whnf))
  have hmf := X.mm.top.few
  simp only [List.length_append] at hmf
  refine alen_ok (hbE _) X.mm.top (Ext.jr (hdd4 _)) h7 ?_; conv => whnf
  rw [show IntKind.u64.wrap ((mems t).length : Int) = (mems t).length by rw [wrap_u64']; omega]
  have hX : 0 ≤ ((mems t).length : Int) ∧ ((mems t).length : Int) < W := ⟨by omega, Int.lt_trans (b := 2 ^ 40) (by omega) (by rw [W_val]; decide)⟩
  refine Ob.mk ⟨by omega, by omega⟩ ?_; conv => whnf
  refine StoreX.fr (StoreX.jx (x := wc ((mems t).length : Int)) (Nat.le_of_ble_eq_true rfl) (by rw [wc_lim (x := ((mems t).length : Int)) (by omega) (by omega)]; rfl) ?_); conv => whnf
  refine LoadX.all (c := wc ((mems t).length : Int)) (join_l (join_l (hput_same ..))) rfl ?_; conv => whnf
  refine settleS_w (tk := 0) (st := 1) (he4 _) (hd4 _) (hdd4 _) M (by have h2 : ((0 : Nat) : Int) ≤ (m.fr t).sp := P.sp; omega) (by have h2 : ((m.fr t).sp : Int) - ((0 : Nat) : Int) + 1 ≤ 64 := P.room; omega) (by omega) hX fun hm2 g1 g2 M2 => ?_; conv => whnf
  refine RetX.drop (h' := join (join hi hm2) hb) (Ext.jj (he4 _) g1 g2) (fin_val X (T := 0) rfl rfl (by omega) rfl M2 (Dj.back (Ext.j2 (he4 _) g1 (Ext.refl hm2)) g2) (Ext.refl hi) (fun _ h => h) rfl ?_ P.R' hk)
  rfl
set_option maxRecDepth 100000 in
set_option maxHeartbeats 4000000 in
theorem x_90 (P : OpS hi hm hb eb m t w sn v mems stale 90 A S S') (hk : PlK hi eb m t w sn mems orig 90 S' s0 l0 K) : CallX Hval.prog 189 [.pointer (some ⟨eb, 0, none⟩)] (join (join hi hm) hb) K := by
  have X := P.X
  have M := X.M
  have h7 := M.t7
  have F := M.f
  have q : ∀ i, (A i : Int) < W := fun i => P.hA i ▸ (argM_W M i).2
  have hs64 := F.sp
  have hpc := P.pc
  have hro := P.room
  refine CallX.of_xf T_ok Hval.func189 rfl (by kernel_rfl) (Nat.le_of_ble_eq_true rfl) ?_; conv => whnf
  refine running_ok M (Ext.jl _ _) ?_; conv => whnf
  repeat (first | (refine CondX.tt ?_; conv => whnf) | (refine CondX.ff ?_; conv => whnf))
  refine BoxX.jj M.A.V.dj X.dj fun n4 he4 hd4 hdd4 => ?_; conv => whnf
  refine Ob.mk ⟨rfl, rfl⟩ ?_; conv => whnf
  refine StoreX.fr (StoreX.jx (x := wc 0) (Nat.le_of_ble_eq_true rfl) rfl ?_); conv => whnf
  have hMe : ∀ y, Ext (join hi hm) (join (join (hput hi n4 y) hm) hb) := fun y => (Ext.j2 (he4 y) (hd4 y) (Ext.refl hm)).trans (Ext.jl _ _)
  have hbE : ∀ y, (join (join (hput hi n4 y) hm) hb) eb = some (fnv 27024 (eC (mC eb m) v), 101) := fun y => M.blk (hMe y)
  refine opcodeM_ok M (hMe _) ?_
  rw [P.ho]; conv => whnf
  repeat (first | (refine CondX.tt ?_; conv => whnf) | (refine CondX.ff ?_; conv => whnf))
  have hg := F.gas
  refine LoadX.fx (hbE _) (1803 + t * 65 + 7) rfl (by omega) (mR_gas h7) ?_; conv => whnf
  have hX : 0 ≤ (m.fr t).gas ∧ (m.fr t).gas < W := ⟨by omega, Int.lt_trans hg.2 (by rw [W_val]; decide)⟩
  refine Ob.mk ⟨by omega, by omega⟩ ?_; conv => whnf
  refine StoreX.fr (StoreX.jx (x := wc (m.fr t).gas) (Nat.le_of_ble_eq_true rfl) (by rw [wc_lim (x := (m.fr t).gas) (by omega) (by omega)]; rfl) ?_); conv => whnf
  refine LoadX.all (c := wc (m.fr t).gas) (join_l (join_l (hput_same ..))) rfl ?_; conv => whnf
  refine settleS_w (tk := 0) (st := 1) (he4 _) (hd4 _) (hdd4 _) M (by have h2 : ((0 : Nat) : Int) ≤ (m.fr t).sp := P.sp; omega) (by have h2 : ((m.fr t).sp : Int) - ((0 : Nat) : Int) + 1 ≤ 64 := P.room; omega) (by omega) hX fun hm2 g1 g2 M2 => ?_; conv => whnf
  refine RetX.drop (h' := join (join hi hm2) hb) (Ext.jj (he4 _) g1 g2) (fin_val X (T := 0) rfl rfl (by omega) rfl M2 (Dj.back (Ext.j2 (he4 _) g1 (Ext.refl hm2)) g2) (Ext.refl hi) (fun _ h => h) rfl ?_ P.R' hk)
  rfl
end
end Go.Proofs.YgvalwGreat.X
