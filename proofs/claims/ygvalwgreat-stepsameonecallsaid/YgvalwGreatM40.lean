import Derived.Test.YgvalwGreatM39
set_option linter.unusedVariables false
set_option linter.unusedSimpArgs false
namespace Go.Proofs.YgvalwGreat.X
open Go


section
variable {hi hi' hm hm' hb hb' h : Hp} {K : Value → Hp → Prop} {v v' : VS} {eb : Nat} {m m' : MS} {t : Nat} {mems : Nat → List Int} {stale stale' mem' orig a : List Int} {w w' : AW} {sn : List AW} {s0 l0 S S' x o : Int} {A : Nat → Nat}
theorem EnvM.seg (E : EnvM m orig) {k n : Nat} {l : List Int} (hs : seg stEnv k n = bcells l) (hkn : k + n ≤ 120) : (fnv n fun i => eC (mC eb m) v (2260 + k + i)) = bcells l := by
  have hlen : (bcells l).length = n := by rw [← hs]; unfold X.seg; rw [List.length_take, List.length_drop, stEnv_len]; omega
  refine (list_fnv hlen fun i hi => ?_).symm
  rw [show 2260 + k + i = 2260 + (k + i) by omega, mR_env (by omega), ← E.env (k + i) (by omega), ← hs]
  unfold X.seg
  rw [List.getElem?_take_of_lt hi, List.getElem?_drop]
theorem EnvM.at (E : EnvM m orig) {k : Nat} {x : Value} (hs : stEnv[k]? = some x) (hk : k < 120) : eC (mC eb m) v (2260 + k) = x := by
  have := E.env k hk
  rw [hs] at this
  rw [mR_env hk]; exact (Option.some.inj this).symm
set_option maxRecDepth 100000 in
set_option maxHeartbeats 4000000 in
theorem x_64 (E : EnvM m orig) (P : OpS hi hm hb eb m t w sn v mems stale 64 A S S') (hk : PlK hi eb m t w sn mems orig 64 S' s0 l0 K) : CallX Hval.prog 191 [.pointer (some ⟨eb, 0, none⟩)] (join (join hi hm) hb) K := by
  have X := P.X
  have M := X.M
  have h7 := M.t7
  have F := M.f
  have q : ∀ i, (A i : Int) < W := fun i => P.hA i ▸ (argM_W M i).2
  have hs64 := F.sp
  have hpc := P.pc
  have hro := P.room
  refine CallX.of_xf T_ok Hval.func191 rfl (by kernel_rfl) (Nat.le_of_ble_eq_true rfl) ?_; conv => whnf
  refine running_ok M (Ext.jl _ _) ?_; conv => whnf
  repeat (first | (refine CondX.tt ?_; conv => whnf) | (refine CondX.ff ?_; conv => whnf))
  refine BoxX.jj M.A.V.dj X.dj fun n4 he4 hd4 hdd4 => ?_; conv => whnf
  refine Ob.mk ⟨rfl, rfl⟩ ?_; conv => whnf
  refine StoreX.fr (StoreX.jx (x := wc 0) (Nat.le_of_ble_eq_true rfl) rfl ?_); conv => whnf
  have hMe : ∀ y, Ext (join hi hm) (join (join (hput hi n4 y) hm) hb) := fun y => (Ext.j2 (he4 y) (hd4 y) (Ext.refl hm)).trans (Ext.jl _ _)
  have hbE : ∀ y, (join (join (hput hi n4 y) hm) hb) eb = some (fnv 27024 (eC (mC eb m) v), 101) := fun y => M.blk (hMe y)
  refine opcodeM_ok M (hMe _) ?_
  rw [P.ho]; conv => whnf
  repeat (first | (refine CondX.tt ?_; conv => whnf) | (refine CondX.ff ?_; conv => whnf))
  refine arg_okM (i := 0) M (hMe _) (by decide) ?_
  rw [P.hA]; conv => whnf
  refine eU64_ok (q 0) ?_
  obtain ⟨y, ey⟩ : ∃ y, (if (A 0 : Int) < 18446744073709551616 then (A 0 : Int) else 0) = y := ⟨_, rfl⟩
  have hy : 0 ≤ y := by rw [← ey]; split <;> omega
  obtain ⟨d, ed⟩ : ∃ d, decide ((A 0 : Int) < 18446744073709551616) = d := ⟨_, rfl⟩
  rw [ey, ed]
  have hX : 0 ≤ (0 : Int) ∧ (0 : Int) < W := ⟨by omega, W_pos⟩
  cases d with
  | true =>
    conv => whnf
    repeat (first | (refine CondX.tt ?_; conv => whnf) | (refine CondX.ff ?_; conv => whnf))
    refine LoadX.fx (hbE _) (2260 + 20) rfl (by omega) (E.at (k := 20) (x := .int .u64 0) rfl (by omega)) ?_; conv => whnf
    repeat (first | (refine CondX.tt ?_; conv => whnf) | (refine CondX.ff ?_; conv => whnf))
    refine CondX.dF (by omega) ?_; conv => whnf
    repeat (first | (refine CondX.tt ?_; conv => whnf) | (refine CondX.ff ?_; conv => whnf))
    refine LoadX.all (c := wc 0) (join_l (join_l (hput_same ..))) rfl ?_; conv => whnf
    refine settleS_w (tk := 1) (st := 1) (he4 _) (hd4 _) (hdd4 _) M (by have h2 : ((1 : Nat) : Int) ≤ (m.fr t).sp := P.sp; omega) (by have h2 : ((m.fr t).sp : Int) - ((1 : Nat) : Int) + 1 ≤ 64 := P.room; omega) (by omega) hX fun hm2 g1 g2 M2 => ?_; conv => whnf
    refine RetX.drop (h' := join (join hi hm2) hb) (Ext.jj (he4 _) g1 g2) (fin_val X (T := 1) rfl rfl (by omega) rfl M2 (Dj.back (Ext.j2 (he4 _) g1 (Ext.refl hm2)) g2) (Ext.refl hi) (fun _ h => h) rfl ?_ P.R' hk)
    rfl
  | false =>
    conv => whnf
    repeat (first | (refine CondX.tt ?_; conv => whnf) | (refine CondX.ff ?_; conv => whnf))
    refine LoadX.all (c := wc 0) (join_l (join_l (hput_same ..))) rfl ?_; conv => whnf
    refine settleS_w (tk := 1) (st := 1) (he4 _) (hd4 _) (hdd4 _) M (by have h2 : ((1 : Nat) : Int) ≤ (m.fr t).sp := P.sp; omega) (by have h2 : ((m.fr t).sp : Int) - ((1 : Nat) : Int) + 1 ≤ 64 := P.room; omega) (by omega) hX fun hm2 g1 g2 M2 => ?_; conv => whnf
    refine RetX.drop (h' := join (join hi hm2) hb) (Ext.jj (he4 _) g1 g2) (fin_val X (T := 1) rfl rfl (by omega) rfl M2 (Dj.back (Ext.j2 (he4 _) g1 (Ext.refl hm2)) g2) (Ext.refl hi) (fun _ h => h) rfl ?_ P.R' hk)
    rfl
set_option maxRecDepth 100000 in
set_option maxHeartbeats 4000000 in
theorem x_65 (E : EnvM m orig) (P : OpS hi hm hb eb m t w sn v mems stale 65 A S S') (hk : PlK hi eb m t w sn mems orig 65 S' s0 l0 K) : CallX Hval.prog 191 [.pointer (some ⟨eb, 0, none⟩)] (join (join hi hm) hb) K := by
  have X := P.X
  have M := X.M
  have h7 := M.t7
  have F := M.f
  have q : ∀ i, (A i : Int) < W := fun i => P.hA i ▸ (argM_W M i).2
  have hs64 := F.sp
  have hpc := P.pc
  have hro := P.room
  refine CallX.of_xf T_ok Hval.func191 rfl (by kernel_rfl) (Nat.le_of_ble_eq_true rfl) ?_; conv => whnf
  refine running_ok M (Ext.jl _ _) ?_; conv => whnf
  repeat (first | (refine CondX.tt ?_; conv => whnf) | (refine CondX.ff ?_; conv => whnf))
  refine BoxX.jj M.A.V.dj X.dj fun n4 he4 hd4 hdd4 => ?_; conv => whnf
  refine Ob.mk ⟨rfl, rfl⟩ ?_; conv => whnf
  refine StoreX.fr (StoreX.jx (x := wc 0) (Nat.le_of_ble_eq_true rfl) rfl ?_); conv => whnf
  have hMe : ∀ y, Ext (join hi hm) (join (join (hput hi n4 y) hm) hb) := fun y => (Ext.j2 (he4 y) (hd4 y) (Ext.refl hm)).trans (Ext.jl _ _)
  have hbE : ∀ y, (join (join (hput hi n4 y) hm) hb) eb = some (fnv 27024 (eC (mC eb m) v), 101) := fun y => M.blk (hMe y)
  refine opcodeM_ok M (hMe _) ?_
  rw [P.ho]; conv => whnf
  repeat (first | (refine CondX.tt ?_; conv => whnf) | (refine CondX.ff ?_; conv => whnf))
  refine LoadX.fnA (hbE _) (2260 + 0) rfl (by show _ + 20 ≤ _; omega) ?_
  rw [show (31, y31).snd.size = 20 from rfl, E.seg (k := 0) (l := stCb) rfl (by omega)]; conv => whnf
  have hB : isB stCb := by unfold isB stCb; decide
  refine addrWord_ok (a := stCb) rfl hB ?_
  rw [show bv stCb = 192 by decide]; conv => whnf
  have hX : 0 ≤ (192 : Int) ∧ (192 : Int) < W := ⟨by omega, by rw [W_val]; decide⟩
  refine Ob.mk ⟨rfl, rfl⟩ ?_; conv => whnf
  refine StoreX.fr (StoreX.jx (x := wc 192) (Nat.le_of_ble_eq_true rfl) (setSeg_all (by rfl)) ?_); conv => whnf
  refine LoadX.all (c := wc 192) (join_l (join_l (hput_same ..))) rfl ?_; conv => whnf
  refine settleS_w (tk := 0) (st := 1) (he4 _) (hd4 _) (hdd4 _) M (by have h2 : ((0 : Nat) : Int) ≤ (m.fr t).sp := P.sp; omega) (by have h2 : ((m.fr t).sp : Int) - ((0 : Nat) : Int) + 1 ≤ 64 := P.room; omega) (by omega) hX fun hm2 g1 g2 M2 => ?_; conv => whnf
  refine RetX.drop (h' := join (join hi hm2) hb) (Ext.jj (he4 _) g1 g2) (fin_val X (T := 0) rfl rfl (by omega) rfl M2 (Dj.back (Ext.j2 (he4 _) g1 (Ext.refl hm2)) g2) (Ext.refl hi) (fun _ h => h) rfl ?_ P.R' hk)
  rfl
set_option maxRecDepth 100000 in
set_option maxHeartbeats 4000000 in
theorem x_66 (E : EnvM m orig) (P : OpS hi hm hb eb m t w sn v mems stale 66 A S S') (hk : PlK hi eb m t w sn mems orig 66 S' s0 l0 K) : CallX Hval.prog 191 [.pointer (some ⟨eb, 0, none⟩)] (join (join hi hm) hb) K := by
  have X := P.X
  have M := X.M
  have h7 := M.t7
  have F := M.f
  have q : ∀ i, (A i : Int) < W := fun i => P.hA i ▸ (argM_W M i).2
  have hs64 := F.sp
  have hpc := P.pc
  have hro := P.room
  refine CallX.of_xf T_ok Hval.func191 rfl (by kernel_rfl) (Nat.le_of_ble_eq_true rfl) ?_; conv => whnf
  refine running_ok M (Ext.jl _ _) ?_; conv => whnf
  repeat (first | (refine CondX.tt ?_; conv => whnf) | (refine CondX.ff ?_; conv => whnf))
  refine BoxX.jj M.A.V.dj X.dj fun n4 he4 hd4 hdd4 => ?_; conv => whnf
  refine Ob.mk ⟨rfl, rfl⟩ ?_; conv => whnf
  refine StoreX.fr (StoreX.jx (x := wc 0) (Nat.le_of_ble_eq_true rfl) rfl ?_); conv => whnf
  have hMe : ∀ y, Ext (join hi hm) (join (join (hput hi n4 y) hm) hb) := fun y => (Ext.j2 (he4 y) (hd4 y) (Ext.refl hm)).trans (Ext.jl _ _)
  have hbE : ∀ y, (join (join (hput hi n4 y) hm) hb) eb = some (fnv 27024 (eC (mC eb m) v), 101) := fun y => M.blk (hMe y)
  refine opcodeM_ok M (hMe _) ?_
  rw [P.ho]; conv => whnf
  repeat (first | (refine CondX.tt ?_; conv => whnf) | (refine CondX.ff ?_; conv => whnf))
  refine LoadX.fx (hbE _) (2260 + 21) rfl (by omega) (E.at (k := 21) (x := .int .u64 0) rfl (by omega)) ?_; conv => whnf
  have hX : 0 ≤ (0 : Int) ∧ (0 : Int) < W := ⟨by omega, by rw [W_val]; decide⟩
  refine Ob.mk ⟨by omega, by omega⟩ ?_; conv => whnf
  refine StoreX.fr (StoreX.jx (x := wc 0) (Nat.le_of_ble_eq_true rfl) (by rw [wc_lim (x := 0) (by omega) (by omega)]; rfl) ?_); conv => whnf
  refine LoadX.all (c := wc 0) (join_l (join_l (hput_same ..))) rfl ?_; conv => whnf
  refine settleS_w (tk := 0) (st := 1) (he4 _) (hd4 _) (hdd4 _) M (by have h2 : ((0 : Nat) : Int) ≤ (m.fr t).sp := P.sp; omega) (by have h2 : ((m.fr t).sp : Int) - ((0 : Nat) : Int) + 1 ≤ 64 := P.room; omega) (by omega) hX fun hm2 g1 g2 M2 => ?_; conv => whnf
  refine RetX.drop (h' := join (join hi hm2) hb) (Ext.jj (he4 _) g1 g2) (fin_val X (T := 0) rfl rfl (by omega) rfl M2 (Dj.back (Ext.j2 (he4 _) g1 (Ext.refl hm2)) g2) (Ext.refl hi) (fun _ h => h) rfl ?_ P.R' hk)
  rfl
set_option maxRecDepth 100000 in
set_option maxHeartbeats 4000000 in
theorem x_67 (E : EnvM m orig) (P : OpS hi hm hb eb m t w sn v mems stale 67 A S S') (hk : PlK hi eb m t w sn mems orig 67 S' s0 l0 K) : CallX Hval.prog 191 [.pointer (some ⟨eb, 0, none⟩)] (join (join hi hm) hb) K := by
  have X := P.X
  have M := X.M
  have h7 := M.t7
  have F := M.f
  have q : ∀ i, (A i : Int) < W := fun i => P.hA i ▸ (argM_W M i).2
  have hs64 := F.sp
  have hpc := P.pc
  have hro := P.room
  refine CallX.of_xf T_ok Hval.func191 rfl (by kernel_rfl) (Nat.le_of_ble_eq_true rfl) ?_; conv => whnf
  refine running_ok M (Ext.jl _ _) ?_; conv => whnf
  repeat (first | (refine CondX.tt ?_; conv => whnf) | (refine CondX.ff ?_; conv => whnf))
  refine BoxX.jj M.A.V.dj X.dj fun n4 he4 hd4 hdd4 => ?_; conv => whnf
  refine Ob.mk ⟨rfl, rfl⟩ ?_; conv => whnf
  refine StoreX.fr (StoreX.jx (x := wc 0) (Nat.le_of_ble_eq_true rfl) rfl ?_); conv => whnf
  have hMe : ∀ y, Ext (join hi hm) (join (join (hput hi n4 y) hm) hb) := fun y => (Ext.j2 (he4 y) (hd4 y) (Ext.refl hm)).trans (Ext.jl _ _)
  have hbE : ∀ y, (join (join (hput hi n4 y) hm) hb) eb = some (fnv 27024 (eC (mC eb m) v), 101) := fun y => M.blk (hMe y)
  refine opcodeM_ok M (hMe _) ?_
  rw [P.ho]; conv => whnf
  repeat (first | (refine CondX.tt ?_; conv => whnf) | (refine CondX.ff ?_; conv => whnf))
  refine LoadX.fx (hbE _) (2260 + 20) rfl (by omega) (E.at (k := 20) (x := .int .u64 0) rfl (by omega)) ?_; conv => whnf
  have hX : 0 ≤ (0 : Int) ∧ (0 : Int) < W := ⟨by omega, by rw [W_val]; decide⟩
  refine Ob.mk ⟨by omega, by omega⟩ ?_; conv => whnf
  refine StoreX.fr (StoreX.jx (x := wc 0) (Nat.le_of_ble_eq_true rfl) (by rw [wc_lim (x := 0) (by omega) (by omega)]; rfl) ?_); conv => whnf
  refine LoadX.all (c := wc 0) (join_l (join_l (hput_same ..))) rfl ?_; conv => whnf
  refine settleS_w (tk := 0) (st := 1) (he4 _) (hd4 _) (hdd4 _) M (by have h2 : ((0 : Nat) : Int) ≤ (m.fr t).sp := P.sp; omega) (by have h2 : ((m.fr t).sp : Int) - ((0 : Nat) : Int) + 1 ≤ 64 := P.room; omega) (by omega) hX fun hm2 g1 g2 M2 => ?_; conv => whnf
  refine RetX.drop (h' := join (join hi hm2) hb) (Ext.jj (he4 _) g1 g2) (fin_val X (T := 0) rfl rfl (by omega) rfl M2 (Dj.back (Ext.j2 (he4 _) g1 (Ext.refl hm2)) g2) (Ext.refl hi) (fun _ h => h) rfl ?_ P.R' hk)
  rfl
set_option maxRecDepth 100000 in
set_option maxHeartbeats 4000000 in
theorem x_68 (E : EnvM m orig) (P : OpS hi hm hb eb m t w sn v mems stale 68 A S S') (hk : PlK hi eb m t w sn mems orig 68 S' s0 l0 K) : CallX Hval.prog 191 [.pointer (some ⟨eb, 0, none⟩)] (join (join hi hm) hb) K := by
  have X := P.X
  have M := X.M
  have h7 := M.t7
  have F := M.f
  have q : ∀ i, (A i : Int) < W := fun i => P.hA i ▸ (argM_W M i).2
  have hs64 := F.sp
  have hpc := P.pc
  have hro := P.room
  refine CallX.of_xf T_ok Hval.func191 rfl (by kernel_rfl) (Nat.le_of_ble_eq_true rfl) ?_; conv => whnf
  refine running_ok M (Ext.jl _ _) ?_; conv => whnf
  repeat (first | (refine CondX.tt ?_; conv => whnf) | (refine CondX.ff ?_; conv => whnf))
  refine BoxX.jj M.A.V.dj X.dj fun n4 he4 hd4 hdd4 => ?_; conv => whnf
  refine Ob.mk ⟨rfl, rfl⟩ ?_; conv => whnf
  refine StoreX.fr (StoreX.jx (x := wc 0) (Nat.le_of_ble_eq_true rfl) rfl ?_); conv => whnf
  have hMe : ∀ y, Ext (join hi hm) (join (join (hput hi n4 y) hm) hb) := fun y => (Ext.j2 (he4 y) (hd4 y) (Ext.refl hm)).trans (Ext.jl _ _)
  have hbE : ∀ y, (join (join (hput hi n4 y) hm) hb) eb = some (fnv 27024 (eC (mC eb m) v), 101) := fun y => M.blk (hMe y)
  refine opcodeM_ok M (hMe _) ?_
  rw [P.ho]; conv => whnf
  repeat (first | (refine CondX.tt ?_; conv => whnf) | (refine CondX.ff ?_; conv => whnf))
  refine LoadX.fnA (hbE _) (2260 + 23) rfl (by show _ + 32 ≤ _; omega) ?_
  rw [show (33, y33).snd.size = 32 from rfl, E.seg (k := 23) (l := List.replicate 32 0) rfl (by omega)]; conv => whnf
  refine fromBytes_ok (l := List.replicate 32 0) rfl (isB_zeros _) ?_
  rw [show bv (List.replicate 32 0) = 0 by decide]; conv => whnf
  have hX : 0 ≤ (0 : Int) ∧ (0 : Int) < W := ⟨by omega, W_pos⟩
  refine Ob.mk ⟨rfl, rfl⟩ ?_; conv => whnf
  refine StoreX.fr (StoreX.jx (x := wc 0) (Nat.le_of_ble_eq_true rfl) (setSeg_all (by rfl)) ?_); conv => whnf
  refine LoadX.all (c := wc 0) (join_l (join_l (hput_same ..))) rfl ?_; conv => whnf
  refine settleS_w (tk := 0) (st := 1) (he4 _) (hd4 _) (hdd4 _) M (by have h2 : ((0 : Nat) : Int) ≤ (m.fr t).sp := P.sp; omega) (by have h2 : ((m.fr t).sp : Int) - ((0 : Nat) : Int) + 1 ≤ 64 := P.room; omega) (by omega) hX fun hm2 g1 g2 M2 => ?_; conv => whnf
  refine RetX.drop (h' := join (join hi hm2) hb) (Ext.jj (he4 _) g1 g2) (fin_val X (T := 0) rfl rfl (by omega) rfl M2 (Dj.back (Ext.j2 (he4 _) g1 (Ext.refl hm2)) g2) (Ext.refl hi) (fun _ h => h) rfl ?_ P.R' hk)
  rfl
set_option maxRecDepth 100000 in
set_option maxHeartbeats 4000000 in
theorem x_69 (E : EnvM m orig) (P : OpS hi hm hb eb m t w sn v mems stale 69 A S S') (hk : PlK hi eb m t w sn mems orig 69 S' s0 l0 K) : CallX Hval.prog 191 [.pointer (some ⟨eb, 0, none⟩)] (join (join hi hm) hb) K := by
  have X := P.X
  have M := X.M
  have h7 := M.t7
  have F := M.f
  have q : ∀ i, (A i : Int) < W := fun i => P.hA i ▸ (argM_W M i).2
  have hs64 := F.sp
  have hpc := P.pc
  have hro := P.room
  refine CallX.of_xf T_ok Hval.func191 rfl (by kernel_rfl) (Nat.le_of_ble_eq_true rfl) ?_; conv => whnf
  refine running_ok M (Ext.jl _ _) ?_; conv => whnf
  repeat (first | (refine CondX.tt ?_; conv => whnf) | (refine CondX.ff ?_; conv => whnf))
  refine BoxX.jj M.A.V.dj X.dj fun n4 he4 hd4 hdd4 => ?_; conv => whnf
  refine Ob.mk ⟨rfl, rfl⟩ ?_; conv => whnf
  refine StoreX.fr (StoreX.jx (x := wc 0) (Nat.le_of_ble_eq_true rfl) rfl ?_); conv => whnf
  have hMe : ∀ y, Ext (join hi hm) (join (join (hput hi n4 y) hm) hb) := fun y => (Ext.j2 (he4 y) (hd4 y) (Ext.refl hm)).trans (Ext.jl _ _)
  have hbE : ∀ y, (join (join (hput hi n4 y) hm) hb) eb = some (fnv 27024 (eC (mC eb m) v), 101) := fun y => M.blk (hMe y)
  refine opcodeM_ok M (hMe _) ?_
  rw [P.ho]; conv => whnf
  repeat (first | (refine CondX.tt ?_; conv => whnf) | (refine CondX.ff ?_; conv => whnf))
  refine LoadX.fx (hbE _) (2260 + 22) rfl (by omega) (E.at (k := 22) (x := .int .u64 1048576) rfl (by omega)) ?_; conv => whnf
  have hX : 0 ≤ (1048576 : Int) ∧ (1048576 : Int) < W := ⟨by omega, by rw [W_val]; decide⟩
  refine Ob.mk ⟨by omega, by omega⟩ ?_; conv => whnf
  refine StoreX.fr (StoreX.jx (x := wc 1048576) (Nat.le_of_ble_eq_true rfl) (by rw [wc_lim (x := 1048576) (by omega) (by omega)]; rfl) ?_); conv => whnf
  refine LoadX.all (c := wc 1048576) (join_l (join_l (hput_same ..))) rfl ?_; conv => whnf
  refine settleS_w (tk := 0) (st := 1) (he4 _) (hd4 _) (hdd4 _) M (by have h2 : ((0 : Nat) : Int) ≤ (m.fr t).sp := P.sp; omega) (by have h2 : ((m.fr t).sp : Int) - ((0 : Nat) : Int) + 1 ≤ 64 := P.room; omega) (by omega) hX fun hm2 g1 g2 M2 => ?_; conv => whnf
  refine RetX.drop (h' := join (join hi hm2) hb) (Ext.jj (he4 _) g1 g2) (fin_val X (T := 0) rfl rfl (by omega) rfl M2 (Dj.back (Ext.j2 (he4 _) g1 (Ext.refl hm2)) g2) (Ext.refl hi) (fun _ h => h) rfl ?_ P.R' hk)
  rfl
set_option maxRecDepth 100000 in
set_option maxHeartbeats 4000000 in
theorem x_70 (E : EnvM m orig) (P : OpS hi hm hb eb m t w sn v mems stale 70 A S S') (hk : PlK hi eb m t w sn mems orig 70 S' s0 l0 K) : CallX Hval.prog 191 [.pointer (some ⟨eb, 0, none⟩)] (join (join hi hm) hb) K := by
  have X := P.X
  have M := X.M
  have h7 := M.t7
  have F := M.f
  have q : ∀ i, (A i : Int) < W := fun i => P.hA i ▸ (argM_W M i).2
  have hs64 := F.sp
  have hpc := P.pc
  have hro := P.room
  refine CallX.of_xf T_ok Hval.func191 rfl (by kernel_rfl) (Nat.le_of_ble_eq_true rfl) ?_; conv => whnf
  refine running_ok M (Ext.jl _ _) ?_; conv => whnf
  repeat (first | (refine CondX.tt ?_; conv => whnf) | (refine CondX.ff ?_; conv => whnf))
  refine BoxX.jj M.A.V.dj X.dj fun n4 he4 hd4 hdd4 => ?_; conv => whnf
  refine Ob.mk ⟨rfl, rfl⟩ ?_; conv => whnf
  refine StoreX.fr (StoreX.jx (x := wc 0) (Nat.le_of_ble_eq_true rfl) rfl ?_); conv => whnf
  have hMe : ∀ y, Ext (join hi hm) (join (join (hput hi n4 y) hm) hb) := fun y => (Ext.j2 (he4 y) (hd4 y) (Ext.refl hm)).trans (Ext.jl _ _)
  have hbE : ∀ y, (join (join (hput hi n4 y) hm) hb) eb = some (fnv 27024 (eC (mC eb m) v), 101) := fun y => M.blk (hMe y)
  refine opcodeM_ok M (hMe _) ?_
  rw [P.ho]; conv => whnf
  repeat (first | (refine CondX.tt ?_; conv => whnf) | (refine CondX.ff ?_; conv => whnf))
  refine LoadX.fnA (hbE _) (2260 + 55) rfl (by show _ + 32 ≤ _; omega) ?_
  rw [show (33, y33).snd.size = 32 from rfl, E.seg (k := 55) (l := List.replicate 32 0) rfl (by omega)]; conv => whnf
  refine fromBytes_ok (l := List.replicate 32 0) rfl (isB_zeros _) ?_
  rw [show bv (List.replicate 32 0) = 0 by decide]; conv => whnf
  have hX : 0 ≤ (0 : Int) ∧ (0 : Int) < W := ⟨by omega, W_pos⟩
  refine Ob.mk ⟨rfl, rfl⟩ ?_; conv => whnf
  refine StoreX.fr (StoreX.jx (x := wc 0) (Nat.le_of_ble_eq_true rfl) (setSeg_all (by rfl)) ?_); conv => whnf
  refine LoadX.all (c := wc 0) (join_l (join_l (hput_same ..))) rfl ?_; conv => whnf
  refine settleS_w (tk := 0) (st := 1) (he4 _) (hd4 _) (hdd4 _) M (by have h2 : ((0 : Nat) : Int) ≤ (m.fr t).sp := P.sp; omega) (by have h2 : ((m.fr t).sp : Int) - ((0 : Nat) : Int) + 1 ≤ 64 := P.room; omega) (by omega) hX fun hm2 g1 g2 M2 => ?_; conv => whnf
  refine RetX.drop (h' := join (join hi hm2) hb) (Ext.jj (he4 _) g1 g2) (fin_val X (T := 0) rfl rfl (by omega) rfl M2 (Dj.back (Ext.j2 (he4 _) g1 (Ext.refl hm2)) g2) (Ext.refl hi) (fun _ h => h) rfl ?_ P.R' hk)
  rfl
set_option maxRecDepth 100000 in
set_option maxHeartbeats 4000000 in
theorem x_72 (E : EnvM m orig) (P : OpS hi hm hb eb m t w sn v mems stale 72 A S S') (hk : PlK hi eb m t w sn mems orig 72 S' s0 l0 K) : CallX Hval.prog 191 [.pointer (some ⟨eb, 0, none⟩)] (join (join hi hm) hb) K := by
  have X := P.X
  have M := X.M
  have h7 := M.t7
  have F := M.f
  have q : ∀ i, (A i : Int) < W := fun i => P.hA i ▸ (argM_W M i).2
  have hs64 := F.sp
  have hpc := P.pc
  have hro := P.room
  refine CallX.of_xf T_ok Hval.func191 rfl (by kernel_rfl) (Nat.le_of_ble_eq_true rfl) ?_; conv => whnf
  refine running_ok M (Ext.jl _ _) ?_; conv => whnf
  repeat (first | (refine CondX.tt ?_; conv => whnf) | (refine CondX.ff ?_; conv => whnf))
  refine BoxX.jj M.A.V.dj X.dj fun n4 he4 hd4 hdd4 => ?_; conv => whnf
  refine Ob.mk ⟨rfl, rfl⟩ ?_; conv => whnf
  refine StoreX.fr (StoreX.jx (x := wc 0) (Nat.le_of_ble_eq_true rfl) rfl ?_); conv => whnf
  have hMe : ∀ y, Ext (join hi hm) (join (join (hput hi n4 y) hm) hb) := fun y => (Ext.j2 (he4 y) (hd4 y) (Ext.refl hm)).trans (Ext.jl _ _)
  have hbE : ∀ y, (join (join (hput hi n4 y) hm) hb) eb = some (fnv 27024 (eC (mC eb m) v), 101) := fun y => M.blk (hMe y)
  refine opcodeM_ok M (hMe _) ?_
  rw [P.ho]; conv => whnf
  repeat (first | (refine CondX.tt ?_; conv => whnf) | (refine CondX.ff ?_; conv => whnf))
  refine LoadX.fnA (hbE _) (2260 + 87) rfl (by show _ + 32 ≤ _; omega) ?_
  rw [show (33, y33).snd.size = 32 from rfl, E.seg (k := 87) (l := List.replicate 32 0) rfl (by omega)]; conv => whnf
  refine fromBytes_ok (l := List.replicate 32 0) rfl (isB_zeros _) ?_
  rw [show bv (List.replicate 32 0) = 0 by decide]; conv => whnf
  have hX : 0 ≤ (0 : Int) ∧ (0 : Int) < W := ⟨by omega, W_pos⟩
  refine Ob.mk ⟨rfl, rfl⟩ ?_; conv => whnf
  refine StoreX.fr (StoreX.jx (x := wc 0) (Nat.le_of_ble_eq_true rfl) (setSeg_all (by rfl)) ?_); conv => whnf
  refine LoadX.all (c := wc 0) (join_l (join_l (hput_same ..))) rfl ?_; conv => whnf
  refine settleS_w (tk := 0) (st := 1) (he4 _) (hd4 _) (hdd4 _) M (by have h2 : ((0 : Nat) : Int) ≤ (m.fr t).sp := P.sp; omega) (by have h2 : ((m.fr t).sp : Int) - ((0 : Nat) : Int) + 1 ≤ 64 := P.room; omega) (by omega) hX fun hm2 g1 g2 M2 => ?_; conv => whnf
  refine RetX.drop (h' := join (join hi hm2) hb) (Ext.jj (he4 _) g1 g2) (fin_val X (T := 0) rfl rfl (by omega) rfl M2 (Dj.back (Ext.j2 (he4 _) g1 (Ext.refl hm2)) g2) (Ext.refl hi) (fun _ h => h) rfl ?_ P.R' hk)
  rfl
end
end Go.Proofs.YgvalwGreat.X
