import Derived.Test.YgvalwGreatM40
set_option linter.unusedVariables false
set_option linter.unusedSimpArgs false
namespace Go.Proofs.YgvalwGreat.X
open Go

section
variable {hi hi' hm hm' hb hb' h : Hp} {K : Value → Hp → Prop} {v v' : VS} {eb : Nat} {m m' : MS} {t : Nat} {mems : Nat → List Int} {stale stale' mem' orig a : List Int} {w w' : AW} {sn : List AW} {s0 l0 S S' x o : Int} {A : Nat → Nat}
set_option maxRecDepth 100000 in
set_option maxHeartbeats 4000000 in
theorem x_81 (P : OpS hi hm hb eb m t w sn v mems stale 81 A S S') (hk : PlK hi eb m t w sn mems orig 81 S' s0 l0 K) : CallX Hval.prog 192 [.pointer (some ⟨eb, 0, none⟩)] (join (join hi hm) hb) K := by
  have hfit : A 0 + 32 ≤ (mems t).length := by have := P.fit; have e : reachI 81 (fun i => (A i : Int)) = (A 0 : Int) + 32 := rfl; omega
  have X := P.X
  have M := X.M
  have h7 := M.t7
  have F := M.f
  have q : ∀ i, (A i : Int) < W := fun i => P.hA i ▸ (argM_W M i).2
  have hs64 := F.sp
  have hpc := P.pc
  have hmf := X.mm.top.few
  simp only [List.length_append] at hmf
  refine CallX.of_xf T_ok Hval.func192 rfl (by kernel_rfl) (Nat.le_of_ble_eq_true rfl) ?_; conv => whnf
  refine running_ok M (Ext.jl _ _) ?_; conv => whnf
  repeat (first | (refine CondX.tt ?_; conv => whnf) | (refine CondX.ff ?_; conv => whnf))
  refine arg_okM (i := 0) M (Ext.jl _ _) (by decide) ?_
  rw [P.hA]; conv => whnf
  refine small_okM (q 0) (by omega) ?_; conv => whnf
  refine arg_okM (i := 1) M (Ext.jl _ _) (by decide) ?_
  rw [P.hA]; conv => whnf
  refine BoxX.jj M.A.V.dj X.dj fun n4 he4 hd4 hdd4 => ?_; conv => whnf
  refine Ob.mk ⟨rfl, rfl⟩ ?_; conv => whnf
  refine StoreX.fr (StoreX.jx (x := wc (A 1)) (Nat.le_of_ble_eq_true rfl) rfl ?_); conv => whnf
  have eI := he4 (wc (A 1), 75)
  have dI := hd4 (wc (A 1), 75)
  have dJ := hdd4 (wc (A 1), 75)
  have bx : (hput hi n4 (wc (A 1), 75)) n4 = some (wc (A 1), 75) := hput_same ..
  generalize hput hi n4 (wc (A 1), 75) = h1 at *
  have hMe : Ext (join hi hm) (join (join h1 hm) hb) := (Ext.j2 eI dI (Ext.refl hm)).trans (Ext.jl _ _)
  have hbE := M.blk hMe
  have hbJ := M.blk (Ext.j2 eI dI (Ext.refl hm))
  refine opcodeM_ok M hMe ?_
  rw [P.ho]; conv => whnf
  repeat (first | (refine CondX.tt ?_; conv => whnf) | (refine CondX.ff ?_; conv => whnf))
  refine load32_ok hbE X.mm.top (Ext.jr dJ) h7 hfit ?_; conv => whnf
  obtain ⟨l, el⟩ : ∃ l, ((mems t).drop (A 0)).take 32 = l := ⟨_, rfl⟩
  have hll : l.length = 32 := by rw [← el, List.length_take, List.length_drop]; omega
  have hlB : isB l := by
    rw [← el]
    exact fun d hd => X.mm.top.buf.isB d (List.mem_append_right _ (List.mem_append_left _ (List.mem_of_mem_drop (List.mem_of_mem_take hd))))
  rw [el]
  refine BoxX.jj dI dJ fun n5 he5 hd5 hdd5 => ?_; conv => whnf
  refine Ob.mk ⟨by rw [List.size_toArray, bcells_len, hll]; rfl, ones_bcells _⟩ ?_; conv => whnf
  refine StoreX.fr (StoreX.jx (x := bcells l) (by rw [List.toList_toArray, bcells_len, hll]; exact Nat.le_of_ble_eq_true rfl) (setSeg_all (by rw [List.toList_toArray, bcells_len, hll]; rfl)) ?_); conv => whnf
  repeat (first | (refine CondX.tt ?_; conv => whnf) | (refine CondX.ff ?_; conv => whnf))
  refine LoadX.all (c := bcells l) (join_l (join_l (hput_same ..))) (by rw [bcells_len, hll]; rfl) ?_; conv => whnf
  refine fromBytes_ok hll hlB ?_; conv => whnf
  refine settleS_w (tk := 1) (st := 1) (eI.trans (he5 _)) (hd5 _) (hdd5 _) M (Int.ofNat_le.1 P.sp) (by have h2 : ((m.fr t).sp : Int) - ((1 : Nat) : Int) + 1 ≤ 64 := P.room; omega) (by omega) (bv32 hll hlB) fun hm2 g1 g2 M2 => ?_; conv => whnf
  refine RetX.drop (h' := join (join hi hm2) hb) (Ext.jj (eI.trans (he5 _)) g1 g2) (fin_val X (T := 1) rfl rfl (by omega) rfl M2 (Dj.back (Ext.j2 (eI.trans (he5 _)) g1 (Ext.refl hm2)) g2) (Ext.refl hi) (fun _ h => h) rfl ?_ P.R' hk)
  rw [opA_eq P.hA (T := 1) rfl, ← el, ← cutN_in hfit]
  rfl
set_option maxRecDepth 100000 in
set_option maxHeartbeats 4000000 in
theorem x_82 (P : OpS hi hm hb eb m t w sn v mems stale 82 A S S') (hk : PlK hi eb m t w sn mems orig 82 S' s0 l0 K) : CallX Hval.prog 192 [.pointer (some ⟨eb, 0, none⟩)] (join (join hi hm) hb) K := by
  have hfit : A 0 + 32 ≤ (mems t).length := by have := P.fit; have e : reachI 82 (fun i => (A i : Int)) = (A 0 : Int) + 32 := rfl; omega
  have X := P.X
  have M := X.M
  have h7 := M.t7
  have F := M.f
  have q : ∀ i, (A i : Int) < W := fun i => P.hA i ▸ (argM_W M i).2
  have hs64 := F.sp
  have hpc := P.pc
  have hmf := X.mm.top.few
  simp only [List.length_append] at hmf
  refine CallX.of_xf T_ok Hval.func192 rfl (by kernel_rfl) (Nat.le_of_ble_eq_true rfl) ?_; conv => whnf
  refine running_ok M (Ext.jl _ _) ?_; conv => whnf
  repeat (first | (refine CondX.tt ?_; conv => whnf) | (refine CondX.ff ?_; conv => whnf))
  refine arg_okM (i := 0) M (Ext.jl _ _) (by decide) ?_
  rw [P.hA]; conv => whnf
  refine small_okM (q 0) (by omega) ?_; conv => whnf
  refine arg_okM (i := 1) M (Ext.jl _ _) (by decide) ?_
  rw [P.hA]; conv => whnf
  refine BoxX.jj M.A.V.dj X.dj fun n4 he4 hd4 hdd4 => ?_; conv => whnf
  refine Ob.mk ⟨rfl, rfl⟩ ?_; conv => whnf
  refine StoreX.fr (StoreX.jx (x := wc (A 1)) (Nat.le_of_ble_eq_true rfl) rfl ?_); conv => whnf
  have eI := he4 (wc (A 1), 75)
  have dI := hd4 (wc (A 1), 75)
  have dJ := hdd4 (wc (A 1), 75)
  have bx : (hput hi n4 (wc (A 1), 75)) n4 = some (wc (A 1), 75) := hput_same ..
  generalize hput hi n4 (wc (A 1), 75) = h1 at *
  have hMe : Ext (join hi hm) (join (join h1 hm) hb) := (Ext.j2 eI dI (Ext.refl hm)).trans (Ext.jl _ _)
  have hbE := M.blk hMe
  have hbJ := M.blk (Ext.j2 eI dI (Ext.refl hm))
  refine opcodeM_ok M hMe ?_
  rw [P.ho]; conv => whnf
  repeat (first | (refine CondX.tt ?_; conv => whnf) | (refine CondX.ff ?_; conv => whnf))
  refine DrawX.go T_ok hM Hval.func192 (tb := dr192) rfl (by kernel_rfl) ?_; conv => whnf
  refine LoadX.all (c := wc (A 1)) (join_l (join_l bx)) rfl ?_; conv => whnf
  refine eBE32_ok (by omega) (q 1) ?_; conv => whnf
  repeat (refine Ob.mk (by exact ldV_all (c := wc (A 1)) (join_l (join_l bx)) rfl) ?_; conv => whnf)
  refine store32_ok hbJ X.mm.top dJ h7 hfit (be_length ..) (isB_be _ _) fun hb2 d2 B2 => ?_; conv => whnf
  repeat (refine Ob.mk (by exact ldV_all (c := wc (A 1)) (join_l (join_l bx)) rfl) ?_; conv => whnf)
  repeat (first | (refine CondX.tt ?_; conv => whnf) | (refine CondX.ff ?_; conv => whnf))
  refine settleN_w (x := 0) (tk := 2) (st := 1) eI dI d2 M (Int.ofNat_le.1 P.sp) (by omega) fun hm2 g1 g2 M2 => ?_; conv => whnf
  refine RetX.drop (h' := join (join hi hm2) hb2) (Ext.jj eI g1 g2) (fin_eff X (T := 2) rfl rfl (by omega) rfl M2 (Dj.back (Ext.j2 eI g1 (Ext.refl hm2)) g2) (Ext.refl hi) (fun _ h => h) B2 rfl ?_ P.R' hk)
  rw [opA_eq P.hA (T := 2) rfl]
  show writeI (mems t) (A 0) (be 32 (A 1)) = _
  rw [writeI_ovl (by rw [be_length]; exact hfit) (by intro hh; have := congrArg List.length hh; rw [be_length] at this; cases this)]
theorem be_31 (x : Int) : (be 32 x).drop 31 = [x % 256] := by
  rw [show 32 = 1 + 31 from rfl, be_app, List.drop_left' (be_length ..)]
  rfl
theorem and255 {x : Nat} : IntKind.u8.wrap (IntKind.u64.wrap ((BitVec.ofInt IntKind.u64.bits ((x : Int) % 18446744073709551616) &&& BitVec.ofInt IntKind.u64.bits 255).toNat : Int)) = (x : Int) % 256 := by
  have e : (x : Int) % 18446744073709551616 = ((x % 2 ^ 64 : Nat) : Int) := by omega
  rw [e, kand64m (M := 255) (m := 255) rfl (Nat.mod_lt _ (by decide)) (by decide), show (255 : Nat) = 2 ^ 8 - 1 from rfl, Nat.and_two_pow_sub_one_eq_mod, wrap_u8]
  omega
set_option maxRecDepth 100000 in
set_option maxHeartbeats 4000000 in
theorem x_83 (P : OpS hi hm hb eb m t w sn v mems stale 83 A S S') (hk : PlK hi eb m t w sn mems orig 83 S' s0 l0 K) : CallX Hval.prog 192 [.pointer (some ⟨eb, 0, none⟩)] (join (join hi hm) hb) K := by
  have hfit : A 0 + 1 ≤ (mems t).length := by have := P.fit; have e : reachI 83 (fun i => (A i : Int)) = (A 0 : Int) + 1 := rfl; omega
  have X := P.X
  have M := X.M
  have h7 := M.t7
  have F := M.f
  have q : ∀ i, (A i : Int) < W := fun i => P.hA i ▸ (argM_W M i).2
  have hs64 := F.sp
  have hpc := P.pc
  have hmf := X.mm.top.few
  simp only [List.length_append] at hmf
  refine CallX.of_xf T_ok Hval.func192 rfl (by kernel_rfl) (Nat.le_of_ble_eq_true rfl) ?_; conv => whnf
  refine running_ok M (Ext.jl _ _) ?_; conv => whnf
  repeat (first | (refine CondX.tt ?_; conv => whnf) | (refine CondX.ff ?_; conv => whnf))
  refine arg_okM (i := 0) M (Ext.jl _ _) (by decide) ?_
  rw [P.hA]; conv => whnf
  refine small_okM (q 0) (by omega) ?_; conv => whnf
  refine arg_okM (i := 1) M (Ext.jl _ _) (by decide) ?_
  rw [P.hA]; conv => whnf
  refine BoxX.jj M.A.V.dj X.dj fun n4 he4 hd4 hdd4 => ?_; conv => whnf
  refine Ob.mk ⟨rfl, rfl⟩ ?_; conv => whnf
  refine StoreX.fr (StoreX.jx (x := wc (A 1)) (Nat.le_of_ble_eq_true rfl) rfl ?_); conv => whnf
  have eI := he4 (wc (A 1), 75)
  have dI := hd4 (wc (A 1), 75)
  have dJ := hdd4 (wc (A 1), 75)
  have bx : (hput hi n4 (wc (A 1), 75)) n4 = some (wc (A 1), 75) := hput_same ..
  generalize hput hi n4 (wc (A 1), 75) = h1 at *
  have hMe : Ext (join hi hm) (join (join h1 hm) hb) := (Ext.j2 eI dI (Ext.refl hm)).trans (Ext.jl _ _)
  have hbE := M.blk hMe
  have hbJ := M.blk (Ext.j2 eI dI (Ext.refl hm))
  refine opcodeM_ok M hMe ?_
  rw [P.ho]; conv => whnf
  repeat (first | (refine CondX.tt ?_; conv => whnf) | (refine CondX.ff ?_; conv => whnf))
  refine DrawX.go T_ok hM Hval.func192 (tb := dr192) rfl (by kernel_rfl) ?_; conv => whnf
  refine Ob.mk ⟨by omega, by omega⟩ ?_; conv => whnf
  refine LoadX.of (.int .u64 ((A 1 : Int) % 18446744073709551616)) (ldV_blk (join_l (join_l bx)) rfl) ?_; conv => whnf
  rw [and255]
  refine store8_ok hbJ X.mm.top dJ h7 hfit (by omega) fun hb2 d2 B2 => ?_; conv => whnf
  repeat (refine Ob.mk (by exact ldV_blk (join_l (join_l bx)) rfl) ?_; conv => whnf)
  repeat (first | (refine CondX.tt ?_; conv => whnf) | (refine CondX.ff ?_; conv => whnf))
  refine settleN_w (x := 0) (tk := 2) (st := 1) eI dI d2 M (Int.ofNat_le.1 P.sp) (by omega) fun hm2 g1 g2 M2 => ?_; conv => whnf
  refine RetX.drop (h' := join (join hi hm2) hb2) (Ext.jj eI g1 g2) (fin_eff X (T := 2) rfl rfl (by omega) rfl M2 (Dj.back (Ext.j2 eI g1 (Ext.refl hm2)) g2) (Ext.refl hi) (fun _ h => h) B2 rfl ?_ P.R' hk)
  rw [opA_eq P.hA (T := 2) rfl]
  show writeI (mems t) (A 0) ((be 32 (A 1)).drop 31) = _
  rw [be_31, writeI_ovl hfit (by simp)]
end
end Go.Proofs.YgvalwGreat.X
