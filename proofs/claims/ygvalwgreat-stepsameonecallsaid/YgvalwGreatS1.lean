import Derived.Test.YgvalwGreatY2
set_option linter.unusedVariables false
set_option linter.unusedSimpArgs false
namespace Go.Proofs.YgvalwGreat.X
open Go

section
variable {h : Hp} {K : Value → Hp → Prop} {g : Int} {sD : Sl} {base : Option Addr} {len cap : Nat} {l d : List Int}
set_option maxRecDepth 100000 in
set_option maxHeartbeats 4000000 in
theorem addrNo_ok {x : Int} (hk : K (.agg (bcells (adr x)).toArray) h) : CallX Hval.prog 17 [.int .u8 x] h K := by
  refine CallX.of_xf T_ok Hval.func17 rfl (by kernel_rfl) (Nat.le_of_ble_eq_true rfl) ?_; conv => whnf
  refine BoxX.mk fun m1 hm1 => ?_; conv => whnf
  refine Ob.mk ⟨rfl, rfl⟩ ?_; conv => whnf
  refine StoreX.same (Nat.le_of_ble_eq_true rfl) ?_; conv => whnf
  refine LoadX.all (c := bcells (adr x)) (t := 31) (hput_same ..) rfl ?_; conv => whnf
  exact RetX.drop (Ext.bd hm1) hk
set_option maxRecDepth 100000 in
set_option maxHeartbeats 4000000 in
theorem sender_ok (hk : K (.agg (bcells sndA).toArray) h) : CallX Hval.prog 19 [] h K := by
  refine CallX.of_xf T_ok Hval.func19 rfl (by kernel_rfl) (Nat.le_of_ble_eq_true rfl) ?_; conv => whnf
  refine BoxX.mk fun m1 hm1 => ?_; conv => whnf
  refine addrNo_ok ?_; conv => whnf
  refine Ob.mk ⟨rfl, rfl⟩ ?_; conv => whnf
  refine StoreX.same (Nat.le_of_ble_eq_true rfl) ?_; conv => whnf
  refine LoadX.all (c := bcells sndA) (t := 31) (hput_same ..) rfl ?_; conv => whnf
  exact RetX.drop (Ext.bd hm1) hk
set_option maxRecDepth 100000 in
set_option maxHeartbeats 4000000 in
theorem copyB_ok (hb : Byt h base len cap l) (hk : ∀ s h', Ext h h' → BytS h' s l → K (sl s) h') : CallX Hval.prog 18 [.slice base len cap] h K := by
  have hl := hb.len
  have hr := hb.room
  refine CallX.of_xf T_ok Hval.func18 rfl (by kernel_rfl) (Nat.le_of_ble_eq_true rfl) ?_; conv => whnf
  cases base with
  | none =>
    have : l = [] := List.eq_nil_of_length_eq_zero (by have := hb.rd; unfold rd at this; split at this <;> simp_all)
    subst this
    repeat (first | (refine CondX.tt ?_; conv => whnf) | (refine CondX.ff ?_; conv => whnf))
    exact RetX.same (hk nilS h (Ext.refl h) (Byt_nil h))
  | some ad =>
    repeat (first | (refine CondX.tt ?_; conv => whnf) | (refine CondX.ff ?_; conv => whnf))
    refine MakeX.bytes len rfl (by omega) fun m hm => ?_; conv => whnf
    refine CopyX.bytes (hb.ext (Ext.bd hm)) (by simp) ?_; conv => whnf
    rw [Int.toNat_natCast, show Nat.min len len = len from Nat.min_self _, List.take_of_length_le (by omega)]
    have e : ovl (List.replicate len 0) 0 l = l := by
      unfold ovl
      rw [List.take_zero, List.nil_append, Nat.zero_add, List.drop_of_length_le (by simp; omega), List.append_nil]
    rw [e]
    exact RetX.same (hk (some ⟨m, 0, none⟩, len, len) _ (Ext.bd hm) (own_all hb.isB hl.symm (by omega)))
set_option maxRecDepth 100000 in
set_option maxHeartbeats 4000000 in
theorem stageEnv_ok (hk : K (.agg stEnv.toArray) h) : CallX Hval.prog 7 [] h K := by
  refine CallX.of_xf T_ok Hval.func7 rfl (by kernel_rfl) (Nat.le_of_ble_eq_true rfl) ?_; conv => whnf
  refine BoxX.mk fun m1 hm1 => ?_; conv => whnf
  refine addrNo_ok ?_; conv => whnf
  refine Ob.mk ⟨rfl, rfl⟩ ?_; conv => whnf
  refine StoreX.same (Nat.le_of_ble_eq_true rfl) ?_; conv => whnf
  refine LoadX.all (c := stEnv) (t := 36) (hput_same ..) rfl ?_; conv => whnf
  exact RetX.drop (Ext.bd hm1) hk
set_option maxRecDepth 100000 in
set_option maxHeartbeats 4000000 in
theorem toA1_ok (hk : K (.agg (txC nilS 200000).toArray) h) : CallX Hval.prog 21 [] h K := by
  refine CallX.of_xf T_ok Hval.func21 rfl (by kernel_rfl) (Nat.le_of_ble_eq_true rfl) ?_; conv => whnf
  refine BoxX.mk fun m1 hm1 => ?_; conv => whnf
  refine sender_ok ?_; conv => whnf
  refine addrNo_ok ?_; conv => whnf
  refine Ob.mk ⟨rfl, rfl⟩ ?_; conv => whnf
  refine StoreX.same (Nat.le_of_ble_eq_true rfl) ?_; conv => whnf
  refine LoadX.all (c := txC nilS 200000) (t := 40) (hput_same ..) rfl ?_; conv => whnf
  exact RetX.drop (Ext.bd hm1) hk
set_option maxRecDepth 100000 in
set_option maxHeartbeats 4000000 in
theorem callOf_ok (hb : Byt h base len cap d) (hk : ∀ s h', Ext h h' → BytS h' s d → K (.agg (txC s g).toArray) h') : CallX Hval.prog 8 [.slice base len cap, .int .u64 g] h K := by
  rw [← join_hNil h]
  refine CallX.of_xf T_ok Hval.func8 rfl (by kernel_rfl) (Nat.le_of_ble_eq_true rfl) ?_; conv => whnf
  refine BoxX.jm (Dj_hNil h) fun m1 q1 q2 d1 => ?_; conv => whnf
  refine toA1_ok ?_; conv => whnf
  refine BoxX.jm d1 fun m2 q3 q4 d2 => ?_; conv => whnf
  refine Ob.mk ⟨rfl, rfl⟩ ?_; conv => whnf
  refine StoreX.top d2 (txC nilS 200000) (setSeg_all rfl) (Nat.le_of_ble_eq_true rfl) fun d3 => ?_; conv => whnf
  refine CallX.fj d3 (copyB_ok hb fun s h' e1 hs d4 => ?_); conv => whnf
  refine StoreX.top d4 (txC s 200000) rfl (Nat.le_of_ble_eq_true rfl) fun d5 => ?_; conv => whnf
  refine StoreX.top d5 (txC s g) rfl (Nat.le_of_ble_eq_true rfl) fun d6 => ?_; conv => whnf
  refine LoadX.all (join_hm d6 (hput_same ..)) rfl ?_; conv => whnf
  have hne : m1 ≠ m2 := by rintro rfl; rw [hput_same] at q4; cases q4
  refine Ob.mk ⟨rfl, rfl⟩ ?_; conv => whnf
  have bm1 : hput (hput hNil m1 ((40, y40).snd.zero, 40)) m2 (txC s g, 40) m1 = some ((40, y40).snd.zero, 40) := by rw [hput_ne hne]; exact hput_same ..
  refine StoreX.jm d6 bm1 (Nat.le_of_ble_eq_true rfl) ?_; conv => whnf
  refine LoadX.all (c := txC s g) (join_hm (Dj.put d6 bm1) (hput_same ..)) rfl ?_; conv => whnf
  exact RetX.drop (Ext.jl _ _) (hk s h' e1 hs)
end
end Go.Proofs.YgvalwGreat.X
