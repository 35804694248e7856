import Derived.Test.YgvalwGreatE51
set_option linter.unusedVariables false
set_option linter.unusedSimpArgs false
namespace Go.Proofs.YgvalwGreat.X
open Go

section
variable {h : Hp} {K : Value → Hp → Prop} {base : Option Addr} {len cap : Nat} {l : List Int}
set_option maxRecDepth 100000 in
set_option maxHeartbeats 4000000 in
theorem copiedV_ok (hb : Byt h base len cap l) (hk : ∀ s h', Ext h h' → BytS h' s l → K (sl s) h') : CallX Hval.prog 139 [.slice base len cap] h K := by
  refine CallX.of_xf T_ok Hval.func139 rfl (by kernel_rfl) (Nat.le_of_ble_eq_true rfl) ?_; conv => whnf
  have hl := hb.len
  have hr := hb.room
  refine CondX.eqI (fun h0 => ?_) (fun h0 => ?_) <;> conv => whnf
  · have : l = [] := List.eq_nil_of_length_eq_zero (by omega)
    subst this
    exact RetX.same (hk nilS h (Ext.refl h) (Byt_nil h))
  · refine MakeX.bytes len rfl (by omega) fun m hm => ?_; conv => whnf
    refine CopyX.bytes (hb.ext (Ext.bd hm)) (by simp) ?_; conv => whnf
    rw [Int.toNat_natCast, show Nat.min len len = len from Nat.min_self _, List.take_of_length_le (by omega)]
    have e : ovl (List.replicate len 0) 0 l = l := by
      unfold ovl
      rw [List.take_zero, List.nil_append, Nat.zero_add, List.drop_of_length_le (by simp; omega), List.append_nil]
    rw [e]
    exact RetX.same (hk (some ⟨m, 0, none⟩, len, len) _ (Ext.bd hm) (own_all hb.isB hl.symm (by omega)))
set_option maxRecDepth 100000 in
set_option maxHeartbeats 4000000 in
theorem copiedM_ok (hb : Byt h base len cap l) (hk : ∀ s h', Ext h h' → BytS h' s l → K (sl s) h') : CallX Hval.prog 106 [.slice base len cap] h K := by
  refine CallX.of_xf T_ok Hval.func106 rfl (by kernel_rfl) (Nat.le_of_ble_eq_true rfl) ?_; conv => whnf
  have hl := hb.len
  have hr := hb.room
  refine CondX.eqI (fun h0 => ?_) (fun h0 => ?_) <;> conv => whnf
  · have : l = [] := List.eq_nil_of_length_eq_zero (by omega)
    subst this
    exact RetX.same (hk nilS h (Ext.refl h) (Byt_nil h))
  · refine MakeX.bytes len rfl (by omega) fun m hm => ?_; conv => whnf
    refine CopyX.bytes (hb.ext (Ext.bd hm)) (by simp) ?_; conv => whnf
    rw [Int.toNat_natCast, show Nat.min len len = len from Nat.min_self _, List.take_of_length_le (by omega)]
    have e : ovl (List.replicate len 0) 0 l = l := by
      unfold ovl
      rw [List.take_zero, List.nil_append, Nat.zero_add, List.drop_of_length_le (by simp; omega), List.append_nil]
    rw [e]
    exact RetX.same (hk (some ⟨m, 0, none⟩, len, len) _ (Ext.bd hm) (own_all hb.isB hl.symm (by omega)))
set_option maxRecDepth 100000 in
set_option maxHeartbeats 4000000 in
theorem copiedE_ok (hb : Byt h base len cap l) (hk : ∀ s h', Ext h h' → BytS h' s l → K (sl s) h') : CallX Hval.prog 81 [.slice base len cap] h K := by
  refine CallX.of_xf T_ok Hval.func81 rfl (by kernel_rfl) (Nat.le_of_ble_eq_true rfl) ?_; conv => whnf
  have hl := hb.len
  have hr := hb.room
  refine CondX.eqI (fun h0 => ?_) (fun h0 => ?_) <;> conv => whnf
  · have : l = [] := List.eq_nil_of_length_eq_zero (by omega)
    subst this
    exact RetX.same (hk nilS h (Ext.refl h) (Byt_nil h))
  · refine MakeX.bytes len rfl (by omega) fun m hm => ?_; conv => whnf
    refine CopyX.bytes (hb.ext (Ext.bd hm)) (by simp) ?_; conv => whnf
    rw [Int.toNat_natCast, show Nat.min len len = len from Nat.min_self _, List.take_of_length_le (by omega)]
    have e : ovl (List.replicate len 0) 0 l = l := by
      unfold ovl
      rw [List.take_zero, List.nil_append, Nat.zero_add, List.drop_of_length_le (by simp; omega), List.append_nil]
    rw [e]
    exact RetX.same (hk (some ⟨m, 0, none⟩, len, len) _ (Ext.bd hm) (own_all hb.isB hl.symm (by omega)))
end
section
variable {h hi hm : Hp} {K : Value → Hp → Prop} {mc : Nat → Value} {v : VS} {eb : Nat} {w : AW} {sn : List AW} {a : List Int}
theorem gA_some {c : VCore} {i : Nat} (h1 : idxA c.aL a = some i) : gA c a = c.aL.getD i dA := by unfold gA; rw [h1]
theorem gA_none {c : VCore} (h1 : idxA c.aL a = none) : gA c a = zA a := by unfold gA; rw [h1]
theorem VA.fld (A : VA hi hm eb mc w sn v) (he : Ext (join hi hm) h) {i m : Nat} (hi' : i < v.aL.length) (hma : v.aS.1 = some ⟨m, 0, none⟩) (j : Nat) (hj : j < 9) : ldV false 1 h m (0 + i * 29 + (20 + j)) = (Value.int .u64 (v.aL.getD i dA).nonce :: (wc (v.aL.getD i dA).bal ++ [sl (v.aL.getD i dA).cs, .bool (v.aL.getD i dA).warm, .bool (v.aL.getD i dA).made, .bool (v.aL.getD i dA).gone]))[j]? := by
  have hal := A.V.aT.len
  rw [List.length_map] at hal
  rw [((A.V.aT.arr A.V.dj).ext he).fld hma (by omega) (by omega), getMap (d := dA) hi']
  exact aC_at (A.V.cok.awf _ (getDm hi')).1.1 j
theorem VA.fldB (A : VA hi hm eb mc w sn v) (he : Ext (join hi hm) h) {i m : Nat} (hi' : i < v.aL.length) (hma : v.aS.1 = some ⟨m, 0, none⟩) : ldV true 4 h m (0 + i * 29 + 21) = some (.agg (wc (v.aL.getD i dA).bal).toArray) := by
  have hal := A.V.aT.len
  rw [List.length_map] at hal
  rw [((A.V.aT.arr A.V.dj).ext he).seg hma (by omega) (by omega), getMap (d := dA) hi', aC_seg (x := v.aL.getD i dA) (A.V.cok.awf _ (getDm hi')).1.1]
theorem VA.blk (A : VA hi hm eb mc w sn v) (he : Ext (join hi hm) h) : h eb = some (fnv 27024 (eC mc v), 101) := he _ _ (join_hm A.V.dj A.V.blk)
set_option maxRecDepth 100000 in
set_option maxHeartbeats 4000000 in
theorem refund_ok (A : VA hi hm eb mc w sn v) (he : Ext (join hi hm) h) (hk : K (.int .u64 w.ref) h) : CallX Hval.prog 105 [.pointer (some ⟨eb, 2435, none⟩)] h K := by
  have hmean := A.abs
  subst hmean
  refine CallX.of_xf T_ok Hval.func105 rfl (by kernel_rfl) (Nat.le_of_ble_eq_true rfl) ?_; conv => whnf
  refine LoadX.fn (A.blk he) 27015 rfl (by omega) ?_
  rw [eC_ref]; conv => whnf
  exact RetX.same hk
set_option maxRecDepth 100000 in
set_option maxHeartbeats 4000000 in
theorem isWarmAcct_ok (hl : a.length = 20) (hB : isB a) (A : VA hi hm eb mc w sn v) (he : Ext (join hi hm) h) (hk : K (.bool (w.warmA a)) h) : CallX Hval.prog 157 [.pointer (some ⟨eb, 2435, none⟩), .agg (bcells a).toArray] h K := by
  have hal := A.V.aT.len
  rw [List.length_map] at hal
  have alen : (bcells a).length = (31, y31).snd.size := by rw [bcells_len, hl]; rfl
  have hmean := A.abs
  subst hmean
  refine CallX.of_xf T_ok Hval.func157 rfl (by kernel_rfl) (Nat.le_of_ble_eq_true rfl) ?_; conv => whnf
  refine BoxX.ext fun n1 hn1 en1 => ?_; conv => whnf
  refine LoadX.all (c := bcells a) (hput_same ..) alen ?_; conv => whnf
  have he1 := he.trans en1
  refine findA hl hB he1 A.V (fun i hi' h1 => ?_) (fun h1 p _ _ => ?_) <;> conv => whnf
  · refine CondX.dT (by omega) ?_; conv => whnf
    repeat (first | (refine CondX.tt ?_; conv => whnf) | (refine CondX.ff ?_; conv => whnf))
    refine LoadX.fn (A.blk he1) 2435 rfl (by omega) ?_
    rw [eC_a]; conv => whnf
    repeat (first | (refine CondX.tt ?_; conv => whnf) | (refine CondX.ff ?_; conv => whnf))
    refine IdxX.tag A.V.aT (by omega) (by omega) fun m hma => ?_; conv => whnf
    repeat (first | (refine CondX.tt ?_; conv => whnf) | (refine CondX.ff ?_; conv => whnf))
    refine LoadX.of _ (A.fld he1 hi' hma 6 (by omega)) ?_; conv => whnf
    repeat (first | (refine CondX.tt ?_; conv => whnf) | (refine CondX.ff ?_; conv => whnf))
    refine RetX.drop (h' := h) (Ext.bd hn1) ?_
    have hk := hk
    rw [show (absC v.core).warmA a = (gA v.core a).warm from rfl, gA_some (c := v.core) h1] at hk
    exact hk
  · refine CondX.dF (by omega) ?_; conv => whnf
    repeat (first | (refine CondX.tt ?_; conv => whnf) | (refine CondX.ff ?_; conv => whnf))
    refine RetX.drop (h' := h) (Ext.bd hn1) ?_
    have hk := hk
    rw [show (absC v.core).warmA a = (gA v.core a).warm from rfl, gA_none (c := v.core) h1] at hk
    exact hk
set_option maxRecDepth 100000 in
set_option maxHeartbeats 4000000 in
theorem isMade_ok (hl : a.length = 20) (hB : isB a) (A : VA hi hm eb mc w sn v) (he : Ext (join hi hm) h) (hk : K (.bool (w.made a)) h) : CallX Hval.prog 295 [.pointer (some ⟨eb, 2435, none⟩), .agg (bcells a).toArray] h K := by
  have hal := A.V.aT.len
  rw [List.length_map] at hal
  have alen : (bcells a).length = (31, y31).snd.size := by rw [bcells_len, hl]; rfl
  have hmean := A.abs
  subst hmean
  refine CallX.of_xf T_ok Hval.func295 rfl (by kernel_rfl) (Nat.le_of_ble_eq_true rfl) ?_; conv => whnf
  refine BoxX.ext fun n1 hn1 en1 => ?_; conv => whnf
  refine LoadX.all (c := bcells a) (hput_same ..) alen ?_; conv => whnf
  have he1 := he.trans en1
  refine findA hl hB he1 A.V (fun i hi' h1 => ?_) (fun h1 p _ _ => ?_) <;> conv => whnf
  · refine CondX.dT (by omega) ?_; conv => whnf
    repeat (first | (refine CondX.tt ?_; conv => whnf) | (refine CondX.ff ?_; conv => whnf))
    refine LoadX.fn (A.blk he1) 2435 rfl (by omega) ?_
    rw [eC_a]; conv => whnf
    repeat (first | (refine CondX.tt ?_; conv => whnf) | (refine CondX.ff ?_; conv => whnf))
    refine IdxX.tag A.V.aT (by omega) (by omega) fun m hma => ?_; conv => whnf
    repeat (first | (refine CondX.tt ?_; conv => whnf) | (refine CondX.ff ?_; conv => whnf))
    refine LoadX.of _ (A.fld he1 hi' hma 7 (by omega)) ?_; conv => whnf
    repeat (first | (refine CondX.tt ?_; conv => whnf) | (refine CondX.ff ?_; conv => whnf))
    refine RetX.drop (h' := h) (Ext.bd hn1) ?_
    have hk := hk
    rw [show (absC v.core).made a = (gA v.core a).made from rfl, gA_some (c := v.core) h1] at hk
    exact hk
  · refine CondX.dF (by omega) ?_; conv => whnf
    repeat (first | (refine CondX.tt ?_; conv => whnf) | (refine CondX.ff ?_; conv => whnf))
    refine RetX.drop (h' := h) (Ext.bd hn1) ?_
    have hk := hk
    rw [show (absC v.core).made a = (gA v.core a).made from rfl, gA_none (c := v.core) h1] at hk
    exact hk
set_option maxRecDepth 100000 in
set_option maxHeartbeats 4000000 in
theorem isGone_ok (hl : a.length = 20) (hB : isB a) (A : VA hi hm eb mc w sn v) (he : Ext (join hi hm) h) (hk : K (.bool (w.gone a)) h) : CallX Hval.prog 296 [.pointer (some ⟨eb, 2435, none⟩), .agg (bcells a).toArray] h K := by
  have hal := A.V.aT.len
  rw [List.length_map] at hal
  have alen : (bcells a).length = (31, y31).snd.size := by rw [bcells_len, hl]; rfl
  have hmean := A.abs
  subst hmean
  refine CallX.of_xf T_ok Hval.func296 rfl (by kernel_rfl) (Nat.le_of_ble_eq_true rfl) ?_; conv => whnf
  refine BoxX.ext fun n1 hn1 en1 => ?_; conv => whnf
  refine LoadX.all (c := bcells a) (hput_same ..) alen ?_; conv => whnf
  have he1 := he.trans en1
  refine findA hl hB he1 A.V (fun i hi' h1 => ?_) (fun h1 p _ _ => ?_) <;> conv => whnf
  · refine CondX.dT (by omega) ?_; conv => whnf
    repeat (first | (refine CondX.tt ?_; conv => whnf) | (refine CondX.ff ?_; conv => whnf))
    refine LoadX.fn (A.blk he1) 2435 rfl (by omega) ?_
    rw [eC_a]; conv => whnf
    repeat (first | (refine CondX.tt ?_; conv => whnf) | (refine CondX.ff ?_; conv => whnf))
    refine IdxX.tag A.V.aT (by omega) (by omega) fun m hma => ?_; conv => whnf
    repeat (first | (refine CondX.tt ?_; conv => whnf) | (refine CondX.ff ?_; conv => whnf))
    refine LoadX.of _ (A.fld he1 hi' hma 8 (by omega)) ?_; conv => whnf
    repeat (first | (refine CondX.tt ?_; conv => whnf) | (refine CondX.ff ?_; conv => whnf))
    refine RetX.drop (h' := h) (Ext.bd hn1) ?_
    have hk := hk
    rw [show (absC v.core).gone a = (gA v.core a).gone from rfl, gA_some (c := v.core) h1] at hk
    exact hk
  · refine CondX.dF (by omega) ?_; conv => whnf
    repeat (first | (refine CondX.tt ?_; conv => whnf) | (refine CondX.ff ?_; conv => whnf))
    refine RetX.drop (h' := h) (Ext.bd hn1) ?_
    have hk := hk
    rw [show (absC v.core).gone a = (gA v.core a).gone from rfl, gA_none (c := v.core) h1] at hk
    exact hk
set_option maxRecDepth 100000 in
set_option maxHeartbeats 4000000 in
theorem nonce_ok (hl : a.length = 20) (hB : isB a) (A : VA hi hm eb mc w sn v) (he : Ext (join hi hm) h) (hk : K (.int .u64 (w.acct a).nonce) h) : CallX Hval.prog 143 [.pointer (some ⟨eb, 2435, none⟩), .agg (bcells a).toArray] h K := by
  have hal := A.V.aT.len
  rw [List.length_map] at hal
  have alen : (bcells a).length = (31, y31).snd.size := by rw [bcells_len, hl]; rfl
  have hmean := A.abs
  subst hmean
  refine CallX.of_xf T_ok Hval.func143 rfl (by kernel_rfl) (Nat.le_of_ble_eq_true rfl) ?_; conv => whnf
  refine BoxX.ext fun n1 hn1 en1 => ?_; conv => whnf
  refine LoadX.all (c := bcells a) (hput_same ..) alen ?_; conv => whnf
  have he1 := he.trans en1
  refine findA hl hB he1 A.V (fun i hi' h1 => ?_) (fun h1 p _ _ => ?_) <;> conv => whnf
  · refine CondX.dT (by omega) ?_; conv => whnf
    refine LoadX.fn (A.blk he1) 2435 rfl (by omega) ?_
    rw [eC_a]; conv => whnf
    refine IdxX.tag A.V.aT (by omega) (by omega) fun m hma => ?_; conv => whnf
    refine LoadX.of _ (A.fld he1 hi' hma 0 (by omega)) ?_; conv => whnf
    refine RetX.drop (h' := h) (Ext.bd hn1) ?_
    have hk := hk
    rw [show ((absC v.core).acct a).nonce = (gA v.core a).nonce from rfl, gA_some (c := v.core) h1] at hk
    exact hk
  · refine CondX.dF (by omega) ?_; conv => whnf
    refine RetX.drop (h' := h) (Ext.bd hn1) ?_
    have hk := hk
    rw [show ((absC v.core).acct a).nonce = (gA v.core a).nonce from rfl, gA_none (c := v.core) h1] at hk
    exact hk
set_option maxRecDepth 100000 in
set_option maxHeartbeats 4000000 in
theorem balance_ok (hl : a.length = 20) (hB : isB a) (A : VA hi hm eb mc w sn v) (he : Ext (join hi hm) h) (hk : K (.agg (wc (w.acct a).bal).toArray) h) : CallX Hval.prog 75 [.pointer (some ⟨eb, 2435, none⟩), .agg (bcells a).toArray] h K := by
  have hal := A.V.aT.len
  rw [List.length_map] at hal
  have alen : (bcells a).length = (31, y31).snd.size := by rw [bcells_len, hl]; rfl
  have hmean := A.abs
  subst hmean
  refine CallX.of_xf T_ok Hval.func75 rfl (by kernel_rfl) (Nat.le_of_ble_eq_true rfl) ?_; conv => whnf
  refine BoxX.ext fun n1 hn1 en1 => ?_; conv => whnf
  refine BoxX.ext fun n2 hn2 en2 => ?_; conv => whnf
  have hne : n1 ≠ n2 := fun e => by have := hn2.at; rw [← e, hput_same] at this; cases this
  refine LoadX.all (c := bcells a) (by rw [hput_ne hne]; exact hput_same ..) alen ?_; conv => whnf
  have he1 := (he.trans en1).trans en2
  have hdr : Ext h (hput (hput h n1 ((bcells a).toArray.toList, 31)) n2 ((75, y75).snd.zero, 75)) := en1.trans en2
  refine findA hl hB he1 A.V (fun i hi' h1 => ?_) (fun h1 p _ _ => ?_) <;> conv => whnf
  · refine CondX.dT (by omega) ?_; conv => whnf
    refine LoadX.fn (A.blk he1) 2435 rfl (by omega) ?_
    rw [eC_a]; conv => whnf
    refine IdxX.tag A.V.aT (by omega) (by omega) fun m hma => ?_; conv => whnf
    refine LoadX.of _ (A.fldB he1 hi' hma) ?_; conv => whnf
    refine Ob.mk ⟨rfl, rfl⟩ ?_; conv => whnf
    refine StoreX.whole (hput_same ..) rfl ?_
    rw [hput_hput]; conv => whnf
    refine LoadX.all (hput_same ..) rfl ?_; conv => whnf
    refine RetX.drop (h' := h) (fun b x hb => ?_) ?_
    · rw [hput_ne (fun e => by subst e; have := en1 _ _ hb; rw [hn2.at] at this; cases this)]; exact en1 _ _ hb
    have hk := hk
    rw [show ((absC v.core).acct a).bal = (gA v.core a).bal from rfl, gA_some (c := v.core) h1] at hk
    exact hk
  · refine CondX.dF (by omega) ?_; conv => whnf
    refine Ob.mk ⟨rfl, rfl⟩ ?_; conv => whnf
    refine StoreX.whole (hput_same ..) rfl ?_
    rw [hput_hput]; conv => whnf
    refine LoadX.all (hput_same ..) rfl ?_; conv => whnf
    refine RetX.drop (h' := h) (fun b x hb => ?_) ?_
    · rw [hput_ne (fun e => by subst e; have := en1 _ _ hb; rw [hn2.at] at this; cases this)]; exact en1 _ _ hb
    have hk := hk
    rw [show ((absC v.core).acct a).bal = (gA v.core a).bal from rfl, gA_none (c := v.core) h1] at hk
    exact hk
set_option maxRecDepth 100000 in
set_option maxHeartbeats 4000000 in
theorem code_ok (hl : a.length = 20) (hB : isB a) (A : VA hi hm eb mc w sn v) (he : Ext (join hi hm) h) (hk : ∀ s h', Ext h h' → BytS h' s (w.acct a).code → K (sl s) h') : CallX Hval.prog 80 [.pointer (some ⟨eb, 2435, none⟩), .agg (bcells a).toArray] h K := by
  have hal := A.V.aT.len
  rw [List.length_map] at hal
  have alen : (bcells a).length = (31, y31).snd.size := by rw [bcells_len, hl]; rfl
  have hmean := A.abs
  subst hmean
  refine CallX.of_xf T_ok Hval.func80 rfl (by kernel_rfl) (Nat.le_of_ble_eq_true rfl) ?_; conv => whnf
  refine BoxX.ext fun n1 hn1 en1 => ?_; conv => whnf
  refine LoadX.all (c := bcells a) (hput_same ..) alen ?_; conv => whnf
  have he1 := he.trans en1
  refine findA hl hB he1 A.V (fun i hi' h1 => ?_) (fun h1 p _ _ => ?_) <;> conv => whnf
  · refine CondX.dT (by omega) ?_; conv => whnf
    refine LoadX.fn (A.blk he1) 2435 rfl (by omega) ?_
    rw [eC_a]; conv => whnf
    refine IdxX.tag A.V.aT (by omega) (by omega) fun m hma => ?_; conv => whnf
    refine LoadX.of _ (A.fld he1 hi' hma 5 (by omega)) ?_; conv => whnf
    have hcd := ((A.V.ac _ (getDm (d := dA) hi')).ext (Ext.jl hi hm)).ext he1
    refine copiedV_ok hcd fun s h' e1 hs => ?_; conv => whnf
    refine RetX.same (hk s h' (en1.trans e1) ?_)
    rw [show ((absC v.core).acct a).code = (gA v.core a).code from rfl, gA_some (c := v.core) h1]
    exact hs
  · refine CondX.dF (by omega) ?_; conv => whnf
    refine RetX.same (hk nilS _ en1 ?_)
    rw [show ((absC v.core).acct a).code = (gA v.core a).code from rfl, gA_none (c := v.core) h1]
    exact Byt_nil _
end
end Go.Proofs.YgvalwGreat.X
