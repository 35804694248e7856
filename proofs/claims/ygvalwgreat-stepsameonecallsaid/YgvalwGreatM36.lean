import Derived.Test.YgvalwGreatM35
set_option linter.unusedVariables false
set_option linter.unusedSimpArgs false
namespace Go.Proofs.YgvalwGreat.X
open Go

theorem CallX.rdrop {P : Program} {f : FuncId} {args : List Value} {h : Hp} {K : Value → Hp → Prop} (hc : CallX P f args h (fun v h' => ∃ h0, Ext h0 h' ∧ K v h0)) : CallX P f args h K := by
  have hF : ∀ {w w' : World} {h' h0 : Hp}, Ext h0 h' → Fr h w h' w' → Fr h w h0 w' := fun {_ _ _ h0} he f => ⟨f.size, f.keep, fun b h1 h2 => f.new b h1 fun hn => h2 (by
    cases hx : h0 b with
    | none => rfl
    | some x => rw [he _ _ hx] at hn; cases hn), f.os, f.out⟩
  refine ⟨fun w hs => ?_⟩
  have := hc.run w hs
  generalize (callFunc f args.toArray).run P w = r at this ⊢
  split at this
  · obtain ⟨e1, e2⟩ := this
    refine ⟨e1, Calls.mono e2 fun e w' hr => ?_⟩
    obtain ⟨v, h', e3, ⟨h0, he, e4⟩, e5, e6⟩ := hr
    exact ⟨v, h0, e3, e4, e5.weaken he, hF he e6⟩
  · obtain ⟨h', ⟨h0, he, e4⟩, e5, e6⟩ := this
    exact ⟨h0, e4, e5.weaken he, hF he e6⟩
  · exact this
/-- A slice whose block is new. -/
def New (h : Hp) (s : Sl) : Prop := ∀ a, s.1 = some a → h a.block = none
section
variable {h hi hi0 hm hb : Hp} {s : Sl} {l : List Int}
theorem Byt.move {h h' : Hp} (B : BytS h s l) (he : ∀ a, s.1 = some a → h' a.block = h a.block) : BytS h' s l := by
  refine ⟨?_, B.isB, B.le, B.nil, B.room⟩
  have h1 := B.rd
  cases hs : s.1 with
  | none => rw [hs] at h1; exact h1
  | some a =>
    rw [hs] at h1
    obtain ⟨b, o, x⟩ := a
    have := he _ hs
    cases x with
    | some _ => exact h1
    | none =>
      simp only [X.rd] at h1 ⊢
      rw [this]; exact h1
/-- What a reader has laid anew counts with the unchanging part. -/
theorem own_j2 (hd0 : Dj hi hm) {h' : Hp} (he : Ext (join hi hm) h') (hs : BytS h' s l) (hf : New (join hi hm) s) : ∃ hi', Ext hi hi' ∧ Dj hi' hm ∧ h' = join hi' hm ∧ BytS hi' s l := by
  have hI : ∀ b, hm b = none → (fun b => match hm b with | some _ => none | none => h' b : Hp) b = h' b := fun b hb => by dsimp only; rw [hb]
  refine ⟨fun b => match hm b with | some _ => none | none => h' b, fun b x hx => ?_, fun b => ?_, ?_, hs.move fun a ha => ?_⟩
  · have hmb : hm b = none := by
      rcases hd0 b with h1 | h1
      · rw [h1] at hx; cases hx
      · exact h1
    dsimp only; rw [hmb]; exact he _ _ (join_l hx)
  · dsimp only
    cases h2 : hm b with
    | none => exact .inr rfl
    | some y => exact .inl rfl
  · funext b
    cases h2 : hm b with
    | none =>
      cases h3 : h' b with
      | none => rw [join_r (by rw [h2]; exact h3), h2]
      | some y => rw [join_l (x := y) (by rw [h2]; exact h3)]
    | some y => rw [join_r (by rw [h2]), h2]; exact he _ _ (join_hm hd0 h2)
  · refine hI _ ?_
    have := hf a ha
    exact (join_none this).2
theorem own_j (hd0 : Dj hi hm) (hd : Dj (join hi hm) hb) {h' : Hp} (he : Ext (join (join hi hm) hb) h') (hs : BytS h' s l) (hf : New (join (join hi hm) hb) s) : ∃ hi', Ext hi hi' ∧ Dj hi' hm ∧ Dj (join hi' hm) hb ∧ h' = join (join hi' hm) hb ∧ BytS hi' s l := by
  obtain ⟨h1, e1, d1, rfl, b1⟩ := own_j2 hd he hs hf
  obtain ⟨h2, e2, d2, rfl, b2⟩ := own_j2 hd0 e1 b1 fun a ha => (join_none (hf a ha)).1
  exact ⟨h2, e2, d2, d1, rfl, b2⟩
theorem ext_j (hd0 : Dj hi hm) (hd : Dj (join hi hm) hb) {h' : Hp} (he : Ext (join (join hi hm) hb) h') : ∃ hi', Ext hi hi' ∧ Dj hi' hm ∧ Dj (join hi' hm) hb ∧ h' = join (join hi' hm) hb := by
  obtain ⟨hi', e1, d1, d2, e2, -⟩ := own_j (s := nilS) (l := []) hd0 hd he (Byt_nil _) (fun a ha => by cases ha)
  exact ⟨hi', e1, d1, d2, e2⟩
end
section
variable {h : Hp} {K : Value → Hp → Prop} {base : Option Addr} {len cap : Nat} {l : List Int}
set_option maxRecDepth 100000 in
set_option maxHeartbeats 4000000 in
theorem copiedV_own (hb : Byt h base len cap l) (hk : ∀ s h', Ext h h' → BytS h' s l → New h s → K (sl s) h') : CallX Hval.prog 139 [.slice base len cap] h K := by
  refine CallX.of_xf T_ok Hval.func139 rfl (by kernel_rfl) (Nat.le_of_ble_eq_true rfl) ?_; conv => whnf
  have hl := hb.len
  have hr := hb.room
  refine CondX.eqI (fun h0 => ?_) (fun h0 => ?_) <;> conv => whnf
  · have : l = [] := List.eq_nil_of_length_eq_zero (by omega)
    subst this
    exact RetX.same (hk nilS h (Ext.refl h) (Byt_nil h) fun a ha => by cases ha)
  · refine MakeX.bytes len rfl (by omega) fun m hm => ?_; conv => whnf
    refine CopyX.bytes (hb.ext (Ext.bd hm)) (by simp) ?_; conv => whnf
    rw [Int.toNat_natCast, show Nat.min len len = len from Nat.min_self _, List.take_of_length_le (by omega)]
    have e : ovl (List.replicate len 0) 0 l = l := by
      unfold ovl
      rw [List.take_zero, List.nil_append, Nat.zero_add, List.drop_of_length_le (by simp; omega), List.append_nil]
    rw [e]
    exact RetX.same (hk (some ⟨m, 0, none⟩, len, len) _ (Ext.bd hm) (own_all hb.isB hl.symm (by omega)) fun a ha => by cases ha; exact hm.none (Nat.le_refl _))
set_option maxRecDepth 100000 in
set_option maxHeartbeats 4000000 in
theorem copiedM_own (hb : Byt h base len cap l) (hk : ∀ s h', Ext h h' → BytS h' s l → New h s → K (sl s) h') : CallX Hval.prog 106 [.slice base len cap] h K := by
  refine CallX.of_xf T_ok Hval.func106 rfl (by kernel_rfl) (Nat.le_of_ble_eq_true rfl) ?_; conv => whnf
  have hl := hb.len
  have hr := hb.room
  refine CondX.eqI (fun h0 => ?_) (fun h0 => ?_) <;> conv => whnf
  · have : l = [] := List.eq_nil_of_length_eq_zero (by omega)
    subst this
    exact RetX.same (hk nilS h (Ext.refl h) (Byt_nil h) fun a ha => by cases ha)
  · refine MakeX.bytes len rfl (by omega) fun m hm => ?_; conv => whnf
    refine CopyX.bytes (hb.ext (Ext.bd hm)) (by simp) ?_; conv => whnf
    rw [Int.toNat_natCast, show Nat.min len len = len from Nat.min_self _, List.take_of_length_le (by omega)]
    have e : ovl (List.replicate len 0) 0 l = l := by
      unfold ovl
      rw [List.take_zero, List.nil_append, Nat.zero_add, List.drop_of_length_le (by simp; omega), List.append_nil]
    rw [e]
    exact RetX.same (hk (some ⟨m, 0, none⟩, len, len) _ (Ext.bd hm) (own_all hb.isB hl.symm (by omega)) fun a ha => by cases ha; exact hm.none (Nat.le_refl _))
set_option maxRecDepth 100000 in
set_option maxHeartbeats 4000000 in
theorem copiedE_own (hb : Byt h base len cap l) (hk : ∀ s h', Ext h h' → BytS h' s l → New h s → K (sl s) h') : CallX Hval.prog 81 [.slice base len cap] h K := by
  refine CallX.of_xf T_ok Hval.func81 rfl (by kernel_rfl) (Nat.le_of_ble_eq_true rfl) ?_; conv => whnf
  have hl := hb.len
  have hr := hb.room
  refine CondX.eqI (fun h0 => ?_) (fun h0 => ?_) <;> conv => whnf
  · have : l = [] := List.eq_nil_of_length_eq_zero (by omega)
    subst this
    exact RetX.same (hk nilS h (Ext.refl h) (Byt_nil h) fun a ha => by cases ha)
  · refine MakeX.bytes len rfl (by omega) fun m hm => ?_; conv => whnf
    refine CopyX.bytes (hb.ext (Ext.bd hm)) (by simp) ?_; conv => whnf
    rw [Int.toNat_natCast, show Nat.min len len = len from Nat.min_self _, List.take_of_length_le (by omega)]
    have e : ovl (List.replicate len 0) 0 l = l := by
      unfold ovl
      rw [List.take_zero, List.nil_append, Nat.zero_add, List.drop_of_length_le (by simp; omega), List.append_nil]
    rw [e]
    exact RetX.same (hk (some ⟨m, 0, none⟩, len, len) _ (Ext.bd hm) (own_all hb.isB hl.symm (by omega)) fun a ha => by cases ha; exact hm.none (Nat.le_refl _))
end
section
variable {h hi hi0 hm hb : Hp} {K : Value → Hp → Prop} {v : VS} {eb : Nat} {w : AW} {sn : List AW} {m : MS} {t : Nat} {a : List Int} {mc : Nat → Value} {low mem stale : List Int}
theorem New.mono {h h' : Hp} {s : Sl} (he : Ext h h') (hn : New h' s) : New h s := fun a ha => by
  have := hn a ha
  cases hx : h a.block with
  | none => rfl
  | some x => rw [he _ _ hx] at this; cases this
set_option maxRecDepth 100000 in
set_option maxHeartbeats 4000000 in
theorem code_own (hl : a.length = 20) (hB : isB a) (A : VA hi hm eb mc w sn v) (he : Ext (join hi hm) h) (hk : ∀ s h', Ext h h' → BytS h' s (w.acct a).code → New h s → K (sl s) h') : CallX Hval.prog 80 [.pointer (some ⟨eb, 2435, none⟩), .agg (bcells a).toArray] h K := by
  have hal := A.V.aT.len
  rw [List.length_map] at hal
  have alen : (bcells a).length = (31, y31).snd.size := by rw [bcells_len, hl]; rfl
  have hmean := A.abs
  subst hmean
  refine CallX.of_xf T_ok Hval.func80 rfl (by kernel_rfl) (Nat.le_of_ble_eq_true rfl) ?_; conv => whnf
  refine BoxX.ext fun n1 hn1 en1 => ?_; conv => whnf
  refine LoadX.all (c := bcells a) (hput_same ..) alen ?_; conv => whnf
  have he1 := he.trans en1
  refine findA hl hB he1 A.V (fun i hi' h1 => ?_) (fun h1 p _ _ => ?_) <;> conv => whnf
  · refine CondX.dT (by omega) ?_; conv => whnf
    refine LoadX.fn (A.blk he1) 2435 rfl (by omega) ?_
    rw [eC_a]; conv => whnf
    refine IdxX.tag A.V.aT (by omega) (by omega) fun m hma => ?_; conv => whnf
    refine LoadX.of _ (A.fld he1 hi' hma 5 (by omega)) ?_; conv => whnf
    have hcd := ((A.V.ac _ (getDm (d := dA) hi')).ext (Ext.jl hi hm)).ext he1
    refine copiedV_own hcd fun s h' e1 hs hw => ?_; conv => whnf
    refine RetX.same (hk s h' (en1.trans e1) ?_ (hw.mono en1))
    rw [show ((absC v.core).acct a).code = (gA v.core a).code from rfl, gA_some (c := v.core) h1]
    exact hs
  · refine CondX.dF (by omega) ?_; conv => whnf
    refine RetX.same (hk nilS _ en1 ?_ fun a ha => by cases ha)
    rw [show ((absC v.core).acct a).code = (gA v.core a).code from rfl, gA_none (c := v.core) h1]
    exact Byt_nil _
set_option maxRecDepth 100000 in
set_option maxHeartbeats 4000000 in
theorem aread_own {off n : Nat} (hbE : h eb = some (fnv 27024 (eC (mC eb m) v), 101)) (B : MBf hb m t low mem stale) (he : Ext hb h) (h7 : t < 7) (ho : off + n ≤ mem.length) (hk : ∀ s h', Ext h h' → BytS h' s ((mem.drop off).take n) → (0 < n → s.1.isSome = true) → New h s → K (sl s) h') : CallX Hval.prog 107 [.pointer (some ⟨eb, 1, none⟩), .int .u32 off, .int .u32 n] h K := by
  have hl := B.lens
  have hP := B.bytP he ho
  have hPl := hP.len
  refine CallX.of_xf T_ok Hval.func107 rfl (by kernel_rfl) (Nat.le_of_ble_eq_true rfl) ?_; conv => whnf
  refine apart_ok hbE B he h7 ho ?_; conv => whnf
  repeat (first | (refine CondX.tt ?_; conv => whnf) | (refine CondX.ff ?_; conv => whnf))
  refine CondX.eqI (fun h0 => ?_) (fun h0 => ?_) <;> conv => whnf
  · have hn0 : n = 0 := by omega
    subst hn0
    exact RetX.same (hk nilS h (Ext.refl h) (by rw [List.take_zero]; exact Byt_nil h) (fun hc => absurd hc (by omega)) fun a ha => by cases ha)
  · refine MakeX.bytes n rfl (by omega) fun mm hmm => ?_; conv => whnf
    refine CopyX.bytes (hP.ext (Ext.bd hmm)) (by simp) ?_; conv => whnf
    rw [Int.toNat_natCast, show Nat.min n n = n from Nat.min_self _, List.take_of_length_le (Nat.le_of_eq hPl)]
    have e := ovl_whole hPl
    rw [e]
    exact RetX.same (hk (some ⟨mm, 0, none⟩, n, n) _ (Ext.bd hmm) (own_all hP.isB hPl.symm (by omega)) (fun _ => rfl) fun a ha => by cases ha; exact hmm.none (Nat.le_refl _))
theorem cutN_in {l : List Int} {o n : Nat} (h : o + n ≤ l.length) : cutN l o n = (l.drop o).take n := by
  unfold cutN; rw [show n - (l.length - o) = 0 by omega, List.replicate_zero, List.append_nil]
set_option maxRecDepth 100000 in
set_option maxHeartbeats 4000000 in
theorem read_own {o n : Nat} (hbE : h eb = some (fnv 27024 (eC (mC eb m) v), 101)) (B : MBf hb m t low mem stale) (he : Ext hb h) (h7 : t < 7) (hoW : (o : Int) < W) (hnW : (n : Int) < W) (ho : n ≠ 0 → o + n ≤ mem.length) (hk : ∀ s h', Ext h h' → BytS h' s (cutN mem o n) → New h s → K (.tuple #[sl s, .bool true]) h') : CallX Hval.prog 275 [.pointer (some ⟨eb, 0, none⟩), .agg (wc o).toArray, .agg (wc n).toArray] h K := by
  have hl := B.lens
  refine CallX.of_xf T_ok Hval.func275 rfl (by kernel_rfl) (Nat.le_of_ble_eq_true rfl) ?_; conv => whnf
  refine BoxX.ext fun n1 hn1 en1 => ?_; conv => whnf
  refine BoxX.ext fun n2 hn2 en2 => ?_; conv => whnf
  refine LoadX.all (c := wc n) (hput_same ..) rfl ?_; conv => whnf
  refine eIsZero_ok hnW ?_; conv => whnf
  have hE := en1.trans en2
  by_cases h0 : n = 0
  · rw [decide_eq_true h0]
    repeat (first | (refine CondX.tt ?_; conv => whnf) | (refine CondX.ff ?_; conv => whnf))
    subst h0
    refine RetX.drop (h' := h) hE (hk nilS h (Ext.refl h) ?_ fun a ha => by cases ha)
    unfold cutN
    rw [List.take_zero, Nat.zero_sub]
    exact Byt_nil h
  · rw [decide_eq_false h0]
    repeat (first | (refine CondX.tt ?_; conv => whnf) | (refine CondX.ff ?_; conv => whnf))
    have hf := ho h0
    refine DrawX.go T_ok hM Hval.func275 (tb := dr275) rfl (by kernel_rfl) ?_; conv => whnf
    refine LoadX.all (c := wc o) (en2 _ _ (hput_same ..)) rfl ?_; conv => whnf
    refine LoadX.all (c := wc n) (hput_same ..) rfl ?_; conv => whnf
    refine small_okM hoW (by omega) ?_; conv => whnf
    repeat (refine Ob.mk (by first | exact ldV_all (c := wc n) (hput_same ..) rfl | exact ldV_all (c := wc o) (en2 _ _ (hput_same ..)) rfl) ?_; conv => whnf)
    refine small_okM hnW (by omega) ?_; conv => whnf
    repeat (refine Ob.mk (by first | exact ldV_all (c := wc n) (hput_same ..) rfl | exact ldV_all (c := wc o) (en2 _ _ (hput_same ..)) rfl) ?_; conv => whnf)
    refine aread_own (hE _ _ hbE) B (he.trans hE) h7 hf fun s h' e1 hs hsm hw => ?_; conv => whnf
    repeat (refine Ob.mk (by first | exact ldV_all (c := wc n) (e1 _ _ (hput_same ..)) rfl | exact ldV_all (c := wc o) (e1 _ _ (en2 _ _ (hput_same ..))) rfl) ?_; conv => whnf)
    rw [← cutN_in hf] at hs
    obtain ⟨ad, had⟩ := Option.isSome_iff_exists.1 (hsm (by omega))
    have := hk s h' (hE.trans e1) hs (hw.mono hE)
    obtain ⟨sb, sl1, sc⟩ := s
    have had : sb = some ad := had
    subst had
    exact RetX.same this
end
end Go.Proofs.YgvalwGreat.X
