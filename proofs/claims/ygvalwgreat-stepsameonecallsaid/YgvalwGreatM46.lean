import Derived.Test.YgvalwGreatM45
set_option linter.unusedVariables false
set_option linter.unusedSimpArgs false
namespace Go.Proofs.YgvalwGreat.X
open Go

section
variable {hi hi' hm hm' hb hb' h h0 h1 : Hp} {K : Value → Hp → Prop} {v v' : VS} {eb : Nat} {m m' : MS} {t : Nat} {mems : Nat → List Int} {stale stale' mem' orig a : List Int} {w w' : AW} {sn : List AW} {s0 l0 S S' x o : Int} {A : Nat → Nat} {s : Sl}
theorem Bld.put {n sz : Nat} {x y} {es : List (List Value)} (b : Bld (hput h0 n x) h1 sz s es) (h0n : h0 n = none) : Bld (hput h0 n y) (hput h1 n y) sz s es := by
  refine ⟨fun k z hz => ?_, b.szs, b.one, b.len, ?_⟩
  · by_cases hk : k = n
    · subst hk; rw [hput_same] at hz ⊢; exact hz
    · rw [hput_ne hk] at hz ⊢; exact b.ext _ _ (by rw [hput_ne hk]; exact hz)
  · rcases b.blk with h | ⟨c, pad, ty, g1, g2, g3, g4⟩
    · exact .inl h
    · have hc : c ≠ n := fun e => by subst e; rw [hput_same] at g2; cases g2
      rw [hput_ne hc] at g2
      exact .inr ⟨c, pad, ty, g1, by rw [hput_ne hc]; exact g2, by rw [hput_ne hc]; exact g3, g4⟩
theorem rd_move {n : Nat} {c : List Value} (hr : rd h s.1 n = some c) (he : ∀ a, s.1 = some a → h1 a.block = h a.block) : rd h1 s.1 n = some c := by
  cases hs : s.1 with
  | none => rw [hs] at hr; exact hr
  | some a =>
    rw [hs] at hr
    obtain ⟨b, o, x⟩ := a
    have := he _ hs
    cases x with
    | some _ => exact hr
    | none =>
      simp only [rd] at hr ⊢
      rw [this]; exact hr
theorem Bld.new {sz : Nat} {es : List (List Value)} (b : Bld h0 h1 sz s es) : New h0 s := fun a ha => by
  rcases b.blk with ⟨g, _⟩ | ⟨c, pad, ty, g1, g2, _⟩
  · rw [g] at ha; cases ha
  · rw [g1] at ha; cases ha; exact g2
set_option maxRecDepth 100000 in
set_option maxHeartbeats 4000000 in
theorem x_log (hmem : (mems t).length ≤ 717280) {n : Nat} (hn4 : n ≤ 4) (hlog : w.nlogs < 2800) (P : OpS hi hm hb eb m t w sn v mems stale ((160 + n : Nat) : Int) A S S') (hk : PlK hi eb m t w sn mems orig ((160 + n : Nat) : Int) S' s0 l0 K) : CallX Hval.prog 302 [.pointer (some ⟨eb, 0, none⟩)] (join (join hi hm) hb) K := by
  have har : arI ((160 + n : Nat) : Int) = (((n + 2 : Nat) : Int), 0, true) := by
    have key : ∀ k : Fin 5, arI ((160 + k.val : Nat) : Int) = (((k.val + 2 : Nat) : Int), 0, true) := by decide +kernel
    exact key ⟨n, by omega⟩
  have hs := P.sp
  rw [har] at hs
  have hs : n + 2 ≤ (m.fr t).sp := Int.ofNat_le.1 hs
  have X := P.X
  have M := X.M
  have h7 := M.t7
  have F := M.f
  have hsf := F.self
  have q : ∀ i, (A i : Int) < W := fun i => P.hA i ▸ (argM_W M i).2
  have hpc := P.pc
  have hMe : Ext (join hi hm) (join (join hi hm) hb) := Ext.jl _ _
  have hrm := P.R.room (by have := P.le; have := P.hS; omega)
  have hmf := X.mm.top.few
  simp only [List.length_append] at hmf
  refine CallX.of_xf T_ok Hval.func302 rfl (by kernel_rfl) (Nat.le_of_ble_eq_true rfl) ?_; conv => whnf
  refine running_ok M hMe ?_; conv => whnf
  repeat (first | (refine CondX.tt ?_; conv => whnf) | (refine CondX.ff ?_; conv => whnf))
  refine opcodeM_ok M hMe ?_
  rw [P.ho]; conv => whnf
  rw [show IntKind.u8.wrap (((160 + n : Nat) : Int) - 160) = (n : Int) by rw [wrap_u8]; omega, show IntKind.i64.wrap (n : Int) = (n : Int) from wrap_i64 (by omega) (by omega)]
  refine arg_okM (i := 0) M hMe (by decide) ?_
  rw [P.hA]; conv => whnf
  refine arg_okM (i := 1) M hMe (by decide) ?_
  rw [P.hA]; conv => whnf
  refine read_own (M.blk hMe) X.mm.top (Ext.jr X.dj) h7 (q 0) (q 1) (P.fit1 (by omega)) fun sD h' e1 hsD hwD => ?_
  obtain ⟨h2, eI, d1, d2, rfl, hsD2⟩ := own_j M.A.V.dj X.dj e1 hsD hwD
  conv => whnf
  have hbE := M.blk ((Ext.j2 eI d1 (Ext.refl hm)).trans (Ext.jl _ hb))
  refine LoadX.fnA hbE (1803 + t * 65 + 9) rfl (by show _ + 20 ≤ _; omega) ?_
  rw [show (31, y31).snd.size = 20 from rfl, mR_self h7 hsf.1]; conv => whnf
  have alenS : (bcells (m.fr t).self).length = 20 := by rw [bcells_length, hsf.1]
  erw [fillL_agg (off := 0) (n := 20) rfl alenS (Nat.le_of_ble_eq_true rfl)]
  have e20 : setSeg z286 0 (bcells (m.fr t).self) = bcells (m.fr t).self ++ z286.drop 20 := by simp [setSeg, alenS]
  rw [e20]
  erw [fillL_one (off := 21) (v := sl sD) rfl rfl (by rw [List.length_append, alenS]; exact Nat.le_of_ble_eq_true rfl), fillL_done]
  have e21 : setSeg (bcells (m.fr t).self ++ z286.drop 20) 21 [sl sD] = lgC (m.fr t).self nilS sD := by
    have := set_mid (pre := bcells (m.fr t).self) (L := z286.drop 20) (post := []) (k := 1) (v := sl sD) (by decide)
    rw [alenS, List.append_nil, List.append_nil] at this
    exact this
  erw [e21]
  have hC : ∀ ts, (lgC (m.fr t).self ts sD).length = 22 := fun ts => lgC_len hsf.1 ts sD
  refine forceL_of (fok_app fok_bcells (fun v hv => by simp only [List.mem_cons, List.not_mem_nil, or_false] at hv; rcases hv with rfl | rfl <;> exact fun K hK => hK)) ?_; conv => whnf
  generalize hz : join (join h2 hm) hb = hZ at *
  refine BoxX.ext fun m6 hm6 en6 => ?_; conv => whnf
  refine Ob.mk ⟨by rw [List.size_toArray, hC]; rfl, lgC_one ..⟩ ?_; conv => whnf
  refine StoreX.whole (c := (286, y286).snd.zero) (t := 286) (hput_same ..) (by rw [List.toList_toArray, hC]; rfl) ?_; conv => whnf
  rw [hput_hput, List.toList_toArray]
  have h6n := hm6.none (Nat.le_refl _)
  refine LoopX.st T_ok Hval.func302 (σ := Nat × Sl × List (List Value)) (fun q => [(0, .pointer (some ⟨eb, 0, none⟩)), (2, .pointer (some ⟨eb, 1803 + t * 65, none⟩)), (3, .int .i64 n), (5, .bool true), (6, .pointer (some ⟨m6, 0, none⟩)), (7, .int .i64 q.1)])
    (fun q h' => q.1 ≤ n ∧ q.2.2.length = q.1 ∧ Bld (hput hZ m6 (lgC (m.fr t).self q.2.1 sD, 286)) h' 32 q.2.1 q.2.2) (fun q => n - q.1) (0, nilS, [])
    ⟨rfl, rfl, rfl, rfl, rfl, rfl, trivial⟩ ⟨Nat.zero_le _, rfl, Bld.nil (Ext.refl _)⟩ ?_
  rintro ⟨k, sT, tps⟩ ρ hq ⟨hk1, htl, hB⟩ ih
  dsimp only at hk1 htl hB
  conv => whnf
  have hq6 : hq m6 = some (lgC (m.fr t).self sT sD, 286) := hB.ext _ _ (hput_same ..)
  have hqE : Ext hZ hq := (Ext.new h6n).trans hB.ext
  refine CondX.decI (fun hlt => ?_) (fun hlt => ?_) <;> conv => whnf
  · have hlt : k < n := by omega
    refine DrawX.go T_ok hM Hval.func302 (tb := dr302) rfl (by kernel_rfl) ?_; conv => whnf
    refine LoadX.of (sl sT) (ldV_cell hq6 (lgC_at hsf.1 sT sD 0)) ?_; conv => whnf
    rw [show IntKind.i64.wrap (2 + (k : Int)) = ((2 + k : Nat) : Int) by rw [wrap_i64 (by omega) (by omega)]; omega]
    refine arg_okM (i := 2 + k) M ((Ext.j2 eI d1 (Ext.refl hm)).trans ((Ext.jl _ hb).trans (hz ▸ hqE))) (by omega) ?_
    rw [P.hA]; conv => whnf
    repeat (refine Ob.mk (by first | exact ldV_cell hq6 (lgC_at hsf.1 sT sD 0)) ?_; conv => whnf)
    refine eBE32_ok (by omega) (q (2 + k)) ?_; conv => whnf
    repeat (refine Ob.mk (by first | exact ldV_cell hq6 (lgC_at hsf.1 sT sD 0)) ?_; conv => whnf)
    have vlen : (bcells (be 32 (A (2 + k)))).length = 32 := by rw [bcells_length, be_length]
    refine Ob.mk (by first | decide | omega) ?_; conv => whnf
    refine BoxX.eq (vs' := bcells (be 32 (A (2 + k)))) (setSeg_all (by erw [vlen])) ?_
    refine BoxX.mk fun mv hmv => ?_; conv => whnf
    have hTn : sT.2.1 = k := by have := hB.len; omega
    have hq6 : hput hq mv (bcells (be 32 (A (2 + k))), 33) m6 = some (lgC (m.fr t).self sT sD, 286) := Ext.bd hmv _ _ hq6
    repeat (refine Ob.mk (by first | exact ldV_cell hq6 (lgC_at hsf.1 sT sD 0)) ?_; conv => whnf)
    refine AppendX.bld (z := z33) (sz := 32) (bytes := 32) (hB.box hmv) (rd_own (v := bcells (be 32 (A (2 + k)))) vlen) vlen rfl (ones_bcells _) (by decide) (by omega) fun s8 h8 B8 => ?_; conv => whnf
    replace B8 := B8.weaken (Ext.new (none_of hB.ext (hmv.none (Nat.le_refl _))))
    have hq6 : h8 m6 = some (lgC (m.fr t).self sT sD, 286) := B8.ext _ _ (hput_same ..)
    repeat (refine Ob.mk (by first | exact ldV_cell hq6 (lgC_at hsf.1 sT sD 0)) ?_; conv => whnf)
    refine StoreX.at hq6 (by rw [hC]; exact Nat.le_of_ble_eq_true rfl) ?_; conv => whnf
    have e20s : setSeg (lgC (m.fr t).self sT sD) (20 + 0) [sl s8] = lgC (m.fr t).self s8 sD := by rw [lgC_set hsf.1]; rfl
    erw [e20s]
    refine ih (k + 1, s8, tps ++ [bcells (be 32 (A (2 + k)))]) _ _ ⟨by dsimp only; omega, by simp [htl], B8.put h6n⟩ (by dsimp only; omega) ⟨rfl, rfl, rfl, rfl, rfl, ?_, trivial⟩
    exact congrArg (Value.int .i64) (wsucc (by omega))
  · have hkn : k = n := by omega
    subst hz
    obtain ⟨hn1, hn2⟩ := join_none h6n
    obtain ⟨h3, e3, d3, dd3, rfl⟩ := ext_j d1 d2 hqE
    have jn : ∀ b, (join (join h2 hm) hb) b = none → (join (join h3 hm) hb) b = h3 b := fun b hb1 => by
      obtain ⟨g1, g2⟩ := join_none hb1
      obtain ⟨g3, g4⟩ := join_none g1
      cases hx : h3 b with
      | some y => exact join_l (join_l hx)
      | none => rw [join_r (by rw [join_r hx]; exact g4), g2]
    have b6 : h3 m6 = some (lgC (m.fr t).self sT sD, 286) := by rw [← jn m6 h6n]; exact hq6
    have hrd := rd_move (h1 := h3) hB.arr.rd fun a ha => by
      have := hB.new a ha
      have hne : a.block ≠ m6 := fun e => by rw [e, hput_same] at this; cases this
      rw [hput_ne hne] at this
      exact (jn _ this).symm
    have hTn : sT.2.1 = k := by have := hB.len; omega
    have eI3 := eI.trans e3
    have hl1 : A 1 ≤ 717280 := by
      by_cases hz : A 1 = 0
      · omega
      · have := P.fit1 (by omega) hz; omega
    refine DrawX.go T_ok hM Hval.func302 (tb := dr302) rfl (by kernel_rfl) ?_; conv => whnf
    repeat (first | (refine CondX.tt ?_; conv => whnf) | (refine CondX.ff ?_; conv => whnf))
    refine LoadX.fx (M.blk ((Ext.j2 eI3 d3 (Ext.refl hm)).trans (Ext.jl _ hb))) 0 rfl (by omega) mR_S ?_; conv => whnf
    repeat (first | (refine CondX.tt ?_; conv => whnf) | (refine CondX.ff ?_; conv => whnf))
    refine LoadX.all (c := lgC (m.fr t).self sT sD) (join_l (join_l b6)) (by rw [hC]; rfl) ?_; conv => whnf
    repeat (first | (refine CondX.tt ?_; conv => whnf) | (refine CondX.ff ?_; conv => whnf))
    refine CallX.fj dd3 (putLog_ok hsf.1 hsf.2 (hsD2.ext e3) (by rw [cutN_length]; exact hl1) hrd (ones_flat fun e he => hB.one e he) (by omega) (M.A.exti eI3 d3) hlog (by omega) fun hi4 hm4 v4 e4 A4 u4 dd4 => ?_); conv => whnf
    repeat (first | (refine CondX.tt ?_; conv => whnf) | (refine CondX.ff ?_; conv => whnf))
    rw [show IntKind.i64.wrap (2 + (n : Int)) = ((n + 2 : Nat) : Int) by rw [wrap_i64 (by omega) (by omega)]; omega, show IntKind.u16.wrap ((n + 2 : Nat) : Int) = ((n + 2 : Nat) : Int) by rw [wrap_u16]; omega]
    have M4 := M.setV (eI3.trans e4) A4
    have ho1 : 160 ≤ ((160 + n : Nat) : Int) ∧ ((160 + n : Nat) : Int) ≤ 164 := by omega
    refine settleN_w (x := 0) (tk := n + 2) (st := 1) (Ext.refl hi4) A4.V.dj dd4 M4 hs (by omega) fun hmx g1 g2 Mx => ?_; conv => whnf
    have hcost := P.cost
    have eB : bareA w (m.fr t).self ((160 + n : Nat) : Int) (fun i => (A i : Int)) = 375 + 375 * (((160 + n : Nat) : Int) - 160) + 8 * (A 1 : Int) := by
      unfold bareA
      rw [if_neg (by omega), if_neg (by omega), if_neg (by omega), if_neg (by omega), if_neg (by omega), if_neg (by omega), if_neg (by omega), if_neg (by omega), if_neg (by omega), if_neg (by omega), if_neg (by omega), if_neg (by omega), if_pos ho1]
    rw [eB] at hcost
    refine RetX.same (fin_eff X (T := n + 2) (by rw [har]) (by rw [har]) ⟨by omega, fun hh => by omega, by omega⟩ (by unfold immI; rw [if_neg (by omega)]; rfl) Mx g2 (eI3.trans e4) u4.has X.mm.top ?_ ?_ (P.R.up u4 (by omega) (by omega) (by omega) (by omega)) hk)
    · unfold effW; rw [if_neg (by omega), if_neg (by omega), if_neg (by omega), if_pos ho1]
    · unfold effM; rw [if_neg (by omega), if_neg (by omega), if_neg (by omega), if_neg (by omega), if_neg (by omega), if_neg (by omega), if_neg (by omega)]; rfl
end
end Go.Proofs.YgvalwGreat.X
