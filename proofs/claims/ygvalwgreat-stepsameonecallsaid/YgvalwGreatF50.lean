import Derived.Test.YgvalwGreatF49
set_option linter.unusedVariables false
set_option linter.unusedSimpArgs false
namespace Go.Proofs.YgvalwGreat.X
open Go

/-- The chain's block. -/
structure YS where
  w : YW
  frS : Sl
  retS : Sl
  phase : Int
  status : Int
  applied : Int
  limS : Sl
  txS : Sl
  leftS : Sl
  priceS : Sl
  totS : Sl
  origin : List Int
  made : List Int
  env : List Value
def sCells (s : YS) : List Value :=
  [sl s.w.sA, sl s.w.sWA, sl s.w.sWS, sl s.w.sR, sl s.w.sL, sl s.w.sT, sl s.w.sM, sl s.w.sG, sl nilS, sl s.frS, sl s.retS, .int .u8 s.phase, .int .u8 s.status, .int .u8 s.applied, sl s.limS, sl s.txS, sl s.leftS, sl s.priceS, sl s.totS] ++
    (bcells s.origin ++ (bcells s.made ++ s.env))
theorem sCells_len (s : YS) : 19 ≤ (sCells s).length := by simp [sCells]
theorem sCells_set {s : YS} {k : Nat} {v : Value} (hk : k < 19) : setSeg (sCells s) k [v] = (sCells s).set k v := by
  have := set_mid (pre := []) (L := sCells s) (post := []) (k := k) (v := v) (by have := sCells_len s; omega)
  simpa using this
theorem sCells_w (s : YS) : ∀ j, j < 8 → (sCells s)[0 + j]? = s.w.cells[j]? := fun j hj => by
  rcases (by omega : j = 0 ∨ j = 1 ∨ j = 2 ∨ j = 3 ∨ j = 4 ∨ j = 5 ∨ j = 6 ∨ j = 7) with e | e | e | e | e | e | e | e <;> subst e <;> rfl
theorem StoreX.st {hi hm : Hp} {c : Nat} {s : YS} {t : TypeId} {v : Value} {KK : Hp → Prop} (hd : Dj hi hm) (hc : hm c = some (sCells s, t)) (k : Nat) (hk : k < 19) (s' : YS) (hs : (sCells s).set k v = sCells s')
    (hK : Dj hi (hput hm c (sCells s', t)) → KK (join hi (hput hm c (sCells s', t)))) : StoreX (join hi hm) c k [v] KK := by
  refine StoreX.jm hd hc (by have := sCells_len s; simp; omega) ?_
  rw [sCells_set hk, hs]
  exact hK (hd.put hc)

/-- A heap that holds the immutable part is that part beside the rest. -/
def rest (hi h : Hp) : Hp := fun b => match hi b with | some _ => none | none => h b
theorem join_rest {hi h : Hp} (he : Ext hi h) : join hi (rest hi h) = h := by
  funext b
  unfold join rest
  cases hx : hi b with
  | some x => exact (he _ _ hx).symm
  | none => rfl
theorem Dj_rest (hi h : Hp) : Dj hi (rest hi h) := fun b => by
  unfold rest
  cases hx : hi b with
  | some x => exact .inr rfl
  | none => exact .inl rfl
theorem rest_get {hi h : Hp} {b : Nat} {x} (hb : h b = some x) (hn : hi b = none) : rest hi h b = some x := by unfold rest; rw [hn]; exact hb

/-- An array of records in the mutable part. -/
def ArrM (hm : Hp) (s : Sl) (sz : Nat) (es : List (List Value)) : Prop := Bld (fun _ => none) hm sz s es
theorem ArrM.arr {hi hm : Hp} (hd : Dj hi hm) {s : Sl} {sz : Nat} {es} (a : ArrM hm s sz es) : Arr (join hi hm) s sz es := (Bld.arr a).ext fun b x hb => join_hm hd hb

theorem AppendX.mut {hi hm : Hp} {e : TypeId} {bytes sz : Nat} {z : List Value} {s : Sl} {es : List (List Value)} {nw : Option (List Value)} {new : List Value} {K : Value → Hp → Prop} (hd : Dj hi hm) (a : ArrM hm s sz es) (hnw : nw = some new) (hsz : new.length = sz) (hz : z.length = sz) (ho : ones new = true)
    (hby : 0 < bytes) (hroom : (s.2.1 + 1) * bytes ≤ 2 ^ 47)
    (hk : ∀ s' hm', Dj hi hm' → ArrM hm' s' sz (es ++ [new]) → (∀ c y, hm c = some y → (∀ fb, s.1 = some ⟨fb, 0, none⟩ → c ≠ fb) → hm' c = some y ∧ ∀ fb, s'.1 = some ⟨fb, 0, none⟩ → c ≠ fb) → K (sl s') (join hi hm')) :
    AppendX (join hi hm) e sz bytes z s.1 s.2.1 s.2.2 nw 1 K := by
  let h0 : Hp := fun b => if s.1 = some ⟨b, 0, none⟩ then none else join hi hm b
  have hE0 : Ext h0 (join hi hm) := fun b x hb => by
    show join hi hm b = some x
    have hb' : (if s.1 = some ⟨b, 0, none⟩ then none else join hi hm b) = some x := hb
    split at hb'
    · cases hb'
    · exact hb'
  have hEi : Ext hi h0 := fun b x hb => by
    show (if s.1 = some ⟨b, 0, none⟩ then none else join hi hm b) = some x
    rw [if_neg, join_l hb]
    intro hs
    rcases a.blk with ⟨h1, -⟩ | ⟨m, pad, t, h1, -, h3, -⟩
    · rw [h1] at hs; cases hs
    · rw [h1] at hs; cases hs
      rcases hd b with h4 | h4
      · rw [hb] at h4; cases h4
      · rw [h3] at h4; cases h4
  have B : Bld h0 (join hi hm) sz s es := by
    refine ⟨hE0, a.szs, a.one, a.len, ?_⟩
    rcases a.blk with h1 | ⟨m, pad, t, h1, h2, h3, h4⟩
    · exact .inl h1
    · exact .inr ⟨m, pad, t, h1, by show (if s.1 = some ⟨m, 0, none⟩ then none else join hi hm m) = none; rw [if_pos h1], join_hm hd h3, h4⟩
  refine AppendX.bld B hnw hsz hz ho hby hroom fun s' h'' B' => ?_
  have hE' : Ext hi h'' := hEi.trans B'.ext
  have hj := join_rest hE'
  rw [← hj]
  have hnh : ∀ fb x, s'.1 = some ⟨fb, 0, none⟩ → h0 fb = some x → False := fun fb x hs hb => by
    rcases B'.blk with ⟨h1, -⟩ | ⟨m, pad, t, h1, h2, -⟩
    · rw [h1] at hs; cases hs
    · rw [h1] at hs; cases hs; rw [h2] at hb; cases hb
  refine hk s' _ (Dj_rest hi h'') ⟨fun b x hb => (by cases hb), B'.szs, B'.one, B'.len, ?_⟩ fun c y hcy hne => ?_
  · rcases B'.blk with h1 | ⟨m, pad, t, h1, h2, h3, h4⟩
    · exact .inl h1
    · refine .inr ⟨m, pad, t, h1, rfl, rest_get h3 ?_, h4⟩
      cases hx : hi m with
      | none => rfl
      | some x => rw [hEi _ _ hx] at h2; cases h2
  · have h0c : h0 c = some y := by
      show (if s.1 = some ⟨c, 0, none⟩ then none else join hi hm c) = some y
      rw [if_neg (fun hs => hne c hs rfl)]
      exact join_hm hd hcy
    refine ⟨rest_get (B'.ext _ _ h0c) (hd.lft hcy), fun fb hs hcf => ?_⟩
    subst hcf
    exact hnh c y hs h0c

section
variable {hi hm : Hp} {K : Value → Hp → Prop}
set_option maxRecDepth 100000 in
set_option maxHeartbeats 4000000 in
theorem copied_ok (hd : Dj hi hm) {b : Nat} {pre post : List Value} {f : YF} {t : TypeId} {sd ss so sn : Sl} {x y n : Int} {mem l : List Int} (hb : hm b = some (pre ++ (fCells f ++ post), t)) (hmem : MemB hm f.memS mem) (hx : NtS hi sd x) (hs : BytS (join hi hm) ss l) (hy : NtS hi so y) (hn : NtS hi sn n) (hnr : n < 2 ^ 40)
    (hk : ∀ hm', Dj hi hm' → MemB hm' f.memS (if n = 0 then mem else writeI mem x (cutN l y.toNat n.toNat)) → (∀ c y, hm c = some y → (∀ mb, f.memS.1 = some ⟨mb, 0, none⟩ → c ≠ mb) → hm' c = some y) → K (.tuple #[]) (join hi hm')) :
    CallX Hval.prog 217 [.pointer (some ⟨b, pre.length, none⟩), sl sd, sl ss, sl so, sl sn] (join hi hm) K := by
  refine CallX.of_xf T_ok Hval.func217 rfl (by kernel_rfl) (Nat.le_of_ble_eq_true rfl) ?_; conv => whnf
  have hE := Ext.jl hi hm
  refine isZero_ok (hn.ext hE) ?_; conv => whnf
  refine CondX.notI (fun hc => ?_) (fun hc => ?_) <;> conv => whnf
  · have hc : n ≠ 0 := of_decide_eq_false hc
    refine cut_ok hs (hy.ext hE) (hn.ext hE) hnr fun m hm' => ?_; conv => whnf
    obtain ⟨hin, hmn⟩ := join_none (hm'.none (Nat.le_refl _))
    rw [join_put]
    have hd2 := hd.hn (x := (bcells (cutN l y.toNat n.toNat), 5)) hmn
    refine write_ok (x := x) (sb := (some ⟨m, 0, none⟩, n.toNat, n.toNat)) (l := cutN l y.toNat n.toNat) hd2 hb hmem (hx.ext (Ext.new hin)) ((own_all (isB_cutN hs.isB _ _) (by rw [cutN_length]) (by rw [cutN_length]; omega) : BytS (hput hi m (bcells (cutN l y.toNat n.toNat), 5)) (some ⟨m, 0, none⟩, n.toNat, n.toNat) _).ext (Ext.jl _ _)) fun hm2 hd3 h1 h2 => ?_; conv => whnf
    refine RetX.drop (h' := join hi hm2) (Ext.j2 (Ext.new hin) hd3 (Ext.refl _)) (hk hm2 ?_ (by rw [if_neg hc]; exact h1) h2)
    intro c
    rcases hd3 c with h3 | h3
    · refine .inl ?_
      cases hx : hi c with
      | none => rfl
      | some z => rw [Ext.new hin _ _ hx] at h3; cases h3
    · exact .inr h3
  · have hc : n = 0 := of_decide_eq_true hc
    exact RetX.same (hk hm hd (by rw [if_pos hc]; exact hmem) fun c y hc _ => hc)
end
end Go.Proofs.YgvalwGreat.X
