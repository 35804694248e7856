import Derived.Test.YgvalwGreatG5
set_option linter.unusedVariables false
set_option linter.unusedSimpArgs false
namespace Go.Proofs.YgvalwGreat.X
open Go

def leT : Nat → Int → List Int
  | 0, _ => []
  | n + 1, x => if x = 0 then [] else x % 256 :: leT n (x / 256)
theorem leT_ok {n : Nat} {x : Int} (h0 : 0 ≤ x) (h1 : x < 256 ^ n) : dv (leT n x) = x ∧ Tr (leT n x) ∧ isB (leT n x) ∧ (x ≠ 0 → leT n x ≠ []) := by
  induction n generalizing x with
  | zero =>
    have : x = 0 := by simp at h1; omega
    subst this
    exact ⟨rfl, Tr_nil, (fun d hd => by cases hd), fun h => absurd rfl h⟩
  | succ n ih =>
    unfold leT
    split
    · rename_i e; subst e; exact ⟨rfl, Tr_nil, (fun d hd => by cases hd), fun h => absurd rfl h⟩
    · rename_i e
      have hq : x / 256 < 256 ^ n := by
        rw [Int.pow_succ] at h1; omega
      obtain ⟨q1, q2, q3, q4⟩ := ih (x := x / 256) (by omega) hq
      refine ⟨?_, ?_, ?_, fun _ => by simp⟩
      · simp only [dv, q1]; omega
      · cases hl : leT n (x / 256) with
        | nil =>
          have : x / 256 = 0 := Classical.byContradiction fun hn => q4 hn hl
          simp [Tr]; omega
        | cons d l =>
          rw [hl] at q2
          unfold Tr at *
          simpa using q2
      · intro d hd
        rcases List.mem_cons.1 hd with rfl | hd
        · omega
        · exact q3 d hd
theorem leT_len {n : Nat} {x : Int} : (leT n x).length ≤ n := by
  induction n generalizing x with
  | zero => simp [leT]
  | succ n ih =>
    unfold leT
    split
    · simp
    · have := ih (x := x / 256); simp only [List.length_cons]; omega
/-- The code of a nonce. -/
def rlpI (x : Int) : List Int := if x = 0 then [128] else if x < 128 then [x] else (128 + ((leT 8 x).length : Int)) :: (leT 8 x).reverse
def hashedI (l : List Int) : List Int := (kSum l).drop 12
def createI (a : List Int) (x : Int) : List Int := hashedI ((213 + ((rlpI x).length : Int)) :: 148 :: (a ++ rlpI x))
def create2I (a : List Int) (s : Int) (l : List Int) : List Int := hashedI (255 :: (a ++ (be 32 s ++ kSum l)))
theorem hashedI_len (l : List Int) : (hashedI l).length = 20 := by unfold hashedI; rw [List.length_drop, kSum_len]
theorem hashedI_isB (l : List Int) : isB (hashedI l) := (kSum_isB l).drop 12
theorem isB.cons {d : Int} {l : List Int} (h0 : 0 ≤ d) (h1 : d < 256) (h : isB l) : isB (d :: l) := fun x hx => by
  rcases List.mem_cons.1 hx with rfl | hx
  · exact ⟨h0, h1⟩
  · exact h x hx
theorem isB.append {a b : List Int} (ha : isB a) (hb : isB b) : isB (a ++ b) := fun x hx => by
  rcases List.mem_append.1 hx with hx | hx
  · exact ha x hx
  · exact hb x hx
theorem isB.reverse {a : List Int} (ha : isB a) : isB a.reverse := fun x hx => ha x (List.mem_reverse.1 hx)
theorem rlpI_ok {x : Int} (h0 : 0 ≤ x) (h1 : x < 18446744073709551616) : isB (rlpI x) ∧ (rlpI x).length ≤ 9 ∧ 1 ≤ (rlpI x).length := by
  have hl := leT_len (n := 8) (x := x)
  have ho := leT_ok (n := 8) h0 (by simpa using h1)
  unfold rlpI
  split
  · exact ⟨isB.cons (by decide) (by decide) (fun d hd => by cases hd), by simp, by simp⟩
  split
  · exact ⟨isB.cons h0 (by omega) (fun d hd => by cases hd), by simp, by simp⟩
  · exact ⟨isB.cons (by omega) (by omega) ho.2.2.1.reverse, by simp; omega, by simp⟩

/-- A byte list that is being built. -/
structure BB (h0 h' : Hp) (s : Sl) (l : List Int) : Prop where
  ext : Ext h0 h'
  own : ∃ m pad t, s.1 = some ⟨m, 0, none⟩ ∧ s.2.1 = l.length ∧ s.2.2 ≤ l.length + pad.length ∧ l.length ≤ s.2.2 ∧ h0 m = none ∧ h' m = some (bcells l ++ pad, t)
theorem BB.byt {h0 h' : Hp} {s : Sl} {l : List Int} (b : BB h0 h' s l) (hl : isB l) (hr : l.length < 2 ^ 40) : Byt h' s.1 s.2.1 s.2.2 l := by
  obtain ⟨m, pad, t, h1, h2, h3, h4, h5, h6⟩ := b.own
  refine ⟨?_, hl, by omega, (fun e => by rw [h1] at e; cases e), by omega⟩
  rw [h1, h2]
  simp only [rd, h6]
  rw [if_pos (by simp [bcells_length])]
  simp [seg, bcells]
theorem BB.box {h0 h' : Hp} {s : Sl} {l : List Int} {w : Nat} {x} (b : BB h0 h' s l) (hw : Bd h' w) : BB h0 (hput h' w x) s l := by
  obtain ⟨m, pad, t, h1, h2, h3, h4, h5, h6⟩ := b.own
  refine ⟨b.ext.trans (Ext.bd hw), m, pad, t, h1, h2, h3, h4, h5, ?_⟩
  rw [hput_ne (fun e => by rw [e, hw.at] at h6; cases h6)]; exact h6
theorem BB.start {h0 h' : Hp} {m : Nat} {t : TypeId} {l : List Int} (he : Ext h0 h') (hm : Bd h' m) : BB h0 (hput h' m (bcells l, t)) (some ⟨m, 0, none⟩, l.length, l.length) l := by
  refine ⟨he.trans (Ext.bd hm), m, [], t, rfl, rfl, by simp, by simp, ?_, by simp [hput_same]⟩
  cases e : h0 m with
  | none => rfl
  | some x => have := he _ _ e; rw [hm.at] at this; cases this
theorem AppendX.bb {h0 h' : Hp} {s : Sl} {l l2 : List Int} {e : TypeId} {z : List Value} {nw : Option (List Value)} {n : Nat} {K : Value → Hp → Prop} (b : BB h0 h' s l) (hnw : nw = some (bcells l2)) (hn : l2.length = n) (hr : l.length + n ≤ 2 ^ 40) (hz : z.length = 1)
    (hk : ∀ s' h'', BB h0 h'' s' (l ++ l2) → K (sl s') h'') : AppendX h' e 1 1 z s.1 s.2.1 s.2.2 nw n K := by
  obtain ⟨m, pad, t, h1, h2, h3, h4, h5, h6⟩ := b.own
  refine ⟨by decide, bcells l, bcells l2, ?_, hnw, by omega, fun hc => ?_, fun hc nc hnc w hw => ?_⟩
  · rw [h1, h2]
    simp only [rd, h6]
    rw [if_pos (by simp [bcells_length])]
    simp [seg, bcells]
  · rw [h1]
    refine ⟨_, _, h6, by simp [bcells_length]; omega, ones_bcells _, ?_⟩
    have e1 : setSeg (bcells l ++ pad) (0 + s.2.1 * 1) (bcells l2) = bcells (l ++ l2) ++ pad.drop n := by
      unfold setSeg
      rw [h2, Nat.zero_add, Nat.mul_one, bcells_length, hn, List.take_append_of_le_length (by rw [bcells_length]; omega), List.take_of_length_le (by rw [bcells_length]; omega), List.drop_append, List.drop_of_length_le (by rw [bcells_length]; omega), bcells_length, show l.length + n - l.length = n by omega]
      simp [bcells]
    rw [e1]
    refine hk (some ⟨m, 0, none⟩, s.2.1 + n, s.2.2) _ ⟨?_, m, pad.drop n, t, rfl, by simp; omega, by simp; omega, by simp; omega, h5, hput_same ..⟩
    exact Ext.keep b.ext h5
  · refine hk (some ⟨w, 0, none⟩, s.2.1 + n, nc) _ ⟨b.ext.trans (Ext.bd hw), w, zeros z (nc - (s.2.1 + n)), e, rfl, by simp; omega, ?_, by simp; omega, ?_, ?_⟩
    · rw [zeros_len, hz]; simp; omega
    · cases q : h0 w with
      | none => rfl
      | some x => have := b.ext _ _ q; rw [hw.at] at this; cases this
    · rw [hput_same]; simp [bcells]
theorem BB.call {P : Program} {f : FuncId} {args : List Value} {h0 h' : Hp} {s : Sl} {l : List Int} {K : Value → Hp → Prop} (b : BB h0 h' s l) (hc : CallX P f args h0 (fun v h1 => ∀ h1', BB h1 h1' s l → K v h1')) : CallX P f args h' K := by
  have e := join_rest b.ext
  have hd : Dj h0 (rest h0 h') := Dj_rest _ _
  rw [← e]
  refine CallX.fj hd (hc.mono fun v h1 hk hd1 => hk _ ?_)
  obtain ⟨m, pad, t, h1, h2, h3, h4, h5, h6⟩ := b.own
  have hr : rest h0 h' m = some (bcells l ++ pad, t) := by
    have := e
    rw [← e, join_r h5] at h6
    exact h6
  exact ⟨Ext.jl _ _, m, pad, t, h1, h2, h3, h4, hd1.lft hr, join_hm hd1 hr⟩
theorem BB.set0 {h0 h' : Hp} {s : Sl} {d v : Int} {b off o : Nat} {KK : Hp → Prop} (B : BB h0 h' s [d]) (hs : s.1 = some ⟨b, off, none⟩) (ho : o = off) (hk : ∀ h'', BB h0 h'' s [v] → KK h'') : StoreX h' b o [.int .u8 v] KK := by
  obtain ⟨m, pad, t, h1, h2, h3, h4, h5, h6⟩ := B.own
  have hs' := h1.symm.trans hs
  cases hs'
  subst ho
  refine StoreX.at h6 (by simp [bcells]) (hk _ ⟨Ext.keep B.ext h5, b, pad, t, h1, h2, h3, h4, h5, ?_⟩)
  rw [hput_same]
  simp [setSeg, bcells]
section
variable {h : Hp} {K : Value → Hp → Prop}
set_option maxRecDepth 100000 in
set_option maxHeartbeats 4000000 in
theorem hashed_ok {base : Option Addr} {len cap : Nat} {l : List Int} (hb : Byt h base len cap l) (hk : K (.agg (bcells (hashedI l)).toArray) h) : CallX Hval.prog 89 [.slice base len cap] h K := by
  refine CallX.of_xf T_ok Hval.func89 rfl (by kernel_rfl) (Nat.le_of_ble_eq_true rfl) ?_; conv => whnf
  refine BoxX.ext fun r hr er => ?_; conv => whnf
  refine kSum_ok (hb.ext er) ?_; conv => whnf
  refine BoxX.ext fun m hm em => ?_; conv => whnf
  refine Ob.mk ⟨by rw [List.size_toArray, bcells_length, kSum_len]; rfl, ones_bcells _⟩ ?_; conv => whnf
  refine StoreX.at (hput_same ..) (by rw [List.toList_toArray, bcells_length, kSum_len]; exact Nat.le_of_ble_eq_true rfl) ?_; conv => whnf
  rw [List.toList_toArray, setSeg_all (by rw [bcells_length, kSum_len]; rfl), hput_hput]
  repeat (refine Ob.mk (by first | decide | omega) ?_; conv => whnf)
  have hld : ldV true 20 (hput (hput h r ((31, y31).snd.zero, 31)) m (bcells (kSum l), 32)) m 12 = some (.agg (bcells (hashedI l)).toArray) := by
    simp only [ldV, hput_same]
    rw [if_pos (by rw [bcells_length, kSum_len]; decide), bcells_seg, List.take_of_length_le (by rw [List.length_drop, kSum_len]; decide)]
    rfl
  refine LoadX.of _ hld ?_; conv => whnf
  have hmr : r ≠ m := fun e => by have := hm.at; rw [← e, hput_same] at this; cases this
  refine Ob.mk ⟨by rw [List.size_toArray, bcells_length, hashedI_len]; rfl, ones_bcells _⟩ ?_; conv => whnf
  refine StoreX.at (b := r) (show _ = some ((31, y31).snd.zero, 31) by rw [hput_ne hmr, hput_same]) (by rw [List.toList_toArray, bcells_length, hashedI_len]; exact Nat.le_of_ble_eq_true rfl) ?_; conv => whnf
  rw [List.toList_toArray, setSeg_all (by rw [bcells_length, hashedI_len]; rfl)]
  refine LoadX.arr (hput_same ..) (hashedI_len l) ?_; conv => whnf
  exact RetX.drop (Ext.keep (er.trans (Ext.bd hm)) hr.at) hk
set_option maxRecDepth 100000 in
set_option maxHeartbeats 4000000 in
theorem createAddr_ok {a : List Int} {b : Option Addr} {n c : Nat} {x : Int} (ha : a.length = 20) (hB : isB a) (hx : Nt h b n c x) (hx1 : x < 18446744073709551616) (hk : K (.agg (bcells (createI a x)).toArray) h) : CallX Hval.prog 28 [.agg (bcells a).toArray, .slice b n c] h K := by
  refine CallX.of_xf T_ok Hval.func28 rfl (by kernel_rfl) (Nat.le_of_ble_eq_true rfl) ?_; conv => whnf
  have hx0 := hx.val
  have hro := rlpI_ok hx0 hx1
  refine BoxX.ext fun m hm em => ?_; conv => whnf
  refine BoxX.ext fun r hr er => ?_; conv => whnf
  rw [List.toList_toArray] at em hr er ⊢
  have hAm : hput (hput h m (bcells a, 31)) r ((31, y31).snd.zero, 31) m = some (bcells a, 31) := er _ _ (hput_same ..)
  have hAr : hput (hput h m (bcells a, 31)) r ((31, y31).snd.zero, 31) r = some ((31, y31).snd.zero, 31) := hput_same ..
  have eA : Ext h (hput (hput h m (bcells a, 31)) r ((31, y31).snd.zero, 31)) := em.trans er
  have hr0 : h r = Option.none := by
    cases e : h r with
    | none => rfl
    | some x => have := em _ _ e; rw [hr.at] at this; cases this
  generalize hput (hput h m (bcells a, 31)) r ((31, y31).snd.zero, 31) = hA at hAm hAr eA ⊢
  clear em er hr hm
  repeat (refine Ob.mk (by first | decide | omega) ?_; conv => whnf)
  refine BoxX.mk fun w hw => ?_; conv => whnf
  have B0 : BB hA (hput hA w ([Value.int .u8 128], 5)) (some ⟨w, 0, none⟩, 1, 1) [128] := BB.start (l := [128]) (Ext.refl hA) hw
  refine B0.call (normN (hx.ext eA) fun b2 n2 c2 h2 e2 g2 h3 B => ?_); conv => whnf
  obtain ⟨la, hla, hdx, ht⟩ := g2
  have hle := leT_ok (n := 8) hx0 (by simpa using hx1)
  have hlae : la = leT 8 x := Tr_unique hla.isB hle.2.2.1 ht hle.2.1 (by rw [hdx, hle.1])
  have hlen := hla.len
  have hl8 : la.length ≤ 8 := by rw [hlae]; exact leT_len
  have hla3 := hla.ext B.ext
  have eA2 := eA.trans e2
  by_cases hn1 : n2 = 1
  · subst hn1
    obtain ⟨d, hld⟩ : ∃ d, la = [d] := by
      cases la with
      | nil => simp at hlen
      | cons d l => cases l with
        | nil => exact ⟨d, rfl⟩
        | cons e l => simp at hlen
    have hdd : d = x := by rw [hld] at hdx; simpa [dv] using hdx
    rw [hdd] at hld
    clear hdd
    have hx2 : x ≠ 0 := fun e => by rw [hlae, e] at hld; simp [leT] at hld
    have hx3 : x < 256 := (hla.isB x (by rw [hld]; simp)).2
    repeat (first | (refine CondX.tt ?_; conv => whnf) | (refine CondX.ff ?_; conv => whnf))
    refine IdxX.rd hla3.rd (by omega) (by omega) fun b5 o5 e5 hz5 => ?_; conv => whnf
    repeat (first | (refine CondX.tt ?_; conv => whnf) | (refine CondX.ff ?_; conv => whnf))
    refine LoadX.byte hla3 e5 0 rfl (by omega) rfl ?_; conv => whnf
    rw [show la.getD 0 0 = x by rw [hld]; rfl]
    repeat (first | (refine CondX.tt ?_; conv => whnf) | (refine CondX.ff ?_; conv => whnf))
    refine CondX.decI (fun hc => ?_) (fun hc => ?_) <;> conv => whnf
    · have hrl : rlpI x = [x] := by unfold rlpI; rw [if_neg hx2, if_pos hc]
      refine IdxX.rd hla3.rd (by omega) (by omega) fun b6 o6 e6 hz6 => ?_; conv => whnf
      refine LoadX.byte hla3 e6 0 rfl (by omega) rfl ?_; conv => whnf
      rw [show la.getD 0 0 = x by rw [hld]; rfl]
      refine IdxX.at (by decide) (by decide) ?_; conv => whnf
      refine B.set0 (v := x) rfl rfl fun h4 B4 => ?_; conv => whnf
      rw [← hrl] at B4
      have bl := B4.byt hro.1 (by omega)
      have blen := bl.len
      have ev : IntKind.u8.wrap (192 + IntKind.u8.wrap (IntKind.i64.wrap (21 + (((some ⟨w, 0, none⟩, 1, 1) : Sl).2.1 : Int)))) = 213 + ((rlpI x).length : Int) := by
        rw [blen, wrap_i64 (by omega) (by omega), wrap_u8, wrap_u8]; omega
      erw [ev]
      repeat (refine Ob.mk (by first | decide | omega) ?_; conv => whnf)
      refine BoxX.mk fun w9 hw9 => ?_; conv => whnf
      have C0 : BB _ (hput _ w9 ([Value.int .u8 (213 + ((rlpI x).length : Int)), .int .u8 148], 5)) (some ⟨w9, 0, none⟩, 2, 2) [213 + ((rlpI x).length : Int), 148] := BB.start (l := [213 + ((rlpI x).length : Int), 148]) (Ext.refl _) hw9
      have hm9 := C0.ext _ _ (B4.ext _ _ (e2 _ _ hAm))
      repeat (refine Ob.mk (by first | decide | omega) ?_; conv => whnf)
      refine AppendX.bb (l2 := a) C0 (rd_block hm9 ha) ha (by simp) rfl fun s10 h10 C1 => ?_; conv => whnf
      refine AppendX.bb (l2 := rlpI x) C1 (by have := (bl.ext C1.ext).rd; show rd h10 ((some ⟨w, 0, none⟩, 1, 1) : Sl).1 (((some ⟨w, 0, none⟩, 1, 1) : Sl).2.1 * 1) = _; rw [Nat.mul_one]; exact this) blen (by rw [List.length_append, ha]; simp only [List.length_cons, List.length_nil]; omega) rfl fun s11 h11 C2 => ?_; conv => whnf
      have hlist : [213 + ((rlpI x).length : Int), 148] ++ a ++ rlpI x = (213 + ((rlpI x).length : Int)) :: 148 :: (a ++ rlpI x) := by simp
      rw [hlist] at C2
      refine hashed_ok (C2.byt (isB.cons (by omega) (by omega) (isB.cons (by decide) (by decide) (hB.append hro.1))) (by simp [ha]; omega)) ?_; conv => whnf
      have hr9 := C2.ext _ _ (B4.ext _ _ (e2 _ _ hAr))
      refine Ob.mk ⟨by rw [List.size_toArray, bcells_length, hashedI_len]; rfl, ones_bcells _⟩ ?_; conv => whnf
      refine StoreX.at hr9 (by rw [List.toList_toArray, bcells_length, hashedI_len]; exact Nat.le_of_ble_eq_true rfl) ?_; conv => whnf
      rw [List.toList_toArray, setSeg_all (by rw [bcells_length, hashedI_len]; rfl)]
      refine LoadX.arr (hput_same ..) (hashedI_len _) ?_; conv => whnf
      exact RetX.drop (Ext.keep ((eA2.trans B4.ext).trans C2.ext) hr0) hk
    · have hrl : rlpI x = (128 + ((1 : Nat) : Int)) :: la.reverse := by
        unfold rlpI; rw [if_neg hx2, if_neg hc, ← hlae, hld]; rfl
      refine CondX.dT (by omega) ?_; conv => whnf
      refine IdxX.at (by decide) (by decide) ?_; conv => whnf
      rw [wrap_u8, wrap_u8, show (128 + ((1 : Nat) : Int) % 256) % 256 = 128 + ((1 : Nat) : Int) by omega]
      refine B.set0 (v := 128 + ((1 : Nat) : Int)) rfl rfl fun h4 B4 => ?_; conv => whnf
      refine LoopX.st T_ok Hval.func28 (σ := Nat × Sl) (fun y => [(2, .pointer (some ⟨m, 0, none⟩)), (4, .pointer (some ⟨r, 0, none⟩)), (5, sl y.2), (6, .slice b2 1 c2), (7, .int .i64 y.1)])
        (fun y h' => y.1 ≤ 1 ∧ BB h2 h' y.2 ((128 + ((1 : Nat) : Int)) :: (la.drop y.1).reverse)) (fun y => y.1) (1, (some ⟨w, 0, none⟩, 1, 1)) ⟨rfl, rfl, rfl, rfl, rfl, trivial⟩ ⟨Nat.le_refl _, by rw [List.drop_of_length_le (by omega)]; exact B4⟩ ?_
      rintro ⟨i, sr⟩ ρ h5 ⟨hi, B5⟩ ih
      simp only at hi B5
      conv => whnf
      refine CondX.decI (fun hc => ?_) (fun hc => ?_) <;> conv => whnf
      · have hl5 := hla.ext B5.ext
        rw [wpred (show i < 2 ^ 41 by omega) (by omega)]
        refine IdxX.rd hl5.rd (by omega) (by omega) fun b7 o7 e7 hz7 => ?_; conv => whnf
        refine LoadX.byte hl5 e7 (i - 1) rfl (by omega) rfl ?_; conv => whnf
        repeat (refine Ob.mk (by first | decide | omega) ?_; conv => whnf)
        refine BoxX.mk fun w2 hw2 => ?_; conv => whnf
        refine AppendX.bb (l2 := [la.getD (i - 1) 0]) (B5.box hw2) (rd_own (v := [Value.int .u8 (la.getD (i - 1) 0)]) rfl) rfl (by simp; omega) rfl fun s6 h6 B6 => ?_; conv => whnf
        refine ih (i - 1, s6) _ _ ⟨by dsimp only; omega, ?_⟩ (by dsimp only; omega) ⟨rfl, rfl, rfl, rfl, congrArg (Value.int .i64) (wpred (by omega) (by omega)), trivial⟩
        dsimp only
        have e8 : la.drop (i - 1) = la.getD (i - 1) 0 :: la.drop i := by
          rw [List.drop_eq_getElem_cons (show i - 1 < la.length by omega), show i - 1 + 1 = i by omega]
          congr 1
          rw [List.getD_eq_getElem?_getD, List.getElem?_eq_getElem (by omega)]; rfl
        rw [e8, List.reverse_cons, ← List.cons_append]
        exact B6
      · have : i = 0 := by omega
        subst this
        rw [List.drop_zero, ← hrl] at B5
        have bl := B5.byt hro.1 (by omega)
        have blen := bl.len
        have ev : IntKind.u8.wrap (192 + IntKind.u8.wrap (IntKind.i64.wrap (21 + (sr.2.1 : Int)))) = 213 + ((rlpI x).length : Int) := by
          rw [blen, wrap_i64 (by omega) (by omega), wrap_u8, wrap_u8]; omega
        erw [ev]
        repeat (refine Ob.mk (by first | decide | omega) ?_; conv => whnf)
        refine BoxX.mk fun w9 hw9 => ?_; conv => whnf
        have C0 : BB _ (hput _ w9 ([Value.int .u8 (213 + ((rlpI x).length : Int)), .int .u8 148], 5)) (some ⟨w9, 0, none⟩, 2, 2) [213 + ((rlpI x).length : Int), 148] := BB.start (l := [213 + ((rlpI x).length : Int), 148]) (Ext.refl _) hw9
        have hm9 := C0.ext _ _ (B5.ext _ _ (e2 _ _ hAm))
        repeat (refine Ob.mk (by first | decide | omega) ?_; conv => whnf)
        refine AppendX.bb (l2 := a) C0 (rd_block hm9 ha) ha (by simp) rfl fun s10 h10 C1 => ?_; conv => whnf
        refine AppendX.bb (l2 := rlpI x) C1 (by have := (bl.ext C1.ext).rd; show rd h10 sr.1 (sr.2.1 * 1) = _; rw [Nat.mul_one]; exact this) blen (by rw [List.length_append, ha]; simp only [List.length_cons, List.length_nil]; omega) rfl fun s11 h11 C2 => ?_; conv => whnf
        have hlist : [213 + ((rlpI x).length : Int), 148] ++ a ++ rlpI x = (213 + ((rlpI x).length : Int)) :: 148 :: (a ++ rlpI x) := by simp
        rw [hlist] at C2
        refine hashed_ok (C2.byt (isB.cons (by omega) (by omega) (isB.cons (by decide) (by decide) (hB.append hro.1))) (by simp [ha]; omega)) ?_; conv => whnf
        have hr9 := C2.ext _ _ (B5.ext _ _ (e2 _ _ hAr))
        refine Ob.mk ⟨by rw [List.size_toArray, bcells_length, hashedI_len]; rfl, ones_bcells _⟩ ?_; conv => whnf
        refine StoreX.at hr9 (by rw [List.toList_toArray, bcells_length, hashedI_len]; exact Nat.le_of_ble_eq_true rfl) ?_; conv => whnf
        rw [List.toList_toArray, setSeg_all (by rw [bcells_length, hashedI_len]; rfl)]
        refine LoadX.arr (hput_same ..) (hashedI_len _) ?_; conv => whnf
        exact RetX.drop (Ext.keep ((eA2.trans B5.ext).trans C2.ext) hr0) hk
  · by_cases hn0 : n2 = 0
    · subst hn0
      have hla0 : la = [] := List.eq_nil_of_length_eq_zero hlen
      have hx0' : x = 0 := by rw [← hdx, hla0]; rfl
      have hrl : rlpI x = [128] := by unfold rlpI; rw [if_pos hx0']
      rw [← hrl] at B
      repeat (first | (refine CondX.tt ?_; conv => whnf) | (refine CondX.ff ?_; conv => whnf))
      have bl := B.byt hro.1 (by omega)
      have blen := bl.len
      have ev : IntKind.u8.wrap (192 + IntKind.u8.wrap (IntKind.i64.wrap (21 + (((some ⟨w, 0, none⟩, 1, 1) : Sl).2.1 : Int)))) = 213 + ((rlpI x).length : Int) := by
        rw [blen, wrap_i64 (by omega) (by omega), wrap_u8, wrap_u8]; omega
      erw [ev]
      repeat (refine Ob.mk (by first | decide | omega) ?_; conv => whnf)
      refine BoxX.mk fun w9 hw9 => ?_; conv => whnf
      have C0 : BB _ (hput _ w9 ([Value.int .u8 (213 + ((rlpI x).length : Int)), .int .u8 148], 5)) (some ⟨w9, 0, none⟩, 2, 2) [213 + ((rlpI x).length : Int), 148] := BB.start (l := [213 + ((rlpI x).length : Int), 148]) (Ext.refl _) hw9
      have hm9 := C0.ext _ _ (B.ext _ _ (e2 _ _ hAm))
      repeat (refine Ob.mk (by first | decide | omega) ?_; conv => whnf)
      refine AppendX.bb (l2 := a) C0 (rd_block hm9 ha) ha (by simp) rfl fun s10 h10 C1 => ?_; conv => whnf
      refine AppendX.bb (l2 := rlpI x) C1 (by have := (bl.ext C1.ext).rd; show rd h10 ((some ⟨w, 0, none⟩, 1, 1) : Sl).1 (((some ⟨w, 0, none⟩, 1, 1) : Sl).2.1 * 1) = _; rw [Nat.mul_one]; exact this) blen (by rw [List.length_append, ha]; simp only [List.length_cons, List.length_nil]; omega) rfl fun s11 h11 C2 => ?_; conv => whnf
      have hlist : [213 + ((rlpI x).length : Int), 148] ++ a ++ rlpI x = (213 + ((rlpI x).length : Int)) :: 148 :: (a ++ rlpI x) := by simp
      rw [hlist] at C2
      refine hashed_ok (C2.byt (isB.cons (by omega) (by omega) (isB.cons (by decide) (by decide) (hB.append hro.1))) (by simp [ha]; omega)) ?_; conv => whnf
      have hr9 := C2.ext _ _ (B.ext _ _ (e2 _ _ hAr))
      refine Ob.mk ⟨by rw [List.size_toArray, bcells_length, hashedI_len]; rfl, ones_bcells _⟩ ?_; conv => whnf
      refine StoreX.at hr9 (by rw [List.toList_toArray, bcells_length, hashedI_len]; exact Nat.le_of_ble_eq_true rfl) ?_; conv => whnf
      rw [List.toList_toArray, setSeg_all (by rw [bcells_length, hashedI_len]; rfl)]
      refine LoadX.arr (hput_same ..) (hashedI_len _) ?_; conv => whnf
      exact RetX.drop (Ext.keep ((eA2.trans B.ext).trans C2.ext) hr0) hk
    · refine CondX.eqF (by omega) ?_; conv => whnf
      repeat (first | (refine CondX.tt ?_; conv => whnf) | (refine CondX.ff ?_; conv => whnf))
      have hx2 : x ≠ 0 := fun e => by rw [hlae, e] at hlen; simp [leT] at hlen; omega
      have hx3 : 128 ≤ x := by
        rcases Int.lt_or_le x 128 with q | q
        · have : leT 8 x = [x] := Tr_unique hle.2.2.1 (isB.cons hx0 (by omega) (fun d hd => by cases hd)) hle.2.1 (by simp [Tr, hx2]) (by rw [hle.1]; simp [dv])
          rw [hlae, this] at hlen; simp at hlen; omega
        · exact q
      have hrl : rlpI x = (128 + (n2 : Int)) :: la.reverse := by unfold rlpI; rw [if_neg hx2, if_neg (by omega), ← hlae, hlen]
      refine CondX.dT (by omega) ?_; conv => whnf
      refine IdxX.at (by decide) (by decide) ?_; conv => whnf
      rw [wrap_u8, wrap_u8, show (128 + ((n2 : Nat) : Int) % 256) % 256 = 128 + ((n2 : Nat) : Int) by omega]
      refine B.set0 (v := 128 + ((n2 : Nat) : Int)) rfl rfl fun h4 B4 => ?_; conv => whnf
      refine LoopX.st T_ok Hval.func28 (σ := Nat × Sl) (fun y => [(2, .pointer (some ⟨m, 0, none⟩)), (4, .pointer (some ⟨r, 0, none⟩)), (5, sl y.2), (6, .slice b2 n2 c2), (7, .int .i64 y.1)])
        (fun y h' => y.1 ≤ n2 ∧ BB h2 h' y.2 ((128 + ((n2 : Nat) : Int)) :: (la.drop y.1).reverse)) (fun y => y.1) (n2, (some ⟨w, 0, none⟩, 1, 1)) ⟨rfl, rfl, rfl, rfl, rfl, trivial⟩ ⟨Nat.le_refl _, by rw [List.drop_of_length_le (by omega)]; exact B4⟩ ?_
      rintro ⟨i, sr⟩ ρ h5 ⟨hi, B5⟩ ih
      simp only at hi B5
      conv => whnf
      refine CondX.decI (fun hc => ?_) (fun hc => ?_) <;> conv => whnf
      · have hl5 := hla.ext B5.ext
        rw [wpred (show i < 2 ^ 41 by omega) (by omega)]
        refine IdxX.rd hl5.rd (by omega) (by omega) fun b7 o7 e7 hz7 => ?_; conv => whnf
        refine LoadX.byte hl5 e7 (i - 1) rfl (by omega) rfl ?_; conv => whnf
        repeat (refine Ob.mk (by first | decide | omega) ?_; conv => whnf)
        refine BoxX.mk fun w2 hw2 => ?_; conv => whnf
        refine AppendX.bb (l2 := [la.getD (i - 1) 0]) (B5.box hw2) (rd_own (v := [Value.int .u8 (la.getD (i - 1) 0)]) rfl) rfl (by simp; omega) rfl fun s6 h6 B6 => ?_; conv => whnf
        refine ih (i - 1, s6) _ _ ⟨by dsimp only; omega, ?_⟩ (by dsimp only; omega) ⟨rfl, rfl, rfl, rfl, congrArg (Value.int .i64) (wpred (by omega) (by omega)), trivial⟩
        dsimp only
        have e8 : la.drop (i - 1) = la.getD (i - 1) 0 :: la.drop i := by
          rw [List.drop_eq_getElem_cons (show i - 1 < la.length by omega), show i - 1 + 1 = i by omega]
          congr 1
          rw [List.getD_eq_getElem?_getD, List.getElem?_eq_getElem (by omega)]; rfl
        rw [e8, List.reverse_cons, ← List.cons_append]
        exact B6
      · have : i = 0 := by omega
        subst this
        rw [List.drop_zero, ← hrl] at B5
        have bl := B5.byt hro.1 (by omega)
        have blen := bl.len
        have ev : IntKind.u8.wrap (192 + IntKind.u8.wrap (IntKind.i64.wrap (21 + (sr.2.1 : Int)))) = 213 + ((rlpI x).length : Int) := by
          rw [blen, wrap_i64 (by omega) (by omega), wrap_u8, wrap_u8]; omega
        erw [ev]
        repeat (refine Ob.mk (by first | decide | omega) ?_; conv => whnf)
        refine BoxX.mk fun w9 hw9 => ?_; conv => whnf
        have C0 : BB _ (hput _ w9 ([Value.int .u8 (213 + ((rlpI x).length : Int)), .int .u8 148], 5)) (some ⟨w9, 0, none⟩, 2, 2) [213 + ((rlpI x).length : Int), 148] := BB.start (l := [213 + ((rlpI x).length : Int), 148]) (Ext.refl _) hw9
        have hm9 := C0.ext _ _ (B5.ext _ _ (e2 _ _ hAm))
        repeat (refine Ob.mk (by first | decide | omega) ?_; conv => whnf)
        refine AppendX.bb (l2 := a) C0 (rd_block hm9 ha) ha (by simp) rfl fun s10 h10 C1 => ?_; conv => whnf
        refine AppendX.bb (l2 := rlpI x) C1 (by have := (bl.ext C1.ext).rd; show rd h10 sr.1 (sr.2.1 * 1) = _; rw [Nat.mul_one]; exact this) blen (by rw [List.length_append, ha]; simp only [List.length_cons, List.length_nil]; omega) rfl fun s11 h11 C2 => ?_; conv => whnf
        have hlist : [213 + ((rlpI x).length : Int), 148] ++ a ++ rlpI x = (213 + ((rlpI x).length : Int)) :: 148 :: (a ++ rlpI x) := by simp
        rw [hlist] at C2
        refine hashed_ok (C2.byt (isB.cons (by omega) (by omega) (isB.cons (by decide) (by decide) (hB.append hro.1))) (by simp [ha]; omega)) ?_; conv => whnf
        have hr9 := C2.ext _ _ (B5.ext _ _ (e2 _ _ hAr))
        refine Ob.mk ⟨by rw [List.size_toArray, bcells_length, hashedI_len]; rfl, ones_bcells _⟩ ?_; conv => whnf
        refine StoreX.at hr9 (by rw [List.toList_toArray, bcells_length, hashedI_len]; exact Nat.le_of_ble_eq_true rfl) ?_; conv => whnf
        rw [List.toList_toArray, setSeg_all (by rw [bcells_length, hashedI_len]; rfl)]
        refine LoadX.arr (hput_same ..) (hashedI_len _) ?_; conv => whnf
        exact RetX.drop (Ext.keep ((eA2.trans B5.ext).trans C2.ext) hr0) hk
set_option maxRecDepth 100000 in
set_option maxHeartbeats 4000000 in
theorem create2Addr_ok {a l : List Int} {b b2 : Option Addr} {n c n2 c2 : Nat} {x : Int} (ha : a.length = 20) (hB : isB a) (hx : Nt h b n c x) (hx1 : x < W) (hl : Byt h b2 n2 c2 l) (hk : K (.agg (bcells (create2I a x l)).toArray) h) : CallX Hval.prog 208 [.agg (bcells a).toArray, .slice b n c, .slice b2 n2 c2] h K := by
  refine CallX.of_xf T_ok Hval.func208 rfl (by kernel_rfl) (Nat.le_of_ble_eq_true rfl) ?_; conv => whnf
  refine BoxX.ext fun m hm em => ?_; conv => whnf
  refine BoxX.ext fun r hr er => ?_; conv => whnf
  obtain ⟨la, hla, rfl, ht⟩ := hx
  refine be32_ok ((hla.ext em).ext er) (by rw [show (256 : Int) ^ 32 = W by decide]; exact hx1) ?_; conv => whnf
  rw [List.toList_toArray] at em hr er ⊢
  have hAm : hput (hput h m (bcells a, 31)) r ((31, y31).snd.zero, 31) m = some (bcells a, 31) := er _ _ (hput_same ..)
  have hAr : hput (hput h m (bcells a, 31)) r ((31, y31).snd.zero, 31) r = some ((31, y31).snd.zero, 31) := hput_same ..
  have eA : Ext h (hput (hput h m (bcells a, 31)) r ((31, y31).snd.zero, 31)) := em.trans er
  have hr0 : h r = Option.none := by
    cases e : h r with
    | none => rfl
    | some x => have := em _ _ e; rw [hr.at] at this; cases this
  generalize hput (hput h m (bcells a, 31)) r ((31, y31).snd.zero, 31) = hA at hAm hAr eA ⊢
  clear em er hr hm
  refine BoxX.mk fun m7 hm7 => ?_; conv => whnf
  refine Ob.mk ⟨by rw [List.size_toArray, bcells_length, be_length]; rfl, ones_bcells _⟩ ?_; conv => whnf
  refine StoreX.at (hput_same ..) (by rw [List.toList_toArray, bcells_length, be_length]; exact Nat.le_of_ble_eq_true rfl) ?_; conv => whnf
  rw [List.toList_toArray, setSeg_all (by rw [bcells_length, be_length]; rfl), hput_hput]
  have e7 : Ext hA (hput hA m7 (bcells (be 32 (dv la)), 32)) := Ext.bd hm7
  have h7 : hput hA m7 (bcells (be 32 (dv la)), 32) m7 = some (bcells (be 32 (dv la)), 32) := hput_same ..
  generalize hput hA m7 (bcells (be 32 (dv la)), 32) = hB7 at e7 h7 ⊢
  refine kSum_ok (hl.ext (eA.trans e7)) ?_; conv => whnf
  refine BoxX.mk fun m9 hm9 => ?_; conv => whnf
  refine Ob.mk ⟨by rw [List.size_toArray, bcells_length, kSum_len]; rfl, ones_bcells _⟩ ?_; conv => whnf
  refine StoreX.at (hput_same ..) (by rw [List.toList_toArray, bcells_length, kSum_len]; exact Nat.le_of_ble_eq_true rfl) ?_; conv => whnf
  rw [List.toList_toArray, setSeg_all (by rw [bcells_length, kSum_len]; rfl), hput_hput]
  have e9 : Ext hB7 (hput hB7 m9 (bcells (kSum l), 32)) := Ext.bd hm9
  have h9 : hput hB7 m9 (bcells (kSum l), 32) m9 = some (bcells (kSum l), 32) := hput_same ..
  generalize hput hB7 m9 (bcells (kSum l), 32) = hB9 at e9 h9 ⊢
  have e79 := e7.trans e9
  repeat (refine Ob.mk (by first | decide | omega) ?_; conv => whnf)
  refine BoxX.mk fun w9 hw9 => ?_; conv => whnf
  have C0 : BB hB9 (hput hB9 w9 ([Value.int .u8 255], 5)) (some ⟨w9, 0, none⟩, 1, 1) [255] := BB.start (l := [255]) (Ext.refl _) hw9
  repeat (refine Ob.mk (by first | decide | omega) ?_; conv => whnf)
  refine AppendX.bb (l2 := a) C0 (rd_block (C0.ext _ _ (e79 _ _ hAm)) ha) ha (by simp) rfl fun s10 h10 C1 => ?_; conv => whnf
  repeat (refine Ob.mk (by first | decide | omega) ?_; conv => whnf)
  refine AppendX.bb (l2 := be 32 (dv la)) C1 (rd_block (C1.ext _ _ (e9 _ _ h7)) (be_length ..)) (be_length ..) (by simp [ha]) rfl fun s11 h11 C2 => ?_; conv => whnf
  repeat (refine Ob.mk (by first | decide | omega) ?_; conv => whnf)
  refine AppendX.bb (l2 := kSum l) C2 (rd_block (C2.ext _ _ h9) (kSum_len _)) (kSum_len _) (by simp [ha, be_length]) rfl fun s12 h12 C3 => ?_; conv => whnf
  have hlist : [255] ++ a ++ be 32 (dv la) ++ kSum l = 255 :: (a ++ (be 32 (dv la) ++ kSum l)) := by simp
  rw [hlist] at C3
  refine hashed_ok (C3.byt (isB.cons (by decide) (by decide) (hB.append ((isB_be 32 (dv la)).append (kSum_isB l)))) (by simp [ha, be_length, kSum_len])) ?_; conv => whnf
  refine Ob.mk ⟨by rw [List.size_toArray, bcells_length, hashedI_len]; rfl, ones_bcells _⟩ ?_; conv => whnf
  refine StoreX.at (C3.ext _ _ (e79 _ _ hAr)) (by rw [List.toList_toArray, bcells_length, hashedI_len]; exact Nat.le_of_ble_eq_true rfl) ?_; conv => whnf
  rw [List.toList_toArray, setSeg_all (by rw [bcells_length, hashedI_len]; rfl)]
  refine LoadX.arr (hput_same ..) (hashedI_len _) ?_; conv => whnf
  exact RetX.drop (Ext.keep ((eA.trans e79).trans C3.ext) hr0) hk
end
end Go.Proofs.YgvalwGreat.X
