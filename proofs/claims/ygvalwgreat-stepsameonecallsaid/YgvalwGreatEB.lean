import Derived.Test.YgvalwGreatE43
set_option linter.unusedVariables false
set_option linter.unusedSimpArgs false
namespace Go.Proofs.YgvalwGreat.X
open Go

section
variable {hi hi0 hi' hm hm' : Hp} {K : Value → Hp → Prop} {mc : Nat → Value} {v : VS} {eb : Nat}
def zT (i : Nat) (k : Int) : ET := ⟨i, k, 0⟩
def cTemp (c : VCore) (i : Nat) (k : Int) : VCore := match idxT c.tL i k with
  | some _ => c
  | none => { c with tL := c.tL ++ [zT i k] }
def atT (c : VCore) (i : Nat) (k : Int) : Nat := match idxT c.tL i k with
  | some j => j
  | none => c.tL.length
theorem cok_temp {c : VCore} {i k : Nat} (C : COK c) (ha : i < c.aL.length) (hk : (k : Int) < W) (hroom : c.tL.length < 12288) (hn : idxT c.tL i k = none) : COK { c with tL := c.tL ++ [zT i k] } := by
  have hW := W_pos
  have hne : ∀ j, j < c.tL.length → ¬ ((c.tL.getD j dT).acct = i ∧ (c.tL.getD j dT).key = k) := fun j hj => of_decide_eq_false (idx_no (d := dT) hn j hj)
  refine ⟨C.fewA, C.fewS, by simp; omega, C.fewJ, C.fewL, C.awf, C.swf, fun x hx => ?_, fun x hx => ?_, C.adis, C.sdis, fun i1 j hi hj he hke => ?_, C.ref, C.nm, C.mks⟩
  · rcases List.mem_append.1 hx with h1 | h1
    · exact C.twf x h1
    · rw [List.mem_singleton.1 h1]; exact ⟨ha, ⟨by show (0 : Int) ≤ k; omega, hk⟩, ⟨by show (0 : Int) ≤ 0; omega, hW⟩⟩
  · obtain ⟨⟨h1, h2, h3, h4, h5⟩, h6⟩ := C.jwf x hx
    exact ⟨⟨h1, h2, h3, h4, fun h => by have := h5 h; show x.at_ < (c.tL ++ [zT i k]).length; simp; omega⟩, h6⟩
  · dsimp only at hi hj he hke
    rw [List.length_append, List.length_singleton] at hi hj
    by_cases h1 : i1 = c.tL.length
    · by_cases h2 : j = c.tL.length
      · omega
      · rw [h1, getDl, getDa (show j < c.tL.length by omega)] at he hke
        exact absurd ⟨he.symm, hke.symm⟩ (hne j (by omega))
    · by_cases h2 : j = c.tL.length
      · rw [h2, getDl, getDa (show i1 < c.tL.length by omega)] at he hke
        exact absurd ⟨he, hke⟩ (hne i1 (by omega))
      · rw [getDa (by omega), getDa (by omega)] at he hke
        exact C.tdis i1 j (by omega) (by omega) he hke
theorem tag_ne {h : Hp} {a b : Nat} {c c' : List Value} {t t' : TypeId} (h1 : h a = some (c, t)) (h2 : h b = some (c', t')) (hne : t ≠ t') : a ≠ b := by
  rintro rfl
  rw [h1] at h2
  injection h2 with h3
  exact hne (congrArg Prod.snd h3)
theorem tab_empty {N : Nat} {home : Nat → Nat} : TabOK N (fun _ => -1) 0 home :=
  ⟨fun _ _ => .inl rfl, ⟨List.range N, List.nodup_range, fun p => by simp, by simp⟩, fun i hi => absurd hi (by omega)⟩
/-- A new table for the transient slots. -/
theorem VOK.newT (V : VOK hi hm eb mc v) (ht : v.ttS = nilS) {m : Nat} (hin : hi m = none) (hmn : hm m = none) :
    VOK hi (hput (hput hm eb (fnv 27024 (eC mc { v with ttS := (some ⟨m, 0, none⟩, 16384, 16384), ttab := fun _ => -1 }), 101)) m (fnv 16384 fun _ => .int .i32 (-1), 21)) eb mc { v with ttS := (some ⟨m, 0, none⟩, 16384, 16384), ttab := fun _ => -1 } := by
  have htl : v.tL = [] := by
    rcases V.ttT with h1 | ⟨m, h1, h2, h3⟩
    · exact h1.2
    · rw [ht] at h1; cases h1
  have hne : eb ≠ m := by rintro rfl; rw [V.blk] at hmn; cases hmn
  have kp : KpT 101 hm (hput hm eb (fnv 27024 (eC mc { v with ttS := (some ⟨m, 0, none⟩, 16384, 16384), ttab := fun _ => -1 }), 101)) := KpT.put V.blk
  have kp2 : Ext (hput hm eb (fnv 27024 (eC mc { v with ttS := (some ⟨m, 0, none⟩, 16384, 16384), ttab := fun _ => -1 }), 101)) (hput (hput hm eb (fnv 27024 (eC mc { v with ttS := (some ⟨m, 0, none⟩, 16384, 16384), ttab := fun _ => -1 }), 101)) m (fnv 16384 fun _ => .int .i32 (-1), 21)) := Ext.new (by rw [hput_ne hne.symm]; exact hmn)
  have kq : ∀ {e : TypeId} {s sz es}, e ≠ 101 → ArrT hm e s sz es → ArrT _ e s sz es := fun he a => (a.kp kp he).kp (e' := 101) (fun b c t _ hb => kp2 _ _ hb) he
  exact ⟨(V.dj.put V.blk).newm hin, by rw [hput_ne hne, hput_same], kq (by decide) V.aT, kq (by decide) V.sT, kq (by decide) V.jT, kq (by decide) V.lT, kq (by decide) V.tT, .inr ⟨m, rfl, hput_same .., by show TabOK 16384 _ v.tL.length _; rw [htl]; exact tab_empty⟩, V.atab, V.stab, V.ac, V.jc, V.cok⟩
/-- A transient slot more. -/
theorem VOK.addT (V : VOK hi hm eb mc v) {m : Nat} (hts : v.ttS = (some ⟨m, 0, none⟩, 16384, 16384)) (hd : Dj hi hm') (k : KpT 401 hm hm') {s' : Sl} {x : ET} {p : Nat} (tT : ArrT hm' 401 s' 9 ((v.tL ++ [x]).map tpCells)) (hg : Gap 16384 v.ttab (mixS x.acct x.key.toNat % 16384) p) (cok : COK { v.core with tL := v.tL ++ [x] }) :
    VOK hi (hput (hput hm' eb (fnv 27024 (eC mc { v with tS := s', tL := v.tL ++ [x], ttab := updN v.ttab p v.tL.length }), 101)) m (fnv 16384 fun q => .int .i32 (updN v.ttab p v.tL.length q), 21)) eb mc { v with tS := s', tL := v.tL ++ [x], ttab := updN v.ttab p v.tL.length } := by
  obtain ⟨hm0, Tb⟩ : hm m = some (fnv 16384 fun p => .int .i32 (v.ttab p), 21) ∧ TabOK 16384 v.ttab v.tL.length (fun i => mixS (v.tL.getD i dT).acct (v.tL.getD i dT).key.toNat % 16384) := by
    rcases V.ttT with h1 | ⟨m', h1, h2, h3⟩
    · rw [h1.1] at hts; cases hts
    · have e : (some ⟨m', 0, none⟩ : Option Addr) = some ⟨m, 0, none⟩ := congrArg (fun s : Sl => s.1) (h1.symm.trans hts)
      cases e; exact ⟨h2, h3⟩
  have hb : hm' eb = some (fnv 27024 (eC mc v), 101) := k _ _ _ (by decide) V.blk
  have hm1 := k _ _ _ (by decide) hm0
  have hne : eb ≠ m := tag_ne hb hm1 (by decide)
  have kp : KpT 101 hm' (hput hm' eb (fnv 27024 (eC mc { v with tS := s', tL := v.tL ++ [x], ttab := updN v.ttab p v.tL.length }), 101)) := KpT.put hb
  have hm2 := kp _ _ _ (by decide) hm1
  have kp2 : KpT 21 (hput hm' eb (fnv 27024 (eC mc { v with tS := s', tL := v.tL ++ [x], ttab := updN v.ttab p v.tL.length }), 101)) (hput (hput hm' eb (fnv 27024 (eC mc { v with tS := s', tL := v.tL ++ [x], ttab := updN v.ttab p v.tL.length }), 101)) m (fnv 16384 fun q => .int .i32 (updN v.ttab p v.tL.length q), 21)) := KpT.put hm2
  have kq : ∀ {e : TypeId} {s sz es}, e ≠ 101 → e ≠ 21 → ArrT hm' e s sz es → ArrT _ e s sz es := fun he he2 a => (a.kp kp he).kp kp2 he2
  refine ⟨(hd.put hb).put hm2, by rw [hput_ne hne, hput_same], kq (by decide) (by decide) (V.aT.kp k (by decide)), kq (by decide) (by decide) (V.sT.kp k (by decide)), kq (by decide) (by decide) (V.jT.kp k (by decide)), kq (by decide) (by decide) (V.lT.kp k (by decide)), kq (by decide) (by decide) tT, .inr ⟨m, hts, hput_same .., ?_⟩, V.atab, V.stab, V.ac, V.jc, cok⟩
  show TabOK 16384 (updN v.ttab p v.tL.length) (v.tL ++ [x]).length _
  rw [List.length_append, List.length_singleton]
  refine Tb.add (p := p) ?_ fun i hi => ?_
  · show Gap 16384 v.ttab (mixS ((v.tL ++ [x]).getD v.tL.length dT).acct ((v.tL ++ [x]).getD v.tL.length dT).key.toNat % 16384) p
    rw [getDl]; exact hg
  · show mixS ((v.tL ++ [x]).getD i dT).acct ((v.tL ++ [x]).getD i dT).key.toNat % 16384 = _
    rw [getDa hi]
theorem idxT_new {c : VCore} {a : List Int} {k : Int} (C : COK c) (h : idxA c.aL a = none) : idxT c.tL (atA c a) k = none := by
  have ha : atA c a = c.aL.length := by unfold atA; rw [h]
  refine idx_none (d := dT) fun j hj => decide_eq_false fun hh => ?_
  have := (C.twf (c.tL.getD j dT) (by rw [List.getD_eq_getElem?_getD, List.getElem?_eq_getElem hj]; exact List.getElem_mem hj)).1
  omega
end
end Go.Proofs.YgvalwGreat.X
