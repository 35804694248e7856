import Derived.Test.YgvalwGreatG15
set_option linter.unusedVariables false
set_option linter.unusedSimpArgs false
namespace Go.Proofs.YgvalwGreat.X
open Go

section
variable {hi hm : Hp} {K : Value → Hp → Prop} {c : Nat} {tc : TypeId} {s : YS} {base frs : List (YF × List Int)} {f : YF} {m ret : List Int} {left : Int} {N : Nat} {sa : Sl} {xs : List (Sl × Int)}
/-- To append to a frozen array: the elements are laid anew. -/
theorem AppendX.frz {e : TypeId} {bytes sz : Nat} {z : List Value} {s : Sl} {es : List (List Value)} {nw : Option (List Value)} {new : List Value} (hd : Dj hi hm) (a : ArrF hi s sz es) (hnw : nw = some new) (hsz : new.length = sz) (hz : z.length = sz) (ho : ones new = true)
    (hby : 0 < bytes) (hroom : (s.2.1 + 1) * bytes ≤ 2 ^ 47)
    (hk : ∀ s' hm', Dj hi hm' → ArrM hm' s' sz (es ++ [new]) → (∀ c y, hm c = some y → (∀ fb, s.1 = some ⟨fb, 0, none⟩ → c ≠ fb) → hm' c = some y ∧ ∀ fb, s'.1 = some ⟨fb, 0, none⟩ → c ≠ fb) → K (sl s') (join hi hm')) :
    AppendX (join hi hm) e sz bytes z s.1 s.2.1 s.2.2 nw 1 K := by
  have szs' : ∀ x ∈ es ++ [new], x.length = sz := fun x hx => by
    rcases List.mem_append.1 hx with h1 | h1
    · exact a.1.szs x h1
    · rw [List.mem_singleton.1 h1]; exact hsz
  have one' : ∀ x ∈ es ++ [new], ones x = true := fun x hx => by
    rcases List.mem_append.1 hx with h1 | h1
    · exact a.1.one x h1
    · rw [List.mem_singleton.1 h1]; exact ho
  have hlen := a.1.len
  have hc := a.2
  refine ⟨hby, es.flatten, new, rd_ext (Ext.jl hi hm) a.1.rd, hnw, hroom, fun hle => by omega, fun _ nc hnc m hm' => ?_⟩
  obtain ⟨hin, hmn⟩ := join_none (hm'.none (Nat.le_refl _))
  rw [join_putm hin]
  refine hk (some ⟨m, 0, none⟩, s.2.1 + 1, nc) _ (hd.newm hin) ⟨fun b x hb => (by cases hb), szs', one', by simp [hlen], .inr ⟨m, zeros z (nc - (s.2.1 + 1)), e, rfl, rfl, ?_, hnc, ?_⟩⟩ fun c y hcy _ => ?_
  · rw [hput_same]; simp
  · show (nc - (s.2.1 + 1)) * sz ≤ _
    rw [zeros_len, hz]
    exact Nat.le_refl _
  · have hcm : c ≠ m := by rintro rfl; rw [hmn] at hcy; cases hcy
    exact ⟨by rw [hput_ne hcm]; exact hcy, fun fb hs he => by cases hs; exact hcm he⟩
/-- A mutable array that will not turn any more. -/
theorem freezeM {sT : Sl} {sz : Nat} {es : List (List Value)} (hd : Dj hi hm) (a : ArrM hm sT sz es) : ∃ hi2 hm2, join hi hm = join hi2 hm2 ∧ Dj hi2 hm2 ∧ Ext hi hi2 ∧ Arr hi2 sT sz es ∧ ∀ b y, hm b = some y → ¬ at0 sT b → hm2 b = some y := by
  have hA := Bld.arr a
  rcases a.blk with ⟨h1, h2, h3⟩ | ⟨mT, pad, t, h1, -, h3, h4, h5⟩
  · refine ⟨hi, hm, rfl, hd, Ext.refl _, ⟨?_, hA.len, hA.szs, hA.one, hA.le, hA.nil⟩, fun b y hb _ => hb⟩
    have := hA.rd
    rw [h1] at this ⊢
    exact this
  · have hin : hi mT = none := hd.lft h3
    refine ⟨hput hi mT (es.flatten ++ pad, t), fun b => if b = mT then none else hm b, ?_, ?_, Ext.new hin, ⟨?_, hA.len, hA.szs, hA.one, hA.le, hA.nil⟩, ?_⟩
    · funext b
      by_cases hb : b = mT
      · subst hb; rw [join_r hin, h3, join_l (hput_same ..)]
      · unfold join; dsimp only; rw [hput_ne hb, if_neg hb]
    · intro b
      by_cases hb : b = mT
      · exact .inr (by dsimp only; rw [if_pos hb])
      · dsimp only; rw [hput_ne hb, if_neg hb]; exact hd b
    · have := hA.rd
      rw [h1] at this ⊢
      simp only [rd, h3] at this
      simp only [rd, hput_same]
      exact this
    · intro b y hb hn
      have : b ≠ mT := by rintro rfl; exact hn h1
      show (if b = mT then none else hm b) = some y
      rw [if_neg this]; exact hb
/-- One log more. -/
theorem StOK.setLog (S : StOK hi hm c tc s frs ret left) {sL : Sl} {x : YLog} (hx : x.ok hi) {hm' : Hp} (hd' : Dj hi hm') (hA : ArrM hm' sL 22 ((s.w.logs ++ [x]).map logCells)) (hkeep : ∀ b y, hm b = some y → (∀ lb, s.w.sL.1 = some ⟨lb, 0, none⟩ → b ≠ lb) → hm' b = some y ∧ ∀ fb, sL.1 = some ⟨fb, 0, none⟩ → b ≠ fb) :
    StOK hi (hput hm' c (sCells { s with w := { s.w with sL := sL, logs := s.w.logs ++ [x] } }, tc)) c tc { s with w := { s.w with sL := sL, logs := s.w.logs ++ [x] } } frs ret left := by
  have hold : ∀ b y, hm b = some y → (at0 s.w.sL b → ArrM hm s.w.sL 22 (s.w.logs.map logCells) → False) → hm' b = some y ∧ ∀ fb, sL.1 = some ⟨fb, 0, none⟩ → b ≠ fb := fun b y hb hn => hkeep b y hb fun lb hlb he => by
    subst he
    rcases S.lg with h1 | ⟨h1, -⟩
    · have hr := h1.1.rd
      rw [hlb] at hr
      cases hx : hi b with
      | none => simp [rd, hx] at hr
      | some z => have := S.dj.lft hb; rw [hx] at this; cases this
    · exact hn hlb h1
  have hC := hold c _ S.chain fun h1 h2 => by
    rcases S.lg with h3 | ⟨-, h3⟩
    · have hr := h3.1.rd
      rw [h1] at hr
      have := S.dj.lft S.chain
      simp [rd, this] at hr
    · exact (h3 c h1).1 rfl
  have lgf : ∀ fb, at0 s.frS fb → at0 s.w.sL fb → ArrM hm s.w.sL 22 (s.w.logs.map logCells) → ∀ y, hm fb = some y → False := fun fb h1 h2 h3 y hy => by
    rcases S.lg with h4 | ⟨-, h4⟩
    · have hr := h4.1.rd
      rw [h2] at hr
      have := S.dj.lft hy
      simp [rd, this] at hr
    · exact (h4 fb h2).2.1 fb h1 rfl
  have lgm : ∀ q ∈ frs, ∀ mb, at0 q.1.memS mb → at0 s.w.sL mb → ∀ y, hm mb = some y → False := fun q hq mb h1 h2 y hy => by
    rcases S.lg with h4 | ⟨-, h4⟩
    · have hr := h4.1.rd
      rw [h2] at hr
      have := S.dj.lft hy
      simp [rd, this] at hr
    · exact (h4 mb h2).2.2 q hq h1
  have hd2 := hd'.put (y := (sCells { s with w := { s.w with sL := sL, logs := s.w.logs ++ [x] } }, tc)) hC.1
  have hA2 : ArrM (hput hm' c (sCells { s with w := { s.w with sL := sL, logs := s.w.logs ++ [x] } }, tc)) sL 22 ((s.w.logs ++ [x]).map logCells) := hA.mono fun fb y hs hb => by rw [hput_ne (hC.2 fb hs).symm]; exact hb
  have w := S.now
  refine ⟨hd2, hput_same .., ⟨w.acc, w.wa, w.ws, w.ref, hA2.arr hd2, fun y hy => ?_, w.temps, w.made, w.gone⟩, ?_, S.frC, S.ok, fun q hq => ?_, S.memC, S.dis, .inr ⟨hA2, fun lb hlb => ⟨(hC.2 lb hlb).symm, fun fb hfb => ?_, fun q hq hmb => ?_⟩⟩, S.ret, S.left⟩
  · rcases List.mem_append.1 hy with h5 | h5
    · exact w.logsE y h5
    · rw [List.mem_singleton.1 h5]; exact hx
  · exact S.frA.mono fun fb y hs hb => by
      rw [hput_ne (S.frC fb hs).symm]
      exact (hold fb y hb fun h1 h2 => lgf fb hs h1 h2 y hb).1
  · exact (S.mem q hq).keep fun mb y hmb hy => by
      rw [hput_ne (S.memC q hq mb hmb).1]
      exact (hold mb y hy fun h1 _ => lgm q hq mb hmb h1 y hy).1
  · rcases S.frA.blk with ⟨h1, -⟩ | ⟨mm, pad, t, h1, -, h3, -⟩
    · rw [at0, h1] at hfb; cases hfb
    · have : some (⟨fb, 0, none⟩ : Addr) = some ⟨mm, 0, none⟩ := hfb.symm.trans h1
      cases this
      exact ((hold fb _ h3 fun h1 h2 => lgf fb hfb h1 h2 _ h3).2 lb hlb).symm
  · obtain ⟨-, -, h6 | ⟨mb, h6, h7⟩⟩ := S.mem q hq
    · rw [at0, h6.1] at hmb; cases hmb
    · have : some (⟨lb, 0, none⟩ : Addr) = some ⟨mb, 0, none⟩ := hmb.symm.trans (by rw [h6])
      cases this
      exact (hold lb _ h7 fun h1 _ => lgm q hq lb hmb h1 _ h7).2 lb hlb rfl
theorem AppendX.lg {e : TypeId} {bytes : Nat} {z : List Value} {nw : Option (List Value)} {new : List Value} (S : StOK hi hm c tc s frs ret left) (hnw : nw = some new) (hsz : new.length = 22) (hz : z.length = 22) (ho : ones new = true) (hby : 0 < bytes) (hroom : (s.w.sL.2.1 + 1) * bytes ≤ 2 ^ 47)
    (hk : ∀ s' hm', Dj hi hm' → ArrM hm' s' 22 (s.w.logs.map logCells ++ [new]) → (∀ c y, hm c = some y → (∀ fb, s.w.sL.1 = some ⟨fb, 0, none⟩ → c ≠ fb) → hm' c = some y ∧ ∀ fb, s'.1 = some ⟨fb, 0, none⟩ → c ≠ fb) → K (sl s') (join hi hm')) :
    AppendX (join hi hm) e 22 bytes z s.w.sL.1 s.w.sL.2.1 s.w.sL.2.2 nw 1 K := by
  rcases S.lg with h1 | ⟨h1, -⟩
  · exact AppendX.frz S.dj h1 hnw hsz hz ho hby hroom hk
  · exact AppendX.mut S.dj h1 hnw hsz hz ho hby hroom hk
end
end Go.Proofs.YgvalwGreat.X
