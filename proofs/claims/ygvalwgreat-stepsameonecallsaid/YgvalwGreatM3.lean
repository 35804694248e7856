import Derived.Test.YgvalwGreatM2
set_option linter.unusedVariables false
set_option linter.unusedSimpArgs false
namespace Go.Proofs.YgvalwGreat.X
open Go

section
variable {hi hm h : Hp} {K : Value → Hp → Prop} {mc mc' : Nat → Value} {v : VS} {eb : Nat} {w : AW} {sn : List AW} {m : MS} {t : Nat}
theorem updN_updN {α : Type} (f : Nat → α) (i : Nat) (x y : α) : updN (updN f i x) i y = updN f i y := by
  funext k; unfold updN; split <;> rfl
theorem StoreX.jfL {b n o q : Nat} {g g' : Nat → Value} {ty : TypeId} {vs : List Value} {KK : Hp → Prop} (hd : Dj hi hm) (hb : hm b = some (fnv n g, ty)) (hvs : vs = fnv q g') (k : Nat) (ho : o = k) (hk : k + q ≤ n) (hK : Dj hi (hput hm b (fnv n (updL g k q g'), ty)) → KK (join hi (hput hm b (fnv n (updL g k q g'), ty)))) : StoreX (join hi hm) b o vs KK := by
  subst ho hvs
  refine StoreX.jm hd hb (by rw [fnv_len, fnv_len]; exact hk) ?_
  rw [fnv_setL hk]; exact hK (hd.put hb)
theorem wc_fnv (x : Int) : wc x = fnv 4 (wcD x) := rfl
set_option maxRecDepth 100000 in
set_option maxHeartbeats 4000000 in
theorem mU_stk {i : Nat} {x : Int} (h : i < 448) : updL (eC (mC eb m) v) (11 + i * 4) 4 (wcD x) = eC (mC eb { m with stk := updN m.stk i x }) v := by
  funext k
  unfold updL
  by_cases hk : 11 ≤ k ∧ k < 1803
  · obtain ⟨i', j', hi', hj', rfl⟩ : ∃ i' j', i' < 448 ∧ j' < 4 ∧ k = 11 + i' * 4 + j' := ⟨(k - 11) / 4, (k - 11) % 4, by omega, by omega, by omega⟩
    rw [mR_stk hi' hj', mR_stk hi' hj']
    dsimp only
    unfold updN
    by_cases he : i' = i
    · subst he
      rw [if_pos (by omega), if_pos rfl, show 11 + i' * 4 + j' - (11 + i' * 4) = j' by omega]
    · rw [if_neg (by omega), if_neg he]
  · rw [if_neg (by omega)]
    unfold eC
    by_cases h1 : k < 2435
    · rw [if_pos h1, if_pos h1]
      unfold mC
      dsimp only
      by_cases h2 : k < 11
      · by_cases h3 : k = 10
        · subst h3; rfl
        · have h4 : k < 10 := by omega
          simp only [if_pos h4]
      · simp only [if_neg (show ¬ k < 1803 by omega)]
    · rw [if_neg h1, if_neg h1]
      by_cases h2 : k < 27019
      · rw [if_pos h2, if_pos h2]
      · rw [if_neg h2, if_neg h2]
        unfold mC
        dsimp only
        simp only [if_neg (show ¬ k < 1803 by omega)]
def settleM (m : MS) (t tk : Nat) (g : Option Int) (st : Nat) : MS := match g with
  | some x => { m with stk := updN m.stk (64 * t + ((m.fr t).sp - tk)) x, fr := updN m.fr t { m.fr t with sp := (m.fr t).sp - tk + 1, pc := (m.fr t).pc + st } }
  | none => { m with fr := updN m.fr t { m.fr t with sp := (m.fr t).sp - tk, pc := (m.fr t).pc + st } }
def gB (g : Option Int) : Bool := g.isSome
def gW (g : Option Int) : Int := g.getD 0
theorem MA.setF (M : MA hi hm eb m t w sn v) {f : MF} {m' : MS} (hm' : m' = { m with fr := updN m.fr t f } ∨ ∃ i x, (0 ≤ x ∧ x < W) ∧ m' = { m with stk := updN m.stk i x, fr := updN m.fr t f }) (hF : FOK hi f t) : MA hi (hput hm eb (fnv 27024 (eC (mC eb m') v), 101)) eb m' t w sn v := by
  have hA := M.A.setM (mC eb m')
  rcases hm' with rfl | ⟨i, x, hx, rfl⟩
  · refine ⟨hA, M.phase, M.top, M.t7, fun j hj => ?_, M.stw, M.ret⟩
    dsimp only; unfold updN
    split <;> rename_i h1
    · rw [h1]; exact hF
    · exact M.fok j hj
  · refine ⟨hA, M.phase, M.top, M.t7, fun j hj => ?_, fun j => ?_, M.ret⟩
    · dsimp only; unfold updN
      split <;> rename_i h1
      · rw [h1]; exact hF
      · exact M.fok j hj
    · dsimp only; unfold updN
      split
      · exact hx
      · exact M.stw j
set_option maxRecDepth 100000 in
set_option maxHeartbeats 4000000 in
theorem settle_some {tk st : Nat} {x : Int} (M : MA hi hm eb m t w sn v) (htk : tk ≤ (m.fr t).sp) (hroom : (m.fr t).sp - tk < 64) (hst : (m.fr t).pc + st < 2000) (hx : 0 ≤ x ∧ x < W)
    (hk : ∀ hm', MA hi hm' eb (settleM m t tk (some x) st) t w sn v → K (.tuple #[]) (join hi hm')) : CallX Hval.prog 244 [.pointer (some ⟨eb, 0, none⟩), .pointer (some ⟨eb, 1803 + t * 65, none⟩), .int .u16 tk, .bool true, .agg (wc x).toArray, .int .u16 st] (join hi hm) K := by
  have h7 := M.t7
  have F := M.f
  have hsp := F.sp
  have hsb := F.sb
  have hpc := F.pc
  refine CallX.of_xf T_ok Hval.func244 rfl (by kernel_rfl) (Nat.le_of_ble_eq_true rfl) ?_; conv => whnf
  refine BoxX.j M.A.V.dj fun n1 hin hmn hd1 hE => ?_; conv => whnf
  have bx1 : (hput hi n1 ((wc x).toArray.toList, 75)) n1 = some (wc x, 75) := hput_same ..
  generalize hput hi n1 ((wc x).toArray.toList, 75) = hi1 at *
  have hb := join_hm hd1 M.A.V.blk
  refine LoadX.fn hb (1803 + t * 65 + 6) rfl (by omega) ?_
  rw [mR_sp h7]; conv => whnf
  refine CondX.dF (by omega) ?_; conv => whnf
  refine LoadX.fn hb (1803 + t * 65 + 6) rfl (by omega) ?_
  rw [mR_sp h7]; conv => whnf
  rw [show IntKind.u16.wrap (((m.fr t).sp : Int) - tk) = (((m.fr t).sp - tk : Nat) : Int) by rw [wrap_u16]; omega]
  repeat (first | (refine CondX.tt ?_; conv => whnf) | (refine CondX.ff ?_; conv => whnf))
  refine LoadX.fn hb (1803 + t * 65 + 5) rfl (by omega) ?_
  rw [mR_sb h7]; conv => whnf
  rw [show IntKind.i64.wrap ((m.fr t).sb : Int) = (m.fr t).sb from wrap_i64 (by omega) (by omega), show IntKind.i64.wrap (((m.fr t).sp - tk : Nat) : Int) = (((m.fr t).sp - tk : Nat) : Int) from wrap_i64 (by omega) (by omega), show IntKind.i64.wrap (((m.fr t).sb : Int) + (((m.fr t).sp - tk : Nat) : Int)) = ((64 * t + ((m.fr t).sp - tk) : Nat) : Int) by rw [wrap_i64 (by omega) (by omega)]; omega]
  refine CondX.dF (by omega) ?_; conv => whnf
  repeat (first | (refine CondX.tt ?_; conv => whnf) | (refine CondX.ff ?_; conv => whnf))
  refine CondX.dF (by omega) ?_; conv => whnf
  refine DrawX.go T_ok hM Hval.func244 (tb := dr244) rfl (by kernel_rfl) ?_; conv => whnf
  refine LoadX.all (join_l bx1) rfl ?_; conv => whnf
  refine Ob.mk ⟨by omega, by omega⟩ ?_; conv => whnf
  refine Ob.mk ⟨rfl, rfl⟩ ?_; conv => whnf
  refine StoreX.jfL hd1 M.A.V.blk (wc_fnv x) (11 + (64 * t + ((m.fr t).sp - tk)) * 4) (by rw [Int.toNat_natCast]; rfl) (by omega) fun hd2 => ?_
  rw [mU_stk (by omega)] at hd2 ⊢; conv => whnf
  rw [show IntKind.u16.wrap ((((m.fr t).sp - tk : Nat) : Int) + 1) = (((m.fr t).sp - tk + 1 : Nat) : Int) by rw [wrap_u16]; omega]
  refine StoreX.jf hd2 (hput_same ..) (1803 + t * 65 + 6) rfl (by omega) fun hd3 => ?_
  rw [eU_sp h7, hput_hput] at hd3 ⊢; conv => whnf
  refine LoadX.fn (join_hm hd3 (hput_same ..)) (1803 + t * 65 + 4) rfl (by omega) ?_
  rw [mR_pc h7]; conv => whnf
  dsimp only
  rw [updN_same]
  dsimp only
  rw [show IntKind.u16.wrap (((m.fr t).pc : Int) + st) = (((m.fr t).pc + st : Nat) : Int) by rw [wrap_u16]; omega]
  refine StoreX.jf hd3 (hput_same ..) (1803 + t * 65 + 4) rfl (by omega) fun hd4 => ?_
  rw [eU_pc h7, hput_hput] at hd4 ⊢; conv => whnf
  dsimp only at hd4 ⊢
  rw [updN_same, updN_updN] at hd4 ⊢
  refine RetX.drop (h' := join hi (hput hm eb (fnv 27024 (eC (mC eb (settleM m t tk (some x) st)) v), 101))) (Ext.j2 hE hd4 (Ext.refl _)) ?_
  exact hk _ (M.setF (f := { m.fr t with sp := (m.fr t).sp - tk + 1, pc := (m.fr t).pc + st }) (.inr ⟨_, x, hx, rfl⟩) ⟨F.sb, by show (m.fr t).sp - tk + 1 ≤ 64; omega, hst, F.gas, F.self, F.caller, F.val, F.code, F.cl, F.input, F.dst⟩)
set_option maxRecDepth 100000 in
set_option maxHeartbeats 4000000 in
theorem settle_none {tk st : Nat} {x : Int} (M : MA hi hm eb m t w sn v) (htk : tk ≤ (m.fr t).sp) (hst : (m.fr t).pc + st < 2000)
    (hk : ∀ hm', MA hi hm' eb (settleM m t tk none st) t w sn v → K (.tuple #[]) (join hi hm')) : CallX Hval.prog 244 [.pointer (some ⟨eb, 0, none⟩), .pointer (some ⟨eb, 1803 + t * 65, none⟩), .int .u16 tk, .bool false, .agg (wc x).toArray, .int .u16 st] (join hi hm) K := by
  have h7 := M.t7
  have F := M.f
  have hsp := F.sp
  have hsb := F.sb
  have hpc := F.pc
  refine CallX.of_xf T_ok Hval.func244 rfl (by kernel_rfl) (Nat.le_of_ble_eq_true rfl) ?_; conv => whnf
  refine BoxX.j M.A.V.dj fun n1 hin hmn hd1 hE => ?_; conv => whnf
  generalize hput hi n1 ((wc x).toArray.toList, 75) = hi1 at *
  have hb := join_hm hd1 M.A.V.blk
  refine LoadX.fn hb (1803 + t * 65 + 6) rfl (by omega) ?_
  rw [mR_sp h7]; conv => whnf
  refine CondX.dF (by omega) ?_; conv => whnf
  refine LoadX.fn hb (1803 + t * 65 + 6) rfl (by omega) ?_
  rw [mR_sp h7]; conv => whnf
  rw [show IntKind.u16.wrap (((m.fr t).sp : Int) - tk) = (((m.fr t).sp - tk : Nat) : Int) by rw [wrap_u16]; omega]
  repeat (first | (refine CondX.tt ?_; conv => whnf) | (refine CondX.ff ?_; conv => whnf))
  refine StoreX.jf hd1 M.A.V.blk (1803 + t * 65 + 6) rfl (by omega) fun hd3 => ?_
  rw [eU_sp h7] at hd3 ⊢; conv => whnf
  refine LoadX.fn (join_hm hd3 (hput_same ..)) (1803 + t * 65 + 4) rfl (by omega) ?_
  rw [mR_pc h7]; conv => whnf
  dsimp only
  rw [updN_same]
  dsimp only
  rw [show IntKind.u16.wrap (((m.fr t).pc : Int) + st) = (((m.fr t).pc + st : Nat) : Int) by rw [wrap_u16]; omega]
  refine StoreX.jf hd3 (hput_same ..) (1803 + t * 65 + 4) rfl (by omega) fun hd4 => ?_
  rw [eU_pc h7, hput_hput] at hd4 ⊢; conv => whnf
  dsimp only at hd4 ⊢
  rw [updN_same, updN_updN] at hd4 ⊢
  refine RetX.drop (h' := join hi (hput hm eb (fnv 27024 (eC (mC eb (settleM m t tk none st)) v), 101))) (Ext.j2 hE hd4 (Ext.refl _)) ?_
  exact hk _ (M.setF (f := { m.fr t with sp := (m.fr t).sp - tk, pc := (m.fr t).pc + st }) (.inl rfl) ⟨F.sb, by show (m.fr t).sp - tk ≤ 64; omega, hst, F.gas, F.self, F.caller, F.val, F.code, F.cl, F.input, F.dst⟩)
end
end Go.Proofs.YgvalwGreat.X
