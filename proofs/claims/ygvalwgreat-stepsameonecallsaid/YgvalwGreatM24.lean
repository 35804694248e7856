import Derived.Test.YgvalwGreatM23
import Derived.Test.YgvalwGreatG25
set_option linter.unusedVariables false
set_option linter.unusedSimpArgs false
namespace Go.Proofs.YgvalwGreat.X
open Go

/-- The memories of the frames below k, one behind the other. -/
def lowN (mems : Nat → List Int) : Nat → List Int
  | 0 => []
  | k + 1 => lowN mems k ++ mems k
theorem lowN_ext {a b : Nat → List Int} {k : Nat} (h : ∀ i, i < k → a i = b i) : lowN a k = lowN b k := by
  induction k with
  | zero => rfl
  | succ k ih => unfold lowN; rw [ih fun i hi => h i (by omega), h k (by omega)]
/-- THE MEMORIES of all frames in the arena. -/
structure MM (hb : Hp) (m : MS) (t : Nat) (mems : Nat → List Int) (stale : List Int) : Prop where
  mtop : m.mtop = ((t + 1 : Nat) : Int)
  base : ∀ i, i ≤ t + 1 → m.base i = ((lowN mems i).length : Nat)
  buf : BufOK hb m.bufS (lowN mems (t + 1) ++ stale)
  few : (lowN mems (t + 1) ++ stale).length ≤ 6000000
theorem MM.top {hb : Hp} {m : MS} {t : Nat} {mems : Nat → List Int} {stale : List Int} (B : MM hb m t mems stale) : MBf hb m t (lowN mems t) (mems t) stale := by
  have e : lowN mems (t + 1) ++ stale = lowN mems t ++ (mems t ++ stale) := by show (lowN mems t ++ mems t) ++ stale = _; rw [List.append_assoc]
  refine ⟨B.mtop, B.base t (by omega), ?_, e ▸ B.buf, e ▸ B.few⟩
  rw [B.base (t + 1) (Nat.le_refl _), show lowN mems (t + 1) = lowN mems t ++ mems t from rfl, List.length_append]
theorem MM.set {hb hb' : Hp} {m m' : MS} {t : Nat} {mems : Nat → List Int} {stale mem' stale' : List Int} (B : MM hb m t mems stale) (B' : MBf hb' m' t (lowN mems t) mem' stale') (hbs : ∀ i, i ≤ t → m'.base i = m.base i) : MM hb' m' t (updN mems t mem') stale' := by
  have el : ∀ i, i ≤ t → lowN (updN mems t mem') i = lowN mems i := fun i hi => lowN_ext fun j hj => by unfold updN; rw [if_neg (by omega)]
  have e : lowN (updN mems t mem') (t + 1) = lowN mems t ++ mem' := by
    show lowN (updN mems t mem') t ++ updN mems t mem' t = _
    rw [el t (Nat.le_refl _), updN_same]
  have e2 : lowN (updN mems t mem') (t + 1) ++ stale' = lowN mems t ++ (mem' ++ stale') := by rw [e, List.append_assoc]
  refine ⟨B'.mtop, fun i hi => ?_, e2 ▸ B'.buf, e2 ▸ B'.few⟩
  by_cases h : i ≤ t
  · rw [hbs i h, el i h]; exact B.base i (by omega)
  · have : i = t + 1 := by omega
    subst this
    rw [B'.b1, e, List.length_append]
/-- A frame's stack. -/
def stM (m : MS) (i : Nat) : List Int := (List.range (m.fr i).sp).map fun j => m.stk (64 * i + j)
def aw0 : AW := absW nilW
def frM (m : MS) (sn : List AW) (mems : Nat → List Int) (i : Nat) : AF :=
  ⟨(m.fr i).kind, (m.fr i).natv, (m.fr i).static, (m.fr i).pc, (m.fr i).gas, (m.fr i).val, (m.fr i).oo, (m.fr i).ol, stM m i, mems i, (m.fr i).code, (m.fr i).input, (m.fr i).self, (m.fr i).caller, (sn[(m.fr i).snap]?).getD aw0⟩
def frsM (m : MS) (t : Nat) (sn : List AW) (mems : Nat → List Int) : List AF := (List.range t).map (frM m sn mems)
/-- What the machine stands for. -/
def absM (m : MS) (t : Nat) (w : AW) (sn : List AW) (mems : Nat → List Int) (s0 l0 : Int) : AS := ⟨w, frsM m t sn mems ++ [frM m sn mems t], m.ret, 1, s0, l0⟩
theorem frsM_len {m : MS} {t : Nat} {sn : List AW} {mems : Nat → List Int} : (frsM m t sn mems).length = t := by unfold frsM; simp
theorem frsM_succ {m : MS} {t : Nat} {sn : List AW} {mems : Nat → List Int} : frsM m (t + 1) sn mems = frsM m t sn mems ++ [frM m sn mems t] := by
  unfold frsM; rw [List.range_succ, List.map_append]; rfl
theorem stM_len (m : MS) (i : Nat) : (stM m i).length = (m.fr i).sp := by unfold stM; simp
theorem stM_arg {m : MS} {t : Nat} (i : Nat) : argA (stM m t) i = argM m t i := by
  unfold argA argM
  rw [List.getD_eq_getElem?_getD]
  by_cases h : i < (m.fr t).sp
  · rw [if_pos h, List.getElem?_reverse (by rw [stM_len]; exact h), stM_len]
    unfold stM
    rw [List.getElem?_map, List.getElem?_range (by omega), Option.map_some, Option.getD_some]
    congr 1; omega
  · rw [if_neg h, List.getElem?_eq_none (by rw [List.length_reverse, stM_len]; omega)]; rfl
theorem stM_ext {m m' : MS} {i : Nat} (hs : (m'.fr i).sp = (m.fr i).sp) (hx : ∀ j, j < (m.fr i).sp → m'.stk (64 * i + j) = m.stk (64 * i + j)) : stM m' i = stM m i := by
  unfold stM
  rw [hs]
  exact List.map_congr_left fun j hj => hx j (List.mem_range.1 hj)
/-- The frames below t stay. -/
structure Lo (t : Nat) (m m' : MS) (sn sn' : List AW) (mems mems' : Nat → List Int) : Prop where
  fr : ∀ i, i < t → m'.fr i = m.fr i
  stk : ∀ i, i < 64 * t → m'.stk i = m.stk i
  mem : ∀ i, i < t → mems' i = mems i
  sn : ∀ i, i < t → sn'[(m.fr i).snap]? = sn[(m.fr i).snap]?
theorem Lo.refl {t : Nat} {m : MS} {sn : List AW} {mems : Nat → List Int} : Lo t m m sn sn mems mems := ⟨fun _ _ => rfl, fun _ _ => rfl, fun _ _ => rfl, fun _ _ => rfl⟩
theorem Lo.trans {t : Nat} {m1 m2 m3 : MS} {s1 s2 s3 : List AW} {x1 x2 x3 : Nat → List Int} (a : Lo t m1 m2 s1 s2 x1 x2) (b : Lo t m2 m3 s2 s3 x2 x3) : Lo t m1 m3 s1 s3 x1 x3 :=
  ⟨fun i hi => (b.fr i hi).trans (a.fr i hi), fun i hi => (b.stk i hi).trans (a.stk i hi), fun i hi => (b.mem i hi).trans (a.mem i hi), fun i hi => by rw [← a.sn i hi, ← a.fr i hi]; exact b.sn i hi⟩
theorem Lo.frM {t : Nat} {m m' : MS} {sn sn' : List AW} {mems mems' : Nat → List Int} (L : Lo t m m' sn sn' mems mems') {i : Nat} (hi : i < t) (hsp : (m.fr i).sp ≤ 64) : frM m' sn' mems' i = frM m sn mems i := by
  unfold X.frM
  rw [L.fr i hi, L.mem i hi, L.sn i hi, stM_ext (m := m) (m' := m') (by rw [L.fr i hi]) fun j hj => L.stk _ (by omega)]
theorem Lo.frs {t : Nat} {m m' : MS} {sn sn' : List AW} {mems mems' : Nat → List Int} (L : Lo t m m' sn sn' mems mems') (hsp : ∀ i, i < t → (m.fr i).sp ≤ 64) : frsM m' t sn' mems' = frsM m t sn mems := by
  unfold frsM
  exact List.map_congr_left fun j hj => L.frM (List.mem_range.1 hj) (hsp j (List.mem_range.1 hj))
theorem stM_some {m : MS} {t tk st : Nat} {x : Int} : stM (settleM m t tk (some x) st) t = (stM m t).take ((stM m t).length - tk) ++ [x] := by
  rw [stM_len]
  unfold stM settleM
  simp only [updN_same]
  rw [List.range_succ, List.map_append, ← List.map_take, List.take_range, Nat.min_eq_left (by omega)]
  congr 1
  · refine List.map_congr_left fun j hj => ?_
    have := List.mem_range.1 hj
    unfold updN; rw [if_neg (by omega)]
  · simp [updN]
theorem stM_none {m : MS} {t tk st : Nat} : stM (settleM m t tk none st) t = (stM m t).take ((stM m t).length - tk) := by
  rw [stM_len]
  unfold stM settleM
  simp only [updN_same]
  rw [← List.map_take, List.take_range, Nat.min_eq_left (by omega)]
/-- What no step of the machine turns. -/
structure fixM (m m' : MS) : Prop where
  env : m'.env = m.env
  origin : m'.origin = m.origin
  price : m'.price = m.price
  applied : m'.applied = m.applied
  limit : m'.limit = m.limit
  txgas : m'.txgas = m.txgas
  held : m'.held = m.held
  a0 : m'.a0 = m.a0
  s0 : m'.s0 = m.s0
  made : m'.made = m.made
  tree : m'.tree = m.tree
theorem fixM.refl (m : MS) : fixM m m := ⟨rfl, rfl, rfl, rfl, rfl, rfl, rfl, rfl, rfl, rfl, rfl⟩
theorem fixM.trans {a b d : MS} (h : fixM a b) (h' : fixM b d) : fixM a d :=
  ⟨h'.env.trans h.env, h'.origin.trans h.origin, h'.price.trans h.price, h'.applied.trans h.applied, h'.limit.trans h.limit, h'.txgas.trans h.txgas, h'.held.trans h.held, h'.a0.trans h.a0, h'.s0.trans h.s0, h'.made.trans h.made, h'.tree.trans h.tree⟩
/-- A frame that waits for another: it has room for the answer. -/
structure WtM (f : MF) (mem : List Int) : Prop where
  sp : f.sp < 64
  pc : f.pc < 1000
  oo : 0 ≤ f.oo ∧ f.oo < 4294967296
  ol : 0 ≤ f.ol ∧ f.ol < 4294967296
  fit : f.ol ≠ 0 → f.oo + f.ol ≤ mem.length
/-- THE ENGINE's STATE: the machine, all its memories, the frames' snapshots. -/
structure EX (hi hm hb : Hp) (eb : Nat) (m : MS) (t : Nat) (w : AW) (sn : List AW) (v : VS) (mems : Nat → List Int) (stale : List Int) : Prop where
  M : MA hi hm eb m t w sn v
  dj : Dj (join hi hm) hb
  mm : MM hb m t mems stale
  sn1 : ∀ i, i ≤ t → (m.fr i).snap < sn.length
  sn2 : ∀ i j, i < j → j ≤ t → (m.fr i).snap < (m.fr j).snap
  has : ∀ i, i ≤ t → hasA v (m.fr i).self = true
  wait : ∀ i, i < t → WtM (m.fr i) (mems i)
/-- The sizes of the vault, by the gas spent. -/
structure Rs (S : Int) (v : VS) (sn : List AW) : Prop where
  a : 2500 * (v.aL.length : Int) ≤ S + 100000
  s : 2100 * (v.sL.length : Int) ≤ S
  t : 100 * (v.tL.length : Int) ≤ S
  j : 30 * (v.jL.length : Int) ≤ S + 3000
  n : 100 * (sn.length : Int) ≤ S + 100
theorem Rs.mono {S S' : Int} {v : VS} {sn : List AW} (R : Rs S v sn) (h : S ≤ S') : Rs S' v sn := by
  obtain ⟨a, s, t, j, n⟩ := R
  exact ⟨by omega, by omega, by omega, by omega, by omega⟩
theorem Rs.room {S : Int} {v : VS} {sn : List AW} (R : Rs S v sn) (h : S ≤ 1048576) : v.aL.length < 500 ∧ v.sL.length < 500 ∧ v.tL.length < 10486 ∧ v.jL.length < 36000 ∧ sn.length < 10500 := by
  obtain ⟨a, s, t, j, n⟩ := R
  omega
theorem Rs.up {S S' : Int} {v v' : VS} {sn : List AW} {a b c d : Nat} (R : Rs S v sn) (u : Up v v' a b c d) (ha : S + 2500 * a ≤ S') (hb : S + 2100 * b ≤ S') (hc : S + 100 * c ≤ S') (hd : S + 30 * d ≤ S') : Rs S' v' sn := by
  obtain ⟨r1, r2, r3, r4, r5⟩ := R
  obtain ⟨u1, u2, u3, u4, -, -⟩ := u
  exact ⟨by omega, by omega, by omega, by omega, by omega⟩
section
variable {h hb hi hm : Hp} {K : Value → Hp → Prop} {v : VS} {eb : Nat} {m : MS} {t : Nat} {mems : Nat → List Int} {stale : List Int} {w : AW} {sn : List AW}
set_option maxRecDepth 100000 in
set_option maxHeartbeats 4000000 in
theorem arLeave_ok {k : Nat} (A : VA hi hm eb (mC eb m) w sn v) (hk1 : m.mtop = ((k + 1 : Nat) : Int)) (h7 : k < 7)
    (hk : ∀ hm', VA hi hm' eb (mC eb { m with mtop := k }) w sn v → K (.bool true) (join hi hm')) : CallX Hval.prog 241 [.pointer (some ⟨eb, 1, none⟩)] (join hi hm) K := by
  have hbE := A.blk (Ext.refl _)
  refine CallX.of_xf T_ok Hval.func241 rfl (by kernel_rfl) (Nat.le_of_ble_eq_true rfl) ?_; conv => whnf
  refine LoadX.fn hbE 10 rfl (by omega) ?_
  rw [mR_mtop, hk1]; conv => whnf
  refine CondX.eqI (fun hc => by omega) (fun _ => ?_); conv => whnf
  refine LoadX.fn hbE 10 rfl (by omega) ?_
  rw [mR_mtop, hk1]; conv => whnf
  rw [show IntKind.u8.wrap (((k + 1 : Nat) : Int) - 1) = (k : Int) by rw [wrap_u8]; omega]
  refine StoreX.jf A.V.dj A.V.blk 10 rfl (by omega) fun hd5 => ?_
  rw [eU_mtop]; conv => whnf
  exact RetX.same (hk _ (A.setM _))
set_option maxRecDepth 100000 in
set_option maxHeartbeats 4000000 in
theorem arEnter_ok {k : Nat} (A : VA hi hm eb (mC eb m) w sn v) (hk1 : m.mtop = ((k : Nat) : Int)) (h7 : k < 7)
    (hk : ∀ hm', VA hi hm' eb (mC eb { m with base := updN m.base (k + 1) (m.base k), mtop := ((k + 1 : Nat) : Int) }) w sn v → K (.bool true) (join hi hm')) : CallX Hval.prog 165 [.pointer (some ⟨eb, 1, none⟩)] (join hi hm) K := by
  have hbE := A.blk (Ext.refl _)
  refine CallX.of_xf T_ok Hval.func165 rfl (by kernel_rfl) (Nat.le_of_ble_eq_true rfl) ?_; conv => whnf
  refine LoadX.fn hbE 10 rfl (by omega) ?_
  rw [mR_mtop, hk1]; conv => whnf
  refine CondX.dF (by omega) ?_; conv => whnf
  refine DrawX.go T_ok hM Hval.func165 (tb := dr165) rfl (by kernel_rfl) ?_; conv => whnf
  refine LoadX.fn hbE 10 rfl (by omega) ?_
  rw [mR_mtop, hk1]; conv => whnf
  refine LoadX.fn hbE 10 rfl (by omega) ?_
  rw [mR_mtop, hk1]; conv => whnf
  rw [show IntKind.u8.wrap (((k : Nat) : Int) + 1) = ((k + 1 : Nat) : Int) by rw [wrap_u8]; omega]
  refine Ob.mk ⟨by omega, by omega⟩ ?_; conv => whnf
  refine LoadX.fn hbE (2 + k) (by rw [Int.toNat_natCast, show (fd 1 71).offset = 1 from rfl, show (70, y70).snd.size = 1 from rfl]; omega) (by omega) ?_
  rw [mR_base (by omega)]; conv => whnf
  refine Ob.mk ⟨by omega, by omega⟩ ?_; conv => whnf
  refine StoreX.jf A.V.dj A.V.blk (2 + (k + 1)) (by rw [Int.toNat_natCast, show (fd 1 71).offset = 1 from rfl, show (70, y70).snd.size = 1 from rfl]; omega) (by omega) fun hd5 => ?_
  rw [eU_base (by omega)] at hd5 ⊢; conv => whnf
  refine LoadX.fn (join_hm hd5 (hput_same ..)) 10 rfl (by omega) ?_
  rw [show eC (mC eb { m with base := updN m.base (k + 1) (m.base k) }) v 10 = .int .u8 k by rw [mR_mtop]; exact congrArg _ hk1]; conv => whnf
  rw [show IntKind.u8.wrap (((k : Nat) : Int) + 1) = ((k + 1 : Nat) : Int) by rw [wrap_u8]; omega]
  refine StoreX.jf hd5 (hput_same ..) 10 rfl (by omega) fun hd6 => ?_
  rw [eU_mtop, hput_hput]; conv => whnf
  exact RetX.same (hk _ (A.setM _))
end
end Go.Proofs.YgvalwGreat.X
