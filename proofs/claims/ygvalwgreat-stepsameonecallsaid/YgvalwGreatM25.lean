import Derived.Test.YgvalwGreatM24
set_option linter.unusedVariables false
set_option linter.unusedSimpArgs false
namespace Go.Proofs.YgvalwGreat.X
open Go

/-- The machine at its end. -/
structure EZ (hi hm hb : Hp) (eb : Nat) (m : MS) (w : AW) (sn : List AW) (v : VS) : Prop where
  A : VA hi hm eb (mC eb m) w sn v
  dj : Dj (join hi hm) hb
  phase : m.phase = 2
  top : m.top = -1
  ret : BytS hi m.retS m.ret
  st : 0 ≤ m.status ∧ m.status < 256
  gas : 0 ≤ (m.fr 0).gas ∧ (m.fr 0).gas < 18446744073709551616
  self : (m.fr 0).self.length = 20 ∧ isB (m.fr 0).self
def ER (hi hm hb : Hp) (eb : Nat) (m : MS) (w : AW) (sn : List AW) (v : VS) (a : AS) (s0 l0 : Int) : Prop :=
  (∃ t mems stale, EX hi hm hb eb m t w sn v mems stale ∧ absM m t w sn mems s0 l0 = a) ∨ (EZ hi hm hb eb m w sn v ∧ (⟨w, [], m.ret, 2, m.status, (m.fr 0).gas⟩ : AS) = a)
/-- The continuation of what turns the machine into 'a', with S gas spent. -/
def EnK (hi : Hp) (eb : Nat) (m : MS) (S : Int) (a : AS) (s0 l0 : Int) (K : Hp → Prop) : Prop :=
  ∀ hi' hm' hb' m' w' sn' v', Ext hi hi' → ER hi' hm' hb' eb m' w' sn' v' a s0 l0 → fixM m m' → Rs S v' sn' → K (join (join hi' hm') hb')
section
variable {hi hm hb : Hp} {K : Value → Hp → Prop} {v : VS} {eb : Nat} {m : MS} {t : Nat} {mems : Nat → List Int} {stale : List Int} {w : AW} {sn : List AW} {so : Sl} {l : List Int} {st s0 l0 S : Int}
theorem Ext.jj {hi hi' hm hb : Hp} (he : Ext hi hi') (hd : Dj hi' hm) (hd2 : Dj (join hi' hm) hb) : Ext (join (join hi hm) hb) (join (join hi' hm) hb) := Ext.j2 (Ext.j2 he hd (Ext.refl _)) hd2 (Ext.refl _)
theorem leave_last {f : AF} {a : AS} : leaveA a [] f st l = ⟨lvW a.w f.saved (lvSA f st l) (crK f.kind) f.self l, [], lvOA f st l, 2, lvSA f st l, lvGA f st l⟩ := rfl
theorem leave_up {f p : AF} {a : AS} {b : List AF} : leaveA a (b ++ [p]) f st l = ⟨lvW a.w f.saved (lvSA f st l) (crK f.kind) f.self l, b ++ [upA p f st l], lvOA f st l, a.phase, a.status, a.left⟩ := by
  unfold leaveA; rw [List.reverse_append]; simp

theorem VA.sto {mc : Nat → Value} {k o : Nat} {x : Value} {KK : Hp → Prop} (A : VA hi hm eb mc w sn v) (hd : Dj (join hi hm) hb) {mc' : Nat → Value} (hu : updV (eC mc v) k x = eC mc' v) (ho : o = k) (hk : k < 27024) (hK : ∀ hm', VA hi hm' eb mc' w sn v → Dj (join hi hm') hb → KK (join (join hi hm') hb)) : StoreX (join (join hi hm) hb) eb o [x] KK := by
  refine StoreX.fr (StoreX.jf A.V.dj A.V.blk k ho hk fun _ => ?_)
  rw [hu]
  exact hK _ (A.setM mc') (Dj.st hd A.V.blk)
theorem BoxX.jj {vs : List Value} {ty : TypeId} {KK : Nat → Hp → Prop} (hd0 : Dj hi hm) (hd : Dj (join hi hm) hb) (hk : ∀ n, (∀ y, Ext hi (hput hi n y)) → (∀ y, Dj (hput hi n y) hm) → (∀ y, Dj (join (hput hi n y) hm) hb) → KK n (join (join (hput hi n (vs, ty)) hm) hb)) : BoxX (join (join hi hm) hb) ty vs KK := by
  refine BoxX.j hd fun n hin hbn hd1 _ => ?_
  obtain ⟨h1, h2⟩ := join_none hin
  have e : ∀ y, hput (join hi hm) n y = join (hput hi n y) hm := fun y => join_put
  rw [e]
  exact hk n (fun y => Ext.new h1) (fun y => hd0.hn h2) fun y => by rw [← e]; exact hd1.hp
theorem settleS_w {hi0 : Hp} {tk st : Nat} {x : Int} (he : Ext hi0 hi) (hd : Dj hi hm) (hd2 : Dj (join hi hm) hb) (M : MA hi0 hm eb m t w sn v) (htk : tk ≤ (m.fr t).sp) (hroom : (m.fr t).sp - tk < 64) (hst : (m.fr t).pc + st < 2000) (hx : 0 ≤ x ∧ x < W)
    (hk : ∀ hm', Dj hi hm' → Dj (join hi hm') hb → MA hi0 hm' eb (settleM m t tk (some x) st) t w sn v → K (.tuple #[]) (join (join hi hm') hb)) : CallX Hval.prog 244 [.pointer (some ⟨eb, 0, none⟩), .pointer (some ⟨eb, 1803 + t * 65, none⟩), .int .u16 tk, .bool true, .agg (wc x).toArray, .int .u16 st] (join (join hi hm) hb) K :=
  CallX.fj hd2 (settleS_b he hd M htk hroom hst hx fun hm' h1 M' h2 => hk hm' h1 h2 M')
theorem settleN_w {hi0 : Hp} {tk st : Nat} {x : Int} (he : Ext hi0 hi) (hd : Dj hi hm) (hd2 : Dj (join hi hm) hb) (M : MA hi0 hm eb m t w sn v) (htk : tk ≤ (m.fr t).sp) (hst : (m.fr t).pc + st < 2000)
    (hk : ∀ hm', Dj hi hm' → Dj (join hi hm') hb → MA hi0 hm' eb (settleM m t tk none st) t w sn v → K (.tuple #[]) (join (join hi hm') hb)) : CallX Hval.prog 244 [.pointer (some ⟨eb, 0, none⟩), .pointer (some ⟨eb, 1803 + t * 65, none⟩), .int .u16 tk, .bool false, .agg (wc x).toArray, .int .u16 st] (join (join hi hm) hb) K :=
  CallX.fj hd2 (settleN_b he hd M htk hst fun hm' h1 M' h2 => hk hm' h1 h2 M')
theorem FOK.ext {hi' : Hp} {f : MF} {i : Nat} (F : FOK hi f i) (he : Ext hi hi') : FOK hi' f i := ⟨F.sb, F.sp, F.pc, F.gas, F.self, F.caller, F.val, F.code.ext he, F.cl, F.input.ext he, F.dst⟩
theorem wrap_i8 {x : Int} (h1 : -128 ≤ x) (h2 : x < 128) : IntKind.i8.wrap x = x := by
  have e : IntKind.i8.wrap x = (x + 128) % 256 - 128 := by
    simp [IntKind.wrap, IntKind.signed, IntKind.bits]; omega
  rw [e]; omega
theorem MM.low {k : Nat} {m' : MS} (B : MM hb m (k + 1) mems stale) (h1 : m'.mtop = ((k + 1 : Nat) : Int)) (h2 : m'.base = m.base) (h3 : m'.bufS = m.bufS) : MM hb m' k mems (mems (k + 1) ++ stale) := by
  have e : lowN mems (k + 1 + 1) ++ stale = lowN mems (k + 1) ++ (mems (k + 1) ++ stale) := by show (lowN mems (k + 1) ++ mems (k + 1)) ++ stale = _; rw [List.append_assoc]
  exact ⟨h1, fun i hi => by rw [h2]; exact B.base i (by omega), by rw [h3, ← e]; exact B.buf, by rw [← e]; exact B.few⟩
theorem writeI_ovl {mem l : List Int} {o : Nat} (h : o + l.length ≤ mem.length) (hl : l ≠ []) : writeI mem o l = ovl mem o l := by
  have : 0 < l.length := List.length_pos_iff.2 hl
  unfold writeI
  rw [if_pos (by omega), Int.toNat_natCast, List.take_of_length_le (by omega)]
/-- The last frame has ended. -/
theorem end_last {hmx : Hp} {hix : Hp} {wx : AW} {snx : List AW} {vx : VS} {stx gx : Int} {sx : Sl} {lx : List Int} (X : EX hi hm hb eb m 0 w sn v mems stale) (A : VA hix hmx eb (mC eb { m with mtop := 0, retS := sx, ret := lx, top := -1, phase := 2, status := stx, fr := updN m.fr 0 { m.fr 0 with gas := gx } }) wx snx vx) (hd : Dj (join hix hmx) hb) (hE : Ext hi hix) (hB : BytS hix sx lx) (hs : 0 ≤ stx ∧ stx < 256) (hg : 0 ≤ gx ∧ gx < 18446744073709551616) {a : AS}
    (ha : (⟨wx, [], lx, 2, stx, gx⟩ : AS) = a) (hk : EnK hi eb m S a s0 l0 (K (.tuple #[]))) (R : Rs S vx snx) : K (.tuple #[]) (join (join hix hmx) hb) := by
  refine hk hix hmx hb _ wx snx vx hE (.inr ⟨⟨A, hd, rfl, rfl, hB, hs, ?_, ?_⟩, ?_⟩) ⟨rfl, rfl, rfl, rfl, rfl, rfl, rfl, rfl, rfl, rfl, rfl⟩ R
  · show 0 ≤ (updN m.fr 0 { m.fr 0 with gas := gx } 0).gas ∧ _
    rw [updN_same]; exact hg
  · show (updN m.fr 0 { m.fr 0 with gas := gx } 0).self.length = 20 ∧ isB (updN m.fr 0 { m.fr 0 with gas := gx } 0).self
    rw [updN_same]; exact (X.M.fok 0 (Nat.le_refl _)).self
  · rw [← ha]
    show (⟨wx, [], lx, 2, stx, (updN m.fr 0 { m.fr 0 with gas := gx } 0).gas⟩ : AS) = _
    rw [updN_same]
def upM (m : MS) (k : Nat) (sx : Sl) (lx : List Int) (gx : Int) : MS := { m with mtop := ((k + 1 : Nat) : Int), retS := sx, ret := lx, top := k, fr := updN m.fr k { m.fr k with gas := (m.fr k).gas + gx } }
theorem up_MA {k : Nat} {hmx : Hp} {hix : Hp} {wx : AW} {snx : List AW} {vx : VS} {gx : Int} {sx : Sl} {lx : List Int} (X : EX hi hm hb eb m (k + 1) w sn v mems stale) (A : VA hix hmx eb (mC eb (upM m k sx lx gx)) wx snx vx) (hE : Ext hi hix) (hB : BytS hix sx lx) (hg : 0 ≤ gx ∧ (m.fr k).gas + gx < 18446744073709551616) : MA hix hmx eb (upM m k sx lx gx) k wx snx vx := by
  refine ⟨A, X.M.phase, rfl, by have := X.M.t7; omega, fun i hi => ?_, X.M.stw, hB⟩
  show FOK hix (updN m.fr k { m.fr k with gas := (m.fr k).gas + gx } i) i
  have F := (X.M.fok i (by omega)).ext hE
  unfold updN
  split
  · rename_i h; subst h
    exact ⟨F.sb, F.sp, F.pc, ⟨by have := F.gas; show 0 ≤ (m.fr i).gas + gx; omega, hg.2⟩, F.self, F.caller, F.val, F.code, F.cl, F.input, F.dst⟩
  · exact F
/-- The caller goes on. -/
theorem end_up {k : Nat} {hmx hbx : Hp} {hix : Hp} {wx : AW} {snx : List AW} {vx : VS} {gx x : Int} {sx : Sl} {lx memx stx : List Int} (X : EX hi hm hb eb m (k + 1) w sn v mems stale) (M' : MA hix hmx eb (settleM (upM m k sx lx gx) k 0 (some x) 1) k wx snx vx) (hd : Dj (join hix hmx) hbx) (hE : Ext hi hix)
    (hMM : MM hbx (upM m k sx lx gx) k (updN mems k memx) stx)
    (hsn : ∀ i, i ≤ k → snx[(m.fr i).snap]? = sn[(m.fr i).snap]?) (hhas : ∀ b, hasA v b = true → hasA vx b = true) {a : AS}
    (ha : (⟨wx, frsM m k sn mems ++ [{ frM m sn mems k with gas := (m.fr k).gas + gx, st := stM m k ++ [x], pc := (m.fr k).pc + 1, mem := memx }], lx, 1, s0, l0⟩ : AS) = a) (hk : EnK hi eb m S a s0 l0 (K (.tuple #[]))) (R : Rs S vx snx) : K (.tuple #[]) (join (join hix hmx) hbx) := by
  have eF : ∀ i, i < k → (settleM (upM m k sx lx gx) k 0 (some x) 1).fr i = m.fr i := fun i hi => by
    show updN (updN m.fr k _) k _ i = _
    unfold updN; rw [if_neg (by omega), if_neg (by omega)]
  have eK : (settleM (upM m k sx lx gx) k 0 (some x) 1).fr k = { m.fr k with gas := (m.fr k).gas + gx, sp := (m.fr k).sp + 1, pc := (m.fr k).pc + 1 } := by
    show updN (updN m.fr k { m.fr k with gas := (m.fr k).gas + gx }) k { updN m.fr k { m.fr k with gas := (m.fr k).gas + gx } k with sp := (updN m.fr k { m.fr k with gas := (m.fr k).gas + gx } k).sp - 0 + 1, pc := (updN m.fr k { m.fr k with gas := (m.fr k).gas + gx } k).pc + 1 } k = _
    rw [updN_same, updN_same]
    rfl
  have eS : ∀ i, i ≤ k → ((settleM (upM m k sx lx gx) k 0 (some x) 1).fr i).snap = (m.fr i).snap := fun i hi => by
    rcases Nat.lt_or_ge i k with h | h
    · rw [eF i h]
    · have : i = k := by omega
      rw [this, eK]
  have eSf : ∀ i, i ≤ k → ((settleM (upM m k sx lx gx) k 0 (some x) 1).fr i).self = (m.fr i).self := fun i hi => by
    rcases Nat.lt_or_ge i k with h | h
    · rw [eF i h]
    · have : i = k := by omega
      rw [this, eK]
  refine hk hix hmx hbx _ wx snx vx hE (.inl ⟨k, updN mems k memx, stx, ⟨M', hd, ⟨hMM.mtop, hMM.base, hMM.buf, hMM.few⟩, fun i hi => ?_, fun i j hij hj => ?_, fun i hi => ?_, fun i hi => ?_⟩, ?_⟩) ⟨rfl, rfl, rfl, rfl, rfl, rfl, rfl, rfl, rfl, rfl, rfl⟩ R
  · rw [eS i hi]
    have h1 := X.sn1 i (by omega)
    have h2 := hsn i hi
    rw [List.getElem?_eq_getElem h1] at h2
    exact (List.getElem?_eq_some_iff.1 h2).1
  · rw [eS i (by omega), eS j hj]; exact X.sn2 i j hij (by omega)
  · rw [eSf i hi]; exact hhas _ (X.has i (by omega))
  · rw [eF i hi]
    have := X.wait i (by omega)
    unfold updN; rw [if_neg (by omega)]; exact this
  · rw [← ha]
    unfold absM
    have L : Lo k m (settleM (upM m k sx lx gx) k 0 (some x) 1) sn snx mems (updN mems k memx) := ⟨eF, fun i hi => by show updN m.stk _ x i = _; unfold updN; rw [if_neg (by omega)], fun i hi => by unfold updN; rw [if_neg (by omega)], fun i hi => hsn i (by omega)⟩
    rw [L.frs fun i hi => (X.M.fok i (by omega)).sp]
    congr 3
    unfold frM
    rw [stM_some, eK, updN_same, hsn k (Nat.le_refl _)]
    have e2 : stM (upM m k sx lx gx) k = stM m k := stM_ext (by show (updN m.fr k _ k).sp = _; rw [updN_same]) fun j _ => rfl
    rw [e2, Nat.sub_zero, List.take_length]
    rfl
end
end Go.Proofs.YgvalwGreat.X
