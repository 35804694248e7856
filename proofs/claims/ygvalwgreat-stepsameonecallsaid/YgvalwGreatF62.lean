import Derived.Test.YgvalwGreatF61
set_option linter.unusedVariables false
set_option linter.unusedSimpArgs false
namespace Go.Proofs.YgvalwGreat.X
open Go

/-- A frame is entered: the world is saved; a creation's account has nonce 1 and is marked as made. -/
def entW (w : AW) (create : Bool) (self : List Int) : AW :=
  if create = true then { w with acct := updA w.acct self { w.acct self with nonce := 1 }, made := fun b => w.made b || decide (b = self) } else w
def enterA (a : AS) (f : AF) : AS := { a with w := entW a.w (crK f.kind) f.self, frs := a.frs ++ [{ f with saved := a.w }], ret := [] }

theorem EntR.abs {hi' : Hp} {w w' : YW} {cr : Bool} {self : List Int} (h : EntR hi' w w' cr self) : absW w' = entW (absW w) cr self := by
  unfold entW
  obtain ⟨-, -, hEq, hKeep, hPut, hMem⟩ := h
  cases hc : cr with
  | false => rw [hKeep hc]; rfl
  | true =>
    rw [if_pos rfl]
    obtain ⟨s1, hP⟩ := hPut hc
    obtain ⟨hM, -⟩ := hMem hc
    obtain ⟨sA, acc, sM, made, he⟩ := hEq
    subst he
    unfold absW
    congr 1
    · funext b
      rw [absA_put hP]
      have : (withNonce (getA w.acc self) s1 1).addr = self := getA_addr
      rw [this]
      rfl
    · funext b
      exact mem_with hM b
theorem EntR.sz {hi' : Hp} {w w' : YW} {cr : Bool} {self : List Int} {N : Nat} (h : EntR hi' w w' cr self) (a : w.sz N) : w'.sz (N + 1) := by
  have b := a.mono (Nat.le_succ N)
  obtain ⟨-, -, hEq, hKeep, hPut, hMem⟩ := h
  cases hc : cr with
  | false => rw [hKeep hc]; exact b
  | true =>
    obtain ⟨s1, hP⟩ := hPut hc
    obtain ⟨-, hl⟩ := hMem hc
    obtain ⟨sA, acc, sM, made, he⟩ := hEq
    subst he
    refine ⟨Nat.le_trans hP.len (Nat.succ_le_succ a.acc), fun x hx => ?_, b.wa, b.ws, b.logs, b.temps, Nat.le_trans hl (Nat.succ_le_succ a.made), b.gone⟩
    rcases hP.mem x hx with rfl | h3
    · show (getA w.acc self).slots.length ≤ N + 1
      unfold getA
      cases hf : w.acc.find? fun x => x.addr = self with
      | none => simp [dfl]
      | some y => exact Nat.le_succ_of_le (a.each y (List.mem_of_find?_eq_some hf))
    · exact Nat.le_succ_of_le (a.each x h3)
theorem same_sz {w w' : YW} {N : Nat} (h : w.same w') (a : w.sz N) : w'.sz N := by
  have hl : w'.acc.length = w.acc.length := by have := congrArg List.length h.acc; simpa using this
  refine ⟨by rw [hl]; exact a.acc, fun x hx => ?_, by rw [h.wa]; exact a.wa, ?_, by rw [h.logs]; exact a.logs, ?_, by rw [h.made]; exact a.made, by rw [h.gone]; exact a.gone⟩
  · have : x.v ∈ w'.acc.map YAcct.v := List.mem_map.2 ⟨x, hx, rfl⟩
    rw [h.acc] at this
    obtain ⟨y, hy, he⟩ := List.mem_map.1 this
    have h2 := congrArg AV.slots he
    have h3 := congrArg List.length h2
    simp only [YAcct.v, List.length_map] at h3
    have := a.each y hy
    omega
  · have := congrArg List.length h.ws; simp only [List.length_map] at this; rw [this]; exact a.ws
  · have := congrArg List.length h.temps; simp only [List.length_map] at this; rw [this]; exact a.temps

section
variable {hi hm : Hp} {K : Value → Hp → Prop} {c : Nat} {tc : TypeId} {s : YS} {frs : List (YF × List Int)} {f : YF} {ret : List Int} {left : Int} {N : Nat}
theorem enterSt_ok (S : StOK hi hm c tc s frs ret left) (hN : StN N s frs) (hN30 : N < 2 ^ 30) (hfn : frs.length ≤ 100) (hok : f.ok hi) (hval : f.val = 0) (hmS : f.memS = nilS)
    (hk : StK hi c tc s (N + 1) (enterA (absS s frs ret left) (absF (f, []))) K) :
    CallX Hval.prog 43 [.pointer (some ⟨c, 0, none⟩), .agg (fCells f).toArray] (join hi hm) K := by
  have hwr := hN.now.room S.now hN30
  refine enter_ok (frs := frs.map Prod.fst) S.dj S.chain S.now hwr (by have := S.frA; simpa [Function.comp_def] using this) S.frC (by simpa using hfn) hok hval fun hi' hm' s' f' wc e hd hf' hwc hsame hc hs' hE hA hcf hkeep => ?_
  obtain ⟨fs, hs'⟩ := hs'
  obtain ⟨hEa, hEm, hEe, -, -, -⟩ := id hE
  obtain ⟨sA, acc, sM, made, hw'⟩ := hEe
  have hsL : s'.w.sL = s.w.sL := by rw [hw']
  have hlogs : s'.w.logs = s.w.logs := by rw [hw']
  have hmemf : ∀ q ∈ frs ++ [(f', [])], q ∈ frs ∨ q = (f', []) := fun q hq => by simpa using hq
  have hmS' : f'.memS = nilS := by rw [hf']; exact hmS
  have hlg : ArrF hi' s'.w.sL 22 (s'.w.logs.map logCells) ∨ (ArrM hm' s'.w.sL 22 (s'.w.logs.map logCells) ∧ ∀ lb, at0 s'.w.sL lb → lb ≠ c ∧ (∀ fb, at0 s'.frS fb → lb ≠ fb) ∧ ∀ q ∈ frs ++ [(f', [])], ¬ at0 q.1.memS lb) := by
    rw [hsL, hlogs]
    rcases S.lg with h1 | ⟨h1, h2⟩
    · exact .inl (h1.ext e)
    · have key : ∀ lb x, at0 s.w.sL lb → hm lb = some x → hm' lb = some x ∧ ∀ fb, at0 s'.frS fb → lb ≠ fb := fun lb x hlb hx => hkeep lb x hx (h2 lb hlb).1 (h2 lb hlb).2.1
      refine .inr ⟨h1.mono fun lb x hs hb => (key lb x hs hb).1, fun lb hlb => ⟨(h2 lb hlb).1, ?_, fun q hq => ?_⟩⟩
      · rcases h1.blk with ⟨h3, -⟩ | ⟨mm, pad, t, h3, -, h4, -⟩
        · rw [at0, h3] at hlb; cases hlb
        · have : some (⟨lb, 0, none⟩ : Addr) = some ⟨mm, 0, none⟩ := hlb.symm.trans h3
          cases this
          exact (key lb _ hlb h4).2
      · rcases hmemf q hq with h5 | h5
        · exact (h2 lb hlb).2.2 q h5
        · rw [h5]; show ¬ at0 f'.memS lb; rw [hmS']; intro h; cases h
  have b := S.now.up e
  have hwok : s'.w.ok hi' (join hi' hm') := by
    have hh := lg_arr hd hlg
    have ha := hEa
    have hm2 := hEm
    rw [hw'] at hh ha hm2 ⊢
    exact ⟨ha, b.wa, b.ws, b.ref, hh, b.logsE, b.temps, hm2, b.gone⟩
  have ho := hok.ext e
  have hokf' : f'.ok hi' := by rw [hf']; exact ⟨ho.pc, ho.gas, ho.val, ho.oo, ho.ol, ho.st, ho.stE, ho.stR, ho.code, ho.input, ho.self, ho.caller, hwc⟩
  have hmk : ∀ q ∈ frs, ∀ mb x, at0 q.1.memS mb → hm mb = some x → hm' mb = some x ∧ ∀ fb, at0 s'.frS fb → mb ≠ fb := fun q hq mb x hmb hx => hkeep mb x hx (S.memC q hq mb hmb).1 (S.memC q hq mb hmb).2
  refine hk hi' hm' s' (frs ++ [(f', [])]) [] left e ⟨hd, hc, hwok, by simpa [Function.comp_def] using hA, hcf, fun q hq => ?_, fun q hq => ?_, fun q hq => ?_, ?_, hlg, ?_, ?_⟩ ⟨hE.sz hN.now, fun q hq => ?_⟩ ?_ (by rw [hs']; exact ⟨rfl, rfl, rfl, rfl, rfl, rfl, rfl, rfl⟩)
  · rcases hmemf q hq with h5 | h5
    · exact (S.ok q h5).ext e
    · rw [h5]; exact hokf'
  · rcases hmemf q hq with h5 | h5
    · exact (S.mem q h5).keep fun mb x hmb hx => (hmk q h5 mb x hmb hx).1
    · rw [h5]; show MemB hm' f'.memS []; rw [hmS']; exact ⟨isB_nil, by decide, .inl ⟨rfl, rfl⟩⟩
  · intro mb hmb
    rcases hmemf q hq with h5 | h5
    · refine ⟨(S.memC q h5 mb hmb).1, ?_⟩
      obtain ⟨-, -, h6 | ⟨mb', h6, h7⟩⟩ := S.mem q h5
      · rw [at0, h6.1] at hmb; cases hmb
      · have : some (⟨mb, 0, none⟩ : Addr) = some ⟨mb', 0, none⟩ := hmb.symm.trans (by rw [h6])
        cases this
        exact (hmk q h5 mb _ hmb h7).2
    · rw [h5] at hmb
      have hmb : at0 f'.memS mb := hmb
      rw [hmS'] at hmb; cases hmb
  · rw [List.pairwise_append]
    refine ⟨S.dis, by simp, fun q hq r hr => ?_⟩
    rw [List.mem_singleton.1 hr]
    intro mb _
    show ¬ at0 f'.memS mb
    rw [hmS']; intro h; cases h
  · have : s'.retS = nilS := by rw [hs']
    rw [this]; exact Byt_nil _
  · have : s'.leftS = s.leftS := by rw [hs']
    rw [this]; exact S.left.ext e
  · rcases hmemf q hq with h5 | h5
    · exact (hN.saved q h5).mono (Nat.le_succ N)
    · rw [h5]; show f'.saved.sz (N + 1); rw [hf']; exact (same_sz hsame hN.now).mono (Nat.le_succ N)
  · have hph : s'.phase = s.phase := by rw [hs']
    have hst : s'.status = s.status := by rw [hs']
    unfold absS enterA
    rw [hE.abs, hph, hst]
    simp only [List.map_append, List.map_cons, List.map_nil]
    have : absF (f', []) = { absF (f, []) with saved := absW s.w } := by rw [hf']; unfold absF; simp [absW_same hsame]
    rw [this]
    rfl
end
end Go.Proofs.YgvalwGreat.X
