import Derived.Test.YgvalwGreatF58
set_option linter.unusedVariables false
set_option linter.unusedSimpArgs false
namespace Go.Proofs.YgvalwGreat.X
open Go

/-- THE ABSTRACT STATE. -/
structure AS where
  w : AW
  frs : List AF
  ret : List Int
  phase : Int
  status : Int
  left : Int
def absS (s : YS) (frs : List (YF × List Int)) (ret : List Int) (left : Int) : AS := ⟨absW s.w, frs.map absF, ret, s.phase, s.status, left⟩

def lvSA (f : AF) (st : Int) (l : List Int) : Int := if crK f.kind = true ∧ st = 0 then (depI f.gas l).2 else st
def lvGA (f : AF) (st : Int) (l : List Int) : Int := if 1 < lvSA f st l then 0 else if crK f.kind = true ∧ st = 0 then (depI f.gas l).1 else f.gas
def lvOA (f : AF) (st : Int) (l : List Int) : List Int := if 1 < lvSA f st l then [] else if crK f.kind = true ∧ st = 0 then [] else l
def lvFA (f : AF) (st : Int) (l : List Int) : Int := if lvSA f st l = 0 then (if crK f.kind = true then bv f.self else 1) else 0
def lvMA (p : AF) (out : List Int) : List Int := if min p.ol out.length = 0 then p.mem else writeI p.mem p.oo (out.take (min p.ol out.length).toNat)
/-- The caller's frame behind a leave. -/
def upA (p f : AF) (st : Int) (l : List Int) : AF := { p with gas := p.gas + lvGA f st l, st := p.st ++ [lvFA f st l], pc := p.pc + 1, mem := lvMA p (lvOA f st l) }
/-- The top frame (f, above base) ends. -/
def leaveA (a : AS) (base : List AF) (f : AF) (st : Int) (l : List Int) : AS :=
  match base.reverse with
  | [] => ⟨lvW a.w f.saved (lvSA f st l) (crK f.kind) f.self l, [], lvOA f st l, 2, lvSA f st l, lvGA f st l⟩
  | p :: b => ⟨lvW a.w f.saved (lvSA f st l) (crK f.kind) f.self l, b.reverse ++ [upA p f st l], lvOA f st l, a.phase, a.status, a.left⟩

/-- What no step turns. -/
structure fixS (s s' : YS) : Prop where
  applied : s'.applied = s.applied
  limS : s'.limS = s.limS
  txS : s'.txS = s.txS
  priceS : s'.priceS = s.priceS
  totS : s'.totS = s.totS
  origin : s'.origin = s.origin
  made : s'.made = s.made
  env : s'.env = s.env
theorem fixS.refl (s : YS) : fixS s s := ⟨rfl, rfl, rfl, rfl, rfl, rfl, rfl, rfl⟩
theorem fixS.trans {a b d : YS} (h : fixS a b) (h' : fixS b d) : fixS a d :=
  ⟨h'.applied.trans h.applied, h'.limS.trans h.limS, h'.txS.trans h.txS, h'.priceS.trans h.priceS, h'.totS.trans h.totS, h'.origin.trans h.origin, h'.made.trans h.made, h'.env.trans h.env⟩

/-- The continuation of a function that turns the state into 'a'. -/
def StK (hi : Hp) (c : Nat) (tc : TypeId) (s : YS) (N : Nat) (a : AS) (K : Value → Hp → Prop) : Prop :=
  ∀ hi' hm' s' frs' ret' left', Ext hi hi' → StOK hi' hm' c tc s' frs' ret' left' → StN N s' frs' → absS s' frs' ret' left' = a → fixS s s' → K (.tuple #[]) (join hi' hm')

/-- What a caller must allow: room for the answer. -/
structure parOk (base : List (YF × List Int)) (gas : Int) : Prop where
  ok : ∀ q ∈ base, q.1.gas + gas < big ∧ q.1.st.length < 64 ∧ q.1.pc + 1 < big ∧ q.1.ol < 18446744073709551616

section
variable {hi hm : Hp} {K : Value → Hp → Prop} {c : Nat} {tc : TypeId} {s : YS} {base : List (YF × List Int)} {f : YF} {m ret l : List Int} {left st : Int} {so : Sl} {N : Nat}
theorem leave_ok (S : StOK hi hm c tc s (base ++ [(f, m)]) ret left) (hN : StN N s (base ++ [(f, m)])) (hN30 : N < 2 ^ 30) (hbn : base.length ≤ 100) (hgr : f.gas < big) (hst0 : 0 ≤ st) (hst1 : st < 256) (hl : BytS hi so l) (hself : isB f.self) (hpar : parOk base f.gas)
    (hk : StK hi c tc s (N + 1) (leaveA (absS s (base ++ [(f, m)]) ret left) (base.map absF) (absF (f, m)) st l) K) :
    CallX Hval.prog 53 [.pointer (some ⟨c, 0, none⟩), .int .u8 st, sl so] (join hi hm) K := by
  refine leaveSt_ok S hN hN30 hbn hgr hst0 hst1 hl hself hpar.ok fun hi' hm' s' frs' left' e S' hN' hw hs h0 h1 => ?_
  obtain ⟨w', r, fs, ph, stt, lf, hs⟩ := hs
  refine hk hi' hm' s' frs' _ left' e S' hN' ?_ (by rw [hs]; exact ⟨rfl, rfl, rfl, rfl, rfl, rfl, rfl, rfl⟩)
  rcases List.eq_nil_or_concat base with hb | ⟨b0, ⟨p, pm⟩, hb⟩
  · obtain ⟨q1, q2, q3, q4⟩ := h0 hb
    subst hb
    unfold absS leaveA
    rw [q1, q2, q3, q4, hw]
    rfl
  · have hb : base = b0 ++ [(p, pm)] := by simpa using hb
    obtain ⟨q1, q2, q3, p', q4, q5⟩ := h1 b0 p pm hb
    subst hb
    unfold absS leaveA
    rw [q1, q2, q3, q4, hw]
    simp only [List.map_append, List.map_cons, List.map_nil, List.reverse_append, List.reverse_cons, List.reverse_nil, List.nil_append, List.cons_append, List.reverse_reverse]
    rw [q5]
    rfl

/-- A natv contract, abstractly. -/
def natvA (a : AS) (base : List AF) (f : AF) : AS :=
  match natCost f.natv f.input with
  | none => leaveA a base f 2 []
  | some y => if f.gas < y then leaveA a base f 2 [] else leaveA a base { f with gas := f.gas - y } 0 (natOut f.natv f.input)

set_option maxRecDepth 100000 in
set_option maxHeartbeats 4000000 in
theorem natv_ok (S : StOK hi hm c tc s (base ++ [(f, m)]) ret left) (hN : StN N s (base ++ [(f, m)])) (hN30 : N < 2 ^ 30) (hbn : base.length ≤ 100) (hgr : f.gas < big) (hself : isB f.self) (hpar : parOk base f.gas) {fb : Nat} (hfb : at0 s.frS fb)
    (hk : StK hi c tc s (N + 1) (natvA (absS s (base ++ [(f, m)]) ret left) (base.map absF) (absF (f, m))) K) :
    CallX Hval.prog 50 [.pointer (some ⟨c, 0, none⟩), .pointer (some ⟨fb, (preC base).length, none⟩)] (join hi hm) K := by
  refine CallX.of_xf T_ok Hval.func50 rfl (by kernel_rfl) (Nat.le_of_ble_eq_true rfl) ?_; conv => whnf
  obtain ⟨fb', pad, tf, hfb', hb, hn1, hn2, hn3⟩ := S.top
  have : some (⟨fb', 0, none⟩ : Addr) = some ⟨fb, 0, none⟩ := hfb'.symm.trans hfb
  cases this
  have hok := S.okT
  have hd := S.dj
  have hbj := join_hm hd hb
  have hg0 := hok.gas.val
  refine DrawX.go T_ok hM Hval.func50 (tb := dr50) rfl (by kernel_rfl) ?_; conv => whnf
  refine LoadX.mid hbj 1 (by decide) rfl (v := .int .u8 f.natv) rfl ?_; conv => whnf
  refine LoadX.mid hbj 11 (by decide) rfl (v := sl f.inS) rfl ?_; conv => whnf
  refine CallX.fj hd (ypNativeCost_ok hok.input (fun hnone => ?_) fun y b1 n1 c1 hi1 hy e1 g1 => ?_)
  · intro hd1
    conv => whnf
    repeat (first | (refine CondX.tt ?_; conv => whnf) | (refine CondX.ff ?_; conv => whnf))
    have hk : StK hi c tc s (N + 1) (leaveA (absS s (base ++ [(f, m)]) ret left) (base.map absF) (absF (f, m)) 2 []) K := by
      have e : natvA (absS s (base ++ [(f, m)]) ret left) (base.map absF) (absF (f, m)) = leaveA (absS s (base ++ [(f, m)]) ret left) (base.map absF) (absF (f, m)) 2 [] := by
        unfold natvA; show (match natCost f.natv f.input with | none => _ | some y => _) = _; rw [hnone]
      rwa [e] at hk
    refine leave_ok (st := 2) (so := nilS) (l := []) S hN hN30 hbn hgr (by omega) (by omega) (Byt_nil _) hself hpar ?_
    intro hi' hm' s' frs' ret' left' q1 q2 q3 q4 q5
    conv => whnf
    exact RetX.same (hk hi' hm' s' frs' ret' left' q1 q2 q3 q4 q5)
  · intro hd1
    conv => whnf
    repeat (first | (refine CondX.tt ?_; conv => whnf) | (refine CondX.ff ?_; conv => whnf))
    refine LoadX.mid (join_hm hd1 hb) 4 (by decide) rfl (v := sl f.gasS) rfl ?_; conv => whnf
    repeat (first | (refine CondX.tt ?_; conv => whnf) | (refine CondX.ff ?_; conv => whnf))
    have hok1 := hok.ext e1
    refine cmpN (g1.ext (Ext.jl _ _)) (hok1.gas.ext (Ext.jl _ _)) ?_; conv => whnf
    repeat (first | (refine CondX.tt ?_; conv => whnf) | (refine CondX.ff ?_; conv => whnf))
    rw [cmp_gt]
    have S1 := S.ext e1 hd1
    refine CondX.decI (fun hq => ?_) (fun hq => ?_) <;> conv => whnf
    · have e : natvA (absS s (base ++ [(f, m)]) ret left) (base.map absF) (absF (f, m)) = leaveA (absS s (base ++ [(f, m)]) ret left) (base.map absF) (absF (f, m)) 2 [] := by
        unfold natvA; show (match natCost f.natv f.input with | none => _ | some y => if f.gas < y then _ else _) = _; rw [hy]; exact if_pos hq
      rw [e] at hk
      refine leave_ok (st := 2) (so := nilS) (l := []) S1 hN hN30 hbn hgr (by omega) (by omega) (Byt_nil _) hself hpar ?_
      intro hi' hm' s' frs' ret' left' q1 q2 q3 q4 q5
      conv => whnf
      exact RetX.same (hk hi' hm' s' frs' ret' left' (e1.trans q1) q2 q3 q4 q5)
    · have e : natvA (absS s (base ++ [(f, m)]) ret left) (base.map absF) (absF (f, m)) = leaveA (absS s (base ++ [(f, m)]) ret left) (base.map absF) { absF (f, m) with gas := f.gas - y } 0 (natOut f.natv f.input) := by
        unfold natvA; show (match natCost f.natv f.input with | none => _ | some y => if f.gas < y then _ else _) = _; rw [hy]; exact if_neg hq
      rw [e] at hk
      refine LoadX.mid (join_hm hd1 hb) 4 (by decide) rfl (v := sl f.gasS) rfl ?_; conv => whnf
      refine CallX.fj hd1 (less_ok hok1.gas g1 fun b2 n2 c2 hi2 e2 g2 hd2 => ?_); conv => whnf
      have hless : lessI f.gas y = f.gas - y := by unfold lessI; rw [if_neg hq]
      rw [hless] at g2
      refine StoreX.mid (f := f) hd2 hb 4 (by decide) rfl { f with gasS := (b2, n2, c2), gas := f.gas - y } rfl fun hd3 => ?_; conv => whnf
      have hok2 := hok1.ext e2
      have S2 := (S1.ext e2 hd2).setTop (f' := { f with gasS := (b2, n2, c2), gas := f.gas - y }) hfb hb ⟨hok2.pc, g2, hok2.val, hok2.oo, hok2.ol, hok2.st, hok2.stE, hok2.stR, hok2.code, hok2.input, hok2.self, hok2.caller, hok2.saved⟩ rfl
      have hb3 := join_hm hd3 (hput_same hm fb (preC base ++ (fCells { f with gasS := (b2, n2, c2), gas := f.gas - y } ++ pad), tf))
      refine DrawX.go T_ok hM Hval.func50 (tb := dr50) rfl (by kernel_rfl) ?_; conv => whnf
      refine LoadX.mid hb3 1 (by decide) rfl (v := .int .u8 f.natv) rfl ?_; conv => whnf
      refine LoadX.mid hb3 11 (by decide) rfl (v := sl f.inS) rfl ?_; conv => whnf
      refine CallX.fj hd3 (ypNativeRun_ok hok2.input ⟨y, hy⟩ fun b4 n4 c4 hi4 e4 g4 hd4 => ?_); conv => whnf
      have hy0 := g1.val
      have hN2 : StN N s (base ++ [({ f with gasS := (b2, n2, c2), gas := f.gas - y }, m)]) := ⟨hN.now, fun q hq' => by
        rcases List.mem_append.1 hq' with h5 | h5
        · exact hN.saved q (by simp [h5])
        · rw [List.mem_singleton.1 h5]; exact hN.saved (f, m) (by simp)⟩
      refine leave_ok (st := 0) (so := (b4, n4, c4)) (l := natOut f.natv f.input) (S2.ext e4 hd4) hN2 hN30 hbn (by show f.gas - y < big; omega) (by omega) (by omega) g4 hself ⟨fun q hq' => ?_⟩ ?_
      · have := hpar.ok q hq'
        exact ⟨by show q.1.gas + (f.gas - y) < big; omega, this.2⟩
      intro hi' hm' s' frs' ret' left' q1 q2 q3 q4 q5
      conv => whnf
      refine RetX.same (hk hi' hm' s' frs' ret' left' (((e1.trans e2).trans e4).trans q1) q2 q3 ?_ q5)
      rw [q4]
      simp [absS, absF, leaveA]
end
end Go.Proofs.YgvalwGreat.X
