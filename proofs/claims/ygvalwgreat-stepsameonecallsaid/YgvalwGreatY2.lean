import Derived.Test.YgvalwGreatY1b
set_option linter.unusedVariables false
set_option linter.unusedSimpArgs false
namespace Go.Proofs.YgvalwGreat.X
open Go

section
variable {hi hm h : Hp} {K : Value → Hp → Prop} {KK : Hp → Prop} {c : Nat} {tc : TypeId} {s : YS} {sD : Sl} {g l0 : Int} {d a ret : List Int} {N : Nat} {left : Int} {frs : List (YF × List Int)}
theorem StOK.put (S : StOK hi hm c tc s frs ret left) {k o : Nat} {v : Value} (s' : YS) (ho : o = k) (hk : k < 19) (hs : (sCells s).set k v = sCells s') (h1 : s'.w = s.w) (h2 : s'.frS = s.frS) (hr : BytS hi s'.retS ret) (hl : NtS hi s'.leftS left) (hK : ∀ hm', StOK hi hm' c tc s' frs ret left → KK (join hi hm')) : StoreX (join hi hm) c o [v] KK := by
  subst ho
  exact StoreX.st S.dj S.chain o hk s' hs fun _ => hK _ (S.setS h1 h2 hr hl)
theorem StOK.putK (S : StOK hi hm c tc s frs ret left) {k o : Nat} {v : Value} (s' : YS) (ho : o = k) (hk : k < 19) (hs : (sCells s).set k v = sCells s') (h1 : s'.w = s.w) (h2 : s'.frS = s.frS) (hr : BytS hi s'.retS ret) (hl : NtS hi s'.leftS left) (hK : ∀ hm', StOK hi hm' c tc s' frs ret left → (∀ b y, b ≠ c → hm b = some y → hm' b = some y) → KK (join hi hm')) : StoreX (join hi hm) c o [v] KK := by
  subst ho
  exact StoreX.st S.dj S.chain o hk s' hs fun _ => hK _ (S.setS h1 h2 hr hl) fun b y hb hy => by rw [hput_ne hb]; exact hy
theorem sCells_org {x : List Int} (h1 : s.origin.length = 20) (hx : x.length = 20) : setSeg (sCells s) 19 (bcells x) = sCells { s with origin := x } := by
  have e : (bcells s.origin).length = 20 := by rw [bcells_length, h1]
  have ex : (bcells x).length = 20 := by rw [bcells_length, hx]
  unfold sCells
  generalize hL : [sl s.w.sA, sl s.w.sWA, sl s.w.sWS, sl s.w.sR, sl s.w.sL, sl s.w.sT, sl s.w.sM, sl s.w.sG, sl nilS, sl s.frS, sl s.retS, .int .u8 s.phase, .int .u8 s.status, .int .u8 s.applied, sl s.limS, sl s.txS, sl s.leftS, sl s.priceS, sl s.totS] = L
  have hl : L.length = 19 := by rw [← hL]; rfl
  simp only [setSeg, ex]
  rw [← hl, List.take_left, ← List.drop_drop, List.drop_left, ← e, List.drop_left, List.append_assoc]
theorem sCells_mad {x : List Int} (h1 : s.origin.length = 20) (h2 : s.made.length = 20) (hx : x.length = 20) : setSeg (sCells s) 39 (bcells x) = sCells { s with made := x } := by
  have e : (bcells s.origin).length = 20 := by rw [bcells_length, h1]
  have e2 : (bcells s.made).length = 20 := by rw [bcells_length, h2]
  have ex : (bcells x).length = 20 := by rw [bcells_length, hx]
  unfold sCells
  generalize hL : [sl s.w.sA, sl s.w.sWA, sl s.w.sWS, sl s.w.sR, sl s.w.sL, sl s.w.sT, sl s.w.sM, sl s.w.sG, sl nilS, sl s.frS, sl s.retS, .int .u8 s.phase, .int .u8 s.status, .int .u8 s.applied, sl s.limS, sl s.txS, sl s.leftS, sl s.priceS, sl s.totS] = L
  have hl : (L ++ bcells s.origin).length = 39 := by rw [← hL]; simp [e]
  rw [← List.append_assoc L (bcells s.origin) (bcells s.made ++ s.env)]
  show _ = L ++ (bcells s.origin ++ (bcells x ++ s.env))
  rw [← List.append_assoc L (bcells s.origin) (bcells x ++ s.env)]
  generalize L ++ bcells s.origin = M at *
  simp only [setSeg, ex]
  rw [← hl, List.take_left, ← List.drop_drop, List.drop_left, ← e2, List.drop_left, List.append_assoc]
theorem WK.of {s : YS} {frs : List (YF × List Int)} {ret : List Int} {left : Int} {X : AW} (hk : ∀ hi' hm' s', Ext hi hi' → StOK hi' hm' c tc s' frs ret left → s'.w.sz (N + 1) → absW s'.w = X → (∃ w', s' = { s with w := w' }) → K (.tuple #[]) (join hi' hm')) : WK hi hm c tc s frs ret left N X K :=
  fun hi' w' e S z a => hk hi' _ _ e S z a ⟨w', rfl⟩
theorem StOK.putL (S : StOK hi hm c tc s frs ret left) {o o' : Nat} {vs vs' : List Value} (s' : YS) (hv : vs = vs') (hoo : o = o') (hs : setSeg (sCells s) o' vs' = sCells s') (ho : o + vs.length ≤ (sCells s).length) (h1 : s'.w = s.w) (h2 : s'.frS = s.frS) (hr : BytS hi s'.retS ret) (hl : NtS hi s'.leftS left) (hK : ∀ hm', StOK hi hm' c tc s' frs ret left → KK (join hi hm')) : StoreX (join hi hm) c o vs KK := by
  subst hv hoo
  refine StoreX.jm S.dj S.chain ho ?_
  rw [hs]
  exact hK _ (S.setS h1 h2 hr hl)
theorem setBalSt_ok (S : StOK hi hm c tc s frs ret left) (hN : s.w.sz N) (hN30 : N < 2 ^ 30) (ha : a.length = 20) {sn : Sl} {n : Int} (hn : NtS hi sn n) (hk : WK hi hm c tc s frs ret left N (balW (absW s.w) a n) K) :
    CallX Hval.prog 35 [.pointer (some ⟨c, 0, none⟩), .agg (bcells a).toArray, sl sn] (join hi hm) K := by
  have hwr := hN.room S.now hN30
  refine setBalance_ok (o := 0) S.dj S.chain (show (sCells s)[0]? = some (sl s.w.sA) from rfl) S.now.acc ha hn hwr.acc fun hi5 sA ys e5 hd5 gA hP => ?_
  have hset : setSeg (sCells s) 0 [sl sA] = sCells { s with w := { s.w with sA := sA, acc := ys } } := (sCells_set (by decide)).trans rfl
  rw [hset] at hd5 ⊢
  have b := (S.now.up e5)
  refine hk hi5 { s.w with sA := sA, acc := ys } e5 ((S.ext e5 (hd5.unput S.chain)).setW rfl rfl fun hl' hh => ⟨gA, b.wa, b.ws, b.ref, hh, b.logsE, b.temps, b.made, b.gone⟩) (put_sz hN hP (Nat.le_succ_of_le (getA_slots hN a))) ?_
  unfold absW balW
  congr 1
  funext b
  rw [absA_put hP]
  have : (withBal (getA s.w.acc a) sn n).addr = a := getA_addr
  rw [this]
  rfl
/-- The specification at rest. -/
structure YI (hi hm : Hp) (c : Nat) (tc : TypeId) (s : YS) : Prop where
  S : StOK hi hm c tc s [] [] 0
  sz : s.w.sz 100
  phase : s.phase = 0
  applied : s.applied = 0
  fr : s.frS = nilS
  made : s.made = z20
  E : EnvOK hi s
  slots : ∀ x ∈ s.w.acc, x.slots = []
  nonce : (getA s.w.acc sndA).nonce = 0
  code : (getA s.w.acc sndA).code = []
theorem YI.exti {hi' : Hp} (I : YI hi hm c tc s) (he : Ext hi hi') (hd : Dj hi' hm) : YI hi' hm c tc s :=
  ⟨I.S.ext he hd, I.sz, I.phase, I.applied, I.fr, I.made, ⟨I.E.env, I.E.origin, I.E.oB, I.E.made, I.E.price.ext he⟩, I.slots, I.nonce, I.code⟩
theorem YI.ver (I : YI hi hm c tc s) (hD : Byt h sD.1 sD.2.1 sD.2.2 d) (he : Ext (join hi hm) h) (hg : 0 ≤ g ∧ g < 18446744073709551616) (hk : K (.int .u8 (vd d g)) h) : CallX Hval.prog 26 [.pointer (some ⟨c, 0, none⟩), .agg (txC sD g).toArray] h K := by
  have hr := I.sz.room I.S.now (by omega)
  refine yverdict_ok (hi := hi) (he _ _ (join_hm I.S.dj I.S.chain)) (I.S.now.acc.arr.ext ((Ext.jl _ _).trans he)) (fun x hx => (I.S.now.acc.each x hx).addr) (by have := hr.acc; omega) ((getA_ok I.S.now.acc.each rfl).ext ((Ext.jl _ _).trans he)) I.nonce I.code I.E I.phase I.applied hD hg hk
set_option maxRecDepth 100000 in
set_option maxHeartbeats 4000000 in
theorem ybegin_no (I : YI hi hm c tc s) (he : Ext (join hi hm) h) (hD : Byt h sD.1 sD.2.1 sD.2.2 d) (hg : 0 ≤ g ∧ g < 18446744073709551616) (hv : vd d g ≠ 0) (hk : K (.int .u8 (vd d g)) h) : CallX Hval.prog 11 [.pointer (some ⟨c, 0, none⟩), .agg (txC sD g).toArray] h K := by
  refine CallX.of_xf T_ok Hval.func11 rfl (by kernel_rfl) (Nat.le_of_ble_eq_true rfl) ?_; conv => whnf
  refine BoxX.ext fun m3 hm3 em3 => ?_; conv => whnf
  refine LoadX.all (c := txC sD g) (hput_same ..) rfl ?_; conv => whnf
  refine I.ver (hD.ext em3) (he.trans em3) hg ?_; conv => whnf
  refine CondX.neI (fun _ => ?_) (fun hc => absurd hc hv); conv => whnf
  exact RetX.drop em3 hk
theorem Dj.back2 {m : Nat} {x : List Value × TypeId} (hd : Dj hi (hput hm m x)) (hm0 : hm m = none) : Dj hi hm := fun b => by
  rcases hd b with h1 | h1
  · exact .inl h1
  · refine .inr ?_
    by_cases hb : b = m
    · rw [hb]; exact hm0
    · rwa [hput_ne hb] at h1
/-- What of the state the world's turns keep. -/
structure KeepS (s s' : YS) : Prop where
  frS : s'.frS = s.frS
  txS : s'.txS = s.txS
  priceS : s'.priceS = s.priceS
  limS : s'.limS = s.limS
  origin : s'.origin = s.origin
  made : s'.made = s.made
  env : s'.env = s.env
theorem KeepS.refl (s : YS) : KeepS s s := ⟨rfl, rfl, rfl, rfl, rfl, rfl, rfl⟩
theorem KeepS.put {s s1 s2 : YS} {w : YW} (a : KeepS s s1) (h : s2 = { s1 with w := w }) : KeepS s s2 := by
  subst h; exact ⟨a.frS, a.txS, a.priceS, a.limS, a.origin, a.made, a.env⟩
theorem KeepS.fix {s s1 s2 : YS} (a : KeepS s s1) (h : fixS s1 s2) (hf : s2.frS = s1.frS) : KeepS s s2 := ⟨hf.trans a.frS, h.txS.trans a.txS, h.priceS.trans a.priceS, h.limS.trans a.limS, h.origin.trans a.origin, h.made.trans a.made, h.env.trans a.env⟩
set_option maxRecDepth 100000 in
set_option maxHeartbeats 4000000 in
theorem ybegin_ok (I : YI hi hm c tc s) (hD : BytS hi sD d) (hg : 0 ≤ g ∧ g < 18446744073709551616) (hv : vd d g = 0)
    (hk : ∀ hi' hm' s' frs' ret' left', Ext hi hi' → StOK hi' hm' c tc s' frs' ret' left' → StN 200 s' frs' → (∀ st lf, { absS s' frs' ret' left' with status := st, left := lf } = begA (absW s.w) d g st lf) → EnvOK hi' s' → s'.origin = sndA → K (.int .u8 0) (join hi' hm')) : CallX Hval.prog 11 [.pointer (some ⟨c, 0, none⟩), .agg (txC sD g).toArray] (join hi hm) K := by
  have hbg := big_lt
  have hvb : g ≤ 1048576 ∧ d.length ≤ 1024 ∧ intr d ≤ g := by
    unfold vd at hv
    by_cases h1 : 1048576 < g ∨ 1024 < d.length
    · rw [if_pos h1] at hv; cases hv
    · rw [if_neg h1] at hv
      by_cases h2 : g < intr d
      · rw [if_pos h2] at hv; cases hv
      · omega
  have hib := intr_bd (d := d)
  refine CallX.of_xf T_ok Hval.func11 rfl (by kernel_rfl) (Nat.le_of_ble_eq_true rfl) ?_; conv => whnf
  refine BoxX.j I.S.dj fun m3 q1 q2 d3 eI => ?_; conv => whnf
  have I := I.exti eI d3
  have hD := hD.ext eI
  have b3 : hput hi m3 ((txC sD g).toArray.toList, 40) m3 = some (txC sD g, 40) := hput_same ..
  clear q1 q2 d3
  generalize hput hi m3 ((txC sD g).toArray.toList, 40) = h1 at *
  refine LoadX.all (join_l b3) rfl ?_; conv => whnf
  refine I.ver (hD.ext (Ext.jl _ _)) (Ext.refl _) hg ?_
  rw [hv]; conv => whnf
  repeat (first | (refine CondX.tt ?_; conv => whnf) | (refine CondX.ff ?_; conv => whnf))
  obtain ⟨x, hxe⟩ : ∃ x, x = getA s.w.acc sndA := ⟨_, rfl⟩
  have hx : x.ok h1 := by rw [hxe]; exact getA_ok I.S.now.acc.each rfl
  have xlen := acCells_len hx.addr
  have xone := acCells_one x
  have hrm := I.sz.room I.S.now (by omega)
  refine DrawX.go T_ok hM Hval.func11 (tb := dr11) rfl (by kernel_rfl) ?_; conv => whnf
  refine LoadX.of _ (tx_from (join_l b3)) ?_; conv => whnf
  refine account_ok (xs := s.w.acc) (a := sndA) (join_hm I.S.dj I.S.chain) (show (sCells s)[0]? = some (sl s.w.sA) from rfl) (I.S.now.acc.arr.ext (Ext.jl _ _)) (fun x hx => (I.S.now.acc.each x hx).addr) rfl (by have := hrm.acc; omega) ?_
  rw [← hxe]; conv => whnf
  repeat (refine Ob.mk (by exact tx_from (join_l b3)) ?_; conv => whnf)
  refine BoxW.j I.S.dj fun m7 q1 q2 d7 e7 => ?_; conv => whnf
  refine Ob.mk ⟨by rw [List.size_toArray, xlen]; rfl, xone⟩ ?_; conv => whnf
  refine StoreX.j (by rw [List.toList_toArray, xlen]; decide) ?_; conv => whnf
  rw [setSeg_all (by rw [List.toList_toArray, xlen]; rfl), List.toList_toArray]
  have e7 : Ext h1 (hput h1 m7 (acCells x, 118)) := Ext.new q1
  have I := I.exti e7 d7.hp
  have hx := hx.ext e7
  have b3 := e7 _ _ b3
  have hD := hD.ext e7
  have eI := eI.trans e7
  have b7 : hput h1 m7 (acCells x, 118) m7 = some (acCells x, 118) := hput_same ..
  clear q1 q2 d7
  generalize hput h1 m7 (acCells x, 118) = h2 at *
  repeat (refine Ob.mk (by exact tx_from (join_l b3)) ?_; conv => whnf)
  refine LoadX.of _ (tx_to (join_l b3)) ?_; conv => whnf
  refine BoxX.j I.S.dj fun m8 q1 q2 d8 e8 => ?_; conv => whnf
  refine Ob.mk ⟨rfl, rfl⟩ ?_; conv => whnf
  refine StoreX.jx (x := bcells (adr 1)) (Nat.le_of_ble_eq_true rfl) (setSeg_all rfl) ?_; conv => whnf
  have e8 : Ext h2 (hput h2 m8 (bcells (adr 1), 31)) := Ext.new q1
  have I := I.exti e8 d8.hp
  have hx := hx.ext e8
  have b7 := e8 _ _ b7
  have b3 := e8 _ _ b3
  have hD := hD.ext e8
  have eI := eI.trans e8
  have b8 : hput h2 m8 (bcells (adr 1), 31) m8 = some (bcells (adr 1), 31) := hput_same ..
  clear q1 q2 d8
  generalize hput h2 m8 (bcells (adr 1), 31) = h3 at *
  have slen : ∀ s' : YS, s'.origin.length = 20 → s'.made.length = 20 → s'.env = stEnv → (sCells s').length = 179 := fun s' q1 q2 q3 => by unfold sCells; simp [bcells_length, q1, q2, q3, stEnv_len]
  have eO := I.E.origin
  have eM := I.E.made
  have eE := I.E.env
  refine Ob.mk ⟨rfl, rfl⟩ ?_; conv => whnf
  refine I.S.putL (vs' := bcells z20) (o' := 39) { s with made := z20 } rfl rfl (sCells_mad eO eM rfl) (by rw [slen s eO eM eE]; exact Nat.le_of_ble_eq_true rfl) rfl rfl I.S.ret I.S.left fun hm1 S => ?_; conv => whnf
  rw [show ({ s with made := z20 } : YS) = s by rw [← I.made]] at S
  refine S.put s rfl (by decide) (by have : (sCells s).set 9 (sl s.frS) = sCells s := rfl; rwa [I.fr] at this) rfl rfl S.ret S.left fun hm1 S => ?_; conv => whnf
  refine LoadX.blk (join_l b3) (.bool false) rfl ?_; conv => whnf
  repeat (first | (refine CondX.tt ?_; conv => whnf) | (refine CondX.ff ?_; conv => whnf))
  refine LoadX.blk (join_hm S.dj S.chain) (.int .u8 0) (congrArg (fun y => some (Value.int .u8 y)) I.applied) ?_; conv => whnf
  refine S.put { s with applied := 1 } rfl (by decide) rfl rfl rfl S.ret S.left fun hm1 S => ?_; conv => whnf
  have eY := Ext.refl h3
  refine LoadX.blk (join_l b3) (.int .u64 g) rfl ?_; conv => whnf
  refine CallX.fj S.dj (num_ok hg.1 hg.2 fun bL nL cL h4 e4 gL dL => ?_); conv => whnf
  have S := S.ext e4 dL
  have hx := hx.ext e4
  have b3 := e4 _ _ b3
  have b7 := e4 _ _ b7
  have b8 := e4 _ _ b8
  have hD := hD.ext e4
  have eI := eI.trans e4
  have eY := eY.trans e4
  refine S.put { s with applied := 1, limS := (bL, nL, cL) } rfl (by decide) rfl rfl rfl S.ret S.left fun hm1 S => ?_; conv => whnf
  refine DrawX.go T_ok hM Hval.func11 (tb := dr11) rfl (by kernel_rfl) ?_; conv => whnf
  refine LoadX.blk (join_hm S.dj S.chain) (sl (bL, nL, cL)) rfl ?_; conv => whnf
  refine LoadX.all (join_l b3) rfl ?_; conv => whnf
  refine CallX.fj S.dj (yIntr_ok hD (by omega) fun bI nI cI h5 e5 gI dI => ?_); conv => whnf
  have S := S.ext e5 dI
  have hx := hx.ext e5
  have b3 := e5 _ _ b3
  have b7 := e5 _ _ b7
  have b8 := e5 _ _ b8
  have hD := hD.ext e5
  have eI := eI.trans e5
  have eY := eY.trans e5
  have gL := gL.ext e5
  repeat (refine Ob.mk (by first | exact ldV_blk (join_hm S.dj S.chain) rfl | exact ldV_all (join_l b3) rfl) ?_; conv => whnf)
  refine CallX.fj S.dj (less_ok gL gI fun bT nT cT h6 e6 gT dT => ?_); conv => whnf
  have S := S.ext e6 dT
  have hx := hx.ext e6
  have b3 := e6 _ _ b3
  have b7 := e6 _ _ b7
  have b8 := e6 _ _ b8
  have hD := hD.ext e6
  have eI := eI.trans e6
  have eY := eY.trans e6
  have gL := gL.ext e6
  repeat (refine Ob.mk (by first | exact ldV_blk (join_hm S.dj S.chain) rfl | exact ldV_all (join_l b3) rfl) ?_; conv => whnf)
  rw [show lessI g (intr d) = g - intr d by unfold lessI; split <;> omega] at gT
  refine S.put { s with applied := 1, limS := (bL, nL, cL), txS := (bT, nT, cT) } rfl (by decide) rfl rfl rfl S.ret S.left fun hm1 S => ?_; conv => whnf
  refine LoadX.all (join_l b3) rfl ?_; conv => whnf
  refine yprice_j S.dj S.chain ⟨eE, eO, I.E.oB, eM, (I.E.price.ext eY)⟩ fun sP h7 e7 dP gP => ?_; conv => whnf
  have S := S.ext e7 dP
  have hx := hx.ext e7
  have b3 := e7 _ _ b3
  have b7 := e7 _ _ b7
  have b8 := e7 _ _ b8
  have hD := hD.ext e7
  have eI := eI.trans e7
  have eY := eY.trans e7
  have gT := gT.ext e7
  have gL := gL.ext e7
  refine S.put { s with applied := 1, limS := (bL, nL, cL), txS := (bT, nT, cT), priceS := sP } rfl (by decide) rfl rfl rfl S.ret S.left fun hm1 S => ?_; conv => whnf
  refine LoadX.of _ (tx_from (join_l b3)) ?_; conv => whnf
  refine Ob.mk ⟨rfl, rfl⟩ ?_; conv => whnf
  refine S.putL (vs' := bcells sndA) (o' := 19) { s with applied := 1, limS := (bL, nL, cL), txS := (bT, nT, cT), priceS := sP, origin := sndA } rfl rfl (sCells_org eO rfl) (Nat.le_trans (m := 179) (Nat.le_of_ble_eq_true rfl) (Nat.le_of_eq (by symm; refine slen _ ?_ ?_ ?_; exact eO; exact eM; exact eE))) rfl rfl S.ret S.left fun hm1 S => ?_; conv => whnf
  refine S.put { s with applied := 1, limS := (bL, nL, cL), txS := (bT, nT, cT), priceS := sP, origin := sndA } rfl (by decide) rfl rfl rfl S.ret S.left fun hm1 S => ?_; conv => whnf
  obtain ⟨s6, hs6⟩ : ∃ s6 : YS, s6 = { s with applied := 1, limS := (bL, nL, cL), txS := (bT, nT, cT), priceS := sP, origin := sndA } := ⟨_, rfl⟩
  have S : StOK h7 hm1 c tc s6 [] [] 0 := by rw [hs6]; exact S
  have hw6 : s6.w = s.w := by rw [hs6]
  have hsl6 : ∀ x ∈ s6.w.acc, x.slots = [] := by rw [hw6]; exact I.slots
  have hN6 : s6.w.sz 100 := by rw [hw6]; exact I.sz
  have hn6 : s6.w.acc.length = s6.w.sA.2.1 := S.now.acc.n
  have hr6 : s6.w.sA.2.1 ≤ 100 := by have := hN6.acc; omega
  refine LoadX.blk (join_hm S.dj S.chain) (sl s6.w.sA) rfl ?_; conv => whnf
  refine LoopX.st T_ok Hval.func11 (σ := Nat) (fun i => [(3, .pointer (some ⟨m3, 0, none⟩)), (5, .pointer (some ⟨c, 0, none⟩)), (7, .pointer (some ⟨m7, 0, none⟩)), (8, .pointer (some ⟨m8, 0, none⟩)), (94, sl s6.w.sA), (95, .int .i64 s6.w.sA.2.1), (96, .int .i64 i)])
    (fun i h' => i ≤ s6.w.sA.2.1 ∧ h' = join h7 hm1) (fun i => s6.w.sA.2.1 - i) 0 ⟨rfl, rfl, rfl, rfl, rfl, rfl, rfl, trivial⟩ ⟨Nat.zero_le _, rfl⟩ ?_
  rintro i ρ h' ⟨hil, rfl⟩ ih
  conv => whnf
  have hA := S.now.acc.arr.ext (Ext.jl h7 hm1)
  refine CondX.decI (fun hc => ?_) (fun hc => ?_) <;> conv => whnf
  · have hc : i < s6.w.sA.2.1 := by omega
    refine IdxX.arr hA (by omega) (by omega) (by omega) fun b off e => ?_; conv => whnf
    refine LoadX.elt hA e i rfl hc ?_; conv => whnf
    rw [getD_map (by omega)]
    have hyl := (S.now.acc.each _ (List.getElem_mem (show i < s6.w.acc.length by omega)))
    have hys := hsl6 _ (List.getElem_mem (show i < s6.w.acc.length by omega))
    obtain ⟨y, hy⟩ : ∃ y, y = s6.w.acc[i]'(by omega) := ⟨_, rfl⟩
    rw [← hy] at hyl hys ⊢
    have yone := acCells_one y
    have ylen := acCells_len hyl.addr
    refine BoxX.mk fun m10 hm10 => ?_; conv => whnf
    refine Ob.mk ⟨by rw [List.size_toArray, ylen]; rfl, yone⟩ ?_; conv => whnf
    refine StoreX.same (by rw [List.toList_toArray, ylen]; decide) ?_; conv => whnf
    rw [setSeg_all (by rw [List.toList_toArray, ylen]; rfl)]
    refine LoadX.fld (a := y.addr) (r := acRest y) (t := 118) (hput_same ..) hyl.addr 3 rfl (v := sl y.ss) rfl ?_; conv => whnf
    have hss : y.ss.2.1 = 0 := by have := hyl.slots.len; rw [hys] at this; simpa using this.symm
    rw [hss]
    refine LoopX.st T_ok Hval.func11 (σ := Unit) (fun _ => [(3, .pointer (some ⟨m3, 0, none⟩)), (5, .pointer (some ⟨c, 0, none⟩)), (7, .pointer (some ⟨m7, 0, none⟩)), (8, .pointer (some ⟨m8, 0, none⟩)), (94, sl s6.w.sA), (95, .int .i64 s6.w.sA.2.1), (96, .int .i64 i), (102, .int .i64 0), (103, .int .i64 0)])
      (fun _ h2 => h2 = hput (join h7 hm1) m10 (acCells y, 118)) (fun _ => 0) () ⟨rfl, rfl, rfl, rfl, rfl, rfl, rfl, rfl, rfl, trivial⟩ rfl ?_
    rintro _ ρ2 h2 rfl ih2
    conv => whnf
    repeat (first | (refine CondX.tt ?_; conv => whnf) | (refine CondX.ff ?_; conv => whnf))
    refine LoopX.drop (Ext.bd hm10) (ih (i + 1) _ _ ⟨by omega, rfl⟩ (by omega) ⟨rfl, rfl, rfl, rfl, rfl, rfl, congrArg (Value.int .i64) (wsucc (by omega)), trivial⟩)
  clear hil hA hc ih
  have eE6 : s6.env = stEnv := by rw [hs6]; exact eE
  have eO6 : s6.origin = sndA := by rw [hs6]
  have eM6 : s6.made = z20 := by rw [hs6]; exact I.made
  have hcb : ∀ {hx hmx : Hp} {sx : YS}, StOK hx hmx c tc sx [] [] 0 → KeepS s6 sx → ldV true 20 (join hx hmx) c 59 = some (.agg (bcells (adr 192)).toArray) := fun {hx hmx sx} S k => by
    have he : sx.env = stEnv := k.env.trans eE6
    have hp := preS_len (s := sx) (by rw [k.origin, eO6]; rfl) (by rw [k.made, eM6]; rfl)
    simp only [ldV, join_hm S.dj S.chain]
    rw [sCells_env he, if_pos (by rw [List.length_append, hp, stEnv_len]; omega)]
    exact congrArg (fun z => some (Value.agg (List.toArray z))) (seg_tail (k := 0) (n := 20) hp.symm)
  have h1w := KeepS.refl s6
  have hN := hN6
  have hxn : x.nonce = 0 := by rw [hxe]; exact I.nonce
  have hxb : x.bal = ((absW s6.w).acct sndA).bal := by rw [hxe, hw6]; rfl
  have gT : NtS h7 s6.txS (g - intr d) := by rw [hs6]; exact gT
  have gP : NtS h7 s6.priceS 0 := by rw [hs6]; exact gP
  have gL : NtS h7 s6.limS g := by rw [hs6]; exact gL
  refine DrawX.go T_ok hM Hval.func11 (tb := dr11) rfl (by kernel_rfl) ?_; conv => whnf
  refine LoadX.of _ (tx_from (join_l b3)) ?_; conv => whnf
  refine LoadX.fld (join_l b7) hx.addr 0 rfl (v := sl x.ns) rfl ?_; conv => whnf
  refine CallX.fj S.dj (num_ok (x := 1) (by omega) (by omega) fun b1 n1 c1 h8 e8 g1 d8 => ?_); conv => whnf
  have S := S.ext e8 d8
  have hx := hx.ext e8
  have b3 := e8 _ _ b3
  have b7 := e8 _ _ b7
  have b8 := e8 _ _ b8
  have hD := hD.ext e8
  have eI := eI.trans e8
  have eY := eY.trans e8
  have gT := gT.ext e8
  have gP := gP.ext e8
  have gL := gL.ext e8
  repeat (refine Ob.mk (by first | exact tx_from (join_l b3) | exact ldV_fld (join_l b7) hx.addr 0 rfl rfl | exact ldV_fld (join_l b7) hx.addr 1 rfl rfl | exact ldV_blk (join_hm S.dj S.chain) rfl | exact ldV_all (join_l b8) rfl | exact hcb S h1w) ?_; conv => whnf)
  refine CallX.fj S.dj (addN hx.nonce g1 (by rw [hxn]; omega) fun b2 n2 c2 h9 e9 g2 d9 => ?_); conv => whnf
  have S := S.ext e9 d9
  have hx := hx.ext e9
  have b3 := e9 _ _ b3
  have b7 := e9 _ _ b7
  have b8 := e9 _ _ b8
  have hD := hD.ext e9
  have eI := eI.trans e9
  have eY := eY.trans e9
  have gT := gT.ext e9
  have gP := gP.ext e9
  have gL := gL.ext e9
  repeat (refine Ob.mk (by first | exact tx_from (join_l b3) | exact ldV_fld (join_l b7) hx.addr 0 rfl rfl | exact ldV_fld (join_l b7) hx.addr 1 rfl rfl | exact ldV_blk (join_hm S.dj S.chain) rfl | exact ldV_all (join_l b8) rfl | exact hcb S h1w) ?_; conv => whnf)
  rw [hxn, Int.zero_add] at g2
  refine setNonceSt_ok S hN (by omega) (a := sndA) (sn := (b2, n2, c2)) rfl g2 (WK.of fun h9 hm1 s7 e9 S hN hW hs9 => ?_); conv => whnf
  obtain ⟨w9, hs9⟩ := hs9
  have hx := hx.ext e9
  have b3 := e9 _ _ b3
  have b7 := e9 _ _ b7
  have b8 := e9 _ _ b8
  have hD := hD.ext e9
  have eI := eI.trans e9
  have eY := eY.trans e9
  have gT := gT.ext e9
  have gP := gP.ext e9
  have gL := gL.ext e9
  have h1w := h1w.put hs9
  repeat (refine Ob.mk (by first | exact tx_from (join_l b3) | exact ldV_fld (join_l b7) hx.addr 0 rfl rfl | exact ldV_fld (join_l b7) hx.addr 1 rfl rfl | exact ldV_blk (join_hm S.dj S.chain) rfl | exact ldV_all (join_l b8) rfl | exact hcb S h1w) ?_; conv => whnf)
  refine DrawX.go T_ok hM Hval.func11 (tb := dr11) rfl (by kernel_rfl) ?_; conv => whnf
  refine LoadX.of _ (tx_from (join_l b3)) ?_; conv => whnf
  refine LoadX.fld (join_l b7) hx.addr 1 rfl (v := sl x.bs) rfl ?_; conv => whnf
  refine LoadX.blk (join_hm S.dj S.chain) (sl s7.limS) rfl ?_; conv => whnf
  refine LoadX.blk (join_hm S.dj S.chain) (sl s7.priceS) rfl ?_; conv => whnf
  refine CallX.fj S.dj (mulN (x := g) (y := 0) (by rw [h1w.limS]; exact gL) (by rw [h1w.priceS]; exact gP) (by omega) (by omega) fun bM nM cM h10 e10 g3 d10 => ?_); conv => whnf
  have S := S.ext e10 d10
  have hx := hx.ext e10
  have b3 := e10 _ _ b3
  have b7 := e10 _ _ b7
  have b8 := e10 _ _ b8
  have hD := hD.ext e10
  have eI := eI.trans e10
  have eY := eY.trans e10
  have gT := gT.ext e10
  have gP := gP.ext e10
  have gL := gL.ext e10
  repeat (refine Ob.mk (by first | exact tx_from (join_l b3) | exact ldV_fld (join_l b7) hx.addr 0 rfl rfl | exact ldV_fld (join_l b7) hx.addr 1 rfl rfl | exact ldV_blk (join_hm S.dj S.chain) rfl | exact ldV_all (join_l b8) rfl | exact hcb S h1w) ?_; conv => whnf)
  rw [Int.mul_zero] at g3
  refine CallX.fj S.dj (less_ok hx.bal g3 fun bB nB cB h11 e11 g4 d11 => ?_); conv => whnf
  have S := S.ext e11 d11
  have hx := hx.ext e11
  have b3 := e11 _ _ b3
  have b7 := e11 _ _ b7
  have b8 := e11 _ _ b8
  have hD := hD.ext e11
  have eI := eI.trans e11
  have eY := eY.trans e11
  have gT := gT.ext e11
  have gP := gP.ext e11
  have gL := gL.ext e11
  repeat (refine Ob.mk (by first | exact tx_from (join_l b3) | exact ldV_fld (join_l b7) hx.addr 0 rfl rfl | exact ldV_fld (join_l b7) hx.addr 1 rfl rfl | exact ldV_blk (join_hm S.dj S.chain) rfl | exact ldV_all (join_l b8) rfl | exact hcb S h1w) ?_; conv => whnf)
  rw [show lessI x.bal 0 = x.bal by have := hx.bal.val; unfold lessI; split <;> omega] at g4
  refine setBalSt_ok S hN (by omega) (a := sndA) (sn := (bB, nB, cB)) rfl g4 (WK.of fun h12 hm1 s8 e12 S hN hW8 hs8 => ?_); conv => whnf
  obtain ⟨w8, hs8⟩ := hs8
  have hx := hx.ext e12
  have b3 := e12 _ _ b3
  have b7 := e12 _ _ b7
  have b8 := e12 _ _ b8
  have hD := hD.ext e12
  have eI := eI.trans e12
  have eY := eY.trans e12
  have gT := gT.ext e12
  have gP := gP.ext e12
  have gL := gL.ext e12
  have h1w := h1w.put hs8
  repeat (refine Ob.mk (by first | exact tx_from (join_l b3) | exact ldV_fld (join_l b7) hx.addr 0 rfl rfl | exact ldV_fld (join_l b7) hx.addr 1 rfl rfl | exact ldV_blk (join_hm S.dj S.chain) rfl | exact ldV_all (join_l b8) rfl | exact hcb S h1w) ?_; conv => whnf)
  have hW : absW s8.w = nonceW (absW s6.w) sndA 1 := by
    rw [hW8, hW, show x.bal = ((nonceW (absW s6.w) sndA 1).acct sndA).bal by rw [hxb]; show _ = (updA _ _ _ _).bal; unfold updA; rw [if_pos rfl], balW_id]
  clear hW8
  refine DrawX.go T_ok hM Hval.func11 (tb := dr11) rfl (by kernel_rfl) ?_; conv => whnf
  refine LoadX.of _ (tx_from (join_l b3)) ?_; conv => whnf
  refine warmSt_ok S hN (by omega) (a := sndA) rfl (WK.of fun h9 hm1 s9 e9 S hN hW9 hs9 => ?_); conv => whnf
  obtain ⟨w9, hs9⟩ := hs9
  have hx := hx.ext e9
  have b3 := e9 _ _ b3
  have b7 := e9 _ _ b7
  have b8 := e9 _ _ b8
  have hD := hD.ext e9
  have eI := eI.trans e9
  have eY := eY.trans e9
  have gT := gT.ext e9
  have gP := gP.ext e9
  have gL := gL.ext e9
  have h1w := h1w.put hs9
  have hW := hW9.trans (congrArg (fun z => warmW z sndA) hW)
  clear hW9 hs9
  repeat (refine Ob.mk (by first | exact tx_from (join_l b3) | exact ldV_fld (join_l b7) hx.addr 0 rfl rfl | exact ldV_fld (join_l b7) hx.addr 1 rfl rfl | exact ldV_blk (join_hm S.dj S.chain) rfl | exact ldV_all (join_l b8) rfl | exact hcb S h1w) ?_; conv => whnf)
  refine DrawX.go T_ok hM Hval.func11 (tb := dr11) rfl (by kernel_rfl) ?_; conv => whnf
  refine LoadX.of _ (hcb S h1w) ?_; conv => whnf
  refine warmSt_ok S hN (by omega) (a := (adr 192)) rfl (WK.of fun h9 hm1 s9 e9 S hN hW9 hs9 => ?_); conv => whnf
  obtain ⟨w9, hs9⟩ := hs9
  have hx := hx.ext e9
  have b3 := e9 _ _ b3
  have b7 := e9 _ _ b7
  have b8 := e9 _ _ b8
  have hD := hD.ext e9
  have eI := eI.trans e9
  have eY := eY.trans e9
  have gT := gT.ext e9
  have gP := gP.ext e9
  have gL := gL.ext e9
  have h1w := h1w.put hs9
  have hW := hW9.trans (congrArg (fun z => warmW z (adr 192)) hW)
  clear hW9 hs9
  repeat (refine Ob.mk (by first | exact tx_from (join_l b3) | exact ldV_fld (join_l b7) hx.addr 0 rfl rfl | exact ldV_fld (join_l b7) hx.addr 1 rfl rfl | exact ldV_blk (join_hm S.dj S.chain) rfl | exact ldV_all (join_l b8) rfl | exact hcb S h1w) ?_; conv => whnf)
  refine DrawX.go T_ok hM Hval.func11 (tb := dr11) rfl (by kernel_rfl) ?_; conv => whnf
  refine LoadX.all (join_l b8) rfl ?_; conv => whnf
  refine warmSt_ok S hN (by omega) (a := (adr 1)) rfl (WK.of fun h9 hm1 s9 e9 S hN hW9 hs9 => ?_); conv => whnf
  obtain ⟨w9, hs9⟩ := hs9
  have hx := hx.ext e9
  have b3 := e9 _ _ b3
  have b7 := e9 _ _ b7
  have b8 := e9 _ _ b8
  have hD := hD.ext e9
  have eI := eI.trans e9
  have eY := eY.trans e9
  have gT := gT.ext e9
  have gP := gP.ext e9
  have gL := gL.ext e9
  have h1w := h1w.put hs9
  have hW := hW9.trans (congrArg (fun z => warmW z (adr 1)) hW)
  clear hW9 hs9
  repeat (refine Ob.mk (by first | exact tx_from (join_l b3) | exact ldV_fld (join_l b7) hx.addr 0 rfl rfl | exact ldV_fld (join_l b7) hx.addr 1 rfl rfl | exact ldV_blk (join_hm S.dj S.chain) rfl | exact ldV_all (join_l b8) rfl | exact hcb S h1w) ?_; conv => whnf)
  refine warmSt_ok S hN (by omega) (a := (adr 4)) rfl (WK.of fun h9 hm1 s9 e9 S hN hW9 hs9 => ?_); conv => whnf
  obtain ⟨w9, hs9⟩ := hs9
  have hx := hx.ext e9
  have b3 := e9 _ _ b3
  have b7 := e9 _ _ b7
  have b8 := e9 _ _ b8
  have hD := hD.ext e9
  have eI := eI.trans e9
  have eY := eY.trans e9
  have gT := gT.ext e9
  have gP := gP.ext e9
  have gL := gL.ext e9
  have h1w := h1w.put hs9
  have hW := hW9.trans (congrArg (fun z => warmW z (adr 4)) hW)
  clear hW9 hs9
  repeat (refine Ob.mk (by first | exact tx_from (join_l b3) | exact ldV_fld (join_l b7) hx.addr 0 rfl rfl | exact ldV_fld (join_l b7) hx.addr 1 rfl rfl | exact ldV_blk (join_hm S.dj S.chain) rfl | exact ldV_all (join_l b8) rfl | exact hcb S h1w) ?_; conv => whnf)
  refine warmSt_ok S hN (by omega) (a := (adr 5)) rfl (WK.of fun h9 hm1 s9 e9 S hN hW9 hs9 => ?_); conv => whnf
  obtain ⟨w9, hs9⟩ := hs9
  have hx := hx.ext e9
  have b3 := e9 _ _ b3
  have b7 := e9 _ _ b7
  have b8 := e9 _ _ b8
  have hD := hD.ext e9
  have eI := eI.trans e9
  have eY := eY.trans e9
  have gT := gT.ext e9
  have gP := gP.ext e9
  have gL := gL.ext e9
  have h1w := h1w.put hs9
  have hW := hW9.trans (congrArg (fun z => warmW z (adr 5)) hW)
  clear hW9 hs9
  repeat (refine Ob.mk (by first | exact tx_from (join_l b3) | exact ldV_fld (join_l b7) hx.addr 0 rfl rfl | exact ldV_fld (join_l b7) hx.addr 1 rfl rfl | exact ldV_blk (join_hm S.dj S.chain) rfl | exact ldV_all (join_l b8) rfl | exact hcb S h1w) ?_; conv => whnf)
  refine LoadX.blk (join_l b3) (sl nilS) rfl ?_; conv => whnf
  refine LoopX.st T_ok Hval.func11 (σ := Unit) (fun _ => [(3, .pointer (some ⟨m3, 0, none⟩)), (5, .pointer (some ⟨c, 0, none⟩)), (7, .pointer (some ⟨m7, 0, none⟩)), (8, .pointer (some ⟨m8, 0, none⟩)), (185, .int .i64 0), (186, .int .i64 0)])
      (fun _ h2 => h2 = join h9 hm1) (fun _ => 0) () ⟨rfl, rfl, rfl, rfl, rfl, rfl, trivial⟩ rfl ?_
  rintro _ ρ2 h2 rfl ih2
  conv => whnf
  repeat (first | (refine CondX.tt ?_; conv => whnf) | (refine CondX.ff ?_; conv => whnf))
  clear ih2
  refine S.put { s9 with retS := nilS } rfl (by decide) rfl rfl rfl (Byt_nil _) S.left fun hm1 S => ?_; conv => whnf
  obtain ⟨s10, hs10⟩ : ∃ s10 : YS, s10 = { s9 with retS := nilS } := ⟨_, rfl⟩
  have S : StOK h9 hm1 c tc s10 [] [] 0 := by rw [hs10]; exact S
  have h1w : KeepS s6 s10 := by rw [hs10]; exact ⟨h1w.frS, h1w.txS, h1w.priceS, h1w.limS, h1w.origin, h1w.made, h1w.env⟩
  have hN : s10.w.sz (100 + 1 + 1 + 1 + 1 + 1 + 1 + 1) := by rw [hs10]; exact hN
  have hW : absW s10.w = begW (absW s.w) := by rw [hs10, ← hw6]; exact hW
  obtain ⟨sx, hsx⟩ : ∃ sx, sx = sndA := ⟨_, rfl⟩
  obtain ⟨ax, hax⟩ : ∃ ax, ax = adr 1 := ⟨_, rfl⟩
  have hxs : sx.length = 20 := by rw [hsx]; rfl
  have hxa : ax.length = 20 := by rw [hax]; rfl
  have alen : (bcells ax).length = 20 := by rw [bcells_len, hxa]
  have slenx : (bcells sx).length = 20 := by rw [bcells_len, hxs]
  have hTF : ∀ {hq : Hp}, hq m3 = some (txC sD g, 40) → ldV true 20 hq m3 0 = some (.agg (bcells sx).toArray) := fun {hq} e => by rw [hsx]; exact tx_from e
  have b8 : h9 m8 = some (bcells ax, 31) := by rw [hax]; exact b8
  clear hcb
  refine DrawX.go T_ok hM Hval.func11 (tb := dr11) rfl (by kernel_rfl) ?_; conv => whnf
  refine LoadX.blk (join_hm S.dj S.chain) (sl s10.txS) rfl ?_; conv => whnf
  refine LoadX.all (join_l b8) alen ?_; conv => whnf
  refine LoadX.of _ (hTF (join_l b3)) ?_; conv => whnf
  repeat (refine Ob.mk (by first | decide | omega) ?_; conv => whnf)
  refine CallX.fj S.dj (fromBE_ok (tx_vbyt b3) fun bv nv cv h13 e13 gv d13 => ?_); conv => whnf
  have S := S.ext e13 d13
  have hx := hx.ext e13
  have b3 := e13 _ _ b3
  have b7 := e13 _ _ b7
  have b8 := e13 _ _ b8
  have hD := hD.ext e13
  have eI := eI.trans e13
  have eY := eY.trans e13
  have gT := gT.ext e13
  have gP := gP.ext e13
  have gL := gL.ext e13
  have gv : NtS h13 (bv, nv, cv) 0 := gv
  repeat (refine Ob.mk (by first | exact hTF (join_l b3) | exact ldV_blk (join_hm S.dj S.chain) rfl | exact ldV_all (join_l b8) alen) ?_; conv => whnf)
  obtain ⟨xT, hxT⟩ : ∃ xT : Sl, xT = s10.txS := ⟨_, rfl⟩
  have gX : NtS h13 xT (g - intr d) := by rw [hxT, h1w.txS]; exact gT
  rw [← hxT]
  erw [fillL_one (off := 0) (v := .int .u8 0) rfl rfl (by decide), fillL_one (off := 4) (v := sl xT) rfl rfl (Nat.le_of_ble_eq_true rfl), fillL_one (off := 5) (v := .slice bv nv cv) rfl rfl (Nat.le_of_ble_eq_true rfl), fillL_agg (off := 12) (n := 20) rfl alen (Nat.le_of_ble_eq_true rfl)]
  have hfill : setSeg (setSeg (setSeg (setSeg (setSeg z135 0 [Value.int IntKind.u8 0]) 4 [sl xT]) 5 [Value.slice bv nv cv]) 12 (bcells ax)) 32 (bcells sx) = fCells { chF 0 false (bv, nv, cv) 0 ax sx with gasS := xT, gas := g - intr d } :=
    frame_fill (H := [Value.int .u8 0, .int .u8 0, .bool false, sl nilS, sl xT, .slice bv nv cv, sl nilS, sl nilS, sl nilS, sl nilS, sl nilS, sl nilS]) rfl hxa hxs (R := z135.drop 12) rfl
  have hl32 : 32 + 20 ≤ (setSeg (setSeg (setSeg (setSeg z135 0 [Value.int IntKind.u8 0]) 4 [sl xT]) 5 [Value.slice bv nv cv]) 12 (bcells ax)).length := by
    rw [setSeg_length (by rw [alen]; exact Nat.le_of_ble_eq_true rfl)]
    exact Nat.le_of_ble_eq_true rfl
  erw [fillL_agg (off := 32) (n := 20) rfl slenx hl32, fillL_done, hfill]
  refine forceL_of (fok_fCells _) ?_; conv => whnf
  obtain ⟨ch, hch⟩ : ∃ ch : YF, ch = { chF 0 false (bv, nv, cv) 0 ax sx with gasS := xT, gas := g - intr d } := ⟨_, rfl⟩
  rw [← hch]
  have chok : ch.ok h13 := by
    have q := chF_ok (kind := 0) (static := false) gv hxa hxs
    rw [hch]; exact ⟨q.pc, gX, q.val, q.oo, q.ol, q.st, q.stE, q.stR, q.code, q.input, q.self, q.caller, q.saved⟩
  have chlen := fCells_len chok.self chok.caller
  refine BoxW.jm S.dj fun m17 q1 q2 d17 => ?_; conv => whnf
  refine Ob.mk ⟨by rw [List.size_toArray, chlen]; rfl, fCells_one ch⟩ ?_; conv => whnf
  refine StoreX.top d17 ([] ++ (fCells ch ++ [])) (by rw [setSeg_all (by rw [List.toList_toArray, chlen]; rfl)]; simp) (by rw [List.toList_toArray, chlen]; decide) fun d17 => ?_; conv => whnf
  have hc17 : c ≠ m17 := ne_get S.chain q2
  have hc0 : ∀ x, hput hm1 m17 x c = some (sCells s10, tc) := fun x => by rw [hput_ne hc17]; exact S.chain
  refine LoadX.blk (join_l b3) (.bool false) rfl ?_; conv => whnf
  repeat (first | (refine CondX.tt ?_; conv => whnf) | (refine CondX.ff ?_; conv => whnf))
  refine LoadX.all (join_l b8) alen ?_; conv => whnf
  refine natvAt_ok hxa ?_
  rw [show natK ax = 0 by rw [hax]; rfl]; conv => whnf
  refine StoreX.mid (pre := []) (post := []) (f := ch) d17 (hput_same ..) 1 (by decide) rfl ch (by rw [hch]; rfl) fun d18 => ?_; conv => whnf
  rw [hput_hput] at d18 ⊢
  refine LoadX.mid (pre := []) (post := []) (f := ch) (join_hm d18 (hput_same ..)) 1 (by decide) rfl (v := .int .u8 0) (by rw [hch]; rfl) ?_; conv => whnf
  repeat (first | (refine CondX.tt ?_; conv => whnf) | (refine CondX.ff ?_; conv => whnf))
  refine DrawX.go T_ok hM Hval.func11 (tb := dr11) rfl (by kernel_rfl) ?_; conv => whnf
  refine LoadX.all (join_l b8) alen ?_; conv => whnf
  refine account_ok (xs := s10.w.acc) (a := ax) (join_hm d18 (hc0 _)) (show (sCells s10)[0]? = some (sl s10.w.sA) from rfl) (S.now.acc.arr.ext (Ext.jl _ _)) (fun x hx => (S.now.acc.each x hx).addr) hxa (by have := hN.acc; have := S.now.acc.n; omega) ?_
  obtain ⟨y, hy⟩ : ∃ y, y = getA s10.w.acc ax := ⟨_, rfl⟩
  have hyo : y.ok h13 := by rw [hy]; exact getA_ok S.now.acc.each hxa
  rw [← hy]; conv => whnf
  erw [acCells_get hyo.addr 2]; conv => whnf
  repeat (refine Ob.mk (by exact ldV_all (join_l b8) alen) ?_; conv => whnf)
  refine CallX.fj d18 (bytesOf_any hyo.code fun bC cC h14 e14 gC d19 => ?_); conv => whnf
  have b8 := e14 _ _ b8
  have b3 := e14 _ _ b3
  have hD := hD.ext e14
  repeat (refine Ob.mk (by exact ldV_all (join_l b8) alen) ?_; conv => whnf)
  refine StoreX.mid (pre := []) (post := []) (f := ch) d19 (hput_same ..) 10 (by decide) rfl { ch with codeS := (bC, y.cs.2.1, cC), code := y.code } rfl fun d20 => ?_; conv => whnf
  rw [hput_hput] at d20 ⊢
  refine LoadX.blk (join_l b3) (sl sD) rfl ?_; conv => whnf
  refine CallX.fj d20 (bytesOf_any hD fun bI cI h15 e15 gI2 d21 => ?_); conv => whnf
  refine StoreX.mid (pre := []) (post := []) (f := { ch with codeS := (bC, y.cs.2.1, cC), code := y.code }) d21 (hput_same ..) 11 (by decide) rfl { ch with codeS := (bC, y.cs.2.1, cC), code := y.code, inS := (bI, sD.2.1, cI), input := d } rfl fun d22 => ?_; conv => whnf
  rw [hput_hput] at d22 ⊢
  have chok2 : ({ ch with codeS := (bC, y.cs.2.1, cC), code := y.code, inS := (bI, sD.2.1, cI), input := d } : YF).ok h15 := by
    have q := (chok.ext e14).ext e15
    exact ⟨q.pc, q.gas, q.val, q.oo, q.ol, q.st, q.stE, q.stR, gC.ext e15, gI2, q.self, q.caller, q.saved⟩
  obtain ⟨ch2, hch2⟩ : ∃ ch2 : YF, ch2 = { ch with codeS := (bC, y.cs.2.1, cC), code := y.code, inS := (bI, sD.2.1, cI), input := d } := ⟨_, rfl⟩
  rw [← hch2] at chok2 d22 ⊢
  have eF := e14.trans e15
  have S := (S.ext eF (d22.back2 q2)).more (Ext.new (x := ([] ++ (fCells ch2 ++ []), 135)) q2) d22
  refine S.putK { s10 with phase := 1 } rfl (by decide) rfl rfl rfl S.ret S.left fun hm2 S hkp => ?_; conv => whnf
  have b17 := hkp m17 _ hc17.symm (hput_same ..)
  have ch2len := fCells_len chok2.self chok2.caller
  refine LoadX.all (c := [] ++ (fCells ch2 ++ [])) (join_hm S.dj b17) (by rw [List.nil_append, List.append_nil, ch2len]; rfl) ?_; conv => whnf
  rw [List.nil_append, List.append_nil]
  refine enterSt_ok (f := ch2) (N := 107) S ⟨hN, fun q hq => by cases hq⟩ (by omega) (by simp) chok2 (by rw [hch2, hch]; rfl) (by rw [hch2, hch]; rfl) ?_
  intro hi' hm' s' frs' ret' left' r1 r2 r3 r4 r5
  conv => whnf
  refine RetX.same (hk hi' hm' s' frs' ret' left' (((eI.trans eF)).trans r1) r2 ⟨r3.now.mono (by omega), fun q hq => (r3.saved q hq).mono (by omega)⟩ (fun st lf => ?_) ⟨r5.env.trans (h1w.env.trans eE6), ?_, ?_, ?_, ?_⟩ (r5.origin.trans (h1w.origin.trans eO6)))
  · rw [r4]
    have hyc : y.code = ((absW s.w).acct (adr 1)).code := by
      rw [hy, hax]
      show ((absW s10.w).acct (adr 1)).code = _
      rw [hW]
      show (updA (absW s.w).acct sndA { (absW s.w).acct sndA with nonce := 1 } (adr 1)).code = _
      unfold updA
      rw [if_neg (by decide)]
    unfold begA begF enterA absS
    dsimp only
    rw [hW, hch2, hch, hyc, hax, hsx]
    rfl
  · rw [show s'.origin = sndA from r5.origin.trans (h1w.origin.trans eO6)]; rfl
  · rw [show s'.origin = sndA from r5.origin.trans (h1w.origin.trans eO6)]; exact isB_adr 240 (by decide) (by decide)
  · rw [show s'.made = z20 from r5.made.trans (h1w.made.trans eM6)]; rfl
  · rw [show s'.priceS = s6.priceS from r5.priceS.trans h1w.priceS]; exact (gP.ext eF).ext r1
end
end Go.Proofs.YgvalwGreat.X
