import Derived.Test.YgvalwGreatF50
set_option linter.unusedVariables false
set_option linter.unusedSimpArgs false
namespace Go.Proofs.YgvalwGreat.X
open Go

theorem fCells_saved {f : YF} {w : YW} (h1 : f.self.length = 20) (h2 : f.caller.length = 20) : setSeg (fCells f) 52 w.cells = fCells { f with saved := w } := by
  have e : (bcells f.self).length = 20 := by rw [bcells_length, h1]
  have e2 : (bcells f.caller).length = 20 := by rw [bcells_length, h2]
  have hs : fCells f = ([Value.int .u8 f.kind, .int .u8 f.natv, .bool f.static, sl f.pcS, sl f.gasS, sl f.valS, sl f.ooS, sl f.olS, sl f.stS, sl f.memS, sl f.codeS, sl f.inS] ++ (bcells f.self ++ bcells f.caller)) ++ f.saved.cells := by simp [fCells]
  have hs' : fCells { f with saved := w } = ([Value.int .u8 f.kind, .int .u8 f.natv, .bool f.static, sl f.pcS, sl f.gasS, sl f.valS, sl f.ooS, sl f.olS, sl f.stS, sl f.memS, sl f.codeS, sl f.inS] ++ (bcells f.self ++ bcells f.caller)) ++ w.cells := by simp [fCells]
  rw [hs, hs']
  have hl : ([Value.int .u8 f.kind, .int .u8 f.natv, .bool f.static, sl f.pcS, sl f.gasS, sl f.valS, sl f.ooS, sl f.olS, sl f.stS, sl f.memS, sl f.codeS, sl f.inS] ++ (bcells f.self ++ bcells f.caller)).length = 52 := by simp [e, e2]
  generalize ([Value.int .u8 f.kind, .int .u8 f.natv, .bool f.static, sl f.pcS, sl f.gasS, sl f.valS, sl f.ooS, sl f.olS, sl f.stS, sl f.memS, sl f.codeS, sl f.inS] ++ (bcells f.self ++ bcells f.caller)) = L at *
  simp only [setSeg]
  rw [← hl, List.take_left, ← List.drop_drop, List.drop_left]
  have : f.saved.cells.drop w.cells.length = [] := rfl
  rw [this, List.append_nil]
theorem fCells_one (f : YF) : ones (fCells f) = true := ones_append rfl (ones_append (ones_bcells _) (ones_append (ones_bcells _) rfl))
def nilW : YW := ⟨nilS, nilS, nilS, nilS, nilS, nilS, nilS, nilS, [], [], [], 0, [], [], [], []⟩

/-- What enter does to the world: a creation's account has its nonce and is marked as made. -/
structure EntR (hi' : Hp) (w w' : YW) (create : Bool) (self : List Int) : Prop where
  acc : AccL hi' w'.sA w'.acc
  made : Adrs hi' w'.sM w'.made
  eq : ∃ sA acc sM made, w' = { w with sA := sA, acc := acc, sM := sM, made := made }
  keep : create = false → w' = w
  put : create = true → ∃ s1, PutR w.acc (withNonce (getA w.acc self) s1 1) (lone (withNonce (getA w.acc self) s1 1)) w'.acc
  mem : create = true → (∀ b, b ∈ w'.made ↔ b ∈ w.made ∨ b = self) ∧ w'.made.length ≤ w.made.length + 1

theorem ArrM.mono {hm hm' : Hp} {s : Sl} {sz : Nat} {es} (a : ArrM hm s sz es) (h : ∀ fb x, s.1 = some ⟨fb, 0, none⟩ → hm fb = some x → hm' fb = some x) : ArrM hm' s sz es := by
  refine ⟨fun b x hb => (by cases hb), a.szs, a.one, a.len, ?_⟩
  rcases a.blk with h1 | ⟨m, pad, t, h1, h2, h3, h4⟩
  · exact .inl h1
  · exact .inr ⟨m, pad, t, h1, rfl, h m _ h1 h3, h4⟩

section
variable {hi hm : Hp} {K : Value → Hp → Prop}

set_option maxRecDepth 100000 in
set_option maxHeartbeats 4000000 in
theorem enter_ok (hd : Dj hi hm) {c : Nat} {tc : TypeId} {s : YS} {frs : List YF} {f : YF} (hc : hm c = some (sCells s, tc)) (hw : s.w.ok hi (join hi hm)) (hwr : s.w.room) (hfr : ArrM hm s.frS 60 (frs.map fCells)) (hcf : ∀ fb, s.frS.1 = some ⟨fb, 0, none⟩ → c ≠ fb) (hfn : frs.length ≤ 100)
    (hok : f.ok hi) (hval : f.val = 0)
    (hk : ∀ hi' hm' s' f' wc, Ext hi hi' → Dj hi' hm' → f' = { f with saved := wc } → wc.okC hi' → s.w.same wc → hm' c = some (sCells s', tc) → (∃ fs, s' = { s with w := s'.w, frS := fs, retS := nilS }) → EntR hi' s.w s'.w (crK f.kind) f.self →
      ArrM hm' s'.frS 60 ((frs ++ [f']).map fCells) → (∀ fb, s'.frS.1 = some ⟨fb, 0, none⟩ → c ≠ fb) → (∀ b y, hm b = some y → b ≠ c → (∀ fb, s.frS.1 = some ⟨fb, 0, none⟩ → b ≠ fb) → hm' b = some y ∧ ∀ fb, s'.frS.1 = some ⟨fb, 0, none⟩ → b ≠ fb) → K (.tuple #[]) (join hi' hm')) :
    CallX Hval.prog 43 [.pointer (some ⟨c, 0, none⟩), .agg (fCells f).toArray] (join hi hm) K := by
  refine CallX.of_xf T_ok Hval.func43 rfl (by kernel_rfl) (Nat.le_of_ble_eq_true rfl) ?_; conv => whnf
  have flen := fCells_len hok.self hok.caller
  refine BoxX.jm hd fun m3 hin3 hmn3 hd3 => ?_; conv => whnf
  have hc3 : ∀ x, hput hm m3 x c = some (sCells s, tc) := fun x => hput_old hc hmn3
  refine clone_ok hd3 (hc3 _) (sCells_w s) (hw.lg (Ext.jmono hd3 (Ext.new hmn3))) hwr fun hi1 wc e1 hd1 hwc hsame => ?_; conv => whnf
  refine Ob.mk ⟨rfl, rfl⟩ ?_; conv => whnf
  refine StoreX.top hd1 (fCells { f with saved := wc }) (fCells_saved hok.self hok.caller) (by rw [List.toList_toArray, flen]; exact Nat.le_of_ble_eq_true rfl) fun hd4 => ?_; conv => whnf
  have h3 : hput hm m3 (fCells { f with saved := wc }, 135) m3 = some (fCells { f with saved := wc }, 135) := hput_same ..
  have hcX := hc3 (fCells { f with saved := wc }, 135)
  have hc3n : c ≠ m3 := ne_get hc hmn3
  have f2len : (fCells { f with saved := wc }).length = 60 := fCells_len hok.self hok.caller
  refine LoadX.blk (join_hm hd4 h3) (.int .u8 f.kind) rfl ?_; conv => whnf
  refine creates_ok ?_; conv => whnf
  refine CondX.mk (fun hcr => ?_) (fun hcr => ?_) <;> conv => whnf
  · have hb4 : ∀ {h' H}, Dj h' H → H m3 = some (fCells { f with saved := wc }, 135) → join h' H m3 = some ([] ++ (fCells { f with saved := wc } ++ []), 135) := fun hdd hh => by rw [List.append_nil]; exact join_hm hdd hh
    refine DrawX.go T_ok hM Hval.func43 (tb := dr43) rfl (by kernel_rfl) ?_; conv => whnf
    refine LoadX.of _ (ldV_self (hb4 hd4 h3) hok.self hok.caller rfl) ?_; conv => whnf
    refine CallX.fj hd4 (num_ok (by omega) (by omega) fun b2 n2 c2 hi2 e2 g2 hd5 => ?_); conv => whnf
    refine Ob.mk (ldV_self (hb4 hd5 h3) hok.self hok.caller rfl) ?_; conv => whnf
    have eA := e1.trans e2
    refine setNonce_ok (o := 0) (sn := (b2, n2, c2)) (n := 1) (xs := s.w.acc) hd5 hcX (show (sCells s)[0]? = some (sl s.w.sA) from rfl) (hw.acc.ext eA) hok.self g2 hwr.acc fun hi3 sA3 ys e3 hd6 hA3 hP3 => ?_; conv => whnf
    have hset : setSeg (sCells s) 0 [sl sA3] = sCells { s with w := { s.w with sA := sA3, acc := ys } } := (sCells_set (by decide)).trans rfl
    rw [hset] at hd6 ⊢
    have h36 : hput (hput hm m3 (fCells { f with saved := wc }, 135)) c (sCells { s with w := { s.w with sA := sA3, acc := ys } }, tc) m3 = some (fCells { f with saved := wc }, 135) := by rw [hput_ne hc3n.symm]; exact h3
    refine DrawX.go T_ok hM Hval.func43 (tb := dr43) rfl (by kernel_rfl) ?_; conv => whnf
    refine LoadX.blk (join_hm hd6 (hput_same ..)) (sl s.w.sM) rfl ?_; conv => whnf
    refine LoadX.of _ (ldV_self (hb4 hd6 h36) hok.self hok.caller rfl) ?_; conv => whnf
    refine CallX.fj hd6 (withAddr_ok ((hw.made.ext eA).ext e3) hok.self hwr.made fun sM4 az4 hi4 e4 gM4 hM4 hMl hd7 => ?_); conv => whnf
    refine StoreX.st (s := { s with w := { s.w with sA := sA3, acc := ys } }) hd7 (hput_same ..) 6 (by decide) { s with w := { s.w with sA := sA3, acc := ys, sM := sM4, made := az4 } } rfl fun hd8' => ?_; conv => whnf
    rw [hput_hput] at hd8' ⊢
    have eX : Ext hi hi4 := (eA.trans e3).trans e4
    have eX1 : Ext hi1 hi4 := (e2.trans e3).trans e4
    have hAX : AccL hi4 sA3 ys := hA3.ext e4
    have hrX : sA3.2.1 < 2 ^ 40 := by have h1 := hA3.n; have h2 := hP3.len; have h3 := hw.acc.n; have := hwr.acc; omega
    have hfS : ({ s with w := { s.w with sA := sA3, acc := ys, sM := sM4, made := az4 } } : YS).frS = s.frS := rfl
    have hSe : ({ s with w := { s.w with sA := sA3, acc := ys, sM := sM4, made := az4 } } : YS) = { s with w := { s.w with sA := sA3, acc := ys, sM := sM4, made := az4 } } := rfl
    have h3 : hput (hput hm m3 (fCells { f with saved := wc }, 135)) c (sCells { s with w := { s.w with sA := sA3, acc := ys, sM := sM4, made := az4 } }, tc) m3 = some (fCells { f with saved := wc }, 135) := by rw [hput_ne hc3n.symm]; exact hput_same ..
    have hcX : hput (hput hm m3 (fCells { f with saved := wc }, 135)) c (sCells { s with w := { s.w with sA := sA3, acc := ys, sM := sM4, made := az4 } }, tc) c = some (sCells { s with w := { s.w with sA := sA3, acc := ys, sM := sM4, made := az4 } }, tc) := hput_same ..
    have hfrX : ArrM (hput (hput hm m3 (fCells { f with saved := wc }, 135)) c (sCells { s with w := { s.w with sA := sA3, acc := ys, sM := sM4, made := az4 } }, tc)) s.frS 60 (frs.map fCells) := hfr.mono fun fb x hs hb => by
      rw [hput_ne (fun e => hcf fb hs e.symm)]; exact hput_old hb hmn3
    have hHM : ∀ b y, hm b = some y → b ≠ c → hput (hput hm m3 (fCells { f with saved := wc }, 135)) c (sCells { s with w := { s.w with sA := sA3, acc := ys, sM := sM4, made := az4 } }, tc) b = some y := fun b y hb hbc => by rw [hput_ne hbc]; exact hput_old hb hmn3
    have hEnt : ∀ {h'}, Ext hi4 h' → EntR h' s.w { s.w with sA := sA3, acc := ys, sM := sM4, made := az4 } (crK f.kind) f.self := fun he => ⟨hAX.ext he, gM4.ext he, ⟨sA3, ys, sM4, az4, rfl⟩, fun h => absurd (h.symm.trans hcr) (by decide), fun _ => ⟨(b2, n2, c2), hP3⟩, fun _ => ⟨hM4, hMl⟩⟩
    refine LoadX.blk (join_hm hd8' h3) (.int .u8 f.kind) rfl ?_; conv => whnf
    have mv : ∀ {KK : Value → Hp → Prop}, KK (.tuple #[]) (join hi4 (hput (hput hm m3 (fCells { f with saved := wc }, 135)) c (sCells { s with w := { s.w with sA := sA3, acc := ys, sM := sM4, made := az4 } }, tc))) → CallX Hval.prog 103 [.pointer (some ⟨c, 0, none⟩), .agg (bcells f.caller).toArray, .agg (bcells f.self).toArray, sl f.valS] (join hi4 (hput (hput hm m3 (fCells { f with saved := wc }, 135)) c (sCells { s with w := { s.w with sA := sA3, acc := ys, sM := sM4, made := az4 } }, tc))) KK := fun {KK} hKK =>
      move0_ok (xs := ({ s with w := { s.w with sA := sA3, acc := ys, sM := sM4, made := az4 } } : YS).w.acc) (join_hm hd8' hcX) (show (sCells ({ s with w := { s.w with sA := sA3, acc := ys, sM := sM4, made := az4 } } : YS))[0]? = some (sl ({ s with w := { s.w with sA := sA3, acc := ys, sM := sM4, made := az4 } } : YS).w.sA) from rfl) (hAX.ext (Ext.jl _ _)) hok.caller hok.self hrX ((hok.val.ext eX).ext (Ext.jl _ _) |> fun h => by rw [hval] at h; exact h) hKK
    have hb3 : join hi4 (hput (hput hm m3 (fCells { f with saved := wc }, 135)) c (sCells { s with w := { s.w with sA := sA3, acc := ys, sM := sM4, made := az4 } }, tc)) m3 = some ([] ++ (fCells { f with saved := wc } ++ []), 135) := by rw [List.append_nil]; exact join_hm hd8' h3
    by_cases hk3 : f.kind = 3
    · refine CondX.neI (fun h => absurd hk3 h) (fun _ => ?_); conv => whnf
      repeat (first | (refine CondX.tt ?_; conv => whnf) | (refine CondX.ff ?_; conv => whnf))
      refine StoreX.st hd8' hcX 10 (by decide) { ({ s with w := { s.w with sA := sA3, acc := ys, sM := sM4, made := az4 } } : YS) with retS := nilS } rfl fun hdE => ?_; conv => whnf
      have h3E : hput (hput (hput hm m3 (fCells { f with saved := wc }, 135)) c (sCells { s with w := { s.w with sA := sA3, acc := ys, sM := sM4, made := az4 } }, tc)) c (sCells { ({ s with w := { s.w with sA := sA3, acc := ys, sM := sM4, made := az4 } } : YS) with retS := nilS }, tc) m3 = some (fCells { f with saved := wc }, 135) := by rw [hput_ne hc3n.symm]; exact h3
      refine DrawX.go T_ok hM Hval.func43 (tb := dr43) rfl (by kernel_rfl) ?_; conv => whnf
      refine LoadX.blk (join_hm hdE (hput_same ..)) (sl ({ s with w := { s.w with sA := sA3, acc := ys, sM := sM4, made := az4 } } : YS).frS) rfl ?_; conv => whnf
      refine LoadX.all (c := fCells { f with saved := wc }) (join_hm hdE h3E) (by rw [f2len]; rfl) ?_; conv => whnf
      erw [fillL_box (v := fCells { f with saved := wc }) f2len rfl]; conv => whnf
      refine Ob.mk (by first | decide | omega) ?_; conv => whnf
      refine BoxX.j hdE fun m8 hin8 hmn8 hd8 he8 => ?_; conv => whnf
      have hfrE : ArrM (hput (hput (hput hm m3 (fCells { f with saved := wc }, 135)) c (sCells { s with w := { s.w with sA := sA3, acc := ys, sM := sM4, made := az4 } }, tc)) c (sCells { ({ s with w := { s.w with sA := sA3, acc := ys, sM := sM4, made := az4 } } : YS) with retS := nilS }, tc)) ({ s with w := { s.w with sA := sA3, acc := ys, sM := sM4, made := az4 } } : YS).frS 60 (frs.map fCells) := hfrX.mono fun fb x hs hb => by
        rw [hput_ne (fun e => hcf fb (hfS ▸ hs) e.symm)]; exact hb
      refine Ob.mk (ldV_blk (join_hm hd8 (hput_same ..)) rfl) ?_; conv => whnf
      refine AppendX.mut (z := z135) (sz := 60) (bytes := 456) hd8 hfrE (rd_ext (Ext.jl _ _) (rd_own (v := fCells { f with saved := wc }) f2len)) f2len rfl (fCells_one _) (by decide) (by have := hfr.len; simp only [List.length_map] at this; rw [hfS]; omega) fun s9 hmF hdF hArr hKeep => ?_; conv => whnf
      have hKc := hKeep c _ (hput_same ..) (fun fb hs => hcf fb (hfS ▸ hs))
      refine StoreX.st (s := { ({ s with w := { s.w with sA := sA3, acc := ys, sM := sM4, made := az4 } } : YS) with retS := nilS }) hdF hKc.1 9 (by decide) { ({ s with w := { s.w with sA := sA3, acc := ys, sM := sM4, made := az4 } } : YS) with retS := nilS, frS := s9 } rfl fun hdG => ?_; conv => whnf
      have eG := eX.trans he8
      refine RetX.same (hk _ _ { ({ s with w := { s.w with sA := sA3, acc := ys, sM := sM4, made := az4 } } : YS) with retS := nilS, frS := s9 } { f with saved := wc } wc eG hdG rfl ⟨(hwc.1.up (eX1.trans he8)).lg (eX1.trans he8), hwc.2⟩ hsame (hput_same ..) ⟨s9, by rw [hSe]⟩ (hEnt he8) (ArrM.mono (by simpa using hArr) fun fb x hs hb => ?_) (fun fb hs => hKc.2 fb hs) fun b y hb hbc hbf => ?_)
      · rw [hput_ne (fun e => hKc.2 fb hs e.symm)]; exact hb
      · have q := hKeep b y (by rw [hput_ne hbc]; exact hHM b y hb hbc) (fun fb hs => hbf fb (hfS ▸ hs))
        exact ⟨by rw [hput_ne hbc]; exact q.1, q.2⟩
    · refine CondX.neI (fun _ => ?_) (fun h => absurd h hk3); conv => whnf
      repeat (first | (refine CondX.tt ?_; conv => whnf) | (refine CondX.ff ?_; conv => whnf))
      refine LoadX.blk (join_hm hd8' h3) (.int .u8 f.kind) rfl ?_; conv => whnf
      repeat (first | (refine CondX.tt ?_; conv => whnf) | (refine CondX.ff ?_; conv => whnf))
      by_cases hk7 : f.kind = 7
      · refine CondX.neI (fun h => absurd hk7 h) (fun _ => ?_); conv => whnf
        repeat (first | (refine CondX.tt ?_; conv => whnf) | (refine CondX.ff ?_; conv => whnf))
        refine StoreX.st hd8' hcX 10 (by decide) { ({ s with w := { s.w with sA := sA3, acc := ys, sM := sM4, made := az4 } } : YS) with retS := nilS } rfl fun hdE => ?_; conv => whnf
        have h3E : hput (hput (hput hm m3 (fCells { f with saved := wc }, 135)) c (sCells { s with w := { s.w with sA := sA3, acc := ys, sM := sM4, made := az4 } }, tc)) c (sCells { ({ s with w := { s.w with sA := sA3, acc := ys, sM := sM4, made := az4 } } : YS) with retS := nilS }, tc) m3 = some (fCells { f with saved := wc }, 135) := by rw [hput_ne hc3n.symm]; exact h3
        refine DrawX.go T_ok hM Hval.func43 (tb := dr43) rfl (by kernel_rfl) ?_; conv => whnf
        refine LoadX.blk (join_hm hdE (hput_same ..)) (sl ({ s with w := { s.w with sA := sA3, acc := ys, sM := sM4, made := az4 } } : YS).frS) rfl ?_; conv => whnf
        refine LoadX.all (c := fCells { f with saved := wc }) (join_hm hdE h3E) (by rw [f2len]; rfl) ?_; conv => whnf
        erw [fillL_box (v := fCells { f with saved := wc }) f2len rfl]; conv => whnf
        refine Ob.mk (by first | decide | omega) ?_; conv => whnf
        refine BoxX.j hdE fun m8 hin8 hmn8 hd8 he8 => ?_; conv => whnf
        have hfrE : ArrM (hput (hput (hput hm m3 (fCells { f with saved := wc }, 135)) c (sCells { s with w := { s.w with sA := sA3, acc := ys, sM := sM4, made := az4 } }, tc)) c (sCells { ({ s with w := { s.w with sA := sA3, acc := ys, sM := sM4, made := az4 } } : YS) with retS := nilS }, tc)) ({ s with w := { s.w with sA := sA3, acc := ys, sM := sM4, made := az4 } } : YS).frS 60 (frs.map fCells) := hfrX.mono fun fb x hs hb => by
          rw [hput_ne (fun e => hcf fb (hfS ▸ hs) e.symm)]; exact hb
        refine Ob.mk (ldV_blk (join_hm hd8 (hput_same ..)) rfl) ?_; conv => whnf
        refine AppendX.mut (z := z135) (sz := 60) (bytes := 456) hd8 hfrE (rd_ext (Ext.jl _ _) (rd_own (v := fCells { f with saved := wc }) f2len)) f2len rfl (fCells_one _) (by decide) (by have := hfr.len; simp only [List.length_map] at this; rw [hfS]; omega) fun s9 hmF hdF hArr hKeep => ?_; conv => whnf
        have hKc := hKeep c _ (hput_same ..) (fun fb hs => hcf fb (hfS ▸ hs))
        refine StoreX.st (s := { ({ s with w := { s.w with sA := sA3, acc := ys, sM := sM4, made := az4 } } : YS) with retS := nilS }) hdF hKc.1 9 (by decide) { ({ s with w := { s.w with sA := sA3, acc := ys, sM := sM4, made := az4 } } : YS) with retS := nilS, frS := s9 } rfl fun hdG => ?_; conv => whnf
        have eG := eX.trans he8
        refine RetX.same (hk _ _ { ({ s with w := { s.w with sA := sA3, acc := ys, sM := sM4, made := az4 } } : YS) with retS := nilS, frS := s9 } { f with saved := wc } wc eG hdG rfl ⟨(hwc.1.up (eX1.trans he8)).lg (eX1.trans he8), hwc.2⟩ hsame (hput_same ..) ⟨s9, by rw [hSe]⟩ (hEnt he8) (ArrM.mono (by simpa using hArr) fun fb x hs hb => ?_) (fun fb hs => hKc.2 fb hs) fun b y hb hbc hbf => ?_)
        · rw [hput_ne (fun e => hKc.2 fb hs e.symm)]; exact hb
        · have q := hKeep b y (by rw [hput_ne hbc]; exact hHM b y hb hbc) (fun fb hs => hbf fb (hfS ▸ hs))
          exact ⟨by rw [hput_ne hbc]; exact q.1, q.2⟩
      · refine CondX.neI (fun _ => ?_) (fun h => absurd h hk7); conv => whnf
        repeat (first | (refine CondX.tt ?_; conv => whnf) | (refine CondX.ff ?_; conv => whnf))
        refine DrawX.go T_ok hM Hval.func43 (tb := dr43) rfl (by kernel_rfl) ?_; conv => whnf
        refine LoadX.of _ (ldV_caller hb3 hok.self hok.caller rfl) ?_; conv => whnf
        refine LoadX.of _ (ldV_self hb3 hok.self hok.caller rfl) ?_; conv => whnf
        refine LoadX.blk (join_hm hd8' h3) (sl f.valS) rfl ?_; conv => whnf
        refine mv ?_; conv => whnf
        refine StoreX.st hd8' hcX 10 (by decide) { ({ s with w := { s.w with sA := sA3, acc := ys, sM := sM4, made := az4 } } : YS) with retS := nilS } rfl fun hdE => ?_; conv => whnf
        have h3E : hput (hput (hput hm m3 (fCells { f with saved := wc }, 135)) c (sCells { s with w := { s.w with sA := sA3, acc := ys, sM := sM4, made := az4 } }, tc)) c (sCells { ({ s with w := { s.w with sA := sA3, acc := ys, sM := sM4, made := az4 } } : YS) with retS := nilS }, tc) m3 = some (fCells { f with saved := wc }, 135) := by rw [hput_ne hc3n.symm]; exact h3
        refine DrawX.go T_ok hM Hval.func43 (tb := dr43) rfl (by kernel_rfl) ?_; conv => whnf
        refine LoadX.blk (join_hm hdE (hput_same ..)) (sl ({ s with w := { s.w with sA := sA3, acc := ys, sM := sM4, made := az4 } } : YS).frS) rfl ?_; conv => whnf
        refine LoadX.all (c := fCells { f with saved := wc }) (join_hm hdE h3E) (by rw [f2len]; rfl) ?_; conv => whnf
        erw [fillL_box (v := fCells { f with saved := wc }) f2len rfl]; conv => whnf
        refine Ob.mk (by first | decide | omega) ?_; conv => whnf
        refine BoxX.j hdE fun m8 hin8 hmn8 hd8 he8 => ?_; conv => whnf
        have hfrE : ArrM (hput (hput (hput hm m3 (fCells { f with saved := wc }, 135)) c (sCells { s with w := { s.w with sA := sA3, acc := ys, sM := sM4, made := az4 } }, tc)) c (sCells { ({ s with w := { s.w with sA := sA3, acc := ys, sM := sM4, made := az4 } } : YS) with retS := nilS }, tc)) ({ s with w := { s.w with sA := sA3, acc := ys, sM := sM4, made := az4 } } : YS).frS 60 (frs.map fCells) := hfrX.mono fun fb x hs hb => by
          rw [hput_ne (fun e => hcf fb (hfS ▸ hs) e.symm)]; exact hb
        refine Ob.mk (ldV_blk (join_hm hd8 (hput_same ..)) rfl) ?_; conv => whnf
        refine AppendX.mut (z := z135) (sz := 60) (bytes := 456) hd8 hfrE (rd_ext (Ext.jl _ _) (rd_own (v := fCells { f with saved := wc }) f2len)) f2len rfl (fCells_one _) (by decide) (by have := hfr.len; simp only [List.length_map] at this; rw [hfS]; omega) fun s9 hmF hdF hArr hKeep => ?_; conv => whnf
        have hKc := hKeep c _ (hput_same ..) (fun fb hs => hcf fb (hfS ▸ hs))
        refine StoreX.st (s := { ({ s with w := { s.w with sA := sA3, acc := ys, sM := sM4, made := az4 } } : YS) with retS := nilS }) hdF hKc.1 9 (by decide) { ({ s with w := { s.w with sA := sA3, acc := ys, sM := sM4, made := az4 } } : YS) with retS := nilS, frS := s9 } rfl fun hdG => ?_; conv => whnf
        have eG := eX.trans he8
        refine RetX.same (hk _ _ { ({ s with w := { s.w with sA := sA3, acc := ys, sM := sM4, made := az4 } } : YS) with retS := nilS, frS := s9 } { f with saved := wc } wc eG hdG rfl ⟨(hwc.1.up (eX1.trans he8)).lg (eX1.trans he8), hwc.2⟩ hsame (hput_same ..) ⟨s9, by rw [hSe]⟩ (hEnt he8) (ArrM.mono (by simpa using hArr) fun fb x hs hb => ?_) (fun fb hs => hKc.2 fb hs) fun b y hb hbc hbf => ?_)
        · rw [hput_ne (fun e => hKc.2 fb hs e.symm)]; exact hb
        · have q := hKeep b y (by rw [hput_ne hbc]; exact hHM b y hb hbc) (fun fb hs => hbf fb (hfS ▸ hs))
          exact ⟨by rw [hput_ne hbc]; exact q.1, q.2⟩
  · have eX := e1
    have eX1 : Ext hi1 hi1 := Ext.refl _
    have hAX : AccL hi1 s.w.sA s.w.acc := hw.acc.ext e1
    have hrX : s.w.sA.2.1 < 2 ^ 40 := by have := hwr.acc; omega
    have hfS : s.frS = s.frS := rfl
    have hSe : s = { s with w := s.w } := rfl
    have hfrX : ArrM (hput hm m3 (fCells { f with saved := wc }, 135)) s.frS 60 (frs.map fCells) := hfr.mono fun fb x hs hb => hput_old hb hmn3
    have hHM : ∀ b y, hm b = some y → b ≠ c → hput hm m3 (fCells { f with saved := wc }, 135) b = some y := fun b y hb _ => hput_old hb hmn3
    have hEnt : ∀ {h'}, Ext hi1 h' → EntR h' s.w s.w (crK f.kind) f.self := fun he => ⟨hAX.ext he, (hw.made.ext e1).ext he, ⟨s.w.sA, s.w.acc, s.w.sM, s.w.made, rfl⟩, fun _ => rfl, fun h => absurd (h.symm.trans hcr) (by decide), fun h => absurd (h.symm.trans hcr) (by decide)⟩
    refine LoadX.blk (join_hm hd4 h3) (.int .u8 f.kind) rfl ?_; conv => whnf
    have mv : ∀ {KK : Value → Hp → Prop}, KK (.tuple #[]) (join hi1 (hput hm m3 (fCells { f with saved := wc }, 135))) → CallX Hval.prog 103 [.pointer (some ⟨c, 0, none⟩), .agg (bcells f.caller).toArray, .agg (bcells f.self).toArray, sl f.valS] (join hi1 (hput hm m3 (fCells { f with saved := wc }, 135))) KK := fun {KK} hKK =>
      move0_ok (xs := s.w.acc) (join_hm hd4 hcX) (show (sCells s)[0]? = some (sl s.w.sA) from rfl) (hAX.ext (Ext.jl _ _)) hok.caller hok.self hrX ((hok.val.ext eX).ext (Ext.jl _ _) |> fun h => by rw [hval] at h; exact h) hKK
    have hb3 : join hi1 (hput hm m3 (fCells { f with saved := wc }, 135)) m3 = some ([] ++ (fCells { f with saved := wc } ++ []), 135) := by rw [List.append_nil]; exact join_hm hd4 h3
    by_cases hk3 : f.kind = 3
    · refine CondX.neI (fun h => absurd hk3 h) (fun _ => ?_); conv => whnf
      repeat (first | (refine CondX.tt ?_; conv => whnf) | (refine CondX.ff ?_; conv => whnf))
      refine StoreX.st hd4 hcX 10 (by decide) { s with retS := nilS } rfl fun hdE => ?_; conv => whnf
      have h3E : hput (hput hm m3 (fCells { f with saved := wc }, 135)) c (sCells { s with retS := nilS }, tc) m3 = some (fCells { f with saved := wc }, 135) := by rw [hput_ne hc3n.symm]; exact h3
      refine DrawX.go T_ok hM Hval.func43 (tb := dr43) rfl (by kernel_rfl) ?_; conv => whnf
      refine LoadX.blk (join_hm hdE (hput_same ..)) (sl s.frS) rfl ?_; conv => whnf
      refine LoadX.all (c := fCells { f with saved := wc }) (join_hm hdE h3E) (by rw [f2len]; rfl) ?_; conv => whnf
      erw [fillL_box (v := fCells { f with saved := wc }) f2len rfl]; conv => whnf
      refine Ob.mk (by first | decide | omega) ?_; conv => whnf
      refine BoxX.j hdE fun m8 hin8 hmn8 hd8 he8 => ?_; conv => whnf
      have hfrE : ArrM (hput (hput hm m3 (fCells { f with saved := wc }, 135)) c (sCells { s with retS := nilS }, tc)) s.frS 60 (frs.map fCells) := hfrX.mono fun fb x hs hb => by
        rw [hput_ne (fun e => hcf fb (hfS ▸ hs) e.symm)]; exact hb
      refine Ob.mk (ldV_blk (join_hm hd8 (hput_same ..)) rfl) ?_; conv => whnf
      refine AppendX.mut (z := z135) (sz := 60) (bytes := 456) hd8 hfrE (rd_ext (Ext.jl _ _) (rd_own (v := fCells { f with saved := wc }) f2len)) f2len rfl (fCells_one _) (by decide) (by have := hfr.len; simp only [List.length_map] at this; rw [hfS]; omega) fun s9 hmF hdF hArr hKeep => ?_; conv => whnf
      have hKc := hKeep c _ (hput_same ..) (fun fb hs => hcf fb (hfS ▸ hs))
      refine StoreX.st (s := { s with retS := nilS }) hdF hKc.1 9 (by decide) { s with retS := nilS, frS := s9 } rfl fun hdG => ?_; conv => whnf
      have eG := eX.trans he8
      refine RetX.same (hk _ _ { s with retS := nilS, frS := s9 } { f with saved := wc } wc eG hdG rfl ⟨(hwc.1.up (eX1.trans he8)).lg (eX1.trans he8), hwc.2⟩ hsame (hput_same ..) ⟨s9, by rw [hSe]⟩ (hEnt he8) (ArrM.mono (by simpa using hArr) fun fb x hs hb => ?_) (fun fb hs => hKc.2 fb hs) fun b y hb hbc hbf => ?_)
      · rw [hput_ne (fun e => hKc.2 fb hs e.symm)]; exact hb
      · have q := hKeep b y (by rw [hput_ne hbc]; exact hHM b y hb hbc) (fun fb hs => hbf fb (hfS ▸ hs))
        exact ⟨by rw [hput_ne hbc]; exact q.1, q.2⟩
    · refine CondX.neI (fun _ => ?_) (fun h => absurd h hk3); conv => whnf
      repeat (first | (refine CondX.tt ?_; conv => whnf) | (refine CondX.ff ?_; conv => whnf))
      refine LoadX.blk (join_hm hd4 h3) (.int .u8 f.kind) rfl ?_; conv => whnf
      repeat (first | (refine CondX.tt ?_; conv => whnf) | (refine CondX.ff ?_; conv => whnf))
      by_cases hk7 : f.kind = 7
      · refine CondX.neI (fun h => absurd hk7 h) (fun _ => ?_); conv => whnf
        repeat (first | (refine CondX.tt ?_; conv => whnf) | (refine CondX.ff ?_; conv => whnf))
        refine StoreX.st hd4 hcX 10 (by decide) { s with retS := nilS } rfl fun hdE => ?_; conv => whnf
        have h3E : hput (hput hm m3 (fCells { f with saved := wc }, 135)) c (sCells { s with retS := nilS }, tc) m3 = some (fCells { f with saved := wc }, 135) := by rw [hput_ne hc3n.symm]; exact h3
        refine DrawX.go T_ok hM Hval.func43 (tb := dr43) rfl (by kernel_rfl) ?_; conv => whnf
        refine LoadX.blk (join_hm hdE (hput_same ..)) (sl s.frS) rfl ?_; conv => whnf
        refine LoadX.all (c := fCells { f with saved := wc }) (join_hm hdE h3E) (by rw [f2len]; rfl) ?_; conv => whnf
        erw [fillL_box (v := fCells { f with saved := wc }) f2len rfl]; conv => whnf
        refine Ob.mk (by first | decide | omega) ?_; conv => whnf
        refine BoxX.j hdE fun m8 hin8 hmn8 hd8 he8 => ?_; conv => whnf
        have hfrE : ArrM (hput (hput hm m3 (fCells { f with saved := wc }, 135)) c (sCells { s with retS := nilS }, tc)) s.frS 60 (frs.map fCells) := hfrX.mono fun fb x hs hb => by
          rw [hput_ne (fun e => hcf fb (hfS ▸ hs) e.symm)]; exact hb
        refine Ob.mk (ldV_blk (join_hm hd8 (hput_same ..)) rfl) ?_; conv => whnf
        refine AppendX.mut (z := z135) (sz := 60) (bytes := 456) hd8 hfrE (rd_ext (Ext.jl _ _) (rd_own (v := fCells { f with saved := wc }) f2len)) f2len rfl (fCells_one _) (by decide) (by have := hfr.len; simp only [List.length_map] at this; rw [hfS]; omega) fun s9 hmF hdF hArr hKeep => ?_; conv => whnf
        have hKc := hKeep c _ (hput_same ..) (fun fb hs => hcf fb (hfS ▸ hs))
        refine StoreX.st (s := { s with retS := nilS }) hdF hKc.1 9 (by decide) { s with retS := nilS, frS := s9 } rfl fun hdG => ?_; conv => whnf
        have eG := eX.trans he8
        refine RetX.same (hk _ _ { s with retS := nilS, frS := s9 } { f with saved := wc } wc eG hdG rfl ⟨(hwc.1.up (eX1.trans he8)).lg (eX1.trans he8), hwc.2⟩ hsame (hput_same ..) ⟨s9, by rw [hSe]⟩ (hEnt he8) (ArrM.mono (by simpa using hArr) fun fb x hs hb => ?_) (fun fb hs => hKc.2 fb hs) fun b y hb hbc hbf => ?_)
        · rw [hput_ne (fun e => hKc.2 fb hs e.symm)]; exact hb
        · have q := hKeep b y (by rw [hput_ne hbc]; exact hHM b y hb hbc) (fun fb hs => hbf fb (hfS ▸ hs))
          exact ⟨by rw [hput_ne hbc]; exact q.1, q.2⟩
      · refine CondX.neI (fun _ => ?_) (fun h => absurd h hk7); conv => whnf
        repeat (first | (refine CondX.tt ?_; conv => whnf) | (refine CondX.ff ?_; conv => whnf))
        refine DrawX.go T_ok hM Hval.func43 (tb := dr43) rfl (by kernel_rfl) ?_; conv => whnf
        refine LoadX.of _ (ldV_caller hb3 hok.self hok.caller rfl) ?_; conv => whnf
        refine LoadX.of _ (ldV_self hb3 hok.self hok.caller rfl) ?_; conv => whnf
        refine LoadX.blk (join_hm hd4 h3) (sl f.valS) rfl ?_; conv => whnf
        refine mv ?_; conv => whnf
        refine StoreX.st hd4 hcX 10 (by decide) { s with retS := nilS } rfl fun hdE => ?_; conv => whnf
        have h3E : hput (hput hm m3 (fCells { f with saved := wc }, 135)) c (sCells { s with retS := nilS }, tc) m3 = some (fCells { f with saved := wc }, 135) := by rw [hput_ne hc3n.symm]; exact h3
        refine DrawX.go T_ok hM Hval.func43 (tb := dr43) rfl (by kernel_rfl) ?_; conv => whnf
        refine LoadX.blk (join_hm hdE (hput_same ..)) (sl s.frS) rfl ?_; conv => whnf
        refine LoadX.all (c := fCells { f with saved := wc }) (join_hm hdE h3E) (by rw [f2len]; rfl) ?_; conv => whnf
        erw [fillL_box (v := fCells { f with saved := wc }) f2len rfl]; conv => whnf
        refine Ob.mk (by first | decide | omega) ?_; conv => whnf
        refine BoxX.j hdE fun m8 hin8 hmn8 hd8 he8 => ?_; conv => whnf
        have hfrE : ArrM (hput (hput hm m3 (fCells { f with saved := wc }, 135)) c (sCells { s with retS := nilS }, tc)) s.frS 60 (frs.map fCells) := hfrX.mono fun fb x hs hb => by
          rw [hput_ne (fun e => hcf fb (hfS ▸ hs) e.symm)]; exact hb
        refine Ob.mk (ldV_blk (join_hm hd8 (hput_same ..)) rfl) ?_; conv => whnf
        refine AppendX.mut (z := z135) (sz := 60) (bytes := 456) hd8 hfrE (rd_ext (Ext.jl _ _) (rd_own (v := fCells { f with saved := wc }) f2len)) f2len rfl (fCells_one _) (by decide) (by have := hfr.len; simp only [List.length_map] at this; rw [hfS]; omega) fun s9 hmF hdF hArr hKeep => ?_; conv => whnf
        have hKc := hKeep c _ (hput_same ..) (fun fb hs => hcf fb (hfS ▸ hs))
        refine StoreX.st (s := { s with retS := nilS }) hdF hKc.1 9 (by decide) { s with retS := nilS, frS := s9 } rfl fun hdG => ?_; conv => whnf
        have eG := eX.trans he8
        refine RetX.same (hk _ _ { s with retS := nilS, frS := s9 } { f with saved := wc } wc eG hdG rfl ⟨(hwc.1.up (eX1.trans he8)).lg (eX1.trans he8), hwc.2⟩ hsame (hput_same ..) ⟨s9, by rw [hSe]⟩ (hEnt he8) (ArrM.mono (by simpa using hArr) fun fb x hs hb => ?_) (fun fb hs => hKc.2 fb hs) fun b y hb hbc hbf => ?_)
        · rw [hput_ne (fun e => hKc.2 fb hs e.symm)]; exact hb
        · have q := hKeep b y (by rw [hput_ne hbc]; exact hHM b y hb hbc) (fun fb hs => hbf fb (hfS ▸ hs))
          exact ⟨by rw [hput_ne hbc]; exact q.1, q.2⟩
end
end Go.Proofs.YgvalwGreat.X
