import Derived.Test.YgvalwGreatG16
set_option linter.unusedVariables false
set_option linter.unusedSimpArgs false
namespace Go.Proofs.YgvalwGreat.X
open Go

section
variable {hi hm : Hp} {K : Value → Hp → Prop} {c : Nat} {tc : TypeId} {s : YS} {base frs : List (YF × List Int)} {f : YF} {m ret : List Int} {left : Int} {N : Nat} {sa : Sl} {xs : List (Sl × Int)}

theorem rd_one {h : Hp} {m n : Nat} {v : List Value} {t : TypeId} (hb : h m = some (v, t)) (hv : v.length = n) : rd h (some ⟨m, 0, none⟩) (1 * n) = some v := by
  subst hv; simp [rd, hb, seg]
theorem BoxX.eq {h : Hp} {t : TypeId} {vs vs' : List Value} {KK : Nat → Hp → Prop} (e : vs = vs') (hb : BoxX h t vs' KK) : BoxX h t vs KK := e ▸ hb
theorem Arr.tail {h : Hp} {s : Sl} {xs : List (Sl × Int)} (a : Arr h s 1 (xs.map stCells)) {k : Nat} (hk : k ≤ s.2.1) : Arr h (bsh s.1 k s.2.2 1, s.2.1 - k, s.2.2 - k) 1 ((xs.drop k).map stCells) := by
  have hn : xs.length = s.2.1 := by have := a.len; simpa using this
  have hle := a.le
  refine ⟨?_, by simp; omega, fun e he => ?_, fun e he => ?_, by dsimp only; omega, fun h => ?_⟩
  · have := rd_bsh (m := s.2.2) (l := k) (k := s.2.1 - k) (sz := 1) a.rd (by omega) (fun e => by omega)
    simp only [Nat.mul_one] at this ⊢
    rw [this]
    have e1 : ∀ ys : List (Sl × Int), (ys.map stCells).flatten = ys.map fun q => sl q.1 := fun ys => by
      induction ys with
      | nil => rfl
      | cons y ys ih => simp [stCells, ih]
    rw [e1, e1]
    simp only [seg, ← List.map_drop, ← List.map_take]
    rw [List.take_of_length_le (by simp; omega)]
  · obtain ⟨q, -, rfl⟩ := List.mem_map.1 he; rfl
  · obtain ⟨q, -, rfl⟩ := List.mem_map.1 he; rfl
  · have := a.nil (bsh_nil h); dsimp only; omega
theorem stC_ld {h : Hp} {s : Sl} {xs : List (Sl × Int)} (ha : Arr h s 1 (xs.map stCells)) {i b1 off : Nat} (e1 : s.1 = some ⟨b1, off, none⟩) (hi : i < s.2.1) {o : Nat} (ho : o = off + i) : ldV false 1 h b1 o = some (sl (opdP xs i).1) := by
  subst ho
  have hn : xs.length = s.2.1 := by have := ha.len; simpa using this
  have hl := ha.get e1 (k := i) (by omega)
  rw [getD_map (by omega)] at hl
  have e2 : xs[i]'(by omega) = opdP xs i := by
    unfold opdP; rw [List.getD_eq_getElem?_getD, List.getElem?_eq_getElem (by omega)]; rfl
  rw [e2, Nat.mul_one] at hl
  unfold ldV at hl ⊢
  cases hx : h b1 with
  | none => simp [hx] at hl
  | some x =>
    obtain ⟨c, t'⟩ := x
    simp only [hx] at hl ⊢
    split at hl
    · rename_i hle
      simp only [Option.some.injEq, Value.agg.injEq] at hl
      have := congrArg Array.toList hl
      simp only [List.toList_toArray, stCells, seg] at this
      have h2 := congrArg (fun l => l[0]?) this
      simpa using h2
    · cases hl
set_option maxRecDepth 100000 in
set_option maxHeartbeats 4000000 in
theorem effect_log {o : Int} (ho : 160 ≤ o ∧ o ≤ 164) (hxl : 2 ≤ xs.length ∧ xs.length ≤ 6) (hlen : opdI xs 1 < 2 ^ 40) (S : StOK hi hm c tc s (base ++ [(f, m)]) ret left) (hN : StN N s (base ++ [(f, m)])) (hN30 : N + 3 < 2 ^ 30) (ha : Arr hi sa 1 (xs.map stCells)) (hxs : ∀ p ∈ xs, NtS hi p.1 p.2) (hr : sa.2.1 < 2 ^ 30) {fb : Nat} (hfb : at0 s.frS fb) (hW : ∀ p ∈ xs, p.2 < W)
    (hk : EK hi c tc s base f ret left N (effW (absW s.w) f.self o (opdI xs)) (effM (absW s.w) (absF (f, m)) ret o (opdI xs)) K) :
    CallX Hval.prog 136 [.pointer (some ⟨c, 0, none⟩), .pointer (some ⟨fb, (preC base).length, none⟩), .int .u8 o, sl sa] (join hi hm) K := by
  refine CallX.of_xf T_ok Hval.func136 rfl (by kernel_rfl) (Nat.le_of_ble_eq_true rfl) ?_; conv => whnf
  obtain ⟨fb', pad, tf, hfb', hb, hn1, hn2, hn3⟩ := S.top
  have : some (⟨fb', 0, none⟩ : Addr) = some ⟨fb, 0, none⟩ := hfb'.symm.trans hfb
  cases this
  have hok := S.okT
  have hd := S.dj
  have hc := S.chain
  have hcf : c ≠ fb := S.frC fb hfb
  have hwr := hN.now.room S.now (by omega)
  have hbj := join_hm hd hb
  have hcj := join_hm hd hc
  have oo : ∀ i, NtS hi (opdP xs i).1 (opdI xs i) := opdP_ok hxs
  refine operand_ok (ha.ext (Ext.jl _ _)) hr 0 (by decide) ?_; conv => whnf
  refine operand_ok (ha.ext (Ext.jl _ _)) hr 1 (by decide) ?_; conv => whnf
  refine operand_ok (ha.ext (Ext.jl _ _)) hr 2 (by decide) ?_; conv => whnf
  repeat (first | (refine CondX.tt ?_; conv => whnf) | (refine CondX.ff ?_; conv => whnf))
  repeat (refine CondX.eqF (by omega) ?_; conv => whnf)
  refine CondX.dT (by omega) ?_; conv => whnf
  repeat (first | (refine CondX.tt ?_; conv => whnf) | (refine CondX.ff ?_; conv => whnf))
  refine CondX.dT (by omega) ?_; conv => whnf
  have hself0 := ldV_self hbj hok.self hok.caller (o := (preC base).length + 12) rfl
  refine DrawX.go T_ok hM Hval.func136 (tb := dr136) rfl (by kernel_rfl) ?_; conv => whnf
  refine LoadX.of _ hself0 ?_; conv => whnf
  refine read_ok hd hb (S.memT.byt hd) (oo 0) (oo 1) hlen fun sD hi1 e1 hd1 g1 => ?_; conv => whnf
  have hself1 := ldV_self (join_hm hd1 hb) hok.self hok.caller (o := (preC base).length + 12) rfl
  repeat (refine Ob.mk (by first | exact hself1) ?_; conv => whnf)
  have g1 : BytS hi1 sD (cutN m (opdI xs 0).toNat (opdI xs 1).toNat) := g1
  have alenS : (bcells f.self).length = 20 := by rw [bcells_length, hok.self]
  erw [fillL_agg (off := 0) (n := 20) rfl alenS (Nat.le_of_ble_eq_true rfl)]
  have e20 : setSeg z286 0 (bcells f.self) = bcells f.self ++ z286.drop 20 := by simp [setSeg, alenS]
  rw [e20]
  erw [fillL_one (off := 21) (v := sl sD) rfl rfl (by rw [List.length_append, alenS]; exact Nat.le_of_ble_eq_true rfl), fillL_done]
  have e21 : setSeg (bcells f.self ++ z286.drop 20) 21 [sl sD] = bcells f.self ++ [sl nilS, sl sD] := by
    have := set_mid (pre := bcells f.self) (L := z286.drop 20) (post := []) (k := 1) (v := sl sD) (by decide)
    rw [alenS, List.append_nil, List.append_nil] at this
    exact this
  erw [e21]
  refine forceL_of (fok_app fok_bcells (fun v hv => by simp only [List.mem_cons, List.not_mem_nil, or_false] at hv; rcases hv with rfl | rfl <;> exact fun K hK => hK)) ?_; conv => whnf
  have c0len : (bcells f.self ++ [sl nilS, sl sD]).length = 22 := by rw [List.length_append, alenS]; rfl
  refine BoxW.jm hd1 fun m14 hin14 hmn14 hd14 => ?_; conv => whnf
  refine Ob.mk ⟨by rw [List.size_toArray, c0len]; rfl, by exact ones_append (ones_bcells _) rfl⟩ ?_; conv => whnf
  refine StoreX.top hd14 (bcells f.self ++ [sl nilS, sl sD]) (by rw [setSeg_all (by rw [List.toList_toArray, c0len]; rfl), List.toList_toArray]) (by rw [List.toList_toArray, c0len]; decide) fun hd2 => ?_; conv => whnf
  have hn : xs.length = sa.2.1 := by have := ha.len; simpa using this
  have ha2 : ∀ {hq : Hp}, Arr (join hi1 hq) sa 1 (xs.map stCells) := (ha.ext e1).ext (Ext.jl _ _)
  have hao := (ha2 (hq := hm))
  refine SlcX.gen hao.rd hao.nil hao.le 2 sa.2.1 sa.2.2 rfl rfl rfl (by omega) hao.le (Nat.le_refl _) (.inl rfl) ?_; conv => whnf
  refine LoopX.st T_ok Hval.func136 (σ := Nat × Hp × Sl × List (List Value)) (fun q => [(0, .pointer (some ⟨c, 0, none⟩)), (14, .pointer (some ⟨m14, 0, none⟩)), (150, .slice (bsh sa.1 2 sa.2.2 1) (sa.2.1 - 2) (sa.2.2 - 2)), (151, .int .i64 ((sa.2.1 - 2 : Nat) : Int)), (152, .int .i64 q.1)])
    (fun q h' => q.1 ≤ sa.2.1 - 2 ∧ h' = join hi1 q.2.1 ∧ Dj hi1 q.2.1 ∧ q.2.2.2.length = q.1 ∧ ArrM q.2.1 q.2.2.1 32 q.2.2.2 ∧ q.2.1 m14 = some (bcells f.self ++ [sl q.2.2.1, sl sD], 286) ∧ Ext hm q.2.1 ∧ ∀ fb, at0 q.2.2.1 fb → hm fb = none ∧ fb ≠ m14) (fun q => sa.2.1 - 2 - q.1) (0, hput hm m14 (bcells f.self ++ [sl nilS, sl sD], 286), nilS, [])
    ⟨rfl, rfl, rfl, rfl, rfl, trivial⟩ ⟨Nat.zero_le _, rfl, hd2, rfl, ⟨fun b x hb => (by cases hb), fun e he => (by cases he), fun e he => (by cases he), rfl, .inl ⟨rfl, rfl, rfl⟩⟩, hput_same .., Ext.new hmn14, fun fb h => (by cases h)⟩ ?_
  rintro ⟨k, hmk, sT, tps⟩ ρ h' ⟨hk1, rfl, hdk, htl, hAk, h14, hEk, hfr⟩ ih
  dsimp only at hk1 htl hAk h14 hEk hfr hdk
  conv => whnf
  refine CondX.decI (fun hlt => ?_) (fun hlt => ?_) <;> conv => whnf
  · have hlt : k < sa.2.1 - 2 := by omega
    have hat := (ha2 (hq := hmk)).tail (k := 2) (by omega)
    refine IdxX.arr hat (by omega) (by omega) (by dsimp only; omega) fun b1 off ee => ?_; conv => whnf
    refine LoadX.of (sl (opdP (xs.drop 2) k).1) (stC_ld hat ee (by dsimp only; omega) (by simp [show y106.size = 1 from rfl])) ?_; conv => whnf
    have ho2 : NtS hi1 (opdP (xs.drop 2) k).1 (opdI (xs.drop 2) k) := opdP_ok (fun p hp => (hxs p (List.mem_of_mem_drop hp)).ext e1) k
    have ho2W : opdI (xs.drop 2) k < W := opd_lt (fun p hp => hW p (List.mem_of_mem_drop hp)) k
    refine DrawX.go T_ok hM Hval.func136 (tb := dr136) rfl (by kernel_rfl) ?_; conv => whnf
    refine LoadX.fld (join_hm hdk h14) hok.self 0 rfl (v := sl sT) rfl ?_; conv => whnf
    refine ypword_ok (ho2.ext (Ext.jl _ _)) ho2W ?_; conv => whnf
    repeat (refine Ob.mk (by first | exact ldV_fld (join_hm hdk h14) hok.self 0 rfl rfl) ?_; conv => whnf)
    have vlen : (bcells (be 32 (opdI (xs.drop 2) k))).length = 32 := by rw [bcells_length, be_length]
    refine Ob.mk (by first | decide | omega) ?_; conv => whnf
    refine BoxX.eq (vs' := bcells (be 32 (opdI (xs.drop 2) k))) (setSeg_all (by erw [vlen])) ?_
    refine BoxX.jm hdk fun mv hinv hmnv hdv => ?_; conv => whnf
    have h14v := hput_old (y := (bcells (be 32 (opdI (xs.drop 2) k)), (33 : TypeId))) h14 hmnv
    have hfn : ∀ fb, sT.1 = some ⟨fb, 0, none⟩ → m14 ≠ fb := fun fb h => ((hfr fb h).2).symm
    have hAv : ArrM (hput hmk mv (bcells (be 32 (opdI (xs.drop 2) k)), 33)) sT 32 tps := hAk.mono fun fb x hs hb => hput_old hb hmnv
    have hTn : sT.2.1 = k := by have := hAk.len; omega
    repeat (refine Ob.mk (by first | exact ldV_fld (join_hm hdv h14v) hok.self 0 rfl rfl) ?_; conv => whnf)
    refine AppendX.mut (z := z33) (sz := 32) (bytes := 32) hdv hAv (rd_block (join_hm hdv (hput_same ..)) (by exact vlen)) vlen rfl (ones_bcells _) (by decide) (by omega) fun s9 hm9 hd9 hA9 hK9 => ?_; conv => whnf
    have h149 := hK9 m14 _ h14v hfn
    repeat (refine Ob.mk (by first | exact ldV_fld (join_hm hd9 h149.1) hok.self 0 rfl rfl) ?_; conv => whnf)
    refine StoreX.jm hd9 h149.1 (by rw [List.length_append, alenS]; exact Nat.le_of_ble_eq_true rfl) ?_; conv => whnf
    have eS : setSeg (bcells f.self ++ [sl sT, sl sD]) 20 [sl s9] = bcells f.self ++ [sl s9, sl sD] := by
      have := set_mid (pre := bcells f.self) (L := [sl sT, sl sD]) (post := []) (k := 0) (v := sl s9) (by simp)
      rw [alenS, List.append_nil, List.append_nil] at this
      exact this
    erw [eS]
    have hold : ∀ b y, hm b = some y → hm9 b = some y ∧ ∀ fb, s9.1 = some ⟨fb, 0, none⟩ → b ≠ fb := fun b y hb => hK9 b y (hput_old (hEk _ _ hb) hmnv) fun fb hs he => by
      have := (hfr fb hs).1
      rw [← he, hb] at this; cases this
    refine ih (k + 1, hput hm9 m14 (bcells f.self ++ [sl s9, sl sD], 286), s9, tps ++ [bcells (be 32 (opdI (xs.drop 2) k))]) _ _ ⟨by dsimp only; omega, rfl, hd9.put h149.1, by simp [htl], hA9.mono fun fb x hs hb => ?_, hput_same .., fun b y hb => ?_, fun fb hs => ⟨?_, (h149.2 fb hs).symm⟩⟩ (by dsimp only; omega) ⟨rfl, rfl, rfl, rfl, ?_, trivial⟩
    · show hput hm9 m14 _ fb = _
      rw [hput_ne (h149.2 fb hs).symm]; exact hb
    · show hput hm9 m14 _ b = _
      have hbm : b ≠ m14 := by rintro rfl; rw [hmn14] at hb; cases hb
      rw [hput_ne hbm]; exact (hold b y hb).1
    · cases hx : hm fb with
      | none => rfl
      | some y => exact absurd rfl ((hold fb y hx).2 fb hs)
    · exact congrArg (Value.int .i64) (wsucc (by omega))
  · have hkn : k = sa.2.1 - 2 := by omega
    obtain ⟨hi2, hm2, hj2, hd2', e2, gT, hk2⟩ := freezeM hdk hAk
    have h14n : hm2 m14 = some (bcells f.self ++ [sl sT, sl sD], 286) := hk2 m14 _ h14 fun h => (hfr m14 h).2 rfl
    have hE2 : Ext hm hm2 := fun b y hb => hk2 b y (hEk _ _ hb) fun h => by have := (hfr b h).1; rw [hb] at this; cases this
    have S2 : StOK hi2 hm2 c tc s (base ++ [(f, m)]) ret left := (S.ext (e1.trans e2) (hd2'.mono hE2)).more hE2 hd2'
    rw [show (k, hmk, sT, tps).2.1 = hmk from rfl, hj2]
    have hTn : sT.2.1 = k := by have := hAk.len; omega
    have hlg := hwr.logs
    refine DrawX.go T_ok hM Hval.func136 (tb := dr136) rfl (by kernel_rfl) ?_; conv => whnf
    refine LoadX.blk (join_hm hd2' S2.chain) (sl s.w.sL) rfl ?_; conv => whnf
    have c1len : (bcells f.self ++ [sl sT, sl sD]).length = 22 := by rw [List.length_append, alenS]; rfl
    refine LoadX.all (c := bcells f.self ++ [sl sT, sl sD]) (join_hm hd2' h14n) (by rw [c1len]; rfl) ?_; conv => whnf
    erw [fillL_box (v := bcells f.self ++ [sl sT, sl sD]) c1len rfl]; conv => whnf
    refine Ob.mk (by first | decide | omega) ?_; conv => whnf
    refine BoxX.jm hd2' fun mw hinw hmnw hdw => ?_; conv => whnf
    have S3 := S2.more (Ext.new (x := (bcells f.self ++ [sl sT, sl sD], 286)) hmnw) hdw
    have h14w := hput_old (y := (bcells f.self ++ [sl sT, sl sD], (286 : TypeId))) h14n hmnw
    have hld14 : ldV true 22 (join hi2 (hput hm2 mw (bcells f.self ++ [sl sT, sl sD], 286))) m14 0 = some (.agg (bcells f.self ++ [sl sT, sl sD]).toArray) := by
      obtain ⟨v, q1, q2⟩ := (LoadX.all (KK := fun v => v = .agg (bcells f.self ++ [sl sT, sl sD]).toArray) (join_hm hdw h14w) c1len rfl).run
      rw [q1, q2]
    repeat (refine Ob.mk (by first | exact ldV_blk (join_hm hdw S3.chain) rfl | exact hld14) ?_; conv => whnf)
    refine AppendX.lg (z := z286) (bytes := 72) S3 (rd_one (join_hm hdw (hput_same ..)) c1len) c1len rfl (ones_append (ones_bcells _) rfl) (by decide) (by omega) fun s9 hm9 hd9 hA9 hK9 => ?_; conv => whnf
    obtain ⟨x, hx⟩ : ∃ x : YLog, x = ⟨f.self, sT, sD, tps, cutN m (opdI xs 0).toNat (opdI xs 1).toNat⟩ := ⟨_, rfl⟩
    have hxc : logCells x = bcells f.self ++ [sl sT, sl sD] := by rw [hx]; rfl
    have hxok : x.ok hi2 := by rw [hx]; exact ⟨hok.self, gT, g1.ext e2, by show sT.2.1 < _; omega⟩
    rw [← hxc, ← List.map_singleton, ← List.map_append] at hA9
    have S4 := S3.setLog hxok hd9 hA9 hK9
    have hc9 := (hK9 c _ S3.chain fun lb hlb he => ?_).1
    rotate_left
    · subst he
      rcases S3.lg with h3 | ⟨-, h3⟩
      · have hr := h3.1.rd
        rw [hlb] at hr
        have := S3.dj.lft S3.chain
        simp [rd, this] at hr
      · exact (h3 c hlb).1 rfl
    repeat (refine Ob.mk (by first | exact ldV_blk (join_hm hd9 hc9) rfl) ?_; conv => whnf)
    refine StoreX.st hd9 hc9 4 (by decide) { s with w := { s.w with sL := s9, logs := s.w.logs ++ [x] } } rfl fun hd10 => ?_; conv => whnf
    have hM : effM (absW s.w) (absF (f, m)) ret o (opdI xs) = m := by
      unfold effM; rw [if_neg (by omega), if_neg (by omega), if_neg (by omega), if_neg (by omega), if_neg (by omega), if_neg (by omega), if_neg (by omega)]; rfl
    rw [hM] at hk
    refine RetX.same (hk hi2 _ { s.w with sL := s9, logs := s.w.logs ++ [x] } (e1.trans e2) S4 ?_ ?_)
    · have q := hN.now.mono (show N ≤ N + 2 by omega)
      exact ⟨q.acc, q.each, q.wa, q.ws, by have := hN.now.logs; simp; omega, q.temps, q.made, q.gone⟩
    · unfold effW
      rw [if_neg (by omega), if_neg (by omega), if_neg (by omega), if_pos ho]
      unfold absW
      simp
end
end Go.Proofs.YgvalwGreat.X
