import Derived.Test.YgvalwGreatF42
set_option linter.unusedVariables false
set_option linter.unusedSimpArgs false
namespace Go.Proofs.YgvalwGreat.X
open Go

/-- The bytes of a memory, in a block of the mutable part. -/
def MemB (hm : Hp) (s : Sl) (mem : List Int) : Prop :=
  isB mem ∧ mem.length < 2 ^ 40 ∧ ((s = nilS ∧ mem = []) ∨ ∃ mb, s = (some ⟨mb, 0, none⟩, mem.length, mem.length) ∧ hm mb = some (bcells mem, 5))
theorem MemB.byt {hi hm : Hp} (hd : Dj hi hm) {s : Sl} {mem : List Int} (a : MemB hm s mem) : BytS (join hi hm) s mem := by
  obtain ⟨h1, h2, ⟨rfl, rfl⟩ | ⟨mb, rfl, hb⟩⟩ := a
  · exact Byt_nil _
  · refine ⟨?_, h1, Nat.le_refl _, fun h => (by cases h), h2⟩
    exact rd_block (join_hm hd hb) rfl
theorem MemB.len {hm : Hp} {s : Sl} {mem : List Int} (a : MemB hm s mem) : s.2.1 = mem.length := by
  obtain ⟨h1, h2, ⟨rfl, rfl⟩ | ⟨mb, rfl, hb⟩⟩ := a <;> rfl
theorem isB_nil : isB [] := fun d hd => by cases hd

section
variable {hi hm : Hp} {K : Value → Hp → Prop}
set_option maxRecDepth 100000 in
set_option maxHeartbeats 4000000 in
theorem read_ok (hd : Dj hi hm) {b : Nat} {pre post : List Value} {f : YF} {t : TypeId} {so sn : Sl} {x y : Int} {mem : List Int} (hb : hm b = some (pre ++ (fCells f ++ post), t)) (hmem : BytS (join hi hm) f.memS mem) (hx : NtS hi so x) (hy : NtS hi sn y) (hyr : y < 2 ^ 40)
    (hk : ∀ s' hi', Ext hi hi' → Dj hi' hm → BytS hi' s' (cutN mem x.toNat y.toNat) → K (sl s') (join hi' hm)) :
    CallX Hval.prog 56 [.pointer (some ⟨b, pre.length, none⟩), sl so, sl sn] (join hi hm) K := by
  refine CallX.of_xf T_ok Hval.func56 rfl (by kernel_rfl) (Nat.le_of_ble_eq_true rfl) ?_; conv => whnf
  have hE := Ext.jl hi hm
  refine isZero_ok (hy.ext hE) ?_; conv => whnf
  refine CondX.decI (fun hc => ?_) (fun hc => ?_) <;> conv => whnf
  · have e : cutN mem x.toNat y.toNat = [] := by rw [hc]; simp [cutN]
    refine RetX.same (hk nilS _ (Ext.refl _) hd ?_)
    rw [e]; exact Byt_nil _
  · refine LoadX.mid (join_hm hd hb) 9 (by decide) rfl (v := sl f.memS) rfl ?_; conv => whnf
    refine cut_ok hmem (hx.ext hE) (hy.ext hE) hyr fun m hm' => ?_; conv => whnf
    obtain ⟨hin, hmn⟩ := join_none (hm'.none (Nat.le_refl _))
    rw [join_put]
    refine RetX.same (hk (some ⟨m, 0, none⟩, y.toNat, y.toNat) _ (Ext.new hin) (fun c => ?_) (own_all (isB_cutN hmem.isB _ _) (by rw [cutN_length]) (by rw [cutN_length]; omega)))
    by_cases hc : c = m
    · subst hc; exact .inr hmn
    · rw [hput_ne hc]; exact hd c

/-- Bytes laid in memory at a place; what stands past its end is not laid. -/
def writeI (mem : List Int) (x : Int) (l : List Int) : List Int := if x < mem.length then ovl mem x.toNat (l.take (mem.length - x.toNat)) else mem
theorem writeI_length {mem : List Int} {x : Int} {l : List Int} (h0 : 0 ≤ x) : (writeI mem x l).length = mem.length := by
  unfold writeI
  split
  · exact ovl_length (by simp; omega)
  · rfl
theorem isB_writeI {mem : List Int} {x : Int} {l : List Int} (h1 : isB mem) (h2 : isB l) : isB (writeI mem x l) := by
  unfold writeI
  split
  · exact h1.ovl (h2.take _) _
  · exact h1
set_option maxRecDepth 100000 in
set_option maxHeartbeats 4000000 in
theorem write_ok (hd : Dj hi hm) {b : Nat} {pre post : List Value} {f : YF} {t : TypeId} {so sb : Sl} {x : Int} {mem l : List Int} (hb : hm b = some (pre ++ (fCells f ++ post), t)) (hmem : MemB hm f.memS mem) (hx : NtS hi so x) (hl : BytS (join hi hm) sb l)
    (hk : ∀ hm', Dj hi hm' → MemB hm' f.memS (writeI mem x l) → (∀ c y, hm c = some y → (∀ mb, f.memS.1 = some ⟨mb, 0, none⟩ → c ≠ mb) → hm' c = some y) → K (.tuple #[]) (join hi hm')) :
    CallX Hval.prog 125 [.pointer (some ⟨b, pre.length, none⟩), sl so, sl sb] (join hi hm) K := by
  refine CallX.of_xf T_ok Hval.func125 rfl (by kernel_rfl) (Nat.le_of_ble_eq_true rfl) ?_; conv => whnf
  have hE := Ext.jl hi hm
  have hx0 := hx.val
  have hml := hmem.len
  have hmr := hmem.2.1
  refine LoadX.mid (join_hm hd hb) 9 (by decide) rfl (v := sl f.memS) rfl ?_; conv => whnf
  refine place_ok (hx.ext hE) (n := f.memS.2.1) (by omega) (fun hc => ?_) (fun hc => ?_) <;> conv => whnf
  · repeat (first | (refine CondX.tt ?_; conv => whnf) | (refine CondX.ff ?_; conv => whnf))
    have e : writeI mem x l = mem := by unfold writeI; rw [if_neg (by omega)]
    refine RetX.same (hk hm hd ?_ fun c y hc _ => hc)
    rw [e]; exact hmem
  · repeat (first | (refine CondX.tt ?_; conv => whnf) | (refine CondX.ff ?_; conv => whnf))
    refine LoadX.mid (join_hm hd hb) 9 (by decide) rfl (v := sl f.memS) rfl ?_; conv => whnf
    obtain ⟨h1, h2, ⟨e1, e2⟩ | ⟨mb, e1, hmb⟩⟩ := hmem
    · rw [e1] at hc; simp at hc; omega
    · have hself : hput (join hi hm) mb (bcells mem, 5) = join hi hm := hput_self (join_hm hd hmb)
      have hlm := hl.len
      rw [e1]
      refine SlcX.gen (h := join hi hm) (n := mem.length) (cs := bcells mem) (rd_block (join_hm hd hmb) rfl) (fun h => by cases h) (Nat.le_refl _) x.toNat mem.length mem.length (show x = _ by omega) rfl rfl (by omega) (Nat.le_refl _) (Nat.le_refl _) (.inl rfl) ?_; conv => whnf
      rw [← hself] at hl ⊢
      have hso : soff 0 x.toNat mem.length 1 = x.toNat := by unfold soff; split <;> omega
      have hbs : bsh (some ⟨mb, 0, none⟩) x.toNat mem.length 1 = some ⟨mb, x.toNat, none⟩ := by simp only [bsh, hso]
      erw [hbs]
      refine CopyX.bytes hl (by omega) ?_; conv => whnf
      have e3 : ovl mem x.toNat (l.take (Nat.min sb.2.1 (mem.length - x.toNat))) = writeI mem x l := by
        unfold writeI
        rw [if_pos (by omega)]
        congr 1
        rw [List.take_eq_take_iff]
        show min (min sb.2.1 (mem.length - x.toNat)) l.length = min (mem.length - x.toNat) l.length
        omega
      erw [e3]
      have hin : hi mb = none := hd.lft hmb
      rw [join_putm hin]
      refine RetX.same (hk _ (hd.newm hin) ⟨isB_writeI h1 hl.isB, by rw [writeI_length hx0]; exact h2, .inr ⟨mb, ?_, hput_same ..⟩⟩ fun c y hc hne => ?_)
      · rw [writeI_length hx0]; exact e1
      · rw [hput_ne (hne mb (by rw [e1]))]; exact hc

/-- Memory lengthened with zeros to so many words. -/
def growI (mem : List Int) (w : Nat) : List Int := if mem.length / 32 < w then mem ++ List.replicate (32 * w - mem.length) 0 else mem
set_option maxRecDepth 100000 in
set_option maxHeartbeats 4000000 in
theorem grow_ok (hd : Dj hi hm) {b : Nat} {pre post : List Value} {f : YF} {t : TypeId} {so : Sl} {x : Int} {mem : List Int} (hb : hm b = some (pre ++ (fCells f ++ post), t)) (hmem : MemB hm f.memS mem) (hx : NtS hi so x) (hxr : x < 2 ^ 36) (hmod : mem.length % 32 = 0)
    (hk : ∀ hm' f', Dj hi hm' → (∃ s, f' = { f with memS := s }) → hm' b = some (pre ++ (fCells f' ++ post), t) → MemB hm' f'.memS (growI mem ((x + 31) / 32).toNat) → (∀ mb, f'.memS.1 = some ⟨mb, 0, none⟩ → hm mb = none ∨ f.memS.1 = some ⟨mb, 0, none⟩) → (∀ c y, hm c = some y → c ≠ b → hm' c = some y) → K (.tuple #[]) (join hi hm')) :
    CallX Hval.prog 54 [.pointer (some ⟨b, pre.length, none⟩), sl so] (join hi hm) K := by
  refine CallX.of_xf T_ok Hval.func54 rfl (by kernel_rfl) (Nat.le_of_ble_eq_true rfl) ?_; conv => whnf
  have hx0 := hx.val
  have hml := hmem.len
  have hmr := hmem.2.1
  have hbg := big_lt
  have hE := Ext.jl hi hm
  refine CallX.fj hd (words_okN hx (by omega) fun b1 n1 c1 hi1 f1 g1 hd1 => ?_); conv => whnf
  refine small_ok (g1.ext (Ext.jl _ _)) ?_; conv => whnf
  rw [if_pos (by omega)]
  refine LoadX.mid (join_hm hd1 hb) 9 (by decide) rfl (v := sl f.memS) rfl ?_; conv => whnf
  refine Ob.mk (by first | decide | omega) ?_; conv => whnf
  have e1 : IntKind.u64.wrap (IntKind.i64.wrap (Int.tdiv (f.memS.2.1 : Int) 32)) = ((mem.length / 32 : Nat) : Int) := by
    rw [hml, show (32 : Int) = ((32 : Nat) : Int) by rfl, tdivN, wrap_i64 (by omega) (by omega), wrap_u64']; omega
  rw [e1]
  have hdrop : Ext (join hi hm) (join hi1 hm) := Ext.j2 f1 hd1 (Ext.refl _)
  refine CondX.decI (fun hc => ?_) (fun hc => ?_) <;> conv => whnf
  · have e2 : IntKind.u64.wrap (32 * ((x + 31) / 32)) = ((32 * ((x + 31) / 32).toNat : Nat) : Int) := by rw [wrap_u64']; omega
    rw [e2]
    refine MakeX.jm hd1 (32 * ((x + 31) / 32).toNat) rfl rfl (by decide) (show ((32 * ((x + 31) / 32).toNat : Nat) : Int) * 1 ≤ 2 ^ 47 by omega) fun m hin hmn hdm => ?_; conv => whnf
    have hbm : b ≠ m := ne_get hb hmn
    refine LoadX.mid (join_hm hdm (by rw [hput_ne hbm]; exact hb)) 9 (by decide) rfl (v := sl f.memS) rfl ?_; conv => whnf
    have hmem1 : BytS (join hi1 (hput hm m (bcells (List.replicate (32 * ((x + 31) / 32).toNat) 0), 5))) f.memS mem := by
      have := hmem.byt hd
      exact this.ext (Ext.j2 f1 (hd1.newm hin) (Ext.new hmn))
    have hz : zeros z5 (32 * ((x + 31) / 32).toNat) = bcells (List.replicate (32 * ((x + 31) / 32).toNat) 0) := zeros_bcells _
    erw [hz]
    rw [← join_putm hin] at hmem1 ⊢
    refine CopyX.bytes (o := 0) hmem1 (by simp) ?_; conv => whnf
    have e3 : ovl (List.replicate (32 * ((x + 31) / 32).toNat) 0) 0 (mem.take (Nat.min f.memS.2.1 ((32 * ((x + 31) / 32).toNat : Nat) : Int).toNat)) = growI mem ((x + 31) / 32).toNat := by
      unfold growI
      rw [if_pos (by omega), Int.toNat_natCast]
      have : Nat.min f.memS.2.1 (32 * ((x + 31) / 32).toNat) = mem.length := by
        show min f.memS.2.1 (32 * ((x + 31) / 32).toNat) = _
        omega
      rw [this, List.take_of_length_le (Nat.le_refl _)]
      unfold ovl
      simp
    erw [e3]
    have hgl : (growI mem ((x + 31) / 32).toNat).length = 32 * ((x + 31) / 32).toNat := by
      unfold growI; rw [if_pos (by omega)]; simp; omega
    have hgb : isB (growI mem ((x + 31) / 32).toNat) := by
      unfold growI; rw [if_pos (by omega)]
      exact fun d hd' => (List.mem_append.1 hd').elim (hmem.1 d) (isB_zeros _ d)
    rw [join_putm hin]
    have hdm2 : Dj hi1 (hput hm m (bcells (growI mem ((x + 31) / 32).toNat), 5)) := hd1.newm hin
    refine StoreX.mid (f := f) hdm2 (by rw [hput_ne hbm]; exact hb) 9 (by decide) rfl { f with memS := (some ⟨m, 0, none⟩, 32 * ((x + 31) / 32).toNat, 32 * ((x + 31) / 32).toNat) } rfl fun hdm3 => ?_; conv => whnf
    refine RetX.drop (h' := join hi (hput (hput hm m (bcells (growI mem ((x + 31) / 32).toNat), 5)) b _)) (Ext.j2 f1 hdm3 (Ext.refl _)) (hk _ { f with memS := (some ⟨m, 0, none⟩, 32 * ((x + 31) / 32).toNat, 32 * ((x + 31) / 32).toNat) } ?_ ⟨_, rfl⟩ (hput_same ..) ⟨hgb, by rw [hgl]; omega, .inr ⟨m, by rw [hgl], by rw [hput_ne hbm.symm]; exact hput_same ..⟩⟩ (fun mb hmb => ?_) fun c y hc hcb => ?_)
    · intro c
      have := hdm3 c
      rcases this with h1 | h1
      · refine .inl ?_
        cases hx : hi c with
        | none => rfl
        | some z => rw [f1 _ _ hx] at h1; cases h1
      · exact .inr h1
    · cases hmb; exact .inl hmn
    · rw [hput_ne hcb, hput_ne (ne_get hc hmn)]; exact hc
  · have e : growI mem ((x + 31) / 32).toNat = mem := by unfold growI; rw [if_neg (by omega)]
    refine RetX.drop hdrop (hk hm f hd ⟨f.memS, rfl⟩ hb (by rw [e]; exact hmem) (fun mb hmb => .inr hmb) fun c y hc _ => hc)
end
end Go.Proofs.YgvalwGreat.X
