import Derived.Test.YgvalwGreatF2
set_option linter.unusedVariables false
set_option linter.unusedSimpArgs false
namespace Go.Proofs.YgvalwGreat.X
open Go

/-- A number of the specification. -/
def Nt (h : Hp) (base : Option Addr) (len cap : Nat) (x : Int) : Prop := ∃ l, Byt h base len cap l ∧ dv l = x ∧ Tr l

theorem Nt.ext {h h' : Hp} (he : Ext h h') {base : Option Addr} {len cap : Nat} {x : Int} (hn : Nt h base len cap x) : Nt h' base len cap x := by
  obtain ⟨l, hb, e1, e2⟩ := hn
  exact ⟨l, hb.ext he, e1, e2⟩

theorem Tr_nil : Tr [] := by simp [Tr]
theorem Byt_nil (h : Hp) : Byt h none 0 0 [] := ⟨rfl, (fun d hd => by cases hd), Nat.le_refl _, fun _ => rfl, by decide⟩
theorem Nt_nil (h : Hp) : Nt h none 0 0 0 := ⟨[], Byt_nil h, rfl, Tr_nil⟩

theorem zeros_bcells (n : Nat) : zeros z5 n = bcells (List.replicate n 0) := by
  induction n with
  | zero => rfl
  | succ n ih =>
    simp only [zeros, List.replicate_succ, List.flatten_cons, bcells, List.map_cons] at ih ⊢
    rw [ih]; rfl

theorem bcells_length (l : List Int) : (bcells l).length = l.length := by simp [bcells]

theorem own_pre {h : Hp} {m : Nat} {l : List Int} {t : TypeId} (hb : isB l) {n c : Nat} (hn : n ≤ l.length) (hc : n ≤ c) (hr : l.length < 2 ^ 40) : Byt (hput h m (bcells l, t)) (some ⟨m, 0, none⟩) n c (l.take n) := by
  refine ⟨?_, hb.take n, hc, (fun hc => by cases hc), by omega⟩
  rw [rd_same (by simp [bcells]; exact hn)]
  simp [seg, bcells, List.map_take]

theorem own_all {h : Hp} {m : Nat} {l : List Int} {t : TypeId} (hb : isB l) {n : Nat} (hn : n = l.length) (hr : l.length < 2 ^ 40) : Byt (hput h m (bcells l, t)) (some ⟨m, 0, none⟩) n n l := by
  subst hn
  have := own_pre (h := h) (m := m) (t := t) hb (Nat.le_refl _) (Nat.le_refl _) hr
  simpa using this

theorem isB_zeros (n : Nat) : isB (List.replicate n 0) := fun d hd => by
  have := List.eq_of_mem_replicate hd; omega

theorem setSeg_bcells {l : List Int} {o : Nat} (d : Int) (ho : o < l.length) : setSeg (bcells l) o [.int .u8 d] = bcells (l.set o d) := by
  simp only [setSeg, bcells]
  rw [List.set_eq_take_append_cons_drop]
  simp [ho, List.map_take, List.map_drop]

theorem isB.set {l : List Int} (hb : isB l) {o : Nat} {d : Int} (h0 : 0 ≤ d) (h1 : d < 256) : isB (l.set o d) := fun x hx => by
  rcases List.mem_or_eq_of_mem_set hx with h2 | h2
  · exact hb x h2
  · subst h2; exact ⟨h0, h1⟩

/-- A store of a byte in a block of one's own. -/
theorem StoreX.byte {h : Hp} {m : Nat} {l : List Int} {t : TypeId} {o : Nat} {d : Int} {KK : Hp → Prop} (o' : Nat) (he : o = o') (ho : o' < l.length) (hk : KK (hput h m (bcells (l.set o' d), t))) :
    StoreX (hput h m (bcells l, t)) m o [.int .u8 d] KK := by
  subst he
  refine StoreX.same (by simp [bcells]; omega) ?_
  rw [setSeg_bcells d ho]; exact hk

theorem MakeX.bytes {h : Hp} {len : Int} {KK : Nat → Hp → Prop} (n : Nat) (hl : len = n) (hr : n < 2 ^ 40) (hk : ∀ b, Bd h b → KK b (hput h b (bcells (List.replicate n 0), 5))) : MakeX h 5 z5 1 len len KK := by
  subst hl
  refine ⟨by decide, by omega, by omega, by omega, fun b hb => ?_⟩
  rw [Int.toNat_natCast, zeros_bcells]; exact hk b hb

theorem ones_bcells (l : List Int) : ones (bcells l) = true := by
  induction l with
  | nil => rfl
  | cons d l ih => simpa [bcells, ones] using ih

/-- The bytes overlaid from a place on. -/
def ovl (l : List Int) (o : Nat) (s : List Int) : List Int := l.take o ++ s ++ l.drop (o + s.length)

theorem setSeg_ovl (l : List Int) (o : Nat) (s : List Int) : setSeg (bcells l) o (bcells s) = bcells (ovl l o s) := by
  simp [setSeg, bcells, ovl, List.map_take, List.map_drop]

theorem isB.ovl {l s : List Int} (hl : isB l) (hs : isB s) (o : Nat) : isB (ovl l o s) := fun d hd => by
  simp only [X.ovl, List.mem_append] at hd
  rcases hd with (hd | hd) | hd
  · exact hl d (List.mem_of_mem_take hd)
  · exact hs d hd
  · exact hl d (List.mem_of_mem_drop hd)

theorem ovl_length {l s : List Int} {o : Nat} (ho : o + s.length ≤ l.length) : (ovl l o s).length = l.length := by
  simp [ovl]; omega

theorem ovl_all {l s : List Int} (h : l.length = s.length) : ovl l 0 s = s := by simp [ovl, h]

theorem CopyX.bytes {h : Hp} {m : Nat} {l ls : List Int} {t : TypeId} {o dl xl xc : Nat} {xb : Option Addr} {KK : Value → Hp → Prop} (hs : Byt (hput h m (bcells l, t)) xb xl xc ls) (hd : o + dl ≤ l.length)
    (hk : KK (.int .i64 (Nat.min xl dl : Nat)) (hput h m (bcells (ovl l o (ls.take (Nat.min xl dl))), t))) : CopyX (hput h m (bcells l, t)) 1 (some ⟨m, o, none⟩) dl xb xl KK := by
  have hp := hs.pre (k := Nat.min xl dl) (m := xl) (Nat.min_le_left ..) (Nat.min_le_left ..) hs.le
  have hlen := hp.len
  refine ⟨_, by simpa using hp.rd, bcells l, t, hput_same .., ?_, ones_bcells _, ?_⟩
  · rw [bcells_length, bcells_length, hlen]
    have : Nat.min xl dl ≤ dl := Nat.min_le_right ..
    omega
  · rw [hput_hput, setSeg_ovl]; exact hk

set_option maxRecDepth 100000 in
theorem norm_ok {h : Hp} {K : Value → Hp → Prop} {base : Option Addr} {len cap : Nat} {l : List Int} (hb : Byt h base len cap l)
    (hk : ∀ b n c h', Ext h h' → Nt h' b n c (dv l) → K (.slice b n c) h') : CallX Hval.prog 88 [.slice base len cap] h K := by
  refine CallX.of_xf T_ok Hval.func88 rfl (by kernel_rfl) (Nat.le_of_ble_eq_true rfl) ?_; conv => whnf
  refine trim_ok hb fun k l' hkl hl' hb' hdv htr => ?_; conv => whnf
  refine CondX.mk (fun hz => ?_) (fun hz => ?_) <;> conv => whnf
  · have hz : k = 0 := by simpa using hz
    subst hz
    refine RetX.same (hk _ _ _ _ (Ext.refl _) ?_)
    have : l' = [] := List.length_eq_zero_iff.1 hb'.len
    subst this
    rw [← hdv]; exact Nt_nil h
  · refine MakeX.bytes k rfl hb'.room fun b hbd => ?_; conv => whnf
    have hlen := hb'.len
    refine CopyX.bytes (hb'.ext (Ext.bd hbd)) (by simp) ?_; conv => whnf
    refine RetX.same (hk _ _ _ _ (Ext.bd hbd) ?_)
    rw [show (Nat.min k (Int.toNat (k : Int))) = k by simp, ovl_all (by simp; omega), List.take_of_length_le (by omega)]
    exact ⟨_, own_all hb'.isB (by simp [hlen]) (by have := hb'.room; omega), hdv, htr⟩

set_option maxRecDepth 100000 in
theorem clip_ok {h : Hp} {K : Value → Hp → Prop} {base : Option Addr} {len cap : Nat} {l : List Int} (hb : Byt h base len cap l)
    (hk : ∀ b n c, Nt h b n c (dv l) → K (.slice b n c) h) : CallX Hval.prog 96 [.slice base len cap] h K := by
  refine CallX.of_xf T_ok Hval.func96 rfl (by kernel_rfl) (Nat.le_of_ble_eq_true rfl) ?_; conv => whnf
  refine trim_ok hb fun k l' hkl hl' hb' hdv htr => ?_; conv => whnf
  refine CondX.mk (fun hz => ?_) (fun hz => ?_) <;> conv => whnf
  · have hz : k = 0 := by simpa using hz
    subst hz
    refine RetX.same (hk _ _ _ ?_)
    have : l' = [] := List.length_eq_zero_iff.1 hb'.len
    subst this
    rw [← hdv]; exact Nt_nil h
  · refine SlcX.gen hb'.rd hb'.nil hb'.le 0 k k rfl rfl rfl (Nat.zero_le _) (Nat.le_refl _) (Nat.le_refl _) (.inr (by simp)) ?_; conv => whnf
    rw [bsh_zero]
    exact RetX.same (hk _ _ _ ⟨_, hb', hdv, htr⟩)

end Go.Proofs.YgvalwGreat.X
