import Derived.Test.YgvalwGreatK5
set_option linter.unusedVariables false
set_option linter.unusedSimpArgs false
namespace Go.Proofs.YgvalwGreat.X
open Go

section
variable {h : Hp} {K : Value → Hp → Prop}
theorem Byt_at {h : Hp} {q t : Nat} {X : List Int} {n : Nat} (hb : h q = some (bcells X, t)) (hl : X.length = n) (_hB : isB X) {j : Nat} (hj : j < n) : ldV false 1 h q (0 + j * 1) = some (.int .u8 (X.getD j 0)) := by
  simp only [ldV, hb]
  rw [Nat.zero_add, Nat.mul_one]
  unfold bcells
  rw [List.getElem?_map, List.getD_eq_getElem?_getD, List.getElem?_eq_getElem (by omega)]; rfl
theorem rd_own_at {h : Hp} {q t n : Nat} {c : List Value} (hb : h q = some (c, t)) (hn : c.length = n) : rd h (some ⟨q, 0, none⟩) n = some c := by
  simp only [rd, hb]
  rw [if_pos (by omega)]
  unfold seg
  rw [List.drop_zero, List.take_of_length_le (by omega)]
theorem last_mid {R : List Int} (h : R.length < 136) : (R ++ List.replicate (136 - R.length) 0).set R.length 1 = R ++ 1 :: List.replicate (135 - R.length) 0 := by
  rw [show 136 - R.length = (135 - R.length) + 1 by omega, List.replicate_succ, List.set_append_right _ _ (Nat.le_refl _), Nat.sub_self]; rfl
theorem last_at {R : List Int} (h : R.length < 136) : (R ++ 1 :: List.replicate (135 - R.length) (0 : Int)).getD 135 0 = if R.length = 135 then 1 else 0 := by
  rw [List.getD_eq_getElem?_getD, List.getElem?_append_right (by omega)]
  split <;> rename_i h1
  · rw [h1]; rfl
  · obtain ⟨k, hk⟩ : ∃ k, 135 - R.length = k + 1 := ⟨134 - R.length, by omega⟩
    rw [hk, List.getElem?_cons_succ, List.getElem?_replicate, if_pos (by omega)]; rfl
theorem ovl_zero {R : List Int} (h : R.length < 136) : ovl (List.replicate 136 0) 0 R = R ++ List.replicate (136 - R.length) 0 := by
  unfold ovl
  rw [List.take_zero, List.nil_append, Nat.zero_add, List.drop_replicate]
def oL (L : Nat → Nat) : Nat → List Int
  | 0 => []
  | s + 1 => oL L s ++ be 8 (tuN (L s))
theorem oL_len (L : Nat → Nat) (s : Nat) : (oL L s).length = 8 * s := by
  induction s with
  | zero => rfl
  | succ s ih => rw [oL, List.length_append, ih, be_length]; omega
set_option maxRecDepth 100000 in
set_option maxHeartbeats 4000000 in
theorem sum_ok {base : Option Addr} {len cap : Nat} {l : List Int} (hb : Byt h base len cap l) (hk : K (.agg (bcells (kSum l)).toArray) h) : CallX Hval.prog 150 [.slice base len cap] h K := by
  have hl := hb.len
  have hbb := hb.isB
  have hroom := hb.room
  refine CallX.of_xf T_ok Hval.func150 rfl (by kernel_rfl) (Nat.le_of_ble_eq_true rfl) ?_; conv => whnf
  refine BoxX.ext fun r hr er => ?_; conv => whnf
  refine BoxX.ext fun m hm em => ?_; conv => whnf
  have hrm : m ≠ r := fun e => by have := hm.at; rw [e, hput_same] at this; cases this
  refine LoopX.st T_ok Hval.func150 (σ := Nat × Option Addr × Nat) (fun s => [(0, .slice s.2.1 (len - 136 * s.1) s.2.2), (2, .pointer (some ⟨r, 0, none⟩)), (3, .pointer (some ⟨m, 0, none⟩))]) (fun s h' => 136 * s.1 ≤ len ∧ Byt h s.2.1 (len - 136 * s.1) s.2.2 (l.drop (136 * s.1)) ∧ h' = hput (hput h r ((32, y32).snd.zero, 32)) m (lnC (lnS (kblkI l) s.1), 290)) (fun s => len - 136 * s.1) (0, base, cap) ⟨rfl, rfl, rfl, trivial⟩ ⟨by omega, hb, rfl⟩ ?_
  rintro ⟨n, bs, cp⟩ ρ h' ⟨hn, hB, rfl⟩ ih
  dsimp only at hn hB ih ⊢
  conv => whnf
  refine CondX.decI (fun hc => ?_) (fun hc => ?_) <;> conv => whnf
  · obtain ⟨b, off, rfl⟩ := rd_base hB.rd (by omega)
    have hcp := hB.le
    have hq : n < l.length / 136 := by omega
    have hln := (lnS_ok (p := padB l) (blk := kblkI l) (n := n) fun j hj => blk_ok hbb (by omega)).2
    refine SlcX.at hcp 0 136 cp rfl rfl rfl (by omega) (by omega) (by omega) (.inl rfl) ?_; conv => whnf
    refine Ob.mk (by first | decide | omega) ?_; conv => whnf
    have e0 : soff off 0 cp (5, y5).snd.size = off := by unfold soff; split <;> simp
    rw [e0]
    refine absorb_ok (l := (l.drop (136 * n)).take 136) (hput_same ..) hln (fun x => ?_) ?_
    · have h1 := hB.pre (k := 136) (m := 136) (by omega) (by omega) (by omega)
      refine h1.ext fun c y hc => ?_
      rw [hput_hput, hput_ne (fun e => by subst e; have := er c y hc; rw [hm.at] at this; cases this)]
      exact er c y hc
    rw [hput_hput, show xorL (lnS (kblkI l) n) ((l.drop (136 * n)).take 136) = xorL (lnS (kblkI l) n) (kblkI l n) by unfold kblkI; rw [if_pos hq]]; conv => whnf
    refine SlcX.at hcp 136 (len - 136 * n) cp rfl rfl rfl (by omega) (by omega) (by omega) (.inl rfl) ?_; conv => whnf
    have h2 := hB.slice (lo := 136) (hh := len - 136 * n) (m := cp) (by omega) (by omega) (by omega) (by omega)
    refine ih (n + 1, some ⟨b, soff off 136 cp 1, none⟩, cp - 136) _ _ ⟨by dsimp only; omega, ?_, rfl⟩ (by dsimp only; omega) ⟨?_, rfl, rfl, trivial⟩
    · dsimp only
      rw [show len - 136 * (n + 1) = len - 136 * n - 136 by omega, show l.drop (136 * (n + 1)) = ((l.drop (136 * n)).drop 136).take (len - 136 * n - 136) by rw [List.drop_drop, List.take_of_length_le (by rw [List.length_drop]; omega)]; congr 1]
      exact h2
    · dsimp only
      rw [show len - 136 * (n + 1) = len - 136 * n - 136 by omega]; rfl
  · have hq : n = l.length / 136 := by omega
    have hln := (lnS_ok (p := padB l) (blk := kblkI l) (n := n) fun j hj => blk_ok hbb (by omega)).2
    obtain ⟨R, hR⟩ : ∃ R, R = l.drop (136 * n) := ⟨_, rfl⟩
    have hRl : R.length = len - 136 * n := by rw [hR, List.length_drop]; omega
    have hR6 : R.length < 136 := by omega
    rw [← hR] at hB
    have eH : Ext h (hput (hput h r ((32, y32).snd.zero, 32)) m (lnC (lnS (kblkI l) n), 290)) := fun c y hc => by
      rw [hput_ne (fun e => by subst e; have := er c y hc; rw [hm.at] at this; cases this)]; exact er c y hc
    refine BoxX.ext fun q hq0 eq => ?_; conv => whnf
    have hqn := hq0.at
    have hqm : q ≠ m := fun e => by rw [e, hput_same] at hqn; cases hqn
    rw [show soff 0 0 136 (5, y5).snd.size = 0 from rfl]
    refine CopyX.bytes (l := List.replicate 136 0) (hB.ext (eH.trans eq)) (by simp) ?_; conv => whnf
    rw [show Nat.min (len - 136 * n) (136 - 0) = R.length by rw [hRl]; exact Nat.min_eq_left (by omega), List.take_of_length_le (Nat.le_refl _), ovl_zero hR6]
    refine Ob.mk (by first | decide | omega) ?_; conv => whnf
    refine StoreX.bix R.length (by omega) rfl (by simp; omega) ?_
    rw [last_mid hR6]; conv => whnf
    have hXB : isB (R ++ 1 :: List.replicate (135 - R.length) (0 : Int)) := fun d hd => by
      rcases List.mem_append.1 hd with h1 | h1
      · exact hB.isB d h1
      · rcases List.mem_cons.1 h1 with h2 | h2
        · omega
        · have := (List.mem_replicate.1 h2).2; omega
    have hXl : (R ++ 1 :: List.replicate (135 - R.length) (0 : Int)).length = 136 := by simp; omega
    refine Ob.mk (by first | decide | omega) ?_; conv => whnf
    refine LoadX.of (.int .u8 (if R.length = 135 then 1 else 0)) ((Byt_at (hput_same ..) hXl hXB (j := 135) (by omega)).trans (by rw [last_at hR6])) ?_; conv => whnf
    refine Ob.mk (by first | decide | omega) ?_; conv => whnf
    have eor : IntKind.u8.wrap ((BitVec.ofInt IntKind.u8.bits (if R.length = 135 then 1 else 0) ||| BitVec.ofInt IntKind.u8.bits 128).toNat : Int) = if R.length = 135 then 129 else 128 := by
      split <;> rfl
    rw [eor]
    refine StoreX.bix 135 rfl rfl (by rw [hXl]; decide) ?_; conv => whnf
    have eL : (R ++ 1 :: List.replicate (135 - R.length) (0 : Int)).set 135 (if R.length = 135 then (129 : Int) else 128) = lastI R := rfl
    rw [eL]
    have hkb : kblkI l n = lastI R := by unfold kblkI; rw [if_neg (by omega), hR]
    have hLB := last_isB hB.isB hR6
    have hLl := last_len hR6
    refine absorb_ok (l := lastI R) (L := lnS (kblkI l) n) (t := 290) (by rw [hput_ne hqm.symm, hput_same]) hln (fun x => ⟨?_, hLB, Nat.le_refl _, (fun h => by cases h), by decide⟩) ?_
    · have hh : hput (hput (hput (hput h r ((32, y32).snd.zero, 32)) m (lnC (lnS (kblkI l) n), 290)) q (bcells (lastI R), 294)) m x q = some (bcells (lastI R), 294) := by rw [hput_ne hqm, hput_same]
      have := rd_own_at hh (n := 136) (by rw [bcells_length, hLl])
      exact this
    rw [← hkb, show prL 24 (xorL (lnS (kblkI l) n) (kblkI l n)) = lnS (kblkI l) (n + 1) from rfl]; conv => whnf
    have hm2 : hput (hput (hput (hput h r ((32, y32).snd.zero, 32)) m (lnC (lnS (kblkI l) n), 290)) q (bcells (kblkI l n), 294)) m (lnC (lnS (kblkI l) (n + 1)), 290) m = some (lnC (lnS (kblkI l) (n + 1)), 290) := hput_same ..
    have hr2 : hput (hput (hput (hput h r ((32, y32).snd.zero, 32)) m (lnC (lnS (kblkI l) n), 290)) q (bcells (kblkI l n), 294)) m (lnC (lnS (kblkI l) (n + 1)), 290) r = some ((32, y32).snd.zero, 32) := by
      have hrq : r ≠ q := fun e => by rw [← e, hput_ne hrm.symm, hput_same] at hqn; cases hqn
      rw [hput_ne hrm.symm, hput_ne hrq, hput_ne hrm.symm, hput_same]
    have eH2 : Ext h (hput (hput (hput (hput h r ((32, y32).snd.zero, 32)) m (lnC (lnS (kblkI l) n), 290)) q (bcells (kblkI l n), 294)) m (lnC (lnS (kblkI l) (n + 1)), 290)) := fun c y hc => by
      rw [hput_ne (fun e => by subst e; have := er c y hc; rw [hm.at] at this; cases this), hput_ne (fun e => by subst e; have := eH c y hc; rw [hqn] at this; cases this)]
      exact eH c y hc
    generalize hput (hput (hput (hput h r ((32, y32).snd.zero, 32)) m (lnC (lnS (kblkI l) n), 290)) q (bcells (kblkI l n), 294)) m (lnC (lnS (kblkI l) (n + 1)), 290) = H2 at hm2 hr2 eH2 ⊢
    have hS := kSum_lanes hbb
    have hLn := (lnS_ok (p := padB l) (blk := kblkI l) (n := n + 1) fun j hj => blk_ok hbb (by omega)).2
    rw [← hq] at hS
    generalize lnS (kblkI l) (n + 1) = L at hS hLn hm2
    refine BoxX.ext fun o ho eo => ?_; conv => whnf
    have hon := ho.at
    have hom : o ≠ m := fun e => by rw [e, hm2] at hon; cases hon
    have hor : o ≠ r := fun e => by rw [e, hr2] at hon; cases hon
    refine LoopX.st T_ok Hval.func150 (σ := Nat) (fun s => [(2, .pointer (some ⟨r, 0, none⟩)), (3, .pointer (some ⟨m, 0, none⟩)), (5, .pointer (some ⟨o, 0, none⟩)), (6, .int .i64 s)]) (fun s h' => s ≤ 4 ∧ h' = hput H2 o (bcells (oL L s ++ List.replicate (8 * (4 - s)) 0), 32)) (fun s => 4 - s) 0 ⟨rfl, rfl, rfl, rfl, trivial⟩ ⟨by omega, rfl⟩ ?_
    rintro s ρ h' ⟨hs, rfl⟩ ih
    conv => whnf
    refine CondX.decI (fun hc => ?_) (fun hc => ?_) <;> conv => whnf
    · refine DrawX.go T_ok hM Hval.func150 (tb := dr150) rfl (by kernel_rfl) ?_; conv => whnf
      repeat (refine Ob.mk (by first | decide | omega) ?_; conv => whnf)
      have hLm : hput H2 o (bcells (oL L s ++ List.replicate (8 * (4 - s)) 0), 32) m = some (lnC L, 290) := by rw [hput_ne hom.symm]; exact hm2
      have ld : ldV false 1 (hput H2 o (bcells (oL L s ++ List.replicate (8 * (4 - s)) 0), 32)) m (0 + s * 1) = some (.int .u64 (L s)) := ldV_fn hLm s (by omega) (by omega)
      refine LoadX.of _ ld ?_; conv => whnf
      refine turned_ok (hLn s (by omega)) ?_; conv => whnf
      have ht := tuN_lt (hLn s (by omega))
      have e8 : IntKind.i64.wrap (8 * (s : Int)) = ((8 * s : Nat) : Int) := by rw [wrap_i64 (by omega) (by omega)]; omega
      rw [e8, show soff 0 0 32 (5, y5).snd.size = 0 from rfl]
      refine put8_at (p := oL L s) (z := List.replicate 8 0) (r := List.replicate (8 * (4 - (s + 1))) 0) (t := 32) ?_ (oL_len L s) (by simp) (by simp; omega) (by omega) (by rw [show (2 : Nat) ^ 64 = 18446744073709551616 from rfl] at ht; omega) ?_
      · rw [hput_same, show 8 * (4 - s) = 8 + 8 * (4 - (s + 1)) by omega, ← List.replicate_append_replicate]
      rw [hput_hput]; conv => whnf
      repeat (refine Ob.mk (by first | decide | omega) ?_; conv => whnf)
      refine ih (s + 1) _ _ ⟨by omega, ?_⟩ (by omega) ⟨rfl, rfl, rfl, congrArg (Value.int .i64) (wsucc (by omega)), trivial⟩
      rw [oL, List.append_assoc]
    · have : s = 4 := by omega
      subst this
      have hob : oL L 4 ++ List.replicate (8 * (4 - 4)) 0 = kSum l := by
        rw [hS]; simp [oL]
      rw [hob]
      have hk32 := kSum_len l
      refine LoadX.all (c := bcells (kSum l)) (hput_same ..) (by rw [bcells_length, hk32]; rfl) ?_; conv => whnf
      refine Ob.mk ⟨by show (bcells (kSum l)).length = 32; rw [bcells_length, hk32], ones_bcells _⟩ ?_; conv => whnf
      refine StoreX.whole (c := (32, y32).snd.zero) (t := 32) (by rw [hput_ne hor.symm]; exact hr2) (by show (bcells (kSum l)).length = 32; rw [bcells_length, hk32]) ?_; conv => whnf
      refine LoadX.all (c := bcells (kSum l)) (hput_same ..) (by rw [bcells_length, hk32]; rfl) ?_; conv => whnf
      refine RetX.drop (h' := h) (fun c y hc => ?_) hk
      rw [hput_ne (fun e => by subst e; rw [hr.at] at hc; cases hc), hput_ne (fun e => by subst e; have := eH2 c y hc; rw [hon] at this; cases this)]
      exact eH2 c y hc
end
end Go.Proofs.YgvalwGreat.X
