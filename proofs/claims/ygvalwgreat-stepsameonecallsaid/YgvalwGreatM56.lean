import Derived.Test.YgvalwGreatM55
set_option linter.unusedVariables false
set_option linter.unusedSimpArgs false
namespace Go.Proofs.YgvalwGreat.X
open Go

section
variable {hi hi' hm hm' hb hb' h : Hp} {K : Value → Hp → Prop} {KK : Hp → Prop} {v v' : VS} {eb : Nat} {m m' : MS} {t : Nat} {mems : Nat → List Int} {stale stale' mem' orig : List Int} {w w' : AW} {sn : List AW} {s0 l0 S S' x o : Int} {A : Nat → Nat} {a : AS} {f f' : AF} {base : List AF} {B : Int}
theorem psum_mem {l : List AF} (h : ∀ q ∈ l, 0 ≤ q.gas) : ∀ q ∈ l, q.gas + mcF q ≤ psum l := by
  induction l with
  | nil => intro q hq; cases hq
  | cons x l ih =>
    intro q hq
    have h1 := h x (List.mem_cons_self ..)
    have h2 := mcF_nonneg x
    have h3 : 0 ≤ psum l := Int.le_trans (gsum_nn fun q hq => h q (List.mem_cons_of_mem _ hq)) (psum_gsum l)
    show q.gas + mcF q ≤ x.gas + mcF x + psum l
    rcases List.mem_cons.1 hq with rfl | hq
    · omega
    · have := ih (fun q hq => h q (List.mem_cons_of_mem _ hq)) q hq
      omega
theorem AI.each (h : AI B w base f) (hB : 0 ≤ B) : ∀ q ∈ base ++ [f], q.gas ≤ 1048576 ∧ q.gas + mcF q ≤ 1048576 ∧ q.mem.length ≤ 717280 := fun q hq => by
  have hg : ∀ q ∈ base ++ [f], 0 ≤ q.gas := fun q hq => (h.fr q hq).gas
  have h1 := psum_mem hg q hq
  have h2 := h.pot
  have h3 := mcF_nonneg q
  have h4 := hg q hq
  refine ⟨by omega, by omega, ?_⟩
  have h5 := memCost_le (x := (q.mem.length / 32 : Nat)) (by omega) (by show mcF q ≤ _; omega)
  have h6 := (h.fr q hq).mod
  omega
theorem lowN_len {k B : Nat} (h : ∀ i, i < k → (mems i).length ≤ B) : (lowN mems k).length ≤ k * B := by
  induction k with
  | zero => exact Nat.zero_le _
  | succ k ih =>
    have h1 := ih fun i hi => h i (by omega)
    have h2 := h k (by omega)
    show (lowN mems k ++ mems k).length ≤ _
    rw [List.length_append, Nat.succ_mul]
    omega
theorem frsM_mem {i : Nat} (hi : i ≤ t) : frM m sn mems i ∈ frsM m t sn mems ++ [frM m sn mems t] := by
  by_cases h : i < t
  · exact List.mem_append.2 (.inl (List.mem_map.2 ⟨i, List.mem_range.2 h, rfl⟩))
  · have : i = t := by omega
    subst this
    exact List.mem_append.2 (.inr (List.mem_singleton.2 rfl))
theorem sM_bd (hI : AI 0 w (frsM m t sn mems) (frM m sn mems t)) : 0 ≤ sM m t sn mems ∧ sM m t sn mems ≤ 1048576 := by
  have h1 := psum_gsum (frsM m t sn mems ++ [frM m sn mems t])
  have h2 := hI.pot
  have h3 : 0 ≤ gsum (frsM m t sn mems ++ [frM m sn mems t]) := gsum_nn fun q hq => (hI.fr q hq).gas
  unfold sM
  omega
/-- The gas is paid and the memory grown. -/
theorem pay_ok {g : Int} {n : Nat} {s : Sl} {b : Nat → Int} (hsp : ∀ i, i < t → (m.fr i).sp ≤ 64) : frsM { m with fr := updN m.fr t { m.fr t with gas := g }, bufS := s, base := b } t sn (updN mems t (growI (mems t) n)) = frsM m t sn mems ∧ frM { m with fr := updN m.fr t { m.fr t with gas := g }, bufS := s, base := b } sn (updN mems t (growI (mems t) n)) t = { frM m sn mems t with gas := g, mem := growI (mems t) n } := by
  refine ⟨Lo.frs (m := m) (sn := sn) ⟨fun i hi => ?_, fun _ _ => rfl, fun i hi => ?_, fun _ _ => rfl⟩ hsp, ?_⟩
  · show updN m.fr t _ i = _
    unfold updN; rw [if_neg (by omega)]
  · unfold updN; rw [if_neg (by omega)]
  · have e : stM { m with fr := updN m.fr t { m.fr t with gas := g }, bufS := s, base := b } t = stM m t := stM_ext (by show (updN m.fr t _ t).sp = _; rw [updN_same]) fun j _ => rfl
    unfold frM
    rw [e]
    simp only [updN_same]
theorem stepF_exec (hn : f.natv = 0) : stepF a base f orig = (if (refA (opI f.code f.pc) (costA a.w f.self (opI f.code f.pc) (argA f.st) (f.mem.length / 32 : Nat)) f.gas f.st.length (argA f.st) f.static f.code a.ret.length).1 ≠ 0 then leaveA a base f (refA (opI f.code f.pc) (costA a.w f.self (opI f.code f.pc) (argA f.st) (f.mem.length / 32 : Nat)) f.gas f.st.length (argA f.st) f.static f.code a.ret.length).1 []
    else execA { a with frs := base ++ [{ f with gas := f.gas - (refA (opI f.code f.pc) (costA a.w f.self (opI f.code f.pc) (argA f.st) (f.mem.length / 32 : Nat)) f.gas f.st.length (argA f.st) f.static f.code a.ret.length).2, mem := growI f.mem (needI (opI f.code f.pc) (argA f.st)).toNat }] } base { f with gas := f.gas - (refA (opI f.code f.pc) (costA a.w f.self (opI f.code f.pc) (argA f.st) (f.mem.length / 32 : Nat)) f.gas f.st.length (argA f.st) f.static f.code a.ret.length).2, mem := growI f.mem (needI (opI f.code f.pc) (argA f.st)).toNat } orig (opI f.code f.pc)) := by
  unfold stepF execA
  rw [if_neg (fun h => h hn)]
set_option maxRecDepth 100000 in
set_option maxHeartbeats 4000000 in
theorem mstep_ok (X : EX hi hm hb eb m t w sn v mems stale) (E : EnvM m orig) (hI : AI 0 w (frsM m t sn mems) (frM m sn mems t)) (R : Rs (sM m t sn mems) v sn)
    (hk : EnK hi eb m (spn (stepF (absM m t w sn mems s0 l0) (frsM m t sn mems) (frM m sn mems t) orig)) (stepF (absM m t w sn mems s0 l0) (frsM m t sn mems) (frM m sn mems t) orig) s0 l0 (K (.bool true))) : CallX Hval.prog 49 [.pointer (some ⟨eb, 0, none⟩)] (join (join hi hm) hb) K := by
  have M := X.M
  have h7 := M.t7
  have F := M.f
  have hbE := M.blk (Ext.jl _ hb)
  have hgs : ∀ i, i ≤ t → (m.fr i).gas ≤ 1048576 := fun i hi => (hI.each (Int.le_refl 0) _ (frsM_mem hi)).1
  have hSb := sM_bd hI
  refine CallX.of_xf T_ok Hval.func49 rfl (by kernel_rfl) (Nat.le_of_ble_eq_true rfl) ?_; conv => whnf
  refine LoadX.fx hbE 2404 rfl (by omega) (x := .int .u8 1) (mR_phase.trans (congrArg _ M.phase)) ?_; conv => whnf
  repeat (first | (refine CondX.tt ?_; conv => whnf) | (refine CondX.ff ?_; conv => whnf))
  refine LoadX.fx hbE 0 rfl (by omega) mR_S ?_; conv => whnf
  repeat (first | (refine CondX.tt ?_; conv => whnf) | (refine CondX.ff ?_; conv => whnf))
  by_cases hn : (m.fr t).natv = 0
  · refine runNat0 X hn ?_; conv => whnf
    repeat (first | (refine CondX.tt ?_; conv => whnf) | (refine CondX.ff ?_; conv => whnf))
    have hob := opI_bd2 (l := (m.fr t).code) (st := ((m.fr t).pc : Nat)) F.code.isB
    obtain ⟨o, ho⟩ : ∃ o, opI (m.fr t).code (m.fr t).pc = o := ⟨_, rfl⟩
    obtain ⟨A, hA⟩ : ∃ A : Nat → Nat, ∀ i, argM m t i = A i := ⟨fun i => (argM m t i).toNat, fun i => (Int.toNat_of_nonneg (argM_W M i).1).symm⟩
    have hAe : argA (frM m sn mems t).st = fun i => (A i : Int) := funext fun i => argF hA i
    rw [ho] at hob
    refine opcodeM_ok M (Ext.jl _ _) ?_
    rw [ho]; conv => whnf
    refine info_ok ?_
    unfold RoK; conv => whnf
    have hlow : (lowN mems t).length ≤ 4400000 := by
      have := lowN_len (mems := mems) (k := t) (B := 717280) fun i hi => (hI.each (Int.le_refl 0) _ (frsM_mem (Nat.le_of_lt hi))).2.2
      have h2 : t * 717280 ≤ 6 * 717280 := Nat.mul_le_mul_right _ (by omega)
      omega
    have hT := (hI.each (Int.le_refl 0) _ (frsM_mem (Nat.le_refl t))).2.1
    have eS := stepF_exec (a := absM m t w sn mems s0 l0) (base := frsM m t sn mems) (f := frM m sn mems t) (orig := orig) hn
    rw [show opI (frM m sn mems t).code (frM m sn mems t).pc = o from ho, hAe, show (frM m sn mems t).st.length = (m.fr t).sp from stM_len ..] at eS
    obtain ⟨r, hre⟩ : ∃ r, r = refA o (costA w (m.fr t).self o (fun i => (A i : Int)) ((mems t).length / 32 : Nat)) (m.fr t).gas (m.fr t).sp (fun i => (A i : Int)) (m.fr t).static (m.fr t).code m.ret.length := ⟨_, rfl⟩
    have eS : stepF (absM m t w sn mems s0 l0) (frsM m t sn mems) (frM m sn mems t) orig = (if r.1 ≠ 0 then leaveA (absM m t w sn mems s0 l0) (frsM m t sn mems) (frM m sn mems t) r.1 [] else execA { absM m t w sn mems s0 l0 with frs := frsM m t sn mems ++ [{ frM m sn mems t with gas := (m.fr t).gas - r.2, mem := growI (mems t) (needI o fun i => (A i : Int)).toNat }] } (frsM m t sn mems) { frM m sn mems t with gas := (m.fr t).gas - r.2, mem := growI (mems t) (needI o fun i => (A i : Int)).toNat } orig o) := by
      rw [hre]; exact eS
    refine admit_ok (s0 := s0) (l0 := l0) hob.1 hob.2 X hA hgs hSb R hT (hI.tf.mod) hlow (fun st hr hst => ?_) (fun hr => ?_)
    · have e : stepF (absM m t w sn mems s0 l0) (frsM m t sn mems) (frM m sn mems t) orig = leaveA (absM m t w sn mems s0 l0) (frsM m t sn mems) (frM m sn mems t) st [] := by
        rw [← hre] at hr
        rw [eS, hr, if_pos hst]
      rw [e] at hk
      refine (hk.mono (spn_leave F.gas.1)).map fun h' hh => ?_
      conv => whnf
      repeat (first | (refine CondX.tt ?_; conv => whnf) | (refine CondX.ff ?_; conv => whnf))
      exact RetX.same hh
    · have hq := refA_0 hr
      rw [← hre] at hr hq
      rw [eS, if_neg (by rw [hr]; exact fun h => h rfl), hq.1] at hk
      intro hm2 hb2 sB bB stale2 X2
      conv => whnf
      repeat (first | (refine CondX.tt ?_; conv => whnf) | (refine CondX.ff ?_; conv => whnf))
      have hps := pay_ok (m := m) (sn := sn) (mems := mems) (t := t) (g := (m.fr t).gas - costA w (m.fr t).self o (fun i => (A i : Int)) ((mems t).length / 32 : Nat)) (n := (needI o fun i => (A i : Int)).toNat) (s := sB) (b := bB) fun i hi => (M.fok i (Nat.le_of_lt hi)).sp
      obtain ⟨m2, hm2e⟩ : ∃ m2 : MS, m2 = { m with fr := updN m.fr t { m.fr t with gas := (m.fr t).gas - costA w (m.fr t).self o (fun i => (A i : Int)) ((mems t).length / 32 : Nat) }, bufS := sB, base := bB } := ⟨_, rfl⟩
      rw [← hm2e] at hps X2
      have hf2 : m2.fr t = { m.fr t with gas := (m.fr t).gas - costA w (m.fr t).self o (fun i => (A i : Int)) ((mems t).length / 32 : Nat) } := by rw [hm2e]; exact updN_same ..
      have hA2 : ∀ i, argM m2 t i = A i := fun i => (argM_ext (m := m) (by rw [hf2]) (by rw [hm2e]) i).trans (hA i)
      have hAn : ∀ i, 0 ≤ argA (frM m sn mems t).st i := fun i => by rw [hAe]; exact Int.natCast_nonneg _
      have hAn' : ∀ i, (0 : Int) ≤ (fun i => (A i : Int)) i := fun i => Int.natCast_nonneg _
      have hre0 : 0 ≤ reachI o (fun i => (A i : Int)) := reachI_nn hAn'
      have hcb := costA_bare (w := w) (self := (m.fr t).self) (o := o) (n := (mems t).length / 32) hAn' hre0
      have hbn := bareA_nonneg (w := w) (self := (m.fr t).self) (o := o) hAn'
      have hmn : memCost (((mems t).length / 32 : Nat) : Int) ≤ memCost (max (needI o fun i => (A i : Int)).toNat ((mems t).length / 32) : Nat) := memCost_mono (by omega) (by omega)
      have J := hI.pay (c := costA w (m.fr t).self o (fun i => (A i : Int)) ((mems t).length / 32 : Nat)) (b := bareA w (m.fr t).self o (fun i => (A i : Int))) (n := (needI o fun i => (A i : Int)).toNat) hq.2.2.2.2.2.2.1 hbn (by show memCost (max (needI o fun i => (A i : Int)).toNat ((mems t).length / 32) : Nat) - memCost (((mems t).length / 32 : Nat) : Int) + _ ≤ _; omega)
      generalize hcc : costA w (m.fr t).self o (fun i => (A i : Int)) ((mems t).length / 32 : Nat) = cc at *
      have hs2 : sM m2 t sn (updN mems t (growI (mems t) (needI o fun i => (A i : Int)).toNat)) = sM m t sn mems + cc := by
        unfold sM
        rw [hps.1, hps.2, gsum_app, gsum_app]
        show 1048576 - (gsum (frsM m t sn mems) + ((m.fr t).gas - cc)) = 1048576 - (gsum (frsM m t sn mems) + (m.fr t).gas) + cc
        omega
      have hgr := growI_len (m := mems t) hI.tf.mod (needI o fun i => (A i : Int)).toNat
      have hnd : needI o (fun i => (A i : Int)) = (reachI o (fun i => (A i : Int)) + 31) / 32 := rfl
      have J0 := J.mono hbn
      have hbd := (J.each hbn _ (List.mem_append.2 (.inr (List.mem_singleton.2 rfl)))).2.2
      have hsJ : 0 ≤ 1048576 - gsum (frsM m t sn mems ++ [frM m sn mems t]) ∧ 1048576 - gsum (frsM m t sn mems ++ [frM m sn mems t]) ≤ 1048576 := hSb
      have W0 := hI.w
      have hpcb := hI.pc
      have hpcb : ((m.fr t).pc : Int) ≤ 545 := hpcb
      have hs2b : sM m t sn mems + cc ≤ 1048576 := by
        have h3 : 0 ≤ gsum (frsM m t sn mems) := gsum_nn fun q hq => (hI.fr q (List.mem_append.2 (.inl hq))).gas
        have h4 : cc ≤ (m.fr t).gas := hq.2.2.2.2.2.2.1
        unfold sM
        rw [gsum_app]
        show 1048576 - (gsum (frsM m t sn mems) + (m.fr t).gas) + cc ≤ 1048576
        omega
      have P : OpS hi hm2 hb2 eb m2 t w sn v (updN mems t (growI (mems t) (needI o fun i => (A i : Int)).toNat)) stale2 o A (sM m t sn mems) (sM m2 t sn (updN mems t (growI (mems t) (needI o fun i => (A i : Int)).toNat))) := by
        refine ⟨X2, by rw [hf2]; exact ho, hA2, by rw [hf2]; exact hq.2.2.1, by rw [hf2]; exact hq.2.2.2.1, by rw [hf2]; show (m.fr t).pc < 600; omega, R, ?_, ?_, ⟨hSb.1, ?_⟩⟩
        · rw [hs2, hf2]; show _ + bareA w (m.fr t).self o _ ≤ _; omega
        · rw [updN_same]; omega
        · rw [hs2]; exact hs2b
      have Q : XP m2 t w (updN mems t (growI (mems t) (needI o fun i => (A i : Int)).toNat)) orig o A := by
        have WS : WG (sM m t sn mems) w := hI.w.mono (by unfold sM; omega)
        refine ⟨⟨by rw [hm2e]; exact E.origin, E.ol, E.oB, by rw [hm2e]; exact E.price, fun k hk => by rw [hm2e]; exact E.env k hk⟩, fun h0 => ?_, by rw [hf2]; exact hI.tf.val, fun i hi => ?_, WS.cl, ?_, fun b => (WS.non b).1, fun h => by have := hq.2.2.2.2.1 h; omega, fun h => ?_, ?_, ?_, ?_⟩
        · rw [hf2]
          refine WS.bal _ (hI.tf.own (.inl ?_))
          exact (opI_pc (l := (m.fr t).code) (st := ((m.fr t).pc : Nat)) (by rw [ho]; exact h0)).2
        · rw [hm2e]
          show (updN m.fr t _ i).gas ≤ _
          unfold updN
          split
          · show (m.fr t).gas - cc ≤ _; have := hgs t (Nat.le_refl _); omega
          · exact hgs i hi
        · rw [hf2]; have := (WS.non (m.fr t).self).2; show (w.acct (m.fr t).self).nonce < 100; omega
        · rw [hf2]
          refine hq.2.2.2.2.2.2.2 ?_
          rcases h with h | h
          · exact .inl h
          · exact .inr ⟨h.1, by have := h.2; show ((A 1 : Nat) : Int) ≠ 0; omega⟩
        · have := WS.ref.2; omega
        · rw [updN_same]; exact hbd
        · have := WS.logs; omega
      refine exec_ok (s0 := s0) (l0 := l0) hob.1 hob.2 hq.2.1 P Q ?_
      have ea : absM m2 t w sn (updN mems t (growI (mems t) (needI o fun i => (A i : Int)).toNat)) s0 l0 = { absM m t w sn mems s0 l0 with frs := frsM m t sn mems ++ [{ frM m sn mems t with gas := (m.fr t).gas - cc, mem := growI (mems t) (needI o fun i => (A i : Int)).toNat }] } := by
        unfold absM
        rw [hps.1, hps.2, show m2.ret = m.ret by rw [hm2e]]
      unfold ExK
      rw [ea, hps.1, hps.2]
      refine (hk.fix ?_).map fun h' hh => ?_
      · rw [hm2e]; exact ⟨rfl, rfl, rfl, rfl, rfl, rfl, rfl, rfl, rfl, rfl, rfl⟩
      · conv => whnf
        exact RetX.same hh
  · have e : stepF (absM m t w sn mems s0 l0) (frsM m t sn mems) (frM m sn mems t) orig = natvA (absM m t w sn mems s0 l0) (frsM m t sn mems) (frM m sn mems t) := by
      unfold stepF
      rw [if_pos (show (frM m sn mems t).natv ≠ 0 from hn)]
    rw [e] at hk
    refine runNat X hn hgs hI R (hk.map fun h' hh => ?_)
    conv => whnf
    repeat (first | (refine CondX.tt ?_; conv => whnf) | (refine CondX.ff ?_; conv => whnf))
    exact RetX.same hh
end
end Go.Proofs.YgvalwGreat.X
