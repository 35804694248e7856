import Derived.Test.YgvalwGreatM16
set_option linter.unusedVariables false
set_option linter.unusedSimpArgs false
namespace Go.Proofs.YgvalwGreat.X
open Go

section
variable {h : Hp} {K : Value → Hp → Prop}
set_option maxRecDepth 100000 in
set_option maxHeartbeats 4000000 in
theorem addrWord_ok {a : List Int} (hl : a.length = 20) (hB : isB a) (hk : K (.agg (wc (bv a)).toArray) h) : CallX Hval.prog 242 [.agg (bcells a).toArray] h K := by
  refine CallX.of_xf T_ok Hval.func242 rfl (by kernel_rfl) (Nat.le_of_ble_eq_true rfl) ?_; conv => whnf
  refine BoxX.ext fun n1 hn1 en1 => ?_; conv => whnf
  refine BoxX.ext fun n2 hn2 en2 => ?_; conv => whnf
  refine BoxX.ext fun n3 hn3 en3 => ?_; conv => whnf
  have h13 : hput (hput (hput h n1 ((bcells a).toArray.toList, 31)) n2 ((75, y75).snd.zero, 75)) n3 ((32, y32).snd.zero, 32) n1 = some (bcells a, 31) := en3 _ _ (en2 _ _ (hput_same ..))
  have h23 : hput (hput (hput h n1 ((bcells a).toArray.toList, 31)) n2 ((75, y75).snd.zero, 75)) n3 ((32, y32).snd.zero, 32) n2 = some ((75, y75).snd.zero, 75) := en3 _ _ (hput_same ..)
  have hn23 : n2 ≠ n3 := fun e => by have := hn3.at; rw [← e, hput_same] at this; cases this
  refine DrawX.go T_ok hM Hval.func242 (tb := dr242) rfl (by kernel_rfl) ?_; conv => whnf
  repeat (refine Ob.mk (by first | decide | omega) ?_; conv => whnf)
  rw [show (32, y32).snd.zero = bcells (List.replicate 32 0) from rfl] at h13 ⊢
  have hbt : Byt (hput (hput (hput h n1 ((bcells a).toArray.toList, 31)) n2 ((75, y75).snd.zero, 75)) n3 (bcells (List.replicate 32 0), 32)) (some ⟨n1, 0, none⟩) 20 20 a := ⟨rd_own_at h13 (by rw [bcells_length, hl]), hB, Nat.le_refl _, (fun hc => by cases hc), by decide⟩
  rw [show soff 0 (Int.toNat 12) 32 (5, y5).snd.size = 12 from rfl, show soff 0 0 20 (5, y5).snd.size = 0 from rfl]
  refine CopyX.bytes hbt (by simp) ?_; conv => whnf
  rw [show Nat.min (20 - 0) (32 - Int.toNat 12) = 20 from rfl, List.take_of_length_le (by omega)]
  have eo : ovl (List.replicate 32 0) 12 a = List.replicate 12 0 ++ a := by
    unfold ovl
    rw [List.take_replicate, List.drop_of_length_le (by rw [List.length_replicate, hl]; decide), List.append_nil]; rfl
  rw [eo]
  refine LoadX.all (c := bcells (List.replicate 12 0 ++ a)) (hput_same ..) (by rw [bcells_length, List.length_append, List.length_replicate, hl]; rfl) ?_; conv => whnf
  refine fromBytes_ok (by rw [List.length_append, List.length_replicate, hl]) (fun d hd => by
    rcases List.mem_append.1 hd with h1 | h1
    · exact isB_zeros 12 d h1
    · exact hB d h1) ?_
  rw [bv_zeros]; conv => whnf
  refine Ob.mk ⟨rfl, rfl⟩ ?_; conv => whnf
  refine StoreX.whole (c := (75, y75).snd.zero) (t := 75) (by rw [hput_ne hn23]; exact hput_same ..) rfl ?_; conv => whnf
  refine LoadX.all (c := wc (bv a)) (hput_same ..) rfl ?_; conv => whnf
  have hn2h : h n2 = none := by
    cases hx : h n2 with
    | none => rfl
    | some y => have := en1 _ _ hx; rw [hn2.at] at this; cases this
  have hn3h : h n3 = none := by
    cases hx : h n3 with
    | none => rfl
    | some y => have := en2 _ _ (en1 _ _ hx); rw [hn3.at] at this; cases this
  exact RetX.drop (h' := h) (Ext.keep (Ext.keep (en1.trans en2) hn3h) hn2h) hk
set_option maxRecDepth 100000 in
set_option maxHeartbeats 4000000 in
theorem word32_ok {s : Sl} {l : List Int} {o : Nat} (hs : BytS h s l) (ho : o < 18446744073709551616) (hk : K (.agg (wc (bv (cutN l o 32))).toArray) h) : CallX Hval.prog 279 [sl s, .int .u64 o] h K := by
  have hl := hs.len
  have hr := hs.room
  have hcap := hs.le
  refine CallX.of_xf T_ok Hval.func279 rfl (by kernel_rfl) (Nat.le_of_ble_eq_true rfl) ?_; conv => whnf
  refine BoxX.ext fun n2 hn2 en2 => ?_; conv => whnf
  refine BoxX.ext fun n3 hn3 en3 => ?_; conv => whnf
  have hn23 : n2 ≠ n3 := fun e => by have := hn3.at; rw [← e, hput_same] at this; cases this
  have hn3h : h n3 = none := by
    cases hx : h n3 with
    | none => rfl
    | some y => have := en2 _ _ hx; rw [hn3.at] at this; cases this
  rw [show (32, y32).snd.zero = bcells (List.replicate 32 0) from rfl, show IntKind.u64.wrap (s.2.1 : Int) = s.2.1 by rw [wrap_u64']; omega]
  have hcl := cutN_length l o 32
  have hcB := isB_cutN hs.isB o 32
  refine CondX.decI (fun hc => ?_) (fun hc => ?_) <;> conv => whnf
  · refine DrawX.go T_ok hM Hval.func279 (tb := dr279) rfl (by kernel_rfl) ?_; conv => whnf
    have hs3 := hs.ext (en2.trans en3)
    rw [show (32, y32).snd.zero = bcells (List.replicate 32 0) from rfl] at hs3
    rw [show soff 0 0 32 (5, y5).snd.size = 0 from rfl]
    refine SlcX.gen hs3.rd hs3.nil hs3.le o s.2.1 s.2.2 rfl rfl rfl (by omega) hcap (Nat.le_refl _) (.inl rfl) ?_; conv => whnf
    have hS := hs3.slice (lo := o) (hh := s.2.1) (m := s.2.2) (by omega) (Nat.le_refl _) hcap (Nat.le_refl _)
    refine CopyX.bytes hS (by simp) ?_; conv => whnf
    have e : List.take (Nat.min (s.2.1 - o) (32 - 0)) (List.take (s.2.1 - o) (List.drop o l)) = List.take (Nat.min (l.length - o) 32) (List.drop o l) := by
      rw [List.take_take, hl]; congr 1; exact Nat.min_eq_left (Nat.min_le_left ..)
    rw [e, cutN_ovl]
    refine LoadX.all (c := bcells (cutN l o 32)) (hput_same ..) (by rw [bcells_length, hcl]; rfl) ?_; conv => whnf
    refine fromBytes_ok hcl hcB ?_; conv => whnf
    refine Ob.mk ⟨rfl, rfl⟩ ?_; conv => whnf
    refine StoreX.whole (c := (75, y75).snd.zero) (t := 75) (by rw [hput_ne hn23]; exact hput_same ..) rfl ?_; conv => whnf
    refine LoadX.all (c := wc (bv (cutN l o 32))) (hput_same ..) rfl ?_; conv => whnf
    exact RetX.drop (h' := h) (Ext.keep (Ext.keep en2 hn3h) hn2.at) hk
  · have hp : cutN l o 32 = List.replicate 32 0 := cutN_past (by omega)
    refine LoadX.all (c := bcells (List.replicate 32 0)) (hput_same ..) rfl ?_; conv => whnf
    refine fromBytes_ok (by simp) (isB_zeros 32) ?_; conv => whnf
    refine Ob.mk ⟨rfl, rfl⟩ ?_; conv => whnf
    refine StoreX.whole (c := (75, y75).snd.zero) (t := 75) (by rw [hput_ne hn23]; exact hput_same ..) rfl ?_; conv => whnf
    refine LoadX.all (c := wc (bv (List.replicate 32 0))) (hput_same ..) rfl ?_; conv => whnf
    rw [hp] at hk
    exact RetX.drop (h' := h) (Ext.keep (Ext.keep en2 hn3h) hn2.at) hk
set_option maxRecDepth 100000 in
set_option maxHeartbeats 4000000 in
theorem sstoreE_ok {x n : Nat} {cold : Bool} (hx : (x : Int) < W) (hn : (n : Int) < W) (hk : K (.tuple #[.int .u64 (sstoreC x n cold), .int .u64 (sstoreP x n), .int .u64 0]) h) : CallX Hval.prog 288 [.agg (wc 0).toArray, .agg (wc x).toArray, .agg (wc n).toArray, .bool cold] h K := by
  have fin : ∀ c p, sstoreC x n cold = c → sstoreP x n = p → K (.tuple #[.int .u64 c, .int .u64 p, .int .u64 0]) h := fun c p h1 h2 => by rw [← h1, ← h2]; exact hk
  have px : (0 : Int) ≤ x := by omega
  have pn : (0 : Int) ≤ n := by omega
  have e1 := eqCells_wc pn hn px hx
  have e2 := eqCells_wc px hx (Int.le_refl 0) W_pos
  have e3 := eqCells_wc pn hn (Int.le_refl 0) W_pos
  refine CallX.of_xf T_ok Hval.func288 rfl (by kernel_rfl) (Nat.le_of_ble_eq_true rfl) ?_; conv => whnf
  refine BoxX.ext fun n1 hn1 en1 => ?_; conv => whnf
  refine BoxX.ext fun n2 hn2 en2 => ?_; conv => whnf
  refine BoxX.ext fun n3 hn3 en3 => ?_; conv => whnf
  have hdr := (en1.trans en2).trans en3
  have b1 : hput (hput (hput h n1 ((wc 0).toArray.toList, 75)) n2 ((wc x).toArray.toList, 75)) n3 ((wc n).toArray.toList, 75) n1 = some (wc 0, 75) := en3 _ _ (en2 _ _ (hput_same ..))
  have b2 : hput (hput (hput h n1 ((wc 0).toArray.toList, 75)) n2 ((wc x).toArray.toList, 75)) n3 ((wc n).toArray.toList, 75) n2 = some (wc x, 75) := en3 _ _ (hput_same ..)
  have b3 : hput (hput (hput h n1 ((wc 0).toArray.toList, 75)) n2 ((wc x).toArray.toList, 75)) n3 ((wc n).toArray.toList, 75) n3 = some (wc n, 75) := hput_same ..
  generalize hput (hput (hput h n1 ((wc 0).toArray.toList, 75)) n2 ((wc x).toArray.toList, 75)) n3 ((wc n).toArray.toList, 75) = H at *
  cases cold with
  | true =>
    refine CondX.tt ?_; conv => whnf
    refine LoadX.all b3 rfl ?_; conv => whnf
    refine LoadX.all b2 rfl ?_; conv => whnf
    refine Ob.mk ⟨rfl, rfl, rfl, rfl⟩ ?_; conv => whnf
    rw [show eqCells (wc (n : Int)).toArray.toList (wc (x : Int)).toArray.toList = decide ((n : Int) = x) from e1]
    refine CondX.decI (fun h1 => ?_) (fun h1 => ?_) <;> conv => whnf
    · exact RetX.drop hdr (fin _ _ (by unfold sstoreC; rw [if_pos (.inl h1)]; rfl) (by unfold sstoreP; rw [if_neg (fun hc => hc.1 h1)]))
    refine LoadX.all b2 rfl ?_; conv => whnf
    refine LoadX.all b1 rfl ?_; conv => whnf
    refine Ob.mk ⟨rfl, rfl, rfl, rfl⟩ ?_; conv => whnf
    rw [show eqCells (wc (x : Int)).toArray.toList (wc 0).toArray.toList = decide ((x : Int) = 0) from e2]
    refine CondX.decI (fun h2 => ?_) (fun h2 => ?_) <;> conv => whnf
    · refine LoadX.all b1 rfl ?_; conv => whnf
      refine eIsZero' (x := 0) (Int.le_refl 0) W_pos ?_; conv => whnf
      repeat (first | (refine CondX.tt ?_; conv => whnf) | (refine CondX.ff ?_; conv => whnf))
      exact RetX.drop hdr (fin _ _ (by unfold sstoreC; rw [if_neg (fun hc => hc.elim h1 (fun hc => hc h2))]; rfl) (by unfold sstoreP; rw [if_neg (fun hc => hc.2.1 h2)]))
    refine LoadX.all b1 rfl ?_; conv => whnf
    refine eIsZero' (x := 0) (Int.le_refl 0) W_pos ?_; conv => whnf
    repeat (first | (refine CondX.tt ?_; conv => whnf) | (refine CondX.ff ?_; conv => whnf))
    refine LoadX.all b3 rfl ?_; conv => whnf
    refine LoadX.all b1 rfl ?_; conv => whnf
    refine Ob.mk ⟨rfl, rfl, rfl, rfl⟩ ?_; conv => whnf
    rw [show eqCells (wc (n : Int)).toArray.toList (wc 0).toArray.toList = decide ((n : Int) = 0) from e3]
    refine CondX.decI (fun h3 => ?_) (fun h3 => ?_) <;> conv => whnf
    · refine LoadX.all b1 rfl ?_; conv => whnf
      refine eIsZero' (x := 0) (Int.le_refl 0) W_pos ?_; conv => whnf
      repeat (first | (refine CondX.tt ?_; conv => whnf) | (refine CondX.ff ?_; conv => whnf))
      exact RetX.drop hdr (fin _ _ (by unfold sstoreC; rw [if_pos (.inr h2)]; rfl) (by unfold sstoreP; rw [if_pos ⟨h1, h2, h3⟩]; rfl))
    · exact RetX.drop hdr (fin _ _ (by unfold sstoreC; rw [if_pos (.inr h2)]; rfl) (by unfold sstoreP; rw [if_neg (fun hc => h3 hc.2.2)]))
  | false =>
    refine CondX.ff ?_; conv => whnf
    refine LoadX.all b3 rfl ?_; conv => whnf
    refine LoadX.all b2 rfl ?_; conv => whnf
    refine Ob.mk ⟨rfl, rfl, rfl, rfl⟩ ?_; conv => whnf
    rw [show eqCells (wc (n : Int)).toArray.toList (wc (x : Int)).toArray.toList = decide ((n : Int) = x) from e1]
    refine CondX.decI (fun h1 => ?_) (fun h1 => ?_) <;> conv => whnf
    · exact RetX.drop hdr (fin _ _ (by unfold sstoreC; rw [if_pos (.inl h1)]; rfl) (by unfold sstoreP; rw [if_neg (fun hc => hc.1 h1)]))
    refine LoadX.all b2 rfl ?_; conv => whnf
    refine LoadX.all b1 rfl ?_; conv => whnf
    refine Ob.mk ⟨rfl, rfl, rfl, rfl⟩ ?_; conv => whnf
    rw [show eqCells (wc (x : Int)).toArray.toList (wc 0).toArray.toList = decide ((x : Int) = 0) from e2]
    refine CondX.decI (fun h2 => ?_) (fun h2 => ?_) <;> conv => whnf
    · refine LoadX.all b1 rfl ?_; conv => whnf
      refine eIsZero' (x := 0) (Int.le_refl 0) W_pos ?_; conv => whnf
      repeat (first | (refine CondX.tt ?_; conv => whnf) | (refine CondX.ff ?_; conv => whnf))
      exact RetX.drop hdr (fin _ _ (by unfold sstoreC; rw [if_neg (fun hc => hc.elim h1 (fun hc => hc h2))]; rfl) (by unfold sstoreP; rw [if_neg (fun hc => hc.2.1 h2)]))
    refine LoadX.all b1 rfl ?_; conv => whnf
    refine eIsZero' (x := 0) (Int.le_refl 0) W_pos ?_; conv => whnf
    repeat (first | (refine CondX.tt ?_; conv => whnf) | (refine CondX.ff ?_; conv => whnf))
    refine LoadX.all b3 rfl ?_; conv => whnf
    refine LoadX.all b1 rfl ?_; conv => whnf
    refine Ob.mk ⟨rfl, rfl, rfl, rfl⟩ ?_; conv => whnf
    rw [show eqCells (wc (n : Int)).toArray.toList (wc 0).toArray.toList = decide ((n : Int) = 0) from e3]
    refine CondX.decI (fun h3 => ?_) (fun h3 => ?_) <;> conv => whnf
    · refine LoadX.all b1 rfl ?_; conv => whnf
      refine eIsZero' (x := 0) (Int.le_refl 0) W_pos ?_; conv => whnf
      repeat (first | (refine CondX.tt ?_; conv => whnf) | (refine CondX.ff ?_; conv => whnf))
      exact RetX.drop hdr (fin _ _ (by unfold sstoreC; rw [if_pos (.inr h2)]; rfl) (by unfold sstoreP; rw [if_pos ⟨h1, h2, h3⟩]; rfl))
    · exact RetX.drop hdr (fin _ _ (by unfold sstoreC; rw [if_pos (.inr h2)]; rfl) (by unfold sstoreP; rw [if_neg (fun hc => h3 hc.2.2)]))
end
end Go.Proofs.YgvalwGreat.X
