import Derived.Test.YgvalwGreatG6
import Derived.Test.YgvalwGreatF66
set_option linter.unusedVariables false
set_option linter.unusedSimpArgs false
namespace Go.Proofs.YgvalwGreat.X
open Go

/-- The continuation of a function that turns only the world. -/
def WK (hi hm : Hp) (c : Nat) (tc : TypeId) (s : YS) (frs : List (YF × List Int)) (ret : List Int) (left : Int) (N : Nat) (X : AW) (K : Value → Hp → Prop) : Prop :=
  ∀ hi' w', Ext hi hi' → StOK hi' (hput hm c (sCells { s with w := w' }, tc)) c tc { s with w := w' } frs ret left → w'.sz (N + 1) → absW w' = X → K (.tuple #[]) (join hi' (hput hm c (sCells { s with w := w' }, tc)))
def nonceW (w : AW) (a : List Int) (n : Int) : AW := { w with acct := updA w.acct a { w.acct a with nonce := n } }
def slotW (w : AW) (a : List Int) (k v : Int) : AW := { w with acct := updA w.acct a { w.acct a with slot := updS (w.acct a).slot k v } }
def warmSW (w : AW) (a : List Int) (k : Int) : AW := { w with warmS := fun b j => w.warmS b j || decide (b = a ∧ j = k) }
def tempW (w : AW) (a : List Int) (k v : Int) : AW := { w with temp := fun b j => if b = a ∧ j = k then v else w.temp b j }
section
variable {hi hm : Hp} {K : Value → Hp → Prop} {c : Nat} {tc : TypeId} {s : YS} {frs : List (YF × List Int)} {ret : List Int} {left : Int} {N : Nat} {a : List Int}
theorem getA_slots {w : YW} {N : Nat} (hw : w.sz N) (a : List Int) : (getA w.acc a).slots.length ≤ N := by
  unfold getA
  cases hf : w.acc.find? fun x => x.addr = a with
  | none => simp [dfl]
  | some y => exact hw.each y (List.mem_of_find?_eq_some hf)
theorem put_sz {w : YW} {x : YAcct} {d : Bool} {ys : List YAcct} {sA : Sl} (hw : w.sz N) (h : PutR w.acc x d ys) (hx : x.slots.length ≤ N + 1) : ({ w with sA := sA, acc := ys } : YW).sz (N + 1) := by
  have b := hw.mono (Nat.le_succ N)
  refine ⟨Nat.le_trans h.len (Nat.succ_le_succ hw.acc), fun y hy => ?_, b.wa, b.ws, b.logs, b.temps, b.made, b.gone⟩
  rcases h.mem y hy with rfl | h3
  · exact hx
  · exact Nat.le_succ_of_le (hw.each y h3)
theorem warmSt_ok (S : StOK hi hm c tc s frs ret left) (hN : s.w.sz N) (hN30 : N < 2 ^ 30) (ha : a.length = 20) (hk : WK hi hm c tc s frs ret left N (warmW (absW s.w) a) K) :
    CallX Hval.prog 37 [.pointer (some ⟨c, 0, none⟩), .agg (bcells a).toArray] (join hi hm) K := by
  have hwr := hN.room S.now hN30
  refine warm_ok (o := 0) S.dj S.chain (show (sCells s)[0 + 1]? = some (sl s.w.sWA) from rfl) S.now.wa ha hwr.wa fun hi5 sWA az5 e5 hd5 gWA hWA hWl => ?_
  have hset : setSeg (sCells s) (0 + 1) [sl sWA] = sCells { s with w := { s.w with sWA := sWA, wa := az5 } } := (sCells_set (by decide)).trans rfl
  rw [hset] at hd5 ⊢
  have b := (S.now.up e5)
  refine hk hi5 { s.w with sWA := sWA, wa := az5 } e5 ((S.ext e5 (hd5.unput S.chain)).setW rfl rfl fun hl' hh => ⟨b.acc, gWA, b.ws, b.ref, hh, b.logsE, b.temps, b.made, b.gone⟩) ?_ ?_
  · have q := hN.mono (Nat.le_succ N)
    exact ⟨q.acc, q.each, Nat.le_trans hWl (Nat.succ_le_succ hN.wa), q.ws, q.logs, q.temps, q.made, q.gone⟩
  · unfold absW warmW
    congr 1
    funext b
    exact mem_with hWA b
theorem setNonceSt_ok (S : StOK hi hm c tc s frs ret left) (hN : s.w.sz N) (hN30 : N < 2 ^ 30) (ha : a.length = 20) {sn : Sl} {n : Int} (hn : NtS hi sn n) (hk : WK hi hm c tc s frs ret left N (nonceW (absW s.w) a n) K) :
    CallX Hval.prog 33 [.pointer (some ⟨c, 0, none⟩), .agg (bcells a).toArray, sl sn] (join hi hm) K := by
  have hwr := hN.room S.now hN30
  refine setNonce_ok (o := 0) S.dj S.chain (show (sCells s)[0]? = some (sl s.w.sA) from rfl) S.now.acc ha hn hwr.acc fun hi5 sA ys e5 hd5 gA hP => ?_
  have hset : setSeg (sCells s) 0 [sl sA] = sCells { s with w := { s.w with sA := sA, acc := ys } } := (sCells_set (by decide)).trans rfl
  rw [hset] at hd5 ⊢
  have b := (S.now.up e5)
  refine hk hi5 { s.w with sA := sA, acc := ys } e5 ((S.ext e5 (hd5.unput S.chain)).setW rfl rfl fun hl' hh => ⟨gA, b.wa, b.ws, b.ref, hh, b.logsE, b.temps, b.made, b.gone⟩) (put_sz hN hP (Nat.le_succ_of_le (getA_slots hN a))) ?_
  unfold absW nonceW
  congr 1
  funext b
  rw [absA_put hP]
  have : (withNonce (getA s.w.acc a) sn n).addr = a := getA_addr
  rw [this]
  rfl
theorem storeSt_ok (S : StOK hi hm c tc s frs ret left) (hN : s.w.sz N) (hN30 : N < 2 ^ 30) (ha : a.length = 20) {sk sv : Sl} {k v : Int} (hkey : NtS hi sk k) (hval : NtS hi sv v) (hk : WK hi hm c tc s frs ret left N (slotW (absW s.w) a k v) K) :
    CallX Hval.prog 322 [.pointer (some ⟨c, 0, none⟩), .agg (bcells a).toArray, sl sk, sl sv] (join hi hm) K := by
  have hwr := hN.room S.now hN30
  refine store_ok (o := 0) S.dj S.chain (show (sCells s)[0]? = some (sl s.w.sA) from rfl) S.now.acc ha hkey hval hwr.acc hwr.each fun hi5 sA ys SS YS e5 hd5 gA hI hP => ?_
  have hset : setSeg (sCells s) 0 [sl sA] = sCells { s with w := { s.w with sA := sA, acc := ys } } := (sCells_set (by decide)).trans rfl
  rw [hset] at hd5 ⊢
  have b := (S.now.up e5)
  refine hk hi5 { s.w with sA := sA, acc := ys } e5 ((S.ext e5 (hd5.unput S.chain)).setW rfl rfl fun hl' hh => ⟨gA, b.wa, b.ws, b.ref, hh, b.logsE, b.temps, b.made, b.gone⟩) (put_sz hN hP (Nat.le_trans hI.len (Nat.succ_le_succ (getA_slots hN a)))) ?_
  unfold absW slotW
  congr 1
  funext b
  rw [absA_put hP]
  have : (withSlots (getA s.w.acc a) SS YS).addr = a := getA_addr
  rw [this]
  congr 1
  unfold absA withSlots
  congr 1
  funext j
  exact getS_ins hI j
theorem warmSlotSt_ok (S : StOK hi hm c tc s frs ret left) (hN : s.w.sz N) (hN30 : N < 2 ^ 30) (ha : a.length = 20) {sk : Sl} {k : Int} (hkey : NtS hi sk k) (hk : WK hi hm c tc s frs ret left N (warmSW (absW s.w) a k) K) :
    CallX Hval.prog 38 [.pointer (some ⟨c, 0, none⟩), .agg (bcells a).toArray, sl sk] (join hi hm) K := by
  have hwr := hN.room S.now hN30
  refine warmSlot_ok (o := 0) S.dj S.chain (show (sCells s)[0 + 2]? = some (sl s.w.sWS) from rfl) S.now.ws ha hkey hwr.ws (fun hh => ?_) fun hi5 sW ys e5 hd5 gA hI => ?_
  · have h1 : hput hm c (sCells { s with w := s.w }, tc) = hm := hput_id S.chain
    have := hk hi s.w (Ext.refl _) (by rw [h1]; exact S) (hN.mono (Nat.le_succ _)) ?_
    · rwa [h1] at this
    · unfold warmSW absW
      congr 1
      funext b j
      by_cases hq : b = a ∧ j = k
      · rw [hq.1, hq.2]; simp [hh]
      · simp [hq]
  have hset : setSeg (sCells s) (0 + 2) [sl sW] = sCells { s with w := { s.w with sWS := sW, ws := ys } } := (sCells_set (by decide)).trans rfl
  rw [hset] at hd5 ⊢
  have b := (S.now.up e5)
  refine hk hi5 { s.w with sWS := sW, ws := ys } e5 ((S.ext e5 (hd5.unput S.chain)).setW rfl rfl fun hl' hh => ⟨b.acc, b.wa, gA, b.ref, hh, b.logsE, b.temps, b.made, b.gone⟩) ?_ ?_
  · have q := hN.mono (Nat.le_succ N)
    exact ⟨q.acc, q.each, q.wa, Nat.le_trans hI.len (Nat.succ_le_succ hN.ws), q.logs, q.temps, q.made, q.gone⟩
  · unfold absW warmSW
    congr 1
    funext b j
    exact hasM_ins hI b j
theorem tstoreSt_ok (S : StOK hi hm c tc s frs ret left) (hN : s.w.sz N) (hN30 : N < 2 ^ 30) (ha : a.length = 20) {sk sv : Sl} {k v : Int} (hkey : NtS hi sk k) (hval : NtS hi sv v) (hk : WK hi hm c tc s frs ret left N (tempW (absW s.w) a k v) K) :
    CallX Hval.prog 219 [.pointer (some ⟨c, 0, none⟩), .agg (bcells a).toArray, sl sk, sl sv] (join hi hm) K := by
  have hwr := hN.room S.now hN30
  refine tstore_ok (o := 0) S.dj S.chain (show (sCells s)[0 + 5]? = some (sl s.w.sT) from rfl) S.now.temps ha hkey hval hwr.temps fun hi5 sW ys e5 hd5 gA hI => ?_
  have hset : setSeg (sCells s) (0 + 5) [sl sW] = sCells { s with w := { s.w with sT := sW, temps := ys } } := (sCells_set (by decide)).trans rfl
  rw [hset] at hd5 ⊢
  have b := (S.now.up e5)
  refine hk hi5 { s.w with sT := sW, temps := ys } e5 ((S.ext e5 (hd5.unput S.chain)).setW rfl rfl fun hl' hh => ⟨b.acc, b.wa, b.ws, b.ref, hh, b.logsE, gA, b.made, b.gone⟩) ?_ ?_
  · have q := hN.mono (Nat.le_succ N)
    exact ⟨q.acc, q.each, q.wa, q.ws, q.logs, Nat.le_trans hI.len (Nat.succ_le_succ hN.temps), q.made, q.gone⟩
  · unfold absW tempW
    congr 1
    funext b j
    exact getT_ins hI b j
end
end Go.Proofs.YgvalwGreat.X
