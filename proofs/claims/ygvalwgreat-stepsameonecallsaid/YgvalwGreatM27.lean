import Derived.Test.YgvalwGreatM26
set_option linter.unusedVariables false
set_option linter.unusedSimpArgs false
namespace Go.Proofs.YgvalwGreat.X
open Go

section
variable {hi hm hb h : Hp} {K : Value → Hp → Prop} {v : VS} {eb : Nat} {m : MS} {t : Nat} {mems : Nat → List Int} {stale : List Int} {w : AW} {sn : List AW} {so : Sl} {l : List Int} {st s0 l0 S : Int}
theorem mend_ok (X : EX hi hm hb eb m t w sn v mems stale) (hgs : ∀ i, i ≤ t → (m.fr i).gas ≤ 1048576) (hS : 0 ≤ S ∧ S ≤ 1048576) (R : Rs S v sn) (hl : BytS hi so l) (hst0 : 0 ≤ st) (hst1 : st < 256)
    (hk : EnK hi eb m (S + ((m.fr t).gas - lvGA (frM m sn mems t) st l)) (leaveA (absM m t w sn mems s0 l0) (frsM m t sn mems) (frM m sn mems t) st l) s0 l0 (K (.tuple #[]))) :
    CallX Hval.prog 181 [.pointer (some ⟨eb, 0, none⟩), .int .u8 st, sl so] (join (join hi hm) hb) K := by
  by_cases h0 : st = 0
  · cases hmade : crK (m.fr t).kind with
    | true => exact end_m h0 hmade X hgs hS R hl hk
    | false => exact end_0n h0 hmade X hgs hS R hl hk
  · by_cases h1 : st = 1
    · exact end_1 h1 X hgs hS R hl hk
    · exact end_2 (by omega) hst1 X hgs hS R hl hk
theorem EnK.map {K' : Hp → Prop} {a : AS} {KK : Hp → Prop} (hk : EnK hi eb m S a s0 l0 KK) (h : ∀ h', KK h' → K' h') : EnK hi eb m S a s0 l0 K' := fun hi' hm' hb' m' w' sn' v' h1 h2 h3 h4 => h _ (hk hi' hm' hb' m' w' sn' v' h1 h2 h3 h4)
set_option maxRecDepth 100000 in
set_option maxHeartbeats 4000000 in
theorem fail_ok (X : EX hi hm hb eb m t w sn v mems stale) (hgs : ∀ i, i ≤ t → (m.fr i).gas ≤ 1048576) (hS : 0 ≤ S ∧ S ≤ 1048576) (R : Rs S v sn) (hst0 : 0 ≤ st) (hst1 : st < 256)
    (hk : EnK hi eb m (S + ((m.fr t).gas - lvGA (frM m sn mems t) st [])) (leaveA (absM m t w sn mems s0 l0) (frsM m t sn mems) (frM m sn mems t) st []) s0 l0 (K (.bool false))) :
    CallX Hval.prog 180 [.pointer (some ⟨eb, 0, none⟩), .int .u8 st] (join (join hi hm) hb) K := by
  refine CallX.of_xf T_ok Hval.func180 rfl (by kernel_rfl) (Nat.le_of_ble_eq_true rfl) ?_; conv => whnf
  refine mend_ok (s0 := s0) (l0 := l0) (so := nilS) X hgs hS R (Byt_nil hi) hst0 hst1 (hk.map fun h' hh => ?_)
  conv => whnf
  exact RetX.same hh
end
end Go.Proofs.YgvalwGreat.X
