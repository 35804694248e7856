import Derived.Test.YgvalwGreatV2
set_option linter.unusedVariables false
set_option linter.unusedSimpArgs false
namespace Go.Proofs.YgvalwGreat.X
open Go

def zz32 : List Int := List.replicate 32 0
def txC (sD : Sl) (g : Int) : List Value := bcells (adr 240) ++ (bcells (adr 1) ++ ([.bool false, .int .u64 0, .int .u64 g] ++ (bcells zz32 ++ (bcells zz32 ++ ([sl sD, .bool false] ++ (bcells zz32 ++ (bcells zz32 ++ [sl nilS])))))))
/-- What a transaction's data cost. -/
def zrs (l : List Int) : Nat := l.countP fun b => decide (b = 0)
def intr (l : List Int) : Int := 21000 + 4 * (zrs l : Int) + 16 * ((l.length : Int) - zrs l)
section
variable {h : Hp} {K : Value → Hp → Prop} {sD : Sl} {g : Int} {d : List Int} {b : Nat} {ty : TypeId}
theorem hput_idT {x : List Value × TypeId} (hb : h b = some x) : hput h b x = h := by
  funext c
  by_cases e : c = b
  · subst e; rw [hput_same, hb]
  · rw [hput_ne e]
theorem StoreX.id {c vs : List Value} {KK : Hp → Prop} (hb : h b = some (c, ty)) (hv : vs = c) (hk : KK h) : StoreX h b 0 vs KK := by
  refine StoreX.whole hb (by rw [hv]) ?_
  rw [hv, hput_idT hb]; exact hk
theorem tx_from (hb : h b = some (txC sD g, ty)) : ldV true 20 h b 0 = some (.agg (bcells (adr 240)).toArray) := by simp only [ldV, hb]; rfl
theorem tx_to (hb : h b = some (txC sD g, ty)) : ldV true 20 h b 20 = some (.agg (bcells (adr 1)).toArray) := by simp only [ldV, hb]; rfl
theorem tx_price (hb : h b = some (txC sD g, ty)) : ldV true 32 h b 43 = some (.agg (bcells zz32).toArray) := by simp only [ldV, hb]; rfl
theorem tx_value (hb : h b = some (txC sD g, ty)) : ldV true 32 h b 75 = some (.agg (bcells zz32).toArray) := by simp only [ldV, hb]; rfl
theorem tx_vbyt (hb : h b = some (txC sD g, ty)) : Byt h (some ⟨b, 75, none⟩) 32 32 zz32 := by
  refine ⟨?_, isB_zeros _, Nat.le_refl _, (fun h => by cases h), by decide⟩
  simp only [rd, hb]; rfl
theorem bv_zz32 : bv zz32 = 0 := rfl
theorem zrs_le (l : List Int) : zrs l ≤ l.length := List.countP_le_length
theorem intr_bd : 21000 ≤ intr d ∧ intr d ≤ 21000 + 16 * d.length := by
  have := zrs_le d
  unfold intr; omega
theorem zrs_succ {i : Nat} (hi : i < d.length) : zrs (d.take (i + 1)) = zrs (d.take i) + if d.getD i 0 = 0 then 1 else 0 := by
  rw [List.getD_eq_getElem?_getD, List.getElem?_eq_getElem hi, Option.getD_some]
  unfold zrs
  rw [List.take_succ_eq_append_getElem hi, List.countP_append]
  simp [List.countP_cons]
set_option maxRecDepth 100000 in
set_option maxHeartbeats 4000000 in
theorem listOK_ok (hb : h b = some (txC sD g, ty)) (hk : K (.bool true) h) : CallX Hval.prog 86 [.pointer (some ⟨b, 0, none⟩)] h K := by
  refine CallX.of_xf T_ok Hval.func86 rfl (by kernel_rfl) (Nat.le_of_ble_eq_true rfl) ?_; conv => whnf
  refine LoadX.blk hb (sl nilS) rfl ?_; conv => whnf
  repeat (first | (refine CondX.tt ?_; conv => whnf) | (refine CondX.ff ?_; conv => whnf))
  refine LoadX.blk hb (sl nilS) rfl ?_; conv => whnf
  refine LoopX.st T_ok Hval.func86 (σ := Unit) (fun _ => [(16, .int .i64 0), (17, .int .i64 0)]) (fun _ h' => h' = h) (fun _ => 0) () ⟨rfl, rfl, trivial⟩ rfl ?_
  rintro i ρ h' rfl ih
  conv => whnf
  repeat (first | (refine CondX.tt ?_; conv => whnf) | (refine CondX.ff ?_; conv => whnf))
  exact RetX.same hk
set_option maxRecDepth 100000 in
set_option maxHeartbeats 4000000 in
theorem fees_ok (hb : h b = some (txC sD g, ty)) (hk : K (.tuple #[.agg (bcells zz32).toArray, .agg (bcells zz32).toArray]) h) : CallX Hval.prog 84 [.pointer (some ⟨b, 0, none⟩)] h K := by
  refine CallX.of_xf T_ok Hval.func84 rfl (by kernel_rfl) (Nat.le_of_ble_eq_true rfl) ?_; conv => whnf
  refine BoxX.ext fun m2 hm2 em2 => ?_; conv => whnf
  refine BoxX.ext fun m3 hm3 em3 => ?_; conv => whnf
  have n2 := hm2.at
  have h23 : m2 ≠ m3 := fun e => by have := hm3.at; rw [← e, hput_same] at this; cases this
  have n3 : h m3 = none := noneE em2 hm3.at
  have hb2 := em3 _ _ (em2 _ _ hb)
  refine LoadX.blk hb2 (.bool false) rfl ?_; conv => whnf
  repeat (first | (refine CondX.tt ?_; conv => whnf) | (refine CondX.ff ?_; conv => whnf))
  refine DrawX.go T_ok hM Hval.func84 (tb := dr84) rfl (by kernel_rfl) ?_; conv => whnf
  refine LoadX.of _ (tx_price hb2) ?_; conv => whnf
  refine LoadX.of _ (tx_price hb2) ?_; conv => whnf
  refine Ob.mk ⟨rfl, rfl⟩ ?_; conv => whnf
  refine StoreX.whole (c := (33, y33).snd.zero) (t := 33) (by rw [hput_ne h23]; exact hput_same ..) rfl ?_; conv => whnf
  have eK := Ext.keep (x := ((bcells zz32).toArray.toList, 33)) (em2.trans em3) n2
  repeat (refine Ob.mk (by exact tx_price (eK _ _ hb)) ?_; conv => whnf)
  refine Ob.mk ⟨rfl, rfl⟩ ?_; conv => whnf
  refine StoreX.whole (c := (33, y33).snd.zero) (t := 33) (by rw [hput_ne h23.symm]; exact hput_same ..) rfl ?_; conv => whnf
  refine LoadX.all (c := bcells zz32) (by rw [hput_ne h23]; exact hput_same ..) rfl ?_; conv => whnf
  refine LoadX.all (c := bcells zz32) (hput_same ..) rfl ?_; conv => whnf
  exact RetX.drop (Ext.keep eK n3) hk
set_option maxRecDepth 100000 in
set_option maxHeartbeats 4000000 in
theorem efees_ok (hk : K (.tuple #[.agg (wc 0).toArray, .agg (wc 0).toArray]) h) : CallX Hval.prog 144 [.agg (txC sD g).toArray] h K := by
  refine CallX.of_xf T_ok Hval.func144 rfl (by kernel_rfl) (Nat.le_of_ble_eq_true rfl) ?_; conv => whnf
  refine BoxX.ext fun m1 hm1 em1 => ?_; conv => whnf
  refine BoxX.ext fun m2 hm2 em2 => ?_; conv => whnf
  refine BoxX.ext fun m3 hm3 em3 => ?_; conv => whnf
  have b1 : _ = some (txC sD g, 40) := em3 _ _ (em2 _ _ (hput_same ..))
  have h23 : m2 ≠ m3 := fun e => by have := hm3.at; rw [← e, hput_same] at this; cases this
  have n2 : h m2 = none := noneE em1 hm2.at
  have n3 : h m3 = none := noneE (em1.trans em2) hm3.at
  have b2 : _ = some (wc 0, 75) := em3 _ _ (hput_same ..)
  have b3 : hput (hput (hput h m1 ((txC sD g).toArray.toList, 40)) m2 ((75, y75).snd.zero, 75)) m3 ((75, y75).snd.zero, 75) m3 = some (wc 0, 75) := hput_same ..
  have eA := (em1.trans em2).trans em3
  generalize hput (hput (hput h m1 ((txC sD g).toArray.toList, 40)) m2 ((75, y75).snd.zero, 75)) m3 ((75, y75).snd.zero, 75) = H at *
  refine fees_ok b1 ?_; conv => whnf
  refine BoxX.ext fun m4 hm4 em4 => ?_; conv => whnf
  refine BoxX.ext fun m5 hm5 em5 => ?_; conv => whnf
  refine Ob.mk ⟨rfl, rfl⟩ ?_; conv => whnf
  have h45 : m4 ≠ m5 := fun e => by have := hm5.at; rw [← e, hput_same] at this; cases this
  refine StoreX.whole (c := (33, y33).snd.zero) (t := 33) (by rw [hput_ne h45]; exact hput_same ..) rfl ?_; conv => whnf
  refine Ob.mk ⟨rfl, rfl⟩ ?_; conv => whnf
  refine StoreX.whole (c := (33, y33).snd.zero) (t := 33) (by rw [hput_ne h45.symm]; exact hput_same ..) rfl ?_; conv => whnf
  have b5 : hput (hput (hput (hput H m4 ((33, y33).snd.zero, 33)) m5 ((33, y33).snd.zero, 33)) m4 ((bcells zz32).toArray.toList, 33)) m5 ((bcells zz32).toArray.toList, 33) m5 = some (bcells zz32, 33) := hput_same ..
  have b4 : hput (hput (hput (hput H m4 ((33, y33).snd.zero, 33)) m5 ((33, y33).snd.zero, 33)) m4 ((bcells zz32).toArray.toList, 33)) m5 ((bcells zz32).toArray.toList, 33) m4 = some (bcells zz32, 33) := by rw [hput_ne h45]; exact hput_same ..
  have eB : Ext H (hput (hput (hput (hput H m4 ((33, y33).snd.zero, 33)) m5 ((33, y33).snd.zero, 33)) m4 ((bcells zz32).toArray.toList, 33)) m5 ((bcells zz32).toArray.toList, 33)) := Ext.keep (Ext.keep (em4.trans em5) hm4.at) (noneE em4 hm5.at)
  generalize hput (hput (hput (hput H m4 ((33, y33).snd.zero, 33)) m5 ((33, y33).snd.zero, 33)) m4 ((bcells zz32).toArray.toList, 33)) m5 ((bcells zz32).toArray.toList, 33) = H2 at *
  refine DrawX.go T_ok hM Hval.func144 (tb := dr144) rfl (by kernel_rfl) ?_; conv => whnf
  refine LoadX.all (c := bcells zz32) b4 rfl ?_; conv => whnf
  refine LoadX.all (c := bcells zz32) b5 rfl ?_; conv => whnf
  refine fromBytes_ok (l := zz32) rfl (isB_zeros _) ?_; conv => whnf
  repeat (refine Ob.mk (by first | exact ldV_all b4 rfl | exact ldV_all b5 rfl) ?_; conv => whnf)
  refine fromBytes_ok (l := zz32) rfl (isB_zeros _) ?_; conv => whnf
  repeat (refine Ob.mk (by first | exact ldV_all b4 rfl | exact ldV_all b5 rfl) ?_; conv => whnf)
  rw [bv_zz32]
  refine Ob.mk ⟨rfl, rfl⟩ ?_; conv => whnf
  refine StoreX.id (eB _ _ b2) rfl ?_; conv => whnf
  refine Ob.mk ⟨rfl, rfl⟩ ?_; conv => whnf
  refine StoreX.id (eB _ _ b3) rfl ?_; conv => whnf
  refine LoadX.all (eB _ _ b2) rfl ?_; conv => whnf
  refine LoadX.all (eB _ _ b3) rfl ?_; conv => whnf
  exact RetX.drop (eA.trans eB) hk
set_option maxRecDepth 100000 in
set_option maxHeartbeats 4000000 in
theorem eIntr_ok (hD : Byt h sD.1 sD.2.1 sD.2.2 d) (hd : d.length ≤ 1024) (hk : K (.int .u64 (intr d)) h) : CallX Hval.prog 70 [.agg (txC sD g).toArray] h K := by
  have hl := hD.len
  refine CallX.of_xf T_ok Hval.func70 rfl (by kernel_rfl) (Nat.le_of_ble_eq_true rfl) ?_; conv => whnf
  refine BoxX.ext fun m1 hm1 em1 => ?_; conv => whnf
  have b1 : _ = some (txC sD g, 40) := hput_same (h := h) (b := m1) ..
  refine LoadX.blk b1 (sl sD) rfl ?_; conv => whnf
  have hD1 := hD.ext em1
  have b1 : hput h m1 ((txC sD g).toArray.toList, 40) m1 = some (txC sD g, 40) := hput_same ..
  generalize hput h m1 ((txC sD g).toArray.toList, 40) = H at *
  refine LoopX.st T_ok Hval.func70 (σ := Nat) (fun i => [(1, .pointer (some ⟨m1, 0, none⟩)), (3, .int .u64 (21000 + 4 * (zrs (d.take i) : Int) + 16 * ((i : Int) - zrs (d.take i)))), (9, sl sD), (10, .int .i64 sD.2.1), (11, .int .i64 i)])
    (fun i h' => i ≤ sD.2.1 ∧ h' = H) (fun i => sD.2.1 - i) 0 ⟨rfl, rfl, rfl, rfl, rfl, trivial⟩ ⟨Nat.zero_le _, rfl⟩ ?_
  rintro i ρ h' ⟨hi, rfl⟩ ih
  conv => whnf
  refine CondX.decI (fun hp => ?_) (fun hp => ?_) <;> conv => whnf
  · refine IdxX.rd hD1.rd (by omega) (by omega) fun b2 o2 e2 _ => ?_; conv => whnf
    refine LoadX.byte hD1 e2 i rfl (by omega) rfl ?_; conv => whnf
    have hz := zrs_succ (d := d) (i := i) (by omega)
    have hzl := zrs_le (d.take i)
    rw [List.length_take] at hzl
    refine CondX.neI (fun hne => ?_) (fun heq => ?_) <;> conv => whnf
    · rw [if_neg hne] at hz
      refine ih (i + 1) _ _ ⟨by omega, rfl⟩ (by omega) ⟨rfl, congrArg (Value.int .u64) ?_, rfl, rfl, congrArg (Value.int .i64) (wsucc (by omega)), trivial⟩
      rw [wrap_u64', wrap_u64', hz]
      omega
    · rw [if_pos heq] at hz
      refine ih (i + 1) _ _ ⟨by omega, rfl⟩ (by omega) ⟨rfl, congrArg (Value.int .u64) ?_, rfl, rfl, congrArg (Value.int .i64) (wsucc (by omega)), trivial⟩
      rw [wrap_u64', hz]
      omega
  · have hp : i = d.length := by omega
    subst hp
    rw [List.take_length]
    refine LoadX.blk b1 (sl nilS) rfl ?_; conv => whnf
    refine LoopX.st T_ok Hval.func70 (σ := Unit) (fun _ => [(1, .pointer (some ⟨m1, 0, none⟩)), (3, .int .u64 (21000 + 4 * (zrs d : Int) + 16 * ((d.length : Int) - zrs d))), (24, .int .i64 0), (25, .int .i64 0)]) (fun _ h2 => h2 = h') (fun _ => 0) () ⟨rfl, rfl, rfl, rfl, trivial⟩ rfl ?_
    rintro _ ρ2 h2 rfl ih2
    conv => whnf
    repeat (first | (refine CondX.tt ?_; conv => whnf) | (refine CondX.ff ?_; conv => whnf))
    refine LoadX.blk b1 (.bool false) rfl ?_; conv => whnf
    repeat (first | (refine CondX.tt ?_; conv => whnf) | (refine CondX.ff ?_; conv => whnf))
    exact RetX.drop em1 hk
end
end Go.Proofs.YgvalwGreat.X
