import Derived.Test.YgvalwGreatF18
set_option linter.unusedVariables false
set_option linter.unusedSimpArgs false
namespace Go.Proofs.YgvalwGreat.X
open Go

section
variable {h : Hp} {K : Value → Hp → Prop} {ba bb bc : Option Addr} {na ca nb cb nc cc : Nat} {x y z : Int}

def bitD (o : Nat) (x y : Int) : Int :=
  if o = 22 then ((x.toNat &&& y.toNat : Nat) : Int) else if o = 23 then ((x.toNat ||| y.toNat : Nat) : Int) else if o = 24 then ((x.toNat ^^^ y.toNat : Nat) : Int) else 255 - x

theorem bitD_dig {o : Nat} {a b : Int} (h0 : 0 ≤ a) (h1 : a < W) (h2 : 0 ≤ b) {j : Nat} (hj : j < 32) : bitD o (a / 256 ^ j % 256) (b / 256 ^ j % 256) = bitOp o a b / 256 ^ j % 256 := by
  unfold bitD bitOp
  split
  · exact and_dig h0 h2 j
  · split
    · exact or_dig h0 h2 j
    · split
      · exact xor_dig h0 h2 j
      · exact not_dig h0 h1 hj

theorem bitD_bd {o : Nat} {x y : Int} (h0 : 0 ≤ x) (h1 : x < 256) (h2 : 0 ≤ y) (h3 : y < 256) : 0 ≤ bitD o x y ∧ bitD o x y < 256 := by
  unfold bitD
  have a1 := Nat.and_lt_two_pow x.toNat (y := y.toNat) (n := 8) (by omega)
  have a2 := Nat.or_lt_two_pow (x := x.toNat) (y := y.toNat) (n := 8) (by omega) (by omega)
  have a3 := Nat.xor_lt_two_pow (x := x.toNat) (y := y.toNat) (n := 8) (by omega) (by omega)
  split
  · omega
  · split
    · omega
    · split <;> omega

theorem toNat_bd {x : Int} (h0 : 0 ≤ x) (h1 : x < W) : x.toNat < 2 ^ 256 := by
  have e : W = ((2 ^ 256 : Nat) : Int) := by rw [W_val]; decide
  omega

theorem bitOp_bd {o : Nat} {x y : Int} (h0 : 0 ≤ x) (h1 : x < W) (h2 : 0 ≤ y) (h3 : y < W) : 0 ≤ bitOp o x y ∧ bitOp o x y < W := by
  have e : W = ((2 ^ 256 : Nat) : Int) := by rw [W_val]; decide
  have b1 := toNat_bd h0 h1
  have b2 := toNat_bd h2 h3
  unfold bitOp
  have a1 := Nat.and_lt_two_pow x.toNat (y := y.toNat) (n := 256) (by omega)
  have a2 := Nat.or_lt_two_pow (x := x.toNat) (y := y.toNat) (n := 256) (by omega) (by omega)
  have a3 := Nat.xor_lt_two_pow (x := x.toNat) (y := y.toNat) (n := 256) (by omega) (by omega)
  split
  · omega
  · split
    · omega
    · split <;> omega



set_option maxRecDepth 100000 in
theorem bitwise_ok {o : Nat} (ho : o = 22 ∨ o = 23 ∨ o = 24 ∨ o = 25) (ha : Nt h ba na ca x) (hb : Nt h bb nb cb y) (hx : x < W) (hy : y < W)
    (hk : ∀ b n c h', Ext h h' → Nt h' b n c (bitOp o x y) → K (.slice b n c) h') : CallX Hval.prog 319 [.int .u8 o, .slice ba na ca, .slice bb nb cb] h K := by
  obtain ⟨la, ha, rfl, -⟩ := ha; obtain ⟨lb, hb, rfl, -⟩ := hb
  refine CallX.of_xf T_ok Hval.func319 rfl (by kernel_rfl) (Nat.le_of_ble_eq_true rfl) ?_; conv => whnf
  have hla := ha.len
  have hlb := hb.len
  have hra := ha.room
  have hrb := hb.room
  refine MakeX.bytes 32 rfl (by omega) fun m hm => ?_; conv => whnf
  refine LoopX.st T_ok Hval.func319 (σ := Nat × List Int) (fun s => [(0, .int .u8 o), (1, .slice ba na ca), (2, .slice bb nb cb), (7, .slice (some ⟨m, 0, none⟩) 32 32), (13, .int .i64 32), (14, .int .i64 s.1)])
    (fun s h2 => s.1 ≤ 32 ∧ s.2.length = 32 ∧ isB s.2 ∧ h2 = hput h m (bcells s.2, 5) ∧ ∀ j, j < s.1 → s.2.getD j 0 = bitD o (la.getD j 0) (lb.getD j 0)) (fun s => 32 - s.1) (0, List.replicate 32 0)
    ⟨rfl, rfl, rfl, rfl, rfl, rfl, trivial⟩ ⟨Nat.zero_le _, by simp, isB_zeros _, rfl, fun j hj => by simp at hj⟩ ?_
  rintro ⟨i, out⟩ ρ2 h2 ⟨hi, hol, hob, rfl, heq⟩ ih
  simp only at hi hol hob heq ⊢
  conv => whnf
  have ha' := ha.ext (Ext.bd (x := (bcells out, 5)) hm)
  have hb' := hb.ext (Ext.bd (x := (bcells out, 5)) hm)
  have gx := ha.isB.get i
  have gy := hb.isB.get i
  refine CondX.mk (fun hc => ?_) (fun hc => ?_) <;> conv => whnf
  · have hc : i < 32 := by have := of_decide_eq_true hc; omega
    refine CondX.mk (fun hc1 => ?_) (fun hc1 => ?_) <;> conv => whnf
    · have hc1 : i < na := by have := of_decide_eq_true hc1; omega
      refine IdxX.rd ha'.rd (by omega) (by omega) fun b1 o1 e1 _ => ?_; conv => whnf
      refine LoadX.byte ha' e1 i rfl (by omega) rfl ?_; conv => whnf
      refine CondX.mk (fun hc2 => ?_) (fun hc2 => ?_) <;> conv => whnf
      · have hc2 : i < nb := by have := of_decide_eq_true hc2; omega
        refine IdxX.rd hb'.rd (by omega) (by omega) fun b1 o1 e1 _ => ?_; conv => whnf
        refine LoadX.byte hb' e1 i rfl (by omega) rfl ?_; conv => whnf
        have hX : la.getD i 0 = la.getD i 0 := rfl
        have hY : lb.getD i 0 = lb.getD i 0 := rfl
        have gX : 0 ≤ (la.getD i 0) ∧ (la.getD i 0) < 256 := by omega
        have gY : 0 ≤ (lb.getD i 0) ∧ (lb.getD i 0) < 256 := by omega
        have bd := bitD_bd (o := o) gx.1 gx.2 gy.1 gy.2
        refine CondX.mk (fun h22 => ?_) (fun h22 => ?_) <;> conv => whnf
        · have h22 : o = 22 := by have := eq_of_beq h22; omega
          refine IdxX.at (by omega) (by omega) ?_; conv => whnf
          refine StoreX.bix i rfl rfl (by omega) ?_; conv => whnf
          have ev := (show IntKind.u8.wrap (BitVec.ofInt 8 (la.getD i 0) &&& BitVec.ofInt 8 (lb.getD i 0)).toNat = bitD o (la.getD i 0) (lb.getD i 0) by rw [hX, hY, and_u8 gX.1 gX.2 gY.1 gY.2]; simp [bitD, h22])
          refine ih (i + 1, out.set i (bitD o (la.getD i 0) (lb.getD i 0))) _ _ ⟨by dsimp only; omega, by simpa using hol, hob.set bd.1 bd.2, ?_, ?_⟩ (by dsimp only; omega) ⟨rfl, rfl, rfl, rfl, rfl, ?_, trivial⟩
          · exact congrArg (fun v => hput h m (bcells (out.set i v), 5)) ev
          · intro j hj
            dsimp only at hj ⊢
            by_cases hji : j = i
            · subst hji; rw [getD_set_same (by omega)]
            · rw [getD_set_other hji]; exact heq j (by omega)
          · exact congrArg (Value.int .i64) (wsucc (by omega))
        refine CondX.mk (fun h23 => ?_) (fun h23 => ?_) <;> conv => whnf
        · have h23 : o = 23 := by have := eq_of_beq h23; omega
          refine IdxX.at (by omega) (by omega) ?_; conv => whnf
          refine StoreX.bix i rfl rfl (by omega) ?_; conv => whnf
          have ev := (show IntKind.u8.wrap (BitVec.ofInt 8 (la.getD i 0) ||| BitVec.ofInt 8 (lb.getD i 0)).toNat = bitD o (la.getD i 0) (lb.getD i 0) by rw [hX, hY, or_u8 gX.1 gX.2 gY.1 gY.2]; simp [bitD, h23])
          refine ih (i + 1, out.set i (bitD o (la.getD i 0) (lb.getD i 0))) _ _ ⟨by dsimp only; omega, by simpa using hol, hob.set bd.1 bd.2, ?_, ?_⟩ (by dsimp only; omega) ⟨rfl, rfl, rfl, rfl, rfl, ?_, trivial⟩
          · exact congrArg (fun v => hput h m (bcells (out.set i v), 5)) ev
          · intro j hj
            dsimp only at hj ⊢
            by_cases hji : j = i
            · subst hji; rw [getD_set_same (by omega)]
            · rw [getD_set_other hji]; exact heq j (by omega)
          · exact congrArg (Value.int .i64) (wsucc (by omega))
        refine CondX.mk (fun h24 => ?_) (fun h24 => ?_) <;> conv => whnf
        · have h24 : o = 24 := by have := eq_of_beq h24; omega
          refine IdxX.at (by omega) (by omega) ?_; conv => whnf
          refine StoreX.bix i rfl rfl (by omega) ?_; conv => whnf
          have ev := (show IntKind.u8.wrap (BitVec.ofInt 8 (la.getD i 0) ^^^ BitVec.ofInt 8 (lb.getD i 0)).toNat = bitD o (la.getD i 0) (lb.getD i 0) by rw [hX, hY, xor_u8 gX.1 gX.2 gY.1 gY.2]; simp [bitD, h24])
          refine ih (i + 1, out.set i (bitD o (la.getD i 0) (lb.getD i 0))) _ _ ⟨by dsimp only; omega, by simpa using hol, hob.set bd.1 bd.2, ?_, ?_⟩ (by dsimp only; omega) ⟨rfl, rfl, rfl, rfl, rfl, ?_, trivial⟩
          · exact congrArg (fun v => hput h m (bcells (out.set i v), 5)) ev
          · intro j hj
            dsimp only at hj ⊢
            by_cases hji : j = i
            · subst hji; rw [getD_set_same (by omega)]
            · rw [getD_set_other hji]; exact heq j (by omega)
          · exact congrArg (Value.int .i64) (wsucc (by omega))
        refine CondX.mk (fun h25 => ?_) (fun h25 => ?_) <;> conv => whnf
        · have h25 : o = 25 := by have := eq_of_beq h25; omega
          refine IdxX.at (by omega) (by omega) ?_; conv => whnf
          refine StoreX.bix i rfl rfl (by omega) ?_; conv => whnf
          have ev := (show IntKind.u8.wrap (BitVec.ofInt 8 (255 : Int) ^^^ BitVec.ofInt 8 (la.getD i 0)).toNat = bitD o (la.getD i 0) (lb.getD i 0) by rw [hX, hY, not_u8 gX.1 gX.2]; simp [bitD, h25])
          refine ih (i + 1, out.set i (bitD o (la.getD i 0) (lb.getD i 0))) _ _ ⟨by dsimp only; omega, by simpa using hol, hob.set bd.1 bd.2, ?_, ?_⟩ (by dsimp only; omega) ⟨rfl, rfl, rfl, rfl, rfl, ?_, trivial⟩
          · exact congrArg (fun v => hput h m (bcells (out.set i v), 5)) ev
          · intro j hj
            dsimp only at hj ⊢
            by_cases hji : j = i
            · subst hji; rw [getD_set_same (by omega)]
            · rw [getD_set_other hji]; exact heq j (by omega)
          · exact congrArg (Value.int .i64) (wsucc (by omega))
        · exfalso
          have := ne_of_beq_false h22
          have := ne_of_beq_false h23
          have := ne_of_beq_false h24
          have := ne_of_beq_false h25
          omega
      · have hc2 : nb ≤ i := by have := of_decide_eq_false hc2; omega
        have hX : la.getD i 0 = la.getD i 0 := rfl
        have hY : lb.getD i 0 = 0 := getD_nil (by omega)
        have gX : 0 ≤ (la.getD i 0) ∧ (la.getD i 0) < 256 := by omega
        have gY : 0 ≤ (0 : Int) ∧ (0 : Int) < 256 := by omega
        have bd := bitD_bd (o := o) gx.1 gx.2 gy.1 gy.2
        refine CondX.mk (fun h22 => ?_) (fun h22 => ?_) <;> conv => whnf
        · have h22 : o = 22 := by have := eq_of_beq h22; omega
          refine IdxX.at (by omega) (by omega) ?_; conv => whnf
          refine StoreX.bix i rfl rfl (by omega) ?_; conv => whnf
          have ev := (show IntKind.u8.wrap (BitVec.ofInt 8 (la.getD i 0) &&& BitVec.ofInt 8 (0 : Int)).toNat = bitD o (la.getD i 0) (lb.getD i 0) by rw [hX, hY, and_u8 gX.1 gX.2 gY.1 gY.2]; simp [bitD, h22])
          refine ih (i + 1, out.set i (bitD o (la.getD i 0) (lb.getD i 0))) _ _ ⟨by dsimp only; omega, by simpa using hol, hob.set bd.1 bd.2, ?_, ?_⟩ (by dsimp only; omega) ⟨rfl, rfl, rfl, rfl, rfl, ?_, trivial⟩
          · exact congrArg (fun v => hput h m (bcells (out.set i v), 5)) ev
          · intro j hj
            dsimp only at hj ⊢
            by_cases hji : j = i
            · subst hji; rw [getD_set_same (by omega)]
            · rw [getD_set_other hji]; exact heq j (by omega)
          · exact congrArg (Value.int .i64) (wsucc (by omega))
        refine CondX.mk (fun h23 => ?_) (fun h23 => ?_) <;> conv => whnf
        · have h23 : o = 23 := by have := eq_of_beq h23; omega
          refine IdxX.at (by omega) (by omega) ?_; conv => whnf
          refine StoreX.bix i rfl rfl (by omega) ?_; conv => whnf
          have ev := (show IntKind.u8.wrap (BitVec.ofInt 8 (la.getD i 0) ||| BitVec.ofInt 8 (0 : Int)).toNat = bitD o (la.getD i 0) (lb.getD i 0) by rw [hX, hY, or_u8 gX.1 gX.2 gY.1 gY.2]; simp [bitD, h23])
          refine ih (i + 1, out.set i (bitD o (la.getD i 0) (lb.getD i 0))) _ _ ⟨by dsimp only; omega, by simpa using hol, hob.set bd.1 bd.2, ?_, ?_⟩ (by dsimp only; omega) ⟨rfl, rfl, rfl, rfl, rfl, ?_, trivial⟩
          · exact congrArg (fun v => hput h m (bcells (out.set i v), 5)) ev
          · intro j hj
            dsimp only at hj ⊢
            by_cases hji : j = i
            · subst hji; rw [getD_set_same (by omega)]
            · rw [getD_set_other hji]; exact heq j (by omega)
          · exact congrArg (Value.int .i64) (wsucc (by omega))
        refine CondX.mk (fun h24 => ?_) (fun h24 => ?_) <;> conv => whnf
        · have h24 : o = 24 := by have := eq_of_beq h24; omega
          refine IdxX.at (by omega) (by omega) ?_; conv => whnf
          refine StoreX.bix i rfl rfl (by omega) ?_; conv => whnf
          have ev := (show IntKind.u8.wrap (BitVec.ofInt 8 (la.getD i 0) ^^^ BitVec.ofInt 8 (0 : Int)).toNat = bitD o (la.getD i 0) (lb.getD i 0) by rw [hX, hY, xor_u8 gX.1 gX.2 gY.1 gY.2]; simp [bitD, h24])
          refine ih (i + 1, out.set i (bitD o (la.getD i 0) (lb.getD i 0))) _ _ ⟨by dsimp only; omega, by simpa using hol, hob.set bd.1 bd.2, ?_, ?_⟩ (by dsimp only; omega) ⟨rfl, rfl, rfl, rfl, rfl, ?_, trivial⟩
          · exact congrArg (fun v => hput h m (bcells (out.set i v), 5)) ev
          · intro j hj
            dsimp only at hj ⊢
            by_cases hji : j = i
            · subst hji; rw [getD_set_same (by omega)]
            · rw [getD_set_other hji]; exact heq j (by omega)
          · exact congrArg (Value.int .i64) (wsucc (by omega))
        refine CondX.mk (fun h25 => ?_) (fun h25 => ?_) <;> conv => whnf
        · have h25 : o = 25 := by have := eq_of_beq h25; omega
          refine IdxX.at (by omega) (by omega) ?_; conv => whnf
          refine StoreX.bix i rfl rfl (by omega) ?_; conv => whnf
          have ev := (show IntKind.u8.wrap (BitVec.ofInt 8 (255 : Int) ^^^ BitVec.ofInt 8 (la.getD i 0)).toNat = bitD o (la.getD i 0) (lb.getD i 0) by rw [hX, hY, not_u8 gX.1 gX.2]; simp [bitD, h25])
          refine ih (i + 1, out.set i (bitD o (la.getD i 0) (lb.getD i 0))) _ _ ⟨by dsimp only; omega, by simpa using hol, hob.set bd.1 bd.2, ?_, ?_⟩ (by dsimp only; omega) ⟨rfl, rfl, rfl, rfl, rfl, ?_, trivial⟩
          · exact congrArg (fun v => hput h m (bcells (out.set i v), 5)) ev
          · intro j hj
            dsimp only at hj ⊢
            by_cases hji : j = i
            · subst hji; rw [getD_set_same (by omega)]
            · rw [getD_set_other hji]; exact heq j (by omega)
          · exact congrArg (Value.int .i64) (wsucc (by omega))
        · exfalso
          have := ne_of_beq_false h22
          have := ne_of_beq_false h23
          have := ne_of_beq_false h24
          have := ne_of_beq_false h25
          omega
    · have hc1 : na ≤ i := by have := of_decide_eq_false hc1; omega
      have hX : la.getD i 0 = 0 := getD_nil (by omega)
      refine CondX.mk (fun hc2 => ?_) (fun hc2 => ?_) <;> conv => whnf
      · have hc2 : i < nb := by have := of_decide_eq_true hc2; omega
        refine IdxX.rd hb'.rd (by omega) (by omega) fun b1 o1 e1 _ => ?_; conv => whnf
        refine LoadX.byte hb' e1 i rfl (by omega) rfl ?_; conv => whnf
        have hY : lb.getD i 0 = lb.getD i 0 := rfl
        have gX : 0 ≤ (0 : Int) ∧ (0 : Int) < 256 := by omega
        have gY : 0 ≤ (lb.getD i 0) ∧ (lb.getD i 0) < 256 := by omega
        have bd := bitD_bd (o := o) gx.1 gx.2 gy.1 gy.2
        refine CondX.mk (fun h22 => ?_) (fun h22 => ?_) <;> conv => whnf
        · have h22 : o = 22 := by have := eq_of_beq h22; omega
          refine IdxX.at (by omega) (by omega) ?_; conv => whnf
          refine StoreX.bix i rfl rfl (by omega) ?_; conv => whnf
          have ev := (show IntKind.u8.wrap (BitVec.ofInt 8 (0 : Int) &&& BitVec.ofInt 8 (lb.getD i 0)).toNat = bitD o (la.getD i 0) (lb.getD i 0) by rw [hX, hY, and_u8 gX.1 gX.2 gY.1 gY.2]; simp [bitD, h22])
          refine ih (i + 1, out.set i (bitD o (la.getD i 0) (lb.getD i 0))) _ _ ⟨by dsimp only; omega, by simpa using hol, hob.set bd.1 bd.2, ?_, ?_⟩ (by dsimp only; omega) ⟨rfl, rfl, rfl, rfl, rfl, ?_, trivial⟩
          · exact congrArg (fun v => hput h m (bcells (out.set i v), 5)) ev
          · intro j hj
            dsimp only at hj ⊢
            by_cases hji : j = i
            · subst hji; rw [getD_set_same (by omega)]
            · rw [getD_set_other hji]; exact heq j (by omega)
          · exact congrArg (Value.int .i64) (wsucc (by omega))
        refine CondX.mk (fun h23 => ?_) (fun h23 => ?_) <;> conv => whnf
        · have h23 : o = 23 := by have := eq_of_beq h23; omega
          refine IdxX.at (by omega) (by omega) ?_; conv => whnf
          refine StoreX.bix i rfl rfl (by omega) ?_; conv => whnf
          have ev := (show IntKind.u8.wrap (BitVec.ofInt 8 (0 : Int) ||| BitVec.ofInt 8 (lb.getD i 0)).toNat = bitD o (la.getD i 0) (lb.getD i 0) by rw [hX, hY, or_u8 gX.1 gX.2 gY.1 gY.2]; simp [bitD, h23])
          refine ih (i + 1, out.set i (bitD o (la.getD i 0) (lb.getD i 0))) _ _ ⟨by dsimp only; omega, by simpa using hol, hob.set bd.1 bd.2, ?_, ?_⟩ (by dsimp only; omega) ⟨rfl, rfl, rfl, rfl, rfl, ?_, trivial⟩
          · exact congrArg (fun v => hput h m (bcells (out.set i v), 5)) ev
          · intro j hj
            dsimp only at hj ⊢
            by_cases hji : j = i
            · subst hji; rw [getD_set_same (by omega)]
            · rw [getD_set_other hji]; exact heq j (by omega)
          · exact congrArg (Value.int .i64) (wsucc (by omega))
        refine CondX.mk (fun h24 => ?_) (fun h24 => ?_) <;> conv => whnf
        · have h24 : o = 24 := by have := eq_of_beq h24; omega
          refine IdxX.at (by omega) (by omega) ?_; conv => whnf
          refine StoreX.bix i rfl rfl (by omega) ?_; conv => whnf
          have ev := (show IntKind.u8.wrap (BitVec.ofInt 8 (0 : Int) ^^^ BitVec.ofInt 8 (lb.getD i 0)).toNat = bitD o (la.getD i 0) (lb.getD i 0) by rw [hX, hY, xor_u8 gX.1 gX.2 gY.1 gY.2]; simp [bitD, h24])
          refine ih (i + 1, out.set i (bitD o (la.getD i 0) (lb.getD i 0))) _ _ ⟨by dsimp only; omega, by simpa using hol, hob.set bd.1 bd.2, ?_, ?_⟩ (by dsimp only; omega) ⟨rfl, rfl, rfl, rfl, rfl, ?_, trivial⟩
          · exact congrArg (fun v => hput h m (bcells (out.set i v), 5)) ev
          · intro j hj
            dsimp only at hj ⊢
            by_cases hji : j = i
            · subst hji; rw [getD_set_same (by omega)]
            · rw [getD_set_other hji]; exact heq j (by omega)
          · exact congrArg (Value.int .i64) (wsucc (by omega))
        refine CondX.mk (fun h25 => ?_) (fun h25 => ?_) <;> conv => whnf
        · have h25 : o = 25 := by have := eq_of_beq h25; omega
          refine IdxX.at (by omega) (by omega) ?_; conv => whnf
          refine StoreX.bix i rfl rfl (by omega) ?_; conv => whnf
          have ev := (show IntKind.u8.wrap (BitVec.ofInt 8 (255 : Int) ^^^ BitVec.ofInt 8 (0 : Int)).toNat = bitD o (la.getD i 0) (lb.getD i 0) by rw [hX, hY, not_u8 gX.1 gX.2]; simp [bitD, h25])
          refine ih (i + 1, out.set i (bitD o (la.getD i 0) (lb.getD i 0))) _ _ ⟨by dsimp only; omega, by simpa using hol, hob.set bd.1 bd.2, ?_, ?_⟩ (by dsimp only; omega) ⟨rfl, rfl, rfl, rfl, rfl, ?_, trivial⟩
          · exact congrArg (fun v => hput h m (bcells (out.set i v), 5)) ev
          · intro j hj
            dsimp only at hj ⊢
            by_cases hji : j = i
            · subst hji; rw [getD_set_same (by omega)]
            · rw [getD_set_other hji]; exact heq j (by omega)
          · exact congrArg (Value.int .i64) (wsucc (by omega))
        · exfalso
          have := ne_of_beq_false h22
          have := ne_of_beq_false h23
          have := ne_of_beq_false h24
          have := ne_of_beq_false h25
          omega
      · have hc2 : nb ≤ i := by have := of_decide_eq_false hc2; omega
        have hY : lb.getD i 0 = 0 := getD_nil (by omega)
        have gX : 0 ≤ (0 : Int) ∧ (0 : Int) < 256 := by omega
        have gY : 0 ≤ (0 : Int) ∧ (0 : Int) < 256 := by omega
        have bd := bitD_bd (o := o) gx.1 gx.2 gy.1 gy.2
        refine CondX.mk (fun h22 => ?_) (fun h22 => ?_) <;> conv => whnf
        · have h22 : o = 22 := by have := eq_of_beq h22; omega
          refine IdxX.at (by omega) (by omega) ?_; conv => whnf
          refine StoreX.bix i rfl rfl (by omega) ?_; conv => whnf
          have ev := (show IntKind.u8.wrap (BitVec.ofInt 8 (0 : Int) &&& BitVec.ofInt 8 (0 : Int)).toNat = bitD o (la.getD i 0) (lb.getD i 0) by rw [hX, hY, and_u8 gX.1 gX.2 gY.1 gY.2]; simp [bitD, h22])
          refine ih (i + 1, out.set i (bitD o (la.getD i 0) (lb.getD i 0))) _ _ ⟨by dsimp only; omega, by simpa using hol, hob.set bd.1 bd.2, ?_, ?_⟩ (by dsimp only; omega) ⟨rfl, rfl, rfl, rfl, rfl, ?_, trivial⟩
          · exact congrArg (fun v => hput h m (bcells (out.set i v), 5)) ev
          · intro j hj
            dsimp only at hj ⊢
            by_cases hji : j = i
            · subst hji; rw [getD_set_same (by omega)]
            · rw [getD_set_other hji]; exact heq j (by omega)
          · exact congrArg (Value.int .i64) (wsucc (by omega))
        refine CondX.mk (fun h23 => ?_) (fun h23 => ?_) <;> conv => whnf
        · have h23 : o = 23 := by have := eq_of_beq h23; omega
          refine IdxX.at (by omega) (by omega) ?_; conv => whnf
          refine StoreX.bix i rfl rfl (by omega) ?_; conv => whnf
          have ev := (show IntKind.u8.wrap (BitVec.ofInt 8 (0 : Int) ||| BitVec.ofInt 8 (0 : Int)).toNat = bitD o (la.getD i 0) (lb.getD i 0) by rw [hX, hY, or_u8 gX.1 gX.2 gY.1 gY.2]; simp [bitD, h23])
          refine ih (i + 1, out.set i (bitD o (la.getD i 0) (lb.getD i 0))) _ _ ⟨by dsimp only; omega, by simpa using hol, hob.set bd.1 bd.2, ?_, ?_⟩ (by dsimp only; omega) ⟨rfl, rfl, rfl, rfl, rfl, ?_, trivial⟩
          · exact congrArg (fun v => hput h m (bcells (out.set i v), 5)) ev
          · intro j hj
            dsimp only at hj ⊢
            by_cases hji : j = i
            · subst hji; rw [getD_set_same (by omega)]
            · rw [getD_set_other hji]; exact heq j (by omega)
          · exact congrArg (Value.int .i64) (wsucc (by omega))
        refine CondX.mk (fun h24 => ?_) (fun h24 => ?_) <;> conv => whnf
        · have h24 : o = 24 := by have := eq_of_beq h24; omega
          refine IdxX.at (by omega) (by omega) ?_; conv => whnf
          refine StoreX.bix i rfl rfl (by omega) ?_; conv => whnf
          have ev := (show IntKind.u8.wrap (BitVec.ofInt 8 (0 : Int) ^^^ BitVec.ofInt 8 (0 : Int)).toNat = bitD o (la.getD i 0) (lb.getD i 0) by rw [hX, hY, xor_u8 gX.1 gX.2 gY.1 gY.2]; simp [bitD, h24])
          refine ih (i + 1, out.set i (bitD o (la.getD i 0) (lb.getD i 0))) _ _ ⟨by dsimp only; omega, by simpa using hol, hob.set bd.1 bd.2, ?_, ?_⟩ (by dsimp only; omega) ⟨rfl, rfl, rfl, rfl, rfl, ?_, trivial⟩
          · exact congrArg (fun v => hput h m (bcells (out.set i v), 5)) ev
          · intro j hj
            dsimp only at hj ⊢
            by_cases hji : j = i
            · subst hji; rw [getD_set_same (by omega)]
            · rw [getD_set_other hji]; exact heq j (by omega)
          · exact congrArg (Value.int .i64) (wsucc (by omega))
        refine CondX.mk (fun h25 => ?_) (fun h25 => ?_) <;> conv => whnf
        · have h25 : o = 25 := by have := eq_of_beq h25; omega
          refine IdxX.at (by omega) (by omega) ?_; conv => whnf
          refine StoreX.bix i rfl rfl (by omega) ?_; conv => whnf
          have ev := (show IntKind.u8.wrap (BitVec.ofInt 8 (255 : Int) ^^^ BitVec.ofInt 8 (0 : Int)).toNat = bitD o (la.getD i 0) (lb.getD i 0) by rw [hX, hY, not_u8 gX.1 gX.2]; simp [bitD, h25])
          refine ih (i + 1, out.set i (bitD o (la.getD i 0) (lb.getD i 0))) _ _ ⟨by dsimp only; omega, by simpa using hol, hob.set bd.1 bd.2, ?_, ?_⟩ (by dsimp only; omega) ⟨rfl, rfl, rfl, rfl, rfl, ?_, trivial⟩
          · exact congrArg (fun v => hput h m (bcells (out.set i v), 5)) ev
          · intro j hj
            dsimp only at hj ⊢
            by_cases hji : j = i
            · subst hji; rw [getD_set_same (by omega)]
            · rw [getD_set_other hji]; exact heq j (by omega)
          · exact congrArg (Value.int .i64) (wsucc (by omega))
        · exfalso
          have := ne_of_beq_false h22
          have := ne_of_beq_false h23
          have := ne_of_beq_false h24
          have := ne_of_beq_false h25
          omega
  · have hc : i = 32 := by have := of_decide_eq_false hc; omega
    subst hc
    refine norm_ok (own_all hob hol.symm (by omega)) fun b n c h3 he hn => ?_; conv => whnf
    refine RetX.same (hk _ _ _ _ ((Ext.bd hm).trans he) ?_)
    have hx0 := dv_nonneg ha.isB
    have hy0 := dv_nonneg hb.isB
    have e : dv out = bitOp o (dv la) (dv lb) := by
      have bo := bitOp_bd (o := o) hx0 hx hy0 hy
      refine dv_of_digits bo.1 (by rw [hol]; exact bo.2) fun j hj => ?_
      rw [heq j (by omega), ← bitD_dig hx0 hx hy0 (by omega), dv_digit ha.isB, dv_digit hb.isB]
    rwa [e] at hn

/-- Byte number a of b, the most significant first. -/
def byteI (a b : Int) : Int := if a < 32 then b / 256 ^ (31 - a.toNat) % 256 else 0

set_option maxRecDepth 100000 in
theorem pickedByte_ok (ha : Nt h ba na ca x) (hb : Nt h bb nb cb y) (hk : ∀ b n c h', Ext h h' → Nt h' b n c (byteI x y) → K (.slice b n c) h') : CallX Hval.prog 320 [.slice ba na ca, .slice bb nb cb] h K := by
  refine CallX.of_xf T_ok Hval.func320 rfl (by kernel_rfl) (Nat.le_of_ble_eq_true rfl) ?_; conv => whnf
  have hx0 := ha.val
  obtain ⟨lb, hb, rfl, -⟩ := hb
  have hlb := hb.len
  have hrb := hb.room
  refine u64N ha (fun hc => ?_) (fun hc => ?_) <;> conv => whnf
  · repeat (first | (refine CondX.tt ?_; conv => whnf) | (refine CondX.ff ?_; conv => whnf))
    refine RetX.same (hk _ _ _ _ (Ext.refl _) ?_)
    rw [byteI, if_neg (by omega)]; exact Nt_nil h
  · repeat (first | (refine CondX.tt ?_; conv => whnf) | (refine CondX.ff ?_; conv => whnf))
    refine CondX.mk (fun h1 => ?_) (fun h1 => ?_) <;> conv => whnf
    · have h1 := of_decide_eq_true h1
      repeat (first | (refine CondX.tt ?_; conv => whnf) | (refine CondX.ff ?_; conv => whnf))
      refine RetX.same (hk _ _ _ _ (Ext.refl _) ?_)
      rw [byteI, if_neg (by omega)]; exact Nt_nil h
    · have h1 : x < 32 := by have := of_decide_eq_false h1; omega
      repeat (first | (refine CondX.tt ?_; conv => whnf) | (refine CondX.ff ?_; conv => whnf))
      have e : IntKind.i64.wrap (31 - IntKind.i64.wrap x) = 31 - x := by rw [wrap_i64 (x := x) (by omega) (by omega), wrap_i64 (by omega) (by omega)]
      have e' : IntKind.u64.wrap (31 - x) = 31 - x := by rw [wrap_u64']; omega
      rw [e]
      refine CondX.mk (fun h2 => ?_) (fun h2 => ?_) <;> conv => whnf
      · have h2 := of_decide_eq_true h2
        refine RetX.same (hk _ _ _ _ (Ext.refl _) ?_)
        rw [byteI, if_pos h1, dv_digit hb.isB, getD_nil (by omega)]; exact Nt_nil h
      · have h2 := of_decide_eq_false h2
        rw [e']
        refine IdxX.rd hb.rd (by omega) (by omega) fun b1 o1 e1 _ => ?_; conv => whnf
        refine LoadX.byte hb e1 (31 - x.toNat) (by omega) (by omega) rfl ?_; conv => whnf
        have gd := hb.isB.get (31 - x.toNat)
        refine Ob.mk (by first | decide | omega) ?_; conv => whnf
        refine BoxX.mk fun m hm => ?_; conv => whnf
        refine norm_ok (l := [lb.getD (31 - x.toNat) 0]) (own_all (l := [lb.getD (31 - x.toNat) 0]) (fun z hz => by rw [List.mem_singleton.1 hz]; exact gd) rfl (by simp)) fun b n c h3 he hn => ?_; conv => whnf
        refine RetX.same (hk _ _ _ _ ((Ext.bd hm).trans he) ?_)
        rw [byteI, if_pos h1, dv_digit hb.isB]
        simpa [dv] using hn
end
end Go.Proofs.YgvalwGreat.X
