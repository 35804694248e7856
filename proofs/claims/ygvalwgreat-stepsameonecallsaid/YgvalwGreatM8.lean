import Derived.Test.YgvalwGreatM7
set_option linter.unusedVariables false
set_option linter.unusedSimpArgs false
namespace Go.Proofs.YgvalwGreat.X
open Go

/-- The memory's buffer. -/
structure BufOK (hb : Hp) (s : Sl) (buf : List Int) : Prop where
  len : s.2.1 = buf.length
  isB : isB buf
  blk : (s.1 = none ∧ s.2.2 = 0 ∧ buf = []) ∨ ∃ mb pad, s.1 = some ⟨mb, 0, none⟩ ∧ hb mb = some (bcells (buf ++ pad), 5) ∧ s.2.2 = buf.length + pad.length
/-- The top frame's memory in the arena. -/
structure MBf (hb : Hp) (m : MS) (t : Nat) (low mem stale : List Int) : Prop where
  mtop : m.mtop = ((t + 1 : Nat) : Int)
  b0 : m.base t = (low.length : Nat)
  b1 : m.base (t + 1) = ((low.length + mem.length : Nat) : Int)
  buf : BufOK hb m.bufS (low ++ (mem ++ stale))
  few : (low ++ (mem ++ stale)).length ≤ 6000000
section
variable {h hb : Hp} {K : Value → Hp → Prop} {v : VS} {eb : Nat} {m : MS} {t : Nat} {low mem stale : List Int}
theorem BufOK.byt {s : Sl} {buf : List Int} (B : BufOK hb s buf) (hr : buf.length < 2 ^ 40) : BytS hb s buf := by
  refine ⟨?_, B.isB, ?_, fun hn => ?_, by rw [B.len]; exact hr⟩
  · rcases B.blk with ⟨h1, h2, h3⟩ | ⟨mb, pad, h1, h2, h3⟩
    · rw [h1, B.len, h3]; rfl
    · rw [h1, B.len]
      simp only [rd, h2]
      rw [if_pos (by rw [bcells_length, List.length_append]; omega)]
      unfold seg
      rw [List.drop_zero]
      unfold bcells
      rw [← List.map_take, List.take_left]
  · rcases B.blk with ⟨h1, h2, h3⟩ | ⟨mb, pad, h1, h2, h3⟩
    · rw [B.len, h2, h3]; exact Nat.le_refl _
    · rw [B.len, h3]; omega
  · rcases B.blk with ⟨h1, h2, h3⟩ | ⟨mb, pad, h1, h2, h3⟩
    · exact h2
    · rw [h1] at hn; cases hn
theorem ovl_whole {l : List Int} {n : Nat} (h : l.length = n) : ovl (List.replicate n 0) 0 l = l := by
  unfold ovl
  rw [List.take_zero, List.nil_append, Nat.zero_add, List.drop_of_length_le (by rw [List.length_replicate]; omega), List.append_nil]
def topB (m : MS) (low mem : List Int) : Option Addr := bsh m.bufS.1 low.length (low.length + mem.length) 1
def partB (m : MS) (low mem : List Int) (off n : Nat) : Option Addr := bsh (topB m low mem) off (off + n) 1
theorem MBf.lens (B : MBf hb m t low mem stale) : low.length + (mem.length + stale.length) = m.bufS.2.1 ∧ low.length + (mem.length + stale.length) ≤ 6000000 := by
  have h1 := B.buf.len
  have h2 := B.few
  rw [List.length_append, List.length_append] at h1 h2
  exact ⟨h1.symm, h2⟩
theorem MBf.cap (B : MBf hb m t low mem stale) : m.bufS.2.1 ≤ m.bufS.2.2 := by
  have h1 := B.buf.len
  rcases B.buf.blk with ⟨_, h2, h3⟩ | ⟨mb, pad, _, h2, h3⟩
  · rw [h3] at h1; rw [h1]; simp
  · rw [h1, h3]; omega
theorem MBf.bytT (B : MBf hb m t low mem stale) (he : Ext hb h) : Byt h (topB m low mem) mem.length mem.length mem := by
  have hl := B.lens
  have hc := B.cap
  have hb1 := (B.buf.byt (by have := B.few; omega)).ext he
  have := hb1.slice (lo := low.length) (hh := low.length + mem.length) (m := low.length + mem.length) (by omega) (by omega) (by omega) (by omega)
  rw [show low.length + mem.length - low.length = mem.length by omega, List.drop_left, List.take_left] at this
  exact this
theorem MBf.bytP (B : MBf hb m t low mem stale) (he : Ext hb h) {off n : Nat} (ho : off + n ≤ mem.length) : Byt h (partB m low mem off n) n n ((mem.drop off).take n) := by
  have := (B.bytT he).slice (lo := off) (hh := off + n) (m := off + n) (by omega) (by omega) (by omega) (by omega)
  rw [show off + n - off = n by omega] at this
  exact this
set_option maxRecDepth 100000 in
set_option maxHeartbeats 4000000 in
theorem atop_ok (hbE : h eb = some (fnv 27024 (eC (mC eb m) v), 101)) (B : MBf hb m t low mem stale) (he : Ext hb h) (h7 : t < 7) (hk : K (.tuple #[.slice (topB m low mem) mem.length mem.length, .bool true]) h) : CallX Hval.prog 177 [.pointer (some ⟨eb, 1, none⟩)] h K := by
  have hl := B.lens
  have hc := B.cap
  have hb1 := (B.buf.byt (by have := B.few; omega)).ext he
  refine CallX.of_xf T_ok Hval.func177 rfl (by kernel_rfl) (Nat.le_of_ble_eq_true rfl) ?_; conv => whnf
  refine LoadX.fn hbE 10 rfl (by omega) ?_
  rw [mR_mtop, B.mtop]; conv => whnf
  refine CondX.eqI (fun hc => by omega) (fun _ => ?_); conv => whnf
  repeat (first | (refine CondX.tt ?_; conv => whnf) | (refine CondX.ff ?_; conv => whnf))
  refine LoadX.fn hbE 10 rfl (by omega) ?_
  rw [mR_mtop, B.mtop]; conv => whnf
  repeat (first | (refine CondX.tt ?_; conv => whnf) | (refine CondX.ff ?_; conv => whnf))
  refine CondX.dF (by omega) ?_; conv => whnf
  refine DrawX.go T_ok hM Hval.func177 (tb := dr177) rfl (by kernel_rfl) ?_; conv => whnf
  refine LoadX.fn hbE 10 rfl (by omega) ?_
  rw [mR_mtop, B.mtop]; conv => whnf
  rw [show IntKind.u8.wrap (((t + 1 : Nat) : Int) - 1) = (t : Int) by rw [wrap_u8]; omega]
  refine Ob.mk ⟨by omega, by omega⟩ ?_; conv => whnf
  refine LoadX.fn hbE (2 + t) (by rw [Int.toNat_natCast, show (fd 1 71).offset = 1 from rfl, show (70, y70).snd.size = 1 from rfl]; omega) (by omega) ?_
  rw [mR_base (by omega), B.b0]; conv => whnf
  refine DrawX.go T_ok hM Hval.func177 (tb := dr177) rfl (by kernel_rfl) ?_; conv => whnf
  refine LoadX.fn hbE 10 rfl (by omega) ?_
  rw [mR_mtop, B.mtop]; conv => whnf
  refine Ob.mk ⟨by omega, by omega⟩ ?_; conv => whnf
  refine LoadX.fn hbE (2 + (t + 1)) (by rw [Int.toNat_natCast, show (fd 1 71).offset = 1 from rfl, show (70, y70).snd.size = 1 from rfl]; omega) (by omega) ?_
  rw [mR_base (by omega), B.b1]; conv => whnf
  refine CondX.dF (by omega) ?_; conv => whnf
  repeat (first | (refine CondX.tt ?_; conv => whnf) | (refine CondX.ff ?_; conv => whnf))
  refine LoadX.fn hbE 1 rfl (by omega) ?_
  rw [mR_buf]; conv => whnf
  repeat (first | (refine CondX.tt ?_; conv => whnf) | (refine CondX.ff ?_; conv => whnf))
  rw [show IntKind.u64.wrap ((low.length + mem.length : Nat) : Int) = ((low.length + mem.length : Nat) : Int) by rw [wrap_u64']; omega, show IntKind.u64.wrap (m.bufS.2.1 : Int) = m.bufS.2.1 by rw [wrap_u64']; omega]
  refine CondX.dF (by omega) ?_; conv => whnf
  refine LoadX.fn hbE 1 rfl (by omega) ?_
  rw [mR_buf]; conv => whnf
  refine SlcX.gen hb1.rd hb1.nil hb1.le low.length (low.length + mem.length) (low.length + mem.length) rfl rfl rfl (by omega) (by omega) (by omega) (.inr (by simp)) ?_; conv => whnf
  rw [show low.length + mem.length - low.length = mem.length by omega]
  exact RetX.same hk
set_option maxRecDepth 100000 in
set_option maxHeartbeats 4000000 in
theorem apart_ok {off n : Nat} (hbE : h eb = some (fnv 27024 (eC (mC eb m) v), 101)) (B : MBf hb m t low mem stale) (he : Ext hb h) (h7 : t < 7) (ho : off + n ≤ mem.length) (hk : K (.tuple #[.slice (partB m low mem off n) n n, .bool true]) h) : CallX Hval.prog 176 [.pointer (some ⟨eb, 1, none⟩), .int .u32 off, .int .u32 n] h K := by
  have hl := B.lens
  have hT := B.bytT he
  refine CallX.of_xf T_ok Hval.func176 rfl (by kernel_rfl) (Nat.le_of_ble_eq_true rfl) ?_; conv => whnf
  refine atop_ok hbE B he h7 ?_; conv => whnf
  rw [show IntKind.u32.wrap (mem.length : Int) = mem.length by rw [wrap_u32]; omega]
  repeat (first | (refine CondX.tt ?_; conv => whnf) | (refine CondX.ff ?_; conv => whnf))
  refine CondX.dF (by omega) ?_; conv => whnf
  repeat (first | (refine CondX.tt ?_; conv => whnf) | (refine CondX.ff ?_; conv => whnf))
  rw [show IntKind.u32.wrap ((mem.length : Int) - n) = ((mem.length - n : Nat) : Int) by rw [wrap_u32]; omega]
  refine CondX.dF (by omega) ?_; conv => whnf
  rw [show IntKind.u32.wrap ((off : Int) + n) = ((off + n : Nat) : Int) by rw [wrap_u32]; omega]
  refine SlcX.gen hT.rd hT.nil hT.le off (off + n) (off + n) rfl rfl rfl (by omega) (by omega) (by omega) (.inr (by simp)) ?_; conv => whnf
  rw [show off + n - off = n by omega]
  exact RetX.same hk
set_option maxRecDepth 100000 in
set_option maxHeartbeats 4000000 in
theorem alen_ok (hbE : h eb = some (fnv 27024 (eC (mC eb m) v), 101)) (B : MBf hb m t low mem stale) (he : Ext hb h) (h7 : t < 7) (hk : K (.int .u32 mem.length) h) : CallX Hval.prog 108 [.pointer (some ⟨eb, 1, none⟩)] h K := by
  have hl := B.lens
  refine CallX.of_xf T_ok Hval.func108 rfl (by kernel_rfl) (Nat.le_of_ble_eq_true rfl) ?_; conv => whnf
  refine atop_ok hbE B he h7 ?_; conv => whnf
  rw [show IntKind.u32.wrap (mem.length : Int) = mem.length by rw [wrap_u32]; omega]
  exact RetX.same hk
set_option maxRecDepth 100000 in
set_option maxHeartbeats 4000000 in
theorem aread_ok {off n : Nat} (hbE : h eb = some (fnv 27024 (eC (mC eb m) v), 101)) (B : MBf hb m t low mem stale) (he : Ext hb h) (h7 : t < 7) (ho : off + n ≤ mem.length) (hk : ∀ s h', Ext h h' → BytS h' s ((mem.drop off).take n) → (0 < n → s.1.isSome = true) → K (sl s) h') : CallX Hval.prog 107 [.pointer (some ⟨eb, 1, none⟩), .int .u32 off, .int .u32 n] h K := by
  have hl := B.lens
  have hP := B.bytP he ho
  have hPl := hP.len
  refine CallX.of_xf T_ok Hval.func107 rfl (by kernel_rfl) (Nat.le_of_ble_eq_true rfl) ?_; conv => whnf
  refine apart_ok hbE B he h7 ho ?_; conv => whnf
  repeat (first | (refine CondX.tt ?_; conv => whnf) | (refine CondX.ff ?_; conv => whnf))
  refine CondX.eqI (fun h0 => ?_) (fun h0 => ?_) <;> conv => whnf
  · have hn0 : n = 0 := by omega
    subst hn0
    exact RetX.same (hk nilS h (Ext.refl h) (by rw [List.take_zero]; exact Byt_nil h) fun hc => absurd hc (by omega))
  · refine MakeX.bytes n rfl (by omega) fun mm hmm => ?_; conv => whnf
    refine CopyX.bytes (hP.ext (Ext.bd hmm)) (by simp) ?_; conv => whnf
    rw [Int.toNat_natCast, show Nat.min n n = n from Nat.min_self _, List.take_of_length_le (Nat.le_of_eq hPl)]
    have e := ovl_whole hPl
    rw [e]
    exact RetX.same (hk (some ⟨mm, 0, none⟩, n, n) _ (Ext.bd hmm) (own_all hP.isB hPl.symm (by omega)) fun _ => rfl)
end
end Go.Proofs.YgvalwGreat.X
