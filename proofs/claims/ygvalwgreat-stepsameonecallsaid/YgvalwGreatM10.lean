import Derived.Test.YgvalwGreatM9
set_option linter.unusedVariables false
set_option linter.unusedSimpArgs false
namespace Go.Proofs.YgvalwGreat.X
open Go

section
variable {h1 hb : Hp} {K : Value → Hp → Prop} {v : VS} {eb : Nat} {m : MS} {t : Nat} {low mem stale : List Int}
theorem ovl_ovl {l x y : List Int} {o : Nat} (h : o + (x.length + y.length) ≤ l.length) : ovl (ovl l o x) (o + x.length) y = ovl l o (x ++ y) := by
  unfold ovl
  have e1 : (l.take o).length = o := by rw [List.length_take]; omega
  have e2 : (l.take o ++ x).length = o + x.length := by rw [List.length_append, e1]
  rw [← e2, List.take_left, List.drop_length_add_append, List.drop_drop]
  simp only [List.append_assoc, List.length_append, e1]
  congr 4; omega
set_option maxRecDepth 100000 in
set_option maxHeartbeats 4000000 in
theorem awrite_ok {off n fr : Nat} {base : Option Addr} {len cap : Nat} {l : List Int} (hbE : h1 eb = some (fnv 27024 (eC (mC eb m) v), 101)) (B : MBf hb m t low mem stale) (hd : Dj h1 hb) (h7 : t < 7) (hn : 0 < n) (ho : off + n ≤ mem.length) (hs : Byt h1 base len cap l) (hfr : fr < 18446744073709551616)
    (hk : WrK h1 m t low (ovl mem off (cutN l fr n)) stale K) : CallX Hval.prog 243 [.pointer (some ⟨eb, 1, none⟩), .int .u32 off, .slice base len cap, .int .u64 fr, .int .u32 n] (join h1 hb) K := by
  obtain ⟨mb, pad, e1, -⟩ := B.has (by omega)
  have hll := B.lens
  have hsl := hs.len
  have hsr := hs.room
  have hpos := partB_pos (m := m) (low := low) (mem := mem) e1 hn ho
  have hz : ∀ k, zeros (5, y5).snd.zero k = bcells (List.replicate k 0) := fun k => zeros_bcells k
  have fin : ∀ (k : Nat) (S : List Int) (hb2 : Hp), S.length = k → k ≤ n → Dj h1 hb2 → MBf hb2 m t low (ovl mem off S) stale → S ++ List.replicate (n - k) 0 = cutN l fr n → ∀ KK : Hp → Prop, (∀ hb', Dj h1 hb' → MBf hb' m t low (ovl mem off (cutN l fr n)) stale → KK (join h1 hb')) → ClearX (join h1 hb2) (5, y5).snd.zero (some ⟨mb, soff (low.length + off) k n (5, y5).snd.size, none⟩) (n - k) KK := fun k S hb2 hS hkn hd2 B2 hcut KK hKK => by
    refine ⟨fun h0 => ?_, fun h0 => ?_⟩
    · refine hKK _ hd2 ?_
      rw [h0, List.replicate_zero, List.append_nil] at hcut
      rw [← hcut]; exact B2
    · have hSl : off + S.length ≤ mem.length := by omega
      obtain ⟨c, q1, q2, q3, q4, q5⟩ := B2.put hd2 e1 (off := off + k) (x := List.replicate (n - k) 0) (by rw [ovl_len hSl]; omega) (by rw [ovl_len hSl, List.length_replicate]; omega) (fun d hd => by have := (List.mem_replicate.1 hd).2; omega)
      have es : soff (low.length + off) k n (5, y5).snd.size = low.length + (off + k) := by
        show soff (low.length + off) k n 1 = _
        unfold soff; rw [if_neg (by omega)]; omega
      rw [es]
      refine ⟨c, 5, join_hm hd2 q1, by rw [hz]; exact q2, by rw [hz]; exact ones_bcells _, ?_⟩
      rw [hz, q5]
      refine hKK _ q4 ?_
      rw [← hS, ovl_ovl (by rw [List.length_replicate]; omega), hS, hcut] at q3
      exact q3
  refine CallX.of_xf T_ok Hval.func243 rfl (by kernel_rfl) (Nat.le_of_ble_eq_true rfl) ?_; conv => whnf
  refine apart_ok (off := off) (n := n) (join_l hbE) B (Ext.jr hd) h7 ho ?_
  rw [hpos]; conv => whnf
  repeat (first | (refine CondX.tt ?_; conv => whnf) | (refine CondX.ff ?_; conv => whnf))
  rw [show IntKind.u64.wrap (len : Int) = len by rw [wrap_u64']; omega]
  refine CondX.decI (fun hc => ?_) (fun hc => ?_) <;> conv => whnf
  · have hsj := hs.ext (Ext.jl h1 hb)
    refine SlcX.gen hsj.rd hsj.nil hsj.le fr len cap rfl rfl rfl (by omega) hs.le (Nat.le_refl _) (.inl rfl) ?_; conv => whnf
    have hS := hsj.slice (lo := fr) (hh := len) (m := cap) (by omega) (Nat.le_refl _) hs.le (Nat.le_refl _)
    have hk1 : Nat.min (len - fr) n ≤ len - fr := Nat.min_le_left ..
    have hkn : Nat.min (len - fr) n ≤ n := Nat.min_le_right ..
    have hkc : Nat.min (len - fr) n = len - fr ∨ Nat.min (len - fr) n = n := by
      show min (len - fr) n = _ ∨ min (len - fr) n = _
      omega
    obtain ⟨k, hkdef⟩ : ∃ k, Nat.min (len - fr) n = k := ⟨_, rfl⟩
    rw [hkdef] at hk1 hkn hkc
    have hcap := hs.le
    have hSp := hS.pre (k := k) (m := k) hk1 (Nat.le_refl _) (by omega)
    have hSl := hSp.len
    obtain ⟨c, q1, q2, q3, q4, q5⟩ := B.put hd e1 (off := off) (x := _) (by omega) (by rw [hSl]; omega) hSp.isB
    refine ⟨_, by show rd _ (bsh base fr cap 1) (Nat.min (len - fr) n * 1) = _; rw [Nat.mul_one, hkdef]; exact hSp.rd, c, 5, join_hm hd q1, q2, ones_bcells _, ?_⟩
    rw [hkdef, q5]; conv => whnf
    refine SlcX.at (Nat.le_refl n) k n n rfl rfl rfl hkn (Nat.le_refl _) (Nat.le_refl _) (.inl rfl) ?_; conv => whnf
    refine fin k _ _ hSl hkn q4 q3 ?_ _ fun hb' hd' B' => ?_
    · unfold cutN
      have e3 : List.take k (List.take (len - fr) (List.drop fr l)) = (l.drop fr).take n := by
        rw [List.take_take, List.take_eq_take_iff, List.length_drop]; omega
      rw [e3]
      congr 2; omega
    · conv => whnf
      exact RetX.same (hk _ hd' B')
  · refine SlcX.at (Nat.le_refl n) 0 n n rfl rfl rfl (by omega) (Nat.le_refl _) (Nat.le_refl _) (.inl rfl) ?_; conv => whnf
    refine fin 0 [] _ rfl (by omega) hd (by rw [show ovl mem off [] = mem by unfold ovl; simp]; exact B) ?_ _ fun hb' hd' B' => ?_
    · rw [List.nil_append, cutN_past (by omega)]; rfl
    · conv => whnf
      exact RetX.same (hk _ hd' B')
set_option maxRecDepth 100000 in
set_option maxHeartbeats 4000000 in
theorem amove_ok {dst src n : Nat} (hbE : h1 eb = some (fnv 27024 (eC (mC eb m) v), 101)) (B : MBf hb m t low mem stale) (hd : Dj h1 hb) (h7 : t < 7) (hn : 0 < n) (ho : dst + n ≤ mem.length) (ho2 : src + n ≤ mem.length)
    (hk : WrK h1 m t low (ovl mem dst ((mem.drop src).take n)) stale K) : CallX Hval.prog 281 [.pointer (some ⟨eb, 1, none⟩), .int .u32 dst, .int .u32 src, .int .u32 n] (join h1 hb) K := by
  obtain ⟨mb, pad, e1, -⟩ := B.has (by omega)
  have hP := B.bytP (Ext.jr hd) ho2
  have hPl := hP.len
  refine CallX.of_xf T_ok Hval.func281 rfl (by kernel_rfl) (Nat.le_of_ble_eq_true rfl) ?_; conv => whnf
  refine apart_ok (off := dst) (n := n) (join_l hbE) B (Ext.jr hd) h7 ho ?_; conv => whnf
  refine apart_ok (off := src) (n := n) (join_l hbE) B (Ext.jr hd) h7 ho2 ?_
  rw [partB_pos e1 hn ho]; conv => whnf
  repeat (first | (refine CondX.tt ?_; conv => whnf) | (refine CondX.ff ?_; conv => whnf))
  obtain ⟨c, q1, q2, q3, q4, q5⟩ := B.put hd e1 (off := dst) (x := (mem.drop src).take n) (by omega) (by rw [hPl]; omega) hP.isB
  refine ⟨_, by show rd _ _ (Nat.min n n * 1) = _; rw [Nat.mul_one, show Nat.min n n = n from Nat.min_self _]; exact hP.rd, c, 5, join_hm hd q1, q2, ones_bcells _, ?_⟩
  rw [q5]; conv => whnf
  exact RetX.same (hk _ q4 q3)
end
end Go.Proofs.YgvalwGreat.X
