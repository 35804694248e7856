import Derived.Test.YgvalwGreatM8
set_option linter.unusedVariables false
set_option linter.unusedSimpArgs false
namespace Go.Proofs.YgvalwGreat.X
open Go

section
variable {h1 hb : Hp} {K : Value → Hp → Prop} {v : VS} {eb : Nat} {m : MS} {t : Nat} {low mem stale : List Int}
theorem Ext.jr (hd : Dj h1 hb) : Ext hb (join h1 hb) := fun _ _ h => join_hm hd h
theorem ovl_len {l x : List Int} {o : Nat} (h : o + x.length ≤ l.length) : (ovl l o x).length = l.length := by unfold ovl; simp; omega
theorem ovl_isB {l x : List Int} {o : Nat} (hl : isB l) (hx : isB x) : isB (ovl l o x) := fun d hd => by
  unfold ovl at hd
  rcases List.mem_append.1 hd with h | h
  · rcases List.mem_append.1 h with h | h
    · exact hl d (List.mem_of_mem_take h)
    · exact hx d h
  · exact hl d (List.mem_of_mem_drop h)
theorem ovl_mid {p l q x : List Int} {o : Nat} (h : o + x.length ≤ l.length) : ovl (p ++ (l ++ q)) (p.length + o) x = p ++ (ovl l o x ++ q) := by
  unfold ovl
  rw [List.take_length_add_append, List.take_append_of_le_length (by omega), Nat.add_assoc, List.drop_length_add_append, List.drop_append_of_le_length h]
  simp only [List.append_assoc]
theorem MBf.has (B : MBf hb m t low mem stale) (h0 : 0 < mem.length) : ∃ mb pad, m.bufS.1 = some ⟨mb, 0, none⟩ ∧ hb mb = some (bcells ((low ++ (mem ++ stale)) ++ pad), 5) ∧ m.bufS.2.2 = (low ++ (mem ++ stale)).length + pad.length := by
  rcases B.buf.blk with ⟨_, _, h3⟩ | h
  · have := congrArg List.length h3
    rw [List.length_append, List.length_append, List.length_nil] at this
    omega
  · exact h
/-- A write into the top frame's memory. -/
theorem MBf.put (B : MBf hb m t low mem stale) (hd : Dj h1 hb) {mb : Nat} (hmb : m.bufS.1 = some ⟨mb, 0, none⟩) {off : Nat} {x : List Int} (h0 : 0 < mem.length) (ho : off + x.length ≤ mem.length) (hx : isB x) :
    ∃ c, hb mb = some (c, 5) ∧ low.length + off + (bcells x).length ≤ c.length ∧ MBf (hput hb mb (setSeg c (low.length + off) (bcells x), 5)) m t low (ovl mem off x) stale ∧ Dj h1 (hput hb mb (setSeg c (low.length + off) (bcells x), 5)) ∧ hput (join h1 hb) mb (setSeg c (low.length + off) (bcells x), 5) = join h1 (hput hb mb (setSeg c (low.length + off) (bcells x), 5)) := by
  obtain ⟨mb', pad, e1, e2, e3⟩ := B.has h0
  rw [e1] at hmb; cases hmb
  have hn : h1 mb = none := by
    rcases hd mb with h | h
    · exact h
    · rw [e2] at h; cases h
  have es : setSeg (bcells ((low ++ (mem ++ stale)) ++ pad)) (low.length + off) (bcells x) = bcells ((low ++ (ovl mem off x ++ stale)) ++ pad) := by
    rw [setSeg_ovl, List.append_assoc, List.append_assoc, ovl_mid ho]
    simp only [List.append_assoc]
  have hlen : (low ++ (ovl mem off x ++ stale)).length = (low ++ (mem ++ stale)).length := by
    simp only [List.length_append, ovl_len ho]
  refine ⟨_, e2, by rw [bcells_length, bcells_length]; simp only [List.length_append]; omega, ?_, hd.put e2, join_putm hn⟩
  rw [es]
  refine ⟨B.mtop, B.b0, by rw [ovl_len ho]; exact B.b1, ⟨by rw [hlen]; exact B.buf.len, ?_, .inr ⟨mb, pad, e1, hput_same .., by rw [hlen]; exact e3⟩⟩, by rw [hlen]; exact B.few⟩
  intro d hd
  rcases List.mem_append.1 hd with h | h
  · exact B.buf.isB d (List.mem_append_left _ h)
  · rcases List.mem_append.1 h with h | h
    · exact ovl_isB (fun d hd => B.buf.isB d (List.mem_append_right _ (List.mem_append_left _ hd))) hx d h
    · exact B.buf.isB d (List.mem_append_right _ (List.mem_append_right _ h))
theorem partB_pos {mb off n : Nat} (hmb : m.bufS.1 = some ⟨mb, 0, none⟩) (hn : 0 < n) (ho : off + n ≤ mem.length) : partB m low mem off n = some ⟨mb, low.length + off, none⟩ := by
  unfold partB topB
  rw [hmb]
  show some (⟨mb, soff (soff 0 low.length (low.length + mem.length) 1) off (off + n) 1, none⟩ : Addr) = _
  unfold soff
  rw [if_neg (show ¬ low.length + mem.length = low.length by omega), if_neg (show ¬ off + n = off by omega)]
  congr 2; omega
def WrK (h1 : Hp) (m : MS) (t : Nat) (low mem' stale : List Int) (K : Value → Hp → Prop) : Prop := ∀ hb', Dj h1 hb' → MBf hb' m t low mem' stale → K (.bool true) (join h1 hb')
set_option maxRecDepth 100000 in
set_option maxHeartbeats 4000000 in
theorem store8_ok {off : Nat} {x : Int} (hbE : h1 eb = some (fnv 27024 (eC (mC eb m) v), 101)) (B : MBf hb m t low mem stale) (hd : Dj h1 hb) (h7 : t < 7) (ho : off + 1 ≤ mem.length) (hx : 0 ≤ x ∧ x < 256) (hk : WrK h1 m t low (ovl mem off [x]) stale K) : CallX Hval.prog 286 [.pointer (some ⟨eb, 1, none⟩), .int .u32 off, .int .u8 x] (join h1 hb) K := by
  obtain ⟨mb, pad, e1, -⟩ := B.has (by omega)
  obtain ⟨c, q1, q2, q3, q4, q5⟩ := B.put hd e1 (off := off) (x := [x]) (by omega) ho (fun d hd => by rw [List.mem_singleton.1 hd]; exact hx)
  have heb : Ext hb (join h1 hb) := Ext.jr hd
  refine CallX.of_xf T_ok Hval.func286 rfl (by kernel_rfl) (Nat.le_of_ble_eq_true rfl) ?_; conv => whnf
  refine apart_ok (off := off) (n := 1) (join_l hbE) B heb h7 ho ?_
  rw [partB_pos e1 (by omega) ho]; conv => whnf
  repeat (first | (refine CondX.tt ?_; conv => whnf) | (refine CondX.ff ?_; conv => whnf))
  refine IdxX.at (by omega) (by omega) ?_; conv => whnf
  refine StoreX.at (join_hm hd q1) (by show low.length + off + 0 * 1 + 1 ≤ c.length; simp [bcells] at q2; omega) ?_
  rw [show low.length + off + Int.toNat 0 * (5, y5).snd.size = low.length + off from rfl, show [Value.int IntKind.u8 x] = bcells [x] from rfl, q5]; conv => whnf
  exact RetX.same (hk _ q4 q3)
set_option maxRecDepth 100000 in
set_option maxHeartbeats 4000000 in
theorem store32_ok {off : Nat} {l : List Int} (hbE : h1 eb = some (fnv 27024 (eC (mC eb m) v), 101)) (B : MBf hb m t low mem stale) (hd : Dj h1 hb) (h7 : t < 7) (ho : off + 32 ≤ mem.length) (hl : l.length = 32) (hx : isB l) (hk : WrK h1 m t low (ovl mem off l) stale K) : CallX Hval.prog 285 [.pointer (some ⟨eb, 1, none⟩), .int .u32 off, .agg (bcells l).toArray] (join h1 hb) K := by
  obtain ⟨mb, pad, e1, -⟩ := B.has (by omega)
  refine CallX.of_xf T_ok Hval.func285 rfl (by kernel_rfl) (Nat.le_of_ble_eq_true rfl) ?_; conv => whnf
  refine BoxX.j hd fun n1 hin hbn hd1 he1 => ?_; conv => whnf
  have bx : hput h1 n1 ((bcells l).toArray.toList, 32) n1 = some (bcells l, 32) := hput_same ..
  have hbE' := he1 _ _ hbE
  generalize hput h1 n1 ((bcells l).toArray.toList, 32) = h2 at *
  obtain ⟨c, q1, q2, q3, q4, q5⟩ := B.put hd1 e1 (off := off) (x := l) (by omega) (by omega) hx
  refine apart_ok (off := off) (n := 32) (join_l hbE') B (Ext.jr hd1) h7 ho ?_
  rw [partB_pos e1 (by omega) ho]; conv => whnf
  repeat (first | (refine CondX.tt ?_; conv => whnf) | (refine CondX.ff ?_; conv => whnf))
  refine DrawX.go T_ok hM Hval.func285 (tb := dr285) rfl (by kernel_rfl) ?_; conv => whnf
  repeat (refine Ob.mk (by first | decide | omega) ?_; conv => whnf)
  refine LoadX.all (join_l bx) (by rw [bcells_length, hl]; rfl) ?_; conv => whnf
  refine Ob.mk ⟨by show (bcells l).length = 32; rw [bcells_length, hl], ones_bcells _⟩ ?_; conv => whnf
  refine StoreX.at (join_hm hd1 q1) q2 ?_
  rw [q5]; conv => whnf
  exact RetX.drop (h' := join h1 _) (Ext.j2 he1 q4 (Ext.refl _)) (hk _ (q4.le he1) q3)
set_option maxRecDepth 100000 in
set_option maxHeartbeats 4000000 in
theorem load32_ok {off : Nat} {h : Hp} (hbE : h eb = some (fnv 27024 (eC (mC eb m) v), 101)) (B : MBf hb m t low mem stale) (he : Ext hb h) (h7 : t < 7) (ho : off + 32 ≤ mem.length) (hk : K (.tuple #[.agg (bcells ((mem.drop off).take 32)).toArray, .bool true]) h) : CallX Hval.prog 284 [.pointer (some ⟨eb, 1, none⟩), .int .u32 off] h K := by
  obtain ⟨mb, pad, e1, -⟩ := B.has (by omega)
  have hl32 : ((mem.drop off).take 32).length = 32 := by rw [List.length_take, List.length_drop]; omega
  refine CallX.of_xf T_ok Hval.func284 rfl (by kernel_rfl) (Nat.le_of_ble_eq_true rfl) ?_; conv => whnf
  refine BoxX.ext fun n1 hn1 en1 => ?_; conv => whnf
  have hP := B.bytP (he.trans en1) ho
  rw [partB_pos e1 (by omega) ho] at hP
  refine apart_ok (off := off) (n := 32) (en1 _ _ hbE) B (he.trans en1) h7 ho ?_
  rw [partB_pos e1 (by omega) ho]; conv => whnf
  repeat (first | (refine CondX.tt ?_; conv => whnf) | (refine CondX.ff ?_; conv => whnf))
  repeat (refine Ob.mk (by first | decide | omega) ?_; conv => whnf)
  refine LoadX.of (.agg (bcells ((mem.drop off).take 32)).toArray) (ldV_rdA hP.rd) ?_; conv => whnf
  refine Ob.mk ⟨by show (bcells _).length = 32; rw [bcells_length, hl32], ones_bcells _⟩ ?_; conv => whnf
  refine StoreX.whole (c := (32, y32).snd.zero) (t := 32) (hput_same ..) (by show (bcells _).length = 32; rw [bcells_length, hl32]) ?_
  rw [hput_hput]; conv => whnf
  refine LoadX.all (c := bcells ((mem.drop off).take 32)) (hput_same ..) (by rw [bcells_length, hl32]; rfl) ?_; conv => whnf
  exact RetX.drop (h' := h) (Ext.bd hn1) hk
end
end Go.Proofs.YgvalwGreat.X
