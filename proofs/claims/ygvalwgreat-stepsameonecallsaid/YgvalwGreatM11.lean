import Derived.Test.YgvalwGreatM10
set_option linter.unusedVariables false
set_option linter.unusedSimpArgs false
namespace Go.Proofs.YgvalwGreat.X
open Go

section
variable {h1 hb : Hp} {K : Value → Hp → Prop} {v : VS} {eb : Nat} {m : MS} {t : Nat} {low mem stale : List Int}
theorem ovl_pre {l q x : List Int} {o : Nat} (h : o + x.length ≤ l.length) : ovl (l ++ q) o x = ovl l o x ++ q := by
  have := ovl_mid (p := []) (l := l) (q := q) (x := x) (o := o) h
  simpa using this
theorem BufOK.put {s : Sl} {buf : List Int} (B : BufOK hb s buf) (hd : Dj h1 hb) {mb : Nat} (hmb : s.1 = some ⟨mb, 0, none⟩) {o : Nat} {x : List Int} (ho : o + x.length ≤ buf.length) (hx : X.isB x) :
    ∃ c, hb mb = some (c, 5) ∧ o + (bcells x).length ≤ c.length ∧ BufOK (hput hb mb (setSeg c o (bcells x), 5)) s (ovl buf o x) ∧ Dj h1 (hput hb mb (setSeg c o (bcells x), 5)) ∧ hput (join h1 hb) mb (setSeg c o (bcells x), 5) = join h1 (hput hb mb (setSeg c o (bcells x), 5)) := by
  rcases B.blk with ⟨h0, _⟩ | ⟨mb', pad, e1, e2, e3⟩
  · rw [h0] at hmb; cases hmb
  rw [e1] at hmb; cases hmb
  have hn : h1 mb = none := by
    rcases hd mb with h | h
    · exact h
    · rw [e2] at h; cases h
  refine ⟨_, e2, by rw [bcells_length, bcells_length, List.length_append]; omega, ⟨by rw [ovl_len ho]; exact B.len, ovl_isB B.isB hx, .inr ⟨mb, pad, e1, ?_, by rw [ovl_len ho]; exact e3⟩⟩, hd.put e2, join_putm hn⟩
  rw [hput_same, setSeg_ovl, ovl_pre ho]
theorem AppendX.buf {s : Sl} {buf : List Int} {k : Nat} {KK : Value → Hp → Prop} (hd : Dj h1 hb) (B : BufOK hb s buf) (hr : buf.length + k < 2 ^ 40)
    (hk : ∀ s' hb', Dj h1 hb' → BufOK hb' s' (buf ++ List.replicate k 0) → KK (sl s') (join h1 hb')) : AppendX (join h1 hb) 5 1 1 z5 s.1 s.2.1 s.2.2 (some (zeros z5 k)) k KK := by
  have hby := (B.byt (by omega)).ext (Ext.jr hd)
  have hl := B.len
  have hzB : isB (List.replicate k (0 : Int)) := fun d hd => by have := (List.mem_replicate.1 hd).2; omega
  have hB' : isB (buf ++ List.replicate k 0) := fun d hd => by
    rcases List.mem_append.1 hd with h | h
    · exact B.isB d h
    · exact hzB d h
  refine ⟨by decide, bcells buf, bcells (List.replicate k 0), by rw [Nat.mul_one]; exact hby.rd, by rw [zeros_bcells], by rw [hl]; omega, fun hfit => ?_, fun hc nc hnc b hbd => ?_⟩
  · rcases B.blk with ⟨g1, g2, g3⟩ | ⟨mb, pad, g1, g2, g3⟩
    · rw [g1]
      have hk0 : k = 0 := by omega
      subst hk0
      refine ⟨rfl, ?_⟩
      have := hk s hb hd (by simpa using B)
      rw [show sl s = .slice s.1 s.2.1 s.2.2 from rfl, g1] at this
      exact this
    · have hn : h1 mb = none := by
        rcases hd mb with h | h
        · exact h
        · rw [g2] at h; cases h
      rw [g1]
      refine ⟨_, 5, join_hm hd g2, by rw [bcells_length, List.length_append]; omega, ones_bcells _, ?_⟩
      have es : setSeg (bcells (buf ++ pad)) (0 + s.2.1 * 1) (bcells (List.replicate k 0)) = bcells ((buf ++ List.replicate k 0) ++ pad.drop k) := by
        rw [setSeg_ovl, hl, Nat.zero_add, Nat.mul_one]
        unfold ovl
        rw [List.take_left, List.drop_length_add_append, List.length_replicate]
      rw [es, join_putm hn]
      refine hk (some ⟨mb, 0, none⟩, s.2.1 + k, s.2.2) _ (hd.put g2) ⟨by rw [List.length_append, List.length_replicate, hl], hB', .inr ⟨mb, pad.drop k, rfl, hput_same .., ?_⟩⟩
      show s.2.2 = _
      rw [List.length_append, List.length_replicate, List.length_drop]; omega
  · obtain ⟨hin, hbn⟩ := join_none (hbd.none (Nat.le_refl _))
    have es : bcells buf ++ bcells (List.replicate k 0) ++ zeros z5 (nc - (s.2.1 + k)) = bcells ((buf ++ List.replicate k 0) ++ List.replicate (nc - (s.2.1 + k)) 0) := by
      rw [zeros_bcells]; unfold bcells; rw [List.map_append, List.map_append]
    rw [es, join_putm hin]
    refine hk (some ⟨b, 0, none⟩, s.2.1 + k, nc) _ (hd.newm hin) ⟨by rw [List.length_append, List.length_replicate, hl], hB', .inr ⟨b, List.replicate (nc - (s.2.1 + k)) 0, rfl, hput_same .., ?_⟩⟩
    show nc = _
    rw [List.length_append, List.length_replicate, List.length_replicate, hl]; omega
theorem StoreX.fr {b o : Nat} {vs : List Value} {KK : Hp → Prop} {hF : Hp} (hs : StoreX h1 b o vs fun h' => KK (join h' hF)) : StoreX (join h1 hF) b o vs KK := by
  obtain ⟨c, t, g1, g2, g3⟩ := hs.run
  refine ⟨c, t, join_l g1, g2, ?_⟩
  rw [join_put]; exact g3
theorem LoadX.fr {ag : Bool} {sz b o : Nat} {KK : Value → Prop} {hF : Hp} {x : Value} (hs : ldV ag sz h1 b o = some x) (hk : KK x) : LoadX ag sz (join h1 hF) b o KK := ⟨_, ldV_ext (Ext.jl h1 hF) hs, hk⟩
end
end Go.Proofs.YgvalwGreat.X
