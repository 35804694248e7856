/-
  RULES for the executor's leaves: what a proof of a function's contract uses.
-/
import Derived.Test.YgvalwGreatXu
set_option linter.unusedVariables false
set_option linter.unusedSimpArgs false
namespace Go.Proofs.YgvalwGreat.X
open Go

theorem Bd.hput {h : Hp} {b : Nat} {x} (hb : Bd h b) : Bd (hput h b x) (b + 1) := by
  intro b' y hy
  simp only [X.hput] at hy
  split at hy
  · omega
  · have := hb b' y hy; omega
theorem Bd.top {h : Hp} {n b : Nat} {x} (hb : Bd (X.hput h n x) b) : n < b := hb n x (by simp [X.hput])
theorem Bd.rest {h : Hp} {n b : Nat} {x} (hb : Bd (X.hput h n x) b) (hn : h n = none) : Bd h b := by
  intro b' y hy
  have hne : b' ≠ n := by rintro rfl; rw [hn] at hy; cases hy
  exact hb b' y (by simp [X.hput, hne, hy])
theorem Bd.none {h : Hp} {N b : Nat} (hb : Bd h N) (hN : N ≤ b) : h b = none := by
  cases hh : h b with
  | none => rfl
  | some x => have := hb b x hh; omega

theorem hput_same (h : Hp) (b : Nat) (x) : hput h b x b = some x := by simp [hput]
theorem hput_ne {h : Hp} {b n : Nat} {x} (hne : b ≠ n) : hput h n x b = h b := by simp [hput, hne]
theorem hput_comm {h : Hp} {b n : Nat} {x y} (hne : b ≠ n) : hput (hput h n x) b y = hput (hput h b y) n x := by
  funext c
  simp only [hput]
  by_cases h1 : c = b
  · subst h1; simp [hne]
  · simp [h1]

/-- A cell, or a row of cells, of a block's content. -/
def ldC (agg : Bool) (sz : Nat) (c : List Value) (o : Nat) : Option Value :=
  match agg with
  | true => if o + sz ≤ c.length then some (.agg (seg c o sz).toArray) else none
  | false => c[o]?
theorem ldV_same (agg : Bool) (sz : Nat) (h : Hp) (n : Nat) (c : List Value) (t : TypeId) (o : Nat) : ldV agg sz (hput h n (c, t)) n o = ldC agg sz c o := by
  simp only [ldV, hput_same]; rfl
theorem ldV_ne {agg : Bool} {sz : Nat} {h : Hp} {n b : Nat} {x} {o : Nat} (hne : b ≠ n) : ldV agg sz (hput h n x) b o = ldV agg sz h b o := by
  simp only [ldV, hput_ne hne]
theorem ldV_at {agg : Bool} {sz : Nat} {h : Hp} {b : Nat} {c t} {o : Nat} (hb : h b = some (c, t)) : ldV agg sz h b o = ldC agg sz c o := by
  simp only [ldV, hb]; rfl

theorem rd_same {h : Hp} {n : Nat} {c t} {o m : Nat} (hl : o + m ≤ c.length) : rd (hput h n (c, t)) (some ⟨n, o, none⟩) m = some (seg c o m) := by
  simp [rd, hput_same, hl]
theorem rd_ne {h : Hp} {n b : Nat} {x} {o m : Nat} (hne : b ≠ n) : rd (hput h n x) (some ⟨b, o, none⟩) m = rd h (some ⟨b, o, none⟩) m := by
  simp only [rd, hput_ne hne]
theorem rd_nil (h : Hp) : rd h none 0 = some [] := rfl

theorem CondX.tt {A B : Prop} (h : A) : CondX true A B := CondX.mk (fun _ => h) (fun h => Bool.noConfusion h)
theorem CondX.ff {A B : Prop} (h : B) : CondX false A B := CondX.mk (fun h => Bool.noConfusion h) (fun _ => h)
theorem CondX.pos {b : Bool} {A B : Prop} (hb : b = true) (h : A) : CondX b A B := by subst hb; exact CondX.tt h
theorem CondX.neg {b : Bool} {A B : Prop} (hb : b = false) (h : B) : CondX b A B := by subst hb; exact CondX.ff h
theorem LoadX.of {agg : Bool} {sz : Nat} {h : Hp} {b o : Nat} {K : Value → Prop} (v : Value) (hv : ldV agg sz h b o = some v) (hk : K v) : LoadX agg sz h b o K := ⟨v, hv, hk⟩
/-- A new block on a heap whose top layer is known: it lies above it. -/
theorem BoxX.on {h : Hp} {m : Nat} {x} {t : TypeId} {vs : List Value} {K : Nat → Hp → Prop} (hk : ∀ b, m < b → Bd (hput h m x) b → K b (hput (hput h m x) b (vs, t))) : BoxX (hput h m x) t vs K :=
  ⟨fun b hb => hk b hb.top hb⟩
theorem StoreX.same {h : Hp} {b o : Nat} {c t} {vs : List Value} {K : Hp → Prop} (hl : o + vs.length ≤ c.length) (hk : K (hput h b (setSeg c o vs, t))) : StoreX (hput h b (c, t)) b o vs K :=
  ⟨c, t, hput_same _ _ _, hl, by rw [hput_hput]; exact hk⟩
theorem StoreX.ne {h : Hp} {b n o : Nat} {x} {vs : List Value} {K : Hp → Prop} (hne : b ≠ n) (hk : StoreX h b o vs fun h' => K (hput h' n x)) : StoreX (hput h n x) b o vs K := by
  obtain ⟨c, t, hb, hl, hk⟩ := hk
  exact ⟨c, t, by rw [hput_ne hne]; exact hb, hl, by rw [hput_comm hne]; exact hk⟩
theorem StoreX.at {h : Hp} {b o : Nat} {c t} {vs : List Value} {K : Hp → Prop} (hb : h b = some (c, t)) (hl : o + vs.length ≤ c.length) (hk : K (hput h b (setSeg c o vs, t))) : StoreX h b o vs K :=
  ⟨c, t, hb, hl, hk⟩

theorem RetX.same {K : Value → Hp → Prop} {h : Hp} {v : Value} (hk : K v h) : RetX K h v := ⟨h, fun _ _ hb => hb, hk⟩
theorem RetX.drop {K : Value → Hp → Prop} {h h' : Hp} {v : Value} (hle : ∀ b x, h' b = some x → h b = some x) (hk : K v h') : RetX K h v := ⟨h', hle, hk⟩

end Go.Proofs.YgvalwGreat.X
