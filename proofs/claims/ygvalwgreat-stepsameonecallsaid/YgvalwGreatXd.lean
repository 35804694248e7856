/-
  REGIONS THAT DRAW THEIR ORDER: one canonical order and a few checks stand for all orders.
-/
import Derived.Test.YgvalwGreatXk
set_option linter.unusedVariables false
set_option linter.unusedSimpArgs false
namespace Go.Proofs.YgvalwGreat.X
open Go

def quietB (o : Oper) : Bool :=
  match o.op with
  | .move _ => true
  | .assign _ => true
  | .pick .. => true
  | .build .. => true
  | .load .. => true
  | .nilCheck _ => true
  | .binOp .. => true
  | .unOp .. => true
  | .convert .. => true
  | .sliceToArrayPointer .. => true
  | .slice .. => true
  | .fieldAddr .. => true
  | .field .. => true
  | .indexAddr .. => true
  | .index .. => true
  | .extract .. => true
  | .call c => match c.callee with
    | .builtin .len => true
    | .builtin .min => true
    | .builtin .max => true
    | _ => false
  | _ => false

/-- A variable's own block, laid anywhere in the region. -/
def floatB (o : Oper) : Bool :=
  match o.op with
  | .alloc _ => o.guard.isNone && o.dst.isSome
  | _ => false

/-- Does a quiet operation look at memory? -/
def readsB (T : Nat → Option Ty) (o : Oper) : Bool :=
  match o.op with
  | .load .. => true
  | .convert _ d _ => match T d with
    | some ⟨.int _, _, _, _, _⟩ => false
    | _ => true
  | _ => false

def deps (o : Oper) : List Nat := (o.after.toList.filter (Region.binds .any)).map (·.on)

section
variable {P : Program} {T : Nat → Option Ty} {n : Nat} {o : Oper} {ρ : Env} {h : Hp} {K : Env → Hp → Prop}

theorem len_quiet (hT : TOk P T) {ts : List TypeId} {args : List Value} {KK : Value → Hp → Prop} (hx : xbuiltin T .len ts args h KK) :
    ∃ v, (∀ (ty : TypeId) (cs : Array Bool) (w : World), (builtin .len ts.toArray ty cs args.toArray).run P w = .ok (.value v) w) ∧ KK v h := by
  unfold xbuiltin at hx
  split at hx
  case h_1 =>
    rename_i t x _
    split at hx
    · rename_i ht
      exact ⟨_, fun ty cs w => by simp [builtin, Builtin.len_, underlying, ((hT _ _ ht).u rfl), goInt], hx⟩
    · rename_i ht
      exact ⟨_, fun ty cs w => by simp [builtin, Builtin.len_, underlying, ((hT _ _ ht).u rfl), goInt], hx⟩
    · rename_i ht
      exact ⟨_, fun ty cs w => by simp [builtin, Builtin.len_, underlying, ((hT _ _ ht).u rfl), goInt], hx⟩
    · exact hx.elim
  all_goals first | (exact hx.elim) | (rename_i hb; cases hb; done) | contradiction
theorem min_quiet {ts : List TypeId} {args : List Value} {KK : Value → Hp → Prop} (hx : xbuiltin T .min ts args h KK) :
    ∃ v, (∀ (ty : TypeId) (cs : Array Bool) (w : World), (builtin .min ts.toArray ty cs args.toArray).run P w = .ok (.value v) w) ∧ KK v h := by
  unfold xbuiltin at hx
  split at hx
  case h_6 => exact ⟨_, fun ty cs w => by simp [builtin, run_min_int2], hx⟩
  all_goals first | (exact hx.elim) | (rename_i hb; cases hb; done) | contradiction
theorem max_quiet {ts : List TypeId} {args : List Value} {KK : Value → Hp → Prop} (hx : xbuiltin T .max ts args h KK) :
    ∃ v, (∀ (ty : TypeId) (cs : Array Bool) (w : World), (builtin .max ts.toArray ty cs args.toArray).run P w = .ok (.value v) w) ∧ KK v h := by
  unfold xbuiltin at hx
  split at hx
  case h_7 => exact ⟨_, fun ty cs w => by simp [builtin, run_max_int2], hx⟩
  all_goals first | (exact hx.elim) | (rename_i hb; cases hb; done) | contradiction

theorem xop_quiet (hT : TOk P T) (hq : quietB o = true) (hx : xop P T n o ρ h K) : QV P n o ρ h K := by
  cases ho : o.op with
  | move x => exact x_move ho hx
  | assign x => exact x_assign ho hx
  | pick c a b => exact x_pick ho hx
  | build t ps => exact x_build hT ho hx
  | load t x => exact x_load hT ho hx
  | nilCheck x => exact x_nilCheck ho hx
  | binOp op t x y t2 =>
    by_cases hi : ∃ k a k' b, ev n ρ x = .int k a ∧ ev n ρ y = .int k' b
    · obtain ⟨k, a, k', b, ha, hb⟩ := hi
      exact x_binInt ho ha hb hx
    · exact x_binEq hT ho (fun k a k' b hab => hi ⟨k, a, k', b, hab⟩) hx
  | unOp op t x => exact x_unOp ho hx
  | convert s d x => exact x_convert hT ho hx
  | sliceToArrayPointer t x => exact x_sliceToArr hT ho hx
  | slice t x l h m => exact x_slice hT ho hx
  | fieldAddr s x f => exact x_fieldAddr hT ho hx
  | field s x f => exact x_field hT ho hx
  | indexAddr t x i => exact x_indexAddr hT ho hx
  | index t x i => exact x_index hT ho hx
  | extract x i => exact x_extract ho hx
  | call c =>
    simp only [quietB, ho] at hq
    have hargs : (List.map (ev n ρ) c.args.toList).toArray = c.args.map (ev n ρ) := by
      apply Array.ext'; simp
    simp only [xop, ho] at hx
    split at hq
    · rename_i hc
      simp only [hc] at hx
      obtain ⟨v, hr, hk⟩ := len_quiet (P := P) hT (evs_sound hx)
      refine ⟨v, fun w _ => ?_, hk⟩
      rw [hargs] at hr
      simp only [execOp, ho, resolve, hc, Sem.run_bind, Sem.run_pure, Result.andThen_ok, invoke]
      exact hr _ _ w
    · rename_i hc
      simp only [hc] at hx
      obtain ⟨v, hr, hk⟩ := min_quiet (P := P) (evs_sound hx)
      refine ⟨v, fun w _ => ?_, hk⟩
      rw [hargs] at hr
      simp only [execOp, ho, resolve, hc, Sem.run_bind, Sem.run_pure, Result.andThen_ok, invoke]
      exact hr _ _ w
    · rename_i hc
      simp only [hc] at hx
      obtain ⟨v, hr, hk⟩ := max_quiet (P := P) (evs_sound hx)
      refine ⟨v, fun w _ => ?_, hk⟩
      rw [hargs] at hr
      simp only [execOp, ho, resolve, hc, Sem.run_bind, Sem.run_pure, Result.andThen_ok, invoke]
      exact hr _ _ w
    · cases hq
  | _ => simp [quietB, ho] at hq

end
end Go.Proofs.YgvalwGreat.X
namespace Go.Proofs.YgvalwGreat.X
open Go

def ancL (ops : List Oper) : List (List Nat) :=
  ops.foldl (fun acc o => acc ++ [((deps o) ++ (deps o).flatMap fun d => acc.getD d []).eraseDups]) []

def ancB (anc : List (List Nat)) (i j : Nat) : Bool := (anc.getD i []).contains j

def ancOk (ops : List Oper) (anc : List (List Nat)) : Bool :=
  (List.range anc.length).all fun i => match ops[i]? with
    | some o => (anc.getD i []).all fun j => (deps o).contains j || (deps o).any fun d => ancB anc d j
    | none => false

def backOk (ops : List Oper) : Bool := (List.range ops.length).all fun i => match ops[i]? with
  | some o => (deps o).all fun d => decide (d < i)
  | none => false

def onceB : List Nat → Bool
  | [] => true
  | a :: l => !l.contains a && onceB l

/-- What is read of an operation's tmps is written by one that is ordered against it. -/
def rwOk (ops : List Oper) (anc : List (List Nat)) : Bool := (List.range ops.length).all fun i => match ops[i]? with
  | some o => (o.looksAt ops.toArray).all fun t => (List.range ops.length).all fun j => match ops[j]? with
    | some o' => !(o'.dst == some t) || ancB anc i j || ancB anc j i
    | none => true
  | none => false

/-- The canonical order: whatever stands behind an operation that is not quiet waits for it, but for a variable's block. -/
def ordB (ops : List Oper) (anc : List (List Nat)) : List Nat → Bool
  | [] => true
  | i :: l => (match ops[i]? with
      | some o => (quietB o || l.all fun k => ancB anc k i || (match ops[k]? with | some ok => floatB ok | none => false)) && l.all fun k => !ancB anc i k && !(deps o).contains k
      | none => false) && ordB ops anc l

/-- What a reading operation looks at is written before it. -/
def rdOk (T : Nat → Option Ty) (ops : List Oper) (anc : List (List Nat)) : Bool := (List.range ops.length).all fun i => match ops[i]? with
  | some o => !readsB T o || (o.looksAt ops.toArray).all fun t => (List.range ops.length).all fun j => match ops[j]? with
    | some o' => !(o'.dst == some t) || ancB anc i j
    | none => true
  | none => false

def drawOk (T : Nat → Option Ty) (ops : List Oper) (anc : List (List Nat)) (ord : List Nat) : Bool :=
  ancOk ops anc && rdOk T ops anc && backOk ops && onceB (ops.filterMap (·.dst)) && rwOk ops anc && ordB ops anc ord && onceB ord && Nat.beq ord.length ops.length && (ord.all fun i => decide (i < ops.length)) && (ops.all fun o => match o.op with | .select .. => false | _ => true)

structure BoxW (h : Hp) (t : TypeId) (vs : List Value) (K : Nat → Hp → Prop) : Prop where
  run : ∀ b, h b = none → K b (hput h b (vs, t))

/-- Behind a loud operation: what was read beside it reads as before. -/
def stabs (T : Nat → Option Ty) (n : Nat) (ops : List Oper) (ρ : Env) (h : Hp) (l : List Nat) (k : Prop) : Prop :=
  List.rec (motive := fun _ => Prop) k (fun i _ ih => match ops[i]? with
    | some o => match o.op, o.dst with
      | .load t x, some d => match ev n ρ (.tmp d) with
        | .tuple _ => match o.guard with
          | none => False
          | some (j, want) => match ops[j]? with
            | none => False
            | some oj => match oj.dst with
              | none => False
              | some dj => match ev n ρ (.tmp dj), want with
                | .bool true, false => ih
                | .bool false, true => ih
                | .tuple _, _ => ih
                | _, _ => False
        | v => match ev n ρ x, T t with
          | .pointer (some ⟨b, off, none⟩), some y => Ob (ldV y.agg y.size h b off = some v) ih
          | _, _ => False
      | _, _ => False
    | none => False) l

def xdr (P : Program) (T : Nat → Option Ty) (n : Nat) (ops : List Oper) (anc : List (List Nat)) (ord : List Nat) (done : List Nat) (ρ : Env) (h : Hp) (K : Env → Hp → Prop) : Prop :=
  List.rec (motive := fun _ => List Nat → Env → Hp → Prop) (fun _ ρ h => K ρ h)
    (fun i _ ih done ρ h => match ops[i]? with
      | none => False
      | some o => match floatB o with
        | true => match o.op with
          | .alloc t => match T t with
            | some y => BoxW h t y.zero fun b h' => ih (i :: done) (put ρ o.dst (.pointer (some ⟨b, 0, none⟩))) h'
            | none => False
          | _ => False
        | false => match quietB o with
          | true => xopg P T n ops o ρ h fun ρ' h' => ih (i :: done) ρ' h'
          | false => xopg P T n ops o ρ h fun ρ' h' => stabs T n ops ρ' h' (done.filter fun j => (match ops[j]? with | some oj => readsB T oj | none => false) && !ancB anc i j) (ih (i :: done) ρ' h'))
    ord done ρ h

section
variable {P : Program} {T : Nat → Option Ty} {n : Nat} {ρ : Env} {h : Hp} {K : Env → Hp → Prop} {ops : List Oper} {anc : List (List Nat)}

theorem anc_spec (ha : ancOk ops anc = true) {i j : Nat} (hij : ancB anc i j = true) : ∃ o, ops[i]? = some o ∧ (j ∈ deps o ∨ ∃ d ∈ deps o, ancB anc d j = true) := by
  unfold ancOk at ha
  rw [List.all_eq_true] at ha
  have hi : i < anc.length := by
    unfold ancB at hij
    rcases Nat.lt_or_ge i anc.length with h1 | h1
    · exact h1
    · simp [List.getElem?_eq_none h1] at hij
  have := ha i (List.mem_range.2 hi)
  split at this
  · rename_i o ho
    rw [List.all_eq_true] at this
    have hm : j ∈ anc.getD i [] := by unfold ancB at hij; simpa using hij
    have := this j hm
    simp only [Bool.or_eq_true, List.any_eq_true, List.contains_iff_mem] at this
    exact ⟨o, ho, this⟩
  · cases this

theorem back_spec (hb : backOk ops = true) {i : Nat} {o : Oper} (ho : ops[i]? = some o) {d : Nat} (hd : d ∈ deps o) : d < i := by
  unfold backOk at hb
  rw [List.all_eq_true] at hb
  have hi : i < ops.length := (List.getElem?_eq_some_iff.1 ho).1
  have := hb i (List.mem_range.2 hi)
  rw [ho] at this
  simp only [List.all_eq_true, decide_eq_true_eq] at this
  exact this d hd

theorem anc_lt (ha : ancOk ops anc = true) (hb : backOk ops = true) : ∀ (i j : Nat), ancB anc i j = true → j < i := by
  intro i
  induction i using Nat.strongRecOn with
  | _ i ih =>
    intro j hij
    obtain ⟨o, ho, h1 | ⟨d, hd, h2⟩⟩ := anc_spec ha hij
    · exact back_spec hb ho h1
    · have hdi := back_spec hb ho hd
      exact Nat.lt_trans (ih d hdi j h2) hdi

/-- A set that holds with each operation what it waits for. -/
def Closed (ops : List Oper) (S : Nat → Bool) : Prop := ∀ i o, ops[i]? = some o → S i = true → ∀ d ∈ deps o, S d = true

theorem anc_closed (ha : ancOk ops anc = true) (hb : backOk ops = true) {S : Nat → Bool} (hS : Closed ops S) : ∀ (i : Nat) (o : Oper), ops[i]? = some o → (∀ d ∈ deps o, S d = true) → ∀ j, ancB anc i j = true → S j = true := by
  intro i
  induction i using Nat.strongRecOn with
  | _ i ih =>
    intro o ho hd j hij
    obtain ⟨o', ho', h1 | ⟨d, hd', h2⟩⟩ := anc_spec ha hij
    · rw [ho] at ho'; cases ho'; exact hd j h1
    · rw [ho] at ho'; cases ho'
      have hdi := back_spec hb ho hd'
      have hdS := hd d hd'
      obtain ⟨od, hod⟩ : ∃ od, ops[d]? = some od := by
        have hi : i < ops.length := (List.getElem?_eq_some_iff.1 ho).1
        exact ⟨ops[d]'(by omega), List.getElem?_eq_getElem _⟩
      exact ih d hdi od hod (hS d od hod hdS) j h2

def wr (ops : List Oper) (t : Nat) : Option Nat := ops.findIdx? fun o => o.dst == some t

def envS (ops : List Oper) (ρ0 : Env) (val : Nat → Value) (S : Nat → Bool) : Env := fun t =>
  match wr ops t with
  | some i => bif S i then val i else ρ0 t
  | none => ρ0 t

theorem onceB_nodup {l : List Nat} (h : onceB l = true) : l.Nodup := by
  induction l with
  | nil => exact List.nodup_nil
  | cons a l ih =>
    simp only [onceB, Bool.and_eq_true, Bool.not_eq_true', List.contains_eq_mem, decide_eq_false_iff_not] at h
    exact List.nodup_cons.2 ⟨h.1, ih h.2⟩

theorem wr_unique (h1 : onceB (ops.filterMap (·.dst)) = true) {i : Nat} {o : Oper} {t : Nat} (ho : ops[i]? = some o) (hd : o.dst = some t) : wr ops t = some i := by
  have hn := onceB_nodup h1
  clear h1
  unfold wr
  induction ops generalizing i with
  | nil => simp at ho
  | cons a l ih =>
    rw [List.findIdx?_cons]
    cases i with
    | zero =>
      simp at ho; subst ho
      simp [hd]
    | succ i =>
      simp at ho
      have hne : ¬ (a.dst = some t) := by
        intro ha
        rw [List.filterMap_cons_some ha] at hn
        have := (List.nodup_cons.1 hn).1
        exact this (List.mem_filterMap.2 ⟨o, List.mem_of_getElem? ho, hd⟩)
      have hn' : (l.filterMap (·.dst)).Nodup := by
        cases ha : a.dst with
        | none => rw [List.filterMap_cons_none ha] at hn; exact hn
        | some x => rw [List.filterMap_cons_some ha] at hn; exact (List.nodup_cons.1 hn).2
      simp [hne, ih ho hn']

theorem wr_spec {t i : Nat} (hw : wr ops t = some i) : ∃ o, ops[i]? = some o ∧ o.dst = some t := by
  unfold wr at hw
  obtain ⟨h1, h2, -⟩ := List.findIdx?_eq_some_iff_getElem.1 hw
  exact ⟨ops[i], List.getElem?_eq_getElem h1, by simpa using h2⟩

def upS (S : Nat → Bool) (i : Nat) : Nat → Bool := fun j => Nat.beq j i || S j
def upV (val : Nat → Value) (i : Nat) (v : Value) : Nat → Value := fun j => bif Nat.beq j i then v else val j

theorem beq_self (i : Nat) : Nat.beq i i = true := Nat.beq_refl i
theorem beq_ne {i j : Nat} (h : i ≠ j) : Nat.beq i j = false := by
  cases hb : Nat.beq i j
  · rfl
  · exact absurd (Nat.eq_of_beq_eq_true hb) h

theorem envS_put (h1 : onceB (ops.filterMap (·.dst)) = true) {ρ0 : Env} {val : Nat → Value} {S : Nat → Bool} {i : Nat} {o : Oper} (ho : ops[i]? = some o) (v : Value) :
    envS ops ρ0 (upV val i v) (upS S i) = put (envS ops ρ0 val (fun j => S j)) o.dst v := by
  funext t
  cases hd : o.dst with
  | none =>
    simp only [put, envS]
    cases hw : wr ops t with
    | none => rfl
    | some j =>
      have hji : j ≠ i := by
        rintro rfl
        obtain ⟨o', ho', hd'⟩ := wr_spec hw
        rw [ho] at ho'; cases ho'; rw [hd] at hd'; cases hd'
      simp [upS, upV, beq_ne hji]
  | some d =>
    simp only [put]
    by_cases htd : t = d
    · subst htd
      have hw := wr_unique h1 ho hd
      simp [envS, hw, upS, upV, beq_self]
    · rw [beq_ne htd]
      simp only [cond_false, envS]
      cases hw : wr ops t with
      | none => rfl
      | some j =>
        have hji : j ≠ i := by
          rintro rfl
          obtain ⟨o', ho', hd'⟩ := wr_spec hw
          rw [ho] at ho'; cases ho'; rw [hd] at hd'; cases hd'; exact htd rfl
        simp [upS, upV, beq_ne hji]

end
end Go.Proofs.YgvalwGreat.X
