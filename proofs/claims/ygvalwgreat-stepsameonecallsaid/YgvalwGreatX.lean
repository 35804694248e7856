/-
  A VERIFIED EXECUTOR over the model's code: partial heaps, Prop-valued, in continuation style. Its definitions are by explicit recursors, so that
  'conv => whnf' runs it and the kernel's check of each run is cheap. This text: the definitions.
-/
import Derived.Tactics
import Derived.Orders
set_option linter.unusedVariables false
set_option linter.unusedSimpArgs false
namespace Go.Proofs.YgvalwGreat.X
open Go

abbrev Hp := Nat → Option (List Value × TypeId)
abbrev Env := Nat → Value

structure Ty where
  desc : TypeDesc
  agg : Bool
  size : Nat
  bytes : Nat
  zero : List Value

def ev (n : Nat) (ρ : Env) : Operand → Value
  | .tmp t => bif Nat.blt t n then ρ t else undef
  | .const v => v
  | .global g => .pointer (some ⟨g, 0, none⟩)
  | .func f => .func (.func f) #[] #[]

def put (ρ : Env) (d : Option Tmp) (v : Value) : Env :=
  match d with
  | some d => fun t => bif Nat.beq t d then v else ρ t
  | none => ρ

def force (v : Value) (k : Value → Prop) : Prop :=
  match v with
  | .bool b => k (.bool b)
  | .int kd x => k (.int kd x)
  | .string s => k (.string s)
  | .pointer a => k (.pointer a)
  | .slice a l c => k (.slice a l c)
  | .func f a b => k (.func f a b)
  | .agg cs => k (.agg cs)
  | .tuple vs => k (.tuple vs)
  | _ => False

def hput (h : Hp) (n : Nat) (o : List Value × TypeId) : Hp := fun b => if b = n then some o else h b

/-- Every tracked block lies below N. -/
def Bd (h : Hp) (N : Nat) : Prop := ∀ b x, h b = some x → b < N

/-- The segment of 'c' from 'o' on, overlaid by 'vs'. -/
def setSeg (c : List Value) (o : Nat) (vs : List Value) : List Value := c.take o ++ vs ++ c.drop (o + vs.length)

def seg (c : List Value) (o n : Nat) : List Value := (c.drop o).take n

def ldV (agg : Bool) (sz : Nat) (h : Hp) (b o : Nat) : Option Value :=
  match h b with
  | none => none
  | some (c, _) => match agg with
    | true => if o + sz ≤ c.length then some (.agg (seg c o sz).toArray) else none
    | false => c[o]?

/-- 'n' cells from a slice's base on. -/
def rd (h : Hp) (base : Option Addr) (n : Nat) : Option (List Value) :=
  match base with
  | none => if n = 0 then some [] else none
  | some ⟨b, o, none⟩ => match h b with
    | none => none
    | some (c, _) => if o + n ≤ c.length then some (seg c o n) else none
  | some _ => none

/-- 'n' copies of the zero cells. -/
def zeros (z : List Value) (n : Nat) : List Value := (List.replicate n z).flatten

def soff (o l m sz : Nat) : Nat := if m = l then o else o + l * sz

/-- No cell of the list is itself a row of cells. -/
def ones : List Value → Bool
  | [] => true
  | .agg _ :: _ => false
  | .tuple _ :: _ => false
  | _ :: vs => ones vs

structure Ob (p k : Prop) : Prop where
  ob : p
  go : k
structure CondX (b : Bool) (A B : Prop) : Prop where
  t : b = true → A
  f : b = false → B
structure LoadX (agg : Bool) (sz : Nat) (h : Hp) (b o : Nat) (K : Value → Prop) : Prop where
  run : ∃ v, ldV agg sz h b o = some v ∧ K v
structure StoreX (h : Hp) (b o : Nat) (vs : List Value) (K : Hp → Prop) : Prop where
  run : ∃ c t, h b = some (c, t) ∧ o + vs.length ≤ c.length ∧ K (hput h b (setSeg c o vs, t))
structure BoxX (h : Hp) (t : TypeId) (vs : List Value) (K : Nat → Hp → Prop) : Prop where
  run : ∀ b, Bd h b → K b (hput h b (vs, t))
structure MakeX (h : Hp) (e : TypeId) (z : List Value) (bytes : Nat) (len cap : Int) (K : Nat → Hp → Prop) : Prop where
  pos : 0 < bytes
  lo : 0 ≤ len
  le : len ≤ cap
  room : cap * bytes ≤ 2 ^ 47
  run : ∀ b, Bd h b → K b (hput h b (zeros z cap.toNat, e))
structure AppendX (h : Hp) (e : TypeId) (sz bytes : Nat) (z : List Value) (base : Option Addr) (len cap : Nat) (nw : Option (List Value)) (n : Nat) (K : Value → Hp → Prop) : Prop where
  pos : 0 < bytes
  run : ∃ old new, rd h base (len * sz) = some old ∧ nw = some new ∧ (len + n) * bytes ≤ 2 ^ 47 ∧
    (len + n ≤ cap → match base with
      | none => n = 0 ∧ K (.slice none (len + n) cap) h
      | some ⟨b, o, none⟩ => ∃ c t, h b = some (c, t) ∧ o + (len + n) * sz ≤ c.length ∧ ones new = true ∧ K (.slice base (len + n) cap) (hput h b (setSeg c (o + len * sz) new, t))
      | _ => False) ∧
    (cap < len + n → ∀ nc, len + n ≤ nc → ∀ b, Bd h b → K (.slice (some ⟨b, 0, none⟩) (len + n) nc) (hput h b (old ++ new ++ zeros z (nc - (len + n)), e)))
structure CopyX (h : Hp) (sz : Nat) (db : Option Addr) (dl : Nat) (xb : Option Addr) (xl : Nat) (K : Value → Hp → Prop) : Prop where
  run : ∃ cs, rd h xb (Nat.min xl dl * sz) = some cs ∧ match db with
      | none => K (.int .i64 (Nat.min xl dl : Nat)) h
      | some ⟨b, o, none⟩ => ∃ c t, h b = some (c, t) ∧ o + cs.length ≤ c.length ∧ ones cs = true ∧ K (.int .i64 (Nat.min xl dl : Nat)) (hput h b (setSeg c o cs, t))
      | _ => False
structure ClearX (h : Hp) (z : List Value) (db : Option Addr) (dl : Nat) (K : Hp → Prop) : Prop where
  run : (dl = 0 → K h) ∧ (dl ≠ 0 → match db with
      | some ⟨b, o, none⟩ => ∃ c t, h b = some (c, t) ∧ o + (zeros z dl).length ≤ c.length ∧ ones (zeros z dl) = true ∧ K (hput h b (setSeg c o (zeros z dl), t))
      | _ => False)
structure StrX (h : Hp) (base : Option Addr) (n : Nat) (K : ByteArray → Prop) : Prop where
  run : ∃ ns : List Int, rd h base n = some (ns.map (Value.int .u8)) ∧ K ⟨(ns.map fun x => UInt8.ofNat x.toNat).toArray⟩

/-- The heap lies in the world. -/
def Sub (h : Hp) (w : World) : Prop := ∀ b c t, h b = some (c, t) → w.heap[b]? = some (.cells c.toArray t (0, 0))

structure Fr (h : Hp) (w : World) (h' : Hp) (w' : World) : Prop where
  size : w.heap.size ≤ w'.heap.size
  keep : ∀ b, b < w.heap.size → h b = none → w'.heap[b]? = w.heap[b]?
  new : ∀ b, h b = none → h' b ≠ none → w.heap.size ≤ b
  os : w'.os = w.os
  out : w'.output = w.output

def RetK (h : Hp) (w : World) (K : Value → Hp → Prop) (e : Ending) (w' : World) : Prop :=
  ∃ v h', e = .returned v ∧ K v h' ∧ Sub h' w' ∧ Fr h w h' w'

def SC (P : Program) (f : FuncId) (args : List Value) (h : Hp) (K : Value → Hp → Prop) : Prop :=
  ∀ w, Sub h w → Calls P f args.toArray w (RetK h w K)

structure CallX (P : Program) (f : FuncId) (args : List Value) (h : Hp) (K : Value → Hp → Prop) : Prop where
  run : ∀ w, Sub h w → match (callFunc f args.toArray).run P w with
    | .ok (.enter g xs) w1 => w1 = w ∧ Calls P g xs w (RetK h w K)
    | .ok (.value v) w1 => ∃ h', K v h' ∧ Sub h' w1 ∧ Fr h w h' w1
    | _ => False

def actOf (n : Nat) (ρ : Env) : Act := ⟨Array.ofFn (n := n) fun i => ρ i.val, []⟩

/-- From this todo-list on the function's run comes to its return, and 'K' holds there. -/
def Good (P : Program) (f : FuncId) (n : Nat) (K : Value → Hp → Prop) (todo : List Item) (ρ : Env) (h : Hp) : Prop :=
  ∀ (w : World) (cs : List Frame) (b : Frame), b.fn = f → b.kind = .normal → Sub h w →
    ∃ v h' w' fr, K v h' ∧ Sub h' w' ∧ Fr h w h' w' ∧ Steps P (lone (b.at (actOf n ρ) todo) cs w) (lone fr cs w') ∧ fr.fn = f ∧ fr.leaving P w' (.returned v)

structure LoopX (P : Program) (f : FuncId) (n : Nat) (K : Value → Hp → Prop) (c : Code) (k : List Item) (ρ : Env) (h : Hp) : Prop where
  run : Good P f n K (.code c :: .inLoop c :: k) ρ h

/-- What a region's operation does in the executor, as the next op's continuation takes it. -/
def intB (op : BinOp) (k : IntKind) (x y : Int) (K : Value → Prop) : Prop :=
  match op with
  | .add => K (.int k (k.wrap (x + y)))
  | .sub => K (.int k (k.wrap (x - y)))
  | .mul => K (.int k (k.wrap (x * y)))
  | .quo => Ob (y ≠ 0) (K (.int k (k.wrap (x.tdiv y))))
  | .rem => Ob (y ≠ 0) (K (.int k (x.tmod y)))
  | .and => K (.int k (k.wrap (BitVec.ofInt k.bits x &&& BitVec.ofInt k.bits y).toNat))
  | .or => K (.int k (k.wrap (BitVec.ofInt k.bits x ||| BitVec.ofInt k.bits y).toNat))
  | .xor => K (.int k (k.wrap (BitVec.ofInt k.bits x ^^^ BitVec.ofInt k.bits y).toNat))
  | .andNot => K (.int k (k.wrap (BitVec.ofInt k.bits x &&& ~~~BitVec.ofInt k.bits y).toNat))
  | .eql => K (.bool (x == y))
  | .neq => K (.bool (x != y))
  | .lss => K (.bool (decide (x < y)))
  | .leq => K (.bool (decide (x ≤ y)))
  | .gtr => K (.bool (decide (x > y)))
  | .geq => K (.bool (decide (x ≥ y)))
  | _ => False

def strB (op : BinOp) (x y : ByteArray) (K : Value → Prop) : Prop :=
  match op with
  | .eql => K (.bool (x.toList == y.toList))
  | .neq => K (.bool !(x.toList == y.toList))
  | .lss => K (.bool (Op.bytesLess x.toList y.toList))
  | .geq => K (.bool !(Op.bytesLess x.toList y.toList))
  | _ => False

/-- Two arrays of integers. -/
def eqCells : List Value → List Value → Bool
  | [], [] => true
  | .int _ x :: xs, .int _ y :: ys => (x == y) && eqCells xs ys
  | _, _ => false
def intCells (k : IntKind) : List Value → Bool
  | [] => true
  | .int k' _ :: xs => decide (k' = k) && intCells k xs
  | _ => false

def eqB (T : Nat → Option Ty) (op : BinOp) (t : TypeId) (x y : Value) (K : Value → Prop) : Prop :=
  match op, x, y with
  | .eql, .bool a, .bool b => match T t with
    | some ⟨.bool, _, _, _, _⟩ => K (.bool (a == b))
    | _ => False
  | .neq, .bool a, .bool b => match T t with
    | some ⟨.bool, _, _, _, _⟩ => K (.bool !(a == b))
    | _ => False
  | op, .string a, .string b => strB op a b K
  | .eql, .pointer p, .pointer none => match T t with
    | some ⟨.pointer _, _, _, _, _⟩ => K (.bool p.isNone)
    | _ => False
  | .neq, .pointer p, .pointer none => match T t with
    | some ⟨.pointer _, _, _, _, _⟩ => K (.bool !p.isNone)
    | _ => False
  | .eql, .slice p _ _, .slice none _ _ => match T t with
    | some ⟨.slice _, _, _, _, _⟩ => K (.bool p.isNone)
    | _ => False
  | .neq, .slice p _ _, .slice none _ _ => match T t with
    | some ⟨.slice _, _, _, _, _⟩ => K (.bool !p.isNone)
    | _ => False
  | .eql, .agg xs, .agg ys => match T t with
    | some ⟨.array len e, _, _, _, _⟩ => match T e with
      | some ⟨.int k, _, _, _, _⟩ => Ob (xs.size = len ∧ ys.size = len ∧ intCells k xs.toList = true ∧ intCells k ys.toList = true) (K (.bool (eqCells xs.toList ys.toList)))
      | _ => False
    | _ => False
  | .neq, .agg xs, .agg ys => match T t with
    | some ⟨.array len e, _, _, _, _⟩ => match T e with
      | some ⟨.int k, _, _, _, _⟩ => Ob (xs.size = len ∧ ys.size = len ∧ intCells k xs.toList = true ∧ intCells k ys.toList = true) (K (.bool !(eqCells xs.toList ys.toList)))
      | _ => False
    | _ => False
  | _, _, _ => False

def shiftB (op : BinOp) (k : IntKind) (x y : Int) (K : Value → Prop) : Prop :=
  match op with
  | .shl => Ob (0 ≤ y) (K (.int k (k.wrap (x * 2 ^ (min y.toNat k.bits)))))
  | .shr => Ob (0 ≤ y) (K (.int k (x.fdiv (2 ^ (min y.toNat k.bits)))))
  | _ => False

def evs (n : Nat) (ρ : Env) (os : List Operand) (k : List Value → Prop) : Prop :=
  List.rec (motive := fun _ => (List Value → Prop) → Prop) (fun k => k []) (fun o _ ih k => force (ev n ρ o) fun v => ih fun vs => k (v :: vs)) os k

/-- A literal's parts laid over the zero cells. -/
def fillL (place : Nat → Option (Nat × Nat)) (cells : List Value) : List (Nat × Value) → Option (List Value)
  | [] => some cells
  | (i, v) :: rest =>
    match place i with
    | none => none
    | some (off, size) =>
      if v.cells.size = size ∧ off + size ≤ cells.length then fillL place (setSeg cells off v.cells.toList) rest else none

def forceL (l : List Value) (k : List Value → Prop) : Prop :=
  List.rec (motive := fun _ => (List Value → Prop) → Prop) (fun k => k []) (fun v _ ih k => force v fun v => ih fun vs => k (v :: vs)) l k

def boundI (x : Option Value) (K : Option Int → Prop) : Prop :=
  match x with
  | none => K none
  | some (.int _ i) => K (some i)
  | some _ => False

def placesOf (T : Nat → Option Ty) (fs : List Field) (i : Nat) : Option (Nat × Nat) :=
  match fs[i]? with
  | none => none
  | some f => match T f.type with
    | none => none
    | some y => some (f.offset, y.size)

def sliceB (b o n cap sz : Nat) (lo hi mx : Option Int) (K : Value → Prop) : Prop :=
  match lo, hi, mx with
  | none, none, none => K (.slice (some ⟨b, soff o 0 cap sz, none⟩) (n - 0) (cap - 0))
  | some l, none, none => Ob (0 ≤ l ∧ l ≤ n) (K (.slice (some ⟨b, soff o l.toNat cap sz, none⟩) (n - l.toNat) (cap - l.toNat)))
  | none, some h, none => Ob (0 ≤ h ∧ h ≤ cap) (K (.slice (some ⟨b, soff o 0 cap sz, none⟩) (h.toNat - 0) (cap - 0)))
  | some l, some h, none => Ob (0 ≤ l ∧ l ≤ h ∧ h ≤ cap) (K (.slice (some ⟨b, soff o l.toNat cap sz, none⟩) (h.toNat - l.toNat) (cap - l.toNat)))
  | none, some h, some m => Ob (0 ≤ h ∧ h ≤ m ∧ m ≤ cap) (K (.slice (some ⟨b, soff o 0 m.toNat sz, none⟩) (h.toNat - 0) (m.toNat - 0)))
  | some l, some h, some m => Ob (0 ≤ l ∧ l ≤ h ∧ h ≤ m ∧ m ≤ cap) (K (.slice (some ⟨b, soff o l.toNat m.toNat sz, none⟩) (h.toNat - l.toNat) (m.toNat - l.toNat)))
  | _, _, _ => False

def optO (n : Nat) (ρ : Env) (x : Option Operand) : Option Value :=
  match x with
  | none => none
  | some o => some (ev n ρ o)

/-- A slice's bounds on a nil slice: all must be 0. -/
def sliceNil (len cap : Nat) (lo hi mx : Option Int) (K : Value → Prop) : Prop :=
  Ob (lo.getD 0 = 0 ∧ hi.getD 0 = 0 ∧ mx.getD 0 = 0 ∧ len = 0 ∧ cap = 0 ∧ (mx = none ∨ hi ≠ none)) (K (.slice none 0 0))

/-- A slice of a slice, whatever its base. -/
structure SlcX (base : Option Addr) (len cap sz : Nat) (lo hi mx : Option Int) (K : Value → Prop) : Prop where
  run : match base with
    | some ⟨b, off, none⟩ => sliceB b off len cap sz lo hi mx K
    | none => sliceNil len cap lo hi mx K
    | _ => False

/-- The address of a slice's element. -/
structure IdxX (base : Option Addr) (len : Nat) (j : Int) (K : Nat → Nat → Prop) : Prop where
  run : match base with
    | some ⟨b, off, none⟩ => (0 ≤ j ∧ j < len) ∧ K b off
    | _ => False

def xbuiltin (T : Nat → Option Ty) (b : Builtin) (ts : List TypeId) (args : List Value) (h : Hp) (K : Value → Hp → Prop) : Prop :=
  match b, ts, args with
  | .len, [t], [x] => match T t, x with
    | some ⟨.slice _, _, _, _, _⟩, .slice _ n _ => K (.int .i64 (n : Nat)) h
    | some ⟨.array n _, _, _, _, _⟩, _ => K (.int .i64 (n : Nat)) h
    | some ⟨.string, _, _, _, _⟩, .string s => K (.int .i64 (s.size : Nat)) h
    | _, _ => False
  | .append, [t, u], [.slice base len cap, .slice xb n _] => match T t, T u with
    | some ⟨.slice e, _, _, _, _⟩, some ⟨.slice _, _, _, _, _⟩ => match T e with
      | some y => AppendX h e y.size y.bytes y.zero base len cap (rd h xb (n * y.size)) n K
      | none => False
    | _, _ => False
  | .append, [t, u], [.slice base len cap, .int .i64 l] => match T t, T u with
    | some ⟨.slice e, _, _, _, _⟩, some ⟨.int _, _, _, _, _⟩ => match T e with
      | some y => Ob (0 ≤ l) (AppendX h e y.size y.bytes y.zero base len cap (some (zeros y.zero l.toNat)) l.toNat K)
      | none => False
    | _, _ => False
  | .copy, [t, _], [.slice db dl _, .slice xb xl _] => match T t with
    | some ⟨.slice e, _, _, _, _⟩ => match T e with
      | some y => CopyX h y.size db dl xb xl K
      | none => False
    | _ => False
  | .clear, [t], [.slice db dl _] => match T t with
    | some ⟨.slice e, _, _, _, _⟩ => match T e with
      | some y => ClearX h y.zero db dl (K (.tuple #[]))
      | none => False
    | _ => False
  | .min, _, [.int k x, .int _ y] => K (.int k (if y < x then y else x)) h
  | .max, _, [.int k x, .int _ y] => K (.int k (if y > x then y else x)) h
  | _, _, _ => False

def xop (P : Program) (T : Nat → Option Ty) (n : Nat) (o : Oper) (ρ : Env) (h : Hp) (K : Env → Hp → Prop) : Prop :=
  match o.op with
  | .move x => force (ev n ρ x) fun v => K (put ρ o.dst v) h
  | .assign x => force (ev n ρ x) fun v => K (put ρ o.dst v) h
  | .pick c a b => match ev n ρ c, ev n ρ a, ev n ρ b with
    | .bool t, .bool x, .bool y => K (put ρ o.dst (.bool (cond t x y))) h
    | .bool true, va, _ => force va fun v => K (put ρ o.dst v) h
    | .bool false, _, vb => force vb fun v => K (put ρ o.dst v) h
    | _, _, _ => False
  | .alloc t => match T t with
    | some y => BoxX h t y.zero fun b h' => K (put ρ o.dst (.pointer (some ⟨b, 0, none⟩))) h'
    | none => False
  | .box t x => match ev n ρ x with
    | .agg cs => BoxX h t cs.toList fun b h' => K (put ρ o.dst (.pointer (some ⟨b, 0, none⟩))) h'
    | v => force v fun v => BoxX h t [v] fun b h' => K (put ρ o.dst (.pointer (some ⟨b, 0, none⟩))) h'
  | .build t ps => match T t with
    | some ⟨.struct fs, _, _, _, z⟩ => evs n ρ (ps.toList.map (·.2)) fun vs => match fillL (placesOf T fs.toList) z ((ps.toList.map (·.1)).zip vs) with
      | some cs => forceL cs fun cs => K (put ρ o.dst (.agg cs.toArray)) h
      | none => False
    | some ⟨.array _ e, _, _, _, z⟩ => match T e with
      | some y => evs n ρ (ps.toList.map (·.2)) fun vs => match fillL (fun i => some (i * y.size, y.size)) z ((ps.toList.map (·.1)).zip vs) with
        | some cs => forceL cs fun cs => K (put ρ o.dst (.agg cs.toArray)) h
        | none => False
      | none => False
    | _ => False
  | .buildSlice t len ps => match T t with
    | some ⟨.slice e, _, _, _, _⟩ => match T e with
      | some y => evs n ρ (ps.toList.map (·.2)) fun vs => match fillL (fun i => some (i * y.size, y.size)) (zeros y.zero len) ((ps.toList.map (·.1)).zip vs) with
        | some cs => Ob (0 < len * y.size ∧ len * y.size ≤ 2 ^ 24) (BoxX h e cs fun b h' => K (put ρ o.dst (.slice (some ⟨b, 0, none⟩) len len)) h')
        | none => False
      | none => False
    | _ => False
  | .load t x => match ev n ρ x with
    | .pointer (some ⟨b, off, none⟩) => match T t with
      | some y => LoadX y.agg y.size h b off fun v => force v fun v => K (put ρ o.dst v) h
      | none => False
    | _ => False
  | .store t x y => match ev n ρ x with
    | .pointer (some ⟨b, off, none⟩) => match T t, ev n ρ y with
      | some ty, .agg cs => Ob (cs.size = ty.size ∧ ones cs.toList = true) (StoreX h b off cs.toList fun h' => K (put ρ o.dst undef) h')
      | some ty, v => force v fun v => match Nat.beq ty.size 1 && ones [v] with
        | true => StoreX h b off [v] fun h' => K (put ρ o.dst undef) h'
        | false => False
      | _, _ => False
    | _ => False
  | .nilCheck x => match ev n ρ x with
    | .pointer (some a) => K (put ρ o.dst (.pointer (some a))) h
    | _ => False
  | .binOp op t x y _ => match ev n ρ x, ev n ρ y with
    | .int k a, .int k' b => match op with
      | .shl => shiftB .shl k a b fun v => K (put ρ o.dst v) h
      | .shr => shiftB .shr k a b fun v => K (put ρ o.dst v) h
      | op => match decide (k = k') with
        | true => intB op k a b fun v => K (put ρ o.dst v) h
        | false => False
    | a, b => eqB T op t a b fun v => K (put ρ o.dst v) h
  | .unOp op _ x => match op, ev n ρ x with
    | .not, .bool b => K (put ρ o.dst (.bool !b)) h
    | .xor, .int k x => K (put ρ o.dst (.int k (k.wrap (BitVec.ofInt k.bits (if k.signed then -1 else k.max) ^^^ BitVec.ofInt k.bits x).toNat))) h
    | .neg, .int k x => K (put ρ o.dst (.int k (k.wrap (0 - x)))) h
    | _, _ => False
  | .convert src dst x => match T src, T dst, ev n ρ x with
    | some ⟨.int _, _, _, _, _⟩, some ⟨.int k, _, _, _, _⟩, .int _ a => K (put ρ o.dst (.int k (k.wrap a))) h
    | some ⟨.slice e, _, _, _, _⟩, some ⟨.string, _, _, _, _⟩, .slice base l _ => match T e with
      | some ⟨.int .u8, _, _, _, _⟩ => StrX h base l fun s => K (put ρ o.dst (.string s)) h
      | _ => False
    | _, _, _ => False
  | .sliceToArrayPointer t x => match T t, ev n ρ x with
    | some ⟨.array len _, _, _, _, _⟩, .slice (some a) l _ => Ob (len ≤ l) (K (put ρ o.dst (.pointer (some a))) h)
    | _, _ => False
  | .makeSlice t l c => match T t, ev n ρ l, ev n ρ c with
    | some ⟨.slice e, _, _, _, _⟩, .int _ len, .int _ cap => match T e with
      | some y => MakeX h e y.zero y.bytes len cap fun b h' => K (put ρ o.dst (.slice (some ⟨b, 0, none⟩) len.toNat cap.toNat)) h'
      | none => False
    | _, _, _ => False
  | .slice t x lo hi mx => boundI (optO n ρ lo) fun lo => boundI (optO n ρ hi) fun hi => boundI (optO n ρ mx) fun mx => match T t, ev n ρ x with
    | some ⟨.array len e, _, _, _, _⟩, .pointer (some ⟨b, off, none⟩) => match T e with
      | some y => sliceB b off len len y.size lo hi mx fun v => K (put ρ o.dst v) h
      | none => False
    | some ⟨.slice e, _, _, _, _⟩, .slice base len cap => match T e with
      | some y => SlcX base len cap y.size lo hi mx fun v => K (put ρ o.dst v) h
      | none => False
    | _, _ => False
  | .fieldAddr s x f => match T s, ev n ρ x with
    | some ⟨.struct fs, _, _, _, _⟩, .pointer (some ⟨b, off, none⟩) => match fs.toList[f]? with
      | some fd => match T fd.type with
        | some y => match Nat.beq y.size 0 with
          | false => K (put ρ o.dst (.pointer (some ⟨b, off + fd.offset, none⟩))) h
          | true => False
        | none => False
      | none => False
    | _, _ => False
  | .field s x f => match T s, ev n ρ x with
    | some ⟨.struct fs, _, _, _, _⟩, .agg cs => match fs.toList[f]? with
      | some fd => match T fd.type with
        | some y => match y.agg with
          | true => K (put ρ o.dst (.agg (seg cs.toList fd.offset y.size).toArray)) h
          | false => match cs.toList[fd.offset]? with
            | some v => force v fun v => K (put ρ o.dst v) h
            | none => False
        | none => False
      | none => False
    | _, _ => False
  | .indexAddr t x i => match T t, ev n ρ x, ev n ρ i with
    | some ⟨.array len e, _, _, _, _⟩, .pointer (some ⟨b, off, none⟩), .int _ j => match T e with
      | some y => Ob (0 ≤ j ∧ j < len) (K (put ρ o.dst (.pointer (some ⟨b, off + j.toNat * y.size, none⟩))) h)
      | none => False
    | some ⟨.slice e, _, _, _, _⟩, .slice base len _, .int _ j => match T e with
      | some y => IdxX base len j fun b off => K (put ρ o.dst (.pointer (some ⟨b, off + j.toNat * y.size, none⟩))) h
      | none => False
    | _, _, _ => False
  | .index t x i => match T t, ev n ρ x, ev n ρ i with
    | some ⟨.array len e, _, _, _, _⟩, .agg cs, .int _ j => match T e with
      | some ⟨.int k, _, _, _, _⟩ => Ob (0 ≤ j ∧ j < len ∧ cs.size = len ∧ intCells k cs.toList = true) (∀ v : Int, cs.toList[j.toNat]? = some (.int k v) → K (put ρ o.dst (.int k v)) h)
      | _ => False
    | some ⟨.string, _, _, _, _⟩, .string s, .int _ j => Ob (0 ≤ j ∧ j < s.size) (∀ v : UInt8, s[j.toNat]? = some v → K (put ρ o.dst (.int .u8 v.toNat)) h)
    | _, _, _ => False
  | .extract x i => match ev n ρ x with
    | .tuple vs => match vs.toList[i]? with
      | some v => force v fun v => K (put ρ o.dst v) h
      | none => False
    | _ => False
  | .call c => match c.callee with
    | .value (.func f) => evs n ρ c.args.toList fun zs => CallX P f zs h fun v h' => force v fun v => K (put ρ o.dst v) h'
    | .builtin b => evs n ρ c.args.toList fun zs => xbuiltin T b c.argTypes.toList zs h fun v h' => K (put ρ o.dst v) h'
    | _ => False
  | _ => False

/-- An operation under its guard. -/
def xopg (P : Program) (T : Nat → Option Ty) (n : Nat) (ops : List Oper) (o : Oper) (ρ : Env) (h : Hp) (K : Env → Hp → Prop) : Prop :=
  match o.guard with
  | none => xop P T n o ρ h K
  | some (j, want) => match ops[j]? with
    | none => False
    | some oj => match oj.dst with
      | none => False
      | some d => match ev n ρ (.tmp d), want with
        | .bool t, true => CondX t (xop P T n o (put ρ (some d) (.bool true)) h K) (K (put (put ρ (some d) (.bool false)) o.dst undef) h)
        | .bool t, false => CondX t (K (put (put ρ (some d) (.bool true)) o.dst undef) h) (xop P T n o (put ρ (some d) (.bool false)) h K)
        | .tuple _, _ => K (put ρ o.dst undef) h
        | _, _ => False

def xops (P : Program) (T : Nat → Option Ty) (n : Nat) (ops : List Oper) (os : List Oper) (ρ : Env) (h : Hp) (K : Env → Hp → Prop) : Prop :=
  List.rec (motive := fun _ => Env → Hp → (Env → Hp → Prop) → Prop) (fun ρ h K => K ρ h) (fun o _ ih ρ h K => xopg P T n ops o ρ h fun ρ' h' => ih ρ' h' K) os ρ h K

def xres (T : Nat → Option Ty) (n : Nat) (ρ : Env) (h : Hp) (rs : List ResultVar) (k : List Value → Prop) : Prop :=
  List.rec (motive := fun _ => (List Value → Prop) → Prop) (fun k => k [])
    (fun r _ ih k => match r with
      | .tmp t => force (ev n ρ (.tmp t)) fun v => ih fun vs => k (v :: vs)
      | .cell a t => match ev n ρ (.tmp a) with
        | .pointer (some ⟨b, o, none⟩) => match T t with
          | some y => LoadX y.agg y.size h b o fun v => force v fun v => ih fun vs => k (v :: vs)
          | none => False
        | _ => False) rs k

/-- The return: the heap may forget blocks (the function's own variables). -/
structure RetX (K : Value → Hp → Prop) (h : Hp) (v : Value) : Prop where
  run : ∃ h', (∀ b x, h' b = some x → h b = some x) ∧ K v h'

def retv (K : Value → Hp → Prop) (h : Hp) (vs : List Value) : Prop :=
  match vs with
  | [v] => RetX K h v
  | vs => RetX K h (.tuple vs.toArray)

/-- A region whose order is drawn: what is asked of it stands in a text of its own. -/
structure DrawX (P : Program) (f : FuncId) (n : Nat) (K : Value → Hp → Prop) (id : Nat) (ops : List Oper) (k : List Item) (ρ : Env) (h : Hp) : Prop where
  run : Good P f n K (.code (.region id ops.toArray true) :: k) ρ h

def xst (P : Program) (T : Nat → Option Ty) (f : FuncId) (n : Nat) (rs : List ResultVar) (K : Value → Hp → Prop) (ih : List Item → Env → Hp → Prop) (k : List Item) (ρ : Env) (h : Hp) : Prop :=
  match k with
  | [] => xres T n ρ h rs (retv K h)
  | .code c :: k => match c with
    | .ret => xres T n ρ h rs (retv K h)
    | .skip => ih k ρ h
    | .region id ops dr => match dr with
      | false => xops P T n ops.toList ops.toList ρ h fun ρ' h' => ih k ρ' h'
      | true => DrawX P f n K id ops.toList k ρ h
    | .seq a b => ih (.code a :: .code b :: k) ρ h
    | .cond c a b => match ev n ρ c with
      | .bool t => CondX t (ih (.code a :: k) ρ h) (ih (.code b :: k) ρ h)
      | _ => False
    | .block id c => ih (.code c :: .inBlock id :: k) ρ h
    | .loop c => LoopX P f n K c k ρ h
    | .exit id => match exitTo id k with
      | some k' => ih k' ρ h
      | none => False
    | _ => False
  | .inBlock _ :: k => ih k ρ h
  | .inLoop c :: k => LoopX P f n K c k ρ h
  | _ => False

def xs (P : Program) (T : Nat → Option Ty) (f : FuncId) (n : Nat) (rs : List ResultVar) (K : Value → Hp → Prop) (fuel : Nat) (k : List Item) (ρ : Env) (h : Hp) : Prop :=
  Nat.rec (motive := fun _ => List Item → Env → Hp → Prop) (fun _ _ _ => False) (fun _ ih k ρ h => xst P T f n rs K ih k ρ h) fuel k ρ h

def args2env (zs : List Value) : Env := fun t => match zs[t]? with
  | some v => v
  | none => undef

def xf (P : Program) (T : Nat → Option Ty) (f : FuncId) (fn : Func) (args : List Value) (h : Hp) (K : Value → Hp → Prop) : Prop :=
  match fn.body with
  | some c => xs P T f fn.ntmps fn.results.toList K 10000 [.code c] (args2env args) h
  | none => False

end Go.Proofs.YgvalwGreat.X
