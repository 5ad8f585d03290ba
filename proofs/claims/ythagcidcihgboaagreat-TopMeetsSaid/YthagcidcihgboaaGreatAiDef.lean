/-
  Own work. A value interpreter for the model's code ('AI'): data by value, memory of one's own by name; no world, no tape.
  Soundness over the model: YthagcidcihgboaaGreatAiSound.
-/
import Derived.Calls
import Derived.Orders
import Derived.Scope
import Derived.Lib.SlicesCompact
namespace Go.AI
open Go
set_option linter.unusedVariables false
set_option linter.unusedSimpArgs false

/-- A function's number from here on: one that is bound to its first arguments. -/
def bnd : Nat := 1099511627776
/-- Data by value. 'lst s xs': a slice's elements, each in its s cells; 'ptr x o': a pointer into such an element. -/
inductive DV where
  | v (x : Value)
  | lst (s : Nat) (xs : List (List DV))
  | ptr (x : List DV) (o : Nat)
  | fn (f : FuncId) (caps : List DV)
  deriving Inhabited

/-- A value in a frame. 'nil': a nil slice; 'ex': a slice by value whose capacity is its length; 'ref', 'ptr', 'map': into memory of one's own. -/
inductive AV where
  | d (x : DV)
  | nil (s : Nat)
  | ex (s : Nat) (xs : List (List DV))
  | agg (cs : List AV)
  | tup (vs : List AV)
  | ref (b ver off len : Nat)
  | ptr (b ver i o : Nat)
  | fn (f : FuncId) (caps : List AV)
  | map (b : Nat)
  | dead
  deriving Inhabited

inductive ABlk where
  | row (s ver : Nat) (data : List (List AV))
  | mp (es : List (AV × AV))

abbrev Heap := Nat → Option ABlk
abbrev Tmps := Nat → AV
abbrev Wr := List (Nat × Option ABlk)

def hset (H : Heap) (b : Nat) (x : Option ABlk) : Heap := fun c => if c = b then x else H c
def tset (T : Tmps) (t : Nat) (v : AV) : Tmps := fun u => if u = t then v else T u
def putT (T : Tmps) (dst : Option Tmp) (v : AV) : Tmps := match dst with | some t => tset T t v | none => T
def writes (H : Heap) : Wr → Heap
  | [] => H
  | (b, x) :: r => writes (hset H b x) r
def noHeap : Heap := fun _ => none
def dotD (x : DV) : AV := .d x
def embed (xs : List (List DV)) : List (List AV) := xs.map (·.map AV.d)
def undefA : AV := .d (.v undef)
def AV.cells : AV → List AV
  | .agg cs => cs
  | v => [v]

/-- May a value be laid in cells? -/
def okCells : AV → Bool
  | .tup _ => false
  | .dead => false
  | .d (.v x) => match x with | .agg _ => false | .tuple _ => false | _ => true
  | _ => true

def mapO {α β : Type} (f : α → Option β) : List α → Option (List β)
  | [] => some []
  | a :: r => match f a with
    | some b => match mapO f r with
      | some l => some (b :: l)
      | none => none
    | none => none

/-! ### Freezing -/
/-- A value as data; memory of one's own that it names (blocks that p takes alone) by value. -/
def toD (p : Nat → Bool) (H : Heap) : Nat → AV → Option DV
  | 0, _ => none
  | _ + 1, .d x => some x
  | _ + 1, .nil s => some (.lst s [])
  | _ + 1, .ex s xs => some (.lst s xs)
  | n + 1, .ref b ver off len =>
    if p b then
      match H b with
      | some (.row s ver' data) =>
        if ver = ver' then
          match mapO (fun r => mapO (toD p H n) r) ((data.drop off).take len) with
          | some xs => some (.lst s xs)
          | none => none
        else none
      | _ => none
    else none
  | n + 1, .ptr b ver i o =>
    if p b then
      match H b with
      | some (.row _ ver' data) =>
        if ver = ver' then
          match data[i]? with
          | some r => match mapO (toD p H n) r with
            | some x => some (.ptr x o)
            | none => none
          | none => none
        else none
      | _ => none
    else none
  | n + 1, .fn f caps => match mapO (toD p H n) caps with
    | some l => some (.fn f l)
    | none => none
  | _, _ => none

def frzV (p : Nat → Bool) (H : Heap) : Nat → AV → AV
  | 0, _ => .dead
  | n + 1, .agg cs => .agg (cs.map (frzV p H n))
  | n + 1, .tup vs => .tup (vs.map (frzV p H n))
  | n + 1, .fn f caps => .fn f (caps.map (frzV p H n))
  | _ + 1, .ref b ver off len => if p b then (match toD p H 4 (.ref b ver off len) with | some x => .d x | none => .dead) else .ref b ver off len
  | _ + 1, .ptr b ver i o => if p b then (match toD p H 4 (.ptr b ver i o) with | some x => .d x | none => .dead) else .ptr b ver i o
  | _ + 1, .map b => if p b then .dead else .map b
  | _ + 1, v => v
def frzB (p : Nat → Bool) (H : Heap) : ABlk → ABlk
  | .row s ver data => .row s ver (data.map fun r => r.map (frzV p H 4))
  | .mp es => .mp (es.map fun e => (frzV p H 4 e.1, frzV p H 4 e.2))
def frzH (p : Nat → Bool) (H : Heap) : Heap := fun b => if p b then none else match H b with | some B => some (frzB p H B) | none => none
/-- .. where the frozen blocks' names stay, stale. -/
def frzK (p : Nat → Bool) (H : Heap) : Heap := fun b => match H b with
  | some (.row s ver data) => if p b then some (.row s (ver + 1) []) else some (frzB p H (.row s ver data))
  | some B => some (frzB p H B)
  | none => none
def frzT (p : Nat → Bool) (H : Heap) (T : Tmps) : Tmps := fun t => frzV p H 4 (T t)

/-- Versions begin anew: of the names from a number on, those that are up to date get version 0, the others are dead. -/
def canV (q : Bool) (lo : Nat) (H : Heap) : Nat → AV → AV
  | 0, _ => .dead
  | n + 1, .agg cs => .agg (cs.map (canV q lo H n))
  | n + 1, .tup vs => .tup (vs.map (canV q lo H n))
  | n + 1, .fn f caps => .fn f (caps.map (canV q lo H n))
  | _ + 1, .ref b ver off len => if b < lo then .ref b ver off len else (match H b with
    | some (.row _ ver' _) => if ver = ver' then .ref b 0 off len else .dead
    | _ => .dead)
  | _ + 1, .ptr b ver i o => if b < lo then .ptr b ver i o else (match H b with
    | some (.row _ ver' _) => if ver = ver' then .ptr b 0 i o else .dead
    | _ => .dead)
  | _ + 1, .nil s => if q then .d (.lst s []) else .nil s
  | _ + 1, v => v
def canB (q : Bool) (lo : Nat) (H : Heap) (b : Nat) : ABlk → ABlk
  | .row s ver data => .row s (if b < lo then ver else 0) (data.map fun r => r.map (canV q lo H 4))
  | .mp es => .mp (es.map fun e => (canV q lo H 4 e.1, canV q lo H 4 e.2))
def canH (q : Bool) (lo : Nat) (H : Heap) : Heap := fun b => match H b with | some B => some (canB q lo H b B) | none => none
def canT (q : Bool) (lo : Nat) (H : Heap) (T : Tmps) : Tmps := fun t => canV q lo H 4 (T t)

def allB : Nat → Bool := fun _ => true
/-- A value with nothing of one's own memory. -/
def snap (p : Nat → Bool) (H : Heap) : Nat → AV → Option AV
  | 0, _ => none
  | n + 1, .agg cs => match mapO (snap p H n) cs with | some l => some (.agg l) | none => none
  | n + 1, .tup vs => match mapO (snap p H n) vs with | some l => some (.tup l) | none => none
  | _ + 1, v => match toD p H 4 v with | some x => some (.d x) | none => none

def isScalar : Nat → AV → Bool
  | _, .d (.v _) => true
  | n + 1, .agg cs => cs.all (isScalar n)
  | n + 1, .tup vs => vs.all (isScalar n)
  | _, _ => false

/-- The blocks that a value names. -/
def refs : Nat → AV → List Nat
  | _, .ref b _ _ _ => [b]
  | _, .ptr b _ _ _ => [b]
  | _, .map b => [b]
  | n + 1, .agg cs => cs.flatMap (refs n)
  | n + 1, .tup vs => vs.flatMap (refs n)
  | n + 1, .fn _ caps => caps.flatMap (refs n)
  | _, _ => []
/-- .. and those that these blocks name. -/
def refsIn (H : Heap) : Nat → AV → List Nat
  | 0, _ => []
  | n + 1, v => (refs 4 v).flatMap fun b => b :: (match H b with
    | some (.row _ _ data) => data.flatMap fun r => r.flatMap (refsIn H n)
    | _ => [])

/-! ### Types -/
def tsz (P : Program) (t : TypeId) : Option Nat := match P.info? t with | some i => (match P.underlying t with | some _ => some i.size | none => none) | none => none
def tagg (P : Program) (t : TypeId) : Bool := match P.underlying t with | some (.struct _) | some (.array _ _) => true | _ => false
/-- A slice type: the element's type, its cells, its bytes. -/
def tsl (P : Program) (t : TypeId) : Option (TypeId × Nat × Nat) :=
  match P.underlying t with
  | some (.slice e) => match P.info? e with
    | some i => match i.zero with
      | some z => if z.cells.size = i.size ∧ i.size ≠ 0 ∧ i.bytes ≠ 0 then some (e, i.size, i.bytes) else none
      | none => none
    | none => none
  | _ => none
/-- An array type: how many, an element's cells. -/
def tarr (P : Program) (t : TypeId) : Option (Nat × Nat) :=
  match P.underlying t with
  | some (.array n e) => match P.info? e with | some i => some (n, i.size) | none => none
  | _ => none
/-- .. and are they more than a cell's value? -/
def tarrE (P : Program) (t : TypeId) : Option (Nat × Nat × Bool) :=
  match P.underlying t with
  | some (.array n e) => match tsz P e with | some s => some (n, s, tagg P e) | none => none
  | _ => none
/-- A struct's field: its offset, its cells, is it more than a cell's value. -/
def tfld (P : Program) (t : TypeId) (k : Nat) : Option (Nat × Nat × Bool) :=
  match P.underlying t with
  | some (.struct fs) => match fs[k]? with
    | some f => match tsz P f.type with
      | some s => some (f.offset, s, tagg P f.type)
      | none => none
    | none => none
  | _ => none
/-- Of each cell of a type: how wide a slice's elements are there (0: no slice). -/
def slotSizes (P : Program) : Nat → TypeId → List Nat
  | 0, _ => []
  | n + 1, t => match P.underlying t with
    | some (.slice e) => [match tsz P e with | some s => s | none => 0]
    | some (.struct fs) => fs.toList.flatMap fun f => slotSizes P n f.type
    | some (.array k e) => (List.replicate k (slotSizes P n e)).flatten
    | _ => [0]
def zeroA : Value → Nat → AV
  | .slice none 0 0, s => .nil s
  | x, _ => .d (.v x)
def oneV : Value → Bool
  | .agg _ => false
  | .tuple _ => false
  | _ => true
def zipZ : List Value → List Nat → Option (List AV)
  | [], [] => some []
  | x :: r, s :: l => match zipZ r l with | some z => if oneV x then some (zeroA x s :: z) else none | none => none
  | _, _ => none
/-- A type's zero value, cell by cell. -/
def tzero (P : Program) (t : TypeId) : Option (List AV) :=
  match P.info? t with
  | some i => match i.zero with
    | some z => zipZ z.cells.toList (slotSizes P 12 t)
    | none => none
  | none => none

/-! ### Operations -/
def constA : Value → AV
  | .slice none 0 0 => .nil 0
  | x => .d (.v x)
def aeval (T : Tmps) : Operand → AV
  | .tmp t => T t
  | .const x => constA x
  | .func f => if f < bnd then .fn f [] else .dead
  | .global _ => .dead

def getCells (r : List AV) (o n : Nat) : Option (List AV) := if o + n ≤ r.length then some ((r.drop o).take n) else none
def partA (agg : Bool) (cs : List AV) : Option AV := if agg then some (.agg cs) else match cs with | [c] => some c | _ => none
def putCells (r : List AV) (o : Nat) (cs : List AV) : List AV := r.take o ++ (cs ++ r.drop (o + cs.length))

/-- Nil slices that are laid in memory become empty rows of their own. -/
def virt : Nat → List AV → List AV × Wr
  | _, [] => ([], [])
  | k, .nil s :: r => (.ref k 0 0 0 :: (virt (k + 1) r).1, (k, some (.row s 0 [])) :: (virt (k + 1) r).2)
  | k, c :: r => (c :: (virt k r).1, (virt k r).2)

structure Eff where
  v : AV
  wr : Wr

def wide : Nat := 16
/-- Memory that is made: one row of one element. -/
def mkRow (fr : Nat) (cs : List AV) : Option Eff :=
  if (virt (fr + 1) cs).2.length < 15 then some ⟨.ptr fr 0 0 0, (fr, some (.row cs.length 0 [(virt (fr + 1) cs).1])) :: (virt (fr + 1) cs).2⟩ else none

def fillA : List AV → List (Nat × Nat × AV) → Option (List AV)
  | cs, [] => some cs
  | cs, (o, n, x) :: r => if okCells x = true ∧ x.cells.length = n ∧ o + n ≤ cs.length then fillA (putCells cs o x.cells) r else none
/-- A struct's fields: offsets and cells. -/
def tflds (P : Program) (t : TypeId) : Option (List (Nat × Nat)) :=
  match P.underlying t with
  | some (.struct fs) => mapO (fun f : Field => match tsz P f.type with | some n => some (f.offset, n) | none => none) fs.toList
  | some (.array n e) => match P.info? e with
    | some i => some ((List.range n).map fun j => (j * i.size, i.size))
    | none => none
  | _ => none
def withPlace (l : List (Nat × Nat)) (p : Nat × AV) : Option (Nat × Nat × AV) := match l[p.1]? with | some q => some (q.1, q.2, p.2) | none => none
def buildA (P : Program) (t : TypeId) (parts : List (Nat × AV)) : Option AV :=
  match tzero P t, (match tflds P t with | some fl => mapO (withPlace fl) parts | none => none) with
  | some z, some l => match fillA z l with | some cs => some (.agg cs) | none => none
  | _, _ => none
def rowsAre (s : Nat) : Nat → List (Nat × AV) → Option (List (List AV))
  | _, [] => some []
  | i, (j, x) :: r => if okCells x = true ∧ j = i ∧ x.cells.length = s then (match rowsAre s (i + 1) r with | some l => some (x.cells :: l) | none => none) else none

def scalarEq (isB : Bool) : Value → Value → Option Bool
  | .int k a, .int k' b => if isB = false ∧ k = k' then some (a == b) else none
  | .bool a, .bool b => if isB = true then some (a == b) else none
  | _, _ => none
def eqCells : List Bool → List AV → List AV → Option Bool
  | [], [], [] => some true
  | k :: ks, .d (.v a) :: r, .d (.v b) :: r' => match scalarEq k a b, eqCells ks r r' with
    | some x, some y => some (x && y)
    | _, _ => none
  | _, _, _ => none
/-- Types whose values are numbers and bools, cell by cell, and nothing else: which of them are bools. -/
def flatFs (P : Program) (g : TypeId → Option (List Bool)) : List Field → Nat → Option (List Bool)
  | [], _ => some []
  | f :: r, off =>
    if f.name ≠ "_" ∧ f.offset = off then
      match g f.type with
      | some l => if tsz P f.type = some l.length then (match flatFs P g r (off + l.length) with | some l' => some (l ++ l') | none => none) else none
      | none => none
    else none
def flatT (P : Program) : Nat → TypeId → Option (List Bool)
  | 0, _ => none
  | n + 1, t => match P.underlying t with
    | some .bool => some [true]
    | some (.int _) => some [false]
    | some (.struct fs) => if P.stoodInHeld t then none else flatFs P (flatT P n) fs.toList 0
    | _ => none
/-- A struct type of this kind that may be held against another one. -/
def flatS (P : Program) (t : TypeId) : Option (List Bool) := match P.underlying t with
  | some (.struct _) => if P.eqGuardType P.depth t then none else flatT P 9 t
  | _ => none

def bitsOp (op : BinOp) (k : IntKind) (x y : Int) : Option Value :=
  let a := BitVec.ofInt k.bits x
  let b := BitVec.ofInt k.bits y
  match op with
  | .and => some (.int k (k.wrap (a &&& b).toNat))
  | .or => some (.int k (k.wrap (a ||| b).toNat))
  | .xor => some (.int k (k.wrap (a ^^^ b).toNat))
  | .andNot => some (.int k (k.wrap (a &&& ~~~b).toNat))
  | _ => none
def intOp (op : BinOp) (k : IntKind) (a b : Int) : Option Value :=
  match op with
  | .add => some (.int k (k.wrap (a + b)))
  | .sub => some (.int k (k.wrap (a - b)))
  | .mul => some (.int k (k.wrap (a * b)))
  | .quo => if b = 0 then none else some (.int k (k.wrap (a.tdiv b)))
  | .rem => if b = 0 then none else some (.int k (a.tmod b))
  | .eql => some (.bool (a == b))
  | .neq => some (.bool (a != b))
  | .lss => some (.bool (a < b))
  | .leq => some (.bool (a ≤ b))
  | .gtr => some (.bool (a > b))
  | .geq => some (.bool (a ≥ b))
  | op => bitsOp op k a b
def shiftOp (op : BinOp) (k : IntKind) (a b : Int) : Option Value :=
  if b < 0 then none else
  match op with
  | .shl => some (.int k (k.wrap (a * 2 ^ (min b.toNat k.bits))))
  | .shr => some (.int k (a.fdiv (2 ^ (min b.toNat k.bits))))
  | _ => none
def isPtrA : AV → Bool
  | .ptr .. => true
  | .d (.ptr ..) => true
  | _ => false
def binA (P : Program) (op : BinOp) (t : TypeId) (x y : AV) : Option AV :=
  match x, y with
  | .d (.v (.int k a)), .d (.v (.int k' b)) =>
    match op with
    | .shl | .shr => match shiftOp op k a b with | some z => some (.d (.v z)) | none => none
    | _ => if k = k' then (match intOp op k a b with | some z => some (.d (.v z)) | none => none) else none
  | .d (.v (.bool a)), .d (.v (.bool b)) =>
    match P.underlying t, op with
    | some .bool, .eql => some (.d (.v (.bool (a == b))))
    | some .bool, .neq => some (.d (.v (.bool (!(a == b)))))
    | _, _ => none
  | .d (.v (.string a)), .d (.v (.string b)) =>
    match op with
    | .eql => some (.d (.v (.bool (a.toList == b.toList))))
    | .neq => some (.d (.v (.bool (!(a.toList == b.toList)))))
    | _ => none
  | .agg xs, .agg ys =>
    match flatS P t with
    | some ks =>
      match op, eqCells ks xs ys with
      | .eql, some b => some (.d (.v (.bool b)))
      | .neq, some b => some (.d (.v (.bool (!b))))
      | _, _ => none
    | none => none
  | .d (.v (.pointer none)), .d (.v (.pointer none)) =>
    match P.underlying t, op with
    | some (.pointer _), .eql => some (.d (.v (.bool true)))
    | some (.pointer _), .neq => some (.d (.v (.bool false)))
    | _, _ => none
  | x, .d (.v (.pointer none)) =>
    if isPtrA x then
      match P.underlying t, op with
      | some (.pointer _), .eql => some (.d (.v (.bool false)))
      | some (.pointer _), .neq => some (.d (.v (.bool true)))
      | _, _ => none
    else none
  | _, _ => none

def asInt : AV → Option Int
  | .d (.v (.int _ n)) => some n
  | _ => none
/-- low and high of a slice expression, of so many elements. -/
def hiA (n : Nat) : Option AV → Option Int
  | some h => asInt h
  | none => some (n : Int)
def loA : Option AV → Option Int
  | some l => asInt l
  | none => some 0
def boundsA (n : Nat) (lo hi : Option AV) : Option (Nat × Nat) :=
  match hiA n hi, loA lo with
  | some h, some l => if 0 ≤ l ∧ l ≤ h ∧ h ≤ n then some (l.toNat, h.toNat) else none
  | _, _ => none
/-- high of a slice expression over a slice of one's own. -/
def hiOr (len : Nat) : Option AV → AV
  | some h => h
  | none => .d (.v (.int .i64 len))
def sliceA (P : Program) (H : Heap) (t : TypeId) (x : AV) (lo hi mx : Option AV) : Option AV :=
  match tsl P t with
  | none => none
  | some (_, s0, _) =>
    match mx with
    | none =>
      match x with
      | .d (.lst s xs) => if s = s0 then (match boundsA xs.length lo hi with | some (l, h) => some (.d (.lst s ((xs.take h).drop l))) | none => none) else none
      | .ex s xs => if s = s0 then (match boundsA xs.length lo hi with | some (l, h) => some (.d (.lst s ((xs.take h).drop l))) | none => none) else none
      | .nil s => match boundsA 0 lo hi with | some _ => some (.nil s) | none => none
      | .ref b ver off len =>
        match H b with
        | some (.row s ver' data) =>
          if s = s0 ∧ ver = ver' then
            match boundsA (data.length - off) lo (some (hiOr len hi)) with
            | some (l, h) => some (.ref b ver (off + l) (h - l))
            | none => none
          else none
        | _ => none
      | _ => none
    | some m =>
      match x, hi with
      | .d (.lst s xs), some h =>
        match asInt m, asInt h with
        | some m', some h' => if s = s0 ∧ m' = h' then (match boundsA xs.length lo hi with | some (l, h) => some (.ex s ((xs.take h).drop l)) | none => none) else none
        | _, _ => none
      | .nil s, some h =>
        match asInt m, asInt h with
        | some m', some h' => if m' = h' then (match boundsA 0 lo hi with | some _ => some (.nil s) | none => none) else none
        | _, _ => none
      | .ref b ver off len, some h =>
        match asInt m, asInt h, H b with
        | some m', some h', some (.row s ver' data) =>
          if s = s0 ∧ ver = ver' ∧ h' ≤ m' ∧ m' ≤ (data.length - off : Nat) then
            match boundsA (data.length - off) lo (some h) with
            | some (l, h) => if l = h ∧ m' = h' then some (.ex s []) else some .dead
            | none => none
          else none
        | _, _, _ => none
      | .ex s xs, some h =>
        match asInt m, asInt h with
        | some m', some h' => if s = s0 ∧ m' = h' then (match boundsA xs.length lo hi with | some (l, h) => some (.ex s ((xs.take h).drop l)) | none => none) else none
        | _, _ => none
      | _, _ => none

/-- A slice's elements. -/
def rowsOf (H : Heap) (s0 : Nat) : AV → Option (List (List AV))
  | .d (.lst s xs) => if s = s0 then some (embed xs) else none
  | .ex s xs => if s = s0 then some (embed xs) else none
  | .nil _ => some []
  | .ref b ver off len => match H b with
    | some (.row s ver' data) => if s = s0 ∧ ver = ver' then some ((data.drop off).take len) else none
    | _ => none
  | _ => none
def room : Nat := 2 ^ 47
def overRows (data : List (List AV)) (at_ : Nat) (ys : List (List AV)) : List (List AV) := data.take at_ ++ (ys ++ data.drop (at_ + ys.length))
def appendA (P : Program) (H : Heap) (fr : Nat) (t : TypeId) (x y : AV) : Option Eff :=
  match tsl P t with
  | none => none
  | some (_, s0, by0) =>
    match rowsOf H s0 y with
    | none => none
    | some ys =>
      match x with
      | .ref b ver off len =>
        match H b with
        | some (.row s ver' data) =>
          if ver = ver' then
            if off = 0 ∧ len = data.length then
              if s = s0 ∧ (len + ys.length) * by0 ≤ room ∧ (len + ys.length) * s0 ≤ room then some ⟨.ref b (ver + 1) 0 (len + ys.length), [(b, some (.row s0 (ver + 1) (data ++ ys)))]⟩ else none
            else if s = s0 ∧ off + len + ys.length ≤ data.length then some ⟨.ref b ver off (len + ys.length), [(b, some (.row s ver (overRows data (off + len) ys)))]⟩
            else none
          else none
        | _ => none
      | .nil _ =>
        if ys.isEmpty then some ⟨.nil s0, []⟩
        else if ys.length * by0 ≤ room ∧ ys.length * s0 ≤ room then some ⟨.ref fr 0 0 ys.length, [(fr, some (.row s0 0 ys))]⟩ else none
      | .ex s xs =>
        if ys.isEmpty then some ⟨.d (.lst s xs), []⟩
        else if s = s0 ∧ (xs.length + ys.length) * by0 ≤ room ∧ (xs.length + ys.length) * s0 ≤ room then some ⟨.ref fr 0 0 (xs.length + ys.length), [(fr, some (.row s0 0 (embed xs ++ ys)))]⟩ else none
      | _ => none
def copyA (P : Program) (H : Heap) (t : TypeId) (x y : AV) : Option Eff :=
  match tsl P t with
  | none => none
  | some (_, s0, _) =>
    match rowsOf H s0 y, x with
    | some ys, .ref b ver off len => match H b with
      | some (.row s ver' data) =>
        if ver = ver' ∧ s = s0 then some ⟨.d (.v (.int .i64 (min ys.length len : Nat))), [(b, some (.row s ver (overRows data off (ys.take len))))]⟩ else none
      | _ => none
    | _, _ => none
def clearA (P : Program) (H : Heap) (t : TypeId) (x : AV) : Option Eff :=
  match tsl P t with
  | none => none
  | some (e, s0, _) =>
    match tzero P e, x with
    | some z, .ref b ver off len => match H b with
      | some (.row s ver' data) =>
        if ver = ver' ∧ s = s0 ∧ z.length = s0 then some ⟨.d (.v (.tuple #[])), [(b, some (.row s ver (overRows data off (List.replicate len z))))]⟩ else none
      | _ => none
    | _, _ => none
def lenA : AV → Option Int
  | .d (.lst _ xs) => some xs.length
  | .ex _ xs => some xs.length
  | .nil _ => some 0
  | .ref _ _ _ len => some len
  | _ => none
def minmaxA (mx : Bool) : List AV → Option (IntKind × Int)
  | [.d (.v (.int k a)), .d (.v (.int k' b))] => if k = k' then some (k, if mx then (if b > a then b else a) else (if b < a then b else a)) else none
  | _ => none

/-- A number's or a bool's zero value. -/
def tmapZ (P : Program) (e : TypeId) : Option Value := match P.info? e with
  | some i => (match i.zero with
    | some (.bool b) => some (.bool b)
    | some (.int k n) => some (.int k n)
    | _ => none)
  | none => none
/-- A map's type: keys that are numbers (none) or structs of numbers and bools; a missing value. -/
def tmap (P : Program) (t : TypeId) : Option (Option (List Bool) × Value) :=
  match P.underlying t with
  | some (.map k e) =>
    (match P.underlying k, tmapZ P e with
     | some (.int _), some z => some (none, z)
     | some (.struct _), some z => (match flatS P k with | some ks => some (some ks, z) | none => none)
     | _, _ => none)
  | _ => none
def keyEq : Option (List Bool) → AV → AV → Option Bool
  | none, .d (.v a), .d (.v b) => scalarEq false a b
  | some ks, .agg xs, .agg ys => eqCells ks xs ys
  | _, _, _ => none
def findA (ks : Option (List Bool)) (k : AV) : List (AV × AV) → Option (Option AV)
  | [] => some none
  | e :: r => match keyEq ks k e.1 with
    | some true => some (some e.2)
    | some false => findA ks k r
    | none => none
def putA (ks : Option (List Bool)) (k v : AV) : List (AV × AV) → Option (List (AV × AV))
  | [] => some [(k, v)]
  | e :: r => match keyEq ks k e.1 with
    | some true => some ((k, v) :: r)
    | some false => match putA ks k v r with | some l => some (e :: l) | none => none
    | none => none
/-- Is it a key of such a kind? (held against itself) -/
def keyOk (ks : Option (List Bool)) (k : AV) : Bool := (keyEq ks k k).isSome

def builtinA (P : Program) (H : Heap) (fr : Nat) (b : Builtin) (ts : List TypeId) (args : List AV) : Option Eff :=
  match b, ts, args with
  | .append, t :: u :: _, [x, y] => if tagg P u then none else (match P.underlying u with | some (.slice _) => appendA P H fr t x y | _ => none)
  | .len, t :: _, [x] => match P.underlying t, x with
    | some (.slice _), x => (match lenA x with | some n => some ⟨.d (.v (.int .i64 n)), []⟩ | none => none)
    | some .string, .d (.v (.string s)) => some ⟨.d (.v (.int .i64 s.size)), []⟩
    | _, _ => none
  | .copy, t :: _, [x, y] => copyA P H t x y
  | .clear, t :: _, [x] => clearA P H t x
  | .min, _, l => (match minmaxA false l with | some n => some ⟨.d (.v (.int n.1 n.2)), []⟩ | none => none)
  | .max, _, l => (match minmaxA true l with | some n => some ⟨.d (.v (.int n.1 n.2)), []⟩ | none => none)
  | _, _, _ => none

/-- A frame's names: of its variables' rows (from 'sb' on), of what it makes (from 'lo' on); does it forget round by round what a round has made, and hold what lies in a slice of slices by value. -/
structure Fm where
  sb : Nat
  lo : Nat
  tr : Bool
  nm : List Nat   -- the variables that hold slices of their own from round to round
  vt : Bool       -- do nil slices that are laid in memory become empty rows of their own (else data)
/-- Do nil slices become data at a loop's head? -/
def Fm.q (F : Fm) : Bool := F.tr && !F.vt
/-- Blocks that must not change any more: what names them is stale. -/
def killed (H : Heap) (p : List Nat) : Wr := p.filterMap fun b => match H b with
  | some (.row s ver _) => some (b, some (.row s (ver + 1) []))
  | _ => none
/-- The next version of a row. -/
def nextVer (H : Heap) (b : Nat) : Option Nat := match H b with
  | some (.row _ v _) => some (v + 1)
  | some (.mp _) => none
  | none => some 0
/-- A nil slice at its type. -/
def tyNil (P : Program) (t : TypeId) : AV → AV
  | .nil s => .nil (match tsl P t with | some (_, n, _) => n | none => s)
  | v => v
/-- A variable is given a value. A slice of one's own that is no variable's yet becomes the variable's (its row has the variable's name from now on). -/
def assignA (P : Program) (F : Fm) (H : Heap) (t : TypeId) (dst : Option Tmp) (x : AV) : Option Eff :=
  match dst, x with
  | some d, .nil s0 => if F.nm.contains d = true then (match tsl P t, nextVer H (F.sb + d) with
      | some (_, s, _), some n => some ⟨.ref (F.sb + d) n 0 0, [(F.sb + d, some (.row s n []))]⟩
      | _, _ => none)
    else some ⟨tyNil P t (.nil s0), []⟩
  | some d, .ref b ver off len =>
    if F.lo ≤ b ∧ F.nm.contains d = true then
      match H b, nextVer H (F.sb + d) with
      | some (.row s ver' data), some n =>
        if ver = ver' ∧ off = 0 ∧ len = data.length ∧ F.sb + d ≠ b then some ⟨.ref (F.sb + d) n 0 len, [(b, some (.row s (ver + 1) [])), (F.sb + d, some (.row s n data))]⟩
        else some ⟨x, []⟩
      | _, _ => some ⟨x, []⟩
    else some ⟨x, []⟩
  | _, x => some ⟨x, []⟩
def tyFld (P : Program) (t : TypeId) (k : Nat) (v : AV) : AV :=
  match P.underlying t with
  | some (.struct fs) => match fs[k]? with | some f => tyNil P f.type v | none => v
  | some (.array _ e) => tyNil P e v
  | some (.slice e) => tyNil P e v
  | _ => v

/-- A nil slice as data. -/
def deNil : AV → AV
  | .nil s => .d (.lst s [])
  | v => v
def nzL (vt : Bool) (cs : List AV) : List AV := if !vt then cs.map deNil else cs
def nzA (vt : Bool) : AV → AV
  | .agg cs => .agg (nzL vt cs)
  | v => if !vt then deNil v else v
def refsOf (rows : List (List AV)) : List Nat := rows.flatMap fun r => r.flatMap (refs 4)
/-! A variable that holds rows of rows, all of one's own, from round to round: marks among a frame's names: 60000 + a type: its literals keep the rows that they are made of; 50000 + a type: an empty literal is a row that has a name for good, by the count of rounds; 70000 + the counter. -/
def keepsT (l : List Nat) (t : Nat) : Bool := l.contains (60000 + t)
def tagOf (lo : Nat) : List Nat → Option Nat
  | [] => none
  | x :: r => if lo ≤ x ∧ x < lo + 10000 then some (x - lo) else tagOf lo r
/-- What an operation that is no call of a function does. -/
def eff (P : Program) (F : Fm) (ρ : Operand → AV) (H : Heap) (fr : Nat) (o : Oper) : Option Eff :=
  match o.op with
  | .move x => some ⟨ρ x, []⟩
  | .assign x => assignA P F H o.type o.dst (ρ x)
  | .pick c a b => match ρ c with
    | .d (.v (.bool t)) => some ⟨if t then ρ a else ρ b, []⟩
    | _ => none
  | .alloc t => match tzero P t with
    | some z => mkRow fr (nzL F.vt z)
    | none => none
  | .box t x => if okCells (ρ x) then mkRow fr (nzA F.vt (tyNil P t (ρ x))).cells else none
  | .build t ps => match buildA P t (ps.toList.map fun q => (q.1, tyFld P t q.1 (ρ q.2))) with
    | some v => some ⟨v, []⟩
    | none => none
  | .buildSlice t n ps => match tsl P t with
    | some (_, s, _) => match rowsAre s 0 (ps.toList.map fun q => (q.1, tyFld P t q.1 (ρ q.2))) with
      | some rows => if rows.length = n ∧ n * s ≤ 2 ^ 24 then (
          if F.tr && !keepsT F.nm t then some ⟨.ref fr 0 0 n, (fr, some (.row s 0 (rows.map fun r => r.map fun v => deNil (frzV (refsOf rows).contains H 4 v)))) :: killed H (refsOf rows)⟩
          else some ⟨.ref fr 0 0 n, [(fr, some (.row s 0 rows))]⟩) else none
      | none => none
    | none => none
  | .load t a => match tsz P t with
    | none => none
    | some n => match ρ a with
      | .ptr b ver i o' => match H b with
        | some (.row _ ver' data) => if ver = ver' then (match data[i]? with
            | some r => (match getCells r o' n with
              | some cs => (match partA (tagg P t) cs with | some v => some ⟨v, []⟩ | none => none)
              | none => none)
            | none => none) else none
        | _ => none
      | .d (.ptr x o') => (match getCells (x.map .d) o' n with
              | some cs => (match partA (tagg P t) cs with | some v => some ⟨v, []⟩ | none => none)
              | none => none)
      | _ => none
  | .store t a x => match tsz P t, ρ a with
    | some n, .ptr b ver i o' => match H b with
      | some (.row s ver' data) => if ver = ver' ∧ okCells (ρ x) = true ∧ (ρ x).cells.length = n then (match data[i]? with
          | some r => if o' + n ≤ r.length ∧ (virt fr (nzA F.vt (tyNil P t (ρ x))).cells).2.length < 15 then
              some ⟨undefA, (b, some (.row s ver (data.set i (putCells r o' (virt fr (nzA F.vt (tyNil P t (ρ x))).cells).1)))) :: (virt fr (nzA F.vt (tyNil P t (ρ x))).cells).2⟩ else none
          | none => none) else none
      | _ => none
    | _, _ => none
  | .nilCheck x => match ρ x with
    | .ptr b ver i o' => some ⟨.ptr b ver i o', []⟩
    | .d (.ptr y o') => some ⟨.d (.ptr y o'), []⟩
    | .fn f l => some ⟨.fn f l, []⟩
    | .d (.fn f l) => some ⟨.d (.fn f l), []⟩
    | _ => none
  | .binOp op t x y _ => match binA P op t (ρ x) (ρ y) with | some v => some ⟨v, []⟩ | none => none
  | .unOp op _ x => match op, ρ x with
    | .not, .d (.v (.bool b)) => some ⟨.d (.v (.bool (!b))), []⟩
    | .neg, .d (.v (.int k n)) => some ⟨.d (.v (.int k (k.wrap (0 - n)))), []⟩
    | _, _ => none
  | .convert s t x => match P.underlying s, P.underlying t, ρ x with
    | some (.int _), some (.int k), .d (.v (.int _ n)) => some ⟨.d (.v (.int k (k.wrap n))), []⟩
    | _, _, _ => none
  | .makeFunc (.func f) first caps => if f < bnd then (if first.isEmpty then some ⟨.fn f (caps.toList.map ρ), []⟩ else if caps.isEmpty then some ⟨.fn (bnd + f) (first.toList.map ρ), []⟩ else none) else none
  | .makeSlice t l c => match tsl P t with
    | some (e, s, by0) => match tzero P e, asInt (ρ l), asInt (ρ c) with
      | some z, some n, some m => if n = m ∧ 0 ≤ n ∧ n * by0 ≤ room ∧ n * s ≤ room ∧ z.length = s then some ⟨.ref fr 0 0 n.toNat, [(fr, some (.row s 0 (List.replicate n.toNat (if F.tr then z.map deNil else z))))]⟩ else none
      | _, _, _ => none
    | none => none
  | .slice t x lo hi mx => match sliceA P H t (ρ x) (lo.map ρ) (hi.map ρ) (mx.map ρ) with | some v => some ⟨v, []⟩ | none => none
  | .fieldAddr t x k => match tfld P t k with
    | some (off, n, _) => if n = 0 then none else match ρ x with
      | .ptr b ver i o' => some ⟨.ptr b ver i (o' + off), []⟩
      | .d (.ptr y o') => some ⟨.d (.ptr y (o' + off)), []⟩
      | _ => none
    | none => none
  | .field t x k => match tfld P t k, ρ x with
    | some (off, n, ag), .agg cs => (match getCells cs off n with
      | some l => (match partA ag l with | some v => some ⟨v, []⟩ | none => none)
      | none => none)
    | _, _ => none
  | .index t x ix => match tarrE P t, asInt (ρ ix), ρ x with
    | none, some i, .d (.v (.string s)) => (match P.underlying t with
      | some .string => if 0 ≤ i then (match s[i.toNat]? with | some b => some ⟨.d (.v (.int .u8 b.toNat)), []⟩ | none => none) else none
      | _ => none)
    | some (n, s, ag), some i, .agg cs => if 0 ≤ i ∧ i < n then (match getCells cs (i.toNat * s) s with
      | some l => (match partA ag l with | some v => some ⟨v, []⟩ | none => none)
      | none => none) else none
    | _, _, _ => none
  | .indexAddr t x ix => match asInt (ρ ix) with
    | none => none
    | some i => match P.underlying t with
      | some (.slice _) => match tsl P t with
        | some (_, s0, _) => match ρ x with
          | .d (.lst s xs) => if s = s0 ∧ 0 ≤ i then (match xs[i.toNat]? with | some r => some ⟨.d (.ptr r 0), []⟩ | none => none) else none
          | .ex s xs => if s = s0 ∧ 0 ≤ i then (match xs[i.toNat]? with | some r => some ⟨.d (.ptr r 0), []⟩ | none => none) else none
          | .ref b ver off len => match H b with
            | some (.row s ver' _) => if s = s0 ∧ ver = ver' ∧ 0 ≤ i ∧ i < len then some ⟨.ptr b ver (off + i.toNat) 0, []⟩ else none
            | _ => none
          | _ => none
        | none => none
      | _ => match tarr P t, ρ x with
        | some (n, s), .ptr b ver j o' => if 0 ≤ i ∧ i < n then some ⟨.ptr b ver j (o' + i.toNat * s), []⟩ else none
        | _, _ => none
  | .makeMap t r => match tmap P t with
    | some _ => (match r with
      | none => some ⟨.map fr, [(fr, some (.mp []))]⟩
      | some h => (match asInt (ρ h) with | some _ => some ⟨.map fr, [(fr, some (.mp []))]⟩ | none => none))
    | none => none
  | .lookup t x k ok => match tmap P t, ρ x with
    | some (ks, z), .map b => (match H b with
      | some (.mp es) => if keyOk ks (ρ k) = true then (match findA ks (ρ k) es with
        | some r => some ⟨if ok then .tup [r.getD (.d (.v z)), .d (.v (.bool r.isSome))] else r.getD (.d (.v z)), []⟩
        | none => none) else none
      | _ => none)
    | _, _ => none
  | .mapUpdate t m k x => match tmap P t, ρ m with
    | some (ks, _), .map b => (match H b with
      | some (.mp es) => if keyOk ks (ρ k) = true then (match putA ks (ρ k) (ρ x) es with
        | some l => some ⟨undefA, [(b, some (.mp l))]⟩
        | none => none) else none
      | _ => none)
    | _, _ => none
  | .extract x i => match ρ x with
    | .tup vs => (match vs[i]? with | some v => some ⟨v, []⟩ | none => none)
    | _ => none
  | .call c => match c.callee with
    | .builtin b => builtinA P H fr b c.argTypes.toList (c.args.toList.map ρ)
    | _ => none
  | _ => none

/-! ### Calls, regions, frames -/
/-- How a function is called: by value; in the caller's memory; by value but for a cell that its first argument points to; slices.Sort of numbers (cut: slices.Compact); a function with a law of its own. -/
inductive Mode where
  | pure
  | inl
  | cell
  | own
  | lend
  | clone (t : TypeId)
  | sort (cut : Bool)
  | prim
  | fresh
  | box

structure Cfg where
  P : Program
  mode : FuncId → Mode
  prim : FuncId → List AV → Option AV
  trim : FuncId → Bool   -- do a function's loops forget, round by round, what a round has made
  names : FuncId → List Nat
  virt : FuncId → Bool
  coll : Option FuncId   -- a function (by its law, 'prim') that gathers what an iterator gives

/-- Arguments, nil slices at their types. -/
def typedArgs (P : Program) : List TypeId → List AV → List AV
  | t :: ts, .nil s :: r => .nil (match tsl P t with | some (_, n, _) => n | none => s) :: typedArgs P ts r
  | _ :: ts, v :: r => v :: typedArgs P ts r
  | [], r => r
  | _, [] => []
def typedFor (P : Program) (f : FuncId) (args : List AV) : List AV := match P.funcs[f]? with | some fn => typedArgs P fn.params.toList args | none => args

abbrev Call := FuncId → List AV → Heap → Nat → Option (AV × Heap × Nat)

/-- A call by value: what comes, and which blocks it must not change any more. -/
def pureCall (K : FuncId → List AV → Option AV) (f : FuncId) (args : List AV) (H : Heap) : Option (AV × List Nat) :=
  match mapO (snap (args.flatMap (refsIn H 4)).contains H 4) args with
  | some as => match K f as with
    | some r => some (r, if isScalar 4 r then [] else args.flatMap (refsIn H 4))
    | none => none
  | none => none
/-- A function's answer by value, run in memory of its own. -/
def byValue (K : Call) (f : FuncId) (as : List AV) : Option AV :=
  match K f as noHeap 0 with
  | some (r, Hc, _) => snap allB Hc 4 r
  | none => none
def cloneA (P : Program) (H : Heap) (fr : Nat) (t : TypeId) (args : List AV) : Option Eff :=
  match tsl P t, args with
  | some (_, s0, by0), [x] => match rowsOf H s0 x with
    | some ys => if ys.length * by0 ≤ room ∧ ys.length * s0 ≤ room then some ⟨.ref fr 0 0 ys.length, [(fr, some (.row s0 0 ys))]⟩ else none
    | none => none
  | _, _ => none

def asCell : List AV → Option Int
  | [.d (.v (.int .i64 n))] => some n
  | _ => none
def cellOf (n : Int) : List AV := [.d (.v (.int .i64 n))]
/-- Sorting by insertion. -/
def insI (x : Int) : List Int → List Int
  | [] => [x]
  | y :: r => if x ≤ y then x :: y :: r else y :: insI x r
def isort : List Int → List Int
  | [] => []
  | x :: r => insI x (isort r)
def sortE (cut : Bool) (b ver : Nat) (l : List Int) : Eff :=
  match cut with
  | true => ⟨.ref b ver 0 (Lib.compact l).length, [(b, some (.row 1 ver ((Lib.compact l ++ List.replicate (l.length - (Lib.compact l).length) 0).map cellOf)))]⟩
  | false => ⟨.d (.v (.tuple #[])), [(b, some (.row 1 ver ((isort l).map cellOf)))]⟩
def sortA (cut : Bool) (H : Heap) (args : List AV) : Option Eff :=
  match args with
  | [.ref b ver off len] => match H b with
    | some (.row s ver' data) => match mapO asCell data with
      | some l => if s = 1 ∧ ver = ver' ∧ off = 0 ∧ len = data.length ∧ data.length < 4611686018427387904 then some (sortE cut b ver l) else none
      | none => none
    | _ => none
  | _ => none
/-- A call that is given a cell: it is run over a copy of that cell, which is laid back. -/
def cellCall (K : Call) (f : FuncId) (args : List AV) (H : Heap) : Option Eff :=
  match args with
  | .ptr b ver i o :: r => match H b, mapO (snap (fun _ => false) H 4) r with
    | some (.row s ver' data), some as =>
      if ver = ver' then
        match data[i]? with
        | some cs => match cs[o]? with
          | some (.d x) => match K f (.ptr 0 0 0 0 :: as) (hset noHeap 0 (some (.row 1 0 [[.d x]]))) wide with
            | some (v, Hc, _) => match snap (fun b => b != 0) Hc 4 v, Hc 0 with
              | some v', some (.row 1 0 [[.d y]]) => some ⟨v', [(b, some (.row s ver (data.set i (putCells cs o [.d y]))))]⟩
              | _, _ => none
            | none => none
          | _ => none
        | none => none
      else none
    | _, _ => none
  | _ => none
def isD : AV → Bool
  | .d _ => true
  | _ => false
/-- Rows, and a function that holds a block. -/
def ownArg : List AV → Option (AV × FuncId × Nat × Nat)
  | [x, .fn g [.ptr b ver 0 0]] => some (x, g, b, ver)
  | _ => none
/-- A call that is given a function which holds a block: it is run over a copy of that block; nobody reads the block behind it. -/
def ownCall (K : Call) (f : FuncId) (args : List AV) (H : Heap) : Option Eff :=
  match ownArg args with
  | some (x, g, b, ver) => match snap (fun _ => false) H 4 x, H b with
    | some x', some (.row s ver' data) => if ver = ver' ∧ (data.all fun r => r.all isD) = true then
        match K f [x', .fn g [.ptr 0 0 0 0]] (hset noHeap 0 (some (.row s 0 data))) wide with
        | some (v, Hc, _) => match snap (fun b => b != 0) Hc 4 v with
          | some v' => some ⟨v', [(b, some (.row s (ver + 1) []))]⟩
          | none => none
        | none => none
      else none
    | _, _ => none
  | none => none
/-- As 'ownCall', but the block is laid back. -/
def lendCall (K : Call) (f : FuncId) (args : List AV) (H : Heap) : Option Eff :=
  match ownArg args with
  | some (x, g, b, ver) => match snap (fun _ => false) H 4 x, H b with
    | some x', some (.row s ver' data) => if ver = ver' ∧ (data.all fun r => r.all isD) = true then
        match K f [x', .fn g [.ptr 0 0 0 0]] (hset noHeap 0 (some (.row s 0 data))) wide with
        | some (v, Hc, _) => match snap (fun b => b != 0) Hc 4 v, Hc 0 with
          | some v', some (.row s2 v2 data') => if s2 = s ∧ v2 = 0 ∧ data'.length = data.length ∧ (data'.all fun r => r.all isD) = true then some ⟨v', [(b, some (.row s ver data'))]⟩ else none
          | _, _ => none
        | none => none
      else none
    | _, _ => none
  | none => none
/-- An answer whose first part is a row of its maker's own, all else data. -/
def freshOf (H : Heap) : AV → Option (Nat × List (List AV) × List AV)
  | .tup (.ref b ver off len :: rest) => match H b with
    | some (.row s ver' data) => if ver = ver' ∧ off = 0 ∧ len = data.length ∧ (data.all fun r => r.all isD) = true ∧ rest.all isD = true then some (s, data, rest) else none
    | _ => none
  | .tup (.nil s :: rest) => if rest.all isD = true then some (s, [], rest) else none
  | _ => none
/-- A call by value that gives a row to its caller. -/
def freshCall (K : Call) (f : FuncId) (args : List AV) (H : Heap) (fr : Nat) : Option Eff :=
  match mapO (snap (fun _ => false) H 4) args with
  | some as => match K f as noHeap 0 with
    | some (v, Hc, _) => match freshOf Hc v with
      | some (s, data, rest) => some ⟨.tup (.ref fr 0 0 data.length :: rest), [(fr, some (.row s 0 data))]⟩
      | none => none
    | none => none
  | none => none
/-- Does a value name only blocks of a list? -/
def closedV (F : List Nat) : Nat → AV → Bool
  | _, .d _ => true
  | _, .nil _ => true
  | _, .ex _ _ => true
  | _, .dead => true
  | _, .ref b _ _ _ => F.contains b
  | _, .ptr b _ _ _ => F.contains b
  | _, .map b => F.contains b
  | n + 1, .agg cs => cs.all (closedV F n)
  | n + 1, .tup vs => vs.all (closedV F n)
  | n + 1, .fn _ caps => caps.all (closedV F n)
  | 0, _ => false
def closedB (F : List Nat) : Option ABlk → Bool
  | some (.row _ _ data) => data.all fun r => r.all (closedV F 4)
  | _ => false
def restr (H : Heap) (F : List Nat) : Heap := fun b => if F.contains b then H b else none
/-- A call over the blocks that its arguments name, and those that these name; nothing else comes of it. -/
def boxOK (F : List Nat) (args : List AV) (H : Heap) (fr : Nat) : Bool := F.all (fun b => Nat.blt b fr && closedB F (H b)) && args.all (closedV F 4)
/-- A name behind all of a list. -/
def boxTop : List Nat → Nat
  | [] => 0
  | b :: r => Nat.max (b + 1) (boxTop r)
def boxWr (F : List Nat) (H : Heap) : Wr := F.map fun b => (b, H b)
/-- The rows that its answer names and that are not among the blocks of a list. -/
def boxNews (F : List Nat) (v : AV) : List Nat := (refs 4 v).filter fun b => !F.contains b
def nodupB : List Nat → Bool
  | [] => true
  | a :: r => !r.contains a && nodupB r
def idxN : List Nat → Nat → Option Nat
  | [], _ => none
  | a :: r, b => if a = b then some 0 else (match idxN r b with | some i => some (i + 1) | none => none)
def boxP (F news : List Nat) (b : Nat) : Bool := !F.contains b && !news.contains b
def boxRow (p : Nat → Bool) (H : Heap) (b : Nat) : Option ABlk := match H b with
  | some (.row s _ data) => (match mapO (fun r => mapO (snap p H 4) r) data with
    | some d => some (.row s 0 d)
    | none => none)
  | _ => none
/-- Its answer: those rows under names of the caller's. -/
def boxConv (F news : List Nat) (H : Heap) (fr : Nat) : Nat → AV → Option AV
  | 0, _ => none
  | n + 1, .agg cs => match mapO (boxConv F news H fr n) cs with | some l => some (.agg l) | none => none
  | n + 1, .tup cs => match mapO (boxConv F news H fr n) cs with | some l => some (.tup l) | none => none
  | _ + 1, .nil s => some (.nil s)
  | _ + 1, .ref b ver off len => if F.contains b then some (.ref b ver off len) else (match idxN news b with
    | some i => (match H b with
      | some (.row _ ver' _) => if ver = ver' then some (.ref (fr + i) 0 off len) else none
      | _ => none)
    | none => none)
  | _ + 1, .ptr b ver i o => if F.contains b then some (.ptr b ver i o) else none
  | _ + 1, v => match toD (boxP F news) H 4 v with | some x => some (.d x) | none => none
def newWr : Nat → List ABlk → Wr
  | _, [] => []
  | k, B :: r => (k, some B) :: newWr (k + 1) r
def boxEnd (F : List Nat) (v : AV) (H : Heap) (fr : Nat) : Option Eff := if ((F.all fun b => closedB F (H b)) && nodupB (boxNews F v) && Nat.ble (boxNews F v).length 15) = true then
    (match mapO (boxRow (boxP F (boxNews F v)) H) (boxNews F v), boxConv F (boxNews F v) H fr 4 v with
    | some rows, some x => some ⟨x, boxWr F H ++ newWr fr rows⟩
    | _, _ => none) else none
def boxCall (K : Call) (f : FuncId) (args : List AV) (H : Heap) (fr : Nat) : Option Eff :=
  if boxOK (args.flatMap (refsIn H 4)) args H fr = true then (match K f args (restr H (args.flatMap (refsIn H 4))) (boxTop (args.flatMap (refsIn H 4))) with
    | some (v, Hc, _) => boxEnd (args.flatMap (refsIn H 4)) v Hc fr
    | none => none) else none
inductive Out where
  | eff (e : Eff)
  | frz (v : AV) (p : List Nat)
  | run (v : AV) (H : Heap) (nx : Nat)

def callOut (C : Cfg) (K : Call) (f : FuncId) (args : List AV) (H : Heap) (fr : Nat) : Option Out :=
  match C.mode f with
  | .pure => match pureCall (byValue K) f args H with
    | some (r, []) => some (.eff ⟨r, []⟩)
    | some (r, p) => some (.frz r p)
    | none => none
  | .prim => match pureCall (C.prim) f args H with
    | some (r, []) => some (.eff ⟨r, []⟩)
    | some (r, p) => some (.frz r p)
    | none => none
  | .clone t => match cloneA C.P H fr t args with
    | some e => some (.eff e)
    | none => none
  | .sort c => match sortA c H args with
    | some e => some (.eff e)
    | none => none
  | .inl => match K f args H fr with
    | some (v, H', nx) => some (.run v H' nx)
    | none => none
  | .cell => match cellCall K f args H with
    | some e => some (.eff e)
    | none => none
  | .own => match ownCall K f args H with
    | some e => some (.eff e)
    | none => none
  | .lend => match lendCall K f args H with
    | some e => some (.eff e)
    | none => none
  | .fresh => match freshCall K f args H fr with
    | some e => some (.eff e)
    | none => none
  | .box => match boxCall K f args H fr with
    | some e => some (.eff e)
    | none => none
def operOut (C : Cfg) (K : Call) (F : Fm) (T : Tmps) (H : Heap) (fr : Nat) (o : Oper) : Option Out :=
  match o.op with
  | .call c => match c.callee with
    | .value fo => match aeval T fo with
      | .fn f caps => if f < bnd then callOut C K f (typedFor C.P f (c.args.toList.map (aeval T)) ++ caps) H fr else if c.args.isEmpty then callOut C K (f - bnd) caps H fr else none
      | .d (.fn f caps) => if f < bnd then callOut C K f (typedFor C.P f (c.args.toList.map (aeval T)) ++ caps.map .d) H fr else none
      | _ => none
    | _ => match eff C.P F (aeval T) H fr o with | some e => some (.eff e) | none => none
  | _ => match eff C.P F (aeval T) H fr o with | some e => some (.eff e) | none => none

def wantedA (ops : Array Oper) (T : Tmps) (o : Oper) : Option Bool :=
  match o.guard with
  | none => some true
  | some (j, want) => match (ops[j]?).bind (·.dst) with
    | some t => match T t with
      | .d (.v (.bool b)) => some (b == want)
      | .d (.v (.tuple _)) => some false
      | _ => none
    | none => some false

def isDeep (F : Fm) (o : Oper) : Bool := match o.op with
  | .buildSlice t 0 ps => F.nm.contains (50000 + t) && ps.isEmpty
  | _ => false
def deepName (F : Fm) (T : Tmps) : Option Nat := match tagOf 70000 F.nm with
  | some d => (match asInt (T d) with
    | some i => some (F.sb + 20 + i.toNat)
    | none => none)
  | none => none
def deepOut (P : Program) (F : Fm) (T : Tmps) (H : Heap) (nx : Nat) (o : Oper) : Option Eff := match o.op with
  | .buildSlice t _ _ => (match tsl P t, deepName F T with
    | some (_, s, _), some g => if (H g).isNone = true ∧ g < nx then some ⟨.ref g 0 0 0, [(g, some (.row s 0 []))]⟩ else none
    | _, _ => none)
  | _ => none
def seqOps (C : Cfg) (K : Call) (F : Fm) (ops : Array Oper) : List Oper → Tmps → Heap → Nat → Option (Tmps × Heap × Nat)
  | [], T, H, nx => some (T, H, nx)
  | o :: r, T, H, nx => match wantedA ops T o with
    | some true => if isDeep F o then (match deepOut C.P F T H nx o with
        | some e => seqOps C K F ops r (putT T o.dst e.v) (writes H e.wr) (nx + wide)
        | none => none)
      else match operOut C K F T H nx o with
      | some (.eff e) => seqOps C K F ops r (putT T o.dst e.v) (writes H e.wr) (nx + wide)
      | some (.frz v p) => seqOps C K F ops r (putT (frzT p.contains H T) o.dst v) (frzK p.contains H) (nx + wide)
      | some (.run v H' nx') => seqOps C K F ops r (putT T o.dst v) H' nx'
      | none => none
    | some false => seqOps C K F ops r (putT T o.dst undefA) H (nx + wide)
    | none => none

/-! A region that draws its order: in the order of the text; beside it is noted which blocks an operation names, and which ones it writes. -/
def footOf (F : Fm) (T : Tmps) (o : Oper) : List Nat :=
  match o.op with
  | .assign x => (match o.dst with | some d => [F.sb + d] | none => []) ++ refs 4 (aeval T x)
  | .load _ a | .store _ a _ => refs 4 (aeval T a)
  | .indexAddr _ x _ | .slice _ x _ _ _ | .lookup _ x _ _ | .mapUpdate _ x _ _ => refs 4 (aeval T x)
  | .buildSlice _ _ ps => ps.toList.flatMap fun q => (aeval T q.2).cells.flatMap (refs 4)
  | .call c => match c.callee with
    | .builtin .len => []
    | _ => c.operands.toList.flatMap fun x => refs 4 (aeval T x)
  | _ => []
/-- .. and, of a function's arguments, what these name further on. -/
def footH (F : Fm) (T : Tmps) (H : Heap) (o : Oper) : List Nat := footOf F T o ++ (match o.op with
  | .call c => (match c.callee with
    | .builtin _ => []
    | _ => c.operands.toList.flatMap fun x => refsIn H 4 (aeval T x))
  | _ => [])
structure Foot where
  i : Nat
  rd : List Nat
  wr : List Nat
def drawOps (C : Cfg) (K : Call) (F : Fm) (ops : Array Oper) (base : Nat) : List Oper → Nat → Tmps → Heap → Option (Tmps × Heap × List Foot)
  | [], _, T, H => some (T, H, [])
  | o :: r, i, T, H => match wantedA ops T o with
    | some true => match operOut C K F T (restr H (footH F T H o)) (base + i * wide) o with
      | some (.eff e) => match drawOps C K F ops base r (i + 1) (putT T o.dst e.v) (writes H e.wr) with
        | some (T', H', l) => some (T', H', ⟨i, footH F T H o, (e.wr.map (·.1)).filter fun b => b < base + i * wide || base + i * wide + wide ≤ b⟩ :: l)
        | none => none
      | some (.frz v p) => match drawOps C K F ops base r (i + 1) (putT T o.dst v) (writes H (killed H p)) with
        | some (T', H', l) => if p.all (footH F T H o).contains then some (T', H', ⟨i, footH F T H o, p⟩ :: l) else none
        | none => none
      | _ => none
    | some false => drawOps C K F ops base r (i + 1) (putT T o.dst undefA) H
    | none => none
/-- No two operations that may change places touch what one of them writes. -/
def footOk (bef : Array Nat) (base : Nat) (l : List Foot) : Bool :=
  l.all fun y => ((y.rd ++ y.wr).all fun b => b < base || (bef.getD y.i 0).testBit ((b - base) / wide)) &&
    l.all fun x => x.i ≥ y.i || (bef.getD y.i 0).testBit x.i || ((x.wr.all fun b => !y.rd.contains b && !y.wr.contains b) && (y.wr.all fun b => !x.rd.contains b))

/-- Is a region's last operation the call of a function value, behind all the others? -/
def isSolo (ops : Array Oper) : Bool := match ops.toList.getLast? with
  | some o => (match o.op with
    | .call c => (match c.callee with
      | .value _ => true
      | _ => false)
    | _ => false) && (List.range (ops.size - 1)).all fun i => ((Region.before ops).getD (ops.size - 1) 0).testBit i
  | none => false
def region (C : Cfg) (K : Call) (F : Fm) (ops : Array Oper) (draw : Bool) (T : Tmps) (H : Heap) (nx : Nat) : Option (Tmps × Heap × Nat) :=
  if draw then
    if isSolo ops then
      match drawOps C K F ops nx (ops.toList.take (ops.size - 1)) 0 T H with
      | some (T', H', l) => if footOk (Region.before ops) nx l then seqOps C K F ops (ops.toList.drop (ops.size - 1)) T' H' (nx + ops.size * wide) else none
      | none => none
    else match drawOps C K F ops nx ops.toList 0 T H with
    | some (T', H', l) => if footOk (Region.before ops) nx l then some (T', H', nx + ops.size * wide) else none
    | none => none
  else seqOps C K F ops ops.toList T H nx

inductive AItem where
  | code (c : Code)
  | inBlock (id : Nat)
  | inLoop (body : Code) (nx : Nat)
  | inScope (body : Code)
def exitToA (id : Nat) : List AItem → Option (List AItem)
  | .inBlock id' :: k => if id' == id then some k else exitToA id k
  | _ :: k => exitToA id k
  | [] => none

def loadA (P : Program) (H : Heap) (t : TypeId) (a : AV) : Option AV :=
  match eff P ⟨0, 0, true, [], true⟩ (fun _ => a) H 0 { dst := none, op := .load t (.tmp 0), type := t, pos := "", after := #[], guard := none } with
  | some e => some e.v
  | none => none
def resultOf (P : Program) (H : Heap) (T : Tmps) : ResultVar → Option AV
  | .tmp t => some (T t)
  | .cell a t => loadA P H t (T a)
def resultsA (P : Program) (fn : Func) (T : Tmps) (H : Heap) : Option AV :=
  match mapO (resultOf P H T) fn.results.toList with
  | some [v] => some v
  | some l => some (.tup l)
  | none => none
def argsT (args : List AV) : Tmps := fun t => match args[t]? with | some v => v | none => undefA

/-- A range over a function whose body leaves the function in its first round: that body's operations. -/
def quits : Code → Option (Array Oper)
  | .block _ (.seq (.region _ ops false) .ret) => if (ops.toList.all fun o => match o.op with | .defer _ => false | _ => true) = true then some ops else none
  | _ => none
def quitOf (ps : Array Tmp) : Code → Code → Option (Array Oper)
  | .skip, body => if ps.size = 1 then quits body else none
  | _, _ => none
/-- What an iterator gives, all of it. -/
def gather (C : Cfg) (g : FuncId) (caps : List DV) : Option (List (List DV)) := match C.coll with
  | some fc => (match C.prim fc [.d (.fn g caps)] with
    | some (.d (.lst _ xs)) => some xs
    | _ => none)
  | none => none
def fnD : List AV → Option (FuncId × List DV)
  | [.d (.fn g caps)] => if g < bnd then some (g, caps) else none
  | _ => none
def deadT (T : Tmps) (ps : List Tmp) : Tmps := fun t => if ps.contains t then .dead else T t
def quitF (F : Fm) (nx : Nat) : Fm := ⟨nx, nx + (F.lo - F.sb), F.tr, [], F.vt⟩

/-- Names go on from a round number at a loop's beginning, whatever came before. -/
def upN (nx : Nat) : Nat := (nx / 1048576 + 1) * 1048576
def arun (C : Cfg) (F : Fm) : Nat → List AItem → Tmps → Heap → Nat → Option (Tmps × Heap × Nat)
  | 0, _, _, _, _ => none
  | _ + 1, [], T, H, nx => some (T, H, nx)
  | n + 1, .inBlock _ :: k, T, H, nx => arun C F n k T H nx
  | n + 1, .inScope _ :: k, T, H, nx => arun C F n k T H nx
  | n + 1, .inLoop b nx0 :: k, T, H, nx =>
    if F.tr then arun C F n (.code b :: .inLoop b nx0 :: k) (canT F.q F.sb (frzH (fun b => Nat.ble nx0 b) H) (frzT (fun b => Nat.ble nx0 b) H T)) (canH F.q F.sb (frzH (fun b => Nat.ble nx0 b) H)) nx0
    else arun C F n (.code b :: .inLoop b nx0 :: k) (canT F.q F.sb H T) (canH F.q F.sb H) nx
  | n + 1, .code c :: k, T, H, nx =>
    match c with
    | .skip => arun C F n k T H nx
    | .label _ => arun C F n k T H nx
    | .ret => some (T, H, nx)
    | .seq a b => arun C F n (.code a :: .code b :: k) T H nx
    | .block id b => arun C F n (.code b :: .inBlock id :: k) T H nx
    | .loop b => arun C F n (.code b :: .inLoop b (upN nx) :: k) (canT F.q F.sb H T) (canH F.q F.sb H) (upN nx)
    | .scope b => arun C F n (.code b :: .inScope b :: k) T H nx
    | .exit id => match exitToA id k with
      | some k' => arun C F n k' T H nx
      | none => none
    | .cond c a b => match aeval T c with
      | .d (.v (.bool t)) => if t then arun C F n (.code a :: k) T H nx else arun C F n (.code b :: k) T H nx
      | _ => none
    | .region _ ops draw =>
      match region C (fun f args H' nx' => match C.P.funcs[f]? with
          | some fn => match fn.body with
            | some c => if args.length ≤ fn.ntmps then (match arun C ⟨nx', nx' + fn.ntmps, C.trim f, C.names f, C.virt f⟩ n [.code c] (argsT args) H' (nx' + fn.ntmps) with
              | some (T', H'', nx'') => (match resultsA C.P fn T' H'' with | some v => some (v, H'', nx'') | none => none)
              | none => none) else none
            | none => none
          | none => none) F ops draw T H nx with
      | some (T', H', nx') => arun C F n k T' H' nx'
      | none => none
    | .rangeFunc f ps assign body => match quitOf ps assign body with
      | some ops => match mapO (snap (refsIn H 4 (aeval T f)).contains H 4) [aeval T f] with
        | some as => match fnD as with
          | some (g, caps) => match gather C g caps with
            | some [] => arun C F n k T H nx
            | some (_ :: _) => match region C (fun f args H' nx' => match C.P.funcs[f]? with
                | some fn => match fn.body with
                  | some c => if args.length ≤ fn.ntmps then (match arun C ⟨nx', nx' + fn.ntmps, C.trim f, C.names f, C.virt f⟩ n [.code c] (argsT args) H' (nx' + fn.ntmps) with
                    | some (T', H'', nx'') => (match resultsA C.P fn T' H'' with | some v => some (v, H'', nx'') | none => none)
                    | none => none) else none
                  | none => none
                | none => none) (quitF F nx) ops false (deadT T ps.toList) H (nx + (F.lo - F.sb)) with
              | some (_, H', nx') => some (T, H', nx')
              | none => none
            | none => none
          | none => none
        | none => none
      | none => none
    | _ => none

def acall (C : Cfg) (n : Nat) (f : FuncId) (args : List AV) (H : Heap) (nx : Nat) : Option (AV × Heap × Nat) :=
  match C.P.funcs[f]? with
  | some fn => match fn.body with
    | some c => if args.length ≤ fn.ntmps then (match arun C ⟨nx, nx + fn.ntmps, C.trim f, C.names f, C.virt f⟩ n [.code c] (argsT args) H (nx + fn.ntmps) with
      | some (T', H'', nx'') => (match resultsA C.P fn T' H'' with | some v => some (v, H'', nx'') | none => none)
      | none => none) else none
    | none => none
  | none => none
def apure (C : Cfg) (n : Nat) (f : FuncId) (args : List AV) : Option AV := byValue (acall C n) f args

end Go.AI
