/-
  Own work. The value interpreter over symbols: a tree of what must be asked, needed, looked up. Sound over the interpreter: YtljhobohpnpedaaAiVok.
-/
import Derived.Test.YtljhobohpnpedaaAiLim
namespace Go.AI
open Go
set_option linter.unusedVariables false
set_option linter.unusedSimpArgs false

/-- What comes, and under which conditions. -/
inductive Tree (β : Type) : Type 1
  | done (b : β)
  | stop
  | ask (c : Bool) (t f : Tree β)
  | need (p : Prop) (i : Decidable p) (t : Tree β)
  | get {α : Type} (o : Option α) (k : α → Tree β)
def Tree.run {β : Type} : Tree β → Option β
  | .done b => some b
  | .stop => none
  | .ask c t f => match c with | true => t.run | false => f.run
  | .need p i t => @ite _ p i t.run none
  | .get o k => match o with | some a => (k a).run | none => none
def Tree.bind {β γ : Type} (t : Tree β) (k : β → Tree γ) : Tree γ := match t with
  | .done b => k b
  | .stop => .stop
  | .ask c t f => .ask c (t.bind k) (f.bind k)
  | .need p i t => .need p i (t.bind k)
  | .get o h => .get o fun a => (h a).bind k

/-- A block: one element whose cells are known one by one; elements of data; any elements. -/
inductive VBlk where
  | raw (s ver : Nat) (rows : List (List AV))
  | cell (s ver : Nat) (r : List AV)
  | drow (s ver : Nat) (xs : List (List DV))
  | mp (ag : Bool) (es : List (List DV × DV))
abbrev VHeap := Nat → Option VBlk
abbrev VWr := List (Nat × Option VBlk)
/-- A key, of its cells. -/
def keyAV : Bool → List DV → AV
  | true, cs => .agg (cs.map .d)
  | false, [x] => .d x
  | false, _ => .dead
def entAV (ag : Bool) (e : List DV × DV) : AV × AV := (keyAV ag e.1, .d e.2)
def VBlk.den : VBlk → ABlk
  | .raw s v rows => .row s v rows
  | .cell s v r => .row s v [r]
  | .drow s v xs => .row s v (embed xs)
  | .mp ag es => .mp (es.map (entAV ag))
def denO : Option VBlk → Option ABlk
  | some B => some B.den
  | none => none
def den (V : VHeap) : Heap := fun b => denO (V b)
def vset (V : VHeap) (b : Nat) (x : Option VBlk) : VHeap := fun c => if c = b then x else V c
def vwrites (V : VHeap) : VWr → VHeap
  | [] => V
  | (b, x) :: r => vwrites (vset V b x) r
def denW (l : VWr) : Wr := l.map fun x => (x.1, denO x.2)
def noV : VHeap := fun _ => none
def vrestr (V : VHeap) (F : List Nat) : VHeap := fun b => if F.contains b then V b else none

def toDV (p : Nat → Bool) (V : VHeap) : Nat → AV → Option DV
  | 0, _ => none
  | _ + 1, .d x => some x
  | _ + 1, .nil s => some (.lst s [])
  | _ + 1, .ex s xs => some (.lst s xs)
  | n + 1, .ref b ver off len =>
    if p b then
      match V b with
      | some (.drow s ver' xs) => if ver = ver' then
          match n with
          | 0 => (match mapO (fun r => mapO (toDV p V 0) r) (((embed xs).drop off).take len) with | some ys => some (.lst s ys) | none => none)
          | _ + 1 => some (.lst s ((xs.drop off).take len))
        else none
      | some (.cell s ver' r) => if ver = ver' then (match mapO (fun r => mapO (toDV p V n) r) (([r].drop off).take len) with | some ys => some (.lst s ys) | none => none) else none
      | some (.raw s ver' rows) => if ver = ver' then (match mapO (fun r => mapO (toDV p V n) r) ((rows.drop off).take len) with | some ys => some (.lst s ys) | none => none) else none
      | _ => none
    else none
  | n + 1, .ptr b ver i o =>
    if p b then
      match V b with
      | some (.drow _ ver' xs) => if ver = ver' then
          match n with
          | 0 => (match (embed xs)[i]? with | some r => (match mapO (toDV p V 0) r with | some x => some (.ptr x o) | none => none) | none => none)
          | _ + 1 => (match xs[i]? with | some r => some (.ptr r o) | none => none)
        else none
      | some (.cell _ ver' r) => if ver = ver' then (match [r][i]? with | some r => (match mapO (toDV p V n) r with | some x => some (.ptr x o) | none => none) | none => none) else none
      | some (.raw _ ver' rows) => if ver = ver' then (match rows[i]? with | some r => (match mapO (toDV p V n) r with | some x => some (.ptr x o) | none => none) | none => none) else none
      | _ => none
    else none
  | n + 1, .fn f caps => match mapO (toDV p V n) caps with
    | some l => some (.fn f l)
    | none => none
  | _, _ => none
def frzVV (p : Nat → Bool) (V : VHeap) : Nat → AV → AV
  | 0, _ => .dead
  | n + 1, .agg cs => .agg (cs.map (frzVV p V n))
  | n + 1, .tup vs => .tup (vs.map (frzVV p V n))
  | n + 1, .fn f caps => .fn f (caps.map (frzVV p V n))
  | _ + 1, .ref b ver off len => if p b then (match toDV p V 4 (.ref b ver off len) with | some x => .d x | none => .dead) else .ref b ver off len
  | _ + 1, .ptr b ver i o => if p b then (match toDV p V 4 (.ptr b ver i o) with | some x => .d x | none => .dead) else .ptr b ver i o
  | _ + 1, .map b => if p b then .dead else .map b
  | _ + 1, v => v
def frzBV (p : Nat → Bool) (V : VHeap) : VBlk → VBlk
  | .cell s ver r => .cell s ver (r.map (frzVV p V 4))
  | .raw s ver rows => .raw s ver (rows.map fun r => r.map (frzVV p V 4))
  | .drow s ver xs => .drow s ver xs
  | .mp ag es => .mp ag es
def frzHV (p : Nat → Bool) (V : VHeap) : VHeap := fun b => if p b then none else match V b with | some B => some (frzBV p V B) | none => none
def staleV : VBlk → VBlk
  | .cell s ver _ => .drow s (ver + 1) []
  | .raw s ver _ => .drow s (ver + 1) []
  | .drow s ver _ => .drow s (ver + 1) []
  | .mp ag es => .mp ag es
def frzKV (p : Nat → Bool) (V : VHeap) : VHeap := fun b => match V b with
  | some (.mp ag es) => some (.mp ag es)
  | some B => if p b then some (staleV B) else some (frzBV p V B)
  | none => none
def frzTV (p : Nat → Bool) (V : VHeap) (T : Tmps) : Tmps := fun t => frzVV p V 4 (T t)
def snapV (p : Nat → Bool) (V : VHeap) : Nat → AV → Option AV
  | 0, _ => none
  | n + 1, .agg cs => match mapO (snapV p V n) cs with | some l => some (.agg l) | none => none
  | n + 1, .tup vs => match mapO (snapV p V n) vs with | some l => some (.tup l) | none => none
  | _ + 1, v => match toDV p V 4 v with | some x => some (.d x) | none => none
def refsInV (V : VHeap) : Nat → AV → List Nat
  | 0, _ => []
  | n + 1, v => (refs 4 v).flatMap fun b => b :: (match V b with
    | some (.cell _ _ r) => r.flatMap (refsInV V n)
    | some (.raw _ _ rows) => rows.flatMap fun r => r.flatMap (refsInV V n)
    | _ => [])
def killedV (V : VHeap) (p : List Nat) : VWr := p.filterMap fun b => match V b with
  | some (.mp _ _) => none
  | some B => some (b, some (staleV B))
  | none => none

structure VEff where
  v : AV
  wr : VWr
section
variable {β : Type}
def putD (r : List DV) (o : Nat) (cs : List DV) : List DV := r.take o ++ (cs ++ r.drop (o + cs.length))
def overD (data : List (List DV)) (at_ : Nat) (ys : List (List DV)) : List (List DV) := data.take at_ ++ (ys ++ data.drop (at_ + ys.length))
def asD : AV → Option DV
  | .d x => some x
  | _ => none
def virtW : Nat → List AV → VWr
  | _, [] => []
  | k, .nil s :: r => (k, some (.drow s 0 [])) :: virtW (k + 1) r
  | k, _ :: r => virtW k r
def vmkRow (fr : Nat) (cs : List AV) (k : VEff → Tree β) : Tree β :=
  if (virt (fr + 1) cs).2.length < 15 then k ⟨.ptr fr 0 0 0, (fr, some (.cell cs.length 0 (virt (fr + 1) cs).1)) :: virtW (fr + 1) cs⟩ else .stop
def vnextVer (V : VHeap) (b : Nat) : Nat := match V b with
  | some (.cell _ v _) => v + 1
  | some (.raw _ v _) => v + 1
  | some (.drow _ v _) => v + 1
  | _ => 0
def notMp : Option VBlk → Bool
  | some (.mp ..) => false
  | _ => true
/-- Is a slice of one's own its whole row? (asked, or owed) -/
def vwhole (pt : Bool) (off len n : Nat) (t f : Tree β) : Tree β := match pt with
  | true => .ask (decide (off = 0 ∧ len = n)) t f
  | false => match off with
    | 0 => .need (len = n) inferInstance t
    | _ + 1 => f
def vassign (P : Program) (pt : Bool) (F : Fm) (V : VHeap) (t : TypeId) (dst : Option Tmp) (x : AV) (k : VEff → Tree β) : Tree β :=
  match dst, x with
  | some d, .nil s0 => if F.nm.contains d = true then (match tsl P t with
    | some (_, s, _) => if notMp (V (F.sb + d)) = true then k ⟨.ref (F.sb + d) (vnextVer V (F.sb + d)) 0 0, [(F.sb + d, some (.drow s (vnextVer V (F.sb + d)) []))]⟩ else .stop
    | none => .stop) else k ⟨tyNil P t (.nil s0), []⟩
  | some d, .ref b ver off len =>
    if F.lo ≤ b ∧ F.nm.contains d = true then
      match V b with
      | some (.drow s ver' xs) =>
        if ver = ver' ∧ F.sb + d ≠ b then
          if notMp (V (F.sb + d)) = true then vwhole pt off len xs.length (k ⟨.ref (F.sb + d) (vnextVer V (F.sb + d)) 0 xs.length, [(b, some (.drow s (ver + 1) [])), (F.sb + d, some (.drow s (vnextVer V (F.sb + d)) xs))]⟩) (k ⟨x, []⟩) else .stop
        else k ⟨x, []⟩
      | some (.cell ..) => .stop
      | some (.raw ..) => .stop
      | some (.mp ..) => .stop
      | none => k ⟨x, []⟩
    else k ⟨x, []⟩
  | _, x => k ⟨x, []⟩
/-- What a type's cells are. -/
inductive CK where
  | int (k : IntKind)
  | bool
  | str
  | lst (s : Nat)
def kindsF (g : TypeId → Option (List CK)) : List Field → Nat → Option (List CK)
  | [], _ => some []
  | f :: r, off => if f.offset = off then (match g f.type with
      | some l => (match kindsF g r (off + l.length) with | some l' => some (l ++ l') | none => none)
      | none => none) else none
def kindsT (P : Program) : Nat → TypeId → Option (List CK)
  | 0, _ => none
  | n + 1, t => match P.underlying t with
    | some (.int k) => some [.int k]
    | some .bool => some [.bool]
    | some .string => some [.str]
    | some (.slice _) => match tsl P t with | some (_, s, _) => some [.lst s] | none => none
    | some (.struct fs) => kindsF (kindsT P n) fs.toList 0
    | _ => none
def dInt (k : IntKind) (r : List DV) (o : Nat) : Option Int := match r[o]? with
  | some (.v (.int k' n)) => if k = k' then some n else none
  | _ => none
def dBool (r : List DV) (o : Nat) : Option Bool := match r[o]? with
  | some (.v (.bool b)) => some b
  | _ => none
def dStr (r : List DV) (o : Nat) : Option ByteArray := match r[o]? with
  | some (.v (.string b)) => some b
  | _ => none
def dLst (s : Nat) (r : List DV) (o : Nat) : Option (List (List DV)) := match r[o]? with
  | some (.lst s' xs) => if s = s' then some xs else none
  | _ => none
def vcells : List CK → List DV → Nat → (List AV → Tree β) → Tree β
  | [], _, _, k => k []
  | .int kd :: ks, r, o, k => .get (dInt kd r o) fun z => vcells ks r (o + 1) fun l => k (.d (.v (.int kd z)) :: l)
  | .bool :: ks, r, o, k => .get (dBool r o) fun z => vcells ks r (o + 1) fun l => k (.d (.v (.bool z)) :: l)
  | .str :: ks, r, o, k => .get (dStr r o) fun z => vcells ks r (o + 1) fun l => k (.d (.v (.string z)) :: l)
  | .lst s :: ks, r, o, k => .get (dLst s r o) fun xs => vcells ks r (o + 1) fun l => k (.d (.lst s xs) :: l)
def vtyped (P : Program) (t : TypeId) (n : Nat) (r : List DV) (o : Nat) (k : VEff → Tree β) : Tree β :=
  match kindsT P 9 t with
  | some (c :: ks) => if (c :: ks).length = n then vcells (c :: ks) r o fun cs => (match partA (tagg P t) cs with | some v => k ⟨v, []⟩ | none => .stop) else .stop
  | _ => .stop
/-- What a call answers: cells, or a struct's cells. -/
inductive Sh where
  | one (c : CK)
  | agg (cs : List CK)
def CK.ty : CK → Type
  | .int _ => Int
  | .bool => Bool
  | .str => ByteArray
  | .lst _ => List (List DV)
def CK.enc : (c : CK) → c.ty → DV
  | .int k, z => .v (.int k z)
  | .bool, b => .v (.bool b)
  | .str, b => .v (.string b)
  | .lst s, xs => .lst s xs
def decInt (k : IntKind) : DV → Option Int
  | .v (.int k' z) => if k = k' then some z else none
  | _ => none
def decBool : DV → Option Bool
  | .v (.bool b) => some b
  | _ => none
def decStr : DV → Option ByteArray
  | .v (.string b) => some b
  | _ => none
def decLst (s : Nat) : DV → Option (List (List DV))
  | .lst s' xs => if s = s' then some xs else none
  | _ => none
def CK.dec : (c : CK) → DV → Option c.ty
  | .int k => decInt k
  | .bool => decBool
  | .str => decStr
  | .lst s => decLst s
def tyL : List CK → Type
  | [] => Unit
  | c :: r => c.ty × tyL r
def encL : (l : List CK) → tyL l → List AV
  | [], _ => []
  | c :: r, x => .d (c.enc x.1) :: encL r x.2
def decL : (l : List CK) → List AV → Option (tyL l)
  | [], [] => some ()
  | c :: r, .d x :: l => match c.dec x with
    | some a => match decL r l with
      | some b => some (a, b)
      | none => none
    | none => none
  | _, _ => none
def Sh.ty : Sh → Type
  | .one c => c.ty
  | .agg cs => tyL cs
def Sh.enc : (s : Sh) → s.ty → AV
  | .one c, x => .d (c.enc x)
  | .agg cs, x => .agg (encL cs x)
def decD (c : CK) : AV → Option c.ty
  | .d x => c.dec x
  | _ => none
def decA (cs : List CK) : AV → Option (tyL cs)
  | .agg l => decL cs l
  | _ => none
def Sh.dec : (s : Sh) → AV → Option s.ty
  | .one c => decD c
  | .agg cs => decA cs
def tyS : List Sh → Type
  | [] => Unit
  | s :: r => s.ty × tyS r
def encT : (l : List Sh) → tyS l → List AV
  | [], _ => []
  | s :: r, x => s.enc x.1 :: encT r x.2
def decT : (l : List Sh) → List AV → Option (tyS l)
  | [], [] => some ()
  | s :: r, v :: l => match s.dec v with
    | some a => match decT r l with
      | some b => some (a, b)
      | none => none
    | none => none
  | _, _ => none
def encS (l : List Sh) (x : tyS l) : AV := match encT l x with
  | [v] => v
  | vs => .tup vs
def isOne : List Sh → Bool
  | [_] => true
  | _ => false
def decS (l : List Sh) (v : AV) : Option (tyS l) := match isOne l with
  | true => decT l [v]
  | false => match v with
    | .tup vs => decT l vs
    | _ => none
def shapeT (P : Program) (t : TypeId) : Option Sh := match P.underlying t with
  | some (.struct _) => match kindsT P 9 t with
    | some cs => some (.agg cs)
    | none => none
  | _ => match kindsT P 9 t with
    | some [c] => some (.one c)
    | _ => none
def shapesOf (P : Program) (f : FuncId) : Option (List Sh) := match P.funcs[f]? with
  | some fn => mapO (shapeT P) fn.resultTypes.toList
  | none => none
/-- A call's answer, typed. -/
def retOf (K : FuncId → List AV → Option AV) (sh : List Sh) (f : FuncId) (as : List AV) : Option (tyS sh) := match K f as with
  | some v => decS sh v
  | none => none
def vload (P : Program) (V : VHeap) (t : TypeId) (a : AV) (k : VEff → Tree β) : Tree β :=
  match tsz P t with
  | none => .stop
  | some n =>
    match a with
    | .ptr b ver i o => match V b with
      | some (.cell _ ver' r) => if ver = ver' ∧ i = 0 then (match getCells r o n with
          | some cs => (match partA (tagg P t) cs with | some v => k ⟨v, []⟩ | none => .stop)
          | none => .stop) else .stop
      | some (.drow _ ver' xs) => if ver = ver' then .get xs[i]? (fun r => vtyped P t n r o k) else .stop
      | _ => .stop
    | .d (.ptr x o) => vtyped P t n x o k
    | _ => .stop
def vstore (P : Program) (vt : Bool) (V : VHeap) (fr : Nat) (t : TypeId) (a x : AV) (k : VEff → Tree β) : Tree β :=
  match tsz P t, a with
  | some n, .ptr b ver i o => match V b with
    | some (.cell s ver' r) =>
      if ver = ver' ∧ i = 0 ∧ okCells x = true ∧ x.cells.length = n ∧ o + n ≤ r.length ∧ (virt fr (nzA vt (tyNil P t x)).cells).2.length < 15 then
        k ⟨undefA, (b, some (.cell s ver (putCells r o (virt fr (nzA vt (tyNil P t x)).cells).1))) :: virtW fr (nzA vt (tyNil P t x)).cells⟩ else .stop
    | some (.drow s ver' xs) =>
      if ver = ver' ∧ okCells x = true ∧ x.cells.length = n then (match mapO asD x.cells with
        | some ds => .get xs[i]? fun r => .need (o + n ≤ r.length) inferInstance (k ⟨undefA, [(b, some (.drow s ver (xs.set i (putD r o ds))))]⟩)
        | none => .stop) else .stop
    | _ => .stop
  | _, _ => .stop
/-- A slice's elements, where they are data. -/
def rowsD (V : VHeap) (s0 : Nat) : AV → Option (List (List DV))
  | .d (.lst s xs) => if s = s0 then some xs else none
  | .ex s xs => if s = s0 then some xs else none
  | .nil _ => some []
  | .ref b ver off len => match V b with
    | some (.drow s ver' xs) => if s = s0 ∧ ver = ver' then some ((xs.drop off).take len) else none
    | _ => none
  | _ => none
def vappend (P : Program) (pt : Bool) (V : VHeap) (fr : Nat) (t : TypeId) (x y : AV) (k : VEff → Tree β) : Tree β :=
  match tsl P t with
  | none => .stop
  | some (_, s0, by0) =>
    match rowsD V s0 y with
    | none => .stop
    | some ys =>
      match x with
      | .ref b ver off len => match V b with
        | some (.drow s ver' xs) => if ver = ver' ∧ s = s0 then
            vwhole pt off len xs.length
              (.need ((xs ++ ys).length * by0 ≤ room ∧ (xs ++ ys).length * s0 ≤ room) inferInstance (k ⟨.ref b (ver + 1) 0 (xs ++ ys).length, [(b, some (.drow s0 (ver + 1) (xs ++ ys)))]⟩))
              (.need (off + len + ys.length ≤ xs.length) inferInstance (k ⟨.ref b ver off (len + ys.length), [(b, some (.drow s ver (overD xs (off + len) ys)))]⟩))
          else .stop
        | _ => .stop
      | .nil _ => .ask ys.isEmpty (k ⟨.nil s0, []⟩) (.need (ys.length * by0 ≤ room ∧ ys.length * s0 ≤ room) inferInstance (k ⟨.ref fr 0 0 ys.length, [(fr, some (.drow s0 0 ys))]⟩))
      | .ex s xs => if s = s0 then
          .ask ys.isEmpty (k ⟨.d (.lst s xs), []⟩) (.need ((xs ++ ys).length * by0 ≤ room ∧ (xs ++ ys).length * s0 ≤ room) inferInstance (k ⟨.ref fr 0 0 (xs ++ ys).length, [(fr, some (.drow s0 0 (xs ++ ys)))]⟩)) else .stop
      | _ => .stop
def vbounds (n : Nat) (lo hi : Option AV) (k : Nat → Nat → Tree β) : Tree β :=
  match hiA n hi, loA lo with
  | some h, some l => .need (0 ≤ l ∧ l ≤ h ∧ h ≤ n) inferInstance (k l.toNat h.toNat)
  | _, _ => .stop
def vslice (P : Program) (V : VHeap) (t : TypeId) (x : AV) (lo hi mx : Option AV) (k : VEff → Tree β) : Tree β :=
  match tsl P t with
  | none => .stop
  | some (_, s0, _) =>
    match mx with
    | none =>
      match x with
      | .d (.lst s xs) => if s = s0 then vbounds xs.length lo hi fun l h => k ⟨.d (.lst s ((xs.take h).drop l)), []⟩ else .stop
      | .ex s xs => if s = s0 then vbounds xs.length lo hi fun l h => k ⟨.d (.lst s ((xs.take h).drop l)), []⟩ else .stop
      | .nil s => vbounds 0 lo hi fun _ _ => k ⟨.nil s, []⟩
      | .ref b ver off len => match V b with
        | some (.drow s ver' xs) => if s = s0 ∧ ver = ver' then vbounds (xs.length - off) lo (some (hiOr len hi)) fun l h => k ⟨.ref b ver (off + l) (h - l), []⟩ else .stop
        | _ => .stop
      | _ => .stop
    | some m =>
      match x, hi with
      | .d (.lst s xs), some h => match asInt m, asInt h with
        | some m', some h' => if s = s0 then .need (m' = h') inferInstance (vbounds xs.length lo hi fun l h => k ⟨.ex s ((xs.take h).drop l), []⟩) else .stop
        | _, _ => .stop
      | .nil s, some h => match asInt m, asInt h with
        | some m', some h' => .need (m' = h') inferInstance (vbounds 0 lo hi fun _ _ => k ⟨.nil s, []⟩)
        | _, _ => .stop
      | .ref b ver off len, some h => match asInt m, asInt h, V b with
        | some m', some h', some (.drow s ver' xs) => if s = s0 ∧ ver = ver' then .need (h' ≤ m' ∧ m' ≤ ((xs.length - off : Nat) : Int)) inferInstance (vbounds (xs.length - off) lo (some h) fun l h2 => .need (¬ (l = h2 ∧ m' = h')) inferInstance (k ⟨.dead, []⟩)) else .stop
        | _, _, _ => .stop
      | _, _ => .stop
def vindex (P : Program) (V : VHeap) (t : TypeId) (x ix : AV) (k : VEff → Tree β) : Tree β :=
  match asInt ix with
  | none => .stop
  | some i => match P.underlying t with
    | some (.slice _) => match tsl P t with
      | some (_, s0, _) => match x with
        | .d (.lst s xs) => if s = s0 then .need (0 ≤ i) inferInstance (.get xs[i.toNat]? fun r => k ⟨.d (.ptr r 0), []⟩) else .stop
        | .ex s xs => if s = s0 then .need (0 ≤ i) inferInstance (.get xs[i.toNat]? fun r => k ⟨.d (.ptr r 0), []⟩) else .stop
        | .ref b ver off len => match V b with
          | some (.drow s ver' _) => if s = s0 ∧ ver = ver' then .need (0 ≤ i ∧ i < len) inferInstance (k ⟨.ptr b ver (off + i.toNat) 0, []⟩) else .stop
          | _ => .stop
        | _ => .stop
      | none => .stop
    | _ => match tarr P t, x with
      | some (n, s), .ptr b ver j o' => .need (0 ≤ i ∧ i < n) inferInstance (k ⟨.ptr b ver j (o' + i.toNat * s), []⟩)
      | _, _ => .stop
def vrows (p : Nat → Bool) (V : VHeap) (rows : List (List AV)) : Option (List (List DV)) := mapO (fun r => mapO (fun v => asD (deNil (frzVV p V 4 v))) r) rows
def vbuildSlice (P : Program) (F : Fm) (V : VHeap) (fr : Nat) (t : TypeId) (n : Nat) (ps : List (Nat × AV)) (k : VEff → Tree β) : Tree β :=
  match tsl P t with
  | some (_, s, _) => match rowsAre s 0 ps with
    | some rows => if rows.length = n ∧ n * s ≤ 2 ^ 24 ∧ (F.tr && !keepsT F.nm t) = true then
        (match vrows (refsOf rows).contains V rows with
        | some xs => k ⟨.ref fr 0 0 n, (fr, some (.drow s 0 xs)) :: killedV V (refsOf rows)⟩
        | none => .stop) else .stop
    | none => .stop
  | none => .stop
def vmakeSlice (P : Program) (F : Fm) (fr : Nat) (t : TypeId) (l c : AV) (k : VEff → Tree β) : Tree β :=
  match tsl P t with
  | some (e, s, by0) => match tzero P e, asInt l, asInt c with
    | some z, some n, some m => if z.length = s ∧ F.tr = true then (match mapO (fun v => asD (deNil v)) z with
      | some zd => .need (n = m ∧ 0 ≤ n ∧ n * by0 ≤ room ∧ n * s ≤ room) inferInstance (k ⟨.ref fr 0 0 n.toNat, [(fr, some (.drow s 0 (List.replicate n.toNat zd)))]⟩)
      | none => .stop) else .stop
    | _, _, _ => .stop
  | none => .stop
def vcopy (P : Program) (V : VHeap) (t : TypeId) (x y : AV) (k : VEff → Tree β) : Tree β :=
  match tsl P t with
  | none => .stop
  | some (_, s0, _) => match rowsD V s0 y, x with
    | some ys, .ref b ver off len => match V b with
      | some (.drow s ver' xs) => if ver = ver' ∧ s = s0 then k ⟨.d (.v (.int .i64 (min ys.length len : Nat))), [(b, some (.drow s ver (overD xs off (ys.take len))))]⟩ else .stop
      | _ => .stop
    | _, _ => .stop
def vclear (P : Program) (V : VHeap) (t : TypeId) (x : AV) (k : VEff → Tree β) : Tree β :=
  match tsl P t with
  | none => .stop
  | some (e, s0, _) => match tzero P e, x with
    | some z, .ref b ver off len => match V b, mapO asD z with
      | some (.drow s ver' xs), some zd => if ver = ver' ∧ s = s0 ∧ z.length = s0 then k ⟨.d (.v (.tuple #[])), [(b, some (.drow s ver (overD xs off (List.replicate len zd))))]⟩ else .stop
      | _, _ => .stop
    | _, _ => .stop
def vbuiltin (P : Program) (pt : Bool) (V : VHeap) (fr : Nat) (b : Builtin) (ts : List TypeId) (args : List AV) (k : VEff → Tree β) : Tree β :=
  match b, ts, args with
  | .append, t :: u :: _, [x, y] => if tagg P u then .stop else (match P.underlying u with | some (.slice _) => vappend P pt V fr t x y k | _ => .stop)
  | .copy, t :: _, [x, y] => vcopy P V t x y k
  | .clear, t :: _, [x] => vclear P V t x k
  | b, ts, args => match builtinA P noHeap fr b ts args with
    | some ⟨v, []⟩ => k ⟨v, []⟩
    | _ => .stop
def vpick (vc a b : AV) (k : VEff → Tree β) : Tree β :=
  match vc with
  | .d (.v (.bool t)) => match a, b with
    | .d (.v (.bool x)), .d (.v (.bool y)) => k ⟨.d (.v (.bool (cond t x y))), []⟩
    | _, _ => .ask t (k ⟨a, []⟩) (k ⟨b, []⟩)
  | _ => .stop
def vnum (op : BinOp) (x y : AV) (kk : VEff → Tree β) : Tree β :=
  match x, y with
  | .d (.v (.int k a)), .d (.v (.int k' b)) => match op with
    | .quo => if k = k' then .need (b ≠ 0) inferInstance (kk ⟨.d (.v (.int k (k.wrap (a.tdiv b)))), []⟩) else .stop
    | .rem => if k = k' then .need (b ≠ 0) inferInstance (kk ⟨.d (.v (.int k (a.tmod b))), []⟩) else .stop
    | .shl => .need (0 ≤ b) inferInstance (kk ⟨.d (.v (.int k (k.wrap (a * 2 ^ (min b.toNat k.bits))))), []⟩)
    | .shr => .need (0 ≤ b) inferInstance (kk ⟨.d (.v (.int k (a.fdiv (2 ^ (min b.toNat k.bits))))), []⟩)
    | _ => .stop
  | _, _ => .stop
/-- May an operation be evaluated without memory? -/
def plainOp : Op → Bool
  | .move _ | .build .. | .nilCheck _ | .unOp .. | .convert .. | .makeFunc .. | .fieldAddr .. | .field .. | .extract .. => true
  | _ => false
def vplain (P : Program) (F : Fm) (ρ : Operand → AV) (fr : Nat) (o : Oper) (k : VEff → Tree β) : Tree β :=
  match eff P F ρ noHeap fr o with
  | some ⟨v, []⟩ => k ⟨v, []⟩
  | _ => .stop
/-- Cells of a key. -/
def keyD : AV → Option (Bool × List DV)
  | .agg cs => match mapO asD cs with
    | some l => some (true, l)
    | none => none
  | .d x => some (false, [x])
  | _ => none
/-- Is a key there? (of bools: what stands there) -/
def mapHas (ks : Option (List Bool)) (k : List DV) (es : List (List DV × DV)) : Option Bool :=
  match keyOk ks (keyAV ks.isSome k) with
  | true => (match findA ks (keyAV ks.isSome k) (es.map (entAV ks.isSome)) with
    | some none => some false
    | some (some (.d (.v (.bool b)))) => some b
    | _ => none)
  | false => none
def mapPutD (ks : Option (List Bool)) (k : List DV) (v : DV) : List (List DV × DV) → Option (List (List DV × DV))
  | [] => some [(k, v)]
  | e :: r => match keyEq ks (keyAV ks.isSome k) (keyAV ks.isSome e.1) with
    | some true => some ((k, v) :: r)
    | some false => (match mapPutD ks k v r with
      | some l => some (e :: l)
      | none => none)
    | none => none
def mapPut (ks : Option (List Bool)) (k : List DV) (v : DV) (es : List (List DV × DV)) : Option (List (List DV × DV)) :=
  match keyOk ks (keyAV ks.isSome k) with
  | true => mapPutD ks k v es
  | false => none
def vmakeMap (P : Program) (fr : Nat) (t : TypeId) (r : Option AV) (k : VEff → Tree β) : Tree β :=
  match tmap P t with
  | some (ks, _) => (match r with
    | none => k ⟨.map fr, [(fr, some (.mp ks.isSome []))]⟩
    | some h => (match asInt h with
      | some _ => k ⟨.map fr, [(fr, some (.mp ks.isSome []))]⟩
      | none => .stop))
  | none => .stop
def vlookup (P : Program) (V : VHeap) (t : TypeId) (x ky : AV) (ok : Bool) (k : VEff → Tree β) : Tree β :=
  match ok with
  | true => .stop
  | false => (match tmap P t, x, keyD ky with
    | some (ks, .bool false), .map b, some (ag, kd) => (match V b with
      | some (.mp ag' es) => if ag = ks.isSome ∧ ag' = ks.isSome then .get (mapHas ks kd es) fun z => k ⟨.d (.v (.bool z)), []⟩ else .stop
      | _ => .stop)
    | _, _, _ => .stop)
def vmapUpdate (P : Program) (V : VHeap) (t : TypeId) (m ky x : AV) (k : VEff → Tree β) : Tree β :=
  match tmap P t, m, keyD ky, x with
  | some (ks, _), .map b, some (ag, kd), .d y => (match V b with
    | some (.mp ag' es) => if ag = ks.isSome ∧ ag' = ks.isSome then .get (mapPut ks kd y es) fun es' => k ⟨undefA, [(b, some (.mp ag' es'))]⟩ else .stop
    | _ => .stop)
  | _, _, _, _ => .stop
def veff (P : Program) (pt : Bool) (F : Fm) (ρ : Operand → AV) (V : VHeap) (fr : Nat) (o : Oper) (k : VEff → Tree β) : Tree β :=
  match o.op with
  | .assign x => vassign P pt F V o.type o.dst (ρ x) k
  | .pick c a b => vpick (ρ c) (ρ a) (ρ b) k
  | .alloc t => match tzero P t with
    | some z => match tarr P t, mapO asD z with
      | some _, some zd => k ⟨.ptr fr 0 0 0, [(fr, some (.drow zd.length 0 [zd]))]⟩
      | _, _ => vmkRow fr (nzL F.vt z) k
    | none => .stop
  | .box t x => if okCells (ρ x) then vmkRow fr (nzA F.vt (tyNil P t (ρ x))).cells k else .stop
  | .buildSlice t n ps => vbuildSlice P F V fr t n (ps.toList.map fun q => (q.1, tyFld P t q.1 (ρ q.2))) k
  | .load t a => vload P V t (ρ a) k
  | .store t a x => vstore P F.vt V fr t (ρ a) (ρ x) k
  | .binOp op t x y _ => match op with
    | .quo | .rem | .shl | .shr => vnum op (ρ x) (ρ y) k
    | _ => match binA P op t (ρ x) (ρ y) with | some v => k ⟨v, []⟩ | none => .stop
  | .makeSlice t l c => vmakeSlice P F fr t (ρ l) (ρ c) k
  | .slice t x lo hi mx => vslice P V t (ρ x) (lo.map ρ) (hi.map ρ) (mx.map ρ) k
  | .indexAddr t x ix => vindex P V t (ρ x) (ρ ix) k
  | .makeMap t r => vmakeMap P fr t (r.map ρ) k
  | .lookup t x ky ok => vlookup P V t (ρ x) (ρ ky) ok k
  | .mapUpdate t m ky x => vmapUpdate P V t (ρ m) (ρ ky) (ρ x) k
  | .call c => match c.callee with
    | .builtin b => vbuiltin P pt V fr b c.argTypes.toList (c.args.toList.map ρ) k
    | _ => .stop
  | op => if plainOp op then vplain P F ρ fr o k else .stop
end

/-! ### Calls -/
/-- What a function that is given a cell does: its answer, what the cell holds then. -/
noncomputable def cellω (C : Cfg) (f : FuncId) (x : DV) (as : List AV) : Option (AV × DV) :=
  match callω C f (.ptr 0 0 0 0 :: as) (hset noHeap 0 (some (.row 1 0 [[.d x]]))) wide with
  | some (v, Hc, _) => match snap (fun b => b != 0) Hc 4 v, Hc 0 with
    | some v', some (.row 1 0 [[.d y]]) => some (v', y)
    | _, _ => none
  | none => none
/-- What a function does that is given rows, and a function that holds a block. -/
noncomputable def ownω (C : Cfg) (f g : FuncId) (x : AV) (B : ABlk) : Option AV :=
  match callω C f [x, .fn g [.ptr 0 0 0 0]] (hset noHeap 0 (some B)) wide with
  | some (v, Hc, _) => snap (fun b => b != 0) Hc 4 v
  | none => none
noncomputable def ownT (C : Cfg) (sh : List Sh) (f g : FuncId) (x : DV) (B : VBlk) : Option (tyS sh) := match ownω C f g (.d x) B.den with
  | some v => decS sh v
  | none => none
/-- What is shown at an end: the answer; or the answer and the block that was lent. -/
def ansT (vw : Bool) (sh : List Sh) : Type := match vw with
  | false => tyS sh
  | true => tyS sh × Option ABlk
def ansD (vw : Bool) (sh : List Sh) (r : AV) (B : Option ABlk) : Option (ansT vw sh) := match vw with
  | false => decS sh r
  | true => match decS sh r with
    | some c => some (c, B)
    | none => none
noncomputable instance blkDec (a b : Option ABlk) : Decidable (a = b) := Classical.propDecidable _
/-- As 'ownT', and what the block is then. -/
noncomputable def lendT (C : Cfg) (sh : List Sh) (f g : FuncId) (x : DV) (B : VBlk) : Option (tyS sh × Option ABlk) := match callω C f [.d x, .fn g [.ptr 0 0 0 0]] (hset noHeap 0 (some B.den)) wide with
  | some (v, Hc, _) => match snap (fun b => b != 0) Hc 4 v with
    | some r => ansD true sh r (Hc 0)
    | none => none
  | none => none
/-- .. typed: a cell with a number. -/
noncomputable def cellT (C : Cfg) (sh : List Sh) (f : FuncId) (n : Int) (as : List AV) : Option (tyS sh × Int) := match cellω C f (.v (.int .i64 n)) as with
  | some (v, y) => match decS sh v with
    | some c => match decInt .i64 y with
      | some m => some (c, m)
      | none => none
    | none => none
  | none => none
/-- .. a row of one's own, and data. -/
noncomputable def freshT (C : Cfg) (sh : List Sh) (f : FuncId) (as : List AV) : Option (tyS sh) := match callω C f as noHeap 0 with
  | some (v, Hc, _) => match freshOf Hc v, snap allB Hc 4 v with
    | some _, some r => decS sh r
    | _, _ => none
  | none => none
inductive VLeaf where
  | fin (T : Tmps) (V : VHeap) (nx : Nat)
  | round (b : Code) (nx0 : Nat) (k : List AItem) (T : Tmps) (V : VHeap) (nx : Nat)
  | enter (b : Code) (k : List AItem) (T : Tmps) (V : VHeap) (nx : Nat)
  | mid (k : List AItem) (T : Tmps) (V : VHeap) (nx : Nat)
abbrev VInl := FuncId → List AV → VHeap → Nat → (AV → VHeap → Nat → Tree VLeaf) → Tree VLeaf
section
variable {β : Type}
def vpureW (P : Program) (K : FuncId → List AV → Option AV) (f : FuncId) (args : List AV) (V : VHeap) (k : AV → List Nat → Tree β) : Tree β :=
  match mapO (snapV (args.flatMap (refsInV V 4)).contains V 4) args with
  | some as => match shapesOf P f with
    | some sh => .get (retOf K sh f as) fun c => k (encS sh c) (if isScalar 4 (encS sh c) then [] else args.flatMap (refsInV V 4))
    | none => .stop
  | none => .stop
def vclone (P : Program) (V : VHeap) (fr : Nat) (t : TypeId) (args : List AV) (k : VEff → Tree β) : Tree β :=
  match tsl P t, args with
  | some (_, s0, by0), [x] => match rowsD V s0 x with
    | some ys => .need (ys.length * by0 ≤ room ∧ ys.length * s0 ≤ room) inferInstance (k ⟨.ref fr 0 0 ys.length, [(fr, some (.drow s0 0 ys))]⟩)
    | none => .stop
  | _, _ => .stop
def asCellD : List DV → Option Int
  | [.v (.int .i64 n)] => some n
  | _ => none
def cellOfD (n : Int) : List DV := [.v (.int .i64 n)]
def vsortE (cut : Bool) (b ver : Nat) (l : List Int) : VEff :=
  match cut with
  | true => ⟨.ref b ver 0 (Lib.compact l).length, [(b, some (.drow 1 ver ((Lib.compact l ++ List.replicate (l.length - (Lib.compact l).length) 0).map cellOfD)))]⟩
  | false => ⟨.d (.v (.tuple #[])), [(b, some (.drow 1 ver ((isort l).map cellOfD)))]⟩
def vsort (cut : Bool) (V : VHeap) (args : List AV) (k : VEff → Tree β) : Tree β :=
  match args with
  | [.ref b ver off len] => match V b with
    | some (.drow s ver' xs) => if s = 1 ∧ ver = ver' then .need (off = 0 ∧ len = xs.length ∧ xs.length < 4611686018427387904) inferInstance (.get (mapO asCellD xs) fun l => k (vsortE cut b ver l)) else .stop
    | _ => .stop
  | _ => .stop
noncomputable def vcell (C : Cfg) (f : FuncId) (args : List AV) (V : VHeap) (k : VEff → Tree β) : Tree β :=
  match args with
  | .ptr b ver i o :: r => match V b, mapO (snapV (fun _ => false) V 4) r with
    | some (.drow s ver' xs), some as => if ver = ver' then
        match shapesOf C.P f with
        | some sh => .get xs[i]? fun cs => .get (dInt .i64 cs o) fun n => .get (cellT C sh f n as) fun z => k ⟨encS sh z.1, [(b, some (.drow s ver (xs.set i (putD cs o [.v (.int .i64 z.2)]))))]⟩
        | none => .stop
      else .stop
    | _, _ => .stop
  | _ => .stop
/-- A block's data, if it is all data. -/
def ownBlk (ver : Nat) : VBlk → Option VBlk
  | .drow s ver' xs => if ver = ver' then some (.drow s 0 xs) else none
  | .cell s ver' r => if ver = ver' ∧ r.all isD = true then some (.cell s 0 r) else none
  | .raw .. => none
  | .mp .. => none
def VBlk.size : VBlk → Nat
  | .drow s _ _ => s
  | .cell s _ _ => s
  | .raw s _ _ => s
  | .mp .. => 0
noncomputable def vown (C : Cfg) (f : FuncId) (args : List AV) (V : VHeap) (k : VEff → Tree β) : Tree β :=
  match ownArg args with
  | some (x, g, b, ver) => match snapV (fun _ => false) V 4 x, (V b) with
    | some (.d x'), some B => match ownBlk ver B, shapesOf C.P f with
      | some B', some sh => .get (ownT C sh f g x' B') fun c => k ⟨encS sh c, [(b, some (.drow B.size (ver + 1) []))]⟩
      | _, _ => .stop
    | _, _ => .stop
  | none => .stop
noncomputable def vlend (C : Cfg) (f : FuncId) (args : List AV) (V : VHeap) (k : VEff → Tree β) : Tree β :=
  match ownArg args with
  | some (x, g, b, ver) => match snapV (fun _ => false) V 4 x, (V b) with
    | some (.d x'), some B => match ownBlk ver B, shapesOf C.P f with
      | some B', some sh => .get (lendT C sh f g x' B') fun c => .need (c.2 = some B'.den) (blkDec _ _) (k ⟨encS sh c.1, [(b, some B)]⟩)
      | _, _ => .stop
    | _, _ => .stop
  | none => .stop
noncomputable def vfresh (C : Cfg) (f : FuncId) (args : List AV) (V : VHeap) (fr : Nat) (k : VEff → Tree β) : Tree β :=
  match mapO (snapV (fun _ => false) V 4) args with
  | some as => match shapesOf C.P f with
    | some sh => .get (freshT C sh f as) fun c => match encS sh c with
      | .tup (.d (.lst s xs) :: rest) => k ⟨.tup (.ref fr 0 0 xs.length :: rest), [(fr, some (.drow s 0 xs))]⟩
      | _ => .stop
    | none => .stop
  | none => .stop
end
noncomputable def vcall (C : Cfg) (inl : VInl) (f : FuncId) (args : List AV) (V : VHeap) (fr : Nat) (ke : VEff → Tree VLeaf) (kf : AV → List Nat → Tree VLeaf) (kr : AV → VHeap → Nat → Tree VLeaf) : Tree VLeaf :=
  match C.mode f with
  | .pure => vpureW C.P (valω C) f args V fun r p => match p with | [] => ke ⟨r, []⟩ | p => kf r p
  | .prim => vpureW C.P C.prim f args V fun r p => match p with | [] => ke ⟨r, []⟩ | p => kf r p
  | .clone t => vclone C.P V fr t args ke
  | .sort c => vsort c V args ke
  | .inl => inl f args V fr kr
  | .cell => vcell C f args V ke
  | .own => vown C f args V ke
  | .lend => vlend C f args V ke
  | .fresh => vfresh C f args V fr ke
noncomputable def voper (C : Cfg) (pt : Bool) (inl : VInl) (F : Fm) (T : Tmps) (V : VHeap) (fr : Nat) (o : Oper) (ke : VEff → Tree VLeaf) (kf : AV → List Nat → Tree VLeaf) (kr : AV → VHeap → Nat → Tree VLeaf) : Tree VLeaf :=
  match o.op with
  | .call c => match c.callee with
    | .value fo => match aeval T fo with
      | .fn f caps => vcall C inl f (typedFor C.P f (c.args.toList.map (aeval T)) ++ caps) V fr ke kf kr
      | .d (.fn f caps) => vcall C inl f (typedFor C.P f (c.args.toList.map (aeval T)) ++ caps.map .d) V fr ke kf kr
      | _ => .stop
    | _ => veff C.P pt F (aeval T) V fr o ke
  | _ => veff C.P pt F (aeval T) V fr o ke
def vwanted (ops : Array Oper) (T : Tmps) (o : Oper) (yes no : Tmps → Tree VLeaf) : Tree VLeaf :=
  match o.guard with
  | none => yes T
  | some (j, want) => match (ops[j]?).bind (·.dst) with
    | some t => match T t with
      | .d (.v (.bool b)) => match want with
        | true => .ask b (yes (tset T t (.d (.v (.bool true))))) (no (tset T t (.d (.v (.bool false)))))
        | false => .ask b (no (tset T t (.d (.v (.bool true))))) (yes (tset T t (.d (.v (.bool false)))))
      | .d (.v (.tuple _)) => no T
      | _ => .stop
    | none => no T
noncomputable def vseq (C : Cfg) (pt : Bool) (inl : VInl) (F : Fm) (ops : Array Oper) : List Oper → Tmps → VHeap → Nat → (Tmps → VHeap → Nat → Tree VLeaf) → Tree VLeaf
  | [], T, V, nx, k => k T V nx
  | o :: r, T, V, nx, k => vwanted ops T o
      (fun T => if isDeep F o then .stop else voper C pt inl F T V nx o
        (fun e => vseq C pt inl F ops r (putT T o.dst e.v) (vwrites V e.wr) (nx + wide) k)
        (fun v p => vseq C pt inl F ops r (putT (frzTV p.contains V T) o.dst v) (frzKV p.contains V) (nx + wide) k)
        (fun v V' nx' => vseq C pt inl F ops r (putT T o.dst v) V' nx' k))
      (fun T => vseq C pt inl F ops r (putT T o.dst undefA) V (nx + wide) k)
noncomputable def vdraw (C : Cfg) (pt : Bool) (F : Fm) (ops : Array Oper) (base : Nat) : List Oper → Nat → Tmps → VHeap → (Tmps → VHeap → List Foot → Tree VLeaf) → Tree VLeaf
  | [], _, T, V, k => k T V []
  | o :: r, i, T, V, k => vwanted ops T o
      (fun T => voper C pt (fun _ _ _ _ _ => .stop) F T (vrestr V (footOf F T o)) (base + i * wide) o
        (fun e => vdraw C pt F ops base r (i + 1) (putT T o.dst e.v) (vwrites V e.wr) fun T' V' l => k T' V' (⟨i, footOf F T o, (e.wr.map (·.1)).filter fun b => b < base + i * wide || base + i * wide + wide ≤ b⟩ :: l))
        (fun v p => if p.all (footOf F T o).contains then vdraw C pt F ops base r (i + 1) (putT T o.dst v) (vwrites V (killedV V p)) (fun T' V' l => k T' V' (⟨i, footOf F T o, p⟩ :: l)) else .stop)
        (fun _ _ _ => .stop))
      (fun T => vdraw C pt F ops base r (i + 1) (putT T o.dst undefA) V k)
noncomputable def vregion (C : Cfg) (pt : Bool) (inl : VInl) (F : Fm) (ops : Array Oper) (draw : Bool) (T : Tmps) (V : VHeap) (nx : Nat) (k : Tmps → VHeap → Nat → Tree VLeaf) : Tree VLeaf :=
  if draw then if isSolo ops then vdraw C pt F ops nx (ops.toList.take (ops.size - 1)) 0 T V fun T' V' l => (if footOk (Region.before ops) nx l then vseq C pt inl F ops (ops.toList.drop (ops.size - 1)) T' V' (nx + ops.size * wide) k else .stop)
    else vdraw C pt F ops nx ops.toList 0 T V fun T' V' l => if footOk (Region.before ops) nx l then k T' V' (nx + ops.size * wide) else .stop
  else vseq C pt inl F ops ops.toList T V nx k
def know (T : Tmps) (c : Operand) (b : Bool) : Tmps := match c with
  | .tmp t => tset T t (.d (.v (.bool b)))
  | _ => T
/-- What calls in the caller's memory do, told beforehand. -/
abbrev SumF := FuncId → List AV → VHeap → Nat → Option (Tree (AV × VHeap × Nat))
structure Summ where
  pt : Bool
  of : SumF
def rangeV (C : Cfg) (T : Tmps) (V : VHeap) (f : Operand) (ps : Array Tmp) (assign body : Code) : Option (Array Oper × Option (List (List DV))) :=
  match quitOf ps assign body with
  | some ops => match mapO (snapV (refsInV V 4 (aeval T f)).contains V 4) [aeval T f] with
    | some as => match fnD as with
      | some (g, caps) => some (ops, gather C g caps)
      | none => none
    | none => none
  | none => none
noncomputable def vrun (C : Cfg) (S : Summ) : Nat → Fm → List AItem → Tmps → VHeap → Nat → Tree VLeaf
  | 0, _, _, _, _, _ => .stop
  | _ + 1, _, [], T, V, nx => .done (.fin T V nx)
  | n + 1, F, .inBlock _ :: k, T, V, nx => vrun C S n F k T V nx
  | n + 1, F, .inScope _ :: k, T, V, nx => vrun C S n F k T V nx
  | _ + 1, _, .inLoop b nx0 :: k, T, V, nx => .done (.round b nx0 k T V nx)
  | n + 1, F, .code c :: k, T, V, nx =>
    match c with
    | .skip => vrun C S n F k T V nx
    | .label _ => vrun C S n F k T V nx
    | .ret => .done (.fin T V nx)
    | .seq a b => vrun C S n F (.code a :: .code b :: k) T V nx
    | .block id b => vrun C S n F (.code b :: .inBlock id :: k) T V nx
    | .loop b => .done (.enter b k T V nx)
    | .scope b => vrun C S n F (.code b :: .inScope b :: k) T V nx
    | .exit id => match exitToA id k with
      | some k' => vrun C S n F k' T V nx
      | none => .stop
    | .cond c a b => match aeval T c with
      | .d (.v (.bool t)) => .ask t (vrun C S n F (.code a :: k) (know T c true) V nx) (vrun C S n F (.code b :: k) (know T c false) V nx)
      | _ => .stop
    | .region id ops draw => if F.nm.contains (900000 + id) then .done (.mid (.code (.region id ops draw) :: k) T V nx) else vregion C S.pt (fun f args V nx kr => match S.of f args V nx with
      | some t => t.bind fun x => kr x.1 x.2.1 x.2.2
      | none => match C.P.funcs[f]? with
        | some fn => match fn.body with
          | some c => if args.length ≤ fn.ntmps then (vrun C S n ⟨nx, nx + fn.ntmps, C.trim f, C.names f, C.virt f⟩ [.code c] (argsT args) V (nx + fn.ntmps)).bind fun leaf => (match leaf with
            | .fin T' V' nx' => (match resultsA C.P fn T' (den V') with | some v => kr v V' nx' | none => .stop)
            | _ => .stop) else .stop
          | none => .stop
        | none => .stop) F ops draw T V nx fun T' V' nx' => vrun C S n F k T' V' nx'
    | .rangeFunc f ps assign body => match rangeV C T V f ps assign body with
      | some (ops, o) => .get o fun xs => .ask xs.isEmpty (vrun C S n F k T V nx)
          (vregion C S.pt (fun _ _ _ _ _ => .stop) (quitF F nx) ops false (deadT T ps.toList) V (nx + (F.lo - F.sb)) fun _ V' nx' => .done (.fin T V' nx'))
      | none => .stop
    | _ => .stop
end Go.AI
