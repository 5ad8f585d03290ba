/-
  Own work. The interpreter's operations, each a definition of its own (so that the kernel lays out no more than the one at hand).
-/
import Derived.Test.YthagcidcihgboaaGreatAiLim
namespace Go.AI
open Go
set_option linter.unusedVariables false
set_option linter.unusedSimpArgs false
def ef_move (ρ : Operand → AV) (x : Operand) : Option Eff := some ⟨ρ x, []⟩
def ef_assign (P : Program) (F : Fm) (ρ : Operand → AV) (H : Heap) (o : Oper) (x : Operand) : Option Eff := assignA P F H o.type o.dst (ρ x)
def ef_pick (ρ : Operand → AV) (c : Operand) (a : Operand) (b : Operand) : Option Eff := match ρ c with
  | .d (.v (.bool t)) => some ⟨if t then ρ a else ρ b, []⟩
  | _ => none
def ef_alloc (P : Program) (F : Fm) (fr : Nat) (t : TypeId) : Option Eff := match tzero P t with
  | some z => mkRow fr (nzL F.vt z)
  | none => none
def ef_box (P : Program) (F : Fm) (ρ : Operand → AV) (fr : Nat) (t : TypeId) (x : Operand) : Option Eff := if okCells (ρ x) then mkRow fr (nzA F.vt (tyNil P t (ρ x))).cells else none
def ef_build (P : Program) (ρ : Operand → AV) (t : TypeId) (ps : Array (Nat × Operand)) : Option Eff := match buildA P t (ps.toList.map fun q => (q.1, tyFld P t q.1 (ρ q.2))) with
  | some v => some ⟨v, []⟩
  | none => none
def ef_buildSlice (P : Program) (F : Fm) (ρ : Operand → AV) (H : Heap) (fr : Nat) (t : TypeId) (n : Nat) (ps : Array (Nat × Operand)) : Option Eff := match tsl P t with
  | some (_, s, _) => match rowsAre s 0 (ps.toList.map fun q => (q.1, tyFld P t q.1 (ρ q.2))) with
    | some rows => if rows.length = n ∧ n * s ≤ 2 ^ 24 then (
        if F.tr && !keepsT F.nm t then some ⟨.ref fr 0 0 n, (fr, some (.row s 0 (rows.map fun r => r.map fun v => deNil (frzV (refsOf rows).contains H 4 v)))) :: killed H (refsOf rows)⟩
        else some ⟨.ref fr 0 0 n, [(fr, some (.row s 0 rows))]⟩) else none
    | none => none
  | none => none
def ef_load (P : Program) (ρ : Operand → AV) (H : Heap) (t : TypeId) (a : Operand) : Option Eff := match tsz P t with
  | none => none
  | some n => match ρ a with
    | .ptr b ver i o' => match H b with
      | some (.row _ ver' data) => if ver = ver' then (match data[i]? with
          | some r => (match getCells r o' n with
            | some cs => (match partA (tagg P t) cs with | some v => some ⟨v, []⟩ | none => none)
            | none => none)
          | none => none) else none
      | _ => none
    | .d (.ptr x o') => (match getCells (x.map .d) o' n with
            | some cs => (match partA (tagg P t) cs with | some v => some ⟨v, []⟩ | none => none)
            | none => none)
    | _ => none
def ef_store (P : Program) (F : Fm) (ρ : Operand → AV) (H : Heap) (fr : Nat) (t : TypeId) (a : Operand) (x : Operand) : Option Eff := match tsz P t, ρ a with
  | some n, .ptr b ver i o' => match H b with
    | some (.row s ver' data) => if ver = ver' ∧ okCells (ρ x) = true ∧ (ρ x).cells.length = n then (match data[i]? with
        | some r => if o' + n ≤ r.length ∧ (virt fr (nzA F.vt (tyNil P t (ρ x))).cells).2.length < 15 then
            some ⟨undefA, (b, some (.row s ver (data.set i (putCells r o' (virt fr (nzA F.vt (tyNil P t (ρ x))).cells).1)))) :: (virt fr (nzA F.vt (tyNil P t (ρ x))).cells).2⟩ else none
        | none => none) else none
    | _ => none
  | _, _ => none
def ef_nilCheck (ρ : Operand → AV) (x : Operand) : Option Eff := match ρ x with
  | .ptr b ver i o' => some ⟨.ptr b ver i o', []⟩
  | .d (.ptr y o') => some ⟨.d (.ptr y o'), []⟩
  | .fn f l => some ⟨.fn f l, []⟩
  | .d (.fn f l) => some ⟨.d (.fn f l), []⟩
  | _ => none
def ef_binOp (P : Program) (ρ : Operand → AV) (op : BinOp) (t : TypeId) (x : Operand) (y : Operand) : Option Eff := match binA P op t (ρ x) (ρ y) with | some v => some ⟨v, []⟩ | none => none
def ef_unOp (ρ : Operand → AV) (op : UnOp) (x : Operand) : Option Eff := match op, ρ x with
  | .not, .d (.v (.bool b)) => some ⟨.d (.v (.bool (!b))), []⟩
  | .neg, .d (.v (.int k n)) => some ⟨.d (.v (.int k (k.wrap (0 - n)))), []⟩
  | _, _ => none
def ef_convert (P : Program) (ρ : Operand → AV) (s : TypeId) (t : TypeId) (x : Operand) : Option Eff := match P.underlying s, P.underlying t, ρ x with
  | some (.int _), some (.int k), .d (.v (.int _ n)) => some ⟨.d (.v (.int k (k.wrap n))), []⟩
  | _, _, _ => none
def ef_makeFunc (ρ : Operand → AV) (f : FuncId) (first caps : Array Operand) : Option Eff := if f < bnd then (if first.isEmpty then some ⟨.fn f (caps.toList.map ρ), []⟩ else if caps.isEmpty then some ⟨.fn (bnd + f) (first.toList.map ρ), []⟩ else none) else none
def ef_makeSlice (P : Program) (F : Fm) (ρ : Operand → AV) (fr : Nat) (t : TypeId) (l : Operand) (c : Operand) : Option Eff := match tsl P t with
  | some (e, s, by0) => match tzero P e, asInt (ρ l), asInt (ρ c) with
    | some z, some n, some m => if n = m ∧ 0 ≤ n ∧ n * by0 ≤ room ∧ n * s ≤ room ∧ z.length = s then some ⟨.ref fr 0 0 n.toNat, [(fr, some (.row s 0 (List.replicate n.toNat (if F.tr then z.map deNil else z))))]⟩ else none
    | _, _, _ => none
  | none => none
def ef_slice (P : Program) (ρ : Operand → AV) (H : Heap) (t : TypeId) (x : Operand) (lo : Option Operand) (hi : Option Operand) (mx : Option Operand) : Option Eff := match sliceA P H t (ρ x) (lo.map ρ) (hi.map ρ) (mx.map ρ) with | some v => some ⟨v, []⟩ | none => none
def ef_fieldAddr (P : Program) (ρ : Operand → AV) (t : TypeId) (x : Operand) (k : Nat) : Option Eff := match tfld P t k with
  | some (off, n, _) => if n = 0 then none else match ρ x with
    | .ptr b ver i o' => some ⟨.ptr b ver i (o' + off), []⟩
    | .d (.ptr y o') => some ⟨.d (.ptr y (o' + off)), []⟩
    | _ => none
  | none => none
def ef_field (P : Program) (ρ : Operand → AV) (t : TypeId) (x : Operand) (k : Nat) : Option Eff := match tfld P t k, ρ x with
  | some (off, n, ag), .agg cs => (match getCells cs off n with
    | some l => (match partA ag l with | some v => some ⟨v, []⟩ | none => none)
    | none => none)
  | _, _ => none
def ef_index (P : Program) (ρ : Operand → AV) (t : TypeId) (x : Operand) (ix : Operand) : Option Eff := match tarrE P t, asInt (ρ ix), ρ x with
  | none, some i, .d (.v (.string s)) => (match P.underlying t with
    | some .string => if 0 ≤ i then (match s[i.toNat]? with | some b => some ⟨.d (.v (.int .u8 b.toNat)), []⟩ | none => none) else none
    | _ => none)
  | some (n, s, ag), some i, .agg cs => if 0 ≤ i ∧ i < n then (match getCells cs (i.toNat * s) s with
    | some l => (match partA ag l with | some v => some ⟨v, []⟩ | none => none)
    | none => none) else none
  | _, _, _ => none
def ef_indexAddr (P : Program) (ρ : Operand → AV) (H : Heap) (t : TypeId) (x : Operand) (ix : Operand) : Option Eff := match asInt (ρ ix) with
  | none => none
  | some i => match P.underlying t with
    | some (.slice _) => match tsl P t with
      | some (_, s0, _) => match ρ x with
        | .d (.lst s xs) => if s = s0 ∧ 0 ≤ i then (match xs[i.toNat]? with | some r => some ⟨.d (.ptr r 0), []⟩ | none => none) else none
        | .ex s xs => if s = s0 ∧ 0 ≤ i then (match xs[i.toNat]? with | some r => some ⟨.d (.ptr r 0), []⟩ | none => none) else none
        | .ref b ver off len => match H b with
          | some (.row s ver' _) => if s = s0 ∧ ver = ver' ∧ 0 ≤ i ∧ i < len then some ⟨.ptr b ver (off + i.toNat) 0, []⟩ else none
          | _ => none
        | _ => none
      | none => none
    | _ => match tarr P t, ρ x with
      | some (n, s), .ptr b ver j o' => if 0 ≤ i ∧ i < n then some ⟨.ptr b ver j (o' + i.toNat * s), []⟩ else none
      | _, _ => none
def ef_makeMap (P : Program) (ρ : Operand → AV) (fr : Nat) (t : TypeId) (r : Option Operand) : Option Eff := match tmap P t with
  | some _ => (match r with
    | none => some ⟨.map fr, [(fr, some (.mp []))]⟩
    | some h => (match asInt (ρ h) with | some _ => some ⟨.map fr, [(fr, some (.mp []))]⟩ | none => none))
  | none => none
def ef_lookup (P : Program) (ρ : Operand → AV) (H : Heap) (t : TypeId) (x : Operand) (k : Operand) (ok : Bool) : Option Eff := match tmap P t, ρ x with
  | some (ks, z), .map b => (match H b with
    | some (.mp es) => if keyOk ks (ρ k) = true then (match findA ks (ρ k) es with
      | some r => some ⟨if ok then .tup [r.getD (.d (.v z)), .d (.v (.bool r.isSome))] else r.getD (.d (.v z)), []⟩
      | none => none) else none
    | _ => none)
  | _, _ => none
def ef_mapUpdate (P : Program) (ρ : Operand → AV) (H : Heap) (t : TypeId) (m : Operand) (k : Operand) (x : Operand) : Option Eff := match tmap P t, ρ m with
  | some (ks, _), .map b => (match H b with
    | some (.mp es) => if keyOk ks (ρ k) = true then (match putA ks (ρ k) (ρ x) es with
      | some l => some ⟨undefA, [(b, some (.mp l))]⟩
      | none => none) else none
    | _ => none)
  | _, _ => none
def ef_extract (ρ : Operand → AV) (x : Operand) (i : Nat) : Option Eff := match ρ x with
  | .tup vs => (match vs[i]? with | some v => some ⟨v, []⟩ | none => none)
  | _ => none
def ef_call (P : Program) (ρ : Operand → AV) (H : Heap) (fr : Nat) (c : Go.Call) : Option Eff := match c.callee with
  | .builtin b => builtinA P H fr b c.argTypes.toList (c.args.toList.map ρ)
  | _ => none
def effF (P : Program) (F : Fm) (ρ : Operand → AV) (H : Heap) (fr : Nat) (o : Oper) : Option Eff :=
  match o.op with
  | .move x => ef_move ρ x
  | .assign x => ef_assign P F ρ H o x
  | .pick c a b => ef_pick ρ c a b
  | .alloc t => ef_alloc P F fr t
  | .box t x => ef_box P F ρ fr t x
  | .build t ps => ef_build P ρ t ps
  | .buildSlice t n ps => ef_buildSlice P F ρ H fr t n ps
  | .load t a => ef_load P ρ H t a
  | .store t a x => ef_store P F ρ H fr t a x
  | .nilCheck x => ef_nilCheck ρ x
  | .binOp op t x y _ => ef_binOp P ρ op t x y
  | .unOp op _ x => ef_unOp ρ op x
  | .convert s t x => ef_convert P ρ s t x
  | .makeFunc (.func f) first caps => ef_makeFunc ρ f first caps
  | .makeSlice t l c => ef_makeSlice P F ρ fr t l c
  | .slice t x lo hi mx => ef_slice P ρ H t x lo hi mx
  | .fieldAddr t x k => ef_fieldAddr P ρ t x k
  | .field t x k => ef_field P ρ t x k
  | .index t x ix => ef_index P ρ t x ix
  | .indexAddr t x ix => ef_indexAddr P ρ H t x ix
  | .makeMap t r => ef_makeMap P ρ fr t r
  | .lookup t x k ok => ef_lookup P ρ H t x k ok
  | .mapUpdate t m k x => ef_mapUpdate P ρ H t m k x
  | .extract x i => ef_extract ρ x i
  | .call c => ef_call P ρ H fr c
  | _ => none
theorem effF_eq (P : Program) (F : Fm) (ρ : Operand → AV) (H : Heap) (fr : Nat) (o : Oper) : effF P F ρ H fr o = eff P F ρ H fr o := by
  obtain ⟨dst, op, type, pos, after, guard⟩ := o
  cases op with
  | makeFunc f first caps => cases f <;> rfl
  | _ => rfl
end Go.AI