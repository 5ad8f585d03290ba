/-
  Own work. What slices.Collect gathers of tree's iterator: the keys below a place.
-/
import Derived.Test.YthagcidcihgboaaGreatAiDef
namespace Go.AI
open Go
structure TRow where
  obj : Int
  slot : Int
  depth : Int
  mark : Bool
  deriving DecidableEq
def TRow.cells (r : TRow) : List Value := [.int .i64 r.obj, .int .i64 r.slot, .int .i64 r.depth, .bool r.mark]
def TRow.key (r : TRow) : Int × Int := (r.obj, r.slot)
def TRow.row (r : TRow) : List DV := [.v (.int .i64 r.obj), .v (.int .i64 r.slot), .v (.int .i64 r.depth), .v (.bool r.mark)]
def TRow.krow (r : TRow) : List DV := [.v (.int .i64 r.obj), .v (.int .i64 r.slot)]
def rowOf : List DV → Option TRow
  | [.v (.int .i64 o), .v (.int .i64 s), .v (.int .i64 d), .v (.bool m)] => some ⟨o, s, d, m⟩
  | _ => none
/-- Those below a place. -/
def underOf (rows : List TRow) (pl : Nat) : List TRow := match rows[pl]? with
  | some r0 => (rows.drop (pl + 1)).takeWhile fun r => decide (r0.depth < r.depth)
  | none => []
/-- The keys below a place of a list, given the iterator's function and its captured boxes. -/
def belowOf (gid g : Nat) (t : List (List DV)) (pl : Int) : Option (List (List DV)) :=
  if g = gid ∧ 0 ≤ pl ∧ pl < t.length ∧ t.length < 1099511627776 then (match mapO rowOf t with
    | some rows => some ((underOf rows pl.toNat).map TRow.krow)
    | none => none) else none
def collOf (gid : Nat) : List AV → Option AV
  | [.d (.fn g [.ptr [.lst 4 t] 0, .ptr [.v (.int .i64 pl)] 0])] => match belowOf gid g t pl with
    | some ks => some (.d (.lst 2 ks))
    | none => none
  | _ => none
end Go.AI
