/-
  Own work. tree's iterator over those below a place: a round's state.
-/
import Derived.RangeFuncNested
import Derived.RangeFuncBound
import Derived.RangeFuncCalls
import Derived.RangeFuncLeaves
import Derived.Shelf.Abstract
import Derived.Shelf.RegionOpen
import Derived.WalkKit
import Derived.OwnWalkIn
import Derived.TacticsInMore
import Derived.LoopNIn
import Derived.LoopIn
import Derived.Maps.AppendAt
import Derived.Test.YtjmpflgdmnoinaaCollDef
import Derived.Test.YtjmpflgdmnoinaaProg
namespace Go.Proofs
open Go.RowKit Go.Shelf
set_option linter.unusedVariables false
set_option linter.unusedSimpArgs false
attribute [local go_sem] Oper.semAt_some

namespace Below1
/-- A round's frame, ahead of its test. -/
structure Env where
  l : Nat
  Bt : Nat
  Ba : Nat
  ot : Nat
  oa : Nat
  B5 : Nat
  b : Nat
  off : Nat
  len : Nat
  cap : Nat
  pl : Nat
  o1 : Int
  s1 : Int
  d1 : Int
  d0 : Int
  c6 : Value
  c7 : Value
  c8 : Value
  c9 : Value
  c10 : Value
  c11 : Value
  c12 : Value
  c13 : Value
  c14 : Value
  u0 : Value
  u1 : Value
  u2 : Value
  u3 : Value
  u4 : Value
  u5 : Value
  u6 : Value
  u7 : Value
  u8 : Value
  u9 : Value
  u10 : Value
  u11 : Value
  u12 : Value
  u13 : Value
  u14 : Value
  u15 : Value
def Fr (e : Env) (x0 x1 x2 x3 x4 x5 x6 x7 x8 x9 x10 x11 x12 x13 x14 : Value) : Act := { tmps := #[.func (.yield e.l) #[] #[], .pointer (some ⟨e.Bt, e.ot, none⟩), .pointer (some ⟨e.Ba, e.oa, none⟩), undef, undef, .pointer (some ⟨e.B5, 0, none⟩), e.c6, e.c7, e.c8, e.c9, e.c10, e.c11, e.c12, e.c13, e.c14, x0, x1, x2, x3, x4, x5, x6, x7, x8, x9, x10, x11, x12, x13, x14, e.u15], defers := [] }
structure Facts (e : Env) (W : World) : Prop where
  c0 : W.cell? ⟨e.B5, 0, none⟩ = some (.int .i64 e.o1)
  c1 : W.cell? ⟨e.B5, 1, none⟩ = some (.int .i64 e.s1)
  c2 : W.cell? ⟨e.B5, 2, none⟩ = some (.int .i64 e.d1)
  bt : W.cell? ⟨e.Bt, e.ot, none⟩ = some (.slice (some ⟨e.b, e.off, none⟩) e.len e.cap)
  ba : W.cell? ⟨e.Ba, e.oa, none⟩ = some (.int .i64 (e.pl : Int))
  d : W.cell? ⟨e.b, e.off + e.pl * 4 + 2, none⟩ = some (.int .i64 e.d0)
  lt : e.pl < e.len
  big : e.len < 1099511627776
end Below1
end Go.Proofs
