/-
  Own work, printed by gen_iter.py. The drawn region of the round of tree's iterator: in every order it does the same.
-/
import Derived.RangeFuncNested
import Derived.RangeFuncBound
import Derived.RangeFuncCalls
import Derived.RangeFuncLeaves
import Derived.Shelf.Abstract
import Derived.Shelf.RegionOpen
import Derived.WalkKit
import Derived.OwnWalkIn
import Derived.TacticsInMore
import Derived.LoopNIn
import Derived.LoopIn
import Derived.Maps.AppendAt
import Derived.Test.YthagcidcihgboaaGreatCollDef
import Derived.Test.YthagcidcihgboaaGreatProg
namespace Go.Proofs
open Go.RowKit Go.Shelf
set_option linter.unusedVariables false
set_option linter.unusedSimpArgs false
attribute [local go_sem] Oper.semAt_some

namespace Below1
/-- A round's frame, ahead of its test. -/
structure Env where
  l : Nat
  Bt : Nat
  Ba : Nat
  ot : Nat
  oa : Nat
  B5 : Nat
  b : Nat
  off : Nat
  len : Nat
  cap : Nat
  pl : Nat
  o1 : Int
  s1 : Int
  d1 : Int
  d0 : Int
  c6 : Value
  c7 : Value
  c8 : Value
  c9 : Value
  c10 : Value
  c11 : Value
  c12 : Value
  c13 : Value
  c14 : Value
  u0 : Value
  u1 : Value
  u2 : Value
  u3 : Value
  u4 : Value
  u5 : Value
  u6 : Value
  u7 : Value
  u8 : Value
  u9 : Value
  u10 : Value
  u11 : Value
  u12 : Value
  u13 : Value
  u14 : Value
  u15 : Value
def Fr (e : Env) (x0 x1 x2 x3 x4 x5 x6 x7 x8 x9 x10 x11 x12 x13 x14 : Value) : Act := { tmps := #[.func (.yield e.l) #[] #[], .pointer (some ⟨e.Bt, e.ot, none⟩), .pointer (some ⟨e.Ba, e.oa, none⟩), undef, undef, .pointer (some ⟨e.B5, 0, none⟩), e.c6, e.c7, e.c8, e.c9, e.c10, e.c11, e.c12, e.c13, e.c14, x0, x1, x2, x3, x4, x5, x6, x7, x8, x9, x10, x11, x12, x13, x14, e.u15], defers := [] }
structure Facts (e : Env) (W : World) : Prop where
  c0 : W.cell? ⟨e.B5, 0, none⟩ = some (.int .i64 e.o1)
  c1 : W.cell? ⟨e.B5, 1, none⟩ = some (.int .i64 e.s1)
  c2 : W.cell? ⟨e.B5, 2, none⟩ = some (.int .i64 e.d1)
  bt : W.cell? ⟨e.Bt, e.ot, none⟩ = some (.slice (some ⟨e.b, e.off, none⟩) e.len e.cap)
  ba : W.cell? ⟨e.Ba, e.oa, none⟩ = some (.int .i64 (e.pl : Int))
  d : W.cell? ⟨e.b, e.off + e.pl * 4 + 2, none⟩ = some (.int .i64 e.d0)
  lt : e.pl < e.len
  big : e.len < 1099511627776
end Below1
end Go.Proofs
namespace Go.Proofs
open Go.RowKit Go.Shelf
set_option linter.unusedVariables false
set_option linter.unusedSimpArgs false
namespace Below1
/-- A code's part. -/
def part : List Nat → Code → Code
  | [], c => c
  | 0 :: p, .seq a _ => part p a
  | _ :: p, .seq _ b => part p b
  | _ :: p, .block _ c => part p c
  | _ :: p, .loop c => part p c
  | _, c => c
def opsOf : Code → Array Oper
  | .region _ r _ => r
  | _ => #[]
noncomputable def whole : Code := match Tryz.f175.body with
  | some c => c
  | none => .skip
noncomputable def ops : Array Oper := opsOf (part [1, 0, 0, 1, 1, 0, 0, 1, 0] whole)

theorem opA0 {e : Env} {x0 x1 x2 x3 x4 x5 x6 x7 x8 x9 x10 x11 x12 x13 x14 : Value} {W : World} {n : Nat} {Q : Exit → Act → World → Prop} {K : Act → World → Prop} (hk : K (Fr e (.pointer (some ⟨e.B5, 2, none⟩)) x1 x2 x3 x4 x5 x6 x7 x8 x9 x10 x11 x12 x13 x14) W) : wpOpIn Fence.wide n Tryz.prog ops Q 0 K (Fr e x0 x1 x2 x3 x4 x5 x6 x7 x8 x9 x10 x11 x12 x13 x14) W := by
  refine wpOpIn_step (o := ops[0]) rfl (fun K' hK => ?_)
  simp only [ops, opsOf, part, whole, Tryz.f175, Fr]
  go_simp
  exact hK _ _ hk
theorem opA1 {e : Env} {x1 x2 x3 x4 x5 x6 x7 x8 x9 x10 x11 x12 x13 x14 : Value} {W : World} {n : Nat} {Q : Exit → Act → World → Prop} {K : Act → World → Prop} (h : Facts e W) (hk : K (Fr e (.pointer (some ⟨e.B5, 2, none⟩)) (.int .i64 e.d1) x2 x3 x4 x5 x6 x7 x8 x9 x10 x11 x12 x13 x14) W) : wpOpIn Fence.wide n Tryz.prog ops Q 1 K (Fr e (.pointer (some ⟨e.B5, 2, none⟩)) x1 x2 x3 x4 x5 x6 x7 x8 x9 x10 x11 x12 x13 x14) W := by
  refine wpOpIn_step (o := ops[1]) rfl (fun K' hK => ?_)
  try obtain ⟨h1, h2, h3, h4, h5, h6, h7, h8⟩ := h
  simp only [ops, opsOf, part, whole, Tryz.f175, Fr]
  go_simp
  exact hK _ _ hk
theorem opA2 {e : Env} {x0 x1 x2 x3 x4 x5 x6 x7 x8 x9 x10 x11 x12 x13 x14 : Value} {W : World} {n : Nat} {Q : Exit → Act → World → Prop} {K : Act → World → Prop} (h : Facts e W) (hk : K (Fr e x0 x1 (.slice (some ⟨e.b, e.off, none⟩) e.len e.cap) x3 x4 x5 x6 x7 x8 x9 x10 x11 x12 x13 x14) W) : wpOpIn Fence.wide n Tryz.prog ops Q 2 K (Fr e x0 x1 x2 x3 x4 x5 x6 x7 x8 x9 x10 x11 x12 x13 x14) W := by
  refine wpOpIn_step (o := ops[2]) rfl (fun K' hK => ?_)
  try obtain ⟨h1, h2, h3, h4, h5, h6, h7, h8⟩ := h
  simp only [ops, opsOf, part, whole, Tryz.f175, Fr]
  go_simp
  exact hK _ _ hk
theorem opA3 {e : Env} {x0 x1 x2 x3 x4 x5 x6 x7 x8 x9 x10 x11 x12 x13 x14 : Value} {W : World} {n : Nat} {Q : Exit → Act → World → Prop} {K : Act → World → Prop} (h : Facts e W) (hk : K (Fr e x0 x1 x2 (.int .i64 (e.pl : Int)) x4 x5 x6 x7 x8 x9 x10 x11 x12 x13 x14) W) : wpOpIn Fence.wide n Tryz.prog ops Q 3 K (Fr e x0 x1 x2 x3 x4 x5 x6 x7 x8 x9 x10 x11 x12 x13 x14) W := by
  refine wpOpIn_step (o := ops[3]) rfl (fun K' hK => ?_)
  try obtain ⟨h1, h2, h3, h4, h5, h6, h7, h8⟩ := h
  simp only [ops, opsOf, part, whole, Tryz.f175, Fr]
  go_simp
  exact hK _ _ hk
theorem opA4 {e : Env} {x0 x1 x4 x5 x6 x7 x8 x9 x10 x11 x12 x13 x14 : Value} {W : World} {n : Nat} {Q : Exit → Act → World → Prop} {K : Act → World → Prop} (h : Facts e W) (hk : K (Fr e x0 x1 (.slice (some ⟨e.b, e.off, none⟩) e.len e.cap) (.int .i64 (e.pl : Int)) (.pointer (some ⟨e.b, e.off + e.pl * 4, none⟩)) x5 x6 x7 x8 x9 x10 x11 x12 x13 x14) W) : wpOpIn Fence.wide n Tryz.prog ops Q 4 K (Fr e x0 x1 (.slice (some ⟨e.b, e.off, none⟩) e.len e.cap) (.int .i64 (e.pl : Int)) x4 x5 x6 x7 x8 x9 x10 x11 x12 x13 x14) W := by
  refine wpOpIn_step (o := ops[4]) rfl (fun K' hK => ?_)
  try obtain ⟨h1, h2, h3, h4, h5, h6, h7, h8⟩ := h
  simp only [ops, opsOf, part, whole, Tryz.f175, Fr]
  go_simp
  exact hK _ _ hk
theorem opA5 {e : Env} {x0 x1 x2 x3 x5 x6 x7 x8 x9 x10 x11 x12 x13 x14 : Value} {W : World} {n : Nat} {Q : Exit → Act → World → Prop} {K : Act → World → Prop} (hk : K (Fr e x0 x1 x2 x3 (.pointer (some ⟨e.b, e.off + e.pl * 4, none⟩)) (.pointer (some ⟨e.b, e.off + e.pl * 4 + 2, none⟩)) x6 x7 x8 x9 x10 x11 x12 x13 x14) W) : wpOpIn Fence.wide n Tryz.prog ops Q 5 K (Fr e x0 x1 x2 x3 (.pointer (some ⟨e.b, e.off + e.pl * 4, none⟩)) x5 x6 x7 x8 x9 x10 x11 x12 x13 x14) W := by
  refine wpOpIn_step (o := ops[5]) rfl (fun K' hK => ?_)
  simp only [ops, opsOf, part, whole, Tryz.f175, Fr]
  go_simp
  exact hK _ _ hk
theorem opA6 {e : Env} {x0 x1 x2 x3 x4 x6 x7 x8 x9 x10 x11 x12 x13 x14 : Value} {W : World} {n : Nat} {Q : Exit → Act → World → Prop} {K : Act → World → Prop} (h : Facts e W) (hk : K (Fr e x0 x1 x2 x3 x4 (.pointer (some ⟨e.b, e.off + e.pl * 4 + 2, none⟩)) (.int .i64 e.d0) x7 x8 x9 x10 x11 x12 x13 x14) W) : wpOpIn Fence.wide n Tryz.prog ops Q 6 K (Fr e x0 x1 x2 x3 x4 (.pointer (some ⟨e.b, e.off + e.pl * 4 + 2, none⟩)) x6 x7 x8 x9 x10 x11 x12 x13 x14) W := by
  refine wpOpIn_step (o := ops[6]) rfl (fun K' hK => ?_)
  try obtain ⟨h1, h2, h3, h4, h5, h6, h7, h8⟩ := h
  simp only [ops, opsOf, part, whole, Tryz.f175, Fr]
  go_simp
  exact hK _ _ hk
theorem opA7 {e : Env} {x0 x2 x3 x4 x5 x7 x8 x9 x10 x11 x12 x13 x14 : Value} {W : World} {n : Nat} {Q : Exit → Act → World → Prop} {K : Act → World → Prop} (hd : decide (e.d1 ≤ e.d0) = true) (hk : K (Fr e x0 (.int .i64 e.d1) x2 x3 x4 x5 (.int .i64 e.d0) (.bool true) x8 x9 x10 x11 x12 x13 x14) W) : wpOpIn Fence.wide n Tryz.prog ops Q 7 K (Fr e x0 (.int .i64 e.d1) x2 x3 x4 x5 (.int .i64 e.d0) x7 x8 x9 x10 x11 x12 x13 x14) W := by
  refine wpOpIn_step (o := ops[7]) rfl (fun K' hK => ?_)
  simp only [ops, opsOf, part, whole, Tryz.f175, Fr]
  go_simp
  exact hK _ _ hk
theorem opA8 {e : Env} {x0 x1 x2 x3 x4 x5 x6 x8 x9 x10 x11 x12 x13 x14 : Value} {W : World} {n : Nat} {Q : Exit → Act → World → Prop} {K : Act → World → Prop} (hk : K (Fr e x0 x1 x2 x3 x4 x5 x6 (.bool true) (.bool true) x9 x10 x11 x12 x13 x14) W) : wpOpIn Fence.wide n Tryz.prog ops Q 8 K (Fr e x0 x1 x2 x3 x4 x5 x6 (.bool true) x8 x9 x10 x11 x12 x13 x14) W := by
  refine wpOpIn_step (o := ops[8]) rfl (fun K' hK => ?_)
  simp only [ops, opsOf, part, whole, Tryz.f175, Fr]
  go_simp
  exact hK _ _ hk
theorem opA9 {e : Env} {x0 x1 x2 x3 x4 x5 x6 x7 x9 x10 x11 x12 x13 x14 : Value} {W : World} {n : Nat} {Q : Exit → Act → World → Prop} {K : Act → World → Prop} (hk : K (Fr e x0 x1 x2 x3 x4 x5 x6 x7 (.bool true) (undef) x10 x11 x12 x13 x14) W) : wpOpIn Fence.wide n Tryz.prog ops Q 9 K (Fr e x0 x1 x2 x3 x4 x5 x6 x7 (.bool true) x9 x10 x11 x12 x13 x14) W := by
  refine wpOpIn_step (o := ops[9]) rfl (fun K' hK => ?_)
  simp only [ops, opsOf, part, whole, Tryz.f175, Fr]
  go_simp
  exact hK _ _ hk
theorem opA10 {e : Env} {x0 x1 x2 x3 x4 x5 x6 x7 x9 x10 x11 x12 x13 x14 : Value} {W : World} {n : Nat} {Q : Exit → Act → World → Prop} {K : Act → World → Prop} (hk : K (Fr e x0 x1 x2 x3 x4 x5 x6 x7 (.bool true) x9 (undef) x11 x12 x13 x14) W) : wpOpIn Fence.wide n Tryz.prog ops Q 10 K (Fr e x0 x1 x2 x3 x4 x5 x6 x7 (.bool true) x9 x10 x11 x12 x13 x14) W := by
  refine wpOpIn_step (o := ops[10]) rfl (fun K' hK => ?_)
  simp only [ops, opsOf, part, whole, Tryz.f175, Fr]
  go_simp
  exact hK _ _ hk
theorem opA11 {e : Env} {x0 x1 x2 x3 x4 x5 x6 x7 x9 x10 x11 x12 x13 x14 : Value} {W : World} {n : Nat} {Q : Exit → Act → World → Prop} {K : Act → World → Prop} (hk : K (Fr e x0 x1 x2 x3 x4 x5 x6 x7 (.bool true) x9 x10 (undef) x12 x13 x14) W) : wpOpIn Fence.wide n Tryz.prog ops Q 11 K (Fr e x0 x1 x2 x3 x4 x5 x6 x7 (.bool true) x9 x10 x11 x12 x13 x14) W := by
  refine wpOpIn_step (o := ops[11]) rfl (fun K' hK => ?_)
  simp only [ops, opsOf, part, whole, Tryz.f175, Fr]
  go_simp
  exact hK _ _ hk
theorem opA12 {e : Env} {x0 x1 x2 x3 x4 x5 x6 x7 x9 x10 x11 x12 x13 x14 : Value} {W : World} {n : Nat} {Q : Exit → Act → World → Prop} {K : Act → World → Prop} (hk : K (Fr e x0 x1 x2 x3 x4 x5 x6 x7 (.bool true) x9 x10 x11 (undef) x13 x14) W) : wpOpIn Fence.wide n Tryz.prog ops Q 12 K (Fr e x0 x1 x2 x3 x4 x5 x6 x7 (.bool true) x9 x10 x11 x12 x13 x14) W := by
  refine wpOpIn_step (o := ops[12]) rfl (fun K' hK => ?_)
  simp only [ops, opsOf, part, whole, Tryz.f175, Fr]
  go_simp
  exact ⟨fun _ _ => trivial, hK _ _ hk⟩
theorem opA13 {e : Env} {x0 x1 x2 x3 x4 x5 x6 x7 x9 x10 x11 x12 x13 x14 : Value} {W : World} {n : Nat} {Q : Exit → Act → World → Prop} {K : Act → World → Prop} (hk : K (Fr e x0 x1 x2 x3 x4 x5 x6 x7 (.bool true) x9 x10 x11 x12 (undef) x14) W) : wpOpIn Fence.wide n Tryz.prog ops Q 13 K (Fr e x0 x1 x2 x3 x4 x5 x6 x7 (.bool true) x9 x10 x11 x12 x13 x14) W := by
  refine wpOpIn_step (o := ops[13]) rfl (fun K' hK => ?_)
  simp only [ops, opsOf, part, whole, Tryz.f175, Fr]
  go_simp
  exact hK _ _ hk
theorem opA14 {e : Env} {x0 x1 x2 x3 x4 x5 x6 x7 x9 x10 x11 x12 x13 x14 : Value} {W : World} {n : Nat} {Q : Exit → Act → World → Prop} {K : Act → World → Prop} (hk : K (Fr e x0 x1 x2 x3 x4 x5 x6 x7 (.bool true) x9 x10 x11 x12 x13 (.bool true)) W) : wpOpIn Fence.wide n Tryz.prog ops Q 14 K (Fr e x0 x1 x2 x3 x4 x5 x6 x7 (.bool true) x9 x10 x11 x12 x13 x14) W := by
  refine wpOpIn_step (o := ops[14]) rfl (fun K' hK => ?_)
  simp only [ops, opsOf, part, whole, Tryz.f175, Fr]
  go_simp
  exact hK _ _ hk
theorem opB7 {e : Env} {x0 x2 x3 x4 x5 x7 x8 x9 x10 x11 x12 x13 x14 : Value} {W : World} {n : Nat} {Q : Exit → Act → World → Prop} {K : Act → World → Prop} (hd : decide (e.d1 ≤ e.d0) = false) (hk : K (Fr e x0 (.int .i64 e.d1) x2 x3 x4 x5 (.int .i64 e.d0) (.bool false) x8 x9 x10 x11 x12 x13 x14) W) : wpOpIn Fence.wide n Tryz.prog ops Q 7 K (Fr e x0 (.int .i64 e.d1) x2 x3 x4 x5 (.int .i64 e.d0) x7 x8 x9 x10 x11 x12 x13 x14) W := by
  refine wpOpIn_step (o := ops[7]) rfl (fun K' hK => ?_)
  simp only [ops, opsOf, part, whole, Tryz.f175, Fr]
  go_simp
  exact hK _ _ hk
theorem opB8 {e : Env} {x0 x1 x2 x3 x4 x5 x6 x8 x9 x10 x11 x12 x13 x14 : Value} {W : World} {n : Nat} {Q : Exit → Act → World → Prop} {K : Act → World → Prop} (hk : K (Fr e x0 x1 x2 x3 x4 x5 x6 (.bool false) (.bool false) x9 x10 x11 x12 x13 x14) W) : wpOpIn Fence.wide n Tryz.prog ops Q 8 K (Fr e x0 x1 x2 x3 x4 x5 x6 (.bool false) x8 x9 x10 x11 x12 x13 x14) W := by
  refine wpOpIn_step (o := ops[8]) rfl (fun K' hK => ?_)
  simp only [ops, opsOf, part, whole, Tryz.f175, Fr]
  go_simp
  exact hK _ _ hk
theorem opB9 {e : Env} {x0 x1 x2 x3 x4 x5 x6 x7 x9 x10 x11 x12 x13 x14 : Value} {W : World} {n : Nat} {Q : Exit → Act → World → Prop} {K : Act → World → Prop} (hk : K (Fr e x0 x1 x2 x3 x4 x5 x6 x7 (.bool false) (.func (.yield e.l) #[] #[]) x10 x11 x12 x13 x14) W) : wpOpIn Fence.wide n Tryz.prog ops Q 9 K (Fr e x0 x1 x2 x3 x4 x5 x6 x7 (.bool false) x9 x10 x11 x12 x13 x14) W := by
  refine wpOpIn_step (o := ops[9]) rfl (fun K' hK => ?_)
  simp only [ops, opsOf, part, whole, Tryz.f175, Fr]
  go_simp
  exact hK _ _ hk
theorem opB10 {e : Env} {x0 x1 x2 x3 x4 x5 x6 x7 x9 x10 x11 x12 x13 x14 : Value} {W : World} {n : Nat} {Q : Exit → Act → World → Prop} {K : Act → World → Prop} (hk : K (Fr e x0 x1 x2 x3 x4 x5 x6 x7 (.bool false) x9 (.pointer (some ⟨e.B5, 0, none⟩)) x11 x12 x13 x14) W) : wpOpIn Fence.wide n Tryz.prog ops Q 10 K (Fr e x0 x1 x2 x3 x4 x5 x6 x7 (.bool false) x9 x10 x11 x12 x13 x14) W := by
  refine wpOpIn_step (o := ops[10]) rfl (fun K' hK => ?_)
  simp only [ops, opsOf, part, whole, Tryz.f175, Fr]
  go_simp
  exact hK _ _ hk
theorem opB11 {e : Env} {x0 x1 x2 x3 x4 x5 x6 x7 x9 x11 x12 x13 x14 : Value} {W : World} {n : Nat} {Q : Exit → Act → World → Prop} {K : Act → World → Prop} (h : Facts e W) (hk : K (Fr e x0 x1 x2 x3 x4 x5 x6 x7 (.bool false) x9 (.pointer (some ⟨e.B5, 0, none⟩)) (.agg #[.int .i64 e.o1, .int .i64 e.s1]) x12 x13 x14) W) : wpOpIn Fence.wide n Tryz.prog ops Q 11 K (Fr e x0 x1 x2 x3 x4 x5 x6 x7 (.bool false) x9 (.pointer (some ⟨e.B5, 0, none⟩)) x11 x12 x13 x14) W := by
  refine wpOpIn_step (o := ops[11]) rfl (fun K' hK => ?_)
  try obtain ⟨h1, h2, h3, h4, h5, h6, h7, h8⟩ := h
  simp only [ops, opsOf, part, whole, Tryz.f175, Fr]
  go_simp
  exact hK _ _ hk
theorem opB13 {e : Env} {r : Bool} {x0 x1 x2 x3 x4 x5 x6 x7 x9 x10 x11 x13 x14 : Value} {W : World} {n : Nat} {Q : Exit → Act → World → Prop} {K : Act → World → Prop} (hk : K (Fr e x0 x1 x2 x3 x4 x5 x6 x7 (.bool false) x9 x10 x11 (.bool r) (.bool (!r)) x14) W) : wpOpIn Fence.wide n Tryz.prog ops Q 13 K (Fr e x0 x1 x2 x3 x4 x5 x6 x7 (.bool false) x9 x10 x11 (.bool r) x13 x14) W := by
  refine wpOpIn_step (o := ops[13]) rfl (fun K' hK => ?_)
  simp only [ops, opsOf, part, whole, Tryz.f175, Fr]
  go_simp
  exact hK _ _ hk
theorem opB14 {e : Env} {r : Bool} {x0 x1 x2 x3 x4 x5 x6 x7 x9 x10 x11 x12 x14 : Value} {W : World} {n : Nat} {Q : Exit → Act → World → Prop} {K : Act → World → Prop} (hk : K (Fr e x0 x1 x2 x3 x4 x5 x6 x7 (.bool false) x9 x10 x11 x12 (.bool (!r)) (.bool (!r))) W) : wpOpIn Fence.wide n Tryz.prog ops Q 14 K (Fr e x0 x1 x2 x3 x4 x5 x6 x7 (.bool false) x9 x10 x11 x12 (.bool (!r)) x14) W := by
  refine wpOpIn_step (o := ops[14]) rfl (fun K' hK => ?_)
  simp only [ops, opsOf, part, whole, Tryz.f175, Fr]
  go_simp
  exact hK _ _ hk
theorem sA_111111111111111 {e : Env} {W : World} {n : Nat} {Q : Exit → Act → World → Prop} (h : Facts e W) (hd : decide (e.d1 ≤ e.d0) = true) (hQ : Q .normal (Fr e (.pointer (some ⟨e.B5, 2, none⟩)) (.int .i64 e.d1) (.slice (some ⟨e.b, e.off, none⟩) e.len e.cap) (.int .i64 (e.pl : Int)) (.pointer (some ⟨e.b, e.off + e.pl * 4, none⟩)) (.pointer (some ⟨e.b, e.off + e.pl * 4 + 2, none⟩)) (.int .i64 e.d0) (.bool true) (.bool true) (undef) (undef) (undef) (undef) (undef) (.bool true)) W) : wpAnyIn Fence.wide n Tryz.prog .any ops Q 0 #[true, true, true, true, true, true, true, true, true, true, true, true, true, true, true] (Fr e (.pointer (some ⟨e.B5, 2, none⟩)) (.int .i64 e.d1) (.slice (some ⟨e.b, e.off, none⟩) e.len e.cap) (.int .i64 (e.pl : Int)) (.pointer (some ⟨e.b, e.off + e.pl * 4, none⟩)) (.pointer (some ⟨e.b, e.off + e.pl * 4 + 2, none⟩)) (.int .i64 e.d0) (.bool true) (.bool true) (undef) (undef) (undef) (undef) (undef) (.bool true)) W := wpAnyIn_done (by kernel_rfl) hQ _
theorem sA_111111111111110 {e : Env} {W : World} {n : Nat} {Q : Exit → Act → World → Prop} (h : Facts e W) (hd : decide (e.d1 ≤ e.d0) = true) (hQ : Q .normal (Fr e (.pointer (some ⟨e.B5, 2, none⟩)) (.int .i64 e.d1) (.slice (some ⟨e.b, e.off, none⟩) e.len e.cap) (.int .i64 (e.pl : Int)) (.pointer (some ⟨e.b, e.off + e.pl * 4, none⟩)) (.pointer (some ⟨e.b, e.off + e.pl * 4 + 2, none⟩)) (.int .i64 e.d0) (.bool true) (.bool true) (undef) (undef) (undef) (undef) (undef) (.bool true)) W) : wpAnyIn Fence.wide n Tryz.prog .any ops Q 1 #[true, true, true, true, true, true, true, true, true, true, true, true, true, true, false] (Fr e (.pointer (some ⟨e.B5, 2, none⟩)) (.int .i64 e.d1) (.slice (some ⟨e.b, e.off, none⟩) e.len e.cap) (.int .i64 (e.pl : Int)) (.pointer (some ⟨e.b, e.off + e.pl * 4, none⟩)) (.pointer (some ⟨e.b, e.off + e.pl * 4 + 2, none⟩)) (.int .i64 e.d0) (.bool true) (.bool true) (undef) (undef) (undef) (undef) (undef) e.u14) W := by
  refine wpAnyIn_all (rs := [14]) (by kernel_rfl) (by simp) ?_
  intro i hi
  simp only [List.mem_cons, List.not_mem_nil, or_false] at hi
  rcases hi with rfl
  · exact opA14 (sA_111111111111111 h hd hQ)
theorem sA_111111111111100 {e : Env} {W : World} {n : Nat} {Q : Exit → Act → World → Prop} (h : Facts e W) (hd : decide (e.d1 ≤ e.d0) = true) (hQ : Q .normal (Fr e (.pointer (some ⟨e.B5, 2, none⟩)) (.int .i64 e.d1) (.slice (some ⟨e.b, e.off, none⟩) e.len e.cap) (.int .i64 (e.pl : Int)) (.pointer (some ⟨e.b, e.off + e.pl * 4, none⟩)) (.pointer (some ⟨e.b, e.off + e.pl * 4 + 2, none⟩)) (.int .i64 e.d0) (.bool true) (.bool true) (undef) (undef) (undef) (undef) (undef) (.bool true)) W) : wpAnyIn Fence.wide n Tryz.prog .any ops Q 2 #[true, true, true, true, true, true, true, true, true, true, true, true, true, false, false] (Fr e (.pointer (some ⟨e.B5, 2, none⟩)) (.int .i64 e.d1) (.slice (some ⟨e.b, e.off, none⟩) e.len e.cap) (.int .i64 (e.pl : Int)) (.pointer (some ⟨e.b, e.off + e.pl * 4, none⟩)) (.pointer (some ⟨e.b, e.off + e.pl * 4 + 2, none⟩)) (.int .i64 e.d0) (.bool true) (.bool true) (undef) (undef) (undef) (undef) e.u13 e.u14) W := by
  refine wpAnyIn_all (rs := [13]) (by kernel_rfl) (by simp) ?_
  intro i hi
  simp only [List.mem_cons, List.not_mem_nil, or_false] at hi
  rcases hi with rfl
  · exact opA13 (sA_111111111111110 h hd hQ)
theorem sA_111111111111000 {e : Env} {W : World} {n : Nat} {Q : Exit → Act → World → Prop} (h : Facts e W) (hd : decide (e.d1 ≤ e.d0) = true) (hQ : Q .normal (Fr e (.pointer (some ⟨e.B5, 2, none⟩)) (.int .i64 e.d1) (.slice (some ⟨e.b, e.off, none⟩) e.len e.cap) (.int .i64 (e.pl : Int)) (.pointer (some ⟨e.b, e.off + e.pl * 4, none⟩)) (.pointer (some ⟨e.b, e.off + e.pl * 4 + 2, none⟩)) (.int .i64 e.d0) (.bool true) (.bool true) (undef) (undef) (undef) (undef) (undef) (.bool true)) W) : wpAnyIn Fence.wide n Tryz.prog .any ops Q 3 #[true, true, true, true, true, true, true, true, true, true, true, true, false, false, false] (Fr e (.pointer (some ⟨e.B5, 2, none⟩)) (.int .i64 e.d1) (.slice (some ⟨e.b, e.off, none⟩) e.len e.cap) (.int .i64 (e.pl : Int)) (.pointer (some ⟨e.b, e.off + e.pl * 4, none⟩)) (.pointer (some ⟨e.b, e.off + e.pl * 4 + 2, none⟩)) (.int .i64 e.d0) (.bool true) (.bool true) (undef) (undef) (undef) e.u12 e.u13 e.u14) W := by
  refine wpAnyIn_all (rs := [12]) (by kernel_rfl) (by simp) ?_
  intro i hi
  simp only [List.mem_cons, List.not_mem_nil, or_false] at hi
  rcases hi with rfl
  · exact opA12 (sA_111111111111100 h hd hQ)
theorem sA_111111111011000 {e : Env} {W : World} {n : Nat} {Q : Exit → Act → World → Prop} (h : Facts e W) (hd : decide (e.d1 ≤ e.d0) = true) (hQ : Q .normal (Fr e (.pointer (some ⟨e.B5, 2, none⟩)) (.int .i64 e.d1) (.slice (some ⟨e.b, e.off, none⟩) e.len e.cap) (.int .i64 (e.pl : Int)) (.pointer (some ⟨e.b, e.off + e.pl * 4, none⟩)) (.pointer (some ⟨e.b, e.off + e.pl * 4 + 2, none⟩)) (.int .i64 e.d0) (.bool true) (.bool true) (undef) (undef) (undef) (undef) (undef) (.bool true)) W) : wpAnyIn Fence.wide n Tryz.prog .any ops Q 4 #[true, true, true, true, true, true, true, true, true, false, true, true, false, false, false] (Fr e (.pointer (some ⟨e.B5, 2, none⟩)) (.int .i64 e.d1) (.slice (some ⟨e.b, e.off, none⟩) e.len e.cap) (.int .i64 (e.pl : Int)) (.pointer (some ⟨e.b, e.off + e.pl * 4, none⟩)) (.pointer (some ⟨e.b, e.off + e.pl * 4 + 2, none⟩)) (.int .i64 e.d0) (.bool true) (.bool true) e.u9 (undef) (undef) e.u12 e.u13 e.u14) W := by
  refine wpAnyIn_all (rs := [9]) (by kernel_rfl) (by simp) ?_
  intro i hi
  simp only [List.mem_cons, List.not_mem_nil, or_false] at hi
  rcases hi with rfl
  · exact opA9 (sA_111111111111000 h hd hQ)
theorem sA_111111111110000 {e : Env} {W : World} {n : Nat} {Q : Exit → Act → World → Prop} (h : Facts e W) (hd : decide (e.d1 ≤ e.d0) = true) (hQ : Q .normal (Fr e (.pointer (some ⟨e.B5, 2, none⟩)) (.int .i64 e.d1) (.slice (some ⟨e.b, e.off, none⟩) e.len e.cap) (.int .i64 (e.pl : Int)) (.pointer (some ⟨e.b, e.off + e.pl * 4, none⟩)) (.pointer (some ⟨e.b, e.off + e.pl * 4 + 2, none⟩)) (.int .i64 e.d0) (.bool true) (.bool true) (undef) (undef) (undef) (undef) (undef) (.bool true)) W) : wpAnyIn Fence.wide n Tryz.prog .any ops Q 4 #[true, true, true, true, true, true, true, true, true, true, true, false, false, false, false] (Fr e (.pointer (some ⟨e.B5, 2, none⟩)) (.int .i64 e.d1) (.slice (some ⟨e.b, e.off, none⟩) e.len e.cap) (.int .i64 (e.pl : Int)) (.pointer (some ⟨e.b, e.off + e.pl * 4, none⟩)) (.pointer (some ⟨e.b, e.off + e.pl * 4 + 2, none⟩)) (.int .i64 e.d0) (.bool true) (.bool true) (undef) (undef) e.u11 e.u12 e.u13 e.u14) W := by
  refine wpAnyIn_all (rs := [11]) (by kernel_rfl) (by simp) ?_
  intro i hi
  simp only [List.mem_cons, List.not_mem_nil, or_false] at hi
  rcases hi with rfl
  · exact opA11 (sA_111111111111000 h hd hQ)
theorem sA_111111111010000 {e : Env} {W : World} {n : Nat} {Q : Exit → Act → World → Prop} (h : Facts e W) (hd : decide (e.d1 ≤ e.d0) = true) (hQ : Q .normal (Fr e (.pointer (some ⟨e.B5, 2, none⟩)) (.int .i64 e.d1) (.slice (some ⟨e.b, e.off, none⟩) e.len e.cap) (.int .i64 (e.pl : Int)) (.pointer (some ⟨e.b, e.off + e.pl * 4, none⟩)) (.pointer (some ⟨e.b, e.off + e.pl * 4 + 2, none⟩)) (.int .i64 e.d0) (.bool true) (.bool true) (undef) (undef) (undef) (undef) (undef) (.bool true)) W) : wpAnyIn Fence.wide n Tryz.prog .any ops Q 5 #[true, true, true, true, true, true, true, true, true, false, true, false, false, false, false] (Fr e (.pointer (some ⟨e.B5, 2, none⟩)) (.int .i64 e.d1) (.slice (some ⟨e.b, e.off, none⟩) e.len e.cap) (.int .i64 (e.pl : Int)) (.pointer (some ⟨e.b, e.off + e.pl * 4, none⟩)) (.pointer (some ⟨e.b, e.off + e.pl * 4 + 2, none⟩)) (.int .i64 e.d0) (.bool true) (.bool true) e.u9 (undef) e.u11 e.u12 e.u13 e.u14) W := by
  refine wpAnyIn_all (rs := [9, 11]) (by kernel_rfl) (by simp) ?_
  intro i hi
  simp only [List.mem_cons, List.not_mem_nil, or_false] at hi
  rcases hi with rfl | rfl
  · exact opA9 (sA_111111111110000 h hd hQ)
  · exact opA11 (sA_111111111011000 h hd hQ)
theorem sA_111111111100000 {e : Env} {W : World} {n : Nat} {Q : Exit → Act → World → Prop} (h : Facts e W) (hd : decide (e.d1 ≤ e.d0) = true) (hQ : Q .normal (Fr e (.pointer (some ⟨e.B5, 2, none⟩)) (.int .i64 e.d1) (.slice (some ⟨e.b, e.off, none⟩) e.len e.cap) (.int .i64 (e.pl : Int)) (.pointer (some ⟨e.b, e.off + e.pl * 4, none⟩)) (.pointer (some ⟨e.b, e.off + e.pl * 4 + 2, none⟩)) (.int .i64 e.d0) (.bool true) (.bool true) (undef) (undef) (undef) (undef) (undef) (.bool true)) W) : wpAnyIn Fence.wide n Tryz.prog .any ops Q 5 #[true, true, true, true, true, true, true, true, true, true, false, false, false, false, false] (Fr e (.pointer (some ⟨e.B5, 2, none⟩)) (.int .i64 e.d1) (.slice (some ⟨e.b, e.off, none⟩) e.len e.cap) (.int .i64 (e.pl : Int)) (.pointer (some ⟨e.b, e.off + e.pl * 4, none⟩)) (.pointer (some ⟨e.b, e.off + e.pl * 4 + 2, none⟩)) (.int .i64 e.d0) (.bool true) (.bool true) (undef) e.u10 e.u11 e.u12 e.u13 e.u14) W := by
  refine wpAnyIn_all (rs := [10]) (by kernel_rfl) (by simp) ?_
  intro i hi
  simp only [List.mem_cons, List.not_mem_nil, or_false] at hi
  rcases hi with rfl
  · exact opA10 (sA_111111111110000 h hd hQ)
theorem sA_111111111000000 {e : Env} {W : World} {n : Nat} {Q : Exit → Act → World → Prop} (h : Facts e W) (hd : decide (e.d1 ≤ e.d0) = true) (hQ : Q .normal (Fr e (.pointer (some ⟨e.B5, 2, none⟩)) (.int .i64 e.d1) (.slice (some ⟨e.b, e.off, none⟩) e.len e.cap) (.int .i64 (e.pl : Int)) (.pointer (some ⟨e.b, e.off + e.pl * 4, none⟩)) (.pointer (some ⟨e.b, e.off + e.pl * 4 + 2, none⟩)) (.int .i64 e.d0) (.bool true) (.bool true) (undef) (undef) (undef) (undef) (undef) (.bool true)) W) : wpAnyIn Fence.wide n Tryz.prog .any ops Q 6 #[true, true, true, true, true, true, true, true, true, false, false, false, false, false, false] (Fr e (.pointer (some ⟨e.B5, 2, none⟩)) (.int .i64 e.d1) (.slice (some ⟨e.b, e.off, none⟩) e.len e.cap) (.int .i64 (e.pl : Int)) (.pointer (some ⟨e.b, e.off + e.pl * 4, none⟩)) (.pointer (some ⟨e.b, e.off + e.pl * 4 + 2, none⟩)) (.int .i64 e.d0) (.bool true) (.bool true) e.u9 e.u10 e.u11 e.u12 e.u13 e.u14) W := by
  refine wpAnyIn_all (rs := [9, 10]) (by kernel_rfl) (by simp) ?_
  intro i hi
  simp only [List.mem_cons, List.not_mem_nil, or_false] at hi
  rcases hi with rfl | rfl
  · exact opA9 (sA_111111111100000 h hd hQ)
  · exact opA10 (sA_111111111010000 h hd hQ)
theorem sA_111111110000000 {e : Env} {W : World} {n : Nat} {Q : Exit → Act → World → Prop} (h : Facts e W) (hd : decide (e.d1 ≤ e.d0) = true) (hQ : Q .normal (Fr e (.pointer (some ⟨e.B5, 2, none⟩)) (.int .i64 e.d1) (.slice (some ⟨e.b, e.off, none⟩) e.len e.cap) (.int .i64 (e.pl : Int)) (.pointer (some ⟨e.b, e.off + e.pl * 4, none⟩)) (.pointer (some ⟨e.b, e.off + e.pl * 4 + 2, none⟩)) (.int .i64 e.d0) (.bool true) (.bool true) (undef) (undef) (undef) (undef) (undef) (.bool true)) W) : wpAnyIn Fence.wide n Tryz.prog .any ops Q 7 #[true, true, true, true, true, true, true, true, false, false, false, false, false, false, false] (Fr e (.pointer (some ⟨e.B5, 2, none⟩)) (.int .i64 e.d1) (.slice (some ⟨e.b, e.off, none⟩) e.len e.cap) (.int .i64 (e.pl : Int)) (.pointer (some ⟨e.b, e.off + e.pl * 4, none⟩)) (.pointer (some ⟨e.b, e.off + e.pl * 4 + 2, none⟩)) (.int .i64 e.d0) (.bool true) e.u8 e.u9 e.u10 e.u11 e.u12 e.u13 e.u14) W := by
  refine wpAnyIn_all (rs := [8]) (by kernel_rfl) (by simp) ?_
  intro i hi
  simp only [List.mem_cons, List.not_mem_nil, or_false] at hi
  rcases hi with rfl
  · exact opA8 (sA_111111111000000 h hd hQ)
theorem sA_111111100000000 {e : Env} {W : World} {n : Nat} {Q : Exit → Act → World → Prop} (h : Facts e W) (hd : decide (e.d1 ≤ e.d0) = true) (hQ : Q .normal (Fr e (.pointer (some ⟨e.B5, 2, none⟩)) (.int .i64 e.d1) (.slice (some ⟨e.b, e.off, none⟩) e.len e.cap) (.int .i64 (e.pl : Int)) (.pointer (some ⟨e.b, e.off + e.pl * 4, none⟩)) (.pointer (some ⟨e.b, e.off + e.pl * 4 + 2, none⟩)) (.int .i64 e.d0) (.bool true) (.bool true) (undef) (undef) (undef) (undef) (undef) (.bool true)) W) : wpAnyIn Fence.wide n Tryz.prog .any ops Q 8 #[true, true, true, true, true, true, true, false, false, false, false, false, false, false, false] (Fr e (.pointer (some ⟨e.B5, 2, none⟩)) (.int .i64 e.d1) (.slice (some ⟨e.b, e.off, none⟩) e.len e.cap) (.int .i64 (e.pl : Int)) (.pointer (some ⟨e.b, e.off + e.pl * 4, none⟩)) (.pointer (some ⟨e.b, e.off + e.pl * 4 + 2, none⟩)) (.int .i64 e.d0) e.u7 e.u8 e.u9 e.u10 e.u11 e.u12 e.u13 e.u14) W := by
  refine wpAnyIn_all (rs := [7]) (by kernel_rfl) (by simp) ?_
  intro i hi
  simp only [List.mem_cons, List.not_mem_nil, or_false] at hi
  rcases hi with rfl
  · exact opA7 hd (sA_111111110000000 h hd hQ)
theorem sA_101111100000000 {e : Env} {W : World} {n : Nat} {Q : Exit → Act → World → Prop} (h : Facts e W) (hd : decide (e.d1 ≤ e.d0) = true) (hQ : Q .normal (Fr e (.pointer (some ⟨e.B5, 2, none⟩)) (.int .i64 e.d1) (.slice (some ⟨e.b, e.off, none⟩) e.len e.cap) (.int .i64 (e.pl : Int)) (.pointer (some ⟨e.b, e.off + e.pl * 4, none⟩)) (.pointer (some ⟨e.b, e.off + e.pl * 4 + 2, none⟩)) (.int .i64 e.d0) (.bool true) (.bool true) (undef) (undef) (undef) (undef) (undef) (.bool true)) W) : wpAnyIn Fence.wide n Tryz.prog .any ops Q 9 #[true, false, true, true, true, true, true, false, false, false, false, false, false, false, false] (Fr e (.pointer (some ⟨e.B5, 2, none⟩)) e.u1 (.slice (some ⟨e.b, e.off, none⟩) e.len e.cap) (.int .i64 (e.pl : Int)) (.pointer (some ⟨e.b, e.off + e.pl * 4, none⟩)) (.pointer (some ⟨e.b, e.off + e.pl * 4 + 2, none⟩)) (.int .i64 e.d0) e.u7 e.u8 e.u9 e.u10 e.u11 e.u12 e.u13 e.u14) W := by
  refine wpAnyIn_all (rs := [1]) (by kernel_rfl) (by simp) ?_
  intro i hi
  simp only [List.mem_cons, List.not_mem_nil, or_false] at hi
  rcases hi with rfl
  · exact opA1 h (sA_111111100000000 h hd hQ)
theorem sA_111111000000000 {e : Env} {W : World} {n : Nat} {Q : Exit → Act → World → Prop} (h : Facts e W) (hd : decide (e.d1 ≤ e.d0) = true) (hQ : Q .normal (Fr e (.pointer (some ⟨e.B5, 2, none⟩)) (.int .i64 e.d1) (.slice (some ⟨e.b, e.off, none⟩) e.len e.cap) (.int .i64 (e.pl : Int)) (.pointer (some ⟨e.b, e.off + e.pl * 4, none⟩)) (.pointer (some ⟨e.b, e.off + e.pl * 4 + 2, none⟩)) (.int .i64 e.d0) (.bool true) (.bool true) (undef) (undef) (undef) (undef) (undef) (.bool true)) W) : wpAnyIn Fence.wide n Tryz.prog .any ops Q 9 #[true, true, true, true, true, true, false, false, false, false, false, false, false, false, false] (Fr e (.pointer (some ⟨e.B5, 2, none⟩)) (.int .i64 e.d1) (.slice (some ⟨e.b, e.off, none⟩) e.len e.cap) (.int .i64 (e.pl : Int)) (.pointer (some ⟨e.b, e.off + e.pl * 4, none⟩)) (.pointer (some ⟨e.b, e.off + e.pl * 4 + 2, none⟩)) e.u6 e.u7 e.u8 e.u9 e.u10 e.u11 e.u12 e.u13 e.u14) W := by
  refine wpAnyIn_all (rs := [6]) (by kernel_rfl) (by simp) ?_
  intro i hi
  simp only [List.mem_cons, List.not_mem_nil, or_false] at hi
  rcases hi with rfl
  · exact opA6 h (sA_111111100000000 h hd hQ)
theorem sA_001111100000000 {e : Env} {W : World} {n : Nat} {Q : Exit → Act → World → Prop} (h : Facts e W) (hd : decide (e.d1 ≤ e.d0) = true) (hQ : Q .normal (Fr e (.pointer (some ⟨e.B5, 2, none⟩)) (.int .i64 e.d1) (.slice (some ⟨e.b, e.off, none⟩) e.len e.cap) (.int .i64 (e.pl : Int)) (.pointer (some ⟨e.b, e.off + e.pl * 4, none⟩)) (.pointer (some ⟨e.b, e.off + e.pl * 4 + 2, none⟩)) (.int .i64 e.d0) (.bool true) (.bool true) (undef) (undef) (undef) (undef) (undef) (.bool true)) W) : wpAnyIn Fence.wide n Tryz.prog .any ops Q 10 #[false, false, true, true, true, true, true, false, false, false, false, false, false, false, false] (Fr e e.u0 e.u1 (.slice (some ⟨e.b, e.off, none⟩) e.len e.cap) (.int .i64 (e.pl : Int)) (.pointer (some ⟨e.b, e.off + e.pl * 4, none⟩)) (.pointer (some ⟨e.b, e.off + e.pl * 4 + 2, none⟩)) (.int .i64 e.d0) e.u7 e.u8 e.u9 e.u10 e.u11 e.u12 e.u13 e.u14) W := by
  refine wpAnyIn_all (rs := [0]) (by kernel_rfl) (by simp) ?_
  intro i hi
  simp only [List.mem_cons, List.not_mem_nil, or_false] at hi
  rcases hi with rfl
  · exact opA0 (sA_101111100000000 h hd hQ)
theorem sA_101111000000000 {e : Env} {W : World} {n : Nat} {Q : Exit → Act → World → Prop} (h : Facts e W) (hd : decide (e.d1 ≤ e.d0) = true) (hQ : Q .normal (Fr e (.pointer (some ⟨e.B5, 2, none⟩)) (.int .i64 e.d1) (.slice (some ⟨e.b, e.off, none⟩) e.len e.cap) (.int .i64 (e.pl : Int)) (.pointer (some ⟨e.b, e.off + e.pl * 4, none⟩)) (.pointer (some ⟨e.b, e.off + e.pl * 4 + 2, none⟩)) (.int .i64 e.d0) (.bool true) (.bool true) (undef) (undef) (undef) (undef) (undef) (.bool true)) W) : wpAnyIn Fence.wide n Tryz.prog .any ops Q 10 #[true, false, true, true, true, true, false, false, false, false, false, false, false, false, false] (Fr e (.pointer (some ⟨e.B5, 2, none⟩)) e.u1 (.slice (some ⟨e.b, e.off, none⟩) e.len e.cap) (.int .i64 (e.pl : Int)) (.pointer (some ⟨e.b, e.off + e.pl * 4, none⟩)) (.pointer (some ⟨e.b, e.off + e.pl * 4 + 2, none⟩)) e.u6 e.u7 e.u8 e.u9 e.u10 e.u11 e.u12 e.u13 e.u14) W := by
  refine wpAnyIn_all (rs := [1, 6]) (by kernel_rfl) (by simp) ?_
  intro i hi
  simp only [List.mem_cons, List.not_mem_nil, or_false] at hi
  rcases hi with rfl | rfl
  · exact opA1 h (sA_111111000000000 h hd hQ)
  · exact opA6 h (sA_101111100000000 h hd hQ)
theorem sA_111110000000000 {e : Env} {W : World} {n : Nat} {Q : Exit → Act → World → Prop} (h : Facts e W) (hd : decide (e.d1 ≤ e.d0) = true) (hQ : Q .normal (Fr e (.pointer (some ⟨e.B5, 2, none⟩)) (.int .i64 e.d1) (.slice (some ⟨e.b, e.off, none⟩) e.len e.cap) (.int .i64 (e.pl : Int)) (.pointer (some ⟨e.b, e.off + e.pl * 4, none⟩)) (.pointer (some ⟨e.b, e.off + e.pl * 4 + 2, none⟩)) (.int .i64 e.d0) (.bool true) (.bool true) (undef) (undef) (undef) (undef) (undef) (.bool true)) W) : wpAnyIn Fence.wide n Tryz.prog .any ops Q 10 #[true, true, true, true, true, false, false, false, false, false, false, false, false, false, false] (Fr e (.pointer (some ⟨e.B5, 2, none⟩)) (.int .i64 e.d1) (.slice (some ⟨e.b, e.off, none⟩) e.len e.cap) (.int .i64 (e.pl : Int)) (.pointer (some ⟨e.b, e.off + e.pl * 4, none⟩)) e.u5 e.u6 e.u7 e.u8 e.u9 e.u10 e.u11 e.u12 e.u13 e.u14) W := by
  refine wpAnyIn_all (rs := [5]) (by kernel_rfl) (by simp) ?_
  intro i hi
  simp only [List.mem_cons, List.not_mem_nil, or_false] at hi
  rcases hi with rfl
  · exact opA5 (sA_111111000000000 h hd hQ)
theorem sA_001111000000000 {e : Env} {W : World} {n : Nat} {Q : Exit → Act → World → Prop} (h : Facts e W) (hd : decide (e.d1 ≤ e.d0) = true) (hQ : Q .normal (Fr e (.pointer (some ⟨e.B5, 2, none⟩)) (.int .i64 e.d1) (.slice (some ⟨e.b, e.off, none⟩) e.len e.cap) (.int .i64 (e.pl : Int)) (.pointer (some ⟨e.b, e.off + e.pl * 4, none⟩)) (.pointer (some ⟨e.b, e.off + e.pl * 4 + 2, none⟩)) (.int .i64 e.d0) (.bool true) (.bool true) (undef) (undef) (undef) (undef) (undef) (.bool true)) W) : wpAnyIn Fence.wide n Tryz.prog .any ops Q 11 #[false, false, true, true, true, true, false, false, false, false, false, false, false, false, false] (Fr e e.u0 e.u1 (.slice (some ⟨e.b, e.off, none⟩) e.len e.cap) (.int .i64 (e.pl : Int)) (.pointer (some ⟨e.b, e.off + e.pl * 4, none⟩)) (.pointer (some ⟨e.b, e.off + e.pl * 4 + 2, none⟩)) e.u6 e.u7 e.u8 e.u9 e.u10 e.u11 e.u12 e.u13 e.u14) W := by
  refine wpAnyIn_all (rs := [0, 6]) (by kernel_rfl) (by simp) ?_
  intro i hi
  simp only [List.mem_cons, List.not_mem_nil, or_false] at hi
  rcases hi with rfl | rfl
  · exact opA0 (sA_101111000000000 h hd hQ)
  · exact opA6 h (sA_001111100000000 h hd hQ)
theorem sA_101110000000000 {e : Env} {W : World} {n : Nat} {Q : Exit → Act → World → Prop} (h : Facts e W) (hd : decide (e.d1 ≤ e.d0) = true) (hQ : Q .normal (Fr e (.pointer (some ⟨e.B5, 2, none⟩)) (.int .i64 e.d1) (.slice (some ⟨e.b, e.off, none⟩) e.len e.cap) (.int .i64 (e.pl : Int)) (.pointer (some ⟨e.b, e.off + e.pl * 4, none⟩)) (.pointer (some ⟨e.b, e.off + e.pl * 4 + 2, none⟩)) (.int .i64 e.d0) (.bool true) (.bool true) (undef) (undef) (undef) (undef) (undef) (.bool true)) W) : wpAnyIn Fence.wide n Tryz.prog .any ops Q 11 #[true, false, true, true, true, false, false, false, false, false, false, false, false, false, false] (Fr e (.pointer (some ⟨e.B5, 2, none⟩)) e.u1 (.slice (some ⟨e.b, e.off, none⟩) e.len e.cap) (.int .i64 (e.pl : Int)) (.pointer (some ⟨e.b, e.off + e.pl * 4, none⟩)) e.u5 e.u6 e.u7 e.u8 e.u9 e.u10 e.u11 e.u12 e.u13 e.u14) W := by
  refine wpAnyIn_all (rs := [1, 5]) (by kernel_rfl) (by simp) ?_
  intro i hi
  simp only [List.mem_cons, List.not_mem_nil, or_false] at hi
  rcases hi with rfl | rfl
  · exact opA1 h (sA_111110000000000 h hd hQ)
  · exact opA5 (sA_101111000000000 h hd hQ)
theorem sA_111100000000000 {e : Env} {W : World} {n : Nat} {Q : Exit → Act → World → Prop} (h : Facts e W) (hd : decide (e.d1 ≤ e.d0) = true) (hQ : Q .normal (Fr e (.pointer (some ⟨e.B5, 2, none⟩)) (.int .i64 e.d1) (.slice (some ⟨e.b, e.off, none⟩) e.len e.cap) (.int .i64 (e.pl : Int)) (.pointer (some ⟨e.b, e.off + e.pl * 4, none⟩)) (.pointer (some ⟨e.b, e.off + e.pl * 4 + 2, none⟩)) (.int .i64 e.d0) (.bool true) (.bool true) (undef) (undef) (undef) (undef) (undef) (.bool true)) W) : wpAnyIn Fence.wide n Tryz.prog .any ops Q 11 #[true, true, true, true, false, false, false, false, false, false, false, false, false, false, false] (Fr e (.pointer (some ⟨e.B5, 2, none⟩)) (.int .i64 e.d1) (.slice (some ⟨e.b, e.off, none⟩) e.len e.cap) (.int .i64 (e.pl : Int)) e.u4 e.u5 e.u6 e.u7 e.u8 e.u9 e.u10 e.u11 e.u12 e.u13 e.u14) W := by
  refine wpAnyIn_all (rs := [4]) (by kernel_rfl) (by simp) ?_
  intro i hi
  simp only [List.mem_cons, List.not_mem_nil, or_false] at hi
  rcases hi with rfl
  · exact opA4 h (sA_111110000000000 h hd hQ)
theorem sA_001110000000000 {e : Env} {W : World} {n : Nat} {Q : Exit → Act → World → Prop} (h : Facts e W) (hd : decide (e.d1 ≤ e.d0) = true) (hQ : Q .normal (Fr e (.pointer (some ⟨e.B5, 2, none⟩)) (.int .i64 e.d1) (.slice (some ⟨e.b, e.off, none⟩) e.len e.cap) (.int .i64 (e.pl : Int)) (.pointer (some ⟨e.b, e.off + e.pl * 4, none⟩)) (.pointer (some ⟨e.b, e.off + e.pl * 4 + 2, none⟩)) (.int .i64 e.d0) (.bool true) (.bool true) (undef) (undef) (undef) (undef) (undef) (.bool true)) W) : wpAnyIn Fence.wide n Tryz.prog .any ops Q 12 #[false, false, true, true, true, false, false, false, false, false, false, false, false, false, false] (Fr e e.u0 e.u1 (.slice (some ⟨e.b, e.off, none⟩) e.len e.cap) (.int .i64 (e.pl : Int)) (.pointer (some ⟨e.b, e.off + e.pl * 4, none⟩)) e.u5 e.u6 e.u7 e.u8 e.u9 e.u10 e.u11 e.u12 e.u13 e.u14) W := by
  refine wpAnyIn_all (rs := [0, 5]) (by kernel_rfl) (by simp) ?_
  intro i hi
  simp only [List.mem_cons, List.not_mem_nil, or_false] at hi
  rcases hi with rfl | rfl
  · exact opA0 (sA_101110000000000 h hd hQ)
  · exact opA5 (sA_001111000000000 h hd hQ)
theorem sA_101100000000000 {e : Env} {W : World} {n : Nat} {Q : Exit → Act → World → Prop} (h : Facts e W) (hd : decide (e.d1 ≤ e.d0) = true) (hQ : Q .normal (Fr e (.pointer (some ⟨e.B5, 2, none⟩)) (.int .i64 e.d1) (.slice (some ⟨e.b, e.off, none⟩) e.len e.cap) (.int .i64 (e.pl : Int)) (.pointer (some ⟨e.b, e.off + e.pl * 4, none⟩)) (.pointer (some ⟨e.b, e.off + e.pl * 4 + 2, none⟩)) (.int .i64 e.d0) (.bool true) (.bool true) (undef) (undef) (undef) (undef) (undef) (.bool true)) W) : wpAnyIn Fence.wide n Tryz.prog .any ops Q 12 #[true, false, true, true, false, false, false, false, false, false, false, false, false, false, false] (Fr e (.pointer (some ⟨e.B5, 2, none⟩)) e.u1 (.slice (some ⟨e.b, e.off, none⟩) e.len e.cap) (.int .i64 (e.pl : Int)) e.u4 e.u5 e.u6 e.u7 e.u8 e.u9 e.u10 e.u11 e.u12 e.u13 e.u14) W := by
  refine wpAnyIn_all (rs := [1, 4]) (by kernel_rfl) (by simp) ?_
  intro i hi
  simp only [List.mem_cons, List.not_mem_nil, or_false] at hi
  rcases hi with rfl | rfl
  · exact opA1 h (sA_111100000000000 h hd hQ)
  · exact opA4 h (sA_101110000000000 h hd hQ)
theorem sA_110100000000000 {e : Env} {W : World} {n : Nat} {Q : Exit → Act → World → Prop} (h : Facts e W) (hd : decide (e.d1 ≤ e.d0) = true) (hQ : Q .normal (Fr e (.pointer (some ⟨e.B5, 2, none⟩)) (.int .i64 e.d1) (.slice (some ⟨e.b, e.off, none⟩) e.len e.cap) (.int .i64 (e.pl : Int)) (.pointer (some ⟨e.b, e.off + e.pl * 4, none⟩)) (.pointer (some ⟨e.b, e.off + e.pl * 4 + 2, none⟩)) (.int .i64 e.d0) (.bool true) (.bool true) (undef) (undef) (undef) (undef) (undef) (.bool true)) W) : wpAnyIn Fence.wide n Tryz.prog .any ops Q 12 #[true, true, false, true, false, false, false, false, false, false, false, false, false, false, false] (Fr e (.pointer (some ⟨e.B5, 2, none⟩)) (.int .i64 e.d1) e.u2 (.int .i64 (e.pl : Int)) e.u4 e.u5 e.u6 e.u7 e.u8 e.u9 e.u10 e.u11 e.u12 e.u13 e.u14) W := by
  refine wpAnyIn_all (rs := [2]) (by kernel_rfl) (by simp) ?_
  intro i hi
  simp only [List.mem_cons, List.not_mem_nil, or_false] at hi
  rcases hi with rfl
  · exact opA2 h (sA_111100000000000 h hd hQ)
theorem sA_111000000000000 {e : Env} {W : World} {n : Nat} {Q : Exit → Act → World → Prop} (h : Facts e W) (hd : decide (e.d1 ≤ e.d0) = true) (hQ : Q .normal (Fr e (.pointer (some ⟨e.B5, 2, none⟩)) (.int .i64 e.d1) (.slice (some ⟨e.b, e.off, none⟩) e.len e.cap) (.int .i64 (e.pl : Int)) (.pointer (some ⟨e.b, e.off + e.pl * 4, none⟩)) (.pointer (some ⟨e.b, e.off + e.pl * 4 + 2, none⟩)) (.int .i64 e.d0) (.bool true) (.bool true) (undef) (undef) (undef) (undef) (undef) (.bool true)) W) : wpAnyIn Fence.wide n Tryz.prog .any ops Q 12 #[true, true, true, false, false, false, false, false, false, false, false, false, false, false, false] (Fr e (.pointer (some ⟨e.B5, 2, none⟩)) (.int .i64 e.d1) (.slice (some ⟨e.b, e.off, none⟩) e.len e.cap) e.u3 e.u4 e.u5 e.u6 e.u7 e.u8 e.u9 e.u10 e.u11 e.u12 e.u13 e.u14) W := by
  refine wpAnyIn_all (rs := [3]) (by kernel_rfl) (by simp) ?_
  intro i hi
  simp only [List.mem_cons, List.not_mem_nil, or_false] at hi
  rcases hi with rfl
  · exact opA3 h (sA_111100000000000 h hd hQ)
theorem sA_001100000000000 {e : Env} {W : World} {n : Nat} {Q : Exit → Act → World → Prop} (h : Facts e W) (hd : decide (e.d1 ≤ e.d0) = true) (hQ : Q .normal (Fr e (.pointer (some ⟨e.B5, 2, none⟩)) (.int .i64 e.d1) (.slice (some ⟨e.b, e.off, none⟩) e.len e.cap) (.int .i64 (e.pl : Int)) (.pointer (some ⟨e.b, e.off + e.pl * 4, none⟩)) (.pointer (some ⟨e.b, e.off + e.pl * 4 + 2, none⟩)) (.int .i64 e.d0) (.bool true) (.bool true) (undef) (undef) (undef) (undef) (undef) (.bool true)) W) : wpAnyIn Fence.wide n Tryz.prog .any ops Q 13 #[false, false, true, true, false, false, false, false, false, false, false, false, false, false, false] (Fr e e.u0 e.u1 (.slice (some ⟨e.b, e.off, none⟩) e.len e.cap) (.int .i64 (e.pl : Int)) e.u4 e.u5 e.u6 e.u7 e.u8 e.u9 e.u10 e.u11 e.u12 e.u13 e.u14) W := by
  refine wpAnyIn_all (rs := [0, 4]) (by kernel_rfl) (by simp) ?_
  intro i hi
  simp only [List.mem_cons, List.not_mem_nil, or_false] at hi
  rcases hi with rfl | rfl
  · exact opA0 (sA_101100000000000 h hd hQ)
  · exact opA4 h (sA_001110000000000 h hd hQ)
theorem sA_100100000000000 {e : Env} {W : World} {n : Nat} {Q : Exit → Act → World → Prop} (h : Facts e W) (hd : decide (e.d1 ≤ e.d0) = true) (hQ : Q .normal (Fr e (.pointer (some ⟨e.B5, 2, none⟩)) (.int .i64 e.d1) (.slice (some ⟨e.b, e.off, none⟩) e.len e.cap) (.int .i64 (e.pl : Int)) (.pointer (some ⟨e.b, e.off + e.pl * 4, none⟩)) (.pointer (some ⟨e.b, e.off + e.pl * 4 + 2, none⟩)) (.int .i64 e.d0) (.bool true) (.bool true) (undef) (undef) (undef) (undef) (undef) (.bool true)) W) : wpAnyIn Fence.wide n Tryz.prog .any ops Q 13 #[true, false, false, true, false, false, false, false, false, false, false, false, false, false, false] (Fr e (.pointer (some ⟨e.B5, 2, none⟩)) e.u1 e.u2 (.int .i64 (e.pl : Int)) e.u4 e.u5 e.u6 e.u7 e.u8 e.u9 e.u10 e.u11 e.u12 e.u13 e.u14) W := by
  refine wpAnyIn_all (rs := [1, 2]) (by kernel_rfl) (by simp) ?_
  intro i hi
  simp only [List.mem_cons, List.not_mem_nil, or_false] at hi
  rcases hi with rfl | rfl
  · exact opA1 h (sA_110100000000000 h hd hQ)
  · exact opA2 h (sA_101100000000000 h hd hQ)
theorem sA_101000000000000 {e : Env} {W : World} {n : Nat} {Q : Exit → Act → World → Prop} (h : Facts e W) (hd : decide (e.d1 ≤ e.d0) = true) (hQ : Q .normal (Fr e (.pointer (some ⟨e.B5, 2, none⟩)) (.int .i64 e.d1) (.slice (some ⟨e.b, e.off, none⟩) e.len e.cap) (.int .i64 (e.pl : Int)) (.pointer (some ⟨e.b, e.off + e.pl * 4, none⟩)) (.pointer (some ⟨e.b, e.off + e.pl * 4 + 2, none⟩)) (.int .i64 e.d0) (.bool true) (.bool true) (undef) (undef) (undef) (undef) (undef) (.bool true)) W) : wpAnyIn Fence.wide n Tryz.prog .any ops Q 13 #[true, false, true, false, false, false, false, false, false, false, false, false, false, false, false] (Fr e (.pointer (some ⟨e.B5, 2, none⟩)) e.u1 (.slice (some ⟨e.b, e.off, none⟩) e.len e.cap) e.u3 e.u4 e.u5 e.u6 e.u7 e.u8 e.u9 e.u10 e.u11 e.u12 e.u13 e.u14) W := by
  refine wpAnyIn_all (rs := [1, 3]) (by kernel_rfl) (by simp) ?_
  intro i hi
  simp only [List.mem_cons, List.not_mem_nil, or_false] at hi
  rcases hi with rfl | rfl
  · exact opA1 h (sA_111000000000000 h hd hQ)
  · exact opA3 h (sA_101100000000000 h hd hQ)
theorem sA_110000000000000 {e : Env} {W : World} {n : Nat} {Q : Exit → Act → World → Prop} (h : Facts e W) (hd : decide (e.d1 ≤ e.d0) = true) (hQ : Q .normal (Fr e (.pointer (some ⟨e.B5, 2, none⟩)) (.int .i64 e.d1) (.slice (some ⟨e.b, e.off, none⟩) e.len e.cap) (.int .i64 (e.pl : Int)) (.pointer (some ⟨e.b, e.off + e.pl * 4, none⟩)) (.pointer (some ⟨e.b, e.off + e.pl * 4 + 2, none⟩)) (.int .i64 e.d0) (.bool true) (.bool true) (undef) (undef) (undef) (undef) (undef) (.bool true)) W) : wpAnyIn Fence.wide n Tryz.prog .any ops Q 13 #[true, true, false, false, false, false, false, false, false, false, false, false, false, false, false] (Fr e (.pointer (some ⟨e.B5, 2, none⟩)) (.int .i64 e.d1) e.u2 e.u3 e.u4 e.u5 e.u6 e.u7 e.u8 e.u9 e.u10 e.u11 e.u12 e.u13 e.u14) W := by
  refine wpAnyIn_all (rs := [2, 3]) (by kernel_rfl) (by simp) ?_
  intro i hi
  simp only [List.mem_cons, List.not_mem_nil, or_false] at hi
  rcases hi with rfl | rfl
  · exact opA2 h (sA_111000000000000 h hd hQ)
  · exact opA3 h (sA_110100000000000 h hd hQ)
theorem sA_000100000000000 {e : Env} {W : World} {n : Nat} {Q : Exit → Act → World → Prop} (h : Facts e W) (hd : decide (e.d1 ≤ e.d0) = true) (hQ : Q .normal (Fr e (.pointer (some ⟨e.B5, 2, none⟩)) (.int .i64 e.d1) (.slice (some ⟨e.b, e.off, none⟩) e.len e.cap) (.int .i64 (e.pl : Int)) (.pointer (some ⟨e.b, e.off + e.pl * 4, none⟩)) (.pointer (some ⟨e.b, e.off + e.pl * 4 + 2, none⟩)) (.int .i64 e.d0) (.bool true) (.bool true) (undef) (undef) (undef) (undef) (undef) (.bool true)) W) : wpAnyIn Fence.wide n Tryz.prog .any ops Q 14 #[false, false, false, true, false, false, false, false, false, false, false, false, false, false, false] (Fr e e.u0 e.u1 e.u2 (.int .i64 (e.pl : Int)) e.u4 e.u5 e.u6 e.u7 e.u8 e.u9 e.u10 e.u11 e.u12 e.u13 e.u14) W := by
  refine wpAnyIn_all (rs := [0, 2]) (by kernel_rfl) (by simp) ?_
  intro i hi
  simp only [List.mem_cons, List.not_mem_nil, or_false] at hi
  rcases hi with rfl | rfl
  · exact opA0 (sA_100100000000000 h hd hQ)
  · exact opA2 h (sA_001100000000000 h hd hQ)
theorem sA_001000000000000 {e : Env} {W : World} {n : Nat} {Q : Exit → Act → World → Prop} (h : Facts e W) (hd : decide (e.d1 ≤ e.d0) = true) (hQ : Q .normal (Fr e (.pointer (some ⟨e.B5, 2, none⟩)) (.int .i64 e.d1) (.slice (some ⟨e.b, e.off, none⟩) e.len e.cap) (.int .i64 (e.pl : Int)) (.pointer (some ⟨e.b, e.off + e.pl * 4, none⟩)) (.pointer (some ⟨e.b, e.off + e.pl * 4 + 2, none⟩)) (.int .i64 e.d0) (.bool true) (.bool true) (undef) (undef) (undef) (undef) (undef) (.bool true)) W) : wpAnyIn Fence.wide n Tryz.prog .any ops Q 14 #[false, false, true, false, false, false, false, false, false, false, false, false, false, false, false] (Fr e e.u0 e.u1 (.slice (some ⟨e.b, e.off, none⟩) e.len e.cap) e.u3 e.u4 e.u5 e.u6 e.u7 e.u8 e.u9 e.u10 e.u11 e.u12 e.u13 e.u14) W := by
  refine wpAnyIn_all (rs := [0, 3]) (by kernel_rfl) (by simp) ?_
  intro i hi
  simp only [List.mem_cons, List.not_mem_nil, or_false] at hi
  rcases hi with rfl | rfl
  · exact opA0 (sA_101000000000000 h hd hQ)
  · exact opA3 h (sA_001100000000000 h hd hQ)
theorem sA_100000000000000 {e : Env} {W : World} {n : Nat} {Q : Exit → Act → World → Prop} (h : Facts e W) (hd : decide (e.d1 ≤ e.d0) = true) (hQ : Q .normal (Fr e (.pointer (some ⟨e.B5, 2, none⟩)) (.int .i64 e.d1) (.slice (some ⟨e.b, e.off, none⟩) e.len e.cap) (.int .i64 (e.pl : Int)) (.pointer (some ⟨e.b, e.off + e.pl * 4, none⟩)) (.pointer (some ⟨e.b, e.off + e.pl * 4 + 2, none⟩)) (.int .i64 e.d0) (.bool true) (.bool true) (undef) (undef) (undef) (undef) (undef) (.bool true)) W) : wpAnyIn Fence.wide n Tryz.prog .any ops Q 14 #[true, false, false, false, false, false, false, false, false, false, false, false, false, false, false] (Fr e (.pointer (some ⟨e.B5, 2, none⟩)) e.u1 e.u2 e.u3 e.u4 e.u5 e.u6 e.u7 e.u8 e.u9 e.u10 e.u11 e.u12 e.u13 e.u14) W := by
  refine wpAnyIn_all (rs := [1, 2, 3]) (by kernel_rfl) (by simp) ?_
  intro i hi
  simp only [List.mem_cons, List.not_mem_nil, or_false] at hi
  rcases hi with rfl | rfl | rfl
  · exact opA1 h (sA_110000000000000 h hd hQ)
  · exact opA2 h (sA_101000000000000 h hd hQ)
  · exact opA3 h (sA_100100000000000 h hd hQ)
theorem sA_000000000000000 {e : Env} {W : World} {n : Nat} {Q : Exit → Act → World → Prop} (h : Facts e W) (hd : decide (e.d1 ≤ e.d0) = true) (hQ : Q .normal (Fr e (.pointer (some ⟨e.B5, 2, none⟩)) (.int .i64 e.d1) (.slice (some ⟨e.b, e.off, none⟩) e.len e.cap) (.int .i64 (e.pl : Int)) (.pointer (some ⟨e.b, e.off + e.pl * 4, none⟩)) (.pointer (some ⟨e.b, e.off + e.pl * 4 + 2, none⟩)) (.int .i64 e.d0) (.bool true) (.bool true) (undef) (undef) (undef) (undef) (undef) (.bool true)) W) : wpAnyIn Fence.wide n Tryz.prog .any ops Q 15 #[false, false, false, false, false, false, false, false, false, false, false, false, false, false, false] (Fr e e.u0 e.u1 e.u2 e.u3 e.u4 e.u5 e.u6 e.u7 e.u8 e.u9 e.u10 e.u11 e.u12 e.u13 e.u14) W := by
  refine wpAnyIn_all (rs := [0, 2, 3]) (by kernel_rfl) (by simp) ?_
  intro i hi
  simp only [List.mem_cons, List.not_mem_nil, or_false] at hi
  rcases hi with rfl | rfl | rfl
  · exact opA0 (sA_100000000000000 h hd hQ)
  · exact opA2 h (sA_001000000000000 h hd hQ)
  · exact opA3 h (sA_000100000000000 h hd hQ)
theorem sB_111111111111111 {e : Env} {r : Bool} {W : World} {n : Nat} {Q : Exit → Act → World → Prop} (hQ : Q .normal (Fr e (.pointer (some ⟨e.B5, 2, none⟩)) (.int .i64 e.d1) (.slice (some ⟨e.b, e.off, none⟩) e.len e.cap) (.int .i64 (e.pl : Int)) (.pointer (some ⟨e.b, e.off + e.pl * 4, none⟩)) (.pointer (some ⟨e.b, e.off + e.pl * 4 + 2, none⟩)) (.int .i64 e.d0) (.bool false) (.bool false) (.func (.yield e.l) #[] #[]) (.pointer (some ⟨e.B5, 0, none⟩)) (.agg #[.int .i64 e.o1, .int .i64 e.s1]) (.bool r) (.bool (!r)) (.bool (!r))) W) : wpAnyIn Fence.wide n Tryz.prog .any ops Q 0 #[true, true, true, true, true, true, true, true, true, true, true, true, true, true, true] (Fr e (.pointer (some ⟨e.B5, 2, none⟩)) (.int .i64 e.d1) (.slice (some ⟨e.b, e.off, none⟩) e.len e.cap) (.int .i64 (e.pl : Int)) (.pointer (some ⟨e.b, e.off + e.pl * 4, none⟩)) (.pointer (some ⟨e.b, e.off + e.pl * 4 + 2, none⟩)) (.int .i64 e.d0) (.bool false) (.bool false) (.func (.yield e.l) #[] #[]) (.pointer (some ⟨e.B5, 0, none⟩)) (.agg #[.int .i64 e.o1, .int .i64 e.s1]) (.bool r) (.bool (!r)) (.bool (!r))) W := wpAnyIn_done (by kernel_rfl) hQ _
theorem sB_111111111111110 {e : Env} {r : Bool} {W : World} {n : Nat} {Q : Exit → Act → World → Prop} (hQ : Q .normal (Fr e (.pointer (some ⟨e.B5, 2, none⟩)) (.int .i64 e.d1) (.slice (some ⟨e.b, e.off, none⟩) e.len e.cap) (.int .i64 (e.pl : Int)) (.pointer (some ⟨e.b, e.off + e.pl * 4, none⟩)) (.pointer (some ⟨e.b, e.off + e.pl * 4 + 2, none⟩)) (.int .i64 e.d0) (.bool false) (.bool false) (.func (.yield e.l) #[] #[]) (.pointer (some ⟨e.B5, 0, none⟩)) (.agg #[.int .i64 e.o1, .int .i64 e.s1]) (.bool r) (.bool (!r)) (.bool (!r))) W) : wpAnyIn Fence.wide n Tryz.prog .any ops Q 1 #[true, true, true, true, true, true, true, true, true, true, true, true, true, true, false] (Fr e (.pointer (some ⟨e.B5, 2, none⟩)) (.int .i64 e.d1) (.slice (some ⟨e.b, e.off, none⟩) e.len e.cap) (.int .i64 (e.pl : Int)) (.pointer (some ⟨e.b, e.off + e.pl * 4, none⟩)) (.pointer (some ⟨e.b, e.off + e.pl * 4 + 2, none⟩)) (.int .i64 e.d0) (.bool false) (.bool false) (.func (.yield e.l) #[] #[]) (.pointer (some ⟨e.B5, 0, none⟩)) (.agg #[.int .i64 e.o1, .int .i64 e.s1]) (.bool r) (.bool (!r)) e.u14) W := by
  refine wpAnyIn_all (rs := [14]) (by kernel_rfl) (by simp) ?_
  intro i hi
  simp only [List.mem_cons, List.not_mem_nil, or_false] at hi
  rcases hi with rfl
  · exact opB14 (sB_111111111111111 hQ)
theorem sB_111111111111100 {e : Env} {r : Bool} {W : World} {n : Nat} {Q : Exit → Act → World → Prop} (hQ : Q .normal (Fr e (.pointer (some ⟨e.B5, 2, none⟩)) (.int .i64 e.d1) (.slice (some ⟨e.b, e.off, none⟩) e.len e.cap) (.int .i64 (e.pl : Int)) (.pointer (some ⟨e.b, e.off + e.pl * 4, none⟩)) (.pointer (some ⟨e.b, e.off + e.pl * 4 + 2, none⟩)) (.int .i64 e.d0) (.bool false) (.bool false) (.func (.yield e.l) #[] #[]) (.pointer (some ⟨e.B5, 0, none⟩)) (.agg #[.int .i64 e.o1, .int .i64 e.s1]) (.bool r) (.bool (!r)) (.bool (!r))) W) : wpAnyIn Fence.wide n Tryz.prog .any ops Q 2 #[true, true, true, true, true, true, true, true, true, true, true, true, true, false, false] (Fr e (.pointer (some ⟨e.B5, 2, none⟩)) (.int .i64 e.d1) (.slice (some ⟨e.b, e.off, none⟩) e.len e.cap) (.int .i64 (e.pl : Int)) (.pointer (some ⟨e.b, e.off + e.pl * 4, none⟩)) (.pointer (some ⟨e.b, e.off + e.pl * 4 + 2, none⟩)) (.int .i64 e.d0) (.bool false) (.bool false) (.func (.yield e.l) #[] #[]) (.pointer (some ⟨e.B5, 0, none⟩)) (.agg #[.int .i64 e.o1, .int .i64 e.s1]) (.bool r) e.u13 e.u14) W := by
  refine wpAnyIn_all (rs := [13]) (by kernel_rfl) (by simp) ?_
  intro i hi
  simp only [List.mem_cons, List.not_mem_nil, or_false] at hi
  rcases hi with rfl
  · exact opB13 (sB_111111111111110 hQ)
theorem sB_111111111111000 {e : Env} {W : World} {n : Nat} {Q : Exit → Act → World → Prop} (h : Facts e W) (hd : decide (e.d1 ≤ e.d0) = false) (hC : wpAnyIn Fence.wide n Tryz.prog .any ops Q 3 #[true, true, true, true, true, true, true, true, true, true, true, true, false, false, false] (Fr e (.pointer (some ⟨e.B5, 2, none⟩)) (.int .i64 e.d1) (.slice (some ⟨e.b, e.off, none⟩) e.len e.cap) (.int .i64 (e.pl : Int)) (.pointer (some ⟨e.b, e.off + e.pl * 4, none⟩)) (.pointer (some ⟨e.b, e.off + e.pl * 4 + 2, none⟩)) (.int .i64 e.d0) (.bool false) (.bool false) (.func (.yield e.l) #[] #[]) (.pointer (some ⟨e.B5, 0, none⟩)) (.agg #[.int .i64 e.o1, .int .i64 e.s1]) e.u12 e.u13 e.u14) W) : wpAnyIn Fence.wide n Tryz.prog .any ops Q 3 #[true, true, true, true, true, true, true, true, true, true, true, true, false, false, false] (Fr e (.pointer (some ⟨e.B5, 2, none⟩)) (.int .i64 e.d1) (.slice (some ⟨e.b, e.off, none⟩) e.len e.cap) (.int .i64 (e.pl : Int)) (.pointer (some ⟨e.b, e.off + e.pl * 4, none⟩)) (.pointer (some ⟨e.b, e.off + e.pl * 4 + 2, none⟩)) (.int .i64 e.d0) (.bool false) (.bool false) (.func (.yield e.l) #[] #[]) (.pointer (some ⟨e.B5, 0, none⟩)) (.agg #[.int .i64 e.o1, .int .i64 e.s1]) e.u12 e.u13 e.u14) W := hC
theorem sB_111111111011000 {e : Env} {W : World} {n : Nat} {Q : Exit → Act → World → Prop} (h : Facts e W) (hd : decide (e.d1 ≤ e.d0) = false) (hC : wpAnyIn Fence.wide n Tryz.prog .any ops Q 3 #[true, true, true, true, true, true, true, true, true, true, true, true, false, false, false] (Fr e (.pointer (some ⟨e.B5, 2, none⟩)) (.int .i64 e.d1) (.slice (some ⟨e.b, e.off, none⟩) e.len e.cap) (.int .i64 (e.pl : Int)) (.pointer (some ⟨e.b, e.off + e.pl * 4, none⟩)) (.pointer (some ⟨e.b, e.off + e.pl * 4 + 2, none⟩)) (.int .i64 e.d0) (.bool false) (.bool false) (.func (.yield e.l) #[] #[]) (.pointer (some ⟨e.B5, 0, none⟩)) (.agg #[.int .i64 e.o1, .int .i64 e.s1]) e.u12 e.u13 e.u14) W) : wpAnyIn Fence.wide n Tryz.prog .any ops Q 4 #[true, true, true, true, true, true, true, true, true, false, true, true, false, false, false] (Fr e (.pointer (some ⟨e.B5, 2, none⟩)) (.int .i64 e.d1) (.slice (some ⟨e.b, e.off, none⟩) e.len e.cap) (.int .i64 (e.pl : Int)) (.pointer (some ⟨e.b, e.off + e.pl * 4, none⟩)) (.pointer (some ⟨e.b, e.off + e.pl * 4 + 2, none⟩)) (.int .i64 e.d0) (.bool false) (.bool false) e.u9 (.pointer (some ⟨e.B5, 0, none⟩)) (.agg #[.int .i64 e.o1, .int .i64 e.s1]) e.u12 e.u13 e.u14) W := by
  refine wpAnyIn_all (rs := [9]) (by kernel_rfl) (by simp) ?_
  intro i hi
  simp only [List.mem_cons, List.not_mem_nil, or_false] at hi
  rcases hi with rfl
  · exact opB9 (sB_111111111111000 h hd hC)
theorem sB_111111111110000 {e : Env} {W : World} {n : Nat} {Q : Exit → Act → World → Prop} (h : Facts e W) (hd : decide (e.d1 ≤ e.d0) = false) (hC : wpAnyIn Fence.wide n Tryz.prog .any ops Q 3 #[true, true, true, true, true, true, true, true, true, true, true, true, false, false, false] (Fr e (.pointer (some ⟨e.B5, 2, none⟩)) (.int .i64 e.d1) (.slice (some ⟨e.b, e.off, none⟩) e.len e.cap) (.int .i64 (e.pl : Int)) (.pointer (some ⟨e.b, e.off + e.pl * 4, none⟩)) (.pointer (some ⟨e.b, e.off + e.pl * 4 + 2, none⟩)) (.int .i64 e.d0) (.bool false) (.bool false) (.func (.yield e.l) #[] #[]) (.pointer (some ⟨e.B5, 0, none⟩)) (.agg #[.int .i64 e.o1, .int .i64 e.s1]) e.u12 e.u13 e.u14) W) : wpAnyIn Fence.wide n Tryz.prog .any ops Q 4 #[true, true, true, true, true, true, true, true, true, true, true, false, false, false, false] (Fr e (.pointer (some ⟨e.B5, 2, none⟩)) (.int .i64 e.d1) (.slice (some ⟨e.b, e.off, none⟩) e.len e.cap) (.int .i64 (e.pl : Int)) (.pointer (some ⟨e.b, e.off + e.pl * 4, none⟩)) (.pointer (some ⟨e.b, e.off + e.pl * 4 + 2, none⟩)) (.int .i64 e.d0) (.bool false) (.bool false) (.func (.yield e.l) #[] #[]) (.pointer (some ⟨e.B5, 0, none⟩)) e.u11 e.u12 e.u13 e.u14) W := by
  refine wpAnyIn_all (rs := [11]) (by kernel_rfl) (by simp) ?_
  intro i hi
  simp only [List.mem_cons, List.not_mem_nil, or_false] at hi
  rcases hi with rfl
  · exact opB11 h (sB_111111111111000 h hd hC)
theorem sB_111111111010000 {e : Env} {W : World} {n : Nat} {Q : Exit → Act → World → Prop} (h : Facts e W) (hd : decide (e.d1 ≤ e.d0) = false) (hC : wpAnyIn Fence.wide n Tryz.prog .any ops Q 3 #[true, true, true, true, true, true, true, true, true, true, true, true, false, false, false] (Fr e (.pointer (some ⟨e.B5, 2, none⟩)) (.int .i64 e.d1) (.slice (some ⟨e.b, e.off, none⟩) e.len e.cap) (.int .i64 (e.pl : Int)) (.pointer (some ⟨e.b, e.off + e.pl * 4, none⟩)) (.pointer (some ⟨e.b, e.off + e.pl * 4 + 2, none⟩)) (.int .i64 e.d0) (.bool false) (.bool false) (.func (.yield e.l) #[] #[]) (.pointer (some ⟨e.B5, 0, none⟩)) (.agg #[.int .i64 e.o1, .int .i64 e.s1]) e.u12 e.u13 e.u14) W) : wpAnyIn Fence.wide n Tryz.prog .any ops Q 5 #[true, true, true, true, true, true, true, true, true, false, true, false, false, false, false] (Fr e (.pointer (some ⟨e.B5, 2, none⟩)) (.int .i64 e.d1) (.slice (some ⟨e.b, e.off, none⟩) e.len e.cap) (.int .i64 (e.pl : Int)) (.pointer (some ⟨e.b, e.off + e.pl * 4, none⟩)) (.pointer (some ⟨e.b, e.off + e.pl * 4 + 2, none⟩)) (.int .i64 e.d0) (.bool false) (.bool false) e.u9 (.pointer (some ⟨e.B5, 0, none⟩)) e.u11 e.u12 e.u13 e.u14) W := by
  refine wpAnyIn_all (rs := [9, 11]) (by kernel_rfl) (by simp) ?_
  intro i hi
  simp only [List.mem_cons, List.not_mem_nil, or_false] at hi
  rcases hi with rfl | rfl
  · exact opB9 (sB_111111111110000 h hd hC)
  · exact opB11 h (sB_111111111011000 h hd hC)
theorem sB_111111111100000 {e : Env} {W : World} {n : Nat} {Q : Exit → Act → World → Prop} (h : Facts e W) (hd : decide (e.d1 ≤ e.d0) = false) (hC : wpAnyIn Fence.wide n Tryz.prog .any ops Q 3 #[true, true, true, true, true, true, true, true, true, true, true, true, false, false, false] (Fr e (.pointer (some ⟨e.B5, 2, none⟩)) (.int .i64 e.d1) (.slice (some ⟨e.b, e.off, none⟩) e.len e.cap) (.int .i64 (e.pl : Int)) (.pointer (some ⟨e.b, e.off + e.pl * 4, none⟩)) (.pointer (some ⟨e.b, e.off + e.pl * 4 + 2, none⟩)) (.int .i64 e.d0) (.bool false) (.bool false) (.func (.yield e.l) #[] #[]) (.pointer (some ⟨e.B5, 0, none⟩)) (.agg #[.int .i64 e.o1, .int .i64 e.s1]) e.u12 e.u13 e.u14) W) : wpAnyIn Fence.wide n Tryz.prog .any ops Q 5 #[true, true, true, true, true, true, true, true, true, true, false, false, false, false, false] (Fr e (.pointer (some ⟨e.B5, 2, none⟩)) (.int .i64 e.d1) (.slice (some ⟨e.b, e.off, none⟩) e.len e.cap) (.int .i64 (e.pl : Int)) (.pointer (some ⟨e.b, e.off + e.pl * 4, none⟩)) (.pointer (some ⟨e.b, e.off + e.pl * 4 + 2, none⟩)) (.int .i64 e.d0) (.bool false) (.bool false) (.func (.yield e.l) #[] #[]) e.u10 e.u11 e.u12 e.u13 e.u14) W := by
  refine wpAnyIn_all (rs := [10]) (by kernel_rfl) (by simp) ?_
  intro i hi
  simp only [List.mem_cons, List.not_mem_nil, or_false] at hi
  rcases hi with rfl
  · exact opB10 (sB_111111111110000 h hd hC)
theorem sB_111111111000000 {e : Env} {W : World} {n : Nat} {Q : Exit → Act → World → Prop} (h : Facts e W) (hd : decide (e.d1 ≤ e.d0) = false) (hC : wpAnyIn Fence.wide n Tryz.prog .any ops Q 3 #[true, true, true, true, true, true, true, true, true, true, true, true, false, false, false] (Fr e (.pointer (some ⟨e.B5, 2, none⟩)) (.int .i64 e.d1) (.slice (some ⟨e.b, e.off, none⟩) e.len e.cap) (.int .i64 (e.pl : Int)) (.pointer (some ⟨e.b, e.off + e.pl * 4, none⟩)) (.pointer (some ⟨e.b, e.off + e.pl * 4 + 2, none⟩)) (.int .i64 e.d0) (.bool false) (.bool false) (.func (.yield e.l) #[] #[]) (.pointer (some ⟨e.B5, 0, none⟩)) (.agg #[.int .i64 e.o1, .int .i64 e.s1]) e.u12 e.u13 e.u14) W) : wpAnyIn Fence.wide n Tryz.prog .any ops Q 6 #[true, true, true, true, true, true, true, true, true, false, false, false, false, false, false] (Fr e (.pointer (some ⟨e.B5, 2, none⟩)) (.int .i64 e.d1) (.slice (some ⟨e.b, e.off, none⟩) e.len e.cap) (.int .i64 (e.pl : Int)) (.pointer (some ⟨e.b, e.off + e.pl * 4, none⟩)) (.pointer (some ⟨e.b, e.off + e.pl * 4 + 2, none⟩)) (.int .i64 e.d0) (.bool false) (.bool false) e.u9 e.u10 e.u11 e.u12 e.u13 e.u14) W := by
  refine wpAnyIn_all (rs := [9, 10]) (by kernel_rfl) (by simp) ?_
  intro i hi
  simp only [List.mem_cons, List.not_mem_nil, or_false] at hi
  rcases hi with rfl | rfl
  · exact opB9 (sB_111111111100000 h hd hC)
  · exact opB10 (sB_111111111010000 h hd hC)
theorem sB_111111110000000 {e : Env} {W : World} {n : Nat} {Q : Exit → Act → World → Prop} (h : Facts e W) (hd : decide (e.d1 ≤ e.d0) = false) (hC : wpAnyIn Fence.wide n Tryz.prog .any ops Q 3 #[true, true, true, true, true, true, true, true, true, true, true, true, false, false, false] (Fr e (.pointer (some ⟨e.B5, 2, none⟩)) (.int .i64 e.d1) (.slice (some ⟨e.b, e.off, none⟩) e.len e.cap) (.int .i64 (e.pl : Int)) (.pointer (some ⟨e.b, e.off + e.pl * 4, none⟩)) (.pointer (some ⟨e.b, e.off + e.pl * 4 + 2, none⟩)) (.int .i64 e.d0) (.bool false) (.bool false) (.func (.yield e.l) #[] #[]) (.pointer (some ⟨e.B5, 0, none⟩)) (.agg #[.int .i64 e.o1, .int .i64 e.s1]) e.u12 e.u13 e.u14) W) : wpAnyIn Fence.wide n Tryz.prog .any ops Q 7 #[true, true, true, true, true, true, true, true, false, false, false, false, false, false, false] (Fr e (.pointer (some ⟨e.B5, 2, none⟩)) (.int .i64 e.d1) (.slice (some ⟨e.b, e.off, none⟩) e.len e.cap) (.int .i64 (e.pl : Int)) (.pointer (some ⟨e.b, e.off + e.pl * 4, none⟩)) (.pointer (some ⟨e.b, e.off + e.pl * 4 + 2, none⟩)) (.int .i64 e.d0) (.bool false) e.u8 e.u9 e.u10 e.u11 e.u12 e.u13 e.u14) W := by
  refine wpAnyIn_all (rs := [8]) (by kernel_rfl) (by simp) ?_
  intro i hi
  simp only [List.mem_cons, List.not_mem_nil, or_false] at hi
  rcases hi with rfl
  · exact opB8 (sB_111111111000000 h hd hC)
theorem sB_111111100000000 {e : Env} {W : World} {n : Nat} {Q : Exit → Act → World → Prop} (h : Facts e W) (hd : decide (e.d1 ≤ e.d0) = false) (hC : wpAnyIn Fence.wide n Tryz.prog .any ops Q 3 #[true, true, true, true, true, true, true, true, true, true, true, true, false, false, false] (Fr e (.pointer (some ⟨e.B5, 2, none⟩)) (.int .i64 e.d1) (.slice (some ⟨e.b, e.off, none⟩) e.len e.cap) (.int .i64 (e.pl : Int)) (.pointer (some ⟨e.b, e.off + e.pl * 4, none⟩)) (.pointer (some ⟨e.b, e.off + e.pl * 4 + 2, none⟩)) (.int .i64 e.d0) (.bool false) (.bool false) (.func (.yield e.l) #[] #[]) (.pointer (some ⟨e.B5, 0, none⟩)) (.agg #[.int .i64 e.o1, .int .i64 e.s1]) e.u12 e.u13 e.u14) W) : wpAnyIn Fence.wide n Tryz.prog .any ops Q 8 #[true, true, true, true, true, true, true, false, false, false, false, false, false, false, false] (Fr e (.pointer (some ⟨e.B5, 2, none⟩)) (.int .i64 e.d1) (.slice (some ⟨e.b, e.off, none⟩) e.len e.cap) (.int .i64 (e.pl : Int)) (.pointer (some ⟨e.b, e.off + e.pl * 4, none⟩)) (.pointer (some ⟨e.b, e.off + e.pl * 4 + 2, none⟩)) (.int .i64 e.d0) e.u7 e.u8 e.u9 e.u10 e.u11 e.u12 e.u13 e.u14) W := by
  refine wpAnyIn_all (rs := [7]) (by kernel_rfl) (by simp) ?_
  intro i hi
  simp only [List.mem_cons, List.not_mem_nil, or_false] at hi
  rcases hi with rfl
  · exact opB7 hd (sB_111111110000000 h hd hC)
theorem sB_101111100000000 {e : Env} {W : World} {n : Nat} {Q : Exit → Act → World → Prop} (h : Facts e W) (hd : decide (e.d1 ≤ e.d0) = false) (hC : wpAnyIn Fence.wide n Tryz.prog .any ops Q 3 #[true, true, true, true, true, true, true, true, true, true, true, true, false, false, false] (Fr e (.pointer (some ⟨e.B5, 2, none⟩)) (.int .i64 e.d1) (.slice (some ⟨e.b, e.off, none⟩) e.len e.cap) (.int .i64 (e.pl : Int)) (.pointer (some ⟨e.b, e.off + e.pl * 4, none⟩)) (.pointer (some ⟨e.b, e.off + e.pl * 4 + 2, none⟩)) (.int .i64 e.d0) (.bool false) (.bool false) (.func (.yield e.l) #[] #[]) (.pointer (some ⟨e.B5, 0, none⟩)) (.agg #[.int .i64 e.o1, .int .i64 e.s1]) e.u12 e.u13 e.u14) W) : wpAnyIn Fence.wide n Tryz.prog .any ops Q 9 #[true, false, true, true, true, true, true, false, false, false, false, false, false, false, false] (Fr e (.pointer (some ⟨e.B5, 2, none⟩)) e.u1 (.slice (some ⟨e.b, e.off, none⟩) e.len e.cap) (.int .i64 (e.pl : Int)) (.pointer (some ⟨e.b, e.off + e.pl * 4, none⟩)) (.pointer (some ⟨e.b, e.off + e.pl * 4 + 2, none⟩)) (.int .i64 e.d0) e.u7 e.u8 e.u9 e.u10 e.u11 e.u12 e.u13 e.u14) W := by
  refine wpAnyIn_all (rs := [1]) (by kernel_rfl) (by simp) ?_
  intro i hi
  simp only [List.mem_cons, List.not_mem_nil, or_false] at hi
  rcases hi with rfl
  · exact opA1 h (sB_111111100000000 h hd hC)
theorem sB_111111000000000 {e : Env} {W : World} {n : Nat} {Q : Exit → Act → World → Prop} (h : Facts e W) (hd : decide (e.d1 ≤ e.d0) = false) (hC : wpAnyIn Fence.wide n Tryz.prog .any ops Q 3 #[true, true, true, true, true, true, true, true, true, true, true, true, false, false, false] (Fr e (.pointer (some ⟨e.B5, 2, none⟩)) (.int .i64 e.d1) (.slice (some ⟨e.b, e.off, none⟩) e.len e.cap) (.int .i64 (e.pl : Int)) (.pointer (some ⟨e.b, e.off + e.pl * 4, none⟩)) (.pointer (some ⟨e.b, e.off + e.pl * 4 + 2, none⟩)) (.int .i64 e.d0) (.bool false) (.bool false) (.func (.yield e.l) #[] #[]) (.pointer (some ⟨e.B5, 0, none⟩)) (.agg #[.int .i64 e.o1, .int .i64 e.s1]) e.u12 e.u13 e.u14) W) : wpAnyIn Fence.wide n Tryz.prog .any ops Q 9 #[true, true, true, true, true, true, false, false, false, false, false, false, false, false, false] (Fr e (.pointer (some ⟨e.B5, 2, none⟩)) (.int .i64 e.d1) (.slice (some ⟨e.b, e.off, none⟩) e.len e.cap) (.int .i64 (e.pl : Int)) (.pointer (some ⟨e.b, e.off + e.pl * 4, none⟩)) (.pointer (some ⟨e.b, e.off + e.pl * 4 + 2, none⟩)) e.u6 e.u7 e.u8 e.u9 e.u10 e.u11 e.u12 e.u13 e.u14) W := by
  refine wpAnyIn_all (rs := [6]) (by kernel_rfl) (by simp) ?_
  intro i hi
  simp only [List.mem_cons, List.not_mem_nil, or_false] at hi
  rcases hi with rfl
  · exact opA6 h (sB_111111100000000 h hd hC)
theorem sB_001111100000000 {e : Env} {W : World} {n : Nat} {Q : Exit → Act → World → Prop} (h : Facts e W) (hd : decide (e.d1 ≤ e.d0) = false) (hC : wpAnyIn Fence.wide n Tryz.prog .any ops Q 3 #[true, true, true, true, true, true, true, true, true, true, true, true, false, false, false] (Fr e (.pointer (some ⟨e.B5, 2, none⟩)) (.int .i64 e.d1) (.slice (some ⟨e.b, e.off, none⟩) e.len e.cap) (.int .i64 (e.pl : Int)) (.pointer (some ⟨e.b, e.off + e.pl * 4, none⟩)) (.pointer (some ⟨e.b, e.off + e.pl * 4 + 2, none⟩)) (.int .i64 e.d0) (.bool false) (.bool false) (.func (.yield e.l) #[] #[]) (.pointer (some ⟨e.B5, 0, none⟩)) (.agg #[.int .i64 e.o1, .int .i64 e.s1]) e.u12 e.u13 e.u14) W) : wpAnyIn Fence.wide n Tryz.prog .any ops Q 10 #[false, false, true, true, true, true, true, false, false, false, false, false, false, false, false] (Fr e e.u0 e.u1 (.slice (some ⟨e.b, e.off, none⟩) e.len e.cap) (.int .i64 (e.pl : Int)) (.pointer (some ⟨e.b, e.off + e.pl * 4, none⟩)) (.pointer (some ⟨e.b, e.off + e.pl * 4 + 2, none⟩)) (.int .i64 e.d0) e.u7 e.u8 e.u9 e.u10 e.u11 e.u12 e.u13 e.u14) W := by
  refine wpAnyIn_all (rs := [0]) (by kernel_rfl) (by simp) ?_
  intro i hi
  simp only [List.mem_cons, List.not_mem_nil, or_false] at hi
  rcases hi with rfl
  · exact opA0 (sB_101111100000000 h hd hC)
theorem sB_101111000000000 {e : Env} {W : World} {n : Nat} {Q : Exit → Act → World → Prop} (h : Facts e W) (hd : decide (e.d1 ≤ e.d0) = false) (hC : wpAnyIn Fence.wide n Tryz.prog .any ops Q 3 #[true, true, true, true, true, true, true, true, true, true, true, true, false, false, false] (Fr e (.pointer (some ⟨e.B5, 2, none⟩)) (.int .i64 e.d1) (.slice (some ⟨e.b, e.off, none⟩) e.len e.cap) (.int .i64 (e.pl : Int)) (.pointer (some ⟨e.b, e.off + e.pl * 4, none⟩)) (.pointer (some ⟨e.b, e.off + e.pl * 4 + 2, none⟩)) (.int .i64 e.d0) (.bool false) (.bool false) (.func (.yield e.l) #[] #[]) (.pointer (some ⟨e.B5, 0, none⟩)) (.agg #[.int .i64 e.o1, .int .i64 e.s1]) e.u12 e.u13 e.u14) W) : wpAnyIn Fence.wide n Tryz.prog .any ops Q 10 #[true, false, true, true, true, true, false, false, false, false, false, false, false, false, false] (Fr e (.pointer (some ⟨e.B5, 2, none⟩)) e.u1 (.slice (some ⟨e.b, e.off, none⟩) e.len e.cap) (.int .i64 (e.pl : Int)) (.pointer (some ⟨e.b, e.off + e.pl * 4, none⟩)) (.pointer (some ⟨e.b, e.off + e.pl * 4 + 2, none⟩)) e.u6 e.u7 e.u8 e.u9 e.u10 e.u11 e.u12 e.u13 e.u14) W := by
  refine wpAnyIn_all (rs := [1, 6]) (by kernel_rfl) (by simp) ?_
  intro i hi
  simp only [List.mem_cons, List.not_mem_nil, or_false] at hi
  rcases hi with rfl | rfl
  · exact opA1 h (sB_111111000000000 h hd hC)
  · exact opA6 h (sB_101111100000000 h hd hC)
theorem sB_111110000000000 {e : Env} {W : World} {n : Nat} {Q : Exit → Act → World → Prop} (h : Facts e W) (hd : decide (e.d1 ≤ e.d0) = false) (hC : wpAnyIn Fence.wide n Tryz.prog .any ops Q 3 #[true, true, true, true, true, true, true, true, true, true, true, true, false, false, false] (Fr e (.pointer (some ⟨e.B5, 2, none⟩)) (.int .i64 e.d1) (.slice (some ⟨e.b, e.off, none⟩) e.len e.cap) (.int .i64 (e.pl : Int)) (.pointer (some ⟨e.b, e.off + e.pl * 4, none⟩)) (.pointer (some ⟨e.b, e.off + e.pl * 4 + 2, none⟩)) (.int .i64 e.d0) (.bool false) (.bool false) (.func (.yield e.l) #[] #[]) (.pointer (some ⟨e.B5, 0, none⟩)) (.agg #[.int .i64 e.o1, .int .i64 e.s1]) e.u12 e.u13 e.u14) W) : wpAnyIn Fence.wide n Tryz.prog .any ops Q 10 #[true, true, true, true, true, false, false, false, false, false, false, false, false, false, false] (Fr e (.pointer (some ⟨e.B5, 2, none⟩)) (.int .i64 e.d1) (.slice (some ⟨e.b, e.off, none⟩) e.len e.cap) (.int .i64 (e.pl : Int)) (.pointer (some ⟨e.b, e.off + e.pl * 4, none⟩)) e.u5 e.u6 e.u7 e.u8 e.u9 e.u10 e.u11 e.u12 e.u13 e.u14) W := by
  refine wpAnyIn_all (rs := [5]) (by kernel_rfl) (by simp) ?_
  intro i hi
  simp only [List.mem_cons, List.not_mem_nil, or_false] at hi
  rcases hi with rfl
  · exact opA5 (sB_111111000000000 h hd hC)
theorem sB_001111000000000 {e : Env} {W : World} {n : Nat} {Q : Exit → Act → World → Prop} (h : Facts e W) (hd : decide (e.d1 ≤ e.d0) = false) (hC : wpAnyIn Fence.wide n Tryz.prog .any ops Q 3 #[true, true, true, true, true, true, true, true, true, true, true, true, false, false, false] (Fr e (.pointer (some ⟨e.B5, 2, none⟩)) (.int .i64 e.d1) (.slice (some ⟨e.b, e.off, none⟩) e.len e.cap) (.int .i64 (e.pl : Int)) (.pointer (some ⟨e.b, e.off + e.pl * 4, none⟩)) (.pointer (some ⟨e.b, e.off + e.pl * 4 + 2, none⟩)) (.int .i64 e.d0) (.bool false) (.bool false) (.func (.yield e.l) #[] #[]) (.pointer (some ⟨e.B5, 0, none⟩)) (.agg #[.int .i64 e.o1, .int .i64 e.s1]) e.u12 e.u13 e.u14) W) : wpAnyIn Fence.wide n Tryz.prog .any ops Q 11 #[false, false, true, true, true, true, false, false, false, false, false, false, false, false, false] (Fr e e.u0 e.u1 (.slice (some ⟨e.b, e.off, none⟩) e.len e.cap) (.int .i64 (e.pl : Int)) (.pointer (some ⟨e.b, e.off + e.pl * 4, none⟩)) (.pointer (some ⟨e.b, e.off + e.pl * 4 + 2, none⟩)) e.u6 e.u7 e.u8 e.u9 e.u10 e.u11 e.u12 e.u13 e.u14) W := by
  refine wpAnyIn_all (rs := [0, 6]) (by kernel_rfl) (by simp) ?_
  intro i hi
  simp only [List.mem_cons, List.not_mem_nil, or_false] at hi
  rcases hi with rfl | rfl
  · exact opA0 (sB_101111000000000 h hd hC)
  · exact opA6 h (sB_001111100000000 h hd hC)
theorem sB_101110000000000 {e : Env} {W : World} {n : Nat} {Q : Exit → Act → World → Prop} (h : Facts e W) (hd : decide (e.d1 ≤ e.d0) = false) (hC : wpAnyIn Fence.wide n Tryz.prog .any ops Q 3 #[true, true, true, true, true, true, true, true, true, true, true, true, false, false, false] (Fr e (.pointer (some ⟨e.B5, 2, none⟩)) (.int .i64 e.d1) (.slice (some ⟨e.b, e.off, none⟩) e.len e.cap) (.int .i64 (e.pl : Int)) (.pointer (some ⟨e.b, e.off + e.pl * 4, none⟩)) (.pointer (some ⟨e.b, e.off + e.pl * 4 + 2, none⟩)) (.int .i64 e.d0) (.bool false) (.bool false) (.func (.yield e.l) #[] #[]) (.pointer (some ⟨e.B5, 0, none⟩)) (.agg #[.int .i64 e.o1, .int .i64 e.s1]) e.u12 e.u13 e.u14) W) : wpAnyIn Fence.wide n Tryz.prog .any ops Q 11 #[true, false, true, true, true, false, false, false, false, false, false, false, false, false, false] (Fr e (.pointer (some ⟨e.B5, 2, none⟩)) e.u1 (.slice (some ⟨e.b, e.off, none⟩) e.len e.cap) (.int .i64 (e.pl : Int)) (.pointer (some ⟨e.b, e.off + e.pl * 4, none⟩)) e.u5 e.u6 e.u7 e.u8 e.u9 e.u10 e.u11 e.u12 e.u13 e.u14) W := by
  refine wpAnyIn_all (rs := [1, 5]) (by kernel_rfl) (by simp) ?_
  intro i hi
  simp only [List.mem_cons, List.not_mem_nil, or_false] at hi
  rcases hi with rfl | rfl
  · exact opA1 h (sB_111110000000000 h hd hC)
  · exact opA5 (sB_101111000000000 h hd hC)
theorem sB_111100000000000 {e : Env} {W : World} {n : Nat} {Q : Exit → Act → World → Prop} (h : Facts e W) (hd : decide (e.d1 ≤ e.d0) = false) (hC : wpAnyIn Fence.wide n Tryz.prog .any ops Q 3 #[true, true, true, true, true, true, true, true, true, true, true, true, false, false, false] (Fr e (.pointer (some ⟨e.B5, 2, none⟩)) (.int .i64 e.d1) (.slice (some ⟨e.b, e.off, none⟩) e.len e.cap) (.int .i64 (e.pl : Int)) (.pointer (some ⟨e.b, e.off + e.pl * 4, none⟩)) (.pointer (some ⟨e.b, e.off + e.pl * 4 + 2, none⟩)) (.int .i64 e.d0) (.bool false) (.bool false) (.func (.yield e.l) #[] #[]) (.pointer (some ⟨e.B5, 0, none⟩)) (.agg #[.int .i64 e.o1, .int .i64 e.s1]) e.u12 e.u13 e.u14) W) : wpAnyIn Fence.wide n Tryz.prog .any ops Q 11 #[true, true, true, true, false, false, false, false, false, false, false, false, false, false, false] (Fr e (.pointer (some ⟨e.B5, 2, none⟩)) (.int .i64 e.d1) (.slice (some ⟨e.b, e.off, none⟩) e.len e.cap) (.int .i64 (e.pl : Int)) e.u4 e.u5 e.u6 e.u7 e.u8 e.u9 e.u10 e.u11 e.u12 e.u13 e.u14) W := by
  refine wpAnyIn_all (rs := [4]) (by kernel_rfl) (by simp) ?_
  intro i hi
  simp only [List.mem_cons, List.not_mem_nil, or_false] at hi
  rcases hi with rfl
  · exact opA4 h (sB_111110000000000 h hd hC)
theorem sB_001110000000000 {e : Env} {W : World} {n : Nat} {Q : Exit → Act → World → Prop} (h : Facts e W) (hd : decide (e.d1 ≤ e.d0) = false) (hC : wpAnyIn Fence.wide n Tryz.prog .any ops Q 3 #[true, true, true, true, true, true, true, true, true, true, true, true, false, false, false] (Fr e (.pointer (some ⟨e.B5, 2, none⟩)) (.int .i64 e.d1) (.slice (some ⟨e.b, e.off, none⟩) e.len e.cap) (.int .i64 (e.pl : Int)) (.pointer (some ⟨e.b, e.off + e.pl * 4, none⟩)) (.pointer (some ⟨e.b, e.off + e.pl * 4 + 2, none⟩)) (.int .i64 e.d0) (.bool false) (.bool false) (.func (.yield e.l) #[] #[]) (.pointer (some ⟨e.B5, 0, none⟩)) (.agg #[.int .i64 e.o1, .int .i64 e.s1]) e.u12 e.u13 e.u14) W) : wpAnyIn Fence.wide n Tryz.prog .any ops Q 12 #[false, false, true, true, true, false, false, false, false, false, false, false, false, false, false] (Fr e e.u0 e.u1 (.slice (some ⟨e.b, e.off, none⟩) e.len e.cap) (.int .i64 (e.pl : Int)) (.pointer (some ⟨e.b, e.off + e.pl * 4, none⟩)) e.u5 e.u6 e.u7 e.u8 e.u9 e.u10 e.u11 e.u12 e.u13 e.u14) W := by
  refine wpAnyIn_all (rs := [0, 5]) (by kernel_rfl) (by simp) ?_
  intro i hi
  simp only [List.mem_cons, List.not_mem_nil, or_false] at hi
  rcases hi with rfl | rfl
  · exact opA0 (sB_101110000000000 h hd hC)
  · exact opA5 (sB_001111000000000 h hd hC)
theorem sB_101100000000000 {e : Env} {W : World} {n : Nat} {Q : Exit → Act → World → Prop} (h : Facts e W) (hd : decide (e.d1 ≤ e.d0) = false) (hC : wpAnyIn Fence.wide n Tryz.prog .any ops Q 3 #[true, true, true, true, true, true, true, true, true, true, true, true, false, false, false] (Fr e (.pointer (some ⟨e.B5, 2, none⟩)) (.int .i64 e.d1) (.slice (some ⟨e.b, e.off, none⟩) e.len e.cap) (.int .i64 (e.pl : Int)) (.pointer (some ⟨e.b, e.off + e.pl * 4, none⟩)) (.pointer (some ⟨e.b, e.off + e.pl * 4 + 2, none⟩)) (.int .i64 e.d0) (.bool false) (.bool false) (.func (.yield e.l) #[] #[]) (.pointer (some ⟨e.B5, 0, none⟩)) (.agg #[.int .i64 e.o1, .int .i64 e.s1]) e.u12 e.u13 e.u14) W) : wpAnyIn Fence.wide n Tryz.prog .any ops Q 12 #[true, false, true, true, false, false, false, false, false, false, false, false, false, false, false] (Fr e (.pointer (some ⟨e.B5, 2, none⟩)) e.u1 (.slice (some ⟨e.b, e.off, none⟩) e.len e.cap) (.int .i64 (e.pl : Int)) e.u4 e.u5 e.u6 e.u7 e.u8 e.u9 e.u10 e.u11 e.u12 e.u13 e.u14) W := by
  refine wpAnyIn_all (rs := [1, 4]) (by kernel_rfl) (by simp) ?_
  intro i hi
  simp only [List.mem_cons, List.not_mem_nil, or_false] at hi
  rcases hi with rfl | rfl
  · exact opA1 h (sB_111100000000000 h hd hC)
  · exact opA4 h (sB_101110000000000 h hd hC)
theorem sB_110100000000000 {e : Env} {W : World} {n : Nat} {Q : Exit → Act → World → Prop} (h : Facts e W) (hd : decide (e.d1 ≤ e.d0) = false) (hC : wpAnyIn Fence.wide n Tryz.prog .any ops Q 3 #[true, true, true, true, true, true, true, true, true, true, true, true, false, false, false] (Fr e (.pointer (some ⟨e.B5, 2, none⟩)) (.int .i64 e.d1) (.slice (some ⟨e.b, e.off, none⟩) e.len e.cap) (.int .i64 (e.pl : Int)) (.pointer (some ⟨e.b, e.off + e.pl * 4, none⟩)) (.pointer (some ⟨e.b, e.off + e.pl * 4 + 2, none⟩)) (.int .i64 e.d0) (.bool false) (.bool false) (.func (.yield e.l) #[] #[]) (.pointer (some ⟨e.B5, 0, none⟩)) (.agg #[.int .i64 e.o1, .int .i64 e.s1]) e.u12 e.u13 e.u14) W) : wpAnyIn Fence.wide n Tryz.prog .any ops Q 12 #[true, true, false, true, false, false, false, false, false, false, false, false, false, false, false] (Fr e (.pointer (some ⟨e.B5, 2, none⟩)) (.int .i64 e.d1) e.u2 (.int .i64 (e.pl : Int)) e.u4 e.u5 e.u6 e.u7 e.u8 e.u9 e.u10 e.u11 e.u12 e.u13 e.u14) W := by
  refine wpAnyIn_all (rs := [2]) (by kernel_rfl) (by simp) ?_
  intro i hi
  simp only [List.mem_cons, List.not_mem_nil, or_false] at hi
  rcases hi with rfl
  · exact opA2 h (sB_111100000000000 h hd hC)
theorem sB_111000000000000 {e : Env} {W : World} {n : Nat} {Q : Exit → Act → World → Prop} (h : Facts e W) (hd : decide (e.d1 ≤ e.d0) = false) (hC : wpAnyIn Fence.wide n Tryz.prog .any ops Q 3 #[true, true, true, true, true, true, true, true, true, true, true, true, false, false, false] (Fr e (.pointer (some ⟨e.B5, 2, none⟩)) (.int .i64 e.d1) (.slice (some ⟨e.b, e.off, none⟩) e.len e.cap) (.int .i64 (e.pl : Int)) (.pointer (some ⟨e.b, e.off + e.pl * 4, none⟩)) (.pointer (some ⟨e.b, e.off + e.pl * 4 + 2, none⟩)) (.int .i64 e.d0) (.bool false) (.bool false) (.func (.yield e.l) #[] #[]) (.pointer (some ⟨e.B5, 0, none⟩)) (.agg #[.int .i64 e.o1, .int .i64 e.s1]) e.u12 e.u13 e.u14) W) : wpAnyIn Fence.wide n Tryz.prog .any ops Q 12 #[true, true, true, false, false, false, false, false, false, false, false, false, false, false, false] (Fr e (.pointer (some ⟨e.B5, 2, none⟩)) (.int .i64 e.d1) (.slice (some ⟨e.b, e.off, none⟩) e.len e.cap) e.u3 e.u4 e.u5 e.u6 e.u7 e.u8 e.u9 e.u10 e.u11 e.u12 e.u13 e.u14) W := by
  refine wpAnyIn_all (rs := [3]) (by kernel_rfl) (by simp) ?_
  intro i hi
  simp only [List.mem_cons, List.not_mem_nil, or_false] at hi
  rcases hi with rfl
  · exact opA3 h (sB_111100000000000 h hd hC)
theorem sB_001100000000000 {e : Env} {W : World} {n : Nat} {Q : Exit → Act → World → Prop} (h : Facts e W) (hd : decide (e.d1 ≤ e.d0) = false) (hC : wpAnyIn Fence.wide n Tryz.prog .any ops Q 3 #[true, true, true, true, true, true, true, true, true, true, true, true, false, false, false] (Fr e (.pointer (some ⟨e.B5, 2, none⟩)) (.int .i64 e.d1) (.slice (some ⟨e.b, e.off, none⟩) e.len e.cap) (.int .i64 (e.pl : Int)) (.pointer (some ⟨e.b, e.off + e.pl * 4, none⟩)) (.pointer (some ⟨e.b, e.off + e.pl * 4 + 2, none⟩)) (.int .i64 e.d0) (.bool false) (.bool false) (.func (.yield e.l) #[] #[]) (.pointer (some ⟨e.B5, 0, none⟩)) (.agg #[.int .i64 e.o1, .int .i64 e.s1]) e.u12 e.u13 e.u14) W) : wpAnyIn Fence.wide n Tryz.prog .any ops Q 13 #[false, false, true, true, false, false, false, false, false, false, false, false, false, false, false] (Fr e e.u0 e.u1 (.slice (some ⟨e.b, e.off, none⟩) e.len e.cap) (.int .i64 (e.pl : Int)) e.u4 e.u5 e.u6 e.u7 e.u8 e.u9 e.u10 e.u11 e.u12 e.u13 e.u14) W := by
  refine wpAnyIn_all (rs := [0, 4]) (by kernel_rfl) (by simp) ?_
  intro i hi
  simp only [List.mem_cons, List.not_mem_nil, or_false] at hi
  rcases hi with rfl | rfl
  · exact opA0 (sB_101100000000000 h hd hC)
  · exact opA4 h (sB_001110000000000 h hd hC)
theorem sB_100100000000000 {e : Env} {W : World} {n : Nat} {Q : Exit → Act → World → Prop} (h : Facts e W) (hd : decide (e.d1 ≤ e.d0) = false) (hC : wpAnyIn Fence.wide n Tryz.prog .any ops Q 3 #[true, true, true, true, true, true, true, true, true, true, true, true, false, false, false] (Fr e (.pointer (some ⟨e.B5, 2, none⟩)) (.int .i64 e.d1) (.slice (some ⟨e.b, e.off, none⟩) e.len e.cap) (.int .i64 (e.pl : Int)) (.pointer (some ⟨e.b, e.off + e.pl * 4, none⟩)) (.pointer (some ⟨e.b, e.off + e.pl * 4 + 2, none⟩)) (.int .i64 e.d0) (.bool false) (.bool false) (.func (.yield e.l) #[] #[]) (.pointer (some ⟨e.B5, 0, none⟩)) (.agg #[.int .i64 e.o1, .int .i64 e.s1]) e.u12 e.u13 e.u14) W) : wpAnyIn Fence.wide n Tryz.prog .any ops Q 13 #[true, false, false, true, false, false, false, false, false, false, false, false, false, false, false] (Fr e (.pointer (some ⟨e.B5, 2, none⟩)) e.u1 e.u2 (.int .i64 (e.pl : Int)) e.u4 e.u5 e.u6 e.u7 e.u8 e.u9 e.u10 e.u11 e.u12 e.u13 e.u14) W := by
  refine wpAnyIn_all (rs := [1, 2]) (by kernel_rfl) (by simp) ?_
  intro i hi
  simp only [List.mem_cons, List.not_mem_nil, or_false] at hi
  rcases hi with rfl | rfl
  · exact opA1 h (sB_110100000000000 h hd hC)
  · exact opA2 h (sB_101100000000000 h hd hC)
theorem sB_101000000000000 {e : Env} {W : World} {n : Nat} {Q : Exit → Act → World → Prop} (h : Facts e W) (hd : decide (e.d1 ≤ e.d0) = false) (hC : wpAnyIn Fence.wide n Tryz.prog .any ops Q 3 #[true, true, true, true, true, true, true, true, true, true, true, true, false, false, false] (Fr e (.pointer (some ⟨e.B5, 2, none⟩)) (.int .i64 e.d1) (.slice (some ⟨e.b, e.off, none⟩) e.len e.cap) (.int .i64 (e.pl : Int)) (.pointer (some ⟨e.b, e.off + e.pl * 4, none⟩)) (.pointer (some ⟨e.b, e.off + e.pl * 4 + 2, none⟩)) (.int .i64 e.d0) (.bool false) (.bool false) (.func (.yield e.l) #[] #[]) (.pointer (some ⟨e.B5, 0, none⟩)) (.agg #[.int .i64 e.o1, .int .i64 e.s1]) e.u12 e.u13 e.u14) W) : wpAnyIn Fence.wide n Tryz.prog .any ops Q 13 #[true, false, true, false, false, false, false, false, false, false, false, false, false, false, false] (Fr e (.pointer (some ⟨e.B5, 2, none⟩)) e.u1 (.slice (some ⟨e.b, e.off, none⟩) e.len e.cap) e.u3 e.u4 e.u5 e.u6 e.u7 e.u8 e.u9 e.u10 e.u11 e.u12 e.u13 e.u14) W := by
  refine wpAnyIn_all (rs := [1, 3]) (by kernel_rfl) (by simp) ?_
  intro i hi
  simp only [List.mem_cons, List.not_mem_nil, or_false] at hi
  rcases hi with rfl | rfl
  · exact opA1 h (sB_111000000000000 h hd hC)
  · exact opA3 h (sB_101100000000000 h hd hC)
theorem sB_110000000000000 {e : Env} {W : World} {n : Nat} {Q : Exit → Act → World → Prop} (h : Facts e W) (hd : decide (e.d1 ≤ e.d0) = false) (hC : wpAnyIn Fence.wide n Tryz.prog .any ops Q 3 #[true, true, true, true, true, true, true, true, true, true, true, true, false, false, false] (Fr e (.pointer (some ⟨e.B5, 2, none⟩)) (.int .i64 e.d1) (.slice (some ⟨e.b, e.off, none⟩) e.len e.cap) (.int .i64 (e.pl : Int)) (.pointer (some ⟨e.b, e.off + e.pl * 4, none⟩)) (.pointer (some ⟨e.b, e.off + e.pl * 4 + 2, none⟩)) (.int .i64 e.d0) (.bool false) (.bool false) (.func (.yield e.l) #[] #[]) (.pointer (some ⟨e.B5, 0, none⟩)) (.agg #[.int .i64 e.o1, .int .i64 e.s1]) e.u12 e.u13 e.u14) W) : wpAnyIn Fence.wide n Tryz.prog .any ops Q 13 #[true, true, false, false, false, false, false, false, false, false, false, false, false, false, false] (Fr e (.pointer (some ⟨e.B5, 2, none⟩)) (.int .i64 e.d1) e.u2 e.u3 e.u4 e.u5 e.u6 e.u7 e.u8 e.u9 e.u10 e.u11 e.u12 e.u13 e.u14) W := by
  refine wpAnyIn_all (rs := [2, 3]) (by kernel_rfl) (by simp) ?_
  intro i hi
  simp only [List.mem_cons, List.not_mem_nil, or_false] at hi
  rcases hi with rfl | rfl
  · exact opA2 h (sB_111000000000000 h hd hC)
  · exact opA3 h (sB_110100000000000 h hd hC)
theorem sB_000100000000000 {e : Env} {W : World} {n : Nat} {Q : Exit → Act → World → Prop} (h : Facts e W) (hd : decide (e.d1 ≤ e.d0) = false) (hC : wpAnyIn Fence.wide n Tryz.prog .any ops Q 3 #[true, true, true, true, true, true, true, true, true, true, true, true, false, false, false] (Fr e (.pointer (some ⟨e.B5, 2, none⟩)) (.int .i64 e.d1) (.slice (some ⟨e.b, e.off, none⟩) e.len e.cap) (.int .i64 (e.pl : Int)) (.pointer (some ⟨e.b, e.off + e.pl * 4, none⟩)) (.pointer (some ⟨e.b, e.off + e.pl * 4 + 2, none⟩)) (.int .i64 e.d0) (.bool false) (.bool false) (.func (.yield e.l) #[] #[]) (.pointer (some ⟨e.B5, 0, none⟩)) (.agg #[.int .i64 e.o1, .int .i64 e.s1]) e.u12 e.u13 e.u14) W) : wpAnyIn Fence.wide n Tryz.prog .any ops Q 14 #[false, false, false, true, false, false, false, false, false, false, false, false, false, false, false] (Fr e e.u0 e.u1 e.u2 (.int .i64 (e.pl : Int)) e.u4 e.u5 e.u6 e.u7 e.u8 e.u9 e.u10 e.u11 e.u12 e.u13 e.u14) W := by
  refine wpAnyIn_all (rs := [0, 2]) (by kernel_rfl) (by simp) ?_
  intro i hi
  simp only [List.mem_cons, List.not_mem_nil, or_false] at hi
  rcases hi with rfl | rfl
  · exact opA0 (sB_100100000000000 h hd hC)
  · exact opA2 h (sB_001100000000000 h hd hC)
theorem sB_001000000000000 {e : Env} {W : World} {n : Nat} {Q : Exit → Act → World → Prop} (h : Facts e W) (hd : decide (e.d1 ≤ e.d0) = false) (hC : wpAnyIn Fence.wide n Tryz.prog .any ops Q 3 #[true, true, true, true, true, true, true, true, true, true, true, true, false, false, false] (Fr e (.pointer (some ⟨e.B5, 2, none⟩)) (.int .i64 e.d1) (.slice (some ⟨e.b, e.off, none⟩) e.len e.cap) (.int .i64 (e.pl : Int)) (.pointer (some ⟨e.b, e.off + e.pl * 4, none⟩)) (.pointer (some ⟨e.b, e.off + e.pl * 4 + 2, none⟩)) (.int .i64 e.d0) (.bool false) (.bool false) (.func (.yield e.l) #[] #[]) (.pointer (some ⟨e.B5, 0, none⟩)) (.agg #[.int .i64 e.o1, .int .i64 e.s1]) e.u12 e.u13 e.u14) W) : wpAnyIn Fence.wide n Tryz.prog .any ops Q 14 #[false, false, true, false, false, false, false, false, false, false, false, false, false, false, false] (Fr e e.u0 e.u1 (.slice (some ⟨e.b, e.off, none⟩) e.len e.cap) e.u3 e.u4 e.u5 e.u6 e.u7 e.u8 e.u9 e.u10 e.u11 e.u12 e.u13 e.u14) W := by
  refine wpAnyIn_all (rs := [0, 3]) (by kernel_rfl) (by simp) ?_
  intro i hi
  simp only [List.mem_cons, List.not_mem_nil, or_false] at hi
  rcases hi with rfl | rfl
  · exact opA0 (sB_101000000000000 h hd hC)
  · exact opA3 h (sB_001100000000000 h hd hC)
theorem sB_100000000000000 {e : Env} {W : World} {n : Nat} {Q : Exit → Act → World → Prop} (h : Facts e W) (hd : decide (e.d1 ≤ e.d0) = false) (hC : wpAnyIn Fence.wide n Tryz.prog .any ops Q 3 #[true, true, true, true, true, true, true, true, true, true, true, true, false, false, false] (Fr e (.pointer (some ⟨e.B5, 2, none⟩)) (.int .i64 e.d1) (.slice (some ⟨e.b, e.off, none⟩) e.len e.cap) (.int .i64 (e.pl : Int)) (.pointer (some ⟨e.b, e.off + e.pl * 4, none⟩)) (.pointer (some ⟨e.b, e.off + e.pl * 4 + 2, none⟩)) (.int .i64 e.d0) (.bool false) (.bool false) (.func (.yield e.l) #[] #[]) (.pointer (some ⟨e.B5, 0, none⟩)) (.agg #[.int .i64 e.o1, .int .i64 e.s1]) e.u12 e.u13 e.u14) W) : wpAnyIn Fence.wide n Tryz.prog .any ops Q 14 #[true, false, false, false, false, false, false, false, false, false, false, false, false, false, false] (Fr e (.pointer (some ⟨e.B5, 2, none⟩)) e.u1 e.u2 e.u3 e.u4 e.u5 e.u6 e.u7 e.u8 e.u9 e.u10 e.u11 e.u12 e.u13 e.u14) W := by
  refine wpAnyIn_all (rs := [1, 2, 3]) (by kernel_rfl) (by simp) ?_
  intro i hi
  simp only [List.mem_cons, List.not_mem_nil, or_false] at hi
  rcases hi with rfl | rfl | rfl
  · exact opA1 h (sB_110000000000000 h hd hC)
  · exact opA2 h (sB_101000000000000 h hd hC)
  · exact opA3 h (sB_100100000000000 h hd hC)
theorem sB_000000000000000 {e : Env} {W : World} {n : Nat} {Q : Exit → Act → World → Prop} (h : Facts e W) (hd : decide (e.d1 ≤ e.d0) = false) (hC : wpAnyIn Fence.wide n Tryz.prog .any ops Q 3 #[true, true, true, true, true, true, true, true, true, true, true, true, false, false, false] (Fr e (.pointer (some ⟨e.B5, 2, none⟩)) (.int .i64 e.d1) (.slice (some ⟨e.b, e.off, none⟩) e.len e.cap) (.int .i64 (e.pl : Int)) (.pointer (some ⟨e.b, e.off + e.pl * 4, none⟩)) (.pointer (some ⟨e.b, e.off + e.pl * 4 + 2, none⟩)) (.int .i64 e.d0) (.bool false) (.bool false) (.func (.yield e.l) #[] #[]) (.pointer (some ⟨e.B5, 0, none⟩)) (.agg #[.int .i64 e.o1, .int .i64 e.s1]) e.u12 e.u13 e.u14) W) : wpAnyIn Fence.wide n Tryz.prog .any ops Q 15 #[false, false, false, false, false, false, false, false, false, false, false, false, false, false, false] (Fr e e.u0 e.u1 e.u2 e.u3 e.u4 e.u5 e.u6 e.u7 e.u8 e.u9 e.u10 e.u11 e.u12 e.u13 e.u14) W := by
  refine wpAnyIn_all (rs := [0, 2, 3]) (by kernel_rfl) (by simp) ?_
  intro i hi
  simp only [List.mem_cons, List.not_mem_nil, or_false] at hi
  rcases hi with rfl | rfl | rfl
  · exact opA0 (sB_100000000000000 h hd hC)
  · exact opA2 h (sB_001000000000000 h hd hC)
  · exact opA3 h (sB_000100000000000 h hd hC)
end Below1
end Go.Proofs
