/-
  Own work: printed by Tell, a program of this work: what each function's body does over symbols.
-/
import Derived.Test.YtcfglafjemagpaaTold
import Derived.KernelRfl
namespace Go.AI
open Go
set_option maxRecDepth 100000
set_option linter.unusedVariables false
set_option linter.unusedSimpArgs false
/-! garrison/garrisonlaw07.GrabAlone -/
namespace law07_GrabAlone
abbrev sh : List Sh := [.one (.bool)]
noncomputable abbrev R (a0 : List (List DV)) (a1 : List (List DV)) : Option (Bool × Unit) := retω cfg sh 5 [(AV.d (DV.lst 2 a0)), (AV.d (DV.lst 1 a1))]
end law07_GrabAlone
/-! garrison/garrisonlaw07.begins -/
namespace law07_begins
abbrev sh : List Sh := [.one (.lst 6), .one (.bool)]
noncomputable abbrev R (a0 : List (List DV)) : Option (List (List DV) × (Bool × Unit)) := freshT cfg sh 14 [(AV.d (DV.lst 2 a0))]
end law07_begins
/-! garrison/garrisonlaw07.alone -/
namespace law07_alone
abbrev sh : List Sh := [.one (.bool)]
noncomputable abbrev R (a0 : List DV) (a1 : List (List DV)) : Option (Bool × Unit) := retω cfg sh 17 [(AV.d (DV.ptr a0 0)), (AV.d (DV.lst 6 a1))]
end law07_alone
/-! garrison/cells.Check -/
namespace cells_Check
abbrev sh : List Sh := [.one (.int .i64)]
noncomputable abbrev R (a0_0 : Int) (a0_1 : Int) (a0_2 : Int) (a0_3 : Int) (a0_4 : Int) (a1 : Int) : Option (Int × Unit) := retω cfg sh 30 [(AV.agg [(AV.d (DV.v (Value.int IntKind.i64 a0_0))), (AV.d (DV.v (Value.int IntKind.i64 a0_1))), (AV.d (DV.v (Value.int IntKind.i64 a0_2))), (AV.d (DV.v (Value.int IntKind.i64 a0_3))), (AV.d (DV.v (Value.int IntKind.i64 a0_4)))]), (AV.d (DV.v (Value.int IntKind.i64 a1)))]
end cells_Check
/-! garrison/cells.step -/
namespace cells_step
abbrev sh : List Sh := [.agg [.int .i64, .int .i64, .int .i64, .int .i64, .int .i64, .int .i64, .bool]]
noncomputable abbrev R (n : Int) (a0_0 : Int) (a0_1 : Int) (a0_2 : Int) (a0_3 : Int) (a0_4 : Int) : Option ((((Int × (Int × (Int × (Int × (Int × (Int × (Bool × Unit))))))) × Unit) × Int)) := cellT cfg sh 31 n [(AV.agg [(AV.d (DV.v (Value.int IntKind.i64 a0_0))), (AV.d (DV.v (Value.int IntKind.i64 a0_1))), (AV.d (DV.v (Value.int IntKind.i64 a0_2))), (AV.d (DV.v (Value.int IntKind.i64 a0_3))), (AV.d (DV.v (Value.int IntKind.i64 a0_4)))])]
end cells_step
/-! garrison/garrisonlaw07.GrabAlone -/
namespace law07_GrabAlone
def lv : Live := [((9, 1048576), [1, 5, 7, 9], [99, 497, 465, 498])]
abbrev H9 (x1 : List (List DV)) (b99n : Nat) (x9 : Int) (b99 : List (List DV)) (b497 : Nat) (b497_1 : Int) (b498 : List (List DV)) (b465 : List (List DV)) (c : (Bool × Unit)) : Prop := HeadAns cfg 5 sh lv (bd cfg 5 [1, 1, 1, 1, 1, 0, 1, 0, 0]) 1048576 [.inBlock 0, .code (bd cfg 5 [1, 1, 1, 1, 1, 1])]
  [(AV.d (DV.lst 1 x1)), (AV.ref 99 0 0 b99n), (AV.ptr 497 0 0 0), (AV.d (DV.v (Value.int IntKind.i64 x9)))] [(Option.some (VBlk.drow 6 0 b99)), (Option.some (VBlk.cell 3 0 [(AV.ref 465 0 0 b497), (AV.d (DV.v (Value.int IntKind.i64 b497_1))), (AV.ref 498 0 0 (List.length b498))])), (Option.some (VBlk.drow 1 0 b465)), (Option.some (VBlk.drow 7 0 b498))] 1048576 c
theorem start (a0 : List (List DV)) (a1 : List (List DV)) (c : (Bool × Unit)) (h :
    optAll (law07_begins.R a0) fun (c0 : (List (List DV) × (Bool × Unit))) =>
    cond ((!((c0).2).1)) (
      optAll (law07_live.R) fun (c1 : (Bool × Unit)) =>
      c = ((c1).1, ())) (
      cond (decide (((((a1).length : Nat) : Int) > (300 : Int)))) (
        optAll (law07_live.R) fun (c2 : (Bool × Unit)) =>
        c = ((c2).1, ())) (
        optAll (law07_num.R (0 : Int)) fun (c3 : (Int × Unit)) =>
        cond (((c3).1 != (0 : Int))) (
          c = (false, ())) (
          H9 a1 ((c0).1).length (0 : Int) (c0).1 8 (0 : Int) [] (List.replicate (8) [(DV.v (Value.int IntKind.i64 (0 : Int)))]) c)))) : R a0 a1 = some c := start_rule (n := 400) (lv := lv) (noSum_ok _) (by kernel_rfl) h
theorem H9_step (x1 : List (List DV)) (b99n : Nat) (x9 : Int) (b99 : List (List DV)) (b497 : Nat) (b497_1 : Int) (b498 : List (List DV)) (b465 : List (List DV)) (c : (Bool × Unit)) (h :
    cond (decide ((x9 < (((x1).length : Nat) : Int)))) (
      needs ((0 : Int) ≤ x9) (
      optAll ((x1)[(Int.toNat x9)]?) fun (r4 : List DV) =>
      optAll ((dInt IntKind.i64 r4 0)) fun (z5 : Int) =>
      cond (decide ((z5 < (0 : Int)))) (
        H9 x1 b99n (IntKind.i64.wrap (x9 + (1 : Int))) b99 b497 b497_1 b498 b465 c) (
        cond (decide ((z5 ≥ ((b99n : Nat) : Int)))) (
          H9 x1 b99n (IntKind.i64.wrap (x9 + (1 : Int))) b99 b497 b497_1 b498 b465 c) (
          needs (((0 : Int) ≤ z5) ∧ (z5 < ((b99n : Nat) : Int))) (
          optAll ((b99)[(0 + (Int.toNat z5))]?) fun (r6 : List DV) =>
          optAll ((dInt IntKind.i64 r6 0)) fun (z7 : Int) =>
          optAll ((dLst 1 r6 1)) fun (l8 : List (List DV)) =>
          optAll ((dInt IntKind.i64 r6 2)) fun (z9 : Int) =>
          optAll ((dInt IntKind.i64 r6 3)) fun (z10 : Int) =>
          optAll ((dInt IntKind.i64 r6 4)) fun (z11 : Int) =>
          optAll ((dBool r6 5)) fun (z12 : Bool) =>
          cond ((z9 == (2 : Int))) (
            optAll (grab_Free.R z7 l8 z9 z10 z11 z12) fun (c13 : ((Int × (List (List DV) × (Int × (Int × (Int × (Bool × Unit)))))) × Unit)) =>
            needs (((0 : Int) ≤ z5) ∧ (z5 < ((b99n : Nat) : Int))) (
            optAll ((b99)[(0 + (Int.toNat z5))]?) fun (r14 : List DV) =>
            needs (6 ≤ (r14).length) (
            optAll (law07_alone.R [(DV.lst 1 ((b465).take (b497))), (DV.v (Value.int IntKind.i64 b497_1)), (DV.lst 7 ((b498).take ((b498).length)))] ((((b99).set ((0 + (Int.toNat z5))) (putD r14 0 [(DV.v (Value.int IntKind.i64 ((c13).1).1)), (DV.lst 1 (((c13).1).2).1), (DV.v (Value.int IntKind.i64 ((((c13).1).2).2).1)), (DV.v (Value.int IntKind.i64 (((((c13).1).2).2).2).1)), (DV.v (Value.int IntKind.i64 ((((((c13).1).2).2).2).2).1)), (DV.v (Value.bool (((((((c13).1).2).2).2).2).2).1))]))).take (b99n))) fun (c15 : (Bool × Unit)) =>
            cond ((!(c15).1)) (
              c = (false, ())) (
              H9 x1 b99n (IntKind.i64.wrap (x9 + (1 : Int))) ((b99).set ((0 + (Int.toNat z5))) (putD r14 0 [(DV.v (Value.int IntKind.i64 ((c13).1).1)), (DV.lst 1 (((c13).1).2).1), (DV.v (Value.int IntKind.i64 ((((c13).1).2).2).1)), (DV.v (Value.int IntKind.i64 (((((c13).1).2).2).2).1)), (DV.v (Value.int IntKind.i64 ((((((c13).1).2).2).2).2).1)), (DV.v (Value.bool (((((((c13).1).2).2).2).2).2).1))])) b497 b497_1 b498 b465 c)))) (
            optAll (grab_Next.R z7 l8 z9 z10 z11 z12) fun (c16 : ((Int × (Int × (Int × (Int × (Int × Unit))))) × (Bool × Unit))) =>
            cond ((!((c16).2).1)) (
              needs (((0 : Int) ≤ z5) ∧ (z5 < ((b99n : Nat) : Int))) (
              optAll ((b99)[(0 + (Int.toNat z5))]?) fun (r17 : List DV) =>
              needs (6 ≤ (r17).length) (
              optAll (law07_alone.R [(DV.lst 1 ((b465).take (b497))), (DV.v (Value.int IntKind.i64 b497_1)), (DV.lst 7 ((b498).take ((b498).length)))] ((((b99).set ((0 + (Int.toNat z5))) (putD r17 0 [(DV.v (Value.int IntKind.i64 z7)), (DV.lst 1 l8), (DV.v (Value.int IntKind.i64 z9)), (DV.v (Value.int IntKind.i64 z10)), (DV.v (Value.int IntKind.i64 z11)), (DV.v (Value.bool z12))]))).take (b99n))) fun (c18 : (Bool × Unit)) =>
              cond ((!(c18).1)) (
                c = (false, ())) (
                H9 x1 b99n (IntKind.i64.wrap (x9 + (1 : Int))) ((b99).set ((0 + (Int.toNat z5))) (putD r17 0 [(DV.v (Value.int IntKind.i64 z7)), (DV.lst 1 l8), (DV.v (Value.int IntKind.i64 z9)), (DV.v (Value.int IntKind.i64 z10)), (DV.v (Value.int IntKind.i64 z11)), (DV.v (Value.bool z12))])) b497 b497_1 b498 b465 c)))) (
              optAll (cells_Check.R ((c16).1).1 (((c16).1).2).1 ((((c16).1).2).2).1 (((((c16).1).2).2).2).1 ((((((c16).1).2).2).2).2).1 ((b497 : Nat) : Int)) fun (c19 : (Int × Unit)) =>
              cond (((c19).1 != (0 : Int))) (
                optAll (grab_Take.R z7 l8 z9 z10 z11 z12 false) fun (c20 : ((Int × (List (List DV) × (Int × (Int × (Int × (Bool × Unit)))))) × Unit)) =>
                needs (((0 : Int) ≤ z5) ∧ (z5 < ((b99n : Nat) : Int))) (
                optAll ((b99)[(0 + (Int.toNat z5))]?) fun (r21 : List DV) =>
                needs (6 ≤ (r21).length) (
                optAll (law07_alone.R [(DV.lst 1 ((b465).take (b497))), (DV.v (Value.int IntKind.i64 b497_1)), (DV.lst 7 ((b498).take ((b498).length)))] ((((b99).set ((0 + (Int.toNat z5))) (putD r21 0 [(DV.v (Value.int IntKind.i64 ((c20).1).1)), (DV.lst 1 (((c20).1).2).1), (DV.v (Value.int IntKind.i64 ((((c20).1).2).2).1)), (DV.v (Value.int IntKind.i64 (((((c20).1).2).2).2).1)), (DV.v (Value.int IntKind.i64 ((((((c20).1).2).2).2).2).1)), (DV.v (Value.bool (((((((c20).1).2).2).2).2).2).1))]))).take (b99n))) fun (c22 : (Bool × Unit)) =>
                cond ((!(c22).1)) (
                  c = (false, ())) (
                  H9 x1 b99n (IntKind.i64.wrap (x9 + (1 : Int))) ((b99).set ((0 + (Int.toNat z5))) (putD r21 0 [(DV.v (Value.int IntKind.i64 ((c20).1).1)), (DV.lst 1 (((c20).1).2).1), (DV.v (Value.int IntKind.i64 ((((c20).1).2).2).1)), (DV.v (Value.int IntKind.i64 (((((c20).1).2).2).2).1)), (DV.v (Value.int IntKind.i64 ((((((c20).1).2).2).2).2).1)), (DV.v (Value.bool (((((((c20).1).2).2).2).2).2).1))])) b497 b497_1 b498 b465 c)))) (
                needs (((0 : Int) ≤ (((c16).1).2).1) ∧ ((((c16).1).2).1 < ((b497 : Nat) : Int))) (
                optAll ((b465)[(0 + (Int.toNat (((c16).1).2).1))]?) fun (r23 : List DV) =>
                optAll ((dInt IntKind.i64 r23 0)) fun (z24 : Int) =>
                optAll (cells_step.R z24 ((c16).1).1 (((c16).1).2).1 ((((c16).1).2).2).1 (((((c16).1).2).2).2).1 ((((((c16).1).2).2).2).2).1) fun (c25 : (((Int × (Int × (Int × (Int × (Int × (Int × (Bool × Unit))))))) × Unit) × Int)) =>
                cond (decide (((((b498).length : Nat) : Int) < (2000 : Int)))) (
                  needs ((b498).length = (b498).length) (
                  needs (((((b498 ++ (([[(DV.v (Value.int IntKind.i64 (((c25).1).1).1)), (DV.v (Value.int IntKind.i64 ((((c25).1).1).2).1)), (DV.v (Value.int IntKind.i64 (((((c25).1).1).2).2).1)), (DV.v (Value.int IntKind.i64 ((((((c25).1).1).2).2).2).1)), (DV.v (Value.int IntKind.i64 (((((((c25).1).1).2).2).2).2).1)), (DV.v (Value.int IntKind.i64 ((((((((c25).1).1).2).2).2).2).2).1)), (DV.v (Value.bool (((((((((c25).1).1).2).2).2).2).2).2).1))]]).take (1)))).length * 56) ≤ 140737488355328) ∧ ((((b498 ++ (([[(DV.v (Value.int IntKind.i64 (((c25).1).1).1)), (DV.v (Value.int IntKind.i64 ((((c25).1).1).2).1)), (DV.v (Value.int IntKind.i64 (((((c25).1).1).2).2).1)), (DV.v (Value.int IntKind.i64 ((((((c25).1).1).2).2).2).1)), (DV.v (Value.int IntKind.i64 (((((((c25).1).1).2).2).2).2).1)), (DV.v (Value.int IntKind.i64 ((((((((c25).1).1).2).2).2).2).2).1)), (DV.v (Value.bool (((((((((c25).1).1).2).2).2).2).2).2).1))]]).take (1)))).length * 7) ≤ 140737488355328)) (
                  optAll (grab_Take.R z7 l8 z9 z10 z11 z12 (((((((((c25).1).1).2).2).2).2).2).2).1) fun (c26 : ((Int × (List (List DV) × (Int × (Int × (Int × (Bool × Unit)))))) × Unit)) =>
                  needs (((0 : Int) ≤ z5) ∧ (z5 < ((b99n : Nat) : Int))) (
                  optAll ((b99)[(0 + (Int.toNat z5))]?) fun (r27 : List DV) =>
                  needs (6 ≤ (r27).length) (
                  optAll (law07_alone.R [(DV.lst 1 ((((b465).set ((0 + (Int.toNat (((c16).1).2).1))) (putD r23 0 [(DV.v (Value.int IntKind.i64 (c25).2))]))).take (b497))), (DV.v (Value.int IntKind.i64 (IntKind.i64.wrap (b497_1 + (1 : Int))))), (DV.lst 7 (((b498 ++ (([[(DV.v (Value.int IntKind.i64 (((c25).1).1).1)), (DV.v (Value.int IntKind.i64 ((((c25).1).1).2).1)), (DV.v (Value.int IntKind.i64 (((((c25).1).1).2).2).1)), (DV.v (Value.int IntKind.i64 ((((((c25).1).1).2).2).2).1)), (DV.v (Value.int IntKind.i64 (((((((c25).1).1).2).2).2).2).1)), (DV.v (Value.int IntKind.i64 ((((((((c25).1).1).2).2).2).2).2).1)), (DV.v (Value.bool (((((((((c25).1).1).2).2).2).2).2).2).1))]]).take (1)))).take (((b498 ++ (([[(DV.v (Value.int IntKind.i64 (((c25).1).1).1)), (DV.v (Value.int IntKind.i64 ((((c25).1).1).2).1)), (DV.v (Value.int IntKind.i64 (((((c25).1).1).2).2).1)), (DV.v (Value.int IntKind.i64 ((((((c25).1).1).2).2).2).1)), (DV.v (Value.int IntKind.i64 (((((((c25).1).1).2).2).2).2).1)), (DV.v (Value.int IntKind.i64 ((((((((c25).1).1).2).2).2).2).2).1)), (DV.v (Value.bool (((((((((c25).1).1).2).2).2).2).2).2).1))]]).take (1)))).length)))] ((((b99).set ((0 + (Int.toNat z5))) (putD r27 0 [(DV.v (Value.int IntKind.i64 ((c26).1).1)), (DV.lst 1 (((c26).1).2).1), (DV.v (Value.int IntKind.i64 ((((c26).1).2).2).1)), (DV.v (Value.int IntKind.i64 (((((c26).1).2).2).2).1)), (DV.v (Value.int IntKind.i64 ((((((c26).1).2).2).2).2).1)), (DV.v (Value.bool (((((((c26).1).2).2).2).2).2).1))]))).take (b99n))) fun (c28 : (Bool × Unit)) =>
                  cond ((!(c28).1)) (
                    c = (false, ())) (
                    H9 x1 b99n (IntKind.i64.wrap (x9 + (1 : Int))) ((b99).set ((0 + (Int.toNat z5))) (putD r27 0 [(DV.v (Value.int IntKind.i64 ((c26).1).1)), (DV.lst 1 (((c26).1).2).1), (DV.v (Value.int IntKind.i64 ((((c26).1).2).2).1)), (DV.v (Value.int IntKind.i64 (((((c26).1).2).2).2).1)), (DV.v (Value.int IntKind.i64 ((((((c26).1).2).2).2).2).1)), (DV.v (Value.bool (((((((c26).1).2).2).2).2).2).1))])) b497 (IntKind.i64.wrap (b497_1 + (1 : Int))) (b498 ++ (([[(DV.v (Value.int IntKind.i64 (((c25).1).1).1)), (DV.v (Value.int IntKind.i64 ((((c25).1).1).2).1)), (DV.v (Value.int IntKind.i64 (((((c25).1).1).2).2).1)), (DV.v (Value.int IntKind.i64 ((((((c25).1).1).2).2).2).1)), (DV.v (Value.int IntKind.i64 (((((((c25).1).1).2).2).2).2).1)), (DV.v (Value.int IntKind.i64 ((((((((c25).1).1).2).2).2).2).2).1)), (DV.v (Value.bool (((((((((c25).1).1).2).2).2).2).2).2).1))]]).take (1))) ((b465).set ((0 + (Int.toNat (((c16).1).2).1))) (putD r23 0 [(DV.v (Value.int IntKind.i64 (c25).2))])) c)))))) (
                  optAll (grab_Take.R z7 l8 z9 z10 z11 z12 (((((((((c25).1).1).2).2).2).2).2).2).1) fun (c29 : ((Int × (List (List DV) × (Int × (Int × (Int × (Bool × Unit)))))) × Unit)) =>
                  needs (((0 : Int) ≤ z5) ∧ (z5 < ((b99n : Nat) : Int))) (
                  optAll ((b99)[(0 + (Int.toNat z5))]?) fun (r30 : List DV) =>
                  needs (6 ≤ (r30).length) (
                  optAll (law07_alone.R [(DV.lst 1 ((((b465).set ((0 + (Int.toNat (((c16).1).2).1))) (putD r23 0 [(DV.v (Value.int IntKind.i64 (c25).2))]))).take (b497))), (DV.v (Value.int IntKind.i64 (IntKind.i64.wrap (b497_1 + (1 : Int))))), (DV.lst 7 ((b498).take ((b498).length)))] ((((b99).set ((0 + (Int.toNat z5))) (putD r30 0 [(DV.v (Value.int IntKind.i64 ((c29).1).1)), (DV.lst 1 (((c29).1).2).1), (DV.v (Value.int IntKind.i64 ((((c29).1).2).2).1)), (DV.v (Value.int IntKind.i64 (((((c29).1).2).2).2).1)), (DV.v (Value.int IntKind.i64 ((((((c29).1).2).2).2).2).1)), (DV.v (Value.bool (((((((c29).1).2).2).2).2).2).1))]))).take (b99n))) fun (c31 : (Bool × Unit)) =>
                  cond ((!(c31).1)) (
                    c = (false, ())) (
                    H9 x1 b99n (IntKind.i64.wrap (x9 + (1 : Int))) ((b99).set ((0 + (Int.toNat z5))) (putD r30 0 [(DV.v (Value.int IntKind.i64 ((c29).1).1)), (DV.lst 1 (((c29).1).2).1), (DV.v (Value.int IntKind.i64 ((((c29).1).2).2).1)), (DV.v (Value.int IntKind.i64 (((((c29).1).2).2).2).1)), (DV.v (Value.int IntKind.i64 ((((((c29).1).2).2).2).2).1)), (DV.v (Value.bool (((((((c29).1).2).2).2).2).2).1))])) b497 (IntKind.i64.wrap (b497_1 + (1 : Int))) b498 ((b465).set ((0 + (Int.toNat (((c16).1).2).1))) (putD r23 0 [(DV.v (Value.int IntKind.i64 (c25).2))])) c))))))))))))) (
      optAll (law07_live.R) fun (c32 : (Bool × Unit)) =>
      c = ((c32).1, ()))) : H9 x1 b99n x9 b99 b497 b497_1 b498 b465 c := head_rule (n := 400) (noSum_ok _) (by kernel_rfl) h
end law07_GrabAlone
/-! garrison/garrisonlaw07.begins -/
namespace law07_begins
def lv : Live := [((6, 1048576), [0, 4, 5], [4, 6, 99999]), ((12, 2097152), [0, 4, 5, 6, 7], [4, 6, 99999]), ((6, 1048576), [0, 4, 5], [4, 6, 99999])]
abbrev H6 (x0 : List (List DV)) (b4 : List (List DV)) (x5 : Int) (c : (List (List DV) × (Bool × Unit))) : Prop := HeadAns cfg 14 sh lv (bd cfg 14 [1, 1, 1, 0, 1, 0, 0]) 1048576 [.inBlock 0, .code (bd cfg 14 [1, 1, 1, 1])]
  [(AV.d (DV.lst 2 x0)), (AV.ref 4 0 0 (List.length b4)), (AV.d (DV.v (Value.int IntKind.i64 x5)))] [(Option.some (VBlk.drow 6 0 b4)), (Option.none), (Option.none)] 1048576 c
abbrev H12 (x0 : List (List DV)) (b4 : List (List DV)) (x5 : Int) (b6 : List (List DV)) (x7 : Int) (c : (List (List DV) × (Bool × Unit))) : Prop := HeadAns cfg 14 sh lv (bd cfg 14 [1, 1, 1, 0, 1, 0, 0, 1, 0, 0, 1, 1, 0, 1, 0, 0]) 2097152 [.inBlock 2, .code (bd cfg 14 [1, 1, 1, 0, 1, 0, 0, 1, 0, 0, 1, 1, 1]), .inBlock 1, .code (bd cfg 14 [1, 1, 1, 0, 1, 0, 0, 1, 1]), .inLoop (bd cfg 14 [1, 1, 1, 0, 1, 0, 0]) 1048576, .inBlock 0, .code (bd cfg 14 [1, 1, 1, 1])]
  [(AV.d (DV.lst 2 x0)), (AV.ref 4 0 0 (List.length b4)), (AV.d (DV.v (Value.int IntKind.i64 x5))), (AV.ref 6 0 0 (List.length b6)), (AV.d (DV.v (Value.int IntKind.i64 x7)))] [(Option.some (VBlk.drow 6 0 b4)), (Option.some (VBlk.drow 1 0 b6)), (Option.none)] 2097152 c
abbrev H6_1048576 (x0 : List (List DV)) (b4 : List (List DV)) (x5 : Int) (b6 : List (List DV)) (c : (List (List DV) × (Bool × Unit))) : Prop := HeadAns cfg 14 sh lv (bd cfg 14 [1, 1, 1, 0, 1, 0, 0]) 1048576 [.inBlock 0, .code (bd cfg 14 [1, 1, 1, 1])]
  [(AV.d (DV.lst 2 x0)), (AV.ref 4 0 0 (List.length b4)), (AV.d (DV.v (Value.int IntKind.i64 x5)))] [(Option.some (VBlk.drow 6 0 b4)), (Option.some (VBlk.drow 1 0 b6)), (Option.none)] 1048576 c
theorem start (a0 : List (List DV)) (c : (List (List DV) × (Bool × Unit))) (h :
    cond (decide (((((a0).length : Nat) : Int) > (6 : Int)))) (
      c = ([], (false, ()))) (
      H6 a0 [] (0 : Int) c)) : R a0 = some c := fresh_rule (n := 400) (lv := lv) (noSum_ok _) (by kernel_rfl) (by kernel_rfl) h
theorem H6_step (x0 : List (List DV)) (b4 : List (List DV)) (x5 : Int) (c : (List (List DV) × (Bool × Unit))) (h :
    cond (decide ((x5 < (((x0).length : Nat) : Int)))) (
      needs ((0 : Int) ≤ x5) (
      optAll ((x0)[(Int.toNat x5)]?) fun (r0 : List DV) =>
      optAll ((dLst 1 r0 1)) fun (l1 : List (List DV)) =>
      cond (decide (((((l1).length : Nat) : Int) > (10 : Int)))) (
        c = ([], (false, ()))) (
        H12 x0 b4 x5 [] (0 : Int) c))) (
      needs ((0 = 0) ∧ ((b4).length = (b4).length)) (c = (((b4).take ((b4).length)), (true, ()))))) : H6 x0 b4 x5 c := head_rule (n := 400) (noSum_ok _) (by kernel_rfl) h
theorem H12_step (x0 : List (List DV)) (b4 : List (List DV)) (x5 : Int) (b6 : List (List DV)) (x7 : Int) (c : (List (List DV) × (Bool × Unit))) (h :
    needs ((0 : Int) ≤ x5) (
    optAll ((x0)[(Int.toNat x5)]?) fun (r2 : List DV) =>
    optAll ((dLst 1 r2 1)) fun (l3 : List (List DV)) =>
    cond (decide ((x7 < (((l3).length : Nat) : Int)))) (
      needs ((0 : Int) ≤ x5) (
      optAll ((x0)[(Int.toNat x5)]?) fun (r4 : List DV) =>
      optAll ((dLst 1 r4 1)) fun (l5 : List (List DV)) =>
      needs ((0 : Int) ≤ x7) (
      optAll ((l5)[(Int.toNat x7)]?) fun (r6 : List DV) =>
      optAll ((dInt IntKind.i64 r6 0)) fun (z7 : Int) =>
      cond (decide ((z7 < (0 : Int)))) (
        c = ([], (false, ()))) (
        needs ((0 : Int) ≤ x5) (
        optAll ((x0)[(Int.toNat x5)]?) fun (r8 : List DV) =>
        optAll ((dLst 1 r8 1)) fun (l9 : List (List DV)) =>
        needs ((0 : Int) ≤ x7) (
        optAll ((l9)[(Int.toNat x7)]?) fun (r10 : List DV) =>
        optAll ((dInt IntKind.i64 r10 0)) fun (z11 : Int) =>
        cond (decide ((z11 ≥ (8 : Int)))) (
          c = ([], (false, ()))) (
          needs ((0 : Int) ≤ x5) (
          optAll ((x0)[(Int.toNat x5)]?) fun (r12 : List DV) =>
          optAll ((dLst 1 r12 1)) fun (l13 : List (List DV)) =>
          needs ((0 : Int) ≤ x7) (
          optAll ((l13)[(Int.toNat x7)]?) fun (r14 : List DV) =>
          optAll ((dInt IntKind.i64 r14 0)) fun (z15 : Int) =>
          needs ((b6).length = (b6).length) (
          needs (((((b6 ++ (([[(DV.v (Value.int IntKind.i64 z15))]]).take (1)))).length * 8) ≤ 140737488355328) ∧ ((((b6 ++ (([[(DV.v (Value.int IntKind.i64 z15))]]).take (1)))).length * 1) ≤ 140737488355328)) (
          H12 x0 b4 x5 (b6 ++ (([[(DV.v (Value.int IntKind.i64 z15))]]).take (1))) (IntKind.i64.wrap (x7 + (1 : Int))) c))))))))))) (
      needs ((0 : Int) ≤ x5) (
      optAll ((x0)[(Int.toNat x5)]?) fun (r16 : List DV) =>
      optAll ((dBool r16 0)) fun (z17 : Bool) =>
      optAll (grab_Start.R (IntKind.i64.wrap (x5 + (1 : Int))) z17 ((b6).take ((b6).length))) fun (c18 : ((Int × (List (List DV) × (Int × (Int × (Int × (Bool × Unit)))))) × (Int × Unit))) =>
      needs ((b4).length = (b4).length) (
      needs (((((b4 ++ (([[(DV.v (Value.int IntKind.i64 ((c18).1).1)), (DV.lst 1 (((c18).1).2).1), (DV.v (Value.int IntKind.i64 ((((c18).1).2).2).1)), (DV.v (Value.int IntKind.i64 (((((c18).1).2).2).2).1)), (DV.v (Value.int IntKind.i64 ((((((c18).1).2).2).2).2).1)), (DV.v (Value.bool (((((((c18).1).2).2).2).2).2).1))]]).take (1)))).length * 64) ≤ 140737488355328) ∧ ((((b4 ++ (([[(DV.v (Value.int IntKind.i64 ((c18).1).1)), (DV.lst 1 (((c18).1).2).1), (DV.v (Value.int IntKind.i64 ((((c18).1).2).2).1)), (DV.v (Value.int IntKind.i64 (((((c18).1).2).2).2).1)), (DV.v (Value.int IntKind.i64 ((((((c18).1).2).2).2).2).1)), (DV.v (Value.bool (((((((c18).1).2).2).2).2).2).1))]]).take (1)))).length * 6) ≤ 140737488355328)) (
      H6_1048576 x0 (b4 ++ (([[(DV.v (Value.int IntKind.i64 ((c18).1).1)), (DV.lst 1 (((c18).1).2).1), (DV.v (Value.int IntKind.i64 ((((c18).1).2).2).1)), (DV.v (Value.int IntKind.i64 (((((c18).1).2).2).2).1)), (DV.v (Value.int IntKind.i64 ((((((c18).1).2).2).2).2).1)), (DV.v (Value.bool (((((((c18).1).2).2).2).2).2).1))]]).take (1))) (IntKind.i64.wrap (x5 + (1 : Int))) [] c)))))) : H12 x0 b4 x5 b6 x7 c := head_rule (n := 400) (noSum_ok _) (by kernel_rfl) h
theorem H6_1048576_step (x0 : List (List DV)) (b4 : List (List DV)) (x5 : Int) (b6 : List (List DV)) (c : (List (List DV) × (Bool × Unit))) (h :
    cond (decide ((x5 < (((x0).length : Nat) : Int)))) (
      needs ((0 : Int) ≤ x5) (
      optAll ((x0)[(Int.toNat x5)]?) fun (r19 : List DV) =>
      optAll ((dLst 1 r19 1)) fun (l20 : List (List DV)) =>
      cond (decide (((((l20).length : Nat) : Int) > (10 : Int)))) (
        c = ([], (false, ()))) (
        H12 x0 b4 x5 [] (0 : Int) c))) (
      needs ((0 = 0) ∧ ((b4).length = (b4).length)) (c = (((b4).take ((b4).length)), (true, ()))))) : H6_1048576 x0 b4 x5 b6 c := head_rule (n := 400) (noSum_ok _) (by kernel_rfl) h
end law07_begins
/-! garrison/garrisonlaw07.alone -/
namespace law07_alone
def lv : Live := [((5, 1048576), [1, 5, 6, 7], [260]), ((9, 2097152), [1, 5, 6, 7, 8, 9], [260]), ((17, 2097152), [5, 6, 10], [260])]
abbrev H5 (x1 : List (List DV)) (b260 : List (List DV)) (x6 : Int) (x7 : Int) (c : (Bool × Unit)) : Prop := HeadAns cfg 17 sh lv (bd cfg 17 [1, 1, 1, 0, 1, 0, 0]) 1048576 [.inBlock 0, .code (bd cfg 17 [1, 1, 1, 1])]
  [(AV.d (DV.lst 6 x1)), (AV.ref 260 0 0 (List.length b260)), (AV.d (DV.v (Value.int IntKind.i64 x6))), (AV.d (DV.v (Value.int IntKind.i64 x7)))] [(Option.some (VBlk.drow 1 0 b260))] 1048576 c
abbrev H9 (x1 : List (List DV)) (b260 : List (List DV)) (x6 : Int) (x7 : Int) (x8 : List (List DV)) (x9 : Int) (c : (Bool × Unit)) : Prop := HeadAns cfg 17 sh lv (bd cfg 17 [1, 1, 1, 0, 1, 0, 0, 1, 0, 0, 1, 0, 1, 0, 0]) 2097152 [.inBlock 2, .code (bd cfg 17 [1, 1, 1, 0, 1, 0, 0, 1, 0, 0, 1, 1]), .inBlock 1, .code (bd cfg 17 [1, 1, 1, 0, 1, 0, 0, 1, 1]), .inLoop (bd cfg 17 [1, 1, 1, 0, 1, 0, 0]) 1048576, .inBlock 0, .code (bd cfg 17 [1, 1, 1, 1])]
  [(AV.d (DV.lst 6 x1)), (AV.ref 260 0 0 (List.length b260)), (AV.d (DV.v (Value.int IntKind.i64 x6))), (AV.d (DV.v (Value.int IntKind.i64 x7))), (AV.d (DV.lst 1 x8)), (AV.d (DV.v (Value.int IntKind.i64 x9)))] [(Option.some (VBlk.drow 1 0 b260))] 2097152 c
abbrev H17 (b260 : List (List DV)) (x6 : Int) (x10 : Int) (c : (Bool × Unit)) : Prop := HeadAns cfg 17 sh lv (bd cfg 17 [1, 1, 1, 1, 0, 1, 0, 0]) 2097152 [.inBlock 4, .code (bd cfg 17 [1, 1, 1, 1, 1])]
  [(AV.ref 260 0 0 (List.length b260)), (AV.d (DV.v (Value.int IntKind.i64 x6))), (AV.d (DV.v (Value.int IntKind.i64 x10)))] [(Option.some (VBlk.drow 1 0 b260))] 2097152 c
theorem start (a0 : List DV) (a1 : List (List DV)) (c : (Bool × Unit)) (h :
    optAll ((dLst 1 a0 0)) fun (l0 : List (List DV)) =>
    needs ((((l0).length * 8) ≤ 140737488355328) ∧ (((l0).length * 1) ≤ 140737488355328)) (
    H5 a1 l0 (0 : Int) (0 : Int) c)) : R a0 a1 = some c := start_rule (n := 400) (lv := lv) (noSum_ok _) (by kernel_rfl) h
theorem H5_step (x1 : List (List DV)) (b260 : List (List DV)) (x6 : Int) (x7 : Int) (c : (Bool × Unit)) (h :
    cond (decide ((x7 < (((x1).length : Nat) : Int)))) (
      needs ((0 : Int) ≤ x7) (
      optAll ((x1)[(Int.toNat x7)]?) fun (r1 : List DV) =>
      optAll ((dInt IntKind.i64 r1 0)) fun (z2 : Int) =>
      optAll ((dLst 1 r1 1)) fun (l3 : List (List DV)) =>
      optAll ((dInt IntKind.i64 r1 2)) fun (z4 : Int) =>
      optAll ((dInt IntKind.i64 r1 3)) fun (z5 : Int) =>
      optAll ((dInt IntKind.i64 r1 4)) fun (z6 : Int) =>
      optAll ((dBool r1 5)) fun (z7 : Bool) =>
      optAll (grab_Held.R z2 l3 z4 z5 z6 z7) fun (c8 : (List (List DV) × Unit)) =>
      H9 x1 b260 x6 x7 (c8).1 (0 : Int) c)) (
      H17 b260 x6 (0 : Int) c)) : H5 x1 b260 x6 x7 c := head_rule (n := 400) (noSum_ok _) (by kernel_rfl) h
theorem H9_step (x1 : List (List DV)) (b260 : List (List DV)) (x6 : Int) (x7 : Int) (x8 : List (List DV)) (x9 : Int) (c : (Bool × Unit)) (h :
    cond (decide ((x9 < (((x8).length : Nat) : Int)))) (
      needs ((0 : Int) ≤ x9) (
      optAll ((x8)[(Int.toNat x9)]?) fun (r9 : List DV) =>
      optAll ((dInt IntKind.i64 r9 0)) fun (z10 : Int) =>
      cond (decide ((z10 < (0 : Int)))) (
        c = (false, ())) (
        needs ((0 : Int) ≤ x9) (
        optAll ((x8)[(Int.toNat x9)]?) fun (r11 : List DV) =>
        optAll ((dInt IntKind.i64 r11 0)) fun (z12 : Int) =>
        cond (decide ((z12 ≥ (((b260).length : Nat) : Int)))) (
          c = (false, ())) (
          needs ((0 : Int) ≤ x9) (
          optAll ((x8)[(Int.toNat x9)]?) fun (r13 : List DV) =>
          optAll ((dInt IntKind.i64 r13 0)) fun (z14 : Int) =>
          needs (((0 : Int) ≤ z14) ∧ (z14 < (((b260).length : Nat) : Int))) (
          optAll ((b260)[(0 + (Int.toNat z14))]?) fun (r15 : List DV) =>
          optAll ((dInt IntKind.i64 r15 0)) fun (z16 : Int) =>
          needs ((0 : Int) ≤ x7) (
          optAll ((x1)[(Int.toNat x7)]?) fun (r17 : List DV) =>
          optAll ((dInt IntKind.i64 r17 0)) fun (z18 : Int) =>
          cond ((z16 != z18)) (
            c = (false, ())) (
            H9 x1 b260 (IntKind.i64.wrap (x6 + (1 : Int))) x7 x8 (IntKind.i64.wrap (x9 + (1 : Int))) c))))))))) (
      needs ((0 : Int) ≤ x7) (
      optAll ((x1)[(Int.toNat x7)]?) fun (r19 : List DV) =>
      optAll ((dInt IntKind.i64 r19 2)) fun (z20 : Int) =>
      cond ((z20 == (2 : Int))) (
        needs ((0 : Int) ≤ x7) (
        optAll ((x1)[(Int.toNat x7)]?) fun (r21 : List DV) =>
        optAll ((dLst 1 r21 1)) fun (l22 : List (List DV)) =>
        cond (((((x8).length : Nat) : Int) != (((l22).length : Nat) : Int))) (
          c = (false, ())) (
          needs ((0 : Int) ≤ x7) (
          optAll ((x1)[(Int.toNat x7)]?) fun (r23 : List DV) =>
          optAll ((dInt IntKind.i64 r23 2)) fun (z24 : Int) =>
          cond ((z24 == (5 : Int))) (
            cond (((((x8).length : Nat) : Int) != (0 : Int))) (
              c = (false, ())) (
              H5 x1 b260 x6 (IntKind.i64.wrap (x7 + (1 : Int))) c)) (
            H5 x1 b260 x6 (IntKind.i64.wrap (x7 + (1 : Int))) c))))) (
        needs ((0 : Int) ≤ x7) (
        optAll ((x1)[(Int.toNat x7)]?) fun (r25 : List DV) =>
        optAll ((dInt IntKind.i64 r25 2)) fun (z26 : Int) =>
        cond ((z26 == (5 : Int))) (
          cond (((((x8).length : Nat) : Int) != (0 : Int))) (
            c = (false, ())) (
            H5 x1 b260 x6 (IntKind.i64.wrap (x7 + (1 : Int))) c)) (
          H5 x1 b260 x6 (IntKind.i64.wrap (x7 + (1 : Int))) c)))))) : H9 x1 b260 x6 x7 x8 x9 c := head_rule (n := 400) (noSum_ok _) (by kernel_rfl) h
theorem H17_step (b260 : List (List DV)) (x6 : Int) (x10 : Int) (c : (Bool × Unit)) (h :
    cond (decide ((x10 < (((b260).length : Nat) : Int)))) (
      needs (((0 : Int) ≤ x10) ∧ (x10 < (((b260).length : Nat) : Int))) (
      optAll ((b260)[(0 + (Int.toNat x10))]?) fun (r27 : List DV) =>
      optAll ((dInt IntKind.i64 r27 0)) fun (z28 : Int) =>
      cond ((z28 != (0 : Int))) (
        H17 b260 (IntKind.i64.wrap (x6 - (1 : Int))) (IntKind.i64.wrap (x10 + (1 : Int))) c) (
        H17 b260 x6 (IntKind.i64.wrap (x10 + (1 : Int))) c))) (
      c = ((x6 == (0 : Int)), ()))) : H17 b260 x6 x10 c := head_rule (n := 400) (noSum_ok _) (by kernel_rfl) h
end law07_alone
/-! garrison/cells.Check -/
namespace cells_Check
def lv : Live := []
theorem start (a0_0 : Int) (a0_1 : Int) (a0_2 : Int) (a0_3 : Int) (a0_4 : Int) (a1 : Int) (c : (Int × Unit)) (h :
    cond ((a0_0 == (4 : Int))) (
      cond (decide ((a0_4 < (1 : Int)))) (
        c = ((2 : Int), ())) (
        cond (decide ((a0_1 ≥ (0 : Int)))) (
          cond (decide ((a0_1 < a1))) (
            c = ((0 : Int), ())) (
            c = ((2 : Int), ()))) (
          c = ((2 : Int), ())))) (
      cond ((a0_0 == (5 : Int))) (
        cond (decide ((a0_4 < (1 : Int)))) (
          c = ((2 : Int), ())) (
          cond (decide ((a0_1 ≥ (0 : Int)))) (
            cond (decide ((a0_1 < a1))) (
              c = ((0 : Int), ())) (
              c = ((2 : Int), ()))) (
            c = ((2 : Int), ())))) (
        cond ((a0_0 == (1 : Int))) (
          cond (decide ((a0_1 ≥ (0 : Int)))) (
            cond (decide ((a0_1 < a1))) (
              c = ((0 : Int), ())) (
              c = ((2 : Int), ()))) (
            c = ((2 : Int), ()))) (
          cond ((a0_0 == (2 : Int))) (
            cond (decide ((a0_1 ≥ (0 : Int)))) (
              cond (decide ((a0_1 < a1))) (
                c = ((0 : Int), ())) (
                c = ((2 : Int), ()))) (
              c = ((2 : Int), ()))) (
            cond ((a0_0 == (3 : Int))) (
              cond (decide ((a0_1 ≥ (0 : Int)))) (
                cond (decide ((a0_1 < a1))) (
                  c = ((0 : Int), ())) (
                  c = ((2 : Int), ()))) (
                c = ((2 : Int), ()))) (
              c = ((2 : Int), ()))))))) : R a0_0 a0_1 a0_2 a0_3 a0_4 a1 = some c := start_rule (n := 400) (lv := lv) (noSum_ok _) (by kernel_rfl) h
end cells_Check
/-! garrison/cells.step -/
namespace cells_step
theorem start (n : Int) (a0_0 : Int) (a0_1 : Int) (a0_2 : Int) (a0_3 : Int) (a0_4 : Int) (c : (((Int × (Int × (Int × (Int × (Int × (Int × (Bool × Unit))))))) × Unit) × Int)) (h :
    cond ((a0_0 == (1 : Int))) (
      c = (((a0_0, (a0_1, (a0_2, (a0_3, (a0_4, (n, (true, ()))))))), ()), n)) (
      cond ((a0_0 == (2 : Int))) (
        c = (((a0_0, (a0_1, (a0_2, (a0_3, (a0_4, (n, (true, ()))))))), ()), a0_3)) (
        cond ((a0_0 == (4 : Int))) (
          cond ((n == (0 : Int))) (
            c = (((a0_0, (a0_1, (a0_2, (a0_3, (a0_4, (n, ((n == (0 : Int)), ()))))))), ()), a0_4)) (
            c = (((a0_0, (a0_1, (a0_2, (a0_3, (a0_4, (n, ((n == (0 : Int)), ()))))))), ()), n))) (
          cond ((a0_0 == (5 : Int))) (
            cond ((n == a0_4)) (
              c = (((a0_0, (a0_1, (a0_2, (a0_3, (a0_4, (n, ((n == a0_4), ()))))))), ()), (0 : Int))) (
              c = (((a0_0, (a0_1, (a0_2, (a0_3, (a0_4, (n, ((n == a0_4), ()))))))), ()), n))) (
            cond ((n == a0_2)) (
              c = (((a0_0, (a0_1, (a0_2, (a0_3, (a0_4, (n, ((n == a0_2), ()))))))), ()), a0_3)) (
              c = (((a0_0, (a0_1, (a0_2, (a0_3, (a0_4, (n, ((n == a0_2), ()))))))), ()), n))))))) : R n a0_0 a0_1 a0_2 a0_3 a0_4 = some c := cell_rule (n := 400) (noSum_ok _) (by kernel_rfl) h
end cells_step
end Go.AI
