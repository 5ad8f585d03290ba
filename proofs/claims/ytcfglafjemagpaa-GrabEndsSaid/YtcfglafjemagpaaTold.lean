/-
  Own work: printed by Tell, a program of this work: what each function's body does over symbols.
-/
import Derived.Test.YtcfglafjemagpaaCfg
import Derived.KernelRfl
namespace Go.AI
open Go
set_option maxRecDepth 100000
set_option linter.unusedVariables false
set_option linter.unusedSimpArgs false
/-! garrison/garrisonlaw07.GrabSingle -/
namespace law07_GrabSingle
abbrev sh : List Sh := [.one (.bool)]
noncomputable abbrev R (a0 : Int) (a1 : Bool) (a2 : List (List DV)) : Option (Bool × Unit) := retω cfg sh 3 [(AV.d (DV.v (Value.int IntKind.i64 a0))), (AV.d (DV.v (Value.bool a1))), (AV.d (DV.lst 1 a2))]
end law07_GrabSingle
/-! garrison/garrisonlaw07.GrabWaits -/
namespace law07_GrabWaits
abbrev sh : List Sh := [.one (.bool)]
noncomputable abbrev R (a0 : Int) (a1 : Bool) (a2 : List (List DV)) (a3 : List (List DV)) : Option (Bool × Unit) := retω cfg sh 4 [(AV.d (DV.v (Value.int IntKind.i64 a0))), (AV.d (DV.v (Value.bool a1))), (AV.d (DV.lst 1 a2)), (AV.d (DV.lst 1 a3))]
end law07_GrabWaits
/-! garrison/garrisonlaw07.live -/
namespace law07_live
abbrev sh : List Sh := [.one (.bool)]
noncomputable abbrev R : Option (Bool × Unit) := retω cfg sh 7 []
end law07_live
/-! garrison/grab.Start -/
namespace grab_Start
abbrev sh : List Sh := [.agg [.int .i64, .lst 1, .int .i64, .int .i64, .int .i64, .bool], .one (.int .i64)]
noncomputable abbrev R (a0 : Int) (a1 : Bool) (a2 : List (List DV)) : Option ((Int × (List (List DV) × (Int × (Int × (Int × (Bool × Unit)))))) × (Int × Unit)) := retω cfg sh 8 [(AV.d (DV.v (Value.int IntKind.i64 a0))), (AV.d (DV.v (Value.bool a1))), (AV.d (DV.lst 1 a2))]
end grab_Start
/-! garrison/garrisonlaw07.num -/
namespace law07_num
abbrev sh : List Sh := [.one (.int .i64)]
noncomputable abbrev R (a0 : Int) : Option (Int × Unit) := retω cfg sh 9 [(AV.d (DV.v (Value.int IntKind.i64 a0)))]
end law07_num
/-! garrison/grab.Next -/
namespace grab_Next
abbrev sh : List Sh := [.agg [.int .i64, .int .i64, .int .i64, .int .i64, .int .i64], .one (.bool)]
noncomputable abbrev R (a0_0 : Int) (a0_1 : List (List DV)) (a0_2 : Int) (a0_3 : Int) (a0_4 : Int) (a0_5 : Bool) : Option ((Int × (Int × (Int × (Int × (Int × Unit))))) × (Bool × Unit)) := retω cfg sh 10 [(AV.agg [(AV.d (DV.v (Value.int IntKind.i64 a0_0))), (AV.d (DV.lst 1 a0_1)), (AV.d (DV.v (Value.int IntKind.i64 a0_2))), (AV.d (DV.v (Value.int IntKind.i64 a0_3))), (AV.d (DV.v (Value.int IntKind.i64 a0_4))), (AV.d (DV.v (Value.bool a0_5)))])]
end grab_Next
/-! garrison/grab.Take -/
namespace grab_Take
abbrev sh : List Sh := [.agg [.int .i64, .lst 1, .int .i64, .int .i64, .int .i64, .bool]]
noncomputable abbrev R (a0_0 : Int) (a0_1 : List (List DV)) (a0_2 : Int) (a0_3 : Int) (a0_4 : Int) (a0_5 : Bool) (a1 : Bool) : Option ((Int × (List (List DV) × (Int × (Int × (Int × (Bool × Unit)))))) × Unit) := retω cfg sh 11 [(AV.agg [(AV.d (DV.v (Value.int IntKind.i64 a0_0))), (AV.d (DV.lst 1 a0_1)), (AV.d (DV.v (Value.int IntKind.i64 a0_2))), (AV.d (DV.v (Value.int IntKind.i64 a0_3))), (AV.d (DV.v (Value.int IntKind.i64 a0_4))), (AV.d (DV.v (Value.bool a0_5)))]), (AV.d (DV.v (Value.bool a1)))]
end grab_Take
/-! garrison/grab.Held -/
namespace grab_Held
abbrev sh : List Sh := [.one (.lst 1)]
noncomputable abbrev R (a0_0 : Int) (a0_1 : List (List DV)) (a0_2 : Int) (a0_3 : Int) (a0_4 : Int) (a0_5 : Bool) : Option (List (List DV) × Unit) := retω cfg sh 12 [(AV.agg [(AV.d (DV.v (Value.int IntKind.i64 a0_0))), (AV.d (DV.lst 1 a0_1)), (AV.d (DV.v (Value.int IntKind.i64 a0_2))), (AV.d (DV.v (Value.int IntKind.i64 a0_3))), (AV.d (DV.v (Value.int IntKind.i64 a0_4))), (AV.d (DV.v (Value.bool a0_5)))])]
end grab_Held
/-! garrison/grab.Free -/
namespace grab_Free
abbrev sh : List Sh := [.agg [.int .i64, .lst 1, .int .i64, .int .i64, .int .i64, .bool]]
noncomputable abbrev R (a0_0 : Int) (a0_1 : List (List DV)) (a0_2 : Int) (a0_3 : Int) (a0_4 : Int) (a0_5 : Bool) : Option ((Int × (List (List DV) × (Int × (Int × (Int × (Bool × Unit)))))) × Unit) := retω cfg sh 13 [(AV.agg [(AV.d (DV.v (Value.int IntKind.i64 a0_0))), (AV.d (DV.lst 1 a0_1)), (AV.d (DV.v (Value.int IntKind.i64 a0_2))), (AV.d (DV.v (Value.int IntKind.i64 a0_3))), (AV.d (DV.v (Value.int IntKind.i64 a0_4))), (AV.d (DV.v (Value.bool a0_5)))])]
end grab_Free
/-! slices.ContainsFunc[[]int,int] -/
namespace slices_ContainsFunc_int_int__grab_Start_1
abbrev sh : List Sh := [.one (.bool)]
noncomputable abbrev R (a0 : List (List DV)) : Option (Bool × Unit) := retω cfg sh 20 [(AV.d (DV.lst 1 a0)), (AV.d (DV.fn 21 []))]
end slices_ContainsFunc_int_int__grab_Start_1
/-! slices.IndexFunc[[]int,int] -/
namespace slices_IndexFunc_int_int__grab_Start_1
abbrev sh : List Sh := [.one (.int .i64)]
noncomputable abbrev R (a0 : List (List DV)) : Option (Int × Unit) := retω cfg sh 27 [(AV.d (DV.lst 1 a0)), (AV.d (DV.fn 21 []))]
end slices_IndexFunc_int_int__grab_Start_1
/-! garrison/grab.Start$1 -/
namespace grab_Start_1
abbrev sh : List Sh := [.one (.bool)]
noncomputable abbrev R (a0 : Int) : Option (Bool × Unit) := retω cfg sh 21 [(AV.d (DV.v (Value.int IntKind.i64 a0)))]
end grab_Start_1
/-! garrison/garrisonlaw07.GrabSingle -/
namespace law07_GrabSingle
def lv : Live := [((9, 1048576), [0, 7, 9, 10], [429]), ((19, 2097152), [7, 13], [429])]
abbrev H9 (x0 : Int) (x9 : Int) (x10 : Int) (b429 : Int) (b429_1 : List (List DV)) (b429_2 : Int) (b429_3 : Int) (b429_4 : Int) (b429_5 : Bool) (c : (Bool × Unit)) : Prop := HeadAns cfg 3 sh lv (bd cfg 3 [1, 1, 1, 1, 1, 0, 1, 0, 0]) 1048576 [.inBlock 0, .code (bd cfg 3 [1, 1, 1, 1, 1, 1])]
  [(AV.d (DV.v (Value.int IntKind.i64 x0))), (AV.ptr 429 0 0 0), (AV.d (DV.v (Value.int IntKind.i64 x9))), (AV.d (DV.v (Value.int IntKind.i64 x10)))] [(Option.some (VBlk.cell 6 0 [(AV.d (DV.v (Value.int IntKind.i64 b429))), (AV.d (DV.lst 1 b429_1)), (AV.d (DV.v (Value.int IntKind.i64 b429_2))), (AV.d (DV.v (Value.int IntKind.i64 b429_3))), (AV.d (DV.v (Value.int IntKind.i64 b429_4))), (AV.d (DV.v (Value.bool b429_5)))]))] 1048576 c
abbrev H19 (x13 : Int) (b429 : Int) (b429_1 : List (List DV)) (b429_2 : Int) (b429_3 : Int) (b429_4 : Int) (b429_5 : Bool) (c : (Bool × Unit)) : Prop := HeadAns cfg 3 sh lv (bd cfg 3 [1, 1, 1, 1, 1, 1, 1, 1, 0, 1, 0, 0]) 2097152 [.inBlock 2, .code (bd cfg 3 [1, 1, 1, 1, 1, 1, 1, 1, 1])]
  [(AV.ptr 429 0 0 0), (AV.d (DV.v (Value.int IntKind.i64 x13)))] [(Option.some (VBlk.cell 6 0 [(AV.d (DV.v (Value.int IntKind.i64 b429))), (AV.d (DV.lst 1 b429_1)), (AV.d (DV.v (Value.int IntKind.i64 b429_2))), (AV.d (DV.v (Value.int IntKind.i64 b429_3))), (AV.d (DV.v (Value.int IntKind.i64 b429_4))), (AV.d (DV.v (Value.bool b429_5)))]))] 2097152 c
theorem start (a0 : Int) (a1 : Bool) (a2 : List (List DV)) (c : (Bool × Unit)) (h :
    cond (decide (((((a2).length : Nat) : Int) > (64 : Int)))) (
      optAll (law07_live.R) fun (c0 : (Bool × Unit)) =>
      c = ((c0).1, ())) (
      cond (decide ((a0 < (1 : Int)))) (
        optAll (law07_live.R) fun (c1 : (Bool × Unit)) =>
        c = ((c1).1, ())) (
        needs ((((a2).length * 8) ≤ 140737488355328) ∧ (((a2).length * 1) ≤ 140737488355328)) (
        optAll (grab_Start.R a0 a1 ((a2).take ((a2).length))) fun (c2 : ((Int × (List (List DV) × (Int × (Int × (Int × (Bool × Unit)))))) × (Int × Unit))) =>
        optAll (law07_num.R ((c2).2).1) fun (c3 : (Int × Unit)) =>
        cond (((c3).1 != (0 : Int))) (
          optAll (law07_live.R) fun (c4 : (Bool × Unit)) =>
          c = ((c4).1, ())) (
          H9 a0 ((((((c2).1).2).1).length : Nat) : Int) (0 : Int) ((c2).1).1 (((c2).1).2).1 ((((c2).1).2).2).1 (((((c2).1).2).2).2).1 ((((((c2).1).2).2).2).2).1 (((((((c2).1).2).2).2).2).2).1 c))))) : R a0 a1 a2 = some c := start_rule (n := 400) (lv := lv) (noSum_ok _) (by kernel_rfl) h
theorem H9_step (x0 : Int) (x9 : Int) (x10 : Int) (b429 : Int) (b429_1 : List (List DV)) (b429_2 : Int) (b429_3 : Int) (b429_4 : Int) (b429_5 : Bool) (c : (Bool × Unit)) (h :
    cond (decide ((x10 < x9))) (
      optAll (grab_Next.R b429 b429_1 b429_2 b429_3 b429_4 b429_5) fun (c5 : ((Int × (Int × (Int × (Int × (Int × Unit))))) × (Bool × Unit))) =>
      cond ((!((c5).2).1)) (
        c = (false, ())) (
        cond ((((c5).1).1 != (4 : Int))) (
          c = (false, ())) (
          needs ((0 : Int) ≤ x10) (
          optAll ((b429_1)[(Int.toNat x10)]?) fun (r6 : List DV) =>
          optAll ((dInt IntKind.i64 r6 0)) fun (z7 : Int) =>
          cond (((((c5).1).2).1 != z7)) (
            c = (false, ())) (
            cond ((((((((c5).1).2).2).2).2).1 != x0)) (
              c = (false, ())) (
              cond (decide ((x10 > (0 : Int)))) (
                needs ((0 : Int) ≤ (IntKind.i64.wrap (x10 - (1 : Int)))) (
                optAll ((b429_1)[(Int.toNat (IntKind.i64.wrap (x10 - (1 : Int))))]?) fun (r8 : List DV) =>
                optAll ((dInt IntKind.i64 r8 0)) fun (z9 : Int) =>
                needs ((0 : Int) ≤ x10) (
                optAll ((b429_1)[(Int.toNat x10)]?) fun (r10 : List DV) =>
                optAll ((dInt IntKind.i64 r10 0)) fun (z11 : Int) =>
                cond (decide ((z9 ≥ z11))) (
                  c = (false, ())) (
                  optAll (grab_Take.R b429 b429_1 b429_2 b429_3 b429_4 b429_5 true) fun (c12 : ((Int × (List (List DV) × (Int × (Int × (Int × (Bool × Unit)))))) × Unit)) =>
                  H9 x0 x9 (IntKind.i64.wrap (x10 + (1 : Int))) ((c12).1).1 (((c12).1).2).1 ((((c12).1).2).2).1 (((((c12).1).2).2).2).1 ((((((c12).1).2).2).2).2).1 (((((((c12).1).2).2).2).2).2).1 c)))) (
                optAll (grab_Take.R b429 b429_1 b429_2 b429_3 b429_4 b429_5 true) fun (c13 : ((Int × (List (List DV) × (Int × (Int × (Int × (Bool × Unit)))))) × Unit)) =>
                H9 x0 x9 (IntKind.i64.wrap (x10 + (1 : Int))) ((c13).1).1 (((c13).1).2).1 ((((c13).1).2).2).1 (((((c13).1).2).2).2).1 ((((((c13).1).2).2).2).2).1 (((((((c13).1).2).2).2).2).2).1 c))))))) (
      cond ((b429_2 != (2 : Int))) (
        c = (false, ())) (
        optAll (grab_Held.R b429 b429_1 b429_2 b429_3 b429_4 b429_5) fun (c14 : (List (List DV) × Unit)) =>
        cond ((((((c14).1).length : Nat) : Int) != x9)) (
          c = (false, ())) (
          optAll (grab_Free.R b429 b429_1 b429_2 b429_3 b429_4 b429_5) fun (c15 : ((Int × (List (List DV) × (Int × (Int × (Int × (Bool × Unit)))))) × Unit)) =>
          H19 (IntKind.i64.wrap (x9 - (1 : Int))) ((c15).1).1 (((c15).1).2).1 ((((c15).1).2).2).1 (((((c15).1).2).2).2).1 ((((((c15).1).2).2).2).2).1 (((((((c15).1).2).2).2).2).2).1 c)))) : H9 x0 x9 x10 b429 b429_1 b429_2 b429_3 b429_4 b429_5 c := head_rule (n := 400) (noSum_ok _) (by kernel_rfl) h
theorem H19_step (x13 : Int) (b429 : Int) (b429_1 : List (List DV)) (b429_2 : Int) (b429_3 : Int) (b429_4 : Int) (b429_5 : Bool) (c : (Bool × Unit)) (h :
    cond (decide ((x13 ≥ (0 : Int)))) (
      optAll (grab_Next.R b429 b429_1 b429_2 b429_3 b429_4 b429_5) fun (c16 : ((Int × (Int × (Int × (Int × (Int × Unit))))) × (Bool × Unit))) =>
      cond ((!((c16).2).1)) (
        c = (false, ())) (
        cond ((((c16).1).1 != (5 : Int))) (
          c = (false, ())) (
          needs ((0 : Int) ≤ x13) (
          optAll ((b429_1)[(Int.toNat x13)]?) fun (r17 : List DV) =>
          optAll ((dInt IntKind.i64 r17 0)) fun (z18 : Int) =>
          cond (((((c16).1).2).1 != z18)) (
            c = (false, ())) (
            optAll (grab_Take.R b429 b429_1 b429_2 b429_3 b429_4 b429_5 true) fun (c19 : ((Int × (List (List DV) × (Int × (Int × (Int × (Bool × Unit)))))) × Unit)) =>
            H19 (IntKind.i64.wrap (x13 - (1 : Int))) ((c19).1).1 (((c19).1).2).1 ((((c19).1).2).2).1 (((((c19).1).2).2).2).1 ((((((c19).1).2).2).2).2).1 (((((((c19).1).2).2).2).2).2).1 c))))) (
      optAll (grab_Next.R b429 b429_1 b429_2 b429_3 b429_4 b429_5) fun (c20 : ((Int × (Int × (Int × (Int × (Int × Unit))))) × (Bool × Unit))) =>
      cond ((b429_2 == (5 : Int))) (
        cond ((!((c20).2).1)) (
          cond ((b429_4 == (0 : Int))) (
            optAll (law07_live.R) fun (c21 : (Bool × Unit)) =>
            c = ((c21).1, ())) (
            c = (false, ()))) (
          c = (false, ()))) (
        c = (false, ())))) : H19 x13 b429 b429_1 b429_2 b429_3 b429_4 b429_5 c := head_rule (n := 400) (noSum_ok _) (by kernel_rfl) h
end law07_GrabSingle
/-! garrison/garrisonlaw07.GrabWaits -/
namespace law07_GrabWaits
def lv : Live := [((8, 1048576), [1, 3, 9, 11], [420])]
abbrev H8 (x1 : Bool) (x3 : List (List DV)) (x11 : Int) (b420 : Int) (b420_1 : List (List DV)) (b420_2 : Int) (b420_3 : Int) (b420_4 : Int) (b420_5 : Bool) (c : (Bool × Unit)) : Prop := HeadAns cfg 4 sh lv (bd cfg 4 [1, 1, 1, 1, 0, 1, 0, 0]) 1048576 [.inBlock 0, .code (bd cfg 4 [1, 1, 1, 1, 1])]
  [(AV.d (DV.v (Value.bool x1))), (AV.d (DV.lst 1 x3)), (AV.ptr 420 0 0 0), (AV.d (DV.v (Value.int IntKind.i64 x11)))] [(Option.some (VBlk.cell 6 0 [(AV.d (DV.v (Value.int IntKind.i64 b420))), (AV.d (DV.lst 1 b420_1)), (AV.d (DV.v (Value.int IntKind.i64 b420_2))), (AV.d (DV.v (Value.int IntKind.i64 b420_3))), (AV.d (DV.v (Value.int IntKind.i64 b420_4))), (AV.d (DV.v (Value.bool b420_5)))]))] 1048576 c
theorem start (a0 : Int) (a1 : Bool) (a2 : List (List DV)) (a3 : List (List DV)) (c : (Bool × Unit)) (h :
    cond (decide (((((a2).length : Nat) : Int) > (64 : Int)))) (
      optAll (law07_live.R) fun (c0 : (Bool × Unit)) =>
      c = ((c0).1, ())) (
      cond (decide (((((a3).length : Nat) : Int) > (300 : Int)))) (
        optAll (law07_live.R) fun (c1 : (Bool × Unit)) =>
        c = ((c1).1, ())) (
        needs ((((a2).length * 8) ≤ 140737488355328) ∧ (((a2).length * 1) ≤ 140737488355328)) (
        optAll (grab_Start.R a0 a1 ((a2).take ((a2).length))) fun (c2 : ((Int × (List (List DV) × (Int × (Int × (Int × (Bool × Unit)))))) × (Int × Unit))) =>
        optAll (law07_num.R ((c2).2).1) fun (c3 : (Int × Unit)) =>
        cond (((c3).1 != (0 : Int))) (
          optAll (law07_live.R) fun (c4 : (Bool × Unit)) =>
          c = ((c4).1, ())) (
          H8 a1 a3 (0 : Int) ((c2).1).1 (((c2).1).2).1 ((((c2).1).2).2).1 (((((c2).1).2).2).2).1 ((((((c2).1).2).2).2).2).1 (((((((c2).1).2).2).2).2).2).1 c))))) : R a0 a1 a2 a3 = some c := start_rule (n := 400) (lv := lv) (noSum_ok _) (by kernel_rfl) h
theorem H8_step (x1 : Bool) (x3 : List (List DV)) (x11 : Int) (b420 : Int) (b420_1 : List (List DV)) (b420_2 : Int) (b420_3 : Int) (b420_4 : Int) (b420_5 : Bool) (c : (Bool × Unit)) (h :
    cond (decide ((x11 < (((x3).length : Nat) : Int)))) (
      needs ((0 : Int) ≤ x11) (
      optAll ((x3)[(Int.toNat x11)]?) fun (r5 : List DV) =>
      optAll ((dBool r5 0)) fun (z6 : Bool) =>
      optAll (grab_Take.R b420 b420_1 b420_2 b420_3 b420_4 b420_5 z6) fun (c7 : ((Int × (List (List DV) × (Int × (Int × (Int × (Bool × Unit)))))) × Unit)) =>
      cond ((b420_2 == (1 : Int))) (
        cond (x1) (
          cond ((((((((c7).1).2).2).2).2).1 != (0 : Int))) (
            c = (false, ())) (
            optAll (grab_Held.R ((c7).1).1 (((c7).1).2).1 ((((c7).1).2).2).1 (((((c7).1).2).2).2).1 ((((((c7).1).2).2).2).2).1 (((((((c7).1).2).2).2).2).2).1) fun (c8 : (List (List DV) × Unit)) =>
            optAll (grab_Held.R b420 b420_1 b420_2 b420_3 b420_4 b420_5) fun (c9 : (List (List DV) × Unit)) =>
            cond (decide ((((((c8).1).length : Nat) : Int) < ((((c9).1).length : Nat) : Int)))) (
              c = (false, ())) (
              cond ((!x1)) (
                needs ((0 : Int) ≤ x11) (
                optAll ((x3)[(Int.toNat x11)]?) fun (r10 : List DV) =>
                optAll ((dBool r10 0)) fun (z11 : Bool) =>
                cond ((!z11)) (
                  cond (decide (((((b420_1).length : Nat) : Int) > (0 : Int)))) (
                    cond ((((((((c7).1).2).2).2).2).1 != (IntKind.i64.wrap (b420_4 + (1 : Int))))) (
                      c = (false, ())) (
                      cond ((!((((((c7).1).2).2).1 == (3 : Int)) == decide ((b420_3 > (0 : Int)))))) (
                        c = (false, ())) (
                        needs ((0 : Int) ≤ x11) (
                        optAll ((x3)[(Int.toNat x11)]?) fun (r12 : List DV) =>
                        optAll ((dBool r12 0)) fun (z13 : Bool) =>
                        cond (z13) (
                          cond (decide (((((b420_1).length : Nat) : Int) > (0 : Int)))) (
                            optAll (grab_Held.R ((c7).1).1 (((c7).1).2).1 ((((c7).1).2).2).1 (((((c7).1).2).2).2).1 ((((((c7).1).2).2).2).2).1 (((((((c7).1).2).2).2).2).2).1) fun (c14 : (List (List DV) × Unit)) =>
                            optAll (grab_Held.R b420 b420_1 b420_2 b420_3 b420_4 b420_5) fun (c15 : (List (List DV) × Unit)) =>
                            cond ((((((c14).1).length : Nat) : Int) != (IntKind.i64.wrap (((((c15).1).length : Nat) : Int) + (1 : Int))))) (
                              c = (false, ())) (
                              cond ((b420_2 == (3 : Int))) (
                                optAll (grab_Held.R ((c7).1).1 (((c7).1).2).1 ((((c7).1).2).2).1 (((((c7).1).2).2).2).1 ((((((c7).1).2).2).2).2).1 (((((((c7).1).2).2).2).2).2).1) fun (c16 : (List (List DV) × Unit)) =>
                                optAll (grab_Held.R b420 b420_1 b420_2 b420_3 b420_4 b420_5) fun (c17 : (List (List DV) × Unit)) =>
                                cond ((((((c16).1).length : Nat) : Int) != (IntKind.i64.wrap (((((c17).1).length : Nat) : Int) - (1 : Int))))) (
                                  c = (false, ())) (
                                  H8 x1 x3 (IntKind.i64.wrap (x11 + (1 : Int))) ((c7).1).1 (((c7).1).2).1 ((((c7).1).2).2).1 (((((c7).1).2).2).2).1 ((((((c7).1).2).2).2).2).1 (((((((c7).1).2).2).2).2).2).1 c)) (
                                H8 x1 x3 (IntKind.i64.wrap (x11 + (1 : Int))) ((c7).1).1 (((c7).1).2).1 ((((c7).1).2).2).1 (((((c7).1).2).2).2).1 ((((((c7).1).2).2).2).2).1 (((((((c7).1).2).2).2).2).2).1 c))) (
                            cond ((b420_2 == (3 : Int))) (
                              optAll (grab_Held.R ((c7).1).1 (((c7).1).2).1 ((((c7).1).2).2).1 (((((c7).1).2).2).2).1 ((((((c7).1).2).2).2).2).1 (((((((c7).1).2).2).2).2).2).1) fun (c18 : (List (List DV) × Unit)) =>
                              optAll (grab_Held.R b420 b420_1 b420_2 b420_3 b420_4 b420_5) fun (c19 : (List (List DV) × Unit)) =>
                              cond ((((((c18).1).length : Nat) : Int) != (IntKind.i64.wrap (((((c19).1).length : Nat) : Int) - (1 : Int))))) (
                                c = (false, ())) (
                                H8 x1 x3 (IntKind.i64.wrap (x11 + (1 : Int))) ((c7).1).1 (((c7).1).2).1 ((((c7).1).2).2).1 (((((c7).1).2).2).2).1 ((((((c7).1).2).2).2).2).1 (((((((c7).1).2).2).2).2).2).1 c)) (
                              H8 x1 x3 (IntKind.i64.wrap (x11 + (1 : Int))) ((c7).1).1 (((c7).1).2).1 ((((c7).1).2).2).1 (((((c7).1).2).2).2).1 ((((((c7).1).2).2).2).2).1 (((((((c7).1).2).2).2).2).2).1 c))) (
                          cond ((b420_2 == (3 : Int))) (
                            optAll (grab_Held.R ((c7).1).1 (((c7).1).2).1 ((((c7).1).2).2).1 (((((c7).1).2).2).2).1 ((((((c7).1).2).2).2).2).1 (((((((c7).1).2).2).2).2).2).1) fun (c20 : (List (List DV) × Unit)) =>
                            optAll (grab_Held.R b420 b420_1 b420_2 b420_3 b420_4 b420_5) fun (c21 : (List (List DV) × Unit)) =>
                            cond ((((((c20).1).length : Nat) : Int) != (IntKind.i64.wrap (((((c21).1).length : Nat) : Int) - (1 : Int))))) (
                              c = (false, ())) (
                              H8 x1 x3 (IntKind.i64.wrap (x11 + (1 : Int))) ((c7).1).1 (((c7).1).2).1 ((((c7).1).2).2).1 (((((c7).1).2).2).2).1 ((((((c7).1).2).2).2).2).1 (((((((c7).1).2).2).2).2).2).1 c)) (
                            H8 x1 x3 (IntKind.i64.wrap (x11 + (1 : Int))) ((c7).1).1 (((c7).1).2).1 ((((c7).1).2).2).1 (((((c7).1).2).2).2).1 ((((((c7).1).2).2).2).2).1 (((((((c7).1).2).2).2).2).2).1 c)))))) (
                    needs ((0 : Int) ≤ x11) (
                    optAll ((x3)[(Int.toNat x11)]?) fun (r22 : List DV) =>
                    optAll ((dBool r22 0)) fun (z23 : Bool) =>
                    cond (z23) (
                      cond (decide (((((b420_1).length : Nat) : Int) > (0 : Int)))) (
                        optAll (grab_Held.R ((c7).1).1 (((c7).1).2).1 ((((c7).1).2).2).1 (((((c7).1).2).2).2).1 ((((((c7).1).2).2).2).2).1 (((((((c7).1).2).2).2).2).2).1) fun (c24 : (List (List DV) × Unit)) =>
                        optAll (grab_Held.R b420 b420_1 b420_2 b420_3 b420_4 b420_5) fun (c25 : (List (List DV) × Unit)) =>
                        cond ((((((c24).1).length : Nat) : Int) != (IntKind.i64.wrap (((((c25).1).length : Nat) : Int) + (1 : Int))))) (
                          c = (false, ())) (
                          cond ((b420_2 == (3 : Int))) (
                            optAll (grab_Held.R ((c7).1).1 (((c7).1).2).1 ((((c7).1).2).2).1 (((((c7).1).2).2).2).1 ((((((c7).1).2).2).2).2).1 (((((((c7).1).2).2).2).2).2).1) fun (c26 : (List (List DV) × Unit)) =>
                            optAll (grab_Held.R b420 b420_1 b420_2 b420_3 b420_4 b420_5) fun (c27 : (List (List DV) × Unit)) =>
                            cond ((((((c26).1).length : Nat) : Int) != (IntKind.i64.wrap (((((c27).1).length : Nat) : Int) - (1 : Int))))) (
                              c = (false, ())) (
                              H8 x1 x3 (IntKind.i64.wrap (x11 + (1 : Int))) ((c7).1).1 (((c7).1).2).1 ((((c7).1).2).2).1 (((((c7).1).2).2).2).1 ((((((c7).1).2).2).2).2).1 (((((((c7).1).2).2).2).2).2).1 c)) (
                            H8 x1 x3 (IntKind.i64.wrap (x11 + (1 : Int))) ((c7).1).1 (((c7).1).2).1 ((((c7).1).2).2).1 (((((c7).1).2).2).2).1 ((((((c7).1).2).2).2).2).1 (((((((c7).1).2).2).2).2).2).1 c))) (
                        cond ((b420_2 == (3 : Int))) (
                          optAll (grab_Held.R ((c7).1).1 (((c7).1).2).1 ((((c7).1).2).2).1 (((((c7).1).2).2).2).1 ((((((c7).1).2).2).2).2).1 (((((((c7).1).2).2).2).2).2).1) fun (c28 : (List (List DV) × Unit)) =>
                          optAll (grab_Held.R b420 b420_1 b420_2 b420_3 b420_4 b420_5) fun (c29 : (List (List DV) × Unit)) =>
                          cond ((((((c28).1).length : Nat) : Int) != (IntKind.i64.wrap (((((c29).1).length : Nat) : Int) - (1 : Int))))) (
                            c = (false, ())) (
                            H8 x1 x3 (IntKind.i64.wrap (x11 + (1 : Int))) ((c7).1).1 (((c7).1).2).1 ((((c7).1).2).2).1 (((((c7).1).2).2).2).1 ((((((c7).1).2).2).2).2).1 (((((((c7).1).2).2).2).2).2).1 c)) (
                          H8 x1 x3 (IntKind.i64.wrap (x11 + (1 : Int))) ((c7).1).1 (((c7).1).2).1 ((((c7).1).2).2).1 (((((c7).1).2).2).2).1 ((((((c7).1).2).2).2).2).1 (((((((c7).1).2).2).2).2).2).1 c))) (
                      cond ((b420_2 == (3 : Int))) (
                        optAll (grab_Held.R ((c7).1).1 (((c7).1).2).1 ((((c7).1).2).2).1 (((((c7).1).2).2).2).1 ((((((c7).1).2).2).2).2).1 (((((((c7).1).2).2).2).2).2).1) fun (c30 : (List (List DV) × Unit)) =>
                        optAll (grab_Held.R b420 b420_1 b420_2 b420_3 b420_4 b420_5) fun (c31 : (List (List DV) × Unit)) =>
                        cond ((((((c30).1).length : Nat) : Int) != (IntKind.i64.wrap (((((c31).1).length : Nat) : Int) - (1 : Int))))) (
                          c = (false, ())) (
                          H8 x1 x3 (IntKind.i64.wrap (x11 + (1 : Int))) ((c7).1).1 (((c7).1).2).1 ((((c7).1).2).2).1 (((((c7).1).2).2).2).1 ((((((c7).1).2).2).2).2).1 (((((((c7).1).2).2).2).2).2).1 c)) (
                        H8 x1 x3 (IntKind.i64.wrap (x11 + (1 : Int))) ((c7).1).1 (((c7).1).2).1 ((((c7).1).2).2).1 (((((c7).1).2).2).2).1 ((((((c7).1).2).2).2).2).1 (((((((c7).1).2).2).2).2).2).1 c))))) (
                  needs ((0 : Int) ≤ x11) (
                  optAll ((x3)[(Int.toNat x11)]?) fun (r32 : List DV) =>
                  optAll ((dBool r32 0)) fun (z33 : Bool) =>
                  cond (z33) (
                    cond (decide (((((b420_1).length : Nat) : Int) > (0 : Int)))) (
                      optAll (grab_Held.R ((c7).1).1 (((c7).1).2).1 ((((c7).1).2).2).1 (((((c7).1).2).2).2).1 ((((((c7).1).2).2).2).2).1 (((((((c7).1).2).2).2).2).2).1) fun (c34 : (List (List DV) × Unit)) =>
                      optAll (grab_Held.R b420 b420_1 b420_2 b420_3 b420_4 b420_5) fun (c35 : (List (List DV) × Unit)) =>
                      cond ((((((c34).1).length : Nat) : Int) != (IntKind.i64.wrap (((((c35).1).length : Nat) : Int) + (1 : Int))))) (
                        c = (false, ())) (
                        cond ((b420_2 == (3 : Int))) (
                          optAll (grab_Held.R ((c7).1).1 (((c7).1).2).1 ((((c7).1).2).2).1 (((((c7).1).2).2).2).1 ((((((c7).1).2).2).2).2).1 (((((((c7).1).2).2).2).2).2).1) fun (c36 : (List (List DV) × Unit)) =>
                          optAll (grab_Held.R b420 b420_1 b420_2 b420_3 b420_4 b420_5) fun (c37 : (List (List DV) × Unit)) =>
                          cond ((((((c36).1).length : Nat) : Int) != (IntKind.i64.wrap (((((c37).1).length : Nat) : Int) - (1 : Int))))) (
                            c = (false, ())) (
                            H8 x1 x3 (IntKind.i64.wrap (x11 + (1 : Int))) ((c7).1).1 (((c7).1).2).1 ((((c7).1).2).2).1 (((((c7).1).2).2).2).1 ((((((c7).1).2).2).2).2).1 (((((((c7).1).2).2).2).2).2).1 c)) (
                          H8 x1 x3 (IntKind.i64.wrap (x11 + (1 : Int))) ((c7).1).1 (((c7).1).2).1 ((((c7).1).2).2).1 (((((c7).1).2).2).2).1 ((((((c7).1).2).2).2).2).1 (((((((c7).1).2).2).2).2).2).1 c))) (
                      cond ((b420_2 == (3 : Int))) (
                        optAll (grab_Held.R ((c7).1).1 (((c7).1).2).1 ((((c7).1).2).2).1 (((((c7).1).2).2).2).1 ((((((c7).1).2).2).2).2).1 (((((((c7).1).2).2).2).2).2).1) fun (c38 : (List (List DV) × Unit)) =>
                        optAll (grab_Held.R b420 b420_1 b420_2 b420_3 b420_4 b420_5) fun (c39 : (List (List DV) × Unit)) =>
                        cond ((((((c38).1).length : Nat) : Int) != (IntKind.i64.wrap (((((c39).1).length : Nat) : Int) - (1 : Int))))) (
                          c = (false, ())) (
                          H8 x1 x3 (IntKind.i64.wrap (x11 + (1 : Int))) ((c7).1).1 (((c7).1).2).1 ((((c7).1).2).2).1 (((((c7).1).2).2).2).1 ((((((c7).1).2).2).2).2).1 (((((((c7).1).2).2).2).2).2).1 c)) (
                        H8 x1 x3 (IntKind.i64.wrap (x11 + (1 : Int))) ((c7).1).1 (((c7).1).2).1 ((((c7).1).2).2).1 (((((c7).1).2).2).2).1 ((((((c7).1).2).2).2).2).1 (((((((c7).1).2).2).2).2).2).1 c))) (
                    cond ((b420_2 == (3 : Int))) (
                      optAll (grab_Held.R ((c7).1).1 (((c7).1).2).1 ((((c7).1).2).2).1 (((((c7).1).2).2).2).1 ((((((c7).1).2).2).2).2).1 (((((((c7).1).2).2).2).2).2).1) fun (c40 : (List (List DV) × Unit)) =>
                      optAll (grab_Held.R b420 b420_1 b420_2 b420_3 b420_4 b420_5) fun (c41 : (List (List DV) × Unit)) =>
                      cond ((((((c40).1).length : Nat) : Int) != (IntKind.i64.wrap (((((c41).1).length : Nat) : Int) - (1 : Int))))) (
                        c = (false, ())) (
                        H8 x1 x3 (IntKind.i64.wrap (x11 + (1 : Int))) ((c7).1).1 (((c7).1).2).1 ((((c7).1).2).2).1 (((((c7).1).2).2).2).1 ((((((c7).1).2).2).2).2).1 (((((((c7).1).2).2).2).2).2).1 c)) (
                      H8 x1 x3 (IntKind.i64.wrap (x11 + (1 : Int))) ((c7).1).1 (((c7).1).2).1 ((((c7).1).2).2).1 (((((c7).1).2).2).2).1 ((((((c7).1).2).2).2).2).1 (((((((c7).1).2).2).2).2).2).1 c)))))) (
                needs ((0 : Int) ≤ x11) (
                optAll ((x3)[(Int.toNat x11)]?) fun (r42 : List DV) =>
                optAll ((dBool r42 0)) fun (z43 : Bool) =>
                cond (z43) (
                  cond (decide (((((b420_1).length : Nat) : Int) > (0 : Int)))) (
                    optAll (grab_Held.R ((c7).1).1 (((c7).1).2).1 ((((c7).1).2).2).1 (((((c7).1).2).2).2).1 ((((((c7).1).2).2).2).2).1 (((((((c7).1).2).2).2).2).2).1) fun (c44 : (List (List DV) × Unit)) =>
                    optAll (grab_Held.R b420 b420_1 b420_2 b420_3 b420_4 b420_5) fun (c45 : (List (List DV) × Unit)) =>
                    cond ((((((c44).1).length : Nat) : Int) != (IntKind.i64.wrap (((((c45).1).length : Nat) : Int) + (1 : Int))))) (
                      c = (false, ())) (
                      cond ((b420_2 == (3 : Int))) (
                        optAll (grab_Held.R ((c7).1).1 (((c7).1).2).1 ((((c7).1).2).2).1 (((((c7).1).2).2).2).1 ((((((c7).1).2).2).2).2).1 (((((((c7).1).2).2).2).2).2).1) fun (c46 : (List (List DV) × Unit)) =>
                        optAll (grab_Held.R b420 b420_1 b420_2 b420_3 b420_4 b420_5) fun (c47 : (List (List DV) × Unit)) =>
                        cond ((((((c46).1).length : Nat) : Int) != (IntKind.i64.wrap (((((c47).1).length : Nat) : Int) - (1 : Int))))) (
                          c = (false, ())) (
                          H8 x1 x3 (IntKind.i64.wrap (x11 + (1 : Int))) ((c7).1).1 (((c7).1).2).1 ((((c7).1).2).2).1 (((((c7).1).2).2).2).1 ((((((c7).1).2).2).2).2).1 (((((((c7).1).2).2).2).2).2).1 c)) (
                        H8 x1 x3 (IntKind.i64.wrap (x11 + (1 : Int))) ((c7).1).1 (((c7).1).2).1 ((((c7).1).2).2).1 (((((c7).1).2).2).2).1 ((((((c7).1).2).2).2).2).1 (((((((c7).1).2).2).2).2).2).1 c))) (
                    cond ((b420_2 == (3 : Int))) (
                      optAll (grab_Held.R ((c7).1).1 (((c7).1).2).1 ((((c7).1).2).2).1 (((((c7).1).2).2).2).1 ((((((c7).1).2).2).2).2).1 (((((((c7).1).2).2).2).2).2).1) fun (c48 : (List (List DV) × Unit)) =>
                      optAll (grab_Held.R b420 b420_1 b420_2 b420_3 b420_4 b420_5) fun (c49 : (List (List DV) × Unit)) =>
                      cond ((((((c48).1).length : Nat) : Int) != (IntKind.i64.wrap (((((c49).1).length : Nat) : Int) - (1 : Int))))) (
                        c = (false, ())) (
                        H8 x1 x3 (IntKind.i64.wrap (x11 + (1 : Int))) ((c7).1).1 (((c7).1).2).1 ((((c7).1).2).2).1 (((((c7).1).2).2).2).1 ((((((c7).1).2).2).2).2).1 (((((((c7).1).2).2).2).2).2).1 c)) (
                      H8 x1 x3 (IntKind.i64.wrap (x11 + (1 : Int))) ((c7).1).1 (((c7).1).2).1 ((((c7).1).2).2).1 (((((c7).1).2).2).2).1 ((((((c7).1).2).2).2).2).1 (((((((c7).1).2).2).2).2).2).1 c))) (
                  cond ((b420_2 == (3 : Int))) (
                    optAll (grab_Held.R ((c7).1).1 (((c7).1).2).1 ((((c7).1).2).2).1 (((((c7).1).2).2).2).1 ((((((c7).1).2).2).2).2).1 (((((((c7).1).2).2).2).2).2).1) fun (c50 : (List (List DV) × Unit)) =>
                    optAll (grab_Held.R b420 b420_1 b420_2 b420_3 b420_4 b420_5) fun (c51 : (List (List DV) × Unit)) =>
                    cond ((((((c50).1).length : Nat) : Int) != (IntKind.i64.wrap (((((c51).1).length : Nat) : Int) - (1 : Int))))) (
                      c = (false, ())) (
                      H8 x1 x3 (IntKind.i64.wrap (x11 + (1 : Int))) ((c7).1).1 (((c7).1).2).1 ((((c7).1).2).2).1 (((((c7).1).2).2).2).1 ((((((c7).1).2).2).2).2).1 (((((((c7).1).2).2).2).2).2).1 c)) (
                    H8 x1 x3 (IntKind.i64.wrap (x11 + (1 : Int))) ((c7).1).1 (((c7).1).2).1 ((((c7).1).2).2).1 (((((c7).1).2).2).2).1 ((((((c7).1).2).2).2).2).1 (((((((c7).1).2).2).2).2).2).1 c))))))) (
          cond ((!x1)) (
            needs ((0 : Int) ≤ x11) (
            optAll ((x3)[(Int.toNat x11)]?) fun (r52 : List DV) =>
            optAll ((dBool r52 0)) fun (z53 : Bool) =>
            cond ((!z53)) (
              cond (decide (((((b420_1).length : Nat) : Int) > (0 : Int)))) (
                cond ((((((((c7).1).2).2).2).2).1 != (IntKind.i64.wrap (b420_4 + (1 : Int))))) (
                  c = (false, ())) (
                  cond ((!((((((c7).1).2).2).1 == (3 : Int)) == decide ((b420_3 > (0 : Int)))))) (
                    c = (false, ())) (
                    needs ((0 : Int) ≤ x11) (
                    optAll ((x3)[(Int.toNat x11)]?) fun (r54 : List DV) =>
                    optAll ((dBool r54 0)) fun (z55 : Bool) =>
                    cond (z55) (
                      cond (decide (((((b420_1).length : Nat) : Int) > (0 : Int)))) (
                        optAll (grab_Held.R ((c7).1).1 (((c7).1).2).1 ((((c7).1).2).2).1 (((((c7).1).2).2).2).1 ((((((c7).1).2).2).2).2).1 (((((((c7).1).2).2).2).2).2).1) fun (c56 : (List (List DV) × Unit)) =>
                        optAll (grab_Held.R b420 b420_1 b420_2 b420_3 b420_4 b420_5) fun (c57 : (List (List DV) × Unit)) =>
                        cond ((((((c56).1).length : Nat) : Int) != (IntKind.i64.wrap (((((c57).1).length : Nat) : Int) + (1 : Int))))) (
                          c = (false, ())) (
                          cond ((b420_2 == (3 : Int))) (
                            optAll (grab_Held.R ((c7).1).1 (((c7).1).2).1 ((((c7).1).2).2).1 (((((c7).1).2).2).2).1 ((((((c7).1).2).2).2).2).1 (((((((c7).1).2).2).2).2).2).1) fun (c58 : (List (List DV) × Unit)) =>
                            optAll (grab_Held.R b420 b420_1 b420_2 b420_3 b420_4 b420_5) fun (c59 : (List (List DV) × Unit)) =>
                            cond ((((((c58).1).length : Nat) : Int) != (IntKind.i64.wrap (((((c59).1).length : Nat) : Int) - (1 : Int))))) (
                              c = (false, ())) (
                              H8 x1 x3 (IntKind.i64.wrap (x11 + (1 : Int))) ((c7).1).1 (((c7).1).2).1 ((((c7).1).2).2).1 (((((c7).1).2).2).2).1 ((((((c7).1).2).2).2).2).1 (((((((c7).1).2).2).2).2).2).1 c)) (
                            H8 x1 x3 (IntKind.i64.wrap (x11 + (1 : Int))) ((c7).1).1 (((c7).1).2).1 ((((c7).1).2).2).1 (((((c7).1).2).2).2).1 ((((((c7).1).2).2).2).2).1 (((((((c7).1).2).2).2).2).2).1 c))) (
                        cond ((b420_2 == (3 : Int))) (
                          optAll (grab_Held.R ((c7).1).1 (((c7).1).2).1 ((((c7).1).2).2).1 (((((c7).1).2).2).2).1 ((((((c7).1).2).2).2).2).1 (((((((c7).1).2).2).2).2).2).1) fun (c60 : (List (List DV) × Unit)) =>
                          optAll (grab_Held.R b420 b420_1 b420_2 b420_3 b420_4 b420_5) fun (c61 : (List (List DV) × Unit)) =>
                          cond ((((((c60).1).length : Nat) : Int) != (IntKind.i64.wrap (((((c61).1).length : Nat) : Int) - (1 : Int))))) (
                            c = (false, ())) (
                            H8 x1 x3 (IntKind.i64.wrap (x11 + (1 : Int))) ((c7).1).1 (((c7).1).2).1 ((((c7).1).2).2).1 (((((c7).1).2).2).2).1 ((((((c7).1).2).2).2).2).1 (((((((c7).1).2).2).2).2).2).1 c)) (
                          H8 x1 x3 (IntKind.i64.wrap (x11 + (1 : Int))) ((c7).1).1 (((c7).1).2).1 ((((c7).1).2).2).1 (((((c7).1).2).2).2).1 ((((((c7).1).2).2).2).2).1 (((((((c7).1).2).2).2).2).2).1 c))) (
                      cond ((b420_2 == (3 : Int))) (
                        optAll (grab_Held.R ((c7).1).1 (((c7).1).2).1 ((((c7).1).2).2).1 (((((c7).1).2).2).2).1 ((((((c7).1).2).2).2).2).1 (((((((c7).1).2).2).2).2).2).1) fun (c62 : (List (List DV) × Unit)) =>
                        optAll (grab_Held.R b420 b420_1 b420_2 b420_3 b420_4 b420_5) fun (c63 : (List (List DV) × Unit)) =>
                        cond ((((((c62).1).length : Nat) : Int) != (IntKind.i64.wrap (((((c63).1).length : Nat) : Int) - (1 : Int))))) (
                          c = (false, ())) (
                          H8 x1 x3 (IntKind.i64.wrap (x11 + (1 : Int))) ((c7).1).1 (((c7).1).2).1 ((((c7).1).2).2).1 (((((c7).1).2).2).2).1 ((((((c7).1).2).2).2).2).1 (((((((c7).1).2).2).2).2).2).1 c)) (
                        H8 x1 x3 (IntKind.i64.wrap (x11 + (1 : Int))) ((c7).1).1 (((c7).1).2).1 ((((c7).1).2).2).1 (((((c7).1).2).2).2).1 ((((((c7).1).2).2).2).2).1 (((((((c7).1).2).2).2).2).2).1 c)))))) (
                needs ((0 : Int) ≤ x11) (
                optAll ((x3)[(Int.toNat x11)]?) fun (r64 : List DV) =>
                optAll ((dBool r64 0)) fun (z65 : Bool) =>
                cond (z65) (
                  cond (decide (((((b420_1).length : Nat) : Int) > (0 : Int)))) (
                    optAll (grab_Held.R ((c7).1).1 (((c7).1).2).1 ((((c7).1).2).2).1 (((((c7).1).2).2).2).1 ((((((c7).1).2).2).2).2).1 (((((((c7).1).2).2).2).2).2).1) fun (c66 : (List (List DV) × Unit)) =>
                    optAll (grab_Held.R b420 b420_1 b420_2 b420_3 b420_4 b420_5) fun (c67 : (List (List DV) × Unit)) =>
                    cond ((((((c66).1).length : Nat) : Int) != (IntKind.i64.wrap (((((c67).1).length : Nat) : Int) + (1 : Int))))) (
                      c = (false, ())) (
                      cond ((b420_2 == (3 : Int))) (
                        optAll (grab_Held.R ((c7).1).1 (((c7).1).2).1 ((((c7).1).2).2).1 (((((c7).1).2).2).2).1 ((((((c7).1).2).2).2).2).1 (((((((c7).1).2).2).2).2).2).1) fun (c68 : (List (List DV) × Unit)) =>
                        optAll (grab_Held.R b420 b420_1 b420_2 b420_3 b420_4 b420_5) fun (c69 : (List (List DV) × Unit)) =>
                        cond ((((((c68).1).length : Nat) : Int) != (IntKind.i64.wrap (((((c69).1).length : Nat) : Int) - (1 : Int))))) (
                          c = (false, ())) (
                          H8 x1 x3 (IntKind.i64.wrap (x11 + (1 : Int))) ((c7).1).1 (((c7).1).2).1 ((((c7).1).2).2).1 (((((c7).1).2).2).2).1 ((((((c7).1).2).2).2).2).1 (((((((c7).1).2).2).2).2).2).1 c)) (
                        H8 x1 x3 (IntKind.i64.wrap (x11 + (1 : Int))) ((c7).1).1 (((c7).1).2).1 ((((c7).1).2).2).1 (((((c7).1).2).2).2).1 ((((((c7).1).2).2).2).2).1 (((((((c7).1).2).2).2).2).2).1 c))) (
                    cond ((b420_2 == (3 : Int))) (
                      optAll (grab_Held.R ((c7).1).1 (((c7).1).2).1 ((((c7).1).2).2).1 (((((c7).1).2).2).2).1 ((((((c7).1).2).2).2).2).1 (((((((c7).1).2).2).2).2).2).1) fun (c70 : (List (List DV) × Unit)) =>
                      optAll (grab_Held.R b420 b420_1 b420_2 b420_3 b420_4 b420_5) fun (c71 : (List (List DV) × Unit)) =>
                      cond ((((((c70).1).length : Nat) : Int) != (IntKind.i64.wrap (((((c71).1).length : Nat) : Int) - (1 : Int))))) (
                        c = (false, ())) (
                        H8 x1 x3 (IntKind.i64.wrap (x11 + (1 : Int))) ((c7).1).1 (((c7).1).2).1 ((((c7).1).2).2).1 (((((c7).1).2).2).2).1 ((((((c7).1).2).2).2).2).1 (((((((c7).1).2).2).2).2).2).1 c)) (
                      H8 x1 x3 (IntKind.i64.wrap (x11 + (1 : Int))) ((c7).1).1 (((c7).1).2).1 ((((c7).1).2).2).1 (((((c7).1).2).2).2).1 ((((((c7).1).2).2).2).2).1 (((((((c7).1).2).2).2).2).2).1 c))) (
                  cond ((b420_2 == (3 : Int))) (
                    optAll (grab_Held.R ((c7).1).1 (((c7).1).2).1 ((((c7).1).2).2).1 (((((c7).1).2).2).2).1 ((((((c7).1).2).2).2).2).1 (((((((c7).1).2).2).2).2).2).1) fun (c72 : (List (List DV) × Unit)) =>
                    optAll (grab_Held.R b420 b420_1 b420_2 b420_3 b420_4 b420_5) fun (c73 : (List (List DV) × Unit)) =>
                    cond ((((((c72).1).length : Nat) : Int) != (IntKind.i64.wrap (((((c73).1).length : Nat) : Int) - (1 : Int))))) (
                      c = (false, ())) (
                      H8 x1 x3 (IntKind.i64.wrap (x11 + (1 : Int))) ((c7).1).1 (((c7).1).2).1 ((((c7).1).2).2).1 (((((c7).1).2).2).2).1 ((((((c7).1).2).2).2).2).1 (((((((c7).1).2).2).2).2).2).1 c)) (
                    H8 x1 x3 (IntKind.i64.wrap (x11 + (1 : Int))) ((c7).1).1 (((c7).1).2).1 ((((c7).1).2).2).1 (((((c7).1).2).2).2).1 ((((((c7).1).2).2).2).2).1 (((((((c7).1).2).2).2).2).2).1 c))))) (
              needs ((0 : Int) ≤ x11) (
              optAll ((x3)[(Int.toNat x11)]?) fun (r74 : List DV) =>
              optAll ((dBool r74 0)) fun (z75 : Bool) =>
              cond (z75) (
                cond (decide (((((b420_1).length : Nat) : Int) > (0 : Int)))) (
                  optAll (grab_Held.R ((c7).1).1 (((c7).1).2).1 ((((c7).1).2).2).1 (((((c7).1).2).2).2).1 ((((((c7).1).2).2).2).2).1 (((((((c7).1).2).2).2).2).2).1) fun (c76 : (List (List DV) × Unit)) =>
                  optAll (grab_Held.R b420 b420_1 b420_2 b420_3 b420_4 b420_5) fun (c77 : (List (List DV) × Unit)) =>
                  cond ((((((c76).1).length : Nat) : Int) != (IntKind.i64.wrap (((((c77).1).length : Nat) : Int) + (1 : Int))))) (
                    c = (false, ())) (
                    cond ((b420_2 == (3 : Int))) (
                      optAll (grab_Held.R ((c7).1).1 (((c7).1).2).1 ((((c7).1).2).2).1 (((((c7).1).2).2).2).1 ((((((c7).1).2).2).2).2).1 (((((((c7).1).2).2).2).2).2).1) fun (c78 : (List (List DV) × Unit)) =>
                      optAll (grab_Held.R b420 b420_1 b420_2 b420_3 b420_4 b420_5) fun (c79 : (List (List DV) × Unit)) =>
                      cond ((((((c78).1).length : Nat) : Int) != (IntKind.i64.wrap (((((c79).1).length : Nat) : Int) - (1 : Int))))) (
                        c = (false, ())) (
                        H8 x1 x3 (IntKind.i64.wrap (x11 + (1 : Int))) ((c7).1).1 (((c7).1).2).1 ((((c7).1).2).2).1 (((((c7).1).2).2).2).1 ((((((c7).1).2).2).2).2).1 (((((((c7).1).2).2).2).2).2).1 c)) (
                      H8 x1 x3 (IntKind.i64.wrap (x11 + (1 : Int))) ((c7).1).1 (((c7).1).2).1 ((((c7).1).2).2).1 (((((c7).1).2).2).2).1 ((((((c7).1).2).2).2).2).1 (((((((c7).1).2).2).2).2).2).1 c))) (
                  cond ((b420_2 == (3 : Int))) (
                    optAll (grab_Held.R ((c7).1).1 (((c7).1).2).1 ((((c7).1).2).2).1 (((((c7).1).2).2).2).1 ((((((c7).1).2).2).2).2).1 (((((((c7).1).2).2).2).2).2).1) fun (c80 : (List (List DV) × Unit)) =>
                    optAll (grab_Held.R b420 b420_1 b420_2 b420_3 b420_4 b420_5) fun (c81 : (List (List DV) × Unit)) =>
                    cond ((((((c80).1).length : Nat) : Int) != (IntKind.i64.wrap (((((c81).1).length : Nat) : Int) - (1 : Int))))) (
                      c = (false, ())) (
                      H8 x1 x3 (IntKind.i64.wrap (x11 + (1 : Int))) ((c7).1).1 (((c7).1).2).1 ((((c7).1).2).2).1 (((((c7).1).2).2).2).1 ((((((c7).1).2).2).2).2).1 (((((((c7).1).2).2).2).2).2).1 c)) (
                    H8 x1 x3 (IntKind.i64.wrap (x11 + (1 : Int))) ((c7).1).1 (((c7).1).2).1 ((((c7).1).2).2).1 (((((c7).1).2).2).2).1 ((((((c7).1).2).2).2).2).1 (((((((c7).1).2).2).2).2).2).1 c))) (
                cond ((b420_2 == (3 : Int))) (
                  optAll (grab_Held.R ((c7).1).1 (((c7).1).2).1 ((((c7).1).2).2).1 (((((c7).1).2).2).2).1 ((((((c7).1).2).2).2).2).1 (((((((c7).1).2).2).2).2).2).1) fun (c82 : (List (List DV) × Unit)) =>
                  optAll (grab_Held.R b420 b420_1 b420_2 b420_3 b420_4 b420_5) fun (c83 : (List (List DV) × Unit)) =>
                  cond ((((((c82).1).length : Nat) : Int) != (IntKind.i64.wrap (((((c83).1).length : Nat) : Int) - (1 : Int))))) (
                    c = (false, ())) (
                    H8 x1 x3 (IntKind.i64.wrap (x11 + (1 : Int))) ((c7).1).1 (((c7).1).2).1 ((((c7).1).2).2).1 (((((c7).1).2).2).2).1 ((((((c7).1).2).2).2).2).1 (((((((c7).1).2).2).2).2).2).1 c)) (
                  H8 x1 x3 (IntKind.i64.wrap (x11 + (1 : Int))) ((c7).1).1 (((c7).1).2).1 ((((c7).1).2).2).1 (((((c7).1).2).2).2).1 ((((((c7).1).2).2).2).2).1 (((((((c7).1).2).2).2).2).2).1 c)))))) (
            needs ((0 : Int) ≤ x11) (
            optAll ((x3)[(Int.toNat x11)]?) fun (r84 : List DV) =>
            optAll ((dBool r84 0)) fun (z85 : Bool) =>
            cond (z85) (
              cond (decide (((((b420_1).length : Nat) : Int) > (0 : Int)))) (
                optAll (grab_Held.R ((c7).1).1 (((c7).1).2).1 ((((c7).1).2).2).1 (((((c7).1).2).2).2).1 ((((((c7).1).2).2).2).2).1 (((((((c7).1).2).2).2).2).2).1) fun (c86 : (List (List DV) × Unit)) =>
                optAll (grab_Held.R b420 b420_1 b420_2 b420_3 b420_4 b420_5) fun (c87 : (List (List DV) × Unit)) =>
                cond ((((((c86).1).length : Nat) : Int) != (IntKind.i64.wrap (((((c87).1).length : Nat) : Int) + (1 : Int))))) (
                  c = (false, ())) (
                  cond ((b420_2 == (3 : Int))) (
                    optAll (grab_Held.R ((c7).1).1 (((c7).1).2).1 ((((c7).1).2).2).1 (((((c7).1).2).2).2).1 ((((((c7).1).2).2).2).2).1 (((((((c7).1).2).2).2).2).2).1) fun (c88 : (List (List DV) × Unit)) =>
                    optAll (grab_Held.R b420 b420_1 b420_2 b420_3 b420_4 b420_5) fun (c89 : (List (List DV) × Unit)) =>
                    cond ((((((c88).1).length : Nat) : Int) != (IntKind.i64.wrap (((((c89).1).length : Nat) : Int) - (1 : Int))))) (
                      c = (false, ())) (
                      H8 x1 x3 (IntKind.i64.wrap (x11 + (1 : Int))) ((c7).1).1 (((c7).1).2).1 ((((c7).1).2).2).1 (((((c7).1).2).2).2).1 ((((((c7).1).2).2).2).2).1 (((((((c7).1).2).2).2).2).2).1 c)) (
                    H8 x1 x3 (IntKind.i64.wrap (x11 + (1 : Int))) ((c7).1).1 (((c7).1).2).1 ((((c7).1).2).2).1 (((((c7).1).2).2).2).1 ((((((c7).1).2).2).2).2).1 (((((((c7).1).2).2).2).2).2).1 c))) (
                cond ((b420_2 == (3 : Int))) (
                  optAll (grab_Held.R ((c7).1).1 (((c7).1).2).1 ((((c7).1).2).2).1 (((((c7).1).2).2).2).1 ((((((c7).1).2).2).2).2).1 (((((((c7).1).2).2).2).2).2).1) fun (c90 : (List (List DV) × Unit)) =>
                  optAll (grab_Held.R b420 b420_1 b420_2 b420_3 b420_4 b420_5) fun (c91 : (List (List DV) × Unit)) =>
                  cond ((((((c90).1).length : Nat) : Int) != (IntKind.i64.wrap (((((c91).1).length : Nat) : Int) - (1 : Int))))) (
                    c = (false, ())) (
                    H8 x1 x3 (IntKind.i64.wrap (x11 + (1 : Int))) ((c7).1).1 (((c7).1).2).1 ((((c7).1).2).2).1 (((((c7).1).2).2).2).1 ((((((c7).1).2).2).2).2).1 (((((((c7).1).2).2).2).2).2).1 c)) (
                  H8 x1 x3 (IntKind.i64.wrap (x11 + (1 : Int))) ((c7).1).1 (((c7).1).2).1 ((((c7).1).2).2).1 (((((c7).1).2).2).2).1 ((((((c7).1).2).2).2).2).1 (((((((c7).1).2).2).2).2).2).1 c))) (
              cond ((b420_2 == (3 : Int))) (
                optAll (grab_Held.R ((c7).1).1 (((c7).1).2).1 ((((c7).1).2).2).1 (((((c7).1).2).2).2).1 ((((((c7).1).2).2).2).2).1 (((((((c7).1).2).2).2).2).2).1) fun (c92 : (List (List DV) × Unit)) =>
                optAll (grab_Held.R b420 b420_1 b420_2 b420_3 b420_4 b420_5) fun (c93 : (List (List DV) × Unit)) =>
                cond ((((((c92).1).length : Nat) : Int) != (IntKind.i64.wrap (((((c93).1).length : Nat) : Int) - (1 : Int))))) (
                  c = (false, ())) (
                  H8 x1 x3 (IntKind.i64.wrap (x11 + (1 : Int))) ((c7).1).1 (((c7).1).2).1 ((((c7).1).2).2).1 (((((c7).1).2).2).2).1 ((((((c7).1).2).2).2).2).1 (((((((c7).1).2).2).2).2).2).1 c)) (
                H8 x1 x3 (IntKind.i64.wrap (x11 + (1 : Int))) ((c7).1).1 (((c7).1).2).1 ((((c7).1).2).2).1 (((((c7).1).2).2).2).1 ((((((c7).1).2).2).2).2).1 (((((((c7).1).2).2).2).2).2).1 c)))))) (
        cond ((b420_2 == (3 : Int))) (
          optAll (grab_Held.R ((c7).1).1 (((c7).1).2).1 ((((c7).1).2).2).1 (((((c7).1).2).2).2).1 ((((((c7).1).2).2).2).2).1 (((((((c7).1).2).2).2).2).2).1) fun (c94 : (List (List DV) × Unit)) =>
          optAll (grab_Held.R b420 b420_1 b420_2 b420_3 b420_4 b420_5) fun (c95 : (List (List DV) × Unit)) =>
          cond ((((((c94).1).length : Nat) : Int) != (IntKind.i64.wrap (((((c95).1).length : Nat) : Int) - (1 : Int))))) (
            c = (false, ())) (
            H8 x1 x3 (IntKind.i64.wrap (x11 + (1 : Int))) ((c7).1).1 (((c7).1).2).1 ((((c7).1).2).2).1 (((((c7).1).2).2).2).1 ((((((c7).1).2).2).2).2).1 (((((((c7).1).2).2).2).2).2).1 c)) (
          H8 x1 x3 (IntKind.i64.wrap (x11 + (1 : Int))) ((c7).1).1 (((c7).1).2).1 ((((c7).1).2).2).1 (((((c7).1).2).2).2).1 ((((((c7).1).2).2).2).2).1 (((((((c7).1).2).2).2).2).2).1 c)))) (
      optAll (law07_live.R) fun (c96 : (Bool × Unit)) =>
      c = ((c96).1, ()))) : H8 x1 x3 x11 b420 b420_1 b420_2 b420_3 b420_4 b420_5 c := head_rule (n := 400) (noSum_ok _) (by kernel_rfl) h
end law07_GrabWaits
/-! garrison/garrisonlaw07.live -/
namespace law07_live
theorem closed : R = some (true, ()) := ret_closed (n := 4000) (v := .d (.v (.bool true))) (by kernel_rfl) (by kernel_rfl)
end law07_live
/-! garrison/grab.Start -/
namespace grab_Start
def lv : Live := []
theorem start (a0 : Int) (a1 : Bool) (a2 : List (List DV)) (c : ((Int × (List (List DV) × (Int × (Int × (Int × (Bool × Unit)))))) × (Int × Unit))) (h :
    cond (decide ((a0 < (1 : Int)))) (
      c = (((0 : Int), ([], ((0 : Int), ((0 : Int), ((0 : Int), (false, ())))))), ((2 : Int), ()))) (
      optAll (slices_ContainsFunc_int_int__grab_Start_1.R a2) fun (c0 : (Bool × Unit)) =>
      cond ((c0).1) (
        c = (((0 : Int), ([], ((0 : Int), ((0 : Int), ((0 : Int), (false, ())))))), ((2 : Int), ()))) (
        cond (decide (((((a2).length : Nat) : Int) > (64 : Int)))) (
          c = (((0 : Int), ([], ((0 : Int), ((0 : Int), ((0 : Int), (false, ())))))), ((6 : Int), ()))) (
          needs ((((a2).length * 8) ≤ 140737488355328) ∧ (((a2).length * 1) ≤ 140737488355328)) (
          needs ((0 = 0) ∧ (((a2).length = (a2).length) ∧ ((a2).length < 4611686018427387904))) (
          optAll ((mapO asCellD a2)) fun (l1 : List Int) =>
          needs ((0 = 0) ∧ (((a2).length = ((List.map cellOfD (isort l1))).length) ∧ (((List.map cellOfD (isort l1))).length < 4611686018427387904))) (
          optAll ((mapO asCellD (List.map cellOfD (isort l1)))) fun (l2 : List Int) =>
          cond ((((((Lib.compact l2)).length : Nat) : Int) == (0 : Int))) (
            c = ((a0, ((((List.map cellOfD ((Lib.compact l2) ++ (List.replicate (((l2).length - ((Lib.compact l2)).length)) (0 : Int))))).take (((Lib.compact l2)).length)), ((2 : Int), ((0 : Int), ((0 : Int), (a1, ())))))), ((0 : Int), ()))) (
            c = ((a0, ((((List.map cellOfD ((Lib.compact l2) ++ (List.replicate (((l2).length - ((Lib.compact l2)).length)) (0 : Int))))).take (((Lib.compact l2)).length)), ((1 : Int), ((0 : Int), ((0 : Int), (a1, ())))))), ((0 : Int), ())))))))))) : R a0 a1 a2 = some c := start_rule (n := 400) (lv := lv) (noSum_ok _) (by kernel_rfl) h
end grab_Start
/-! garrison/garrisonlaw07.num -/
namespace law07_num
def lv : Live := []
theorem start (a0 : Int) (c : (Int × Unit)) (h :
    c = (a0, ())) : R a0 = some c := start_rule (n := 400) (lv := lv) (noSum_ok _) (by kernel_rfl) h
end law07_num
/-! garrison/grab.Next -/
namespace grab_Next
def lv : Live := []
theorem start (a0_0 : Int) (a0_1 : List (List DV)) (a0_2 : Int) (a0_3 : Int) (a0_4 : Int) (a0_5 : Bool) (c : ((Int × (Int × (Int × (Int × (Int × Unit))))) × (Bool × Unit))) (h :
    cond ((a0_2 == (1 : Int))) (
      cond (decide ((a0_3 < (0 : Int)))) (
        c = (((0 : Int), ((0 : Int), ((0 : Int), ((0 : Int), ((0 : Int), ()))))), (false, ()))) (
        cond (decide ((a0_3 ≥ (((a0_1).length : Nat) : Int)))) (
          c = (((0 : Int), ((0 : Int), ((0 : Int), ((0 : Int), ((0 : Int), ()))))), (false, ()))) (
          needs ((0 : Int) ≤ a0_3) (
          optAll ((a0_1)[(Int.toNat a0_3)]?) fun (r0 : List DV) =>
          optAll ((dInt IntKind.i64 r0 0)) fun (z1 : Int) =>
          c = (((4 : Int), (z1, ((0 : Int), ((0 : Int), (a0_0, ()))))), (true, ())))))) (
      cond ((a0_2 == (3 : Int))) (
        cond (decide (((IntKind.i64.wrap (a0_3 - (1 : Int))) < (0 : Int)))) (
          c = (((0 : Int), ((0 : Int), ((0 : Int), ((0 : Int), ((0 : Int), ()))))), (false, ()))) (
          cond (decide (((IntKind.i64.wrap (a0_3 - (1 : Int))) ≥ (((a0_1).length : Nat) : Int)))) (
            c = (((0 : Int), ((0 : Int), ((0 : Int), ((0 : Int), ((0 : Int), ()))))), (false, ()))) (
            needs ((0 : Int) ≤ (IntKind.i64.wrap (a0_3 - (1 : Int)))) (
            optAll ((a0_1)[(Int.toNat (IntKind.i64.wrap (a0_3 - (1 : Int))))]?) fun (r2 : List DV) =>
            optAll ((dInt IntKind.i64 r2 0)) fun (z3 : Int) =>
            c = (((5 : Int), (z3, ((0 : Int), ((0 : Int), (a0_0, ()))))), (true, ())))))) (
        cond ((a0_2 == (4 : Int))) (
          cond (decide (((IntKind.i64.wrap (a0_3 - (1 : Int))) < (0 : Int)))) (
            c = (((0 : Int), ((0 : Int), ((0 : Int), ((0 : Int), ((0 : Int), ()))))), (false, ()))) (
            cond (decide (((IntKind.i64.wrap (a0_3 - (1 : Int))) ≥ (((a0_1).length : Nat) : Int)))) (
              c = (((0 : Int), ((0 : Int), ((0 : Int), ((0 : Int), ((0 : Int), ()))))), (false, ()))) (
              needs ((0 : Int) ≤ (IntKind.i64.wrap (a0_3 - (1 : Int)))) (
              optAll ((a0_1)[(Int.toNat (IntKind.i64.wrap (a0_3 - (1 : Int))))]?) fun (r4 : List DV) =>
              optAll ((dInt IntKind.i64 r4 0)) fun (z5 : Int) =>
              c = (((5 : Int), (z5, ((0 : Int), ((0 : Int), (a0_0, ()))))), (true, ())))))) (
          c = (((0 : Int), ((0 : Int), ((0 : Int), ((0 : Int), ((0 : Int), ()))))), (false, ())))))) : R a0_0 a0_1 a0_2 a0_3 a0_4 a0_5 = some c := start_rule (n := 400) (lv := lv) (noSum_ok _) (by kernel_rfl) h
end grab_Next
/-! garrison/grab.Take -/
namespace grab_Take
def lv : Live := []
theorem start (a0_0 : Int) (a0_1 : List (List DV)) (a0_2 : Int) (a0_3 : Int) (a0_4 : Int) (a0_5 : Bool) (a1 : Bool) (c : ((Int × (List (List DV) × (Int × (Int × (Int × (Bool × Unit)))))) × Unit)) (h :
    optAll (grab_Next.R a0_0 a0_1 a0_2 a0_3 a0_4 a0_5) fun (c0 : ((Int × (Int × (Int × (Int × (Int × Unit))))) × (Bool × Unit))) =>
    cond ((!((c0).2).1)) (
      c = ((a0_0, (a0_1, (a0_2, (a0_3, (a0_4, (a0_5, ())))))), ())) (
      cond ((a0_2 != (1 : Int))) (
        cond (decide (((IntKind.i64.wrap (a0_3 - (1 : Int))) > (0 : Int)))) (
          c = ((a0_0, (a0_1, (a0_2, ((IntKind.i64.wrap (a0_3 - (1 : Int))), (a0_4, (a0_5, ())))))), ())) (
          cond ((a0_2 == (3 : Int))) (
            c = ((a0_0, (a0_1, ((1 : Int), ((IntKind.i64.wrap (a0_3 - (1 : Int))), (a0_4, (a0_5, ())))))), ())) (
            c = ((a0_0, (a0_1, ((5 : Int), ((IntKind.i64.wrap (a0_3 - (1 : Int))), (a0_4, (a0_5, ())))))), ())))) (
        cond (a1) (
          cond (((IntKind.i64.wrap (a0_3 + (1 : Int))) == (((a0_1).length : Nat) : Int))) (
            c = ((a0_0, (a0_1, ((2 : Int), ((IntKind.i64.wrap (a0_3 + (1 : Int))), (a0_4, (a0_5, ())))))), ())) (
            c = ((a0_0, (a0_1, (a0_2, ((IntKind.i64.wrap (a0_3 + (1 : Int))), (a0_4, (a0_5, ())))))), ()))) (
          cond ((!a0_5)) (
            cond (decide ((a0_3 > (0 : Int)))) (
              c = ((a0_0, (a0_1, ((3 : Int), (a0_3, ((IntKind.i64.wrap (a0_4 + (1 : Int))), (a0_5, ())))))), ())) (
              c = ((a0_0, (a0_1, (a0_2, (a0_3, ((IntKind.i64.wrap (a0_4 + (1 : Int))), (a0_5, ())))))), ()))) (
            c = ((a0_0, (a0_1, (a0_2, (a0_3, (a0_4, (a0_5, ())))))), ())))))) : R a0_0 a0_1 a0_2 a0_3 a0_4 a0_5 a1 = some c := start_rule (n := 400) (lv := lv) (noSum_ok _) (by kernel_rfl) h
end grab_Take
/-! garrison/grab.Held -/
namespace grab_Held
def lv : Live := []
theorem start (a0_0 : Int) (a0_1 : List (List DV)) (a0_2 : Int) (a0_3 : Int) (a0_4 : Int) (a0_5 : Bool) (c : (List (List DV) × Unit)) (h :
    needs (((0 : Int) ≤ (0 : Int)) ∧ (((0 : Int) ≤ (if ((((a0_1).length : Nat) : Int) < (if ((0 : Int) > a0_3) then (0 : Int) else a0_3)) then (((a0_1).length : Nat) : Int) else (if ((0 : Int) > a0_3) then (0 : Int) else a0_3))) ∧ ((if ((((a0_1).length : Nat) : Int) < (if ((0 : Int) > a0_3) then (0 : Int) else a0_3)) then (((a0_1).length : Nat) : Int) else (if ((0 : Int) > a0_3) then (0 : Int) else a0_3)) ≤ (((a0_1).length : Nat) : Int)))) (
    needs ((((((a0_1).take ((Int.toNat (if ((((a0_1).length : Nat) : Int) < (if ((0 : Int) > a0_3) then (0 : Int) else a0_3)) then (((a0_1).length : Nat) : Int) else (if ((0 : Int) > a0_3) then (0 : Int) else a0_3)))))).length * 8) ≤ 140737488355328) ∧ (((((a0_1).take ((Int.toNat (if ((((a0_1).length : Nat) : Int) < (if ((0 : Int) > a0_3) then (0 : Int) else a0_3)) then (((a0_1).length : Nat) : Int) else (if ((0 : Int) > a0_3) then (0 : Int) else a0_3)))))).length * 1) ≤ 140737488355328)) (
    c = (((((a0_1).take ((Int.toNat (if ((((a0_1).length : Nat) : Int) < (if ((0 : Int) > a0_3) then (0 : Int) else a0_3)) then (((a0_1).length : Nat) : Int) else (if ((0 : Int) > a0_3) then (0 : Int) else a0_3)))))).take ((((a0_1).take ((Int.toNat (if ((((a0_1).length : Nat) : Int) < (if ((0 : Int) > a0_3) then (0 : Int) else a0_3)) then (((a0_1).length : Nat) : Int) else (if ((0 : Int) > a0_3) then (0 : Int) else a0_3)))))).length)), ())))) : R a0_0 a0_1 a0_2 a0_3 a0_4 a0_5 = some c := start_rule (n := 400) (lv := lv) (noSum_ok _) (by kernel_rfl) h
end grab_Held
/-! garrison/grab.Free -/
namespace grab_Free
def lv : Live := []
theorem start (a0_0 : Int) (a0_1 : List (List DV)) (a0_2 : Int) (a0_3 : Int) (a0_4 : Int) (a0_5 : Bool) (c : ((Int × (List (List DV) × (Int × (Int × (Int × (Bool × Unit)))))) × Unit)) (h :
    cond ((a0_2 != (2 : Int))) (
      c = ((a0_0, (a0_1, (a0_2, (a0_3, (a0_4, (a0_5, ())))))), ())) (
      cond (((((a0_1).length : Nat) : Int) == (0 : Int))) (
        c = ((a0_0, (a0_1, ((5 : Int), (a0_3, (a0_4, (a0_5, ())))))), ())) (
        c = ((a0_0, (a0_1, ((4 : Int), (a0_3, (a0_4, (a0_5, ())))))), ())))) : R a0_0 a0_1 a0_2 a0_3 a0_4 a0_5 = some c := start_rule (n := 400) (lv := lv) (noSum_ok _) (by kernel_rfl) h
end grab_Free
/-! slices.ContainsFunc[[]int,int] -/
namespace slices_ContainsFunc_int_int__grab_Start_1
def lv : Live := []
theorem start (a0 : List (List DV)) (c : (Bool × Unit)) (h :
    optAll (slices_IndexFunc_int_int__grab_Start_1.R a0) fun (c0 : (Int × Unit)) =>
    c = (decide (((c0).1 ≥ (0 : Int))), ())) : R a0 = some c := start_rule (n := 400) (lv := lv) (noSum_ok _) (by kernel_rfl) h
end slices_ContainsFunc_int_int__grab_Start_1
/-! slices.IndexFunc[[]int,int] -/
namespace slices_IndexFunc_int_int__grab_Start_1
def lv : Live := [((3, 1048576), [0, 1, 7, 8], [])]
abbrev H3 (x0 : List (List DV)) (x7 : Int) (x8 : Int) (c : (Int × Unit)) : Prop := HeadAns cfg 27 sh lv (bd cfg 27 [1, 0, 1, 0, 0]) 1048576 [.inBlock 0, .code (bd cfg 27 [1, 1])]
  [(AV.d (DV.lst 1 x0)), (AV.d (DV.fn 21 [])), (AV.d (DV.v (Value.int IntKind.i64 x7))), (AV.d (DV.v (Value.int IntKind.i64 x8)))] [] 1048576 c
theorem start (a0 : List (List DV)) (c : (Int × Unit)) (h :
    H3 a0 (((a0).length : Nat) : Int) (0 : Int) c) : R a0 = some c := start_rule (n := 400) (lv := lv) (noSum_ok _) (by kernel_rfl) h
theorem H3_step (x0 : List (List DV)) (x7 : Int) (x8 : Int) (c : (Int × Unit)) (h :
    cond (decide ((x8 < x7))) (
      needs ((0 : Int) ≤ x8) (
      optAll ((x0)[(Int.toNat x8)]?) fun (r0 : List DV) =>
      optAll ((dInt IntKind.i64 r0 0)) fun (z1 : Int) =>
      optAll (grab_Start_1.R z1) fun (c2 : (Bool × Unit)) =>
      cond ((c2).1) (
        c = (x8, ())) (
        H3 x0 x7 (IntKind.i64.wrap (x8 + (1 : Int))) c))) (
      c = ((-1 : Int), ()))) : H3 x0 x7 x8 c := head_rule (n := 400) (noSum_ok _) (by kernel_rfl) h
end slices_IndexFunc_int_int__grab_Start_1
/-! garrison/grab.Start$1 -/
namespace grab_Start_1
def lv : Live := []
theorem start (a0 : Int) (c : (Bool × Unit)) (h :
    c = (decide ((a0 < (0 : Int))), ())) : R a0 = some c := start_rule (n := 400) (lv := lv) (noSum_ok _) (by kernel_rfl) h
end grab_Start_1
end Go.AI
