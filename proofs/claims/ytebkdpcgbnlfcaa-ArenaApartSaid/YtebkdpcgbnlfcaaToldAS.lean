/-
  Own work: printed by Tell, a program of this work: what each function's body does over symbols.
-/
import Derived.Test.YtebkdpcgbnlfcaaToldA
import Derived.KernelRfl
namespace Go.AI
open Go
set_option maxRecDepth 100000
set_option linter.unusedVariables false
set_option linter.unusedSimpArgs false
/-! garrison/garrisonlaw09.ArenaStates -/
namespace law09_ArenaStates
abbrev sh : List Sh := [.one (.bool)]
noncomputable abbrev R (a0_0 : List (List DV)) (a0_1 : List (List DV)) (a1 : List (List DV)) : Option (Bool × Unit) := retω cfg sh 5 [(AV.agg [(AV.d (DV.lst 8 a0_0)), (AV.d (DV.lst 1 a0_1))]), (AV.d (DV.lst 12 a1))]
end law09_ArenaStates
/-! garrison/arena.State -/
namespace arena_State
abbrev sh : List Sh := [.one (.str)]
noncomputable abbrev R (a0_0 : List (List DV)) (a0_1 : List (List DV)) (a1 : Int) : Option (ByteArray × Unit) := retω cfg sh 18 [(AV.agg [(AV.d (DV.lst 8 a0_0)), (AV.d (DV.lst 1 a0_1))]), (AV.d (DV.v (Value.int IntKind.i64 a1)))]
end arena_State
/-! garrison/garrisonlaw09.ArenaStates -/
namespace law09_ArenaStates
def lv : Live := [((5, 1048576), [1, 2, 5], [125]), ((12, 2097152), [1, 2, 5, 6, 9, 10], [125, 1048800])]
abbrev H5 (x1 : List (List DV)) (x5 : Int) (b125 : List (List DV)) (b125_1 : List (List DV)) (c : (Bool × Unit)) : Prop := HeadAns cfg 5 sh lv (bd cfg 5 [1, 1, 0, 1, 0, 0]) 1048576 [.inBlock 0, .code (bd cfg 5 [1, 1, 1])]
  [(AV.d (DV.lst 12 x1)), (AV.ptr 125 0 0 0), (AV.d (DV.v (Value.int IntKind.i64 x5)))] [(Option.some (VBlk.cell 2 0 [(AV.d (DV.lst 8 b125)), (AV.d (DV.lst 1 b125_1))]))] 1048576 c
abbrev H12 (x1 : List (List DV)) (x5 : Int) (x9 : Int) (x10 : Int) (b125 : List (List DV)) (b125_1 : List (List DV)) (b1048800 : List (List DV)) (b1048800_1 : List (List DV)) (c : (Bool × Unit)) : Prop := HeadAns cfg 5 sh lv (bd cfg 5 [1, 1, 0, 1, 0, 0, 1, 0, 0, 1, 1, 1, 0, 1, 0, 0]) 2097152 [.inBlock 2, .code (bd cfg 5 [1, 1, 0, 1, 0, 0, 1, 0, 0, 1, 1, 1, 1]), .inBlock 1, .code (bd cfg 5 [1, 1, 0, 1, 0, 0, 1, 1]), .inLoop (bd cfg 5 [1, 1, 0, 1, 0, 0]) 1048576, .inBlock 0, .code (bd cfg 5 [1, 1, 1])]
  [(AV.d (DV.lst 12 x1)), (AV.ptr 125 0 0 0), (AV.d (DV.v (Value.int IntKind.i64 x5))), (AV.ptr 1048800 0 0 0), (AV.d (DV.v (Value.int IntKind.i64 x9))), (AV.d (DV.v (Value.int IntKind.i64 x10)))] [(Option.some (VBlk.cell 2 0 [(AV.d (DV.lst 8 b125)), (AV.d (DV.lst 1 b125_1))])), (Option.some (VBlk.cell 2 0 [(AV.d (DV.lst 8 b1048800)), (AV.d (DV.lst 1 b1048800_1))]))] 2097152 c
theorem start (a0_0 : List (List DV)) (a0_1 : List (List DV)) (a1 : List (List DV)) (c : (Bool × Unit)) (h :
    optAll (law09_small.R a0_0 a0_1) fun (c0 : (Bool × Unit)) =>
    cond ((!(c0).1)) (
      optAll (law09_live.R) fun (c1 : (Bool × Unit)) =>
      c = ((c1).1, ())) (
      cond (decide (((((a1).length : Nat) : Int) > (100 : Int)))) (
        optAll (law09_live.R) fun (c2 : (Bool × Unit)) =>
        c = ((c2).1, ())) (
        optAll (arena_Check.R a0_0 a0_1) fun (c3 : (Int × Unit)) =>
        optAll (law09_num.R (c3).1) fun (c4 : (Int × Unit)) =>
        cond (((c4).1 != (0 : Int))) (
          optAll (law09_live.R) fun (c5 : (Bool × Unit)) =>
          c = ((c5).1, ())) (
          H5 a1 (0 : Int) a0_0 a0_1 c)))) : R a0_0 a0_1 a1 = some c := start_rule (n := 400) (lv := lv) (noSum_ok _) (by kernel_rfl) h
theorem H5_step (x1 : List (List DV)) (x5 : Int) (b125 : List (List DV)) (b125_1 : List (List DV)) (c : (Bool × Unit)) (h :
    cond (decide ((x5 < (((x1).length : Nat) : Int)))) (
      needs ((0 : Int) ≤ x5) (
      optAll ((x1)[(Int.toNat x5)]?) fun (r6 : List DV) =>
      optAll ((dInt IntKind.i64 r6 0)) fun (z7 : Int) =>
      optAll ((dInt IntKind.i64 r6 1)) fun (z8 : Int) =>
      optAll ((dInt IntKind.i64 r6 2)) fun (z9 : Int) =>
      optAll ((dInt IntKind.i64 r6 3)) fun (z10 : Int) =>
      optAll ((dInt IntKind.i64 r6 4)) fun (z11 : Int) =>
      optAll ((dInt IntKind.i64 r6 5)) fun (z12 : Int) =>
      optAll ((dInt IntKind.i64 r6 6)) fun (z13 : Int) =>
      optAll ((dInt IntKind.i64 r6 7)) fun (z14 : Int) =>
      optAll ((dInt IntKind.i64 r6 8)) fun (z15 : Int) =>
      optAll ((dInt IntKind.i64 r6 9)) fun (z16 : Int) =>
      optAll ((dInt IntKind.i64 r6 10)) fun (z17 : Int) =>
      optAll ((dInt IntKind.i64 r6 11)) fun (z18 : Int) =>
      optAll (law09_does.R b125 b125_1 z7 z8 z9 z10 z11 z12 z13 z14 z15 z16 z17 z18) fun (c19 : ((List (List DV) × (List (List DV) × Unit)) × (Int × (Int × Unit)))) =>
      optAll (arena_Check.R ((c19).1).1 (((c19).1).2).1) fun (c20 : (Int × Unit)) =>
      optAll (law09_num.R (c20).1) fun (c21 : (Int × Unit)) =>
      cond (((c21).1 != (0 : Int))) (
        c = (false, ())) (
        cond (((((((c19).1).1).length : Nat) : Int) != (((b125).length : Nat) : Int))) (
          c = (false, ())) (
          cond (((((c19).2).2).1 != (0 : Int))) (
            optAll (ref09_Same.R b125 b125_1 ((c19).1).1 (((c19).1).2).1) fun (c22 : (Bool × Unit)) =>
            cond ((!(c22).1)) (
              c = (false, ())) (
              H12 x1 x5 (0 : Int) (0 : Int) b125 b125_1 ((c19).1).1 (((c19).1).2).1 c)) (
            H12 x1 x5 (0 : Int) (0 : Int) b125 b125_1 ((c19).1).1 (((c19).1).2).1 c))))) (
      optAll (law09_live.R) fun (c23 : (Bool × Unit)) =>
      c = ((c23).1, ()))) : H5 x1 x5 b125 b125_1 c := head_rule (n := 400) (noSum_ok _) (by kernel_rfl) h
theorem H12_step (x1 : List (List DV)) (x5 : Int) (x9 : Int) (x10 : Int) (b125 : List (List DV)) (b125_1 : List (List DV)) (b1048800 : List (List DV)) (b1048800_1 : List (List DV)) (c : (Bool × Unit)) (h :
    cond (decide ((x10 < (((b125).length : Nat) : Int)))) (
      optAll (arena_State.R b125 b125_1 x10) fun (c24 : (ByteArray × Unit)) =>
      optAll (arena_State.R b1048800 b1048800_1 x10) fun (c25 : (ByteArray × Unit)) =>
      cond (((ByteArray.toList (c24).1) == (ByteArray.toList (c25).1))) (
        H12 x1 x5 x9 (IntKind.i64.wrap (x10 + (1 : Int))) b125 b125_1 b1048800 b1048800_1 c) (
        cond (((ByteArray.toList (c24).1) == (ByteArray.toList (ByteArray.mk #[102, 114, 101, 101])))) (
          cond (((ByteArray.toList (c25).1) == (ByteArray.toList (ByteArray.mk #[108, 105, 118, 101])))) (
            H12 x1 x5 (IntKind.i64.wrap (x9 + (1 : Int))) (IntKind.i64.wrap (x10 + (1 : Int))) b125 b125_1 b1048800 b1048800_1 c) (
            cond (((ByteArray.toList (c24).1) == (ByteArray.toList (ByteArray.mk #[108, 105, 118, 101])))) (
              cond (((ByteArray.toList (c25).1) == (ByteArray.toList (ByteArray.mk #[108, 105, 109, 98, 111])))) (
                H12 x1 x5 (IntKind.i64.wrap (x9 + (1 : Int))) (IntKind.i64.wrap (x10 + (1 : Int))) b125 b125_1 b1048800 b1048800_1 c) (
                cond (((ByteArray.toList (c25).1) == (ByteArray.toList (ByteArray.mk #[114, 101, 116, 105, 114, 101, 100])))) (
                  needs ((0 : Int) ≤ x10) (
                  optAll ((b125)[(Int.toNat x10)]?) fun (r26 : List DV) =>
                  optAll ((dInt IntKind.i64 r26 1)) fun (z27 : Int) =>
                  cond ((z27 == (4095 : Int))) (
                    H12 x1 x5 (IntKind.i64.wrap (x9 + (1 : Int))) (IntKind.i64.wrap (x10 + (1 : Int))) b125 b125_1 b1048800 b1048800_1 c) (
                    cond (((ByteArray.toList (c24).1) == (ByteArray.toList (ByteArray.mk #[108, 105, 109, 98, 111])))) (
                      cond ((!((ByteArray.toList (c25).1) == (ByteArray.toList (ByteArray.mk #[102, 114, 101, 101]))))) (
                        c = (false, ())) (
                        H12 x1 x5 (IntKind.i64.wrap (x9 + (1 : Int))) (IntKind.i64.wrap (x10 + (1 : Int))) b125 b125_1 b1048800 b1048800_1 c)) (
                      c = (false, ()))))) (
                  cond (((ByteArray.toList (c24).1) == (ByteArray.toList (ByteArray.mk #[108, 105, 109, 98, 111])))) (
                    cond ((!((ByteArray.toList (c25).1) == (ByteArray.toList (ByteArray.mk #[102, 114, 101, 101]))))) (
                      c = (false, ())) (
                      H12 x1 x5 (IntKind.i64.wrap (x9 + (1 : Int))) (IntKind.i64.wrap (x10 + (1 : Int))) b125 b125_1 b1048800 b1048800_1 c)) (
                    c = (false, ()))))) (
              cond (((ByteArray.toList (c24).1) == (ByteArray.toList (ByteArray.mk #[108, 105, 109, 98, 111])))) (
                cond ((!((ByteArray.toList (c25).1) == (ByteArray.toList (ByteArray.mk #[102, 114, 101, 101]))))) (
                  c = (false, ())) (
                  H12 x1 x5 (IntKind.i64.wrap (x9 + (1 : Int))) (IntKind.i64.wrap (x10 + (1 : Int))) b125 b125_1 b1048800 b1048800_1 c)) (
                c = (false, ()))))) (
          cond (((ByteArray.toList (c24).1) == (ByteArray.toList (ByteArray.mk #[108, 105, 118, 101])))) (
            cond (((ByteArray.toList (c25).1) == (ByteArray.toList (ByteArray.mk #[108, 105, 109, 98, 111])))) (
              H12 x1 x5 (IntKind.i64.wrap (x9 + (1 : Int))) (IntKind.i64.wrap (x10 + (1 : Int))) b125 b125_1 b1048800 b1048800_1 c) (
              cond (((ByteArray.toList (c25).1) == (ByteArray.toList (ByteArray.mk #[114, 101, 116, 105, 114, 101, 100])))) (
                needs ((0 : Int) ≤ x10) (
                optAll ((b125)[(Int.toNat x10)]?) fun (r28 : List DV) =>
                optAll ((dInt IntKind.i64 r28 1)) fun (z29 : Int) =>
                cond ((z29 == (4095 : Int))) (
                  H12 x1 x5 (IntKind.i64.wrap (x9 + (1 : Int))) (IntKind.i64.wrap (x10 + (1 : Int))) b125 b125_1 b1048800 b1048800_1 c) (
                  cond (((ByteArray.toList (c24).1) == (ByteArray.toList (ByteArray.mk #[108, 105, 109, 98, 111])))) (
                    cond ((!((ByteArray.toList (c25).1) == (ByteArray.toList (ByteArray.mk #[102, 114, 101, 101]))))) (
                      c = (false, ())) (
                      H12 x1 x5 (IntKind.i64.wrap (x9 + (1 : Int))) (IntKind.i64.wrap (x10 + (1 : Int))) b125 b125_1 b1048800 b1048800_1 c)) (
                    c = (false, ()))))) (
                cond (((ByteArray.toList (c24).1) == (ByteArray.toList (ByteArray.mk #[108, 105, 109, 98, 111])))) (
                  cond ((!((ByteArray.toList (c25).1) == (ByteArray.toList (ByteArray.mk #[102, 114, 101, 101]))))) (
                    c = (false, ())) (
                    H12 x1 x5 (IntKind.i64.wrap (x9 + (1 : Int))) (IntKind.i64.wrap (x10 + (1 : Int))) b125 b125_1 b1048800 b1048800_1 c)) (
                  c = (false, ()))))) (
            cond (((ByteArray.toList (c24).1) == (ByteArray.toList (ByteArray.mk #[108, 105, 109, 98, 111])))) (
              cond ((!((ByteArray.toList (c25).1) == (ByteArray.toList (ByteArray.mk #[102, 114, 101, 101]))))) (
                c = (false, ())) (
                H12 x1 x5 (IntKind.i64.wrap (x9 + (1 : Int))) (IntKind.i64.wrap (x10 + (1 : Int))) b125 b125_1 b1048800 b1048800_1 c)) (
              c = (false, ())))))) (
      cond (decide ((x9 > (1 : Int)))) (
        c = (false, ())) (
        H5 x1 (IntKind.i64.wrap (x5 + (1 : Int))) b1048800 b1048800_1 c))) : H12 x1 x5 x9 x10 b125 b125_1 b1048800 b1048800_1 c := head_rule (n := 400) (noSum_ok _) (by kernel_rfl) h
end law09_ArenaStates
/-! garrison/arena.State -/
namespace arena_State
def lv : Live := []
theorem start (a0_0 : List (List DV)) (a0_1 : List (List DV)) (a1 : Int) (c : (ByteArray × Unit)) (h :
    cond (decide ((a1 < (0 : Int)))) (
      c = ((ByteArray.mk #[]), ())) (
      cond (decide ((a1 ≥ (((a0_0).length : Nat) : Int)))) (
        c = ((ByteArray.mk #[]), ())) (
        needs ((0 : Int) ≤ a1) (
        optAll ((a0_0)[(Int.toNat a1)]?) fun (r0 : List DV) =>
        optAll ((dInt IntKind.i64 r0 0)) fun (z1 : Int) =>
        optAll ((dInt IntKind.i64 r0 1)) fun (z2 : Int) =>
        optAll ((dInt IntKind.i64 r0 2)) fun (z3 : Int) =>
        optAll ((dInt IntKind.i64 r0 3)) fun (z4 : Int) =>
        optAll ((dInt IntKind.i64 r0 4)) fun (z5 : Int) =>
        optAll ((dInt IntKind.i64 r0 5)) fun (z6 : Int) =>
        optAll ((dInt IntKind.i64 r0 6)) fun (z7 : Int) =>
        optAll ((dInt IntKind.i64 r0 7)) fun (z8 : Int) =>
        optAll (arena_isLive.R z1 z2 z3 z4 z5 z6 z7 z8) fun (c9 : (Bool × Unit)) =>
        cond ((c9).1) (
          c = ((ByteArray.mk #[108, 105, 118, 101]), ())) (
          needs ((0 : Int) ≤ a1) (
          optAll ((a0_0)[(Int.toNat a1)]?) fun (r10 : List DV) =>
          optAll ((dInt IntKind.i64 r10 1)) fun (z11 : Int) =>
          cond ((z11 == (-1 : Int))) (
            c = ((ByteArray.mk #[114, 101, 116, 105, 114, 101, 100]), ())) (
            optAll (arena_isFree.R a0_0 a0_1 a1) fun (c12 : (Bool × Unit)) =>
            cond ((c12).1) (
              c = ((ByteArray.mk #[102, 114, 101, 101]), ())) (
              c = ((ByteArray.mk #[108, 105, 109, 98, 111]), ()))))))))) : R a0_0 a0_1 a1 = some c := start_rule (n := 400) (lv := lv) (noSum_ok _) (by kernel_rfl) h
end arena_State
end Go.AI
