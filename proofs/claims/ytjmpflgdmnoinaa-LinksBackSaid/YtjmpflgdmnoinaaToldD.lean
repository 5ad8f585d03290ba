/-
  Own work: printed by Tell, a program of this work: what each function's body does over symbols.
-/
import Derived.Test.YtjmpflgdmnoinaaCfg
import Derived.KernelRfl
namespace Go.AI
open Go
set_option maxRecDepth 100000
set_option linter.unusedVariables false
set_option linter.unusedSimpArgs false
/-! garrison/links.Insert -/
namespace links_Insert
abbrev sh : List Sh := [.one (.lst 2)]
noncomputable abbrev R (a0 : List (List DV)) (a1_0 : Int) (a1_1 : Int) (a2_0 : Int) (a2_1 : Int) : Option (List (List DV) × Unit) := retω cfg sh 12 [(AV.d (DV.lst 1 a0)), (AV.agg [(AV.d (DV.v (Value.int IntKind.i64 a1_0))), (AV.d (DV.v (Value.int IntKind.i64 a1_1)))]), (AV.agg [(AV.d (DV.v (Value.int IntKind.i64 a2_0))), (AV.d (DV.v (Value.int IntKind.i64 a2_1)))])]
end links_Insert
/-! garrison/links.Remove -/
namespace links_Remove
abbrev sh : List Sh := [.one (.lst 2)]
noncomputable abbrev R (a0 : List (List DV)) (a1_0 : Int) (a1_1 : Int) : Option (List (List DV) × Unit) := retω cfg sh 15 [(AV.d (DV.lst 1 a0)), (AV.agg [(AV.d (DV.v (Value.int IntKind.i64 a1_0))), (AV.d (DV.v (Value.int IntKind.i64 a1_1)))])]
end links_Remove
/-! garrison/links.Move -/
namespace links_Move
abbrev sh : List Sh := [.one (.lst 2)]
noncomputable abbrev R (a0 : List (List DV)) (a1_0 : Int) (a1_1 : Int) (a2_0 : Int) (a2_1 : Int) : Option (List (List DV) × Unit) := retω cfg sh 17 [(AV.d (DV.lst 1 a0)), (AV.agg [(AV.d (DV.v (Value.int IntKind.i64 a1_0))), (AV.d (DV.v (Value.int IntKind.i64 a1_1)))]), (AV.agg [(AV.d (DV.v (Value.int IntKind.i64 a2_0))), (AV.d (DV.v (Value.int IntKind.i64 a2_1)))])]
end links_Move
/-! garrison/links.are -/
namespace links_are
abbrev sh : List Sh := [.one (.bool)]
noncomputable abbrev R (a0 : List (List DV)) (a1 : List (List DV)) : Option (Bool × Unit) := retω cfg sh 35 [(AV.d (DV.lst 1 a0)), (AV.d (DV.lst 2 a1))]
end links_are
/-! garrison/links.at -/
namespace links_at
abbrev sh : List Sh := [.one (.int .i64)]
noncomputable abbrev R (a0 : List (List DV)) (a1_0 : Int) (a1_1 : Int) (a2 : Int) : Option (Int × Unit) := retω cfg sh 37 [(AV.d (DV.lst 1 a0)), (AV.agg [(AV.d (DV.v (Value.int IntKind.i64 a1_0))), (AV.d (DV.v (Value.int IntKind.i64 a1_1)))]), (AV.d (DV.v (Value.int IntKind.i64 a2)))]
end links_at
/-! garrison/links.code -/
namespace links_code
abbrev sh : List Sh := [.one (.int .i64)]
noncomputable abbrev R (a0_0 : Int) (a0_1 : Int) : Option (Int × Unit) := retω cfg sh 38 [(AV.agg [(AV.d (DV.v (Value.int IntKind.i64 a0_0))), (AV.d (DV.v (Value.int IntKind.i64 a0_1)))])]
end links_code
/-! garrison/layout.Slot -/
namespace layout_Slot
abbrev sh : List Sh := [.one (.int .i64)]
noncomputable abbrev R (a0_0 : Int) (a0_1 : Int) (a1 : Int) : Option (Int × Unit) := retω cfg sh 68 [(AV.agg [(AV.d (DV.v (Value.int IntKind.i64 a0_0))), (AV.d (DV.v (Value.int IntKind.i64 a0_1)))]), (AV.d (DV.v (Value.int IntKind.i64 a1)))]
end layout_Slot
/-! garrison/links.Next -/
namespace links_Next
abbrev sh : List Sh := [.agg [.int .i64, .int .i64], .one (.bool)]
noncomputable abbrev R (a0 : List (List DV)) (a1_0 : Int) (a1_1 : Int) : Option ((Int × (Int × Unit)) × (Bool × Unit)) := retω cfg sh 24 [(AV.d (DV.lst 1 a0)), (AV.agg [(AV.d (DV.v (Value.int IntKind.i64 a1_0))), (AV.d (DV.v (Value.int IntKind.i64 a1_1)))])]
end links_Next
/-! garrison/links.Prev -/
namespace links_Prev
abbrev sh : List Sh := [.agg [.int .i64, .int .i64], .one (.bool)]
noncomputable abbrev R (a0 : List (List DV)) (a1_0 : Int) (a1_1 : Int) : Option ((Int × (Int × Unit)) × (Bool × Unit)) := retω cfg sh 25 [(AV.d (DV.lst 1 a0)), (AV.agg [(AV.d (DV.v (Value.int IntKind.i64 a1_0))), (AV.d (DV.v (Value.int IntKind.i64 a1_1)))])]
end links_Prev
/-! slices.ContainsFunc[[]garrison/api.Key,garrison/api.Key] -/
namespace slices_ContainsFunc_api_Key_api_Key__links_are_1
abbrev sh : List Sh := [.one (.bool)]
noncomputable abbrev R (a0 : List (List DV)) : Option (Bool × Unit) := retω cfg sh 64 [(AV.d (DV.lst 2 a0)), (AV.d (DV.fn 66 []))]
end slices_ContainsFunc_api_Key_api_Key__links_are_1
/-! garrison/layout.Code -/
namespace layout_Code
abbrev sh : List Sh := [.one (.int .i64)]
noncomputable abbrev R (a0_0 : Int) (a0_1 : Int) : Option (Int × Unit) := retω cfg sh 69 [(AV.agg [(AV.d (DV.v (Value.int IntKind.i64 a0_0))), (AV.d (DV.v (Value.int IntKind.i64 a0_1)))])]
end layout_Code
/-! garrison/links.linked -/
namespace links_linked
abbrev sh : List Sh := [.agg [.int .i64, .int .i64], .one (.bool)]
noncomputable abbrev R (a0 : List (List DV)) (a1_0 : Int) (a1_1 : Int) (a2 : Int) : Option ((Int × (Int × Unit)) × (Bool × Unit)) := retω cfg sh 46 [(AV.d (DV.lst 1 a0)), (AV.agg [(AV.d (DV.v (Value.int IntKind.i64 a1_0))), (AV.d (DV.v (Value.int IntKind.i64 a1_1)))]), (AV.d (DV.v (Value.int IntKind.i64 a2)))]
end links_linked
/-! slices.IndexFunc[[]garrison/api.Key,garrison/api.Key] -/
namespace slices_IndexFunc_api_Key_api_Key__links_are_1
abbrev sh : List Sh := [.one (.int .i64)]
noncomputable abbrev R (a0 : List (List DV)) : Option (Int × Unit) := retω cfg sh 79 [(AV.d (DV.lst 2 a0)), (AV.d (DV.fn 66 []))]
end slices_IndexFunc_api_Key_api_Key__links_are_1
/-! garrison/layout.Key -/
namespace layout_Key
abbrev sh : List Sh := [.agg [.int .i64, .int .i64], .one (.int .i64)]
noncomputable abbrev R (a0 : Int) : Option ((Int × (Int × Unit)) × (Int × Unit)) := retω cfg sh 72 [(AV.d (DV.v (Value.int IntKind.i64 a0)))]
end layout_Key
/-! garrison/links.are$1 -/
namespace links_are_1
abbrev sh : List Sh := [.one (.bool)]
noncomputable abbrev R (a0_0 : Int) (a0_1 : Int) : Option (Bool × Unit) := retω cfg sh 66 [(AV.agg [(AV.d (DV.v (Value.int IntKind.i64 a0_0))), (AV.d (DV.v (Value.int IntKind.i64 a0_1)))])]
end links_are_1
/-! garrison/garrisonlaw24.live -/
namespace law24_live
abbrev sh : List Sh := [.one (.bool)]
noncomputable abbrev R : Option (Bool × Unit) := retω cfg sh 6 []
end law24_live
/-! garrison/garrisonlaw24.key -/
namespace law24_key
abbrev sh : List Sh := [.agg [.int .i64, .int .i64]]
noncomputable abbrev R (a0 : Int) (a1 : Int) : Option ((Int × (Int × Unit)) × Unit) := retω cfg sh 23 [(AV.d (DV.v (Value.int IntKind.i64 a0))), (AV.d (DV.v (Value.int IntKind.i64 a1)))]
end law24_key
/-! garrison/garrisonlaw24.cells -/
namespace law24_cells
abbrev sh : List Sh := [.one (.lst 1)]
noncomputable abbrev R (a0 : List (List DV)) : Option (List (List DV) × Unit) := retω cfg sh 8 [(AV.d (DV.lst 4 a0))]
end law24_cells
/-! garrison/layout.Apply -/
namespace layout_Apply
abbrev sh : List Sh := [.one (.lst 1)]
noncomputable abbrev R (a0 : List (List DV)) (a1 : List (List DV)) : Option (List (List DV) × Unit) := retω cfg sh 11 [(AV.d (DV.lst 1 a0)), (AV.d (DV.lst 2 a1))]
end layout_Apply
/-! garrison/links.Below -/
namespace links_Below
abbrev sh : List Sh := [.one (.lst 2)]
noncomputable abbrev R (a0 : List (List DV)) (a1_0 : Int) (a1_1 : Int) : Option (List (List DV) × Unit) := retω cfg sh 19 [(AV.d (DV.lst 1 a0)), (AV.agg [(AV.d (DV.v (Value.int IntKind.i64 a1_0))), (AV.d (DV.v (Value.int IntKind.i64 a1_1)))])]
end links_Below
/-! garrison/garrisonref06.Same -/
namespace ref06_Same
abbrev sh : List Sh := [.one (.bool)]
noncomputable abbrev R (a0 : List (List DV)) (a1 : List (List DV)) : Option (Bool × Unit) := retω cfg sh 18 [(AV.d (DV.lst 2 a0)), (AV.d (DV.lst 2 a1))]
end ref06_Same
/-! garrison/links.Leaf -/
namespace links_Leaf
abbrev sh : List Sh := [.one (.bool)]
noncomputable abbrev R (a0 : List (List DV)) (a1_0 : Int) (a1_1 : Int) : Option (Bool × Unit) := retω cfg sh 14 [(AV.d (DV.lst 1 a0)), (AV.agg [(AV.d (DV.v (Value.int IntKind.i64 a1_0))), (AV.d (DV.v (Value.int IntKind.i64 a1_1)))])]
end links_Leaf
/-! garrison/links.Touched -/
namespace links_Touched
abbrev sh : List Sh := [.one (.lst 1)]
noncomputable abbrev R (a0 : List (List DV)) : Option (List (List DV) × Unit) := retω cfg sh 26 [(AV.d (DV.lst 2 a0))]
end links_Touched
/-! garrison/garrisonref17.New -/
namespace ref17_New
abbrev sh : List Sh := [.agg [.lst 8, .lst 1, .lst 1, .lst 4, .lst 3, .lst 1, .lst 1, .lst 4], .one (.int .i64)]
noncomputable abbrev R (a0 : Int) (a1 : Int) (a2 : Int) (a3 : Int) : Option ((List (List DV) × (List (List DV) × (List (List DV) × (List (List DV) × (List (List DV) × (List (List DV) × (List (List DV) × (List (List DV) × Unit)))))))) × (Int × Unit)) := retω cfg sh 29 [(AV.d (DV.v (Value.int IntKind.i64 a0))), (AV.d (DV.v (Value.int IntKind.i64 a1))), (AV.d (DV.v (Value.int IntKind.i64 a2))), (AV.d (DV.v (Value.int IntKind.i64 a3)))]
end ref17_New
/-! garrison/garrisonref23.Encode -/
namespace ref23_Encode
abbrev sh : List Sh := [.one (.lst 1), .one (.int .i64)]
noncomputable abbrev R (a0_0 : List (List DV)) (a0_1 : List (List DV)) (a0_2 : List (List DV)) (a0_3 : List (List DV)) (a0_4 : List (List DV)) (a0_5 : List (List DV)) (a0_6 : List (List DV)) (a0_7 : List (List DV)) : Option (List (List DV) × (Int × Unit)) := retω cfg sh 30 [(AV.agg [(AV.d (DV.lst 8 a0_0)), (AV.d (DV.lst 1 a0_1)), (AV.d (DV.lst 1 a0_2)), (AV.d (DV.lst 4 a0_3)), (AV.d (DV.lst 3 a0_4)), (AV.d (DV.lst 1 a0_5)), (AV.d (DV.lst 1 a0_6)), (AV.d (DV.lst 4 a0_7))])]
end ref23_Encode
/-! garrison/layout.Guard -/
namespace layout_Guard
abbrev sh : List Sh := [.one (.int .i64)]
noncomputable abbrev R (a0 : Int) : Option (Int × Unit) := retω cfg sh 47 [(AV.d (DV.v (Value.int IntKind.i64 a0)))]
end layout_Guard
/-! garrison/garrisonref23.Fits -/
namespace ref23_Fits
abbrev sh : List Sh := [.one (.bool)]
noncomputable abbrev R (a0_0 : List (List DV)) (a0_1 : List (List DV)) (a0_2 : List (List DV)) (a0_3 : List (List DV)) (a0_4 : List (List DV)) (a0_5 : List (List DV)) (a0_6 : List (List DV)) (a0_7 : List (List DV)) : Option (Bool × Unit) := retω cfg sh 52 [(AV.agg [(AV.d (DV.lst 8 a0_0)), (AV.d (DV.lst 1 a0_1)), (AV.d (DV.lst 1 a0_2)), (AV.d (DV.lst 4 a0_3)), (AV.d (DV.lst 3 a0_4)), (AV.d (DV.lst 1 a0_5)), (AV.d (DV.lst 1 a0_6)), (AV.d (DV.lst 4 a0_7))])]
end ref23_Fits
/-! garrison/garrisonref09.Live -/
namespace ref09_Live
abbrev sh : List Sh := [.one (.bool)]
noncomputable abbrev R (a0_0 : Int) (a0_1 : Int) (a0_2 : Int) (a0_3 : Int) (a0_4 : Int) (a0_5 : Int) (a0_6 : Int) (a0_7 : Int) : Option (Bool × Unit) := retω cfg sh 53 [(AV.agg [(AV.d (DV.v (Value.int IntKind.i64 a0_0))), (AV.d (DV.v (Value.int IntKind.i64 a0_1))), (AV.d (DV.v (Value.int IntKind.i64 a0_2))), (AV.d (DV.v (Value.int IntKind.i64 a0_3))), (AV.d (DV.v (Value.int IntKind.i64 a0_4))), (AV.d (DV.v (Value.int IntKind.i64 a0_5))), (AV.d (DV.v (Value.int IntKind.i64 a0_6))), (AV.d (DV.v (Value.int IntKind.i64 a0_7)))])]
end ref09_Live
/-! garrison/garrisonref23.Code -/
namespace ref23_Code
abbrev sh : List Sh := [.one (.int .i64)]
noncomputable abbrev R (a0_0 : Int) (a0_1 : Int) : Option (Int × Unit) := retω cfg sh 5 [(AV.agg [(AV.d (DV.v (Value.int IntKind.i64 a0_0))), (AV.d (DV.v (Value.int IntKind.i64 a0_1)))])]
end ref23_Code
/-! garrison/garrisonref12.Get -/
namespace ref12_Get
abbrev sh : List Sh := [.agg [.int .i64, .int .i64, .int .i64, .int .i64, .int .i64], .one (.bool)]
noncomputable abbrev R (a0 : List (List DV)) (a1_0 : Int) (a1_1 : Int) : Option ((Int × (Int × (Int × (Int × (Int × Unit))))) × (Bool × Unit)) := retω cfg sh 56 [(AV.d (DV.lst 1 a0)), (AV.agg [(AV.d (DV.v (Value.int IntKind.i64 a1_0))), (AV.d (DV.v (Value.int IntKind.i64 a1_1)))])]
end ref12_Get
/-! garrison/garrisonref03.Word -/
namespace ref03_Word
abbrev sh : List Sh := [.one (.int .u64), .one (.int .i64)]
noncomputable abbrev R (a0_0 : Int) (a0_1 : Int) (a0_2 : Int) (a0_3 : Int) (a0_4 : Int) : Option (Int × (Int × Unit)) := retω cfg sh 57 [(AV.agg [(AV.d (DV.v (Value.int IntKind.i64 a0_0))), (AV.d (DV.v (Value.int IntKind.i64 a0_1))), (AV.d (DV.v (Value.int IntKind.i64 a0_2))), (AV.d (DV.v (Value.int IntKind.i64 a0_3))), (AV.d (DV.v (Value.int IntKind.i64 a0_4)))])]
end ref03_Word
/-! garrison/garrisonref23.Slot -/
namespace ref23_Slot
abbrev sh : List Sh := [.one (.int .i64)]
noncomputable abbrev R (a0_0 : Int) (a0_1 : Int) (a1 : Int) : Option (Int × Unit) := retω cfg sh 33 [(AV.agg [(AV.d (DV.v (Value.int IntKind.i64 a0_0))), (AV.d (DV.v (Value.int IntKind.i64 a0_1)))]), (AV.d (DV.v (Value.int IntKind.i64 a1)))]
end ref23_Slot
/-! garrison/garrisonref23.bit -/
namespace ref23_bit
abbrev sh : List Sh := [.one (.int .i64)]
noncomputable abbrev R (a0 : Bool) : Option (Int × Unit) := retω cfg sh 58 [(AV.d (DV.v (Value.bool a0)))]
end ref23_bit
/-! garrison/garrisonref23.swept -/
namespace ref23_swept
abbrev sh : List Sh := [.one (.bool)]
noncomputable abbrev R (a0_0 : List (List DV)) (a0_1 : List (List DV)) (a0_2 : List (List DV)) (a0_3 : List (List DV)) (a0_4 : List (List DV)) (a0_5 : List (List DV)) (a0_6 : List (List DV)) (a0_7 : List (List DV)) (a1_0 : Int) (a1_1 : Int) : Option (Bool × Unit) := retω cfg sh 59 [(AV.agg [(AV.d (DV.lst 8 a0_0)), (AV.d (DV.lst 1 a0_1)), (AV.d (DV.lst 1 a0_2)), (AV.d (DV.lst 4 a0_3)), (AV.d (DV.lst 3 a0_4)), (AV.d (DV.lst 1 a0_5)), (AV.d (DV.lst 1 a0_6)), (AV.d (DV.lst 4 a0_7))]), (AV.agg [(AV.d (DV.v (Value.int IntKind.i64 a1_0))), (AV.d (DV.v (Value.int IntKind.i64 a1_1)))])]
end ref23_swept
/-! garrison/garrisonref23.Object -/
namespace ref23_Object
abbrev sh : List Sh := [.one (.int .i64)]
noncomputable abbrev R (a0 : Int) (a1 : Int) : Option (Int × Unit) := retω cfg sh 54 [(AV.d (DV.v (Value.int IntKind.i64 a0))), (AV.d (DV.v (Value.int IntKind.i64 a1)))]
end ref23_Object
/-! garrison/garrisonref23.Core -/
namespace ref23_Core
abbrev sh : List Sh := [.one (.int .i64)]
noncomputable abbrev R (a0 : Int) (a1 : Int) : Option (Int × Unit) := retω cfg sh 60 [(AV.d (DV.v (Value.int IntKind.i64 a0))), (AV.d (DV.v (Value.int IntKind.i64 a1)))]
end ref23_Core
/-! garrison/layout.Core -/
namespace layout_Core
abbrev sh : List Sh := [.one (.int .i64)]
noncomputable abbrev R (a0 : Int) (a1 : Int) : Option (Int × Unit) := retω cfg sh 73 [(AV.d (DV.v (Value.int IntKind.i64 a0))), (AV.d (DV.v (Value.int IntKind.i64 a1)))]
end layout_Core
/-! garrison/layout.Object -/
namespace layout_Object
abbrev sh : List Sh := [.one (.int .i64)]
noncomputable abbrev R (a0 : Int) (a1 : Int) : Option (Int × Unit) := retω cfg sh 74 [(AV.d (DV.v (Value.int IntKind.i64 a0))), (AV.d (DV.v (Value.int IntKind.i64 a1)))]
end layout_Object
/-! garrison/garrisonref03.Is -/
namespace ref03_Is
abbrev sh : List Sh := [.one (.bool)]
noncomputable abbrev R (a0_0 : Int) (a0_1 : Int) (a0_2 : Int) (a0_3 : Int) (a0_4 : Int) : Option (Bool × Unit) := retω cfg sh 77 [(AV.agg [(AV.d (DV.v (Value.int IntKind.i64 a0_0))), (AV.d (DV.v (Value.int IntKind.i64 a0_1))), (AV.d (DV.v (Value.int IntKind.i64 a0_2))), (AV.d (DV.v (Value.int IntKind.i64 a0_3))), (AV.d (DV.v (Value.int IntKind.i64 a0_4)))])]
end ref03_Is
/-! garrison/garrisonref01.Put -/
namespace ref01_Put
abbrev sh : List Sh := [.one (.int .u64), .one (.int .i64)]
noncomputable abbrev R (a0 : Int) (a1 : Int) (a2 : Int) (a3 : Int) : Option (Int × (Int × Unit)) := retω cfg sh 78 [(AV.d (DV.v (Value.int IntKind.u64 a0))), (AV.d (DV.v (Value.int IntKind.i64 a1))), (AV.d (DV.v (Value.int IntKind.i64 a2))), (AV.d (DV.v (Value.int IntKind.u64 a3)))]
end ref01_Put
/-! garrison/garrisonref02.Is -/
namespace ref02_Is
abbrev sh : List Sh := [.one (.bool)]
noncomputable abbrev R (a0 : Int) : Option (Bool × Unit) := retω cfg sh 91 [(AV.d (DV.v (Value.int IntKind.i64 a0)))]
end ref02_Is
/-! garrison/garrisonref01.Field -/
namespace ref01_Field
abbrev sh : List Sh := [.one (.bool)]
noncomputable abbrev R (a0 : Int) (a1 : Int) : Option (Bool × Unit) := retω cfg sh 92 [(AV.d (DV.v (Value.int IntKind.i64 a0))), (AV.d (DV.v (Value.int IntKind.i64 a1)))]
end ref01_Field
/-! garrison/garrisonref01.Bit -/
namespace ref01_Bit
abbrev sh : List Sh := [.one (.int .u64)]
noncomputable abbrev R (a0 : Int) (a1 : Int) : Option (Int × Unit) := retω cfg sh 93 [(AV.d (DV.v (Value.int IntKind.u64 a0))), (AV.d (DV.v (Value.int IntKind.i64 a1)))]
end ref01_Bit
/-! garrison/garrisonlaw24.LinksTree -/
namespace law24_LinksTree
abbrev sh : List Sh := [.one (.bool)]
noncomputable abbrev R (a0 : List (List DV)) (a1_0 : Int) (a1_1 : Int) (a2_0 : Int) (a2_1 : Int) : Option (Bool × Unit) := retω cfg sh 3 [(AV.d (DV.lst 5 a0)), (AV.agg [(AV.d (DV.v (Value.int IntKind.i64 a1_0))), (AV.d (DV.v (Value.int IntKind.i64 a1_1)))]), (AV.agg [(AV.d (DV.v (Value.int IntKind.i64 a2_0))), (AV.d (DV.v (Value.int IntKind.i64 a2_1)))])]
end law24_LinksTree
/-! garrison/garrisonlaw24.LinksBack -/
namespace law24_LinksBack
abbrev sh : List Sh := [.one (.bool)]
noncomputable abbrev R (a0 : List (List DV)) (a1_0 : Int) (a1_1 : Int) (a2_0 : Int) (a2_1 : Int) : Option (Bool × Unit) := retω cfg sh 4 [(AV.d (DV.lst 5 a0)), (AV.agg [(AV.d (DV.v (Value.int IntKind.i64 a1_0))), (AV.d (DV.v (Value.int IntKind.i64 a1_1)))]), (AV.agg [(AV.d (DV.v (Value.int IntKind.i64 a2_0))), (AV.d (DV.v (Value.int IntKind.i64 a2_1)))])]
end law24_LinksBack
/-! garrison/garrisonlaw24.grown -/
namespace law24_grown
abbrev sh : List Sh := [.one (.lst 4)]
noncomputable abbrev R (a0 : List (List DV)) : Option (List (List DV) × Unit) := retω cfg sh 7 [(AV.d (DV.lst 5 a0))]
end law24_grown
/-! garrison/tree.Insert -/
namespace tree_Insert
abbrev sh : List Sh := [.one (.lst 4), .one (.int .i64)]
noncomputable abbrev R (a0 : List (List DV)) (a1_0 : Int) (a1_1 : Int) (a2_0 : Int) (a2_1 : Int) : Option (List (List DV) × (Int × Unit)) := retω cfg sh 9 [(AV.d (DV.lst 4 a0)), (AV.agg [(AV.d (DV.v (Value.int IntKind.i64 a1_0))), (AV.d (DV.v (Value.int IntKind.i64 a1_1)))]), (AV.agg [(AV.d (DV.v (Value.int IntKind.i64 a2_0))), (AV.d (DV.v (Value.int IntKind.i64 a2_1)))])]
end tree_Insert
/-! garrison/garrisonlaw24.alike -/
namespace law24_alike
abbrev sh : List Sh := [.one (.bool)]
noncomputable abbrev R (a0 : List (List DV)) (a1 : List (List DV)) : Option (Bool × Unit) := retω cfg sh 10 [(AV.d (DV.lst 1 a0)), (AV.d (DV.lst 4 a1))]
end law24_alike
/-! garrison/tree.Remove -/
namespace tree_Remove
abbrev sh : List Sh := [.one (.lst 4), .one (.int .i64)]
noncomputable abbrev R (a0 : List (List DV)) (a1_0 : Int) (a1_1 : Int) : Option (List (List DV) × (Int × Unit)) := retω cfg sh 13 [(AV.d (DV.lst 4 a0)), (AV.agg [(AV.d (DV.v (Value.int IntKind.i64 a1_0))), (AV.d (DV.v (Value.int IntKind.i64 a1_1)))])]
end tree_Remove
/-! garrison/tree.Move -/
namespace tree_Move
abbrev sh : List Sh := [.one (.lst 4), .one (.int .i64)]
noncomputable abbrev R (a0 : List (List DV)) (a1_0 : Int) (a1_1 : Int) (a2_0 : Int) (a2_1 : Int) : Option (List (List DV) × (Int × Unit)) := retω cfg sh 16 [(AV.d (DV.lst 4 a0)), (AV.agg [(AV.d (DV.v (Value.int IntKind.i64 a1_0))), (AV.d (DV.v (Value.int IntKind.i64 a1_1)))]), (AV.agg [(AV.d (DV.v (Value.int IntKind.i64 a2_0))), (AV.d (DV.v (Value.int IntKind.i64 a2_1)))])]
end tree_Move
/-! garrison/garrisonref13.Below -/
namespace ref13_Below
abbrev sh : List Sh := [.one (.lst 2)]
noncomputable abbrev R (a0 : List (List DV)) (a1_0 : Int) (a1_1 : Int) : Option (List (List DV) × Unit) := retω cfg sh 20 [(AV.d (DV.lst 4 a0)), (AV.agg [(AV.d (DV.v (Value.int IntKind.i64 a1_0))), (AV.d (DV.v (Value.int IntKind.i64 a1_1)))])]
end ref13_Below
/-! garrison/tree.Find -/
namespace tree_Find
abbrev sh : List Sh := [.one (.int .i64), .one (.bool)]
noncomputable abbrev R (a0 : List (List DV)) (a1_0 : Int) (a1_1 : Int) : Option (Int × (Bool × Unit)) := retω cfg sh 21 [(AV.d (DV.lst 4 a0)), (AV.agg [(AV.d (DV.v (Value.int IntKind.i64 a1_0))), (AV.d (DV.v (Value.int IntKind.i64 a1_1)))])]
end tree_Find
/-! garrison/garrisonlaw24.same -/
namespace law24_same
abbrev sh : List Sh := [.one (.bool)]
noncomputable abbrev R (a0 : List (List DV)) (a1 : List (List DV)) : Option (Bool × Unit) := retω cfg sh 22 [(AV.d (DV.lst 1 a0)), (AV.d (DV.lst 1 a1))]
end law24_same
/-! garrison/tree.Root -/
namespace tree_Root
abbrev sh : List Sh := [.one (.lst 4), .one (.int .i64)]
noncomputable abbrev R (a0 : List (List DV)) (a1_0 : Int) (a1_1 : Int) : Option (List (List DV) × (Int × Unit)) := retω cfg sh 27 [(AV.d (DV.lst 4 a0)), (AV.agg [(AV.d (DV.v (Value.int IntKind.i64 a1_0))), (AV.d (DV.v (Value.int IntKind.i64 a1_1)))])]
end tree_Root
/-! garrison/tree.Mark -/
namespace tree_Mark
abbrev sh : List Sh := [.one (.lst 4), .one (.int .i64)]
noncomputable abbrev R (a0 : List (List DV)) (a1_0 : Int) (a1_1 : Int) (a2 : Bool) : Option (List (List DV) × (Int × Unit)) := retω cfg sh 28 [(AV.d (DV.lst 4 a0)), (AV.agg [(AV.d (DV.v (Value.int IntKind.i64 a1_0))), (AV.d (DV.v (Value.int IntKind.i64 a1_1)))]), (AV.d (DV.v (Value.bool a2)))]
end tree_Mark
/-! garrison/tree.right -/
namespace tree_right
abbrev sh : List Sh := [.one (.bool)]
noncomputable abbrev R (a0 : List (List DV)) (a1 : List (List DV)) : Option (Bool × Unit) := retω cfg sh 31 [(AV.d (DV.lst 4 a0)), (AV.d (DV.lst 2 a1))]
end tree_right
/-! garrison/tree.add -/
namespace tree_add
abbrev sh : List Sh := [.one (.lst 4), .one (.int .i64)]
noncomputable abbrev R (a0 : List (List DV)) (a1 : Int) (a2_0 : Int) (a2_1 : Int) (a2_2 : Int) (a2_3 : Bool) : Option (List (List DV) × (Int × Unit)) := retω cfg sh 32 [(AV.d (DV.lst 4 a0)), (AV.d (DV.v (Value.int IntKind.i64 a1))), (AV.agg [(AV.d (DV.v (Value.int IntKind.i64 a2_0))), (AV.d (DV.v (Value.int IntKind.i64 a2_1))), (AV.d (DV.v (Value.int IntKind.i64 a2_2))), (AV.d (DV.v (Value.bool a2_3)))])]
end tree_add
/-! garrison/tree.with -/
namespace tree_with
abbrev sh : List Sh := [.one (.lst 4)]
noncomputable abbrev R (a0 : List (List DV)) (a1 : Int) (a2_0 : Int) (a2_1 : Int) (a2_2 : Int) (a2_3 : Bool) : Option (List (List DV) × Unit) := retω cfg sh 41 [(AV.d (DV.lst 4 a0)), (AV.d (DV.v (Value.int IntKind.i64 a1))), (AV.agg [(AV.d (DV.v (Value.int IntKind.i64 a2_0))), (AV.d (DV.v (Value.int IntKind.i64 a2_1))), (AV.d (DV.v (Value.int IntKind.i64 a2_2))), (AV.d (DV.v (Value.bool a2_3)))])]
end tree_with
/-! garrison/garrisonref13.Find -/
namespace ref13_Find
abbrev sh : List Sh := [.one (.int .i64), .one (.bool)]
noncomputable abbrev R (a0 : List (List DV)) (a1_0 : Int) (a1_1 : Int) : Option (Int × (Bool × Unit)) := retω cfg sh 42 [(AV.d (DV.lst 4 a0)), (AV.agg [(AV.d (DV.v (Value.int IntKind.i64 a1_0))), (AV.d (DV.v (Value.int IntKind.i64 a1_1)))])]
end ref13_Find
/-! garrison/garrisonref13.count -/
namespace ref13_count
abbrev sh : List Sh := [.one (.int .i64)]
noncomputable abbrev R (a0 : List (List DV)) (a1 : Int) : Option (Int × Unit) := retω cfg sh 43 [(AV.d (DV.lst 4 a0)), (AV.d (DV.v (Value.int IntKind.i64 a1)))]
end ref13_count
/-! slices.IndexFunc[[]garrison/api.Branch,garrison/api.Branch] -/
namespace slices_IndexFunc_api_Branch_api_Branch__tree_Find_1
abbrev sh : List Sh := [.one (.int .i64)]
noncomputable abbrev R (a0 : List (List DV)) (b0 : Int) (b0_1 : Int) : Option (Int × Unit) := ownT cfg sh 44 45 (DV.lst 4 a0) (VBlk.cell 2 0 [(AV.d (DV.v (Value.int IntKind.i64 b0))), (AV.d (DV.v (Value.int IntKind.i64 b0_1)))])
end slices_IndexFunc_api_Branch_api_Branch__tree_Find_1
/-! garrison/tree.Check -/
namespace tree_Check
abbrev sh : List Sh := [.one (.int .i64)]
noncomputable abbrev R (a0 : List (List DV)) : Option (Int × Unit) := retω cfg sh 63 [(AV.d (DV.lst 4 a0))]
end tree_Check
/-! slices.ContainsFunc[[]garrison/api.Key,garrison/api.Key] -/
namespace slices_ContainsFunc_api_Key_api_Key__tree_right_1
abbrev sh : List Sh := [.one (.bool)]
noncomputable abbrev R (a0 : List (List DV)) : Option (Bool × Unit) := retω cfg sh 64 [(AV.d (DV.lst 2 a0)), (AV.d (DV.fn 61 []))]
end slices_ContainsFunc_api_Key_api_Key__tree_right_1
/-! garrison/tree.put -/
namespace tree_put
abbrev sh : List Sh := [.one (.lst 4)]
noncomputable abbrev R (a0 : List (List DV)) (a1 : Int) (a2_0 : Int) (a2_1 : Int) (a2_2 : Int) (a2_3 : Bool) : Option (List (List DV) × Unit) := retω cfg sh 65 [(AV.d (DV.lst 4 a0)), (AV.d (DV.v (Value.int IntKind.i64 a1))), (AV.agg [(AV.d (DV.v (Value.int IntKind.i64 a2_0))), (AV.d (DV.v (Value.int IntKind.i64 a2_1))), (AV.d (DV.v (Value.int IntKind.i64 a2_2))), (AV.d (DV.v (Value.bool a2_3)))])]
end tree_put
/-! garrison/order.Check -/
namespace order_Check
abbrev sh : List Sh := [.one (.int .i64)]
noncomputable abbrev R (a0_0 : Int) (a0_1 : Int) : Option (Int × Unit) := retω cfg sh 62 [(AV.agg [(AV.d (DV.v (Value.int IntKind.i64 a0_0))), (AV.d (DV.v (Value.int IntKind.i64 a0_1)))])]
end order_Check
/-! slices.IndexFunc[[]garrison/api.Key,garrison/api.Key] -/
namespace slices_IndexFunc_api_Key_api_Key__tree_right_1
abbrev sh : List Sh := [.one (.int .i64)]
noncomputable abbrev R (a0 : List (List DV)) : Option (Int × Unit) := retω cfg sh 79 [(AV.d (DV.lst 2 a0)), (AV.d (DV.fn 61 []))]
end slices_IndexFunc_api_Key_api_Key__tree_right_1
/-! garrison/tree.right$1 -/
namespace tree_right_1
abbrev sh : List Sh := [.one (.bool)]
noncomputable abbrev R (a0_0 : Int) (a0_1 : Int) : Option (Bool × Unit) := retω cfg sh 61 [(AV.agg [(AV.d (DV.v (Value.int IntKind.i64 a0_0))), (AV.d (DV.v (Value.int IntKind.i64 a0_1)))])]
end tree_right_1
end Go.AI
