/-
  Own work. slices.Sort and slices.Compact here: the kit's contracts off the shelf; the configuration is sound.
-/
import Derived.Shelf.Lay
import Derived.Shelf.Sort.Plain
import Derived.Shelf.Slices.In.SortNone
import Derived.Shelf.Slices.CompactI
import Derived.Ground.Names2Prog
import Derived.Test.YtcfglafjemagpaaCfg
import Derived.Test.YtcfglafjemagpaaAiModes
import Derived.KernelRfl
namespace Go.Proofs
open Go.Shelf
shelf_lay Lays.n189 Nm 189 at Try as Try.lays189
shelf_lay Lays2.n20 Nm2 20 at Try as Try.laysNm220
end Go.Proofs
namespace Go.AI
open Go Go.Proofs
theorem sort_law : SortLaw cfg.P 23 where
  known := ⟨_, rfl, rfl⟩
  some_ := fun blk off cap zs w hH hb hz => Any.slices_Sort_int Try.lays189 blk off cap zs w hH hb hz
  none_ := fun p cap w => Any.slices_Sort_int_none Try.lays189 p cap w
theorem cut_law : CutLaw cfg.P 24 where
  known := ⟨_, rfl, rfl⟩
  some_ := fun blk off cap zs w hH hz hc => Any.slices_Compact_int Try.laysNm220 blk off cap zs w hH hz hc
  none_ := fun a cap w => Any.slices_Compact_int_empty Try.laysNm220 a cap w
def isSort : Nat × Mode → Option (Nat × Bool)
  | (f, .sort c) => some (f, c)
  | _ => none
theorem sort_ok : SortOK cfg := fun f cut ht => by
  have hl : modes.lookup f = some (.sort cut) := by
    have ht : modeOf modes f = .sort cut := ht
    unfold modeOf at ht
    split at ht
    · rename_i m h; rw [h, ht]
    · cases ht
  have hm := lookup_mem hl
  have hf : (f, cut) ∈ modes.filterMap isSort := List.mem_filterMap.2 ⟨_, hm, rfl⟩
  have he : modes.filterMap isSort = [(23, false), (24, true)] := by kernel_rfl
  rw [he] at hf
  simp only [List.mem_cons, List.not_mem_nil, or_false, Prod.mk.injEq] at hf
  rcases hf with ⟨rfl, rfl⟩ | ⟨rfl, rfl⟩
  · exact ⟨fun _ => sort_law, fun h => by cases h⟩
  · exact ⟨fun h => (by cases h), fun _ => cut_law⟩
theorem readyM : ModesOK cfg := modes_ok' (l := modes) rfl (by kernel_rfl) (by kernel_rfl) (primOK_none (l := modes) rfl (by kernel_rfl) rfl) sort_ok
theorem readyP : ProgOK cfg := prog_ok (by kernel_rfl) (by kernel_rfl)
end Go.AI
