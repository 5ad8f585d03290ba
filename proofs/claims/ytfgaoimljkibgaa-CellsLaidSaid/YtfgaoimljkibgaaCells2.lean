/-
  Own work. The cells' laws: CellsApply.
-/
import Derived.Test.YtfgaoimljkibgaaCells1
namespace Go.AI
open Go
set_option linter.unusedVariables false
set_option linter.unusedSimpArgs false
namespace Cells
theorem op_typed {xs : List DV} (h : okR [.int .i64, .int .i64, .int .i64, .int .i64, .int .i64] xs) : ∃ p, xs = encOp p := by
  obtain ⟨a, r, rfl, h1, h⟩ := okR_cons h
  obtain ⟨b, r, rfl, h2, h⟩ := okR_cons h
  obtain ⟨c, r, rfl, h3, h⟩ := okR_cons h
  obtain ⟨d, r, rfl, h4, h⟩ := okR_cons h
  obtain ⟨e, r, rfl, h5, h⟩ := okR_cons h
  obtain rfl := okR_nil h
  obtain ⟨a, rfl, _⟩ := okC_int h1
  obtain ⟨b, rfl, _⟩ := okC_int h2
  obtain ⟨c, rfl, _⟩ := okC_int h3
  obtain ⟨d, rfl, _⟩ := okC_int h4
  obtain ⟨e, rfl, _⟩ := okC_int h5
  exact ⟨⟨a, b, c, d, e⟩, rfl⟩
theorem ops_typed {rows : List (List DV)} (h : ∀ r ∈ rows, okR [.int .i64, .int .i64, .int .i64, .int .i64, .int .i64] r) : ∃ l : List Op, rows = l.map encOp := by
  obtain ⟨l, h1, _⟩ := rows_typed encOp (fun _ => True) fun r hr => by
    obtain ⟨p, hp⟩ := op_typed (h r hr)
    exact ⟨p, hp, trivial⟩
  exact ⟨l, h1⟩
theorem rec_eq (r : Rec) : (r.1 == r.1 && (r.2.1 == r.2.1 && (r.2.2.1 == r.2.2.1 && (r.2.2.2.1 == r.2.2.2.1 && (r.2.2.2.2.1 == r.2.2.2.2.1 && (r.2.2.2.2.2.1 == r.2.2.2.2.2.1 && (r.2.2.2.2.2.2.1 == r.2.2.2.2.2.2.1 && true))))))) = true := by simp
theorem apply_law (l : List Int) (p : Op) : law04_CellsApply.R (l.map ei) p.k p.c p.o p.v p.w = some (true, ()) := by
  refine law04_CellsApply.start _ _ _ _ _ _ _ ?_
  simp only [cond_ite, decide_eq_true_eq, needs_iff, List.length_map]
  by_cases hl : l.length ≤ 100
  · rw [if_neg (by omega)]
    refine ⟨⟨by omega, by omega⟩, ?_⟩
    rw [List.take_of_length_le (by simp), apply_ok p l (by omega), ref_apply_ok p l (by omega)]
    simp only [optAll_so]
    rw [values_ok _ _ (by rw [app_len]; omega), values_ok _ _ (by omega)]
    simp only [optAll_so, rec_eq, live_ok, decide_true, if_true]
  · rw [if_pos (by omega), live_ok]
    rfl
theorem apply_val (vs : List AV) (h : ArgsOK cfg.P [22, 24] vs) : valω cfg 3 vs = some (.d (.v (.bool true))) := by
  obtain ⟨a, r, rfl, h1, h⟩ := argsOK_cons h
  obtain ⟨b, r, rfl, h2, h⟩ := argsOK_cons h
  obtain rfl := argsOK_nil h
  obtain ⟨x, rfl, hx⟩ := arg_one h1 (by kernel_rfl : tkT cfg.P 9 22 = some [.lst [.int .i64]]) (by kernel_rfl)
  obtain ⟨rows, rfl, hrows⟩ := okC_lst hx
  obtain ⟨l, rfl, _⟩ := ints_typed hrows
  obtain ⟨xs, rfl, hxs⟩ := arg_struct h2 (by kernel_rfl : tkT cfg.P 9 24 = some [.int .i64, .int .i64, .int .i64, .int .i64, .int .i64]) (by kernel_rfl)
  obtain ⟨p, rfl⟩ := op_typed hxs
  exact val_of_ret (apply_law l p)
end Cells
end Go.AI
