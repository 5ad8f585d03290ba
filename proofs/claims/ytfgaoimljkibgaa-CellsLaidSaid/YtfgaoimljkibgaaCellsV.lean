/-
  Own work. The cells' laws: the arguments. Apart, Once, Trace, Many.
-/
import Derived.Test.YtfgaoimljkibgaaCells4
namespace Go.AI
open Go
set_option linter.unusedVariables false
set_option linter.unusedSimpArgs false
namespace Cells
theorem a_int {a : AV} (h : ArgOK cfg.P 3 a) : ∃ n, a = .d (.v (.int .i64 n)) ∧ (Lit.int .i64 n).wf = true := by
  obtain ⟨x, rfl, hx⟩ := arg_one h (by kernel_rfl : tkT cfg.P 9 3 = some [.int .i64]) (by kernel_rfl)
  obtain ⟨n, rfl, hn⟩ := okC_int hx
  exact ⟨n, rfl, hn⟩
theorem a_ints {a : AV} (h : ArgOK cfg.P 22 a) : ∃ l : List Int, a = .d (.lst 1 (l.map ei)) ∧ ∀ n ∈ l, (Lit.int .i64 n).wf = true := by
  obtain ⟨x, rfl, hx⟩ := arg_one h (by kernel_rfl : tkT cfg.P 9 22 = some [.lst [.int .i64]]) (by kernel_rfl)
  obtain ⟨rows, rfl, hrows⟩ := okC_lst hx
  obtain ⟨l, rfl, hl⟩ := ints_typed hrows
  exact ⟨l, rfl, hl⟩
theorem a_op {a : AV} (h : ArgOK cfg.P 24 a) : ∃ p : Op, a = .agg ((encOp p).map .d) := by
  obtain ⟨xs, rfl, hxs⟩ := arg_struct h (by kernel_rfl : tkT cfg.P 9 24 = some [.int .i64, .int .i64, .int .i64, .int .i64, .int .i64]) (by kernel_rfl)
  obtain ⟨p, rfl⟩ := op_typed hxs
  exact ⟨p, rfl⟩
theorem a_ops {a : AV} (h : ArgOK cfg.P 32 a) : ∃ l : List Op, a = .d (.lst 5 (l.map encOp)) := by
  obtain ⟨x, rfl, hx⟩ := arg_one h (by kernel_rfl : tkT cfg.P 9 32 = some [.lst [.int .i64, .int .i64, .int .i64, .int .i64, .int .i64]]) (by kernel_rfl)
  obtain ⟨rows, rfl, hrows⟩ := okC_lst hx
  obtain ⟨l, rfl⟩ := ops_typed hrows
  exact ⟨l, rfl⟩
theorem apart_val (vs : List AV) (h : ArgsOK cfg.P [22, 24, 24] vs) : valω cfg 6 vs = some (.d (.v (.bool true))) := by
  obtain ⟨a, r, rfl, h1, h⟩ := argsOK_cons h
  obtain ⟨b, r, rfl, h2, h⟩ := argsOK_cons h
  obtain ⟨c, r, rfl, h3, h⟩ := argsOK_cons h
  obtain rfl := argsOK_nil h
  obtain ⟨l, rfl, _⟩ := a_ints h1
  obtain ⟨p, rfl⟩ := a_op h2
  obtain ⟨q, rfl⟩ := a_op h3
  exact val_of_ret (apart_law l p q)
theorem once_val (vs : List AV) (h : ArgsOK cfg.P [22, 24] vs) : valω cfg 5 vs = some (.d (.v (.bool true))) := by
  obtain ⟨a, r, rfl, h1, h⟩ := argsOK_cons h
  obtain ⟨b, r, rfl, h2, h⟩ := argsOK_cons h
  obtain rfl := argsOK_nil h
  obtain ⟨l, rfl, _⟩ := a_ints h1
  obtain ⟨p, rfl⟩ := a_op h2
  exact val_of_ret (once_law l p)
theorem trace_val (vs : List AV) (h : ArgsOK cfg.P [3, 32] vs) : valω cfg 7 vs = some (.d (.v (.bool true))) := by
  obtain ⟨a, r, rfl, h1, h⟩ := argsOK_cons h
  obtain ⟨b, r, rfl, h2, h⟩ := argsOK_cons h
  obtain rfl := argsOK_nil h
  obtain ⟨n, rfl, _⟩ := a_int h1
  obtain ⟨p, rfl⟩ := a_ops h2
  exact val_of_ret (trace_law n p)
theorem many_val (vs : List AV) (h : ArgsOK cfg.P [3, 24] vs) : valω cfg 9 vs = some (.d (.v (.bool true))) := by
  obtain ⟨a, r, rfl, h1, h⟩ := argsOK_cons h
  obtain ⟨b, r, rfl, h2, h⟩ := argsOK_cons h
  obtain rfl := argsOK_nil h
  obtain ⟨n, rfl, _⟩ := a_int h1
  obtain ⟨p, rfl⟩ := a_op h2
  exact val_of_ret (many_law n p)
end Cells
end Go.AI
