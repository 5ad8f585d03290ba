/-
  Own work. The arenas' last law: the arguments.
-/
import Derived.Test.YtebkdpcgbnlfcaaArenaV
import Derived.Test.YtebkdpcgbnlfcaaArena9
namespace Go.AI
open Go
set_option linter.unusedVariables false
set_option linter.unusedSimpArgs false
namespace Arena
theorem a_int {a : AV} (h : ArgOK cfg.P 3 a) : ∃ n, a = .d (.v (.int .i64 n)) ∧ (Lit.int .i64 n).wf = true := by
  obtain ⟨x, rfl, hx⟩ := arg_one h (by kernel_rfl : tkT cfg.P 9 3 = some [.int .i64]) (by kernel_rfl)
  obtain ⟨n, rfl, hn⟩ := okC_int hx
  exact ⟨n, rfl, hn⟩
theorem all_val (vs : List AV) (h : ArgsOK cfg.P [3, 3, 27] vs) : valω cfg 7 vs = some (.d (.v (.bool true))) := by
  obtain ⟨x0, r, rfl, h0, h⟩ := argsOK_cons h
  obtain ⟨x1, r, rfl, h1, h⟩ := argsOK_cons h
  obtain ⟨x2, r, rfl, h2, h⟩ := argsOK_cons h
  obtain rfl := argsOK_nil h
  obtain ⟨n, rfl, _⟩ := a_int h0
  obtain ⟨c, rfl, _⟩ := a_int h1
  obtain ⟨t, rfl⟩ := a_t h2
  exact val_of_ret (all_law n c t)
end Arena
end Go.AI
