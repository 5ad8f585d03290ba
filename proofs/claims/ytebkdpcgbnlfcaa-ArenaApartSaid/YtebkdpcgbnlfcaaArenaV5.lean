/-
  Own work. The arenas' fourth law: the arguments.
-/
import Derived.Test.YtebkdpcgbnlfcaaArenaV
import Derived.Test.YtebkdpcgbnlfcaaArenaP
namespace Go.AI
open Go
set_option linter.unusedVariables false
set_option linter.unusedSimpArgs false
namespace Arena
theorem a_int {a : AV} (h : ArgOK cfg.P 3 a) : ∃ n, a = .d (.v (.int .i64 n)) ∧ (Lit.int .i64 n).wf = true := by
  obtain ⟨x, rfl, hx⟩ := arg_one h (by kernel_rfl : tkT cfg.P 9 3 = some [.int .i64]) (by kernel_rfl)
  obtain ⟨n, rfl, hn⟩ := okC_int hx
  exact ⟨n, rfl, hn⟩
theorem a_ints {a : AV} (h : ArgOK cfg.P 48 a) : ∃ l : List Int, a = .d (.lst 1 (l.map ei)) := by
  obtain ⟨x, rfl, hx⟩ := arg_one h (by kernel_rfl : tkT cfg.P 9 48 = some [.lst [.int .i64]]) (by kernel_rfl)
  obtain ⟨rows, rfl, hrows⟩ := okC_lst hx
  obtain ⟨l, rfl⟩ := is_typed hrows
  exact ⟨l, rfl⟩
theorem apart_val (vs : List AV) (h : ArgsOK cfg.P [3, 3, 48] vs) : valω cfg 6 vs = some (.d (.v (.bool true))) := by
  obtain ⟨x0, r, rfl, h0, h⟩ := argsOK_cons h
  obtain ⟨x1, r, rfl, h1, h⟩ := argsOK_cons h
  obtain ⟨x2, r, rfl, h2, h⟩ := argsOK_cons h
  obtain rfl := argsOK_nil h
  obtain ⟨n, rfl, _⟩ := a_int h0
  obtain ⟨c, rfl, _⟩ := a_int h1
  obtain ⟨l, rfl⟩ := a_ints h2
  exact val_of_ret (apart_law n c l)
end Arena
end Go.AI
