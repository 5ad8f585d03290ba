/-
  Own work. grab's laws: the arguments.
-/
import Derived.Test.YtcfglafjemagpaaGrab2
namespace Go.AI
open Go
set_option linter.unusedVariables false
set_option linter.unusedSimpArgs false
namespace Grabs
theorem a_int {a : AV} (h : ArgOK cfg.P 3 a) : ∃ n, a = .d (.v (.int .i64 n)) ∧ (Lit.int .i64 n).wf = true := by
  obtain ⟨x, rfl, hx⟩ := arg_one h (by kernel_rfl : tkT cfg.P 9 3 = some [.int .i64]) (by kernel_rfl)
  obtain ⟨n, rfl, hn⟩ := okC_int hx
  exact ⟨n, rfl, hn⟩
theorem a_bool {a : AV} (h : ArgOK cfg.P 4 a) : ∃ n, a = .d (.v (.bool n)) := by
  obtain ⟨x, rfl, hx⟩ := arg_one h (by kernel_rfl : tkT cfg.P 9 4 = some [.bool]) (by kernel_rfl)
  obtain ⟨n, rfl⟩ := okC_bool hx
  exact ⟨n, rfl⟩
theorem a_ints {a : AV} (h : ArgOK cfg.P 22 a) : ∃ l : List Int, a = .d (.lst 1 (l.map ei)) := by
  obtain ⟨x, rfl, hx⟩ := arg_one h (by kernel_rfl : tkT cfg.P 9 22 = some [.lst [.int .i64]]) (by kernel_rfl)
  obtain ⟨rows, rfl, hrows⟩ := okC_lst hx
  obtain ⟨l, rfl, _⟩ := ints_typed hrows
  exact ⟨l, rfl⟩
theorem b_typed {xs : List DV} (h : okR [.bool] xs) : ∃ p, xs = eb p := by
  obtain ⟨c0, r, rfl, h0, h⟩ := okR_cons h
  obtain rfl := okR_nil h
  obtain ⟨v0, rfl⟩ := okC_bool h0
  exact ⟨v0, rfl⟩
theorem bs_typed {rows : List (List DV)} (h : ∀ r ∈ rows, okR [.bool] r) : ∃ l : List Bool, rows = l.map eb := by
  obtain ⟨l, h1, _⟩ := rows_typed eb (fun _ => True) fun r hr => by
    obtain ⟨p, hp⟩ := b_typed (h r hr)
    exact ⟨p, hp, trivial⟩
  exact ⟨l, h1⟩
theorem a_bs {a : AV} (h : ArgOK cfg.P 38 a) : ∃ l : List Bool, a = .d (.lst 1 (l.map eb)) := by
  obtain ⟨x, rfl, hx⟩ := arg_one h (by kernel_rfl : tkT cfg.P 9 38 = some [.lst [.bool]]) (by kernel_rfl)
  obtain ⟨rows, rfl, hrows⟩ := okC_lst hx
  obtain ⟨l, rfl⟩ := bs_typed hrows
  exact ⟨l, rfl⟩
theorem single_val (vs : List AV) (h : ArgsOK cfg.P [3, 4, 22] vs) : valω cfg 3 vs = some (.d (.v (.bool true))) := by
  obtain ⟨x0, r, rfl, h0, h⟩ := argsOK_cons h
  obtain ⟨x1, r, rfl, h1, h⟩ := argsOK_cons h
  obtain ⟨x2, r, rfl, h2, h⟩ := argsOK_cons h
  obtain rfl := argsOK_nil h
  obtain ⟨who, rfl, _⟩ := a_int h0
  obtain ⟨wait, rfl⟩ := a_bool h1
  obtain ⟨l, rfl⟩ := a_ints h2
  exact val_of_ret (single_law who wait l)
theorem waits_val (vs : List AV) (h : ArgsOK cfg.P [3, 4, 22, 38] vs) : valω cfg 4 vs = some (.d (.v (.bool true))) := by
  obtain ⟨x0, r, rfl, h0, h⟩ := argsOK_cons h
  obtain ⟨x1, r, rfl, h1, h⟩ := argsOK_cons h
  obtain ⟨x2, r, rfl, h2, h⟩ := argsOK_cons h
  obtain ⟨x3, r, rfl, h3, h⟩ := argsOK_cons h
  obtain rfl := argsOK_nil h
  obtain ⟨who, rfl, _⟩ := a_int h0
  obtain ⟨wait, rfl⟩ := a_bool h1
  obtain ⟨l, rfl⟩ := a_ints h2
  obtain ⟨oks, rfl⟩ := a_bs h3
  exact val_of_ret (waits_law who wait l oks)
end Grabs
end Go.AI
