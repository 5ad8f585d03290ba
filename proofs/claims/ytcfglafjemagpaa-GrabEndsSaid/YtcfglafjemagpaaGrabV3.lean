/-
  Own work. grab's laws: the arguments (GrabEnds).
-/
import Derived.Test.YtcfglafjemagpaaGrab8
namespace Go.AI
open Go
set_option linter.unusedVariables false
set_option linter.unusedSimpArgs false
namespace Grabs
theorem a_int {a : AV} (h : ArgOK cfg.P 3 a) : ∃ n, a = .d (.v (.int .i64 n)) ∧ (Lit.int .i64 n).wf = true := by
  obtain ⟨x, rfl, hx⟩ := arg_one h (by kernel_rfl : tkT cfg.P 9 3 = some [.int .i64]) (by kernel_rfl)
  obtain ⟨n, rfl, hn⟩ := okC_int hx
  exact ⟨n, rfl, hn⟩
theorem a_bool {a : AV} (h : ArgOK cfg.P 4 a) : ∃ n, a = .d (.v (.bool n)) := by
  obtain ⟨x, rfl, hx⟩ := arg_one h (by kernel_rfl : tkT cfg.P 9 4 = some [.bool]) (by kernel_rfl)
  obtain ⟨n, rfl⟩ := okC_bool hx
  exact ⟨n, rfl⟩
theorem a_ints {a : AV} (h : ArgOK cfg.P 22 a) : ∃ l : List Int, a = .d (.lst 1 (l.map ei)) := by
  obtain ⟨x, rfl, hx⟩ := arg_one h (by kernel_rfl : tkT cfg.P 9 22 = some [.lst [.int .i64]]) (by kernel_rfl)
  obtain ⟨rows, rfl, hrows⟩ := okC_lst hx
  obtain ⟨l, rfl, _⟩ := ints_typed hrows
  exact ⟨l, rfl⟩
theorem is_typed {rows : List (List DV)} (h : ∀ r ∈ rows, okR [.int .i64] r) : ∃ l : List Int, rows = l.map ei := by
  obtain ⟨l, h1, _⟩ := ints_typed h
  exact ⟨l, h1⟩
theorem want_typed {xs : List DV} (h : okR [.bool, .lst [.int .i64]] xs) : ∃ p, xs = encW p := by
  obtain ⟨c0, r, rfl, h0, h⟩ := okR_cons h
  obtain ⟨c1, r, rfl, h1, h⟩ := okR_cons h
  obtain rfl := okR_nil h
  obtain ⟨v0, rfl⟩ := okC_bool h0
  obtain ⟨q1, rfl, k1⟩ := okC_lst h1
  obtain ⟨v1, rfl⟩ := is_typed k1
  exact ⟨⟨v0, v1⟩, rfl⟩
theorem wants_typed {rows : List (List DV)} (h : ∀ r ∈ rows, okR [.bool, .lst [.int .i64]] r) : ∃ l : List Want, rows = l.map encW := by
  obtain ⟨l, h1, _⟩ := rows_typed encW (fun _ => True) fun r hr => by
    obtain ⟨p, hp⟩ := want_typed (h r hr)
    exact ⟨p, hp, trivial⟩
  exact ⟨l, h1⟩
theorem a_wants {a : AV} (h : ArgOK cfg.P 40 a) : ∃ l : List Want, a = .d (.lst 2 (l.map encW)) := by
  obtain ⟨x, rfl, hx⟩ := arg_one h (by kernel_rfl : tkT cfg.P 9 40 = some [.lst [.bool, .lst [.int .i64]]]) (by kernel_rfl)
  obtain ⟨rows, rfl, hrows⟩ := okC_lst hx
  obtain ⟨l, rfl⟩ := wants_typed hrows
  exact ⟨l, rfl⟩
theorem ends_val (vs : List AV) (h : ArgsOK cfg.P [40, 22] vs) : valω cfg 6 vs = some (.d (.v (.bool true))) := by
  obtain ⟨x0, r, rfl, h0, h⟩ := argsOK_cons h
  obtain ⟨x1, r, rfl, h1, h⟩ := argsOK_cons h
  obtain rfl := argsOK_nil h
  obtain ⟨l, rfl⟩ := a_wants h0
  obtain ⟨picks, rfl⟩ := a_ints h1
  exact val_of_ret (ends_law l picks)
end Grabs
end Go.AI
