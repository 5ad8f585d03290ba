/-
  Own work. The ports' laws: the arguments. Runs, First.
-/
import Derived.Test.YtlkaolahadcjbaaPort7
import Derived.Test.YtlkaolahadcjbaaPortV2
namespace Go.AI
open Go
set_option linter.unusedVariables false
set_option linter.unusedSimpArgs false
namespace Port
theorem act_typed {xs : List DV} (h : okR [.int .i64, .int .i64, .int .i64, .int .i64, .bool, .int .i64, .int .i64, .int .i64, .bool, .int .i64] xs) : ∃ p, xs = encA p := by
  obtain ⟨c0, r, rfl, h0, h⟩ := okR_cons h
  obtain ⟨c1, r, rfl, h1, h⟩ := okR_cons h
  obtain ⟨c2, r, rfl, h2, h⟩ := okR_cons h
  obtain ⟨c3, r, rfl, h3, h⟩ := okR_cons h
  obtain ⟨c4, r, rfl, h4, h⟩ := okR_cons h
  obtain ⟨c5, r, rfl, h5, h⟩ := okR_cons h
  obtain ⟨c6, r, rfl, h6, h⟩ := okR_cons h
  obtain ⟨c7, r, rfl, h7, h⟩ := okR_cons h
  obtain ⟨c8, r, rfl, h8, h⟩ := okR_cons h
  obtain ⟨c9, r, rfl, h9, h⟩ := okR_cons h
  obtain rfl := okR_nil h
  obtain ⟨v0, rfl, _⟩ := okC_int h0
  obtain ⟨v1, rfl, _⟩ := okC_int h1
  obtain ⟨v2, rfl, _⟩ := okC_int h2
  obtain ⟨v3, rfl, _⟩ := okC_int h3
  obtain ⟨v4, rfl⟩ := okC_bool h4
  obtain ⟨v5, rfl, _⟩ := okC_int h5
  obtain ⟨v6, rfl, _⟩ := okC_int h6
  obtain ⟨v7, rfl, _⟩ := okC_int h7
  obtain ⟨v8, rfl⟩ := okC_bool h8
  obtain ⟨v9, rfl, _⟩ := okC_int h9
  exact ⟨⟨v0, ⟨v1, v2, v3, v4, v5, v6, v7, v8⟩, v9⟩, rfl⟩
theorem acts_typed {rows : List (List DV)} (h : ∀ r ∈ rows, okR [.int .i64, .int .i64, .int .i64, .int .i64, .bool, .int .i64, .int .i64, .int .i64, .bool, .int .i64] r) : ∃ l : List A, rows = l.map encA := by
  obtain ⟨l, h1, _⟩ := rows_typed encA (fun _ => True) fun r hr => by
    obtain ⟨p, hp⟩ := act_typed (h r hr)
    exact ⟨p, hp, trivial⟩
  exact ⟨l, h1⟩
theorem a_acts {a : AV} (h : ArgOK cfg.P 22 a) : ∃ l : List A, a = .d (.lst 10 (l.map encA)) := by
  obtain ⟨x, rfl, hx⟩ := arg_one h (by kernel_rfl : tkT cfg.P 9 22 = some [.lst [.int .i64, .int .i64, .int .i64, .int .i64, .bool, .int .i64, .int .i64, .int .i64, .bool, .int .i64]]) (by kernel_rfl)
  obtain ⟨rows, rfl, hrows⟩ := okC_lst hx
  obtain ⟨l, rfl⟩ := acts_typed hrows
  exact ⟨l, rfl⟩
theorem runs_val (vs : List AV) (h : ArgsOK cfg.P [22] vs) : valω cfg 3 vs = some (.d (.v (.bool true))) := by
  obtain ⟨x0, r, rfl, h0, h⟩ := argsOK_cons h
  obtain rfl := argsOK_nil h
  obtain ⟨l, rfl⟩ := a_acts h0
  exact val_of_ret (runs_law l)
theorem first_val (vs : List AV) (h : ArgsOK cfg.P [22] vs) : valω cfg 4 vs = some (.d (.v (.bool true))) := by
  obtain ⟨x0, r, rfl, h0, h⟩ := argsOK_cons h
  obtain rfl := argsOK_nil h
  obtain ⟨l, rfl⟩ := a_acts h0
  exact val_of_ret (first_law l)
end Port
end Go.AI
