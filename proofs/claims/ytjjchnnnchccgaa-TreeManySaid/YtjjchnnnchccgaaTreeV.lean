/-
  Own work. tree's laws: the arguments.
-/
import Derived.Test.YtjjchnnnchccgaaTree5
namespace Go.AI
open Go
set_option linter.unusedVariables false
set_option linter.unusedSimpArgs false
namespace Trees
open Ghost
theorem k_typed {xs : List DV} (h : okR [.int .i64, .int .i64] xs) : ∃ p, xs = encK p := by
  obtain ⟨c0, r, rfl, h0, h⟩ := okR_cons h
  obtain ⟨c1, r, rfl, h1, h⟩ := okR_cons h
  obtain rfl := okR_nil h
  obtain ⟨v0, rfl, _⟩ := okC_int h0
  obtain ⟨v1, rfl, _⟩ := okC_int h1
  exact ⟨⟨v0, v1⟩, rfl⟩
theorem a_k {a : AV} (h : ArgOK cfg.P 27 a) : ∃ p : K, a = .agg ((encK p).map .d) := by
  obtain ⟨xs, rfl, hxs⟩ := arg_struct h (by kernel_rfl : tkT cfg.P 9 27 = some [.int .i64, .int .i64]) (by kernel_rfl)
  obtain ⟨p, rfl⟩ := k_typed hxs
  exact ⟨p, rfl⟩
theorem br_typed {xs : List DV} (h : okR [.int .i64, .int .i64, .int .i64, .bool] xs) : ∃ p, xs = TRow.row p := by
  obtain ⟨c0, r, rfl, h0, h⟩ := okR_cons h
  obtain ⟨c1, r, rfl, h1, h⟩ := okR_cons h
  obtain ⟨c2, r, rfl, h2, h⟩ := okR_cons h
  obtain ⟨c3, r, rfl, h3, h⟩ := okR_cons h
  obtain rfl := okR_nil h
  obtain ⟨v0, rfl, _⟩ := okC_int h0
  obtain ⟨v1, rfl, _⟩ := okC_int h1
  obtain ⟨v2, rfl, _⟩ := okC_int h2
  obtain ⟨v3, rfl⟩ := okC_bool h3
  exact ⟨⟨v0, v1, v2, v3⟩, rfl⟩
theorem brs_typed {rows : List (List DV)} (h : ∀ r ∈ rows, okR [.int .i64, .int .i64, .int .i64, .bool] r) : ∃ l : List TRow, rows = l.map TRow.row := by
  obtain ⟨l, h1, _⟩ := rows_typed TRow.row (fun _ => True) fun r hr => by
    obtain ⟨p, hp⟩ := br_typed (h r hr)
    exact ⟨p, hp, trivial⟩
  exact ⟨l, h1⟩
theorem a_brs {a : AV} (h : ArgOK cfg.P 52 a) : ∃ l : List TRow, a = .d (.lst 4 (l.map TRow.row)) := by
  obtain ⟨x, rfl, hx⟩ := arg_one h (by kernel_rfl : tkT cfg.P 9 52 = some [.lst [.int .i64, .int .i64, .int .i64, .bool]]) (by kernel_rfl)
  obtain ⟨rows, rfl, hrows⟩ := okC_lst hx
  obtain ⟨l, rfl⟩ := brs_typed hrows
  exact ⟨l, rfl⟩
theorem act_typed {xs : List DV} (h : okR [.int .i64, .int .i64, .int .i64, .int .i64, .int .i64, .bool] xs) : ∃ p, xs = encA p := by
  obtain ⟨c0, r, rfl, h0, h⟩ := okR_cons h
  obtain ⟨c1, r, rfl, h1, h⟩ := okR_cons h
  obtain ⟨c2, r, rfl, h2, h⟩ := okR_cons h
  obtain ⟨c3, r, rfl, h3, h⟩ := okR_cons h
  obtain ⟨c4, r, rfl, h4, h⟩ := okR_cons h
  obtain ⟨c5, r, rfl, h5, h⟩ := okR_cons h
  obtain rfl := okR_nil h
  obtain ⟨v0, rfl, _⟩ := okC_int h0
  obtain ⟨v1, rfl, _⟩ := okC_int h1
  obtain ⟨v2, rfl, _⟩ := okC_int h2
  obtain ⟨v3, rfl, _⟩ := okC_int h3
  obtain ⟨v4, rfl, _⟩ := okC_int h4
  obtain ⟨v5, rfl⟩ := okC_bool h5
  exact ⟨⟨v0, ⟨v1, v2⟩, ⟨v3, v4⟩, v5⟩, rfl⟩
theorem acts_typed {rows : List (List DV)} (h : ∀ r ∈ rows, okR [.int .i64, .int .i64, .int .i64, .int .i64, .int .i64, .bool] r) : ∃ l : List Act, rows = l.map encA := by
  obtain ⟨l, h1, _⟩ := rows_typed encA (fun _ => True) fun r hr => by
    obtain ⟨p, hp⟩ := act_typed (h r hr)
    exact ⟨p, hp, trivial⟩
  exact ⟨l, h1⟩
theorem a_act {a : AV} (h : ArgOK cfg.P 54 a) : ∃ p : Act, a = .agg ((encA p).map .d) := by
  obtain ⟨xs, rfl, hxs⟩ := arg_struct h (by kernel_rfl : tkT cfg.P 9 54 = some [.int .i64, .int .i64, .int .i64, .int .i64, .int .i64, .bool]) (by kernel_rfl)
  obtain ⟨p, rfl⟩ := act_typed hxs
  exact ⟨p, rfl⟩
theorem steps_val (vs : List AV) (h : ArgsOK cfg.P [52, 52, 54] vs) : valω cfg 8 vs = some (.d (.v (.bool true))) := by
  obtain ⟨x0, r, rfl, h0, h⟩ := argsOK_cons h
  obtain ⟨x1, r, rfl, h1, h⟩ := argsOK_cons h
  obtain ⟨x2, r, rfl, h2, h⟩ := argsOK_cons h
  obtain rfl := argsOK_nil h
  obtain ⟨t, rfl⟩ := a_brs h0
  obtain ⟨u, rfl⟩ := a_brs h1
  obtain ⟨x, rfl⟩ := a_act h2
  exact val_of_ret (steps_law t u x)
theorem tells_val (vs : List AV) (h : ArgsOK cfg.P [52, 27, 27] vs) : valω cfg 9 vs = some (.d (.v (.bool true))) := by
  obtain ⟨x0, r, rfl, h0, h⟩ := argsOK_cons h
  obtain ⟨x1, r, rfl, h1, h⟩ := argsOK_cons h
  obtain ⟨x2, r, rfl, h2, h⟩ := argsOK_cons h
  obtain rfl := argsOK_nil h
  obtain ⟨t, rfl⟩ := a_brs h0
  obtain ⟨a, rfl⟩ := a_k h1
  obtain ⟨b, rfl⟩ := a_k h2
  exact val_of_ret (tells_law t a b)
theorem a_acts {a : AV} (h : ArgOK cfg.P 67 a) : ∃ l : List Act, a = .d (.lst 6 (l.map encA)) := by
  obtain ⟨x, rfl, hx⟩ := arg_one h (by kernel_rfl : tkT cfg.P 9 67 = some [.lst [.int .i64, .int .i64, .int .i64, .int .i64, .int .i64, .bool]]) (by kernel_rfl)
  obtain ⟨rows, rfl, hrows⟩ := okC_lst hx
  obtain ⟨l, rfl⟩ := acts_typed hrows
  exact ⟨l, rfl⟩
theorem runs_val (vs : List AV) (h : ArgsOK cfg.P [67] vs) : valω cfg 10 vs = some (.d (.v (.bool true))) := by
  obtain ⟨x0, r, rfl, h0, h⟩ := argsOK_cons h
  obtain rfl := argsOK_nil h
  obtain ⟨l, rfl⟩ := a_acts h0
  exact val_of_ret (runs_law l)
theorem order_val (vs : List AV) (h : ArgsOK cfg.P [67, 27, 27, 27] vs) : valω cfg 12 vs = some (.d (.v (.bool true))) := by
  obtain ⟨x0, r, rfl, h0, h⟩ := argsOK_cons h
  obtain ⟨x1, r, rfl, h1, h⟩ := argsOK_cons h
  obtain ⟨x2, r, rfl, h2, h⟩ := argsOK_cons h
  obtain ⟨x3, r, rfl, h3, h⟩ := argsOK_cons h
  obtain rfl := argsOK_nil h
  obtain ⟨l, rfl⟩ := a_acts h0
  obtain ⟨a, rfl⟩ := a_k h1
  obtain ⟨b, rfl⟩ := a_k h2
  obtain ⟨c, rfl⟩ := a_k h3
  exact val_of_ret (order_law l a b c)
theorem moves_val (vs : List AV) (h : ArgsOK cfg.P [67, 27, 27, 27, 27] vs) : valω cfg 13 vs = some (.d (.v (.bool true))) := by
  obtain ⟨x0, r, rfl, h0, h⟩ := argsOK_cons h
  obtain ⟨x1, r, rfl, h1, h⟩ := argsOK_cons h
  obtain ⟨x2, r, rfl, h2, h⟩ := argsOK_cons h
  obtain ⟨x3, r, rfl, h3, h⟩ := argsOK_cons h
  obtain ⟨x4, r, rfl, h4, h⟩ := argsOK_cons h
  obtain rfl := argsOK_nil h
  obtain ⟨l, rfl⟩ := a_acts h0
  obtain ⟨f, rfl⟩ := a_k h1
  obtain ⟨k, rfl⟩ := a_k h2
  obtain ⟨a, rfl⟩ := a_k h3
  obtain ⟨b, rfl⟩ := a_k h4
  exact val_of_ret (moves_law l f k a b)
theorem a_int {a : AV} (h : ArgOK cfg.P 3 a) : ∃ n, a = .d (.v (.int .i64 n)) ∧ (Lit.int .i64 n).wf = true := by
  obtain ⟨x, rfl, hx⟩ := arg_one h (by kernel_rfl : tkT cfg.P 9 3 = some [.int .i64]) (by kernel_rfl)
  obtain ⟨n, rfl, hn⟩ := okC_int hx
  exact ⟨n, rfl, hn⟩
theorem back_val (vs : List AV) (h : ArgsOK cfg.P [67, 27, 27, 27] vs) : valω cfg 11 vs = some (.d (.v (.bool true))) := by
  obtain ⟨x0, r, rfl, h0, h⟩ := argsOK_cons h
  obtain ⟨x1, r, rfl, h1, h⟩ := argsOK_cons h
  obtain ⟨x2, r, rfl, h2, h⟩ := argsOK_cons h
  obtain ⟨x3, r, rfl, h3, h⟩ := argsOK_cons h
  obtain rfl := argsOK_nil h
  obtain ⟨l, rfl⟩ := a_acts h0
  obtain ⟨f, rfl⟩ := a_k h1
  obtain ⟨k, rfl⟩ := a_k h2
  obtain ⟨o, rfl⟩ := a_k h3
  exact val_of_ret (back_law l f k o)
theorem counts_val (vs : List AV) (h : ArgsOK cfg.P [67, 27] vs) : valω cfg 14 vs = some (.d (.v (.bool true))) := by
  obtain ⟨x0, r, rfl, h0, h⟩ := argsOK_cons h
  obtain ⟨x1, r, rfl, h1, h⟩ := argsOK_cons h
  obtain rfl := argsOK_nil h
  obtain ⟨l, rfl⟩ := a_acts h0
  obtain ⟨k, rfl⟩ := a_k h1
  exact val_of_ret (counts_law l k)
theorem many_val (vs : List AV) (h : ArgsOK cfg.P [3] vs) : valω cfg 15 vs = some (.d (.v (.bool true))) := by
  obtain ⟨x0, r, rfl, h0, h⟩ := argsOK_cons h
  obtain rfl := argsOK_nil h
  obtain ⟨n, rfl, _⟩ := a_int h0
  exact val_of_ret (many_law n)
end Trees
end Go.AI
