/-
  Own work. The ports' laws: the arguments. Turns, Many, Drops.
-/
import Derived.Test.YtlkaolahadcjbaaPort5
namespace Go.AI
open Go
set_option linter.unusedVariables false
set_option linter.unusedSimpArgs false
namespace Port
theorem w_typed {xs : List DV} (h : okR [.int .i64, .int .i64, .int .i64, .bool, .int .i64, .int .i64, .int .i64, .bool] xs) : ∃ p, xs = encW p := by
  obtain ⟨c0, r, rfl, h0, h⟩ := okR_cons h
  obtain ⟨c1, r, rfl, h1, h⟩ := okR_cons h
  obtain ⟨c2, r, rfl, h2, h⟩ := okR_cons h
  obtain ⟨c3, r, rfl, h3, h⟩ := okR_cons h
  obtain ⟨c4, r, rfl, h4, h⟩ := okR_cons h
  obtain ⟨c5, r, rfl, h5, h⟩ := okR_cons h
  obtain ⟨c6, r, rfl, h6, h⟩ := okR_cons h
  obtain ⟨c7, r, rfl, h7, h⟩ := okR_cons h
  obtain rfl := okR_nil h
  obtain ⟨v0, rfl, _⟩ := okC_int h0
  obtain ⟨v1, rfl, _⟩ := okC_int h1
  obtain ⟨v2, rfl, _⟩ := okC_int h2
  obtain ⟨v3, rfl⟩ := okC_bool h3
  obtain ⟨v4, rfl, _⟩ := okC_int h4
  obtain ⟨v5, rfl, _⟩ := okC_int h5
  obtain ⟨v6, rfl, _⟩ := okC_int h6
  obtain ⟨v7, rfl⟩ := okC_bool h7
  exact ⟨⟨v0, v1, v2, v3, v4, v5, v6, v7⟩, rfl⟩
theorem ws_typed {rows : List (List DV)} (h : ∀ r ∈ rows, okR [.int .i64, .int .i64, .int .i64, .bool, .int .i64, .int .i64, .int .i64, .bool] r) : ∃ l : List W, rows = l.map encW := by
  obtain ⟨l, h1, _⟩ := rows_typed encW (fun _ => True) fun r hr => by
    obtain ⟨p, hp⟩ := w_typed (h r hr)
    exact ⟨p, hp, trivial⟩
  exact ⟨l, h1⟩
theorem a_int {a : AV} (h : ArgOK cfg.P 3 a) : ∃ n, a = .d (.v (.int .i64 n)) ∧ (Lit.int .i64 n).wf = true := by
  obtain ⟨x, rfl, hx⟩ := arg_one h (by kernel_rfl : tkT cfg.P 9 3 = some [.int .i64]) (by kernel_rfl)
  obtain ⟨n, rfl, hn⟩ := okC_int hx
  exact ⟨n, rfl, hn⟩
theorem a_bool {a : AV} (h : ArgOK cfg.P 4 a) : ∃ n, a = .d (.v (.bool n)) := by
  obtain ⟨x, rfl, hx⟩ := arg_one h (by kernel_rfl : tkT cfg.P 9 4 = some [.bool]) (by kernel_rfl)
  obtain ⟨n, rfl⟩ := okC_bool hx
  exact ⟨n, rfl⟩
theorem a_w {a : AV} (h : ArgOK cfg.P 30 a) : ∃ p : W, a = .agg ((encW p).map .d) := by
  obtain ⟨xs, rfl, hxs⟩ := arg_struct h (by kernel_rfl : tkT cfg.P 9 30 = some [.int .i64, .int .i64, .int .i64, .bool, .int .i64, .int .i64, .int .i64, .bool]) (by kernel_rfl)
  obtain ⟨p, rfl⟩ := w_typed hxs
  exact ⟨p, rfl⟩
theorem turns_val (vs : List AV) (h : ArgsOK cfg.P [30, 30, 4] vs) : valω cfg 7 vs = some (.d (.v (.bool true))) := by
  obtain ⟨x0, r, rfl, h0, h⟩ := argsOK_cons h
  obtain ⟨x1, r, rfl, h1, h⟩ := argsOK_cons h
  obtain ⟨x2, r, rfl, h2, h⟩ := argsOK_cons h
  obtain rfl := argsOK_nil h
  obtain ⟨a, rfl⟩ := a_w h0
  obtain ⟨b, rfl⟩ := a_w h1
  obtain ⟨s, rfl⟩ := a_bool h2
  exact val_of_ret (turns_law a b s)
theorem many_val (vs : List AV) (h : ArgsOK cfg.P [3, 4] vs) : valω cfg 8 vs = some (.d (.v (.bool true))) := by
  obtain ⟨x0, r, rfl, h0, h⟩ := argsOK_cons h
  obtain ⟨x1, r, rfl, h1, h⟩ := argsOK_cons h
  obtain rfl := argsOK_nil h
  obtain ⟨n, rfl, _⟩ := a_int h0
  obtain ⟨s, rfl⟩ := a_bool h1
  exact val_of_ret (many_law n s)
def encP (p : P) : List DV := [.v (.int .i64 p.kind), .v (.int .i64 p.word), .lst 8 (p.q.map encW)]
theorem p_typed {xs : List DV} (h : okR [.int .i64, .int .i64, .lst [.int .i64, .int .i64, .int .i64, .bool, .int .i64, .int .i64, .int .i64, .bool]] xs) : ∃ p, xs = encP p := by
  obtain ⟨c0, r, rfl, h0, h⟩ := okR_cons h
  obtain ⟨c1, r, rfl, h1, h⟩ := okR_cons h
  obtain ⟨c2, r, rfl, h2, h⟩ := okR_cons h
  obtain rfl := okR_nil h
  obtain ⟨v0, rfl, _⟩ := okC_int h0
  obtain ⟨v1, rfl, _⟩ := okC_int h1
  obtain ⟨q2, rfl, k2⟩ := okC_lst h2
  obtain ⟨v2, rfl⟩ := ws_typed k2
  exact ⟨⟨v0, v1, v2⟩, rfl⟩
theorem a_p {a : AV} (h : ArgOK cfg.P 26 a) : ∃ p : P, a = .agg ((encP p).map .d) := by
  obtain ⟨xs, rfl, hxs⟩ := arg_struct h (by kernel_rfl : tkT cfg.P 9 26 = some [.int .i64, .int .i64, .lst [.int .i64, .int .i64, .int .i64, .bool, .int .i64, .int .i64, .int .i64, .bool]]) (by kernel_rfl)
  obtain ⟨p, rfl⟩ := p_typed hxs
  exact ⟨p, rfl⟩
theorem drops_val (vs : List AV) (h : ArgsOK cfg.P [26, 3] vs) : valω cfg 6 vs = some (.d (.v (.bool true))) := by
  obtain ⟨x0, r, rfl, h0, h⟩ := argsOK_cons h
  obtain ⟨x1, r, rfl, h1, h⟩ := argsOK_cons h
  obtain rfl := argsOK_nil h
  obtain ⟨p, rfl⟩ := a_p h0
  obtain ⟨n, rfl, _⟩ := a_int h1
  exact val_of_ret (drops_law p n)
end Port
end Go.AI
