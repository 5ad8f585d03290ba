/-
  Own work. The ghosts' laws: the arguments.
-/
import Derived.Test.YtjjchnnnchccgaaGhost6
namespace Go.AI
open Go
set_option linter.unusedVariables false
set_option linter.unusedSimpArgs false
namespace Ghost
theorem k_typed {xs : List DV} (h : okR [.int .i64, .int .i64] xs) : ∃ p, xs = encK p := by
  obtain ⟨c0, r, rfl, h0, h⟩ := okR_cons h
  obtain ⟨c1, r, rfl, h1, h⟩ := okR_cons h
  obtain rfl := okR_nil h
  obtain ⟨v0, rfl, _⟩ := okC_int h0
  obtain ⟨v1, rfl, _⟩ := okC_int h1
  exact ⟨⟨v0, v1⟩, rfl⟩
theorem ks_typed {rows : List (List DV)} (h : ∀ r ∈ rows, okR [.int .i64, .int .i64] r) : ∃ l : List K, rows = l.map encK := by
  obtain ⟨l, h1, _⟩ := rows_typed encK (fun _ => True) fun r hr => by
    obtain ⟨p, hp⟩ := k_typed (h r hr)
    exact ⟨p, hp, trivial⟩
  exact ⟨l, h1⟩
theorem a_k {a : AV} (h : ArgOK cfg.P 27 a) : ∃ p : K, a = .agg ((encK p).map .d) := by
  obtain ⟨xs, rfl, hxs⟩ := arg_struct h (by kernel_rfl : tkT cfg.P 9 27 = some [.int .i64, .int .i64]) (by kernel_rfl)
  obtain ⟨p, rfl⟩ := k_typed hxs
  exact ⟨p, rfl⟩
theorem b_typed {xs : List DV} (h : okR [.int .i64, .int .i64, .int .i64, .int .i64, .int .i64] xs) : ∃ p, xs = encB p := by
  obtain ⟨c0, r, rfl, h0, h⟩ := okR_cons h
  obtain ⟨c1, r, rfl, h1, h⟩ := okR_cons h
  obtain ⟨c2, r, rfl, h2, h⟩ := okR_cons h
  obtain ⟨c3, r, rfl, h3, h⟩ := okR_cons h
  obtain ⟨c4, r, rfl, h4, h⟩ := okR_cons h
  obtain rfl := okR_nil h
  obtain ⟨v0, rfl, _⟩ := okC_int h0
  obtain ⟨v1, rfl, _⟩ := okC_int h1
  obtain ⟨v2, rfl, _⟩ := okC_int h2
  obtain ⟨v3, rfl, _⟩ := okC_int h3
  obtain ⟨v4, rfl, _⟩ := okC_int h4
  exact ⟨⟨v0, ⟨v1, v2⟩, ⟨v3, v4⟩⟩, rfl⟩
theorem bs_typed {rows : List (List DV)} (h : ∀ r ∈ rows, okR [.int .i64, .int .i64, .int .i64, .int .i64, .int .i64] r) : ∃ l : List B, rows = l.map encB := by
  obtain ⟨l, h1, _⟩ := rows_typed encB (fun _ => True) fun r hr => by
    obtain ⟨p, hp⟩ := b_typed (h r hr)
    exact ⟨p, hp, trivial⟩
  exact ⟨l, h1⟩
theorem a_b {a : AV} (h : ArgOK cfg.P 29 a) : ∃ p : B, a = .agg ((encB p).map .d) := by
  obtain ⟨xs, rfl, hxs⟩ := arg_struct h (by kernel_rfl : tkT cfg.P 9 29 = some [.int .i64, .int .i64, .int .i64, .int .i64, .int .i64]) (by kernel_rfl)
  obtain ⟨p, rfl⟩ := b_typed hxs
  exact ⟨p, rfl⟩
theorem a_bs {a : AV} (h : ArgOK cfg.P 41 a) : ∃ l : List B, a = .d (.lst 5 (l.map encB)) := by
  obtain ⟨x, rfl, hx⟩ := arg_one h (by kernel_rfl : tkT cfg.P 9 41 = some [.lst [.int .i64, .int .i64, .int .i64, .int .i64, .int .i64]]) (by kernel_rfl)
  obtain ⟨rows, rfl, hrows⟩ := okC_lst hx
  obtain ⟨l, rfl⟩ := bs_typed hrows
  exact ⟨l, rfl⟩
theorem is_typed {rows : List (List DV)} (h : ∀ r ∈ rows, okR [.int .i64] r) : ∃ l : List Int, rows = l.map ei := by
  obtain ⟨l, h1, _⟩ := ints_typed h
  exact ⟨l, h1⟩
def encG (g : G) : List DV := [.lst 2 (g.keys.map encK), .lst 1 (g.ids.map ei), .lst 1 (g.from_.map ei)]
theorem g_typed {xs : List DV} (h : okR [.lst [.int .i64, .int .i64], .lst [.int .i64], .lst [.int .i64]] xs) : ∃ p, xs = encG p := by
  obtain ⟨c0, r, rfl, h0, h⟩ := okR_cons h
  obtain ⟨c1, r, rfl, h1, h⟩ := okR_cons h
  obtain ⟨c2, r, rfl, h2, h⟩ := okR_cons h
  obtain rfl := okR_nil h
  obtain ⟨q0, rfl, k0⟩ := okC_lst h0
  obtain ⟨v0, rfl⟩ := ks_typed k0
  obtain ⟨q1, rfl, k1⟩ := okC_lst h1
  obtain ⟨v1, rfl⟩ := is_typed k1
  obtain ⟨q2, rfl, k2⟩ := okC_lst h2
  obtain ⟨v2, rfl⟩ := is_typed k2
  exact ⟨⟨v0, v1, v2⟩, rfl⟩
theorem a_g {a : AV} (h : ArgOK cfg.P 25 a) : ∃ p : G, a = .agg ((encG p).map .d) := by
  obtain ⟨xs, rfl, hxs⟩ := arg_struct h (by kernel_rfl : tkT cfg.P 9 25 = some [.lst [.int .i64, .int .i64], .lst [.int .i64], .lst [.int .i64]]) (by kernel_rfl)
  obtain ⟨p, rfl⟩ := g_typed hxs
  exact ⟨p, rfl⟩
theorem steps_val (vs : List AV) (h : ArgsOK cfg.P [25, 25, 29] vs) : valω cfg 3 vs = some (.d (.v (.bool true))) := by
  obtain ⟨x0, r, rfl, h0, h⟩ := argsOK_cons h
  obtain ⟨x1, r, rfl, h1, h⟩ := argsOK_cons h
  obtain ⟨x2, r, rfl, h2, h⟩ := argsOK_cons h
  obtain rfl := argsOK_nil h
  obtain ⟨x, rfl⟩ := a_g h0
  obtain ⟨y, rfl⟩ := a_g h1
  obtain ⟨b, rfl⟩ := a_b h2
  exact val_of_ret (steps_law x y b)
theorem runs_val (vs : List AV) (h : ArgsOK cfg.P [41] vs) : valω cfg 4 vs = some (.d (.v (.bool true))) := by
  obtain ⟨x0, r, rfl, h0, h⟩ := argsOK_cons h
  obtain rfl := argsOK_nil h
  obtain ⟨l, rfl⟩ := a_bs h0
  exact val_of_ret (runs_law l)
theorem parts_val (vs : List AV) (h : ArgsOK cfg.P [41, 41] vs) : valω cfg 7 vs = some (.d (.v (.bool true))) := by
  obtain ⟨x0, r, rfl, h0, h⟩ := argsOK_cons h
  obtain ⟨x1, r, rfl, h1, h⟩ := argsOK_cons h
  obtain rfl := argsOK_nil h
  obtain ⟨l, rfl⟩ := a_bs h0
  obtain ⟨m, rfl⟩ := a_bs h1
  exact val_of_ret (parts_law l m)
theorem order_val (vs : List AV) (h : ArgsOK cfg.P [41, 27, 27, 27] vs) : valω cfg 6 vs = some (.d (.v (.bool true))) := by
  obtain ⟨x0, r, rfl, h0, h⟩ := argsOK_cons h
  obtain ⟨x1, r, rfl, h1, h⟩ := argsOK_cons h
  obtain ⟨x2, r, rfl, h2, h⟩ := argsOK_cons h
  obtain ⟨x3, r, rfl, h3, h⟩ := argsOK_cons h
  obtain rfl := argsOK_nil h
  obtain ⟨l, rfl⟩ := a_bs h0
  obtain ⟨a, rfl⟩ := a_k h1
  obtain ⟨b, rfl⟩ := a_k h2
  obtain ⟨c, rfl⟩ := a_k h3
  exact val_of_ret (order_law l a b c)
theorem stays_val (vs : List AV) (h : ArgsOK cfg.P [41, 27, 27, 41] vs) : valω cfg 5 vs = some (.d (.v (.bool true))) := by
  obtain ⟨x0, r, rfl, h0, h⟩ := argsOK_cons h
  obtain ⟨x1, r, rfl, h1, h⟩ := argsOK_cons h
  obtain ⟨x2, r, rfl, h2, h⟩ := argsOK_cons h
  obtain ⟨x3, r, rfl, h3, h⟩ := argsOK_cons h
  obtain rfl := argsOK_nil h
  obtain ⟨l, rfl⟩ := a_bs h0
  obtain ⟨a, rfl⟩ := a_k h1
  obtain ⟨b, rfl⟩ := a_k h2
  obtain ⟨m, rfl⟩ := a_bs h3
  exact val_of_ret (stays_law l a b m)
end Ghost
end Go.AI
