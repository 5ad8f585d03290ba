/-
  Own work. The ghosts' law of the tree: the arguments.
-/
import Derived.Test.YtjjchnnnchccgaaGhostA
namespace Go.AI
open Go
set_option linter.unusedVariables false
set_option linter.unusedSimpArgs false
namespace Trees
open Ghost
theorem k_typed {xs : List DV} (h : okR [.int .i64, .int .i64] xs) : ∃ p, xs = encK p := by
  obtain ⟨c0, r, rfl, h0, h⟩ := okR_cons h
  obtain ⟨c1, r, rfl, h1, h⟩ := okR_cons h
  obtain rfl := okR_nil h
  obtain ⟨v0, rfl, _⟩ := okC_int h0
  obtain ⟨v1, rfl, _⟩ := okC_int h1
  exact ⟨⟨v0, v1⟩, rfl⟩
theorem a_k {a : AV} (h : ArgOK cfg.P 27 a) : ∃ p : K, a = .agg ((encK p).map .d) := by
  obtain ⟨xs, rfl, hxs⟩ := arg_struct h (by kernel_rfl : tkT cfg.P 9 27 = some [.int .i64, .int .i64]) (by kernel_rfl)
  obtain ⟨p, rfl⟩ := k_typed hxs
  exact ⟨p, rfl⟩
theorem b_typed {xs : List DV} (h : okR [.int .i64, .int .i64, .int .i64, .int .i64, .int .i64] xs) : ∃ p, xs = encB p := by
  obtain ⟨c0, r, rfl, h0, h⟩ := okR_cons h
  obtain ⟨c1, r, rfl, h1, h⟩ := okR_cons h
  obtain ⟨c2, r, rfl, h2, h⟩ := okR_cons h
  obtain ⟨c3, r, rfl, h3, h⟩ := okR_cons h
  obtain ⟨c4, r, rfl, h4, h⟩ := okR_cons h
  obtain rfl := okR_nil h
  obtain ⟨v0, rfl, _⟩ := okC_int h0
  obtain ⟨v1, rfl, _⟩ := okC_int h1
  obtain ⟨v2, rfl, _⟩ := okC_int h2
  obtain ⟨v3, rfl, _⟩ := okC_int h3
  obtain ⟨v4, rfl, _⟩ := okC_int h4
  exact ⟨⟨v0, ⟨v1, v2⟩, ⟨v3, v4⟩⟩, rfl⟩
theorem bs_typed {rows : List (List DV)} (h : ∀ r ∈ rows, okR [.int .i64, .int .i64, .int .i64, .int .i64, .int .i64] r) : ∃ l : List B, rows = l.map encB := by
  obtain ⟨l, h1, _⟩ := rows_typed encB (fun _ => True) fun r hr => by
    obtain ⟨p, hp⟩ := b_typed (h r hr)
    exact ⟨p, hp, trivial⟩
  exact ⟨l, h1⟩
theorem a_bs {a : AV} (h : ArgOK cfg.P 41 a) : ∃ l : List B, a = .d (.lst 5 (l.map encB)) := by
  obtain ⟨x, rfl, hx⟩ := arg_one h (by kernel_rfl : tkT cfg.P 9 41 = some [.lst [.int .i64, .int .i64, .int .i64, .int .i64, .int .i64]]) (by kernel_rfl)
  obtain ⟨rows, rfl, hrows⟩ := okC_lst hx
  obtain ⟨l, rfl⟩ := bs_typed hrows
  exact ⟨l, rfl⟩
theorem tree_val (vs : List AV) (h : ArgsOK cfg.P [41, 27, 27] vs) : valω cfg 16 vs = some (.d (.v (.bool true))) := by
  obtain ⟨x0, r, rfl, h0, h⟩ := argsOK_cons h
  obtain ⟨x1, r, rfl, h1, h⟩ := argsOK_cons h
  obtain ⟨x2, r, rfl, h2, h⟩ := argsOK_cons h
  obtain rfl := argsOK_nil h
  obtain ⟨l, rfl⟩ := a_bs h0
  obtain ⟨a, rfl⟩ := a_k h1
  obtain ⟨c, rfl⟩ := a_k h2
  exact val_of_ret (tree_law l a c)
end Trees
end Go.AI
