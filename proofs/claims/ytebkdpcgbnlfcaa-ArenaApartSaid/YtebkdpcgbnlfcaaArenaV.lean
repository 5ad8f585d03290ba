/-
  Own work. The arenas' laws: the arguments.
-/
import Derived.Test.YtebkdpcgbnlfcaaArena5
namespace Go.AI
open Go
set_option linter.unusedVariables false
set_option linter.unusedSimpArgs false
namespace Arena
theorem t_typed {xs : List DV} (h : okR [.int .i64, .int .i64, .int .i64, .int .i64, .int .i64, .int .i64, .int .i64, .int .i64] xs) : ∃ p, xs = encT p := by
  obtain ⟨c0, r, rfl, h0, h⟩ := okR_cons h
  obtain ⟨c1, r, rfl, h1, h⟩ := okR_cons h
  obtain ⟨c2, r, rfl, h2, h⟩ := okR_cons h
  obtain ⟨c3, r, rfl, h3, h⟩ := okR_cons h
  obtain ⟨c4, r, rfl, h4, h⟩ := okR_cons h
  obtain ⟨c5, r, rfl, h5, h⟩ := okR_cons h
  obtain ⟨c6, r, rfl, h6, h⟩ := okR_cons h
  obtain ⟨c7, r, rfl, h7, h⟩ := okR_cons h
  obtain rfl := okR_nil h
  obtain ⟨v0, rfl, _⟩ := okC_int h0
  obtain ⟨v1, rfl, _⟩ := okC_int h1
  obtain ⟨v2, rfl, _⟩ := okC_int h2
  obtain ⟨v3, rfl, _⟩ := okC_int h3
  obtain ⟨v4, rfl, _⟩ := okC_int h4
  obtain ⟨v5, rfl, _⟩ := okC_int h5
  obtain ⟨v6, rfl, _⟩ := okC_int h6
  obtain ⟨v7, rfl, _⟩ := okC_int h7
  exact ⟨⟨v0, v1, v2, v3, v4, v5, v6, v7⟩, rfl⟩
theorem ts_typed {rows : List (List DV)} (h : ∀ r ∈ rows, okR [.int .i64, .int .i64, .int .i64, .int .i64, .int .i64, .int .i64, .int .i64, .int .i64] r) : ∃ l : List Th, rows = l.map encT := by
  obtain ⟨l, h1, _⟩ := rows_typed encT (fun _ => True) fun r hr => by
    obtain ⟨p, hp⟩ := t_typed (h r hr)
    exact ⟨p, hp, trivial⟩
  exact ⟨l, h1⟩
theorem a_t {a : AV} (h : ArgOK cfg.P 27 a) : ∃ p : Th, a = .agg ((encT p).map .d) := by
  obtain ⟨xs, rfl, hxs⟩ := arg_struct h (by kernel_rfl : tkT cfg.P 9 27 = some [.int .i64, .int .i64, .int .i64, .int .i64, .int .i64, .int .i64, .int .i64, .int .i64]) (by kernel_rfl)
  obtain ⟨p, rfl⟩ := t_typed hxs
  exact ⟨p, rfl⟩
theorem is_typed {rows : List (List DV)} (h : ∀ r ∈ rows, okR [.int .i64] r) : ∃ l : List Int, rows = l.map ei := by
  obtain ⟨l, h1, _⟩ := ints_typed h
  exact ⟨l, h1⟩
theorem encL_is (l : List Int) : [DV.lst 1 (l.map ei)] = encL l := rfl
theorem l_typed {xs : List DV} (h : okR [.lst [.int .i64]] xs) : ∃ p, xs = encL p := by
  obtain ⟨c0, r, rfl, h0, h⟩ := okR_cons h
  obtain rfl := okR_nil h
  obtain ⟨q0, rfl, k0⟩ := okC_lst h0
  obtain ⟨v0, rfl⟩ := is_typed k0
  exact ⟨v0, rfl⟩
theorem ls_typed {rows : List (List DV)} (h : ∀ r ∈ rows, okR [.lst [.int .i64]] r) : ∃ l : List (List Int), rows = l.map encL := by
  obtain ⟨l, h1, _⟩ := rows_typed encL (fun _ => True) fun r hr => by
    obtain ⟨p, hp⟩ := l_typed (h r hr)
    exact ⟨p, hp, trivial⟩
  exact ⟨l, h1⟩
def encA (a : A) : List DV := [.lst 8 (a.things.map encT), .lst 1 (a.free.map encL)]
theorem ar_typed {xs : List DV} (h : okR [.lst [.int .i64, .int .i64, .int .i64, .int .i64, .int .i64, .int .i64, .int .i64, .int .i64], .lst [.lst [.int .i64]]] xs) : ∃ p, xs = encA p := by
  obtain ⟨c0, r, rfl, h0, h⟩ := okR_cons h
  obtain ⟨c1, r, rfl, h1, h⟩ := okR_cons h
  obtain rfl := okR_nil h
  obtain ⟨q0, rfl, k0⟩ := okC_lst h0
  obtain ⟨v0, rfl⟩ := ts_typed k0
  obtain ⟨q1, rfl, k1⟩ := okC_lst h1
  obtain ⟨v1, rfl⟩ := ls_typed k1
  exact ⟨⟨v0, v1⟩, rfl⟩
theorem a_ar {a : AV} (h : ArgOK cfg.P 25 a) : ∃ p : A, a = .agg ((encA p).map .d) := by
  obtain ⟨xs, rfl, hxs⟩ := arg_struct h (by kernel_rfl : tkT cfg.P 9 25 = some [.lst [.int .i64, .int .i64, .int .i64, .int .i64, .int .i64, .int .i64, .int .i64, .int .i64], .lst [.lst [.int .i64]]]) (by kernel_rfl)
  obtain ⟨p, rfl⟩ := ar_typed hxs
  exact ⟨p, rfl⟩
theorem act_typed {xs : List DV} (h : okR [.int .i64, .int .i64, .int .i64, .int .i64, .int .i64, .int .i64, .int .i64, .int .i64, .int .i64, .int .i64, .int .i64, .int .i64] xs) : ∃ p, xs = encAct p := by
  obtain ⟨c0, r, rfl, h0, h⟩ := okR_cons h
  obtain ⟨c1, r, rfl, h1, h⟩ := okR_cons h
  obtain ⟨c2, r, rfl, h2, h⟩ := okR_cons h
  obtain ⟨c3, r, rfl, h3, h⟩ := okR_cons h
  obtain ⟨c4, r, rfl, h4, h⟩ := okR_cons h
  obtain ⟨c5, r, rfl, h5, h⟩ := okR_cons h
  obtain ⟨c6, r, rfl, h6, h⟩ := okR_cons h
  obtain ⟨c7, r, rfl, h7, h⟩ := okR_cons h
  obtain ⟨c8, r, rfl, h8, h⟩ := okR_cons h
  obtain ⟨c9, r, rfl, h9, h⟩ := okR_cons h
  obtain ⟨c10, r, rfl, h10, h⟩ := okR_cons h
  obtain ⟨c11, r, rfl, h11, h⟩ := okR_cons h
  obtain rfl := okR_nil h
  obtain ⟨v0, rfl, _⟩ := okC_int h0
  obtain ⟨v1, rfl, _⟩ := okC_int h1
  obtain ⟨v2, rfl, _⟩ := okC_int h2
  obtain ⟨v3, rfl, _⟩ := okC_int h3
  obtain ⟨v4, rfl, _⟩ := okC_int h4
  obtain ⟨v5, rfl, _⟩ := okC_int h5
  obtain ⟨v6, rfl, _⟩ := okC_int h6
  obtain ⟨v7, rfl, _⟩ := okC_int h7
  obtain ⟨v8, rfl, _⟩ := okC_int h8
  obtain ⟨v9, rfl, _⟩ := okC_int h9
  obtain ⟨v10, rfl, _⟩ := okC_int h10
  obtain ⟨v11, rfl, _⟩ := okC_int h11
  exact ⟨⟨v0, v1, v2, v3, ⟨v4, v5, v6, v7, v8, v9, v10, v11⟩⟩, rfl⟩
theorem acts_typed {rows : List (List DV)} (h : ∀ r ∈ rows, okR [.int .i64, .int .i64, .int .i64, .int .i64, .int .i64, .int .i64, .int .i64, .int .i64, .int .i64, .int .i64, .int .i64, .int .i64] r) : ∃ l : List Act, rows = l.map encAct := by
  obtain ⟨l, h1, _⟩ := rows_typed encAct (fun _ => True) fun r hr => by
    obtain ⟨p, hp⟩ := act_typed (h r hr)
    exact ⟨p, hp, trivial⟩
  exact ⟨l, h1⟩
theorem a_act {a : AV} (h : ArgOK cfg.P 29 a) : ∃ p : Act, a = .agg ((encAct p).map .d) := by
  obtain ⟨xs, rfl, hxs⟩ := arg_struct h (by kernel_rfl : tkT cfg.P 9 29 = some [.int .i64, .int .i64, .int .i64, .int .i64, .int .i64, .int .i64, .int .i64, .int .i64, .int .i64, .int .i64, .int .i64, .int .i64]) (by kernel_rfl)
  obtain ⟨p, rfl⟩ := act_typed hxs
  exact ⟨p, rfl⟩
theorem a_acts {a : AV} (h : ArgOK cfg.P 37 a) : ∃ l : List Act, a = .d (.lst 12 (l.map encAct)) := by
  obtain ⟨x, rfl, hx⟩ := arg_one h (by kernel_rfl : tkT cfg.P 9 37 = some [.lst [.int .i64, .int .i64, .int .i64, .int .i64, .int .i64, .int .i64, .int .i64, .int .i64, .int .i64, .int .i64, .int .i64, .int .i64]]) (by kernel_rfl)
  obtain ⟨rows, rfl, hrows⟩ := okC_lst hx
  obtain ⟨l, rfl⟩ := acts_typed hrows
  exact ⟨l, rfl⟩
theorem steps_val (vs : List AV) (h : ArgsOK cfg.P [25, 29] vs) : valω cfg 3 vs = some (.d (.v (.bool true))) := by
  obtain ⟨x0, r, rfl, h0, h⟩ := argsOK_cons h
  obtain ⟨x1, r, rfl, h1, h⟩ := argsOK_cons h
  obtain rfl := argsOK_nil h
  obtain ⟨a, rfl⟩ := a_ar h0
  obtain ⟨x, rfl⟩ := a_act h1
  exact val_of_ret (steps_law a x)
end Arena
end Go.AI
