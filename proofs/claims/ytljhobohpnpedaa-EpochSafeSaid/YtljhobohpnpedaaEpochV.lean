/-
  Own work. The epochs' laws: the arguments.
-/
import Derived.Test.YtljhobohpnpedaaEpoch5
namespace Go.AI
open Go
set_option linter.unusedVariables false
set_option linter.unusedSimpArgs false
namespace Epoch
theorem w_typed {xs : List DV} (h : okR [.int .i64, .int .i64] xs) : ∃ p, xs = encW p := by
  obtain ⟨c0, r, rfl, h0, h⟩ := okR_cons h
  obtain ⟨c1, r, rfl, h1, h⟩ := okR_cons h
  obtain rfl := okR_nil h
  obtain ⟨v0, rfl, _⟩ := okC_int h0
  obtain ⟨v1, rfl, _⟩ := okC_int h1
  exact ⟨⟨v0, v1⟩, rfl⟩
theorem ws_typed {rows : List (List DV)} (h : ∀ r ∈ rows, okR [.int .i64, .int .i64] r) : ∃ l : List Ws, rows = l.map encW := by
  obtain ⟨l, h1, _⟩ := rows_typed encW (fun _ => True) fun r hr => by
    obtain ⟨p, hp⟩ := w_typed (h r hr)
    exact ⟨p, hp, trivial⟩
  exact ⟨l, h1⟩
theorem a_int {a : AV} (h : ArgOK cfg.P 3 a) : ∃ n, a = .d (.v (.int .i64 n)) ∧ (Lit.int .i64 n).wf = true := by
  obtain ⟨x, rfl, hx⟩ := arg_one h (by kernel_rfl : tkT cfg.P 9 3 = some [.int .i64]) (by kernel_rfl)
  obtain ⟨n, rfl, hn⟩ := okC_int hx
  exact ⟨n, rfl, hn⟩
theorem l_typed {xs : List DV} (h : okR [.lst [.int .i64, .int .i64]] xs) : ∃ l : List Ws, xs = encL l := by
  obtain ⟨c0, r, rfl, h0, h⟩ := okR_cons h
  obtain rfl := okR_nil h
  obtain ⟨q0, rfl, k0⟩ := okC_lst h0
  obtain ⟨v0, rfl⟩ := ws_typed k0
  exact ⟨v0, rfl⟩
theorem ls_typed {rows : List (List DV)} (h : ∀ r ∈ rows, okR [.lst [.int .i64, .int .i64]] r) : ∃ l : List (List Ws), rows = l.map encL := by
  obtain ⟨l, h1, _⟩ := rows_typed encL (fun _ => True) fun r hr => by
    obtain ⟨p, hp⟩ := l_typed (h r hr)
    exact ⟨p, hp, trivial⟩
  exact ⟨l, h1⟩
def encE (e : E) : List DV := [.v (.int .i64 e.now), .lst 1 (e.pins.map ei), .lst 1 (e.limbo.map encL)]
theorem a_e {a : AV} (h : ArgOK cfg.P 25 a) : ∃ e : E, a = .agg ((encE e).map .d) ∧ InR e := by
  obtain ⟨xs, rfl, hxs⟩ := arg_struct h (by kernel_rfl : tkT cfg.P 9 25 = some [.int .i64, .lst [.int .i64], .lst [.lst [.int .i64, .int .i64]]]) (by kernel_rfl)
  obtain ⟨c0, r, rfl, h0, h⟩ := okR_cons hxs
  obtain ⟨c1, r, rfl, h1, h⟩ := okR_cons h
  obtain ⟨c2, r, rfl, h2, h⟩ := okR_cons h
  obtain rfl := okR_nil h
  obtain ⟨v0, rfl, _⟩ := okC_int h0
  obtain ⟨q1, rfl, k1⟩ := okC_lst h1
  obtain ⟨v1, rfl, w1⟩ := ints_typed k1
  obtain ⟨q2, rfl, k2⟩ := okC_lst h2
  obtain ⟨v2, rfl⟩ := ls_typed k2
  exact ⟨⟨v0, v1, v2⟩, rfl, fun p hp => i64_range (w1 p hp)⟩
theorem act_typed {xs : List DV} (h : okR [.int .i64, .int .i64, .int .i64] xs) : ∃ p, xs = encA p := by
  obtain ⟨c0, r, rfl, h0, h⟩ := okR_cons h
  obtain ⟨c1, r, rfl, h1, h⟩ := okR_cons h
  obtain ⟨c2, r, rfl, h2, h⟩ := okR_cons h
  obtain rfl := okR_nil h
  obtain ⟨v0, rfl, _⟩ := okC_int h0
  obtain ⟨v1, rfl, _⟩ := okC_int h1
  obtain ⟨v2, rfl, _⟩ := okC_int h2
  exact ⟨⟨v0, v1, v2⟩, rfl⟩
theorem acts_typed {rows : List (List DV)} (h : ∀ r ∈ rows, okR [.int .i64, .int .i64, .int .i64] r) : ∃ l : List A, rows = l.map encA := by
  obtain ⟨l, h1, _⟩ := rows_typed encA (fun _ => True) fun r hr => by
    obtain ⟨p, hp⟩ := act_typed (h r hr)
    exact ⟨p, hp, trivial⟩
  exact ⟨l, h1⟩
theorem a_act {a : AV} (h : ArgOK cfg.P 27 a) : ∃ p : A, a = .agg ((encA p).map .d) := by
  obtain ⟨xs, rfl, hxs⟩ := arg_struct h (by kernel_rfl : tkT cfg.P 9 27 = some [.int .i64, .int .i64, .int .i64]) (by kernel_rfl)
  obtain ⟨p, rfl⟩ := act_typed hxs
  exact ⟨p, rfl⟩
theorem a_acts {a : AV} (h : ArgOK cfg.P 43 a) : ∃ l : List A, a = .d (.lst 3 (l.map encA)) := by
  obtain ⟨x, rfl, hx⟩ := arg_one h (by kernel_rfl : tkT cfg.P 9 43 = some [.lst [.int .i64, .int .i64, .int .i64]]) (by kernel_rfl)
  obtain ⟨rows, rfl, hrows⟩ := okC_lst hx
  obtain ⟨l, rfl⟩ := acts_typed hrows
  exact ⟨l, rfl⟩
theorem steps_val (vs : List AV) (h : ArgsOK cfg.P [25, 25, 27, 3] vs) : valω cfg 3 vs = some (.d (.v (.bool true))) := by
  obtain ⟨x0, r, rfl, h0, h⟩ := argsOK_cons h
  obtain ⟨x1, r, rfl, h1, h⟩ := argsOK_cons h
  obtain ⟨x2, r, rfl, h2, h⟩ := argsOK_cons h
  obtain ⟨x3, r, rfl, h3, h⟩ := argsOK_cons h
  obtain rfl := argsOK_nil h
  obtain ⟨e, rfl, he⟩ := a_e h0
  obtain ⟨f, rfl, _⟩ := a_e h1
  obtain ⟨a, rfl⟩ := a_act h2
  obtain ⟨n, rfl, _⟩ := a_int h3
  exact val_of_ret (steps_law e f a n he)
theorem runs_val (vs : List AV) (h : ArgsOK cfg.P [3, 43] vs) : valω cfg 4 vs = some (.d (.v (.bool true))) := by
  obtain ⟨x0, r, rfl, h0, h⟩ := argsOK_cons h
  obtain ⟨x1, r, rfl, h1, h⟩ := argsOK_cons h
  obtain rfl := argsOK_nil h
  obtain ⟨n, rfl, _⟩ := a_int h0
  obtain ⟨l, rfl⟩ := a_acts h1
  exact val_of_ret (runs_law n l)
theorem now_val (vs : List AV) (h : ArgsOK cfg.P [3, 43] vs) : valω cfg 7 vs = some (.d (.v (.bool true))) := by
  obtain ⟨x0, r, rfl, h0, h⟩ := argsOK_cons h
  obtain ⟨x1, r, rfl, h1, h⟩ := argsOK_cons h
  obtain rfl := argsOK_nil h
  obtain ⟨n, rfl, _⟩ := a_int h0
  obtain ⟨l, rfl⟩ := a_acts h1
  exact val_of_ret (now_law n l)
theorem full_val (vs : List AV) (h : ArgsOK cfg.P [3, 3, 3] vs) : valω cfg 8 vs = some (.d (.v (.bool true))) := by
  obtain ⟨x0, r, rfl, h0, h⟩ := argsOK_cons h
  obtain ⟨x1, r, rfl, h1, h⟩ := argsOK_cons h
  obtain ⟨x2, r, rfl, h2, h⟩ := argsOK_cons h
  obtain rfl := argsOK_nil h
  obtain ⟨n, rfl, _⟩ := a_int h0
  obtain ⟨c, rfl, _⟩ := a_int h1
  obtain ⟨o, rfl, _⟩ := a_int h2
  exact val_of_ret (full_law n c o)
theorem one_val (vs : List AV) (h : ArgsOK cfg.P [3, 3] vs) : valω cfg 9 vs = some (.d (.v (.bool true))) := by
  obtain ⟨x0, r, rfl, h0, h⟩ := argsOK_cons h
  obtain ⟨x1, r, rfl, h1, h⟩ := argsOK_cons h
  obtain rfl := argsOK_nil h
  obtain ⟨n, rfl, _⟩ := a_int h0
  obtain ⟨c, rfl, _⟩ := a_int h1
  exact val_of_ret (one_law n c)
end Epoch
end Go.AI
