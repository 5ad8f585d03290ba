/-
  Own work. The histories' laws: the arguments.
-/
import Derived.Test.YtfnnhfghggfccaaHist9
namespace Go.AI
open Go
set_option linter.unusedVariables false
set_option linter.unusedSimpArgs false
namespace Hist
theorem span_typed {xs : List DV} (h : okR [.int .i64, .int .i64, .int .u64, .int .u64, .int .i64, .int .i64, .int .i64, .int .i64, .int .i64, .int .i64, .int .i64, .int .i64, .int .i64, .int .i64, .bool] xs) : ∃ p, xs = encSpan p := by
  obtain ⟨c0, r, rfl, h0, h⟩ := okR_cons h
  obtain ⟨c1, r, rfl, h1, h⟩ := okR_cons h
  obtain ⟨c2, r, rfl, h2, h⟩ := okR_cons h
  obtain ⟨c3, r, rfl, h3, h⟩ := okR_cons h
  obtain ⟨c4, r, rfl, h4, h⟩ := okR_cons h
  obtain ⟨c5, r, rfl, h5, h⟩ := okR_cons h
  obtain ⟨c6, r, rfl, h6, h⟩ := okR_cons h
  obtain ⟨c7, r, rfl, h7, h⟩ := okR_cons h
  obtain ⟨c8, r, rfl, h8, h⟩ := okR_cons h
  obtain ⟨c9, r, rfl, h9, h⟩ := okR_cons h
  obtain ⟨c10, r, rfl, h10, h⟩ := okR_cons h
  obtain ⟨c11, r, rfl, h11, h⟩ := okR_cons h
  obtain ⟨c12, r, rfl, h12, h⟩ := okR_cons h
  obtain ⟨c13, r, rfl, h13, h⟩ := okR_cons h
  obtain ⟨c14, r, rfl, h14, h⟩ := okR_cons h
  obtain rfl := okR_nil h
  obtain ⟨v0, rfl, _⟩ := okC_int h0
  obtain ⟨v1, rfl, _⟩ := okC_int h1
  obtain ⟨v2, rfl, _⟩ := okC_int h2
  obtain ⟨v3, rfl, _⟩ := okC_int h3
  obtain ⟨v4, rfl, _⟩ := okC_int h4
  obtain ⟨v5, rfl, _⟩ := okC_int h5
  obtain ⟨v6, rfl, _⟩ := okC_int h6
  obtain ⟨v7, rfl, _⟩ := okC_int h7
  obtain ⟨v8, rfl, _⟩ := okC_int h8
  obtain ⟨v9, rfl, _⟩ := okC_int h9
  obtain ⟨v10, rfl, _⟩ := okC_int h10
  obtain ⟨v11, rfl, _⟩ := okC_int h11
  obtain ⟨v12, rfl, _⟩ := okC_int h12
  obtain ⟨v13, rfl, _⟩ := okC_int h13
  obtain ⟨v14, rfl⟩ := okC_bool h14
  exact ⟨⟨v0, ⟨v1, v2, v3, v4, v5, v6, v7, v8⟩, v9, v10, ⟨v11, v12, v13, v14⟩⟩, rfl⟩
theorem spans_typed {rows : List (List DV)} (h : ∀ r ∈ rows, okR [.int .i64, .int .i64, .int .u64, .int .u64, .int .i64, .int .i64, .int .i64, .int .i64, .int .i64, .int .i64, .int .i64, .int .i64, .int .i64, .int .i64, .bool] r) : ∃ l : List Span, rows = l.map encSpan := by
  obtain ⟨l, h1, _⟩ := rows_typed encSpan (fun _ => True) fun r hr => by
    obtain ⟨p, hp⟩ := span_typed (h r hr)
    exact ⟨p, hp, trivial⟩
  exact ⟨l, h1⟩
theorem don_typed {xs : List DV} (h : okR [.int .i64, .int .i64, .int .i64, .int .i64, .bool] xs) : ∃ p, xs = encDon p := by
  obtain ⟨c0, r, rfl, h0, h⟩ := okR_cons h
  obtain ⟨c1, r, rfl, h1, h⟩ := okR_cons h
  obtain ⟨c2, r, rfl, h2, h⟩ := okR_cons h
  obtain ⟨c3, r, rfl, h3, h⟩ := okR_cons h
  obtain ⟨c4, r, rfl, h4, h⟩ := okR_cons h
  obtain rfl := okR_nil h
  obtain ⟨v0, rfl, _⟩ := okC_int h0
  obtain ⟨v1, rfl, _⟩ := okC_int h1
  obtain ⟨v2, rfl, _⟩ := okC_int h2
  obtain ⟨v3, rfl, _⟩ := okC_int h3
  obtain ⟨v4, rfl⟩ := okC_bool h4
  exact ⟨⟨v0, ⟨v1, v2, v3, v4⟩⟩, rfl⟩
theorem dons_typed {rows : List (List DV)} (h : ∀ r ∈ rows, okR [.int .i64, .int .i64, .int .i64, .int .i64, .bool] r) : ∃ l : List Don, rows = l.map encDon := by
  obtain ⟨l, h1, _⟩ := rows_typed encDon (fun _ => True) fun r hr => by
    obtain ⟨p, hp⟩ := don_typed (h r hr)
    exact ⟨p, hp, trivial⟩
  exact ⟨l, h1⟩
theorem ev_typed {xs : List DV} (h : okR [.int .i64, .int .i64, .int .i64, .int .u64, .int .u64, .int .i64, .int .i64, .int .i64, .int .i64, .int .i64, .int .i64, .lst [.int .i64, .int .i64, .int .i64, .int .i64, .bool]] xs) : ∃ p, xs = encEv p := by
  obtain ⟨c0, r, rfl, h0, h⟩ := okR_cons h
  obtain ⟨c1, r, rfl, h1, h⟩ := okR_cons h
  obtain ⟨c2, r, rfl, h2, h⟩ := okR_cons h
  obtain ⟨c3, r, rfl, h3, h⟩ := okR_cons h
  obtain ⟨c4, r, rfl, h4, h⟩ := okR_cons h
  obtain ⟨c5, r, rfl, h5, h⟩ := okR_cons h
  obtain ⟨c6, r, rfl, h6, h⟩ := okR_cons h
  obtain ⟨c7, r, rfl, h7, h⟩ := okR_cons h
  obtain ⟨c8, r, rfl, h8, h⟩ := okR_cons h
  obtain ⟨c9, r, rfl, h9, h⟩ := okR_cons h
  obtain ⟨c10, r, rfl, h10, h⟩ := okR_cons h
  obtain ⟨c11, r, rfl, h11, h⟩ := okR_cons h
  obtain rfl := okR_nil h
  obtain ⟨v0, rfl, _⟩ := okC_int h0
  obtain ⟨v1, rfl, _⟩ := okC_int h1
  obtain ⟨v2, rfl, _⟩ := okC_int h2
  obtain ⟨v3, rfl, _⟩ := okC_int h3
  obtain ⟨v4, rfl, _⟩ := okC_int h4
  obtain ⟨v5, rfl, _⟩ := okC_int h5
  obtain ⟨v6, rfl, _⟩ := okC_int h6
  obtain ⟨v7, rfl, _⟩ := okC_int h7
  obtain ⟨v8, rfl, _⟩ := okC_int h8
  obtain ⟨v9, rfl, _⟩ := okC_int h9
  obtain ⟨v10, rfl, _⟩ := okC_int h10
  obtain ⟨q11, rfl, k11⟩ := okC_lst h11
  obtain ⟨v11, rfl⟩ := dons_typed k11
  exact ⟨⟨v0, v1, ⟨v2, v3, v4, v5, v6, v7, v8, v9⟩, v10, v11⟩, rfl⟩
theorem evs_typed {rows : List (List DV)} (h : ∀ r ∈ rows, okR [.int .i64, .int .i64, .int .i64, .int .u64, .int .u64, .int .i64, .int .i64, .int .i64, .int .i64, .int .i64, .int .i64, .lst [.int .i64, .int .i64, .int .i64, .int .i64, .bool]] r) : ∃ l : List Event, rows = l.map encEv := by
  obtain ⟨l, h1, _⟩ := rows_typed encEv (fun _ => True) fun r hr => by
    obtain ⟨p, hp⟩ := ev_typed (h r hr)
    exact ⟨p, hp, trivial⟩
  exact ⟨l, h1⟩
theorem act_typed {xs : List DV} (h : okR [.int .i64, .int .i64, .int .i64, .int .i64, .int .u64, .int .u64, .int .i64, .int .i64, .int .i64, .int .i64, .int .i64, .int .i64, .int .i64, .int .i64, .bool, .int .i64, .int .i64, .int .i64, .int .u64, .int .u64, .int .i64, .int .i64, .int .i64, .int .i64, .int .i64, .int .i64, .lst [.int .i64, .int .i64, .int .i64, .int .i64, .bool]] xs) : ∃ p, xs = encAct p := by
  obtain ⟨c0, r, rfl, h0, h⟩ := okR_cons h
  obtain ⟨c1, r, rfl, h1, h⟩ := okR_cons h
  obtain ⟨c2, r, rfl, h2, h⟩ := okR_cons h
  obtain ⟨c3, r, rfl, h3, h⟩ := okR_cons h
  obtain ⟨c4, r, rfl, h4, h⟩ := okR_cons h
  obtain ⟨c5, r, rfl, h5, h⟩ := okR_cons h
  obtain ⟨c6, r, rfl, h6, h⟩ := okR_cons h
  obtain ⟨c7, r, rfl, h7, h⟩ := okR_cons h
  obtain ⟨c8, r, rfl, h8, h⟩ := okR_cons h
  obtain ⟨c9, r, rfl, h9, h⟩ := okR_cons h
  obtain ⟨c10, r, rfl, h10, h⟩ := okR_cons h
  obtain ⟨c11, r, rfl, h11, h⟩ := okR_cons h
  obtain ⟨c12, r, rfl, h12, h⟩ := okR_cons h
  obtain ⟨c13, r, rfl, h13, h⟩ := okR_cons h
  obtain ⟨c14, r, rfl, h14, h⟩ := okR_cons h
  obtain ⟨c15, r, rfl, h15, h⟩ := okR_cons h
  obtain ⟨c16, r, rfl, h16, h⟩ := okR_cons h
  obtain ⟨c17, r, rfl, h17, h⟩ := okR_cons h
  obtain ⟨c18, r, rfl, h18, h⟩ := okR_cons h
  obtain ⟨c19, r, rfl, h19, h⟩ := okR_cons h
  obtain ⟨c20, r, rfl, h20, h⟩ := okR_cons h
  obtain ⟨c21, r, rfl, h21, h⟩ := okR_cons h
  obtain ⟨c22, r, rfl, h22, h⟩ := okR_cons h
  obtain ⟨c23, r, rfl, h23, h⟩ := okR_cons h
  obtain ⟨c24, r, rfl, h24, h⟩ := okR_cons h
  obtain ⟨c25, r, rfl, h25, h⟩ := okR_cons h
  obtain ⟨c26, r, rfl, h26, h⟩ := okR_cons h
  obtain rfl := okR_nil h
  obtain ⟨v0, rfl, _⟩ := okC_int h0
  obtain ⟨v1, rfl, _⟩ := okC_int h1
  obtain ⟨v2, rfl, _⟩ := okC_int h2
  obtain ⟨v3, rfl, _⟩ := okC_int h3
  obtain ⟨v4, rfl, _⟩ := okC_int h4
  obtain ⟨v5, rfl, _⟩ := okC_int h5
  obtain ⟨v6, rfl, _⟩ := okC_int h6
  obtain ⟨v7, rfl, _⟩ := okC_int h7
  obtain ⟨v8, rfl, _⟩ := okC_int h8
  obtain ⟨v9, rfl, _⟩ := okC_int h9
  obtain ⟨v10, rfl, _⟩ := okC_int h10
  obtain ⟨v11, rfl, _⟩ := okC_int h11
  obtain ⟨v12, rfl, _⟩ := okC_int h12
  obtain ⟨v13, rfl, _⟩ := okC_int h13
  obtain ⟨v14, rfl⟩ := okC_bool h14
  obtain ⟨v15, rfl, _⟩ := okC_int h15
  obtain ⟨v16, rfl, _⟩ := okC_int h16
  obtain ⟨v17, rfl, _⟩ := okC_int h17
  obtain ⟨v18, rfl, _⟩ := okC_int h18
  obtain ⟨v19, rfl, _⟩ := okC_int h19
  obtain ⟨v20, rfl, _⟩ := okC_int h20
  obtain ⟨v21, rfl, _⟩ := okC_int h21
  obtain ⟨v22, rfl, _⟩ := okC_int h22
  obtain ⟨v23, rfl, _⟩ := okC_int h23
  obtain ⟨v24, rfl, _⟩ := okC_int h24
  obtain ⟨v25, rfl, _⟩ := okC_int h25
  obtain ⟨q26, rfl, k26⟩ := okC_lst h26
  obtain ⟨v26, rfl⟩ := dons_typed k26
  exact ⟨⟨v0, v1, v2, ⟨v3, v4, v5, v6, v7, v8, v9, v10⟩, ⟨v11, v12, v13, v14⟩, ⟨v15, v16, ⟨v17, v18, v19, v20, v21, v22, v23, v24⟩, v25, v26⟩⟩, rfl⟩
theorem acts_typed {rows : List (List DV)} (h : ∀ r ∈ rows, okR [.int .i64, .int .i64, .int .i64, .int .i64, .int .u64, .int .u64, .int .i64, .int .i64, .int .i64, .int .i64, .int .i64, .int .i64, .int .i64, .int .i64, .bool, .int .i64, .int .i64, .int .i64, .int .u64, .int .u64, .int .i64, .int .i64, .int .i64, .int .i64, .int .i64, .int .i64, .lst [.int .i64, .int .i64, .int .i64, .int .i64, .bool]] r) : ∃ l : List Act, rows = l.map encAct := by
  obtain ⟨l, h1, _⟩ := rows_typed encAct (fun _ => True) fun r hr => by
    obtain ⟨p, hp⟩ := act_typed (h r hr)
    exact ⟨p, hp, trivial⟩
  exact ⟨l, h1⟩
def encH (h : H) : List DV := [.lst 15 (h.sp.map encSpan), .lst 12 (h.ev.map encEv)]
theorem hist_typed {xs : List DV} (h : okR [.lst [.int .i64, .int .i64, .int .u64, .int .u64, .int .i64, .int .i64, .int .i64, .int .i64, .int .i64, .int .i64, .int .i64, .int .i64, .int .i64, .int .i64, .bool], .lst [.int .i64, .int .i64, .int .i64, .int .u64, .int .u64, .int .i64, .int .i64, .int .i64, .int .i64, .int .i64, .int .i64, .lst [.int .i64, .int .i64, .int .i64, .int .i64, .bool]]] xs) : ∃ p, xs = encH p := by
  obtain ⟨c0, r, rfl, h0, h⟩ := okR_cons h
  obtain ⟨c1, r, rfl, h1, h⟩ := okR_cons h
  obtain rfl := okR_nil h
  obtain ⟨q0, rfl, k0⟩ := okC_lst h0
  obtain ⟨v0, rfl⟩ := spans_typed k0
  obtain ⟨q1, rfl, k1⟩ := okC_lst h1
  obtain ⟨v1, rfl⟩ := evs_typed k1
  exact ⟨⟨v0, v1⟩, rfl⟩
def encC (x : Call) : List DV := [.v (.int .i64 x.kind), .v (.int .u64 x.a), .v (.int .u64 x.b), .v (.int .i64 x.rights), .v (.int .i64 x.badge), .v (.int .i64 x.ty), .v (.int .i64 x.size), .v (.int .i64 x.value)]
def encR (x : Rep) : List DV := [.v (.int .i64 x.code), .v (.int .i64 x.value), .v (.int .i64 x.badge), .v (.bool x.cap)]
theorem call_typed {xs : List DV} (h : okR [.int .i64, .int .u64, .int .u64, .int .i64, .int .i64, .int .i64, .int .i64, .int .i64] xs) : ∃ p, xs = encC p := by
  obtain ⟨c0, r, rfl, h0, h⟩ := okR_cons h
  obtain ⟨c1, r, rfl, h1, h⟩ := okR_cons h
  obtain ⟨c2, r, rfl, h2, h⟩ := okR_cons h
  obtain ⟨c3, r, rfl, h3, h⟩ := okR_cons h
  obtain ⟨c4, r, rfl, h4, h⟩ := okR_cons h
  obtain ⟨c5, r, rfl, h5, h⟩ := okR_cons h
  obtain ⟨c6, r, rfl, h6, h⟩ := okR_cons h
  obtain ⟨c7, r, rfl, h7, h⟩ := okR_cons h
  obtain rfl := okR_nil h
  obtain ⟨v0, rfl, _⟩ := okC_int h0
  obtain ⟨v1, rfl, _⟩ := okC_int h1
  obtain ⟨v2, rfl, _⟩ := okC_int h2
  obtain ⟨v3, rfl, _⟩ := okC_int h3
  obtain ⟨v4, rfl, _⟩ := okC_int h4
  obtain ⟨v5, rfl, _⟩ := okC_int h5
  obtain ⟨v6, rfl, _⟩ := okC_int h6
  obtain ⟨v7, rfl, _⟩ := okC_int h7
  exact ⟨⟨v0, v1, v2, v3, v4, v5, v6, v7⟩, rfl⟩
theorem rep_typed {xs : List DV} (h : okR [.int .i64, .int .i64, .int .i64, .bool] xs) : ∃ p, xs = encR p := by
  obtain ⟨c0, r, rfl, h0, h⟩ := okR_cons h
  obtain ⟨c1, r, rfl, h1, h⟩ := okR_cons h
  obtain ⟨c2, r, rfl, h2, h⟩ := okR_cons h
  obtain ⟨c3, r, rfl, h3, h⟩ := okR_cons h
  obtain rfl := okR_nil h
  obtain ⟨v0, rfl, _⟩ := okC_int h0
  obtain ⟨v1, rfl, _⟩ := okC_int h1
  obtain ⟨v2, rfl, _⟩ := okC_int h2
  obtain ⟨v3, rfl⟩ := okC_bool h3
  exact ⟨⟨v0, v1, v2, v3⟩, rfl⟩
theorem a_int {a : AV} (h : ArgOK cfg.P 3 a) : ∃ n, a = .d (.v (.int .i64 n)) ∧ (Lit.int .i64 n).wf = true := by
  obtain ⟨x, rfl, hx⟩ := arg_one h (by kernel_rfl : tkT cfg.P 9 3 = some [.int .i64]) (by kernel_rfl)
  obtain ⟨n, rfl, hn⟩ := okC_int hx
  exact ⟨n, rfl, hn⟩
theorem a_hist {a : AV} (h : ArgOK cfg.P 25 a) : ∃ p : H, a = .agg ((encH p).map .d) := by
  obtain ⟨xs, rfl, hxs⟩ := arg_struct h (by kernel_rfl : tkT cfg.P 9 25 = some [.lst [.int .i64, .int .i64, .int .u64, .int .u64, .int .i64, .int .i64, .int .i64, .int .i64, .int .i64, .int .i64, .int .i64, .int .i64, .int .i64, .int .i64, .bool], .lst [.int .i64, .int .i64, .int .i64, .int .u64, .int .u64, .int .i64, .int .i64, .int .i64, .int .i64, .int .i64, .int .i64, .lst [.int .i64, .int .i64, .int .i64, .int .i64, .bool]]]) (by kernel_rfl)
  obtain ⟨p, rfl⟩ := hist_typed hxs
  exact ⟨p, rfl⟩
theorem a_act {a : AV} (h : ArgOK cfg.P 36 a) : ∃ p : Act, a = .agg ((encAct p).map .d) := by
  obtain ⟨xs, rfl, hxs⟩ := arg_struct h (by kernel_rfl : tkT cfg.P 9 36 = some [.int .i64, .int .i64, .int .i64, .int .i64, .int .u64, .int .u64, .int .i64, .int .i64, .int .i64, .int .i64, .int .i64, .int .i64, .int .i64, .int .i64, .bool, .int .i64, .int .i64, .int .i64, .int .u64, .int .u64, .int .i64, .int .i64, .int .i64, .int .i64, .int .i64, .int .i64, .lst [.int .i64, .int .i64, .int .i64, .int .i64, .bool]]) (by kernel_rfl)
  obtain ⟨p, rfl⟩ := act_typed hxs
  exact ⟨p, rfl⟩
theorem a_acts {a : AV} (h : ArgOK cfg.P 47 a) : ∃ l : List Act, a = .d (.lst 27 (l.map encAct)) := by
  obtain ⟨x, rfl, hx⟩ := arg_one h (by kernel_rfl : tkT cfg.P 9 47 = some [.lst [.int .i64, .int .i64, .int .i64, .int .i64, .int .u64, .int .u64, .int .i64, .int .i64, .int .i64, .int .i64, .int .i64, .int .i64, .int .i64, .int .i64, .bool, .int .i64, .int .i64, .int .i64, .int .u64, .int .u64, .int .i64, .int .i64, .int .i64, .int .i64, .int .i64, .int .i64, .lst [.int .i64, .int .i64, .int .i64, .int .i64, .bool]]]) (by kernel_rfl)
  obtain ⟨rows, rfl, hrows⟩ := okC_lst hx
  obtain ⟨l, rfl⟩ := acts_typed hrows
  exact ⟨l, rfl⟩
theorem a_call {a : AV} (h : ArgOK cfg.P 28 a) : ∃ p : Call, a = .agg ((encC p).map .d) := by
  obtain ⟨xs, rfl, hxs⟩ := arg_struct h (by kernel_rfl : tkT cfg.P 9 28 = some [.int .i64, .int .u64, .int .u64, .int .i64, .int .i64, .int .i64, .int .i64, .int .i64]) (by kernel_rfl)
  obtain ⟨p, rfl⟩ := call_typed hxs
  exact ⟨p, rfl⟩
theorem a_rep {a : AV} (h : ArgOK cfg.P 31 a) : ∃ p : Rep, a = .agg ((encR p).map .d) := by
  obtain ⟨xs, rfl, hxs⟩ := arg_struct h (by kernel_rfl : tkT cfg.P 9 31 = some [.int .i64, .int .i64, .int .i64, .bool]) (by kernel_rfl)
  obtain ⟨p, rfl⟩ := rep_typed hxs
  exact ⟨p, rfl⟩
theorem steps_val (vs : List AV) (h : ArgsOK cfg.P [25, 25, 36] vs) : valω cfg 3 vs = some (.d (.v (.bool true))) := by
  obtain ⟨x0, r, rfl, h0, h⟩ := argsOK_cons h
  obtain ⟨x1, r, rfl, h1, h⟩ := argsOK_cons h
  obtain ⟨x2, r, rfl, h2, h⟩ := argsOK_cons h
  obtain rfl := argsOK_nil h
  obtain ⟨p, rfl⟩ := a_hist h0
  obtain ⟨k, rfl⟩ := a_hist h1
  obtain ⟨a, rfl⟩ := a_act h2
  exact val_of_ret (steps_law p k a)
theorem runs_val (vs : List AV) (h : ArgsOK cfg.P [47] vs) : valω cfg 4 vs = some (.d (.v (.bool true))) := by
  obtain ⟨x0, r, rfl, h0, h⟩ := argsOK_cons h
  obtain rfl := argsOK_nil h
  obtain ⟨l, rfl⟩ := a_acts h0
  exact val_of_ret (runs_law l)
theorem order_val (vs : List AV) (h : ArgsOK cfg.P [47, 3, 3, 3] vs) : valω cfg 5 vs = some (.d (.v (.bool true))) := by
  obtain ⟨x0, r, rfl, h0, h⟩ := argsOK_cons h
  obtain ⟨x1, r, rfl, h1, h⟩ := argsOK_cons h
  obtain ⟨x2, r, rfl, h2, h⟩ := argsOK_cons h
  obtain ⟨x3, r, rfl, h3, h⟩ := argsOK_cons h
  obtain rfl := argsOK_nil h
  obtain ⟨l, rfl⟩ := a_acts h0
  obtain ⟨a, rfl, _⟩ := a_int h1
  obtain ⟨b, rfl, _⟩ := a_int h2
  obtain ⟨c, rfl, _⟩ := a_int h3
  exact val_of_ret (order_law l a b c)
theorem once_val (vs : List AV) (h : ArgsOK cfg.P [47, 3] vs) : valω cfg 6 vs = some (.d (.v (.bool true))) := by
  obtain ⟨x0, r, rfl, h0, h⟩ := argsOK_cons h
  obtain ⟨x1, r, rfl, h1, h⟩ := argsOK_cons h
  obtain rfl := argsOK_nil h
  obtain ⟨l, rfl⟩ := a_acts h0
  obtain ⟨a, rfl, _⟩ := a_int h1
  exact val_of_ret (once_law l a)
theorem spans_val (vs : List AV) (h : ArgsOK cfg.P [47, 3, 28, 31, 3, 3] vs) : valω cfg 7 vs = some (.d (.v (.bool true))) := by
  obtain ⟨x0, r, rfl, h0, h⟩ := argsOK_cons h
  obtain ⟨x1, r, rfl, h1, h⟩ := argsOK_cons h
  obtain ⟨x2, r, rfl, h2, h⟩ := argsOK_cons h
  obtain ⟨x3, r, rfl, h3, h⟩ := argsOK_cons h
  obtain ⟨x4, r, rfl, h4, h⟩ := argsOK_cons h
  obtain ⟨x5, r, rfl, h5, h⟩ := argsOK_cons h
  obtain rfl := argsOK_nil h
  obtain ⟨l, rfl⟩ := a_acts h0
  obtain ⟨a, rfl, _⟩ := a_int h1
  obtain ⟨x, rfl⟩ := a_call h2
  obtain ⟨y, rfl⟩ := a_rep h3
  obtain ⟨b, rfl, _⟩ := a_int h4
  obtain ⟨c, rfl, _⟩ := a_int h5
  exact val_of_ret (spans_law l a b c x y)
end Hist
end Go.AI
