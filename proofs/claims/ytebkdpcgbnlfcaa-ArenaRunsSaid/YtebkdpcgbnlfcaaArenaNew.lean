/-
  Own work. arena.New, by hand at the level of the interpreter: one operation after the other; what it answers.
-/
import Derived.Test.YtebkdpcgbnlfcaaArena3
namespace Go.AI
open Go
set_option linter.unusedVariables false
set_option linter.unusedSimpArgs false
namespace Arena
open Kit
section
abbrev FN : Fm := ⟨0, 55, false, [], true⟩
/-- What an operation leaves, told ahead. -/
theorem draw_step {C : Cfg} {K : Call} {F : Fm} {ops : Array Oper} {base : Nat} {o : Oper} {r : List Oper} {i : Nat} {T T' : Tmps} {H H' : Heap} {l : List Foot} (e : Eff) (fd : List Nat) (hg : o.guard = none) (hf : footOf F T o = fd)
    (he : operOut C K F T (restr H fd) (base + i * wide) o = some (.eff e)) (hr : drawOps C K F ops base r (i + 1) (putT T o.dst e.v) (writes H e.wr) = some (T', H', l)) :
    drawOps C K F ops base (o :: r) i T H = some (T', H', ⟨i, fd, (e.wr.map (·.1)).filter fun b => b < base + i * wide || base + i * wide + wide ≤ b⟩ :: l) := by
  unfold drawOps
  have hw : wantedA ops T o = some true := by unfold wantedA; rw [hg]
  rw [hw]
  simp only [hf, he, hr]
theorem P23 : tsl cfg.P 23 = some (48, 1, 24) := by kernel_rfl
theorem P48 : tsl cfg.P 48 = some (3, 1, 8) := by kernel_rfl
theorem P22 : tsl cfg.P 22 = some (27, 8, 64) := by kernel_rfl
theorem Z23 : tsz cfg.P 23 = some 1 := by kernel_rfl
theorem Z22 : tsz cfg.P 22 = some 1 := by kernel_rfl
theorem Z48 : tsz cfg.P 48 = some 1 := by kernel_rfl
theorem Z25 : tsz cfg.P 25 = some 2 := by kernel_rfl
theorem Z3 : tsz cfg.P 3 = some 1 := by kernel_rfl
theorem F250 : tfld cfg.P 25 0 = some (0, 1, false) := by kernel_rfl
theorem F251 : tfld cfg.P 25 1 = some (1, 1, false) := by kernel_rfl
theorem F276 : tfld cfg.P 27 6 = some (6, 1, false) := by kernel_rfl
theorem G48 : tagg cfg.P 48 = false := by kernel_rfl
theorem G23 : tagg cfg.P 23 = false := by kernel_rfl
theorem G22 : tagg cfg.P 22 = false := by kernel_rfl
theorem U23 : (∃ e, cfg.P.underlying 23 = some (.slice e)) := ⟨48, by kernel_rfl⟩
theorem U48 : (∃ e, cfg.P.underlying 48 = some (.slice e)) := ⟨3, by kernel_rfl⟩
abbrev op9 (d : Option Nat) (o : Op) (t : Nat) : Oper := { dst := d, op := o, type := t, pos := "arena.go:20", after := #[], guard := none }
variable {K : Call} {T : Tmps} {H : Heap} {fr : Nat}
abbrev I (n : Int) : AV := .d (.v (.int .i64 n))
section
variable (aft : Array Edge)
theorem e_fld {pos : String} {i o : Nat} (h4 : T 4 = .ptr 55 0 0 0) {k : Nat} (hk : tfld cfg.P 25 k = some (o, 1, false)) : operOut cfg K FN T H fr { dst := some i, op := .fieldAddr 25 (.tmp 4) k, type := 0, pos := pos, after := aft, guard := none } = some (.eff ⟨.ptr 55 0 0 o, []⟩) := by
  simp [operOut, eff, aeval, h4, hk]
theorem e_move {pos : String} {i j t : Nat} {v : AV} (h : T j = v) : operOut cfg K FN T H fr { dst := some i, op := .move (.tmp j), type := t, pos := pos, after := aft, guard := none } = some (.eff ⟨v, []⟩) := by
  simp [operOut, eff, aeval, h]
theorem e_load {pos : String} {i j t b ver n o : Nat} {s : Nat} {data : List (List AV)} {r : List AV} {v : AV} (h : T j = .ptr b ver n o) (hb : H b = some (.row s ver data)) (hr : data[n]? = some r) (hv : r[o]? = some v) (hz : tsz cfg.P t = some 1) (hg : tagg cfg.P t = false) :
    operOut cfg K FN T H fr { dst := some i, op := .load t (.tmp j), type := t, pos := pos, after := aft, guard := none } = some (.eff ⟨v, []⟩) := by
  obtain ⟨ho, hv⟩ := List.getElem?_eq_some_iff.1 hv
  have hc : getCells r o 1 = some [v] := by
    unfold getCells
    rw [if_pos (by omega), List.drop_eq_getElem_cons ho, hv]; rfl
  simp [operOut, eff, aeval, h, hb, hr, hz, hg, hc, partA]
theorem e_rem {pos : String} {i j k : Nat} {p c : Int} (h1 : T j = I p) (h2 : T k = I c) (hc : c ≠ 0) : operOut cfg K FN T H fr { dst := some i, op := .binOp .rem 3 (.tmp j) (.tmp k) 3, type := 3, pos := pos, after := aft, guard := none } = some (.eff ⟨I (p.tmod c), []⟩) := by
  simp [operOut, eff, aeval, h1, h2, binA, intOp, hc]
theorem e_index {pos : String} {i j k t e : Nat} {b ver off len s by0 : Nat} {data : List (List AV)} {x : Int} (hu : ∃ e, cfg.P.underlying t = some (.slice e)) (ht : tsl cfg.P t = some (e, s, by0)) (h1 : T j = .ref b ver off len) (h2 : T k = I x) (hb : H b = some (.row s ver data)) (hx : 0 ≤ x ∧ x < len) :
    operOut cfg K FN T H fr { dst := some i, op := .indexAddr t (.tmp j) (.tmp k), type := 0, pos := pos, after := aft, guard := none } = some (.eff ⟨.ptr b ver (off + x.toNat) 0, []⟩) := by
  obtain ⟨e, hu⟩ := hu
  simp [operOut, eff, aeval, h1, h2, asInt, hu, ht, hb, hx]
theorem e_build {pos : String} {i j : Nat} {p : Int} (h : T j = I p) : operOut cfg K FN T H fr { dst := some i, op := .buildSlice 48 1 #[(0, .tmp j)], type := 48, pos := pos, after := aft, guard := none } = some (.eff ⟨.ref fr 0 0 1, [(fr, some (.row 1 0 [[I p]]))]⟩) := by
  have hf : tyFld cfg.P 48 0 (I p) = I p := by
    obtain ⟨e, hu⟩ := U48
    simp [tyFld, hu, tyNil]
  simp [operOut, eff, aeval, h, P48, rowsAre, hf, okCells, AV.cells, FN]
theorem e_app_nil {pos : String} {i j k b : Nat} {p : Int} {s0 : Nat} (h1 : T j = .nil s0) (h2 : T k = .ref b 0 0 1) (hb : H b = some (.row 1 0 [[I p]])) : operOut cfg K FN T H fr { dst := some i, op := .call { callee := .builtin .append, args := #[.tmp j, .tmp k], argTypes := #[48, 48] }, type := 48, pos := pos, after := aft, guard := none } = some (.eff ⟨.ref fr 0 0 1, [(fr, some (.row 1 0 [[I p]]))]⟩) := by
  obtain ⟨e, hu⟩ := U48
  simp [operOut, eff, builtinA, aeval, h1, h2, hb, hu, P48, G48, appendA, rowsOf, room]
theorem e_app_ref {pos : String} {i j k b c len : Nat} {p : Int} {data : List (List AV)} (h1 : T j = .ref c 0 0 len) (h2 : T k = .ref b 0 0 1) (hb : H b = some (.row 1 0 [[I p]])) (hc : H c = some (.row 1 0 data)) (hl : data.length = len) (h64 : len ≤ 1000) :
    operOut cfg K FN T H fr { dst := some i, op := .call { callee := .builtin .append, args := #[.tmp j, .tmp k], argTypes := #[48, 48] }, type := 48, pos := pos, after := aft, guard := none } = some (.eff ⟨.ref c 1 0 (len + 1), [(c, some (.row 1 1 (data ++ [[I p]])))]⟩) := by
  obtain ⟨e, hu⟩ := U48
  subst hl
  simp [operOut, eff, builtinA, aeval, h1, h2, hb, hc, hu, P48, G48, appendA, rowsOf, room]
  rw [if_pos ⟨by omega, by omega⟩]
theorem e_store {pos : String} {j k b n len ver c : Nat} {data : List (List AV)} {x : AV} (h1 : T j = .ptr b 0 n 0) (h2 : T k = .ref c ver 0 len) (hb : H b = some (.row 1 0 data)) (hx : data[n]? = some [x]) :
    operOut cfg K FN T H fr { dst := none, op := .store 48 (.tmp j) (.tmp k), type := 0, pos := pos, after := aft, guard := none } = some (.eff ⟨undefA, [(b, some (.row 1 0 (data.set n [.ref c ver 0 len])))]⟩) := by
  simp [operOut, eff, aeval, h1, h2, hb, hx, Z48, okCells, AV.cells, nzA, tyNil, virt, putCells, FN]
end

/-! The code, region by region: parts of the program's own. -/
def opsOf : Code → Array Oper
  | .region _ r _ => r
  | _ => #[]
noncomputable def whole : Code := match Go.Proofs.Try.f14.body with
  | some c => c
  | none => .skip
noncomputable def reg0 : Array Oper := opsOf (cAt [0] whole)
noncomputable def reg1 : Array Oper := opsOf (cAt [1, 0, 0] whole)
noncomputable def reg2 : Array Oper := opsOf (cAt [1, 0, 1, 0, 0] whole)
noncomputable def reg3 : Array Oper := opsOf (cAt [1, 1, 0] whole)
noncomputable def reg4 : Array Oper := opsOf (cAt [1, 1, 1, 0] whole)
noncomputable def reg5 : Array Oper := opsOf (cAt [1, 1, 1, 1, 0, 0] whole)
noncomputable def reg6 : Array Oper := opsOf (cAt [1, 1, 1, 1, 0, 1, 0, 0, 0] whole)
noncomputable def reg7 : Array Oper := opsOf (cAt [1, 1, 1, 1, 0, 1, 0, 0, 1, 1, 0, 0, 0] whole)
noncomputable def reg8 : Array Oper := opsOf (cAt [1, 1, 1, 1, 0, 1, 0, 0, 1, 1, 0, 0, 1, 0] whole)
noncomputable def reg9 : Array Oper := opsOf (cAt [1, 1, 1, 1, 0, 1, 0, 0, 1, 1, 0, 0, 1, 1] whole)
noncomputable def reg10 : Array Oper := opsOf (cAt [1, 1, 1, 1, 0, 1, 0, 0, 1, 1, 1] whole)
noncomputable def reg11 : Array Oper := opsOf (cAt [1, 1, 1, 1, 1, 0] whole)
noncomputable def code : Code := (Code.region 0 reg0  false).seq (((Code.region 1 reg1  false).seq (Code.cond (Operand.tmp 20) ((Code.region 2 reg2  false).seq Code.ret) Code.skip)).seq ((Code.region 3 reg3  false).seq ((Code.region 4 reg4  false).seq (((Code.region 5 reg5  false).seq (Code.block 0 ((Code.region 6 reg6  false).seq ((Code.cond (Operand.tmp 30) Code.skip (Code.exit 0)).seq ((Code.block 1 ((Code.region 7 reg7  false).seq ((Code.region 8 reg8  false).seq (Code.region 9 reg9  true)))).seq (Code.region 10 reg10  false)))).loop)).seq ((Code.region 11 reg11  false).seq Code.ret)))))
theorem code_is : codeOf cfg.P 14 = code := by kernel_rfl
end
section
theorem bef9 : Region.before reg9 = #[0, 1, 0, 0, 12, 0, 32, 0, 0, 384, 992, 2016, 0, 4096, 16352, 32767, 65535] := by kernel_rfl
variable {K : Call} {T : Tmps} {H : Heap} {nx : Nat}
theorem restr_in {F : List Nat} {b : Nat} (h : b ∈ F) : restr H F b = H b := by unfold restr; rw [if_pos (by simpa using h)]
/-- What the temporaries hold behind the region. -/
def Keeps (T T' : Tmps) (n : Nat) : Prop := ∀ t, t < n → T' t = T t
theorem Keeps.put {T T' : Tmps} {n : Nat} (h : Keeps T T' n) {d : Nat} (hd : n ≤ d) {v : AV} : Keeps T (putT T' (some d) v) n := fun t ht => by
  show (if t = d then v else T' t) = T t
  rw [if_neg (by omega)]; exact h t ht
theorem Keeps.none {T T' : Tmps} {n : Nat} (h : Keeps T T' n) {v : AV} : Keeps T (putT T' none v) n := h
theorem Keeps.refl (T : Tmps) (n : Nat) : Keeps T T n := fun _ _ => rfl
theorem foot_nil (h : 327 < nx) : footOk (Region.before reg9) nx [⟨0, [], []⟩, ⟨1, [55], []⟩, ⟨2, [], []⟩, ⟨3, [], []⟩, ⟨4, [], []⟩, ⟨5, [], []⟩, ⟨6, [55], []⟩, ⟨7, [], []⟩, ⟨8, [], []⟩, ⟨9, [], []⟩, ⟨10, [327], []⟩, ⟨11, [327], []⟩, ⟨12, [], []⟩, ⟨13, [], []⟩, ⟨14, [nx + 13 * 16], []⟩, ⟨15, [327], []⟩, ⟨16, [327], [327]⟩] = true := by
  rw [bef9]
  simp [footOk, h, show 55 < nx by omega]
  exact ⟨.inr (by decide), by decide, by decide, .inl (by decide), by decide⟩
theorem foot_ref (h : 327 < nx) {b : Nat} (hb : b < nx) (h1 : b ≠ 55) (h2 : b ≠ 327) : footOk (Region.before reg9) nx [⟨0, [], []⟩, ⟨1, [55], []⟩, ⟨2, [], []⟩, ⟨3, [], []⟩, ⟨4, [], []⟩, ⟨5, [], []⟩, ⟨6, [55], []⟩, ⟨7, [], []⟩, ⟨8, [], []⟩, ⟨9, [], []⟩, ⟨10, [327], []⟩, ⟨11, [327], []⟩, ⟨12, [], []⟩, ⟨13, [], []⟩, ⟨14, [b, nx + 13 * 16], [b]⟩, ⟨15, [327], []⟩, ⟨16, [327], [327]⟩] = true := by
  rw [bef9]
  simp [footOk, h, hb, show 55 < nx by omega]
  exact ⟨⟨.inr (by decide), .inr h1, .inr h1, .inr h2, .inr h2⟩, .inl (by decide), by decide, by decide, .inl (by decide), by decide⟩
/-- What a drawn region comes to. -/
def Draws (C : Cfg) (K : Call) (F : Fm) (ops : Array Oper) (base : Nat) (os : List Oper) (i : Nat) (T : Tmps) (H : Heap) (Q : Tmps → Heap → List Foot → Prop) : Prop :=
  ∃ T' H' l, drawOps C K F ops base os i T H = some (T', H', l) ∧ Q T' H' l
theorem Draws.nil {C : Cfg} {F : Fm} {ops : Array Oper} {base i : Nat} {Q : Tmps → Heap → List Foot → Prop} (h : Q T H []) : Draws C K F ops base [] i T H Q := ⟨T, H, [], by simp [drawOps], h⟩
theorem Draws.step {C : Cfg} {F : Fm} {ops : Array Oper} {base : Nat} {o : Oper} {r : List Oper} {i : Nat} {Q : Tmps → Heap → List Foot → Prop} (e : Eff) (fd : List Nat) (wr : List Nat) (hg : o.guard = none) (hf : footOf F T o = fd)
    (he : operOut C K F T (restr H fd) (base + i * wide) o = some (.eff e)) (hw : ((e.wr.map (·.1)).filter fun b => b < base + i * wide || base + i * wide + wide ≤ b) = wr)
    (hr : Draws C K F ops base r (i + 1) (putT T o.dst e.v) (writes H e.wr) fun T' H' l => Q T' H' (⟨i, fd, wr⟩ :: l)) : Draws C K F ops base (o :: r) i T H Q := by
  obtain ⟨T', H', l, h1, h2⟩ := hr
  refine ⟨T', H', _, draw_step e fd hg hf he h1, ?_⟩
  rw [hw]; exact h2
section
variable (h4 : T 4 = .ptr 55 0 0 0) {p c : Int} (h6 : T 6 = I p) (h1 : T 1 = I c) {n len : Nat} {v0 v1 : Nat}
  (h55 : H 55 = some (.row 2 0 [[.ref 391 0 0 n, .ref 327 0 0 len]])) {cells : List (List AV)} (h327 : H 327 = some (.row 1 0 cells)) (hc : c ≠ 0) (hk : 0 ≤ p.tmod c ∧ p.tmod c < len)
include h4 h6 h1 h55 h327 hc hk
theorem draw_nil {s0 : Nat} (hx : cells[(p.tmod c).toNat]? = some [.nil s0]) (hn : 327 < nx) : Draws cfg K FN reg9 nx reg9.toList 0 T H fun T' H' l => H' = hset (hset (hset H (nx + 13 * 16) (some (.row 1 0 [[I p]]))) (nx + 14 * 16) (some (.row 1 0 [[I p]]))) 327 (some (.row 1 0 (cells.set (0 + (p.tmod c).toNat) [.ref (nx + 14 * 16) 0 0 1]))) ∧ Keeps T T' 37 ∧ footOk (Region.before reg9) nx l = true := by
  have hx0 : cells[0 + (p.tmod c).toNat]? = some [.nil s0] := by rw [Nat.zero_add]; exact hx
  conv in (Array.toList reg9) => whnf
  (refine Draws.step ⟨.ptr 55 0 0 1, []⟩ [] [] ?_ ?_ ?_ ?_ ?_; rfl; rfl; exact (e_fld _ (by exact h4) F251); exact rfl)
  (refine Draws.step ⟨.ref 327 0 0 len, []⟩ [55] [] ?_ ?_ ?_ ?_ ?_; rfl; rfl; exact (e_load _ (b := 55) (ver := 0) (n := 0) (o := 1) rfl h55 rfl rfl Z23 G23); exact rfl)
  (refine Draws.step ⟨I p, []⟩ [] [] ?_ ?_ ?_ ?_ ?_; rfl; rfl; exact (e_move _ (by exact h6)); exact rfl)
  (refine Draws.step ⟨I c, []⟩ [] [] ?_ ?_ ?_ ?_ ?_; rfl; rfl; exact (e_move _ (by exact h1)); exact rfl)
  (refine Draws.step ⟨I (p.tmod c), []⟩ [] [] ?_ ?_ ?_ ?_ ?_; rfl; rfl; exact (e_rem _ rfl rfl hc); exact rfl)
  (refine Draws.step ⟨.ptr 55 0 0 1, []⟩ [] [] ?_ ?_ ?_ ?_ ?_; rfl; rfl; exact (e_fld _ (by exact h4) F251); exact rfl)
  (refine Draws.step ⟨.ref 327 0 0 len, []⟩ [55] [] ?_ ?_ ?_ ?_ ?_; rfl; rfl; exact (e_load _ (b := 55) (ver := 0) (n := 0) (o := 1) rfl h55 rfl rfl Z23 G23); exact rfl)
  (refine Draws.step ⟨I p, []⟩ [] [] ?_ ?_ ?_ ?_ ?_; rfl; rfl; exact (e_move _ (by exact h6)); exact rfl)
  (refine Draws.step ⟨I c, []⟩ [] [] ?_ ?_ ?_ ?_ ?_; rfl; rfl; exact (e_move _ (by exact h1)); exact rfl)
  (refine Draws.step ⟨I (p.tmod c), []⟩ [] [] ?_ ?_ ?_ ?_ ?_; rfl; rfl; exact (e_rem _ rfl rfl hc); exact rfl)
  (refine Draws.step ⟨.ptr 327 0 (0 + (p.tmod c).toNat) 0, []⟩ [327] [] ?_ ?_ ?_ ?_ ?_; rfl; rfl; exact (e_index _ U23 P23 rfl rfl h327 hk); exact rfl)
  (refine Draws.step ⟨.nil s0, []⟩ [327] [] ?_ ?_ ?_ ?_ ?_; rfl; rfl; exact (e_load _ rfl h327 hx0 rfl Z48 G48); exact rfl)
  (refine Draws.step ⟨I p, []⟩ [] [] ?_ ?_ ?_ ?_ ?_; rfl; rfl; exact (e_move _ (by exact h6)); exact rfl)
  (refine Draws.step ⟨.ref (nx + 13 * 16) 0 0 1, [(nx + 13 * 16, some (.row 1 0 [[I p]]))]⟩ [] [] ?_ ?_ ?_ ?_ ?_; rfl; rfl; exact (e_build _ rfl); exact (by simp [wide]))
  (refine Draws.step ⟨.ref (nx + 14 * 16) 0 0 1, [(nx + 14 * 16, some (.row 1 0 [[I p]]))]⟩ [nx + 13 * 16] [] ?_ ?_ ?_ ?_ ?_; rfl; rfl; exact (e_app_nil _ rfl rfl (by simp [restr, writes, hset])); exact (by simp [wide]))
  (refine Draws.step ⟨.ptr 327 0 (0 + (p.tmod c).toNat) 0, []⟩ [327] [] ?_ ?_ ?_ ?_ ?_; rfl; rfl; exact (e_index _ U23 P23 rfl rfl (data := cells) (by simp [restr, writes, hset, h327, show 327 ≠ nx + 208 by omega, show 327 ≠ nx + 224 by omega]) hk); exact rfl)
  (refine Draws.step ⟨undefA, [(327, some (.row 1 0 (cells.set (0 + (p.tmod c).toNat) [.ref (nx + 14 * 16) 0 0 1])))]⟩ [327] [327] ?_ ?_ ?_ ?_ ?_; rfl; rfl; exact (e_store _ rfl rfl (by simp [restr, writes, hset, h327, show 327 ≠ nx + 208 by omega, show 327 ≠ nx + 224 by omega]) hx0); exact (by simp; omega))
  refine Draws.nil ⟨rfl, ?_, foot_nil hn⟩
  repeat (refine Keeps.put ?_ (by omega))
  exact Keeps.refl T 37
theorem draw_ref {b m : Nat} {data : List (List AV)} (hx : cells[(p.tmod c).toNat]? = some [.ref b 0 0 m]) (hb : H b = some (.row 1 0 data)) (hm : data.length = m) (h64 : m ≤ 1000) (hbn : b < nx) (hb5 : b ≠ 55) (hb3 : b ≠ 327) (hn : 327 < nx) : Draws cfg K FN reg9 nx reg9.toList 0 T H fun T' H' l => H' = hset (hset (hset H (nx + 13 * 16) (some (.row 1 0 [[I p]]))) b (some (.row 1 1 (data ++ [[I p]])))) 327 (some (.row 1 0 (cells.set (0 + (p.tmod c).toNat) [.ref b 1 0 (m + 1)]))) ∧ Keeps T T' 37 ∧ footOk (Region.before reg9) nx l = true := by
  have hx0 : cells[0 + (p.tmod c).toNat]? = some [.ref b 0 0 m] := by rw [Nat.zero_add]; exact hx
  conv in (Array.toList reg9) => whnf
  (refine Draws.step ⟨.ptr 55 0 0 1, []⟩ [] [] ?_ ?_ ?_ ?_ ?_; rfl; rfl; exact (e_fld _ (by exact h4) F251); exact rfl)
  (refine Draws.step ⟨.ref 327 0 0 len, []⟩ [55] [] ?_ ?_ ?_ ?_ ?_; rfl; rfl; exact (e_load _ (b := 55) (ver := 0) (n := 0) (o := 1) rfl h55 rfl rfl Z23 G23); exact rfl)
  (refine Draws.step ⟨I p, []⟩ [] [] ?_ ?_ ?_ ?_ ?_; rfl; rfl; exact (e_move _ (by exact h6)); exact rfl)
  (refine Draws.step ⟨I c, []⟩ [] [] ?_ ?_ ?_ ?_ ?_; rfl; rfl; exact (e_move _ (by exact h1)); exact rfl)
  (refine Draws.step ⟨I (p.tmod c), []⟩ [] [] ?_ ?_ ?_ ?_ ?_; rfl; rfl; exact (e_rem _ rfl rfl hc); exact rfl)
  (refine Draws.step ⟨.ptr 55 0 0 1, []⟩ [] [] ?_ ?_ ?_ ?_ ?_; rfl; rfl; exact (e_fld _ (by exact h4) F251); exact rfl)
  (refine Draws.step ⟨.ref 327 0 0 len, []⟩ [55] [] ?_ ?_ ?_ ?_ ?_; rfl; rfl; exact (e_load _ (b := 55) (ver := 0) (n := 0) (o := 1) rfl h55 rfl rfl Z23 G23); exact rfl)
  (refine Draws.step ⟨I p, []⟩ [] [] ?_ ?_ ?_ ?_ ?_; rfl; rfl; exact (e_move _ (by exact h6)); exact rfl)
  (refine Draws.step ⟨I c, []⟩ [] [] ?_ ?_ ?_ ?_ ?_; rfl; rfl; exact (e_move _ (by exact h1)); exact rfl)
  (refine Draws.step ⟨I (p.tmod c), []⟩ [] [] ?_ ?_ ?_ ?_ ?_; rfl; rfl; exact (e_rem _ rfl rfl hc); exact rfl)
  (refine Draws.step ⟨.ptr 327 0 (0 + (p.tmod c).toNat) 0, []⟩ [327] [] ?_ ?_ ?_ ?_ ?_; rfl; rfl; exact (e_index _ U23 P23 rfl rfl h327 hk); exact rfl)
  (refine Draws.step ⟨.ref b 0 0 m, []⟩ [327] [] ?_ ?_ ?_ ?_ ?_; rfl; rfl; exact (e_load _ rfl h327 hx0 rfl Z48 G48); exact rfl)
  (refine Draws.step ⟨I p, []⟩ [] [] ?_ ?_ ?_ ?_ ?_; rfl; rfl; exact (e_move _ (by exact h6)); exact rfl)
  (refine Draws.step ⟨.ref (nx + 13 * 16) 0 0 1, [(nx + 13 * 16, some (.row 1 0 [[I p]]))]⟩ [] [] ?_ ?_ ?_ ?_ ?_; rfl; rfl; exact (e_build _ rfl); exact (by simp [wide]))
  (refine Draws.step ⟨.ref b 1 0 (m + 1), [(b, some (.row 1 1 (data ++ [[I p]])))]⟩ [b, nx + 13 * 16] [b] ?_ ?_ ?_ ?_ ?_; rfl; rfl; exact (e_app_ref _ rfl rfl (by simp [restr, writes, hset]) (by simp [restr, writes, hset, hb, show b ≠ nx + 208 by omega]) hm h64); exact (by simp; omega))
  (refine Draws.step ⟨.ptr 327 0 (0 + (p.tmod c).toNat) 0, []⟩ [327] [] ?_ ?_ ?_ ?_ ?_; rfl; rfl; exact (e_index _ U23 P23 rfl rfl (data := cells) (by simp [restr, writes, hset, h327, show 327 ≠ nx + 208 by omega, show 327 ≠ b by omega]) hk); exact rfl)
  (refine Draws.step ⟨undefA, [(327, some (.row 1 0 (cells.set (0 + (p.tmod c).toNat) [.ref b 1 0 (m + 1)])))]⟩ [327] [327] ?_ ?_ ?_ ?_ ?_; rfl; rfl; exact (e_store _ rfl rfl (by simp [restr, writes, hset, h327, show 327 ≠ nx + 208 by omega, show 327 ≠ b by omega]) hx0); exact (by simp; omega))
  refine Draws.nil ⟨rfl, ?_, foot_ref hn hbn hb5 hb3⟩
  repeat (refine Keeps.put ?_ (by omega))
  exact Keeps.refl T 37
end
end
section
def RunsTo (k : List AItem) (T : Tmps) (H : Heap) (nx : Nat) (Q : Tmps → Heap → Nat → Prop) : Prop := ∃ T' H' nx', Runs cfg FN k T H nx (T', H', nx') ∧ Q T' H' nx'
variable {k : List AItem} {T : Tmps} {H : Heap} {nx : Nat} {Q : Tmps → Heap → Nat → Prop}
theorem RunsTo.ret (h : Q T H nx) : RunsTo (.code .ret :: k) T H nx Q := ⟨T, H, nx, Runs.ret, h⟩
theorem RunsTo.skip (h : RunsTo k T H nx Q) : RunsTo (.code .skip :: k) T H nx Q := let ⟨a, b, c, h1, h2⟩ := h; ⟨a, b, c, Runs.skip h1, h2⟩
theorem RunsTo.seq {a b : Code} (h : RunsTo (.code a :: .code b :: k) T H nx Q) : RunsTo (.code (.seq a b) :: k) T H nx Q := let ⟨x, y, z, h1, h2⟩ := h; ⟨x, y, z, Runs.seq h1, h2⟩
theorem RunsTo.block {id : Nat} {b : Code} (h : RunsTo (.code b :: .inBlock id :: k) T H nx Q) : RunsTo (.code (.block id b) :: k) T H nx Q := let ⟨x, y, z, h1, h2⟩ := h; ⟨x, y, z, Runs.block h1, h2⟩
theorem RunsTo.inBlock {id : Nat} (h : RunsTo k T H nx Q) : RunsTo (.inBlock id :: k) T H nx Q := let ⟨x, y, z, h1, h2⟩ := h; ⟨x, y, z, Runs.inBlock h1, h2⟩
theorem RunsTo.exit {id : Nat} {k' : List AItem} (hk : exitToA id k = some k') (h : RunsTo k' T H nx Q) : RunsTo (.code (.exit id) :: k) T H nx Q := let ⟨x, y, z, h1, h2⟩ := h; ⟨x, y, z, Runs.exit hk h1, h2⟩
theorem RunsTo.loop {b : Code} (h : RunsTo (.code b :: .inLoop b (upN nx) :: k) (canT false 0 H T) (canH false 0 H) (upN nx) Q) : RunsTo (.code (.loop b) :: k) T H nx Q := let ⟨x, y, z, h1, h2⟩ := h; ⟨x, y, z, Runs.loop h1, h2⟩
theorem RunsTo.round {b : Code} {nx0 : Nat} (h : RunsTo (.code b :: .inLoop b nx0 :: k) (canT false 0 H T) (canH false 0 H) nx Q) : RunsTo (.inLoop b nx0 :: k) T H nx Q := let ⟨x, y, z, h1, h2⟩ := h; ⟨x, y, z, Runs.round' rfl h1, h2⟩
theorem RunsTo.condT {c : Operand} {a b : Code} (hc : aeval T c = .d (.v (.bool true))) (h : RunsTo (.code a :: k) T H nx Q) : RunsTo (.code (.cond c a b) :: k) T H nx Q := let ⟨x, y, z, h1, h2⟩ := h; ⟨x, y, z, Runs.cond hc (fun _ => h1) (fun e => absurd e (by simp)), h2⟩
theorem RunsTo.condF {c : Operand} {a b : Code} (hc : aeval T c = .d (.v (.bool false))) (h : RunsTo (.code b :: k) T H nx Q) : RunsTo (.code (.cond c a b) :: k) T H nx Q := let ⟨x, y, z, h1, h2⟩ := h; ⟨x, y, z, Runs.cond hc (fun e => absurd e (by simp)) (fun _ => h1), h2⟩
/-- A region in order. -/
def Seqs (K : Call) (ops : Array Oper) (os : List Oper) (T : Tmps) (H : Heap) (nx : Nat) (Q : Tmps → Heap → Nat → Prop) : Prop := ∃ T' H' nx', seqOps cfg K FN ops os T H nx = some (T', H', nx') ∧ Q T' H' nx'
theorem Seqs.nil {K : Call} {ops : Array Oper} (h : Q T H nx) : Seqs K ops [] T H nx Q := ⟨T, H, nx, by simp [seqOps], h⟩
theorem Seqs.step {K : Call} {ops : Array Oper} {o : Oper} {r : List Oper} (e : Eff) (hw : wantedA ops T o = some true) (he : operOut cfg K FN T H nx o = some (.eff e)) (hr : Seqs K ops r (putT T o.dst e.v) (writes H e.wr) (nx + wide) Q) : Seqs K ops (o :: r) T H nx Q := by
  obtain ⟨T', H', nx', h1, h2⟩ := hr
  refine ⟨T', H', nx', ?_, h2⟩
  unfold seqOps
  rw [hw]
  simp only [he, h1]
theorem RunsTo.seqs {id : Nat} {ops : Array Oper} (h : Seqs (callω cfg) ops ops.toList T H nx fun T' H' nx' => RunsTo k T' H' nx' Q) : RunsTo (.code (.region id ops false) :: k) T H nx Q := by
  obtain ⟨T', H', nx', h1, x, y, z, h2, h3⟩ := h
  refine ⟨x, y, z, Runs.region ?_, h3⟩
  unfold region
  rw [if_neg (by decide), h1]
  exact h2
theorem RunsTo.draws {id : Nat} {ops : Array Oper} (h : Draws cfg (callω cfg) FN ops nx ops.toList 0 T H fun T' H' l => footOk (Region.before ops) nx l = true ∧ RunsTo k T' H' (nx + ops.size * wide) Q) : RunsTo (.code (.region id ops true) :: k) T H nx Q := by
  obtain ⟨T', H', l, h1, hf, x, y, z, h2, h3⟩ := h
  refine ⟨x, y, z, Runs.region ?_, h3⟩
  unfold region
  rw [if_pos rfl, h1]
  simp only [hf, if_true]
  exact h2
theorem Draws.mono {C : Cfg} {K : Call} {F : Fm} {ops : Array Oper} {base : Nat} {os : List Oper} {i : Nat} {P P' : Tmps → Heap → List Foot → Prop} (h : Draws C K F ops base os i T H P) (hp : ∀ T' H' l, P T' H' l → P' T' H' l) : Draws C K F ops base os i T H P' := by
  obtain ⟨T', H', l, h1, h2⟩ := h
  exact ⟨T', H', l, h1, hp _ _ _ h2⟩
/-! The data. -/
def R0 : List AV := [I 0, I 0, I 0, I 0, I 0, I 0, I 0, I 0]
def R1 : List AV := [I 0, I 0, I 0, I 0, I 0, I 0, I (-1), I 0]
def things (n p : Nat) : List (List AV) := List.replicate p R1 ++ List.replicate (n - p) R0
def fr (p c j : Nat) : List Nat := (List.range p).filter fun q => q % c == j
def cell (b v : Nat) (f : List Nat) : AV := if f = [] then .nil 1 else .ref b v 0 f.length
def rowsF (f : List Nat) : List (List AV) := f.map fun (x : Nat) => [I (x : Int)]
structure St (n c p : Nat) (nm vr : Nat → Nat) (T : Tmps) (H : Heap) (nx : Nat) : Prop where
  t1 : T 1 = I (c : Int)
  t4 : T 4 = .ptr 55 0 0 0
  t28 : T 28 = I (n : Int)
  t29 : T 29 = I (p : Int)
  h55 : H 55 = some (.row 2 0 [[.ref 391 0 0 n, .ref 327 0 0 c]])
  h391 : H 391 = some (.row 8 0 (things n p))
  h327 : H 327 = some (.row 1 0 ((List.range c).map fun j => [cell (nm j) (vr j) (fr p c j)]))
  inn : ∀ j, j < c → fr p c j ≠ [] → H (nm j) = some (.row 1 (vr j) (rowsF (fr p c j))) ∧ nm j < nx ∧ nm j ≠ 55 ∧ nm j ≠ 391 ∧ nm j ≠ 327
  dis : ∀ i j, i < c → j < c → i ≠ j → fr p c i ≠ [] → fr p c j ≠ [] → nm i ≠ nm j
  big : 391 < nx
theorem canV_d (H : Heap) (x : DV) : canV false 0 H 4 (.d x) = .d x := rfl
theorem canV_ref {H : Heap} {b ver len s : Nat} {data : List (List AV)} (h : H b = some (.row s ver data)) : canV false 0 H 4 (.ref b ver 0 len) = .ref b 0 0 len := by
  simp [canV, h]
theorem canH_row {H : Heap} {b ver s : Nat} {data : List (List AV)} (h : H b = some (.row s ver data)) : canH false 0 H b = some (.row s 0 (data.map fun r => r.map (canV false 0 H 4))) := by
  simp [canH, h, canB]
theorem rows_can (H : Heap) (f : List Nat) : ((rowsF f).map fun r => r.map (canV false 0 H 4)) = rowsF f := by
  unfold rowsF
  rw [List.map_map]
  rfl
theorem things_can (H : Heap) (n p : Nat) : ((things n p).map fun r => r.map (canV false 0 H 4)) = things n p := by
  unfold things
  rw [List.map_append, List.map_replicate, List.map_replicate]
  rfl
theorem St.can {n c p : Nat} {nm vr : Nat → Nat} (h : St n c p nm vr T H nx) {nx' : Nat} (hnx : nx ≤ nx') : St n c p nm (fun _ => 0) (canT false 0 H T) (canH false 0 H) nx' where
  t1 := by show canV false 0 H 4 (T 1) = _; rw [h.t1]; rfl
  t4 := by show canV false 0 H 4 (T 4) = _; rw [h.t4]; simp [canV, h.h55]
  t28 := by show canV false 0 H 4 (T 28) = _; rw [h.t28]; rfl
  t29 := by show canV false 0 H 4 (T 29) = _; rw [h.t29]; rfl
  h55 := by rw [canH_row h.h55]; simp [canV_ref h.h391, canV_ref h.h327]
  h391 := by rw [canH_row h.h391, things_can]
  h327 := by
    rw [canH_row h.h327, List.map_map]
    refine congrArg some (congrArg (ABlk.row 1 0) (List.map_congr_left fun j hj => ?_))
    have hj' := List.mem_range.1 hj
    simp only [Function.comp, List.map_cons, List.map_nil]
    unfold cell
    by_cases hf : fr p c j = []
    · rw [if_pos hf, if_pos hf]; rfl
    · rw [if_neg hf, if_neg hf, canV_ref (h.inn j hj' hf).1]
  inn := fun j hj hf => by
    obtain ⟨h1, h2, h3⟩ := h.inn j hj hf
    exact ⟨by rw [canH_row h1, rows_can], by omega, h3⟩
  dis := h.dis
  big := Nat.lt_of_lt_of_le h.big hnx
theorem fr_succ (p c j : Nat) : fr (p + 1) c j = fr p c j ++ (if p % c = j then [p] else []) := by
  unfold fr
  rw [List.range_succ, List.filter_append]
  by_cases h : p % c = j
  · rw [if_pos h]; simp [h]
  · rw [if_neg h]; simp [h]
theorem things_get {n p : Nat} (h : p < n) : (things n p)[p]? = some R0 := by
  unfold things
  rw [List.getElem?_append_right (by simp), List.length_replicate, Nat.sub_self, List.getElem?_replicate, if_pos (by omega)]
theorem things_set {n p : Nat} (h : p < n) : (things n p).set p R1 = things n (p + 1) := by
  unfold things
  rw [List.set_append_right _ _ (by simp), List.length_replicate, Nat.sub_self, show n - p = (n - (p + 1)) + 1 by omega, List.replicate_succ, List.set_cons_zero, List.replicate_succ', List.append_assoc]
  rfl
end
section
variable {k : List AItem} {T : Tmps} {H : Heap} {nx : Nat} {Q : Tmps → Heap → Nat → Prop}
section
variable (aft : Array Edge) {K : Call} {f : Nat}
theorem e_lss {pos : String} {i a b : Nat} {x y : Int} (h1 : T a = I x) (h2 : T b = I y) : operOut cfg K FN T H f { dst := some i, op := .binOp .lss 3 (.tmp a) (.tmp b) 3, type := 4, pos := pos, after := aft, guard := none } = some (.eff ⟨.d (.v (.bool (decide (x < y)))), []⟩) := by
  simp [operOut, eff, aeval, h1, h2, binA, intOp]
theorem e_assign {pos : String} {i a t : Nat} {x : Int} (h1 : T a = I x) : operOut cfg K FN T H f { dst := some i, op := .assign (.tmp a), type := t, pos := pos, after := aft, guard := none } = some (.eff ⟨I x, []⟩) := by
  simp [operOut, eff, aeval, h1, assignA]
theorem e_fldP {pos : String} {i j t m o b v n o' : Nat} (h : T j = .ptr b v n o') (hk : tfld cfg.P t m = some (o, 1, false)) : operOut cfg K FN T H f { dst := some i, op := .fieldAddr t (.tmp j) m, type := 0, pos := pos, after := aft, guard := none } = some (.eff ⟨.ptr b v n (o' + o), []⟩) := by
  simp [operOut, eff, aeval, h, hk]
theorem e_set {pos : String} {j n : Nat} {data : List (List AV)} (h : T j = .ptr 391 0 n 6) (hb : H 391 = some (.row 8 0 data)) (hr : data[n]? = some R0) : operOut cfg K FN T H f { dst := none, op := .store 3 (.tmp j) (.const (.int .i64 (Int.negSucc 0))), type := 0, pos := pos, after := aft, guard := none } = some (.eff ⟨undefA, [(391, some (.row 8 0 (data.set n R1)))]⟩) := by
  simp [operOut, eff, aeval, h, hb, hr, Z3, constA, okCells, AV.cells, nzA, tyNil, virt, putCells, R0, R1, FN]
theorem e_addc {pos : String} {i a : Nat} {x : Int} {m : Nat} (h1 : T a = I x) : operOut cfg K FN T H f { dst := some i, op := .binOp .add 3 (.tmp a) (.const (.int .i64 (Int.ofNat m))) 3, type := 3, pos := pos, after := aft, guard := none } = some (.eff ⟨I (IntKind.i64.wrap (x + m)), []⟩) := by
  simp [operOut, eff, aeval, h1, binA, intOp, constA]
end
noncomputable def body : Code := ((Code.region 6 reg6  false).seq ((Code.cond (Operand.tmp 30) Code.skip (Code.exit 0)).seq ((Code.block 1 ((Code.region 7 reg7  false).seq ((Code.region 8 reg8  false).seq (Code.region 9 reg9  true)))).seq (Code.region 10 reg10  false))))
/-- Behind the last place. -/
theorem body_end {n c p nx0 : Nat} {nm vr : Nat → Nat} (h : St n c p nm vr T H nx) (hp : ¬ p < n) (hk : ∀ T' nx', St n c p nm vr T' H nx' → RunsTo k T' H nx' Q) : RunsTo (.code body :: .inLoop body nx0 :: .inBlock 0 :: k) T H nx Q := by
  refine RunsTo.seq (RunsTo.seqs ?_)
  conv in (Array.toList reg6) => whnf
  (refine Seqs.step ⟨.d (.v (.bool (decide ((p : Int) < (n : Int))))), []⟩ ?_ ?_ ?_; exact rfl; exact (e_lss _ h.t29 h.t28))
  refine Seqs.nil (RunsTo.seq (RunsTo.condF ?_ (RunsTo.exit (k' := k) rfl ?_)))
  · show (AV.d (.v (.bool (decide ((p : Int) < (n : Int)))))) = _
    rw [decide_eq_false (by omega)]
  · refine hk _ _ ⟨h.t1, h.t4, h.t28, h.t29, h.h55, h.h391, h.h327, fun j hj hf => ?_, h.dis, by have := h.big; omega⟩
    obtain ⟨a, b, c⟩ := h.inn j hj hf
    exact ⟨a, by omega, c⟩
end
section
variable {k : List AItem} {T : Tmps} {H : Heap} {nx : Nat} {Q : Tmps → Heap → Nat → Prop}
theorem U22 : (∃ e, cfg.P.underlying 22 = some (.slice e)) := ⟨27, by kernel_rfl⟩
theorem range_set {α : Type} (c k : Nat) (g : Nat → α) (x : α) : ((List.range c).map g).set k x = (List.range c).map fun j => if j = k then x else g j := by
  apply List.ext_getElem
  · simp
  · intro i h1 h2
    simp only [List.getElem_set, List.getElem_map, List.getElem_range]
    by_cases h : k = i
    · rw [if_pos h, if_pos h.symm]
    · rw [if_neg h, if_neg (fun e => h e.symm)]
/-- Behind the region that lets a place be from nowhere. -/
structure Mid (n c p : Nat) (nm : Nat → Nat) (T : Tmps) (H : Heap) (nx : Nat) : Prop where
  t1 : T 1 = I (c : Int)
  t4 : T 4 = .ptr 55 0 0 0
  t6 : T 6 = I (p : Int)
  t28 : T 28 = I (n : Int)
  t29 : T 29 = I (p : Int)
  h55 : H 55 = some (.row 2 0 [[.ref 391 0 0 n, .ref 327 0 0 c]])
  h391 : H 391 = some (.row 8 0 (things n (p + 1)))
  h327 : H 327 = some (.row 1 0 ((List.range c).map fun j => [cell (nm j) 0 (fr p c j)]))
  inn : ∀ j, j < c → fr p c j ≠ [] → H (nm j) = some (.row 1 0 (rowsF (fr p c j))) ∧ nm j < nx ∧ nm j ≠ 55 ∧ nm j ≠ 391 ∧ nm j ≠ 327
  dis : ∀ i j, i < c → j < c → i ≠ j → fr p c i ≠ [] → fr p c j ≠ [] → nm i ≠ nm j
  big : 391 < nx
theorem fr_len (p c j : Nat) : (fr p c j).length ≤ p := by
  unfold fr
  exact Nat.le_trans (List.length_filter_le _ _) (by simp)
theorem mid_go {n c p : Nat} {nm : Nat → Nat} (h : Mid n c p nm T H nx) (hp : p < n) (hn : n ≤ 64) (hc : 0 < c) {a : Code}
    (hk : ∀ T' H' nx' nm' vr', St n c (p + 1) nm' vr' T' H' nx' → RunsTo k T' H' nx' Q) : RunsTo (.code (.region 9 reg9 true) :: .inBlock 1 :: .code (.region 10 reg10 false) :: k) T H nx Q := by
  have hk0 : p % c < c := Nat.mod_lt _ hc
  have et : ((p : Int).tmod (c : Int)) = ((p % c : Nat) : Int) := rfl
  have hkk : 0 ≤ (p : Int).tmod (c : Int) ∧ (p : Int).tmod (c : Int) < (c : Int) := by rw [et]; omega
  have hc0 : (c : Int) ≠ 0 := by omega
  have hbig := h.big
  have hget : ((List.range c).map fun j => [cell (nm j) 0 (fr p c j)])[((p : Int).tmod (c : Int)).toNat]? = some [cell (nm (p % c)) 0 (fr p c (p % c))] := by
    rw [et, Int.toNat_natCast, List.getElem?_map, List.getElem?_range hk0]; rfl
  have old : ∀ j, j < c → j ≠ p % c → fr (p + 1) c j = fr p c j := fun j hj e => by rw [fr_succ, if_neg (fun x => e x.symm), List.append_nil]
  -- behind it
  have fin : ∀ T' H' (nm' vr' : Nat → Nat), Keeps T T' 37 → (∀ T'' nx'', nx ≤ nx'' → nx + reg9.size * wide ≤ nx'' → T'' 1 = I (c : Int) → T'' 4 = .ptr 55 0 0 0 → T'' 28 = I (n : Int) → T'' 29 = I ((p + 1 : Nat) : Int) → St n c (p + 1) nm' vr' T'' H' nx'') →
      RunsTo (.inBlock 1 :: .code (.region 10 reg10 false) :: k) T' H' (nx + reg9.size * wide) Q := fun T' H' nm' vr' hT hS => by
    refine RunsTo.inBlock (RunsTo.seqs ?_)
    conv in (Array.toList reg10) => whnf
    (refine Seqs.step ⟨I (IntKind.i64.wrap ((p : Int) + (1 : Nat))), []⟩ ?_ ?_ ?_; exact rfl; exact (e_addc _ (by rw [hT 29 (by omega)]; exact h.t29)))
    (refine Seqs.step ⟨I (IntKind.i64.wrap ((p : Int) + (1 : Nat))), []⟩ ?_ ?_ ?_; exact rfl; exact (e_move _ rfl))
    refine Seqs.nil (hk _ _ _ nm' vr' (hS _ _ (by omega) (by omega) ?_ ?_ ?_ ?_))
    · show T' 1 = _; rw [hT 1 (by omega)]; exact h.t1
    · show T' 4 = _; rw [hT 4 (by omega)]; exact h.t4
    · show T' 28 = _; rw [hT 28 (by omega)]; exact h.t28
    · show I (IntKind.i64.wrap ((p : Int) + ((1 : Nat) : Int))) = _
      rw [show ((p : Int) + ((1 : Nat) : Int)) = (p : Int) + 1 from rfl, wrap_succ (show p < 4611686018427387904 by omega)]
  by_cases hf : fr p c (p % c) = []
  · refine RunsTo.draws ((draw_nil h.t4 h.t6 h.t1 h.h55 h.h327 hc0 hkk (s0 := 1) (by rw [hget]; unfold cell; rw [if_pos hf]) (by omega)).mono ?_)
    rintro T' H' l ⟨rfl, hT, hfo⟩
    refine ⟨hfo, fin T' _ (fun j => if j = p % c then nx + 14 * 16 else nm j) (fun _ => 0) hT fun T'' nx'' hge hge2 q1 q4 q28 q29 => ?_⟩
    have hw : nx + 272 ≤ nx'' := hge2
    refine ⟨q1, q4, q28, q29, ?_, ?_, ?_, fun j hj hfj => ?_, fun i j hi hj hij hfi hfj => ?_, by omega⟩
    · simp only [hset]
      rw [if_neg (by omega), if_neg (by omega), if_neg (by omega)]; exact h.h55
    · simp only [hset]
      rw [if_neg (by omega), if_neg (by omega), if_neg (by omega)]; exact h.h391
    · simp only [hset, if_true]
      rw [et, Int.toNat_natCast, Nat.zero_add, range_set]
      refine congrArg some (congrArg (ABlk.row 1 0) (List.map_congr_left fun j hj => ?_))
      by_cases e : j = p % c
      · subst e
        rw [if_pos rfl, if_pos rfl, fr_succ, if_pos rfl, hf]; rfl
      · rw [if_neg e, if_neg e, fr_succ, if_neg (fun x => e x.symm), List.append_nil]
    · by_cases e : j = p % c
      · subst e
        rw [if_pos rfl, fr_succ, if_pos rfl, hf]
        refine ⟨?_, by omega, by omega, by omega, by omega⟩
        simp only [hset, if_true]
        rw [if_neg (by omega)]; rfl
      · rw [old j hj e] at hfj ⊢
        rw [if_neg e]
        obtain ⟨a1, a2, a3, a4, a5⟩ := h.inn j hj hfj
        refine ⟨?_, by omega, a3, a4, a5⟩
        simp only [hset]
        rw [if_neg a5, if_neg (by omega), if_neg (by omega)]; exact a1
    · have lt : ∀ j, j < c → j ≠ p % c → fr (p + 1) c j ≠ [] → nm j < nx ∧ fr p c j ≠ [] := fun j hj e hfj => by
        rw [fr_succ, if_neg (fun x => e x.symm), List.append_nil] at hfj
        exact ⟨(h.inn j hj hfj).2.1, hfj⟩
      by_cases ei : i = p % c
      · have ej : j ≠ p % c := fun x => hij (by rw [ei, x])
        have := (lt j hj ej hfj).1
        rw [if_pos ei, if_neg ej]; omega
      · by_cases ej : j = p % c
        · have := (lt i hi ei hfi).1
          rw [if_neg ei, if_pos ej]; omega
        · rw [if_neg ei, if_neg ej]
          exact h.dis i j hi hj hij (lt i hi ei hfi).2 (lt j hj ej hfj).2
  · obtain ⟨b1, b2, b3, b4, b5⟩ := h.inn (p % c) hk0 hf
    have hl := fr_len p c (p % c)
    refine RunsTo.draws ((draw_ref h.t4 h.t6 h.t1 h.h55 h.h327 hc0 hkk (b := nm (p % c)) (m := (fr p c (p % c)).length) (data := rowsF (fr p c (p % c))) (by rw [hget]; unfold cell; rw [if_neg hf]) b1 (by simp [rowsF]) (by omega) b2 b3 b5 (by omega)).mono ?_)
    rintro T' H' l ⟨rfl, hT, hfo⟩
    refine ⟨hfo, fin T' _ nm (fun j => if j = p % c then 1 else 0) hT fun T'' nx'' hge hge2 q1 q4 q28 q29 => ?_⟩
    have hw : nx + 272 ≤ nx'' := hge2
    have new : fr (p + 1) c (p % c) = fr p c (p % c) ++ [p] := by rw [fr_succ, if_pos rfl]
    have ne : ∀ j, j < c → fr (p + 1) c j ≠ [] → fr p c j ≠ [] := fun j hj hfj => by
      by_cases e : j = p % c
      · rw [e]; exact hf
      · rw [old j hj e] at hfj; exact hfj
    refine ⟨q1, q4, q28, q29, ?_, ?_, ?_, fun j hj hfj => ?_, fun i j hi hj hij hfi hfj => h.dis i j hi hj hij (ne i hi hfi) (ne j hj hfj), by omega⟩
    · simp only [hset]
      rw [if_neg (by omega), if_neg (fun x => b3 x.symm), if_neg (by omega)]; exact h.h55
    · simp only [hset]
      rw [if_neg (by omega), if_neg (fun x => b4 x.symm), if_neg (by omega)]; exact h.h391
    · simp only [hset, if_true]
      rw [et, Int.toNat_natCast, Nat.zero_add, range_set]
      refine congrArg some (congrArg (ABlk.row 1 0) (List.map_congr_left fun j hj => ?_))
      have hj' := List.mem_range.1 hj
      by_cases e : j = p % c
      · subst e
        rw [if_pos rfl, if_pos rfl, new]
        unfold cell
        rw [if_neg (by simp)]
        simp
      · rw [if_neg e, if_neg e, old j hj' e]
    · by_cases e : j = p % c
      · subst e
        refine ⟨?_, by omega, b3, b4, b5⟩
        simp only [hset, if_true]
        rw [if_neg b5, new]
        unfold rowsF
        rw [List.map_append]; rfl
      · rw [old j hj e] at hfj ⊢
        obtain ⟨a1, a2, a3, a4, a5⟩ := h.inn j hj hfj
        refine ⟨?_, by omega, a3, a4, a5⟩
        simp only [hset]
        rw [if_neg a5, if_neg (h.dis j (p % c) hj hk0 e hfj hf), if_neg (by omega), if_neg e]; exact a1
end
section
variable {k : List AItem} {T : Tmps} {H : Heap} {nx : Nat} {Q : Tmps → Heap → Nat → Prop}
theorem body_go {n c p nx0 : Nat} {nm : Nat → Nat} (h : St n c p nm (fun _ => 0) T H nx) (hp : p < n) (hn : n ≤ 64) (hc : 0 < c)
    (hk : ∀ T' H' nx' nm', St n c (p + 1) nm' (fun _ => 0) T' H' nx' → RunsTo (.code body :: .inLoop body nx0 :: k) T' H' nx' Q) : RunsTo (.code body :: .inLoop body nx0 :: k) T H nx Q := by
  have hbig := h.big
  refine RunsTo.seq (RunsTo.seqs ?_)
  conv in (Array.toList reg6) => whnf
  (refine Seqs.step ⟨.d (.v (.bool (decide ((p : Int) < (n : Int))))), []⟩ ?_ ?_ ?_; exact rfl; exact (e_lss _ h.t29 h.t28))
  refine Seqs.nil (RunsTo.seq (RunsTo.condT ?_ (RunsTo.skip (RunsTo.seq (RunsTo.block (RunsTo.seq (RunsTo.seqs ?_)))))))
  · show (AV.d (.v (.bool (decide ((p : Int) < (n : Int)))))) = _
    rw [decide_eq_true (by omega)]
  conv in (Array.toList reg7) => whnf
  (refine Seqs.step ⟨I (p : Int), []⟩ ?_ ?_ ?_; exact rfl; exact (e_move _ (by exact h.t29)))
  (refine Seqs.step ⟨I (p : Int), []⟩ ?_ ?_ ?_; exact rfl; exact (e_assign _ rfl))
  refine Seqs.nil (RunsTo.seq (RunsTo.seqs ?_))
  conv in (Array.toList reg8) => whnf
  (refine Seqs.step ⟨.ptr 55 0 0 0, []⟩ ?_ ?_ ?_; exact rfl; exact (e_fld _ (by exact h.t4) F250))
  (refine Seqs.step ⟨.ref 391 0 0 n, []⟩ ?_ ?_ ?_; exact rfl; exact (e_load _ (b := 55) (ver := 0) (n := 0) (o := 0) rfl h.h55 rfl rfl Z22 G22))
  (refine Seqs.step ⟨I (p : Int), []⟩ ?_ ?_ ?_; exact rfl; exact (e_move _ rfl))
  (refine Seqs.step ⟨.ptr 391 0 (0 + (p : Int).toNat) 0, []⟩ ?_ ?_ ?_; exact rfl; exact (e_index _ U22 P22 rfl rfl (by exact h.h391) ⟨by omega, by omega⟩))
  (refine Seqs.step ⟨.ptr 391 0 (0 + (p : Int).toNat) (0 + 6), []⟩ ?_ ?_ ?_; exact rfl; exact (e_fldP _ rfl F276))
  have ep : 0 + (p : Int).toNat = p := by omega
  have hg : (things n p)[0 + (p : Int).toNat]? = some R0 := by rw [ep]; exact things_get hp
  (refine Seqs.step ⟨undefA, [(391, some (.row 8 0 ((things n p).set (0 + (p : Int).toNat) R1)))]⟩ ?_ ?_ ?_; exact rfl; exact (e_set _ rfl (by exact h.h391) hg))
  refine Seqs.nil ?_
  refine mid_go (nm := nm) (n := n) (c := c) (p := p) ⟨h.t1, h.t4, rfl, h.t28, h.t29, ?_, ?_, ?_, fun j hj hf => ?_, h.dis, by simp only [wide]; omega⟩ hp hn hc (a := .skip) ?_
  · exact h.h55
  · show some (ABlk.row 8 0 ((things n p).set (0 + (p : Int).toNat) R1)) = _
    rw [ep, things_set hp]
  · exact h.h327
  · obtain ⟨a1, a2, a3, a4, a5⟩ := h.inn j hj hf
    refine ⟨?_, by simp only [wide]; omega, a3, a4, a5⟩
    show hset H 391 _ (nm j) = _
    simp only [hset]
    rw [if_neg a4]; exact a1
  · intro T' H' nx' nm' vr' hS
    exact RunsTo.round (hk _ _ _ nm' (hS.can (Nat.le_refl _)))
theorem loop_go {n c nx0 : Nat} (hn : n ≤ 64) (hc : 0 < c) (hk : ∀ T' H' nx' nm', St n c n nm' (fun _ => 0) T' H' nx' → RunsTo k T' H' nx' Q) : ∀ (m p : Nat) (T : Tmps) (H : Heap) (nx : Nat) (nm : Nat → Nat), p + m = n → St n c p nm (fun _ => 0) T H nx →
    RunsTo (.code body :: .inLoop body nx0 :: .inBlock 0 :: k) T H nx Q := by
  intro m
  induction m with
  | zero =>
    intro p T H nx nm hp h
    have e : p = n := by omega
    subst e
    exact body_end h (by omega) fun T' nx' hS => hk T' H nx' nm hS
  | succ m ih =>
    intro p T H nx nm hp h
    exact body_go h (by omega) hn hc fun T' H' nx' nm' hS => ih (p + 1) T' H' nx' nm' (by omega) hS
end
section
variable {k : List AItem} {T : Tmps} {H : Heap} {nx : Nat} {Q : Tmps → Heap → Nat → Prop}
section
variable (aft : Array Edge) {K : Call} {f : Nat}
theorem Z25t : tzero cfg.P 25 = some [.nil 8, .nil 1] := by kernel_rfl
theorem Z48t : tzero cfg.P 48 = some [.nil 1] := by kernel_rfl
theorem Z27t : tzero cfg.P 27 = some R0 := by kernel_rfl
theorem G25 : tagg cfg.P 25 = true := by kernel_rfl
theorem e_alloc {pos : String} {i : Nat} : operOut cfg K FN T H 55 { dst := some i, op := .alloc 25, type := 0, pos := pos, after := aft, guard := none } = some (.eff ⟨.ptr 55 0 0 0, [(55, some (.row 2 0 [[.ref 56 0 0 0, .ref 57 0 0 0]])), (56, some (.row 8 0 [])), (57, some (.row 1 0 []))]⟩) := by
  simp [operOut, eff, Z25t, nzL, mkRow, virt, FN]
theorem e_assignc {pos : String} {i t : Nat} {m : Nat} : operOut cfg K FN T H f { dst := some i, op := .assign (.const (.int .i64 (Int.ofNat m))), type := t, pos := pos, after := aft, guard := none } = some (.eff ⟨I m, []⟩) := by
  simp [operOut, eff, aeval, constA, assignA]
theorem e_cmp {pos : String} {i a t : Nat} {x : Int} {m : Nat} {g : Option (Nat × Bool)} (h1 : T a = I x) (hx : ¬ x < m) : operOut cfg K FN T H f { dst := some i, op := .binOp .lss 3 (.tmp a) (.const (.int .i64 (Int.ofNat m))) 3, type := t, pos := pos, after := aft, guard := g } = some (.eff ⟨.d (.v (.bool false)), []⟩) := by
  simp [operOut, eff, aeval, h1, binA, intOp, constA]
  omega
theorem e_cmpg {pos : String} {i a t : Nat} {x : Int} {m : Nat} {g : Option (Nat × Bool)} (h1 : T a = I x) (hx : ¬ x > m) : operOut cfg K FN T H f { dst := some i, op := .binOp .gtr 3 (.tmp a) (.const (.int .i64 (Int.ofNat m))) 3, type := t, pos := pos, after := aft, guard := g } = some (.eff ⟨.d (.v (.bool false)), []⟩) := by
  simp [operOut, eff, aeval, h1, binA, intOp, constA]
  omega
theorem e_moveg {pos : String} {i j t : Nat} {v : AV} {g : Option (Nat × Bool)} (h : T j = v) : operOut cfg K FN T H f { dst := some i, op := .move (.tmp j), type := t, pos := pos, after := aft, guard := g } = some (.eff ⟨v, []⟩) := by
  simp [operOut, eff, aeval, h]
theorem e_movec {pos : String} {i t : Nat} {m : Nat} : operOut cfg K FN T H f { dst := some i, op := .move (.const (.int .i64 (Int.ofNat m))), type := t, pos := pos, after := aft, guard := none } = some (.eff ⟨I m, []⟩) := by
  simp [operOut, eff, aeval, constA]
theorem e_pickF {pos : String} {i a b t : Nat} {g : Option (Nat × Bool)} (h1 : T a = .d (.v (.bool false))) (h2 : T b = .d (.v (.bool false))) : operOut cfg K FN T H f { dst := some i, op := .pick (.tmp a) (.const (.bool true)) (.tmp b), type := t, pos := pos, after := aft, guard := g } = some (.eff ⟨.d (.v (.bool false)), []⟩) := by
  simp [operOut, eff, aeval, h1, h2]
theorem e_make {pos : String} {i a e s by0 t n : Nat} {z : List AV} (ht : tsl cfg.P t = some (e, s, by0)) (hz : tzero cfg.P e = some z) (hs : z.length = s) (h : T a = I (n : Int)) (h64 : n ≤ 64) (hb : by0 ≤ 64 ∧ s ≤ 64) : operOut cfg K FN T H f { dst := some i, op := .makeSlice t (.tmp a) (.tmp a), type := t, pos := pos, after := aft, guard := none } = some (.eff ⟨.ref f 0 0 n, [(f, some (.row s 0 (List.replicate n z)))]⟩) := by
  have b1 : (n : Int) * by0 ≤ 2 ^ 47 := by
    have : n * by0 ≤ 64 * 64 := Nat.mul_le_mul h64 hb.1
    have : ((n * by0 : Nat) : Int) ≤ 4096 := by omega
    rw [Int.natCast_mul] at this
    omega
  have b2 : (n : Int) * s ≤ 2 ^ 47 := by
    have : n * s ≤ 64 * 64 := Nat.mul_le_mul h64 hb.2
    have : ((n * s : Nat) : Int) ≤ 4096 := by omega
    rw [Int.natCast_mul] at this
    omega
  simp [operOut, eff, aeval, ht, hz, hs, h, asInt, room]
  simp at b1 b2
  rw [if_pos (by omega)]
theorem e_storeR {pos : String} {a b t o c len : Nat} {r r' : List AV} (hz : tsz cfg.P t = some 1) (h1 : T a = .ptr 55 0 0 o) (h2 : T b = .ref c 0 0 len) (hb : H 55 = some (.row 2 0 [r])) (hl : o + 1 ≤ r.length) (hr : putCells r o [.ref c 0 0 len] = r') : operOut cfg K FN T H f { dst := none, op := .store t (.tmp a) (.tmp b), type := 0, pos := pos, after := aft, guard := none } = some (.eff ⟨undefA, [(55, some (.row 2 0 [r']))]⟩) := by
  simp [operOut, eff, aeval, h1, h2, hb, hz, okCells, AV.cells, nzA, tyNil, virt, FN, hl, hr]
end
/-- Up to the loop. -/
theorem start_go {n c : Nat} (hn : 1 ≤ n ∧ n ≤ 64) (hc : 1 ≤ c ∧ c ≤ 64) (h0 : T 0 = I (n : Int)) (h1 : T 1 = I (c : Int))
    (hk : ∀ T' H' nx' nm', St n c n nm' (fun _ => 0) T' H' nx' → RunsTo (.code ((Code.region 11 reg11 false).seq Code.ret) :: []) T' H' nx' Q) : RunsTo [.code code] T noHeap 55 Q := by
  unfold code
  refine RunsTo.seq (RunsTo.seqs ?_)
  conv in (Array.toList reg0) => whnf
  (refine Seqs.step ⟨.ptr 55 0 0 0, [(55, some (.row 2 0 [[.ref 56 0 0 0, .ref 57 0 0 0]])), (56, some (.row 8 0 [])), (57, some (.row 1 0 []))]⟩ ?_ ?_ ?_; exact rfl; exact (e_alloc _))
  (refine Seqs.step ⟨I (0 : Nat), []⟩ ?_ ?_ ?_; exact rfl; exact (e_assignc _))
  refine Seqs.nil (RunsTo.seq (RunsTo.seq (RunsTo.seqs ?_)))
  conv in (Array.toList reg1) => whnf
  (refine Seqs.step ⟨I (n : Int), []⟩ ?_ ?_ ?_; exact rfl; exact (e_moveg _ (by exact h0)))
  (refine Seqs.step ⟨.d (.v (.bool false)), []⟩ ?_ ?_ ?_; exact rfl; exact (e_cmp _ (x := (n : Int)) (m := 1) rfl (by omega)))
  (refine Seqs.step ⟨.d (.v (.bool false)), []⟩ ?_ ?_ ?_; exact rfl; exact (e_moveg _ rfl))
  (refine Seqs.step ⟨I (n : Int), []⟩ ?_ ?_ ?_; exact rfl; exact (e_moveg _ (by exact h0)))
  (refine Seqs.step ⟨.d (.v (.bool false)), []⟩ ?_ ?_ ?_; exact rfl; exact (e_cmpg _ (x := (n : Int)) (m := 64) rfl (by omega)))
  (refine Seqs.step ⟨.d (.v (.bool false)), []⟩ ?_ ?_ ?_; exact rfl; exact (e_pickF _ rfl rfl))
  (refine Seqs.step ⟨.d (.v (.bool false)), []⟩ ?_ ?_ ?_; exact rfl; exact (e_moveg _ rfl))
  (refine Seqs.step ⟨I (c : Int), []⟩ ?_ ?_ ?_; exact rfl; exact (e_moveg _ (by exact h1)))
  (refine Seqs.step ⟨.d (.v (.bool false)), []⟩ ?_ ?_ ?_; exact rfl; exact (e_cmp _ (x := (c : Int)) (m := 1) rfl (by omega)))
  (refine Seqs.step ⟨.d (.v (.bool false)), []⟩ ?_ ?_ ?_; exact rfl; exact (e_pickF _ rfl rfl))
  (refine Seqs.step ⟨.d (.v (.bool false)), []⟩ ?_ ?_ ?_; exact rfl; exact (e_moveg _ rfl))
  (refine Seqs.step ⟨I (c : Int), []⟩ ?_ ?_ ?_; exact rfl; exact (e_moveg _ (by exact h1)))
  (refine Seqs.step ⟨.d (.v (.bool false)), []⟩ ?_ ?_ ?_; exact rfl; exact (e_cmpg _ (x := (c : Int)) (m := 64) rfl (by omega)))
  (refine Seqs.step ⟨.d (.v (.bool false)), []⟩ ?_ ?_ ?_; exact rfl; exact (e_pickF _ rfl rfl))
  refine Seqs.nil (RunsTo.condF rfl (RunsTo.skip (RunsTo.seq (RunsTo.seqs ?_))))
  conv in (Array.toList reg3) => whnf
  (refine Seqs.step ⟨I (c : Int), []⟩ ?_ ?_ ?_; exact rfl; exact (e_moveg _ (by exact h1)))
  (refine Seqs.step ⟨.ref 327 0 0 c, [(327, some (.row 1 0 (List.replicate c [.nil 1])))]⟩ ?_ ?_ ?_; exact rfl; exact (e_make _ P23 Z48t rfl rfl hc.2 ⟨by omega, by omega⟩))
  (refine Seqs.step ⟨.ptr 55 0 0 1, []⟩ ?_ ?_ ?_; exact rfl; exact (e_fld _ rfl F251))
  (refine Seqs.step ⟨undefA, [(55, some (.row 2 0 [[.ref 56 0 0 0, .ref 327 0 0 c]]))]⟩ ?_ ?_ ?_; exact rfl; exact (e_storeR _ (r := [.ref 56 0 0 0, .ref 57 0 0 0]) Z23 rfl rfl rfl (by decide) rfl))
  refine Seqs.nil (RunsTo.seq (RunsTo.seqs ?_))
  conv in (Array.toList reg4) => whnf
  (refine Seqs.step ⟨I (n : Int), []⟩ ?_ ?_ ?_; exact rfl; exact (e_moveg _ (by exact h0)))
  (refine Seqs.step ⟨.ref 391 0 0 n, [(391, some (.row 8 0 (List.replicate n R0)))]⟩ ?_ ?_ ?_; exact rfl; exact (e_make _ P22 Z27t rfl rfl hn.2 ⟨by omega, by omega⟩))
  (refine Seqs.step ⟨.ptr 55 0 0 0, []⟩ ?_ ?_ ?_; exact rfl; exact (e_fld _ rfl F250))
  (refine Seqs.step ⟨undefA, [(55, some (.row 2 0 [[.ref 391 0 0 n, .ref 327 0 0 c]]))]⟩ ?_ ?_ ?_; exact rfl; exact (e_storeR _ (r := [.ref 56 0 0 0, .ref 327 0 0 c]) Z22 rfl rfl rfl (by simp) rfl))
  refine Seqs.nil (RunsTo.seq (RunsTo.seq (RunsTo.seqs ?_)))
  conv in (Array.toList reg5) => whnf
  (refine Seqs.step ⟨I (n : Int), []⟩ ?_ ?_ ?_; exact rfl; exact (e_moveg _ (by exact h0)))
  (refine Seqs.step ⟨I (0 : Nat), []⟩ ?_ ?_ ?_; exact rfl; exact (e_movec _))
  refine Seqs.nil (RunsTo.block (RunsTo.loop ?_))
  refine loop_go hn.2 (by omega) hk n 0 _ _ _ (fun _ => 0) (by omega) (St.can (vr := fun _ => 0) (nx := 471) ⟨?_, rfl, rfl, rfl, rfl, ?_, ?_, fun j hj hf => absurd rfl hf, fun i j hi hj hij hf => absurd rfl hf, by omega⟩ (by simp only [upN, wide]; omega))
  · exact h1
  · show some (ABlk.row 8 0 (List.replicate n R0)) = some (.row 8 0 (things n 0))
    rfl
  · show some (ABlk.row 1 0 (List.replicate c [.nil 1])) = _
    refine congrArg some (congrArg (ABlk.row 1 0) ?_)
    refine List.ext_getElem (by simp) fun i h1 h2 => ?_
    simp
    rfl
end
section
variable {k : List AItem} {T : Tmps} {H : Heap} {nx : Nat} {Q : Tmps → Heap → Nat → Prop}
theorem mapO_map {α β γ : Type} (f : β → Option γ) (g : α → β) (h : α → γ) : ∀ (l : List α), (∀ x ∈ l, f (g x) = some (h x)) → mapO f (l.map g) = some (l.map h)
  | [], _ => rfl
  | x :: r, hx => by
    simp only [List.map_cons, mapO]
    rw [hx x (by simp), mapO_map f g h r (fun y hy => hx y (List.mem_cons_of_mem _ hy))]
def z1 : Th := ⟨0, 0, 0, 0, 0, 0, -1, 0⟩
def ints (f : List Nat) : List Int := f.map fun (x : Nat) => (x : Int)
def newA (n c : Nat) : A := ⟨List.replicate n z1, (List.range c).map fun j => ints (fr n c j)⟩
def newV (n c : Nat) : AV := .tup [.agg [.d (.lst 8 ((newA n c).things.map encT)), .d (.lst 1 ((newA n c).free.map encL))], .d (.v (.int .i64 0))]
/-- The memory at the end. -/
structure Fin (n c : Nat) (T : Tmps) (H : Heap) : Prop where
  t4 : T 4 = .ptr 55 0 0 0
  t5 : T 5 = I 0
  h55 : H 55 = some (.row 2 0 [[.ref 391 0 0 n, .ref 327 0 0 c]])
  h391 : H 391 = some (.row 8 0 (List.replicate n R1))
  inn : ∃ nm : Nat → Nat, H 327 = some (.row 1 0 ((List.range c).map fun j => [cell (nm j) 0 (fr n c j)])) ∧ ∀ j, j < c → fr n c j ≠ [] → H (nm j) = some (.row 1 0 (rowsF (fr n c j)))
theorem end_go {n c : Nat} {nm : Nat → Nat} (h : St n c n nm (fun _ => 0) T H nx) (hq : ∀ T' H' nx', Fin n c T' H' → Q T' H' nx') : RunsTo [.code ((Code.region 11 reg11 false).seq Code.ret)] T H nx Q := by
  refine RunsTo.seq (RunsTo.seqs ?_)
  conv in (Array.toList reg11) => whnf
  refine Seqs.step ⟨.agg [.ref 391 0 0 n, .ref 327 0 0 c], []⟩ rfl ?_ ?_
  · simp [operOut, eff, aeval, h.t4, h.h55, Z25, G25, getCells, partA]
  refine Seqs.step ⟨undefA, [(55, some (.row 2 0 [[.ref 391 0 0 n, .ref 327 0 0 c]]))]⟩ rfl ?_ ?_
  · have e1 : T 4 = .ptr 55 0 0 0 := h.t4
    have e2 : H 55 = _ := h.h55
    simp [operOut, eff, aeval, putT, tset, writes, e1, e2, Z25, okCells, AV.cells, nzA, nzL, tyNil, virt, putCells, FN]
  (refine Seqs.step ⟨I (0 : Nat), []⟩ ?_ ?_ ?_; exact rfl; exact (e_assignc _))
  refine Seqs.nil (RunsTo.ret (hq _ _ _ ⟨h.t4, rfl, rfl, ?_, nm, ?_, fun j hj hf => ?_⟩))
  · show H 391 = _
    rw [h.h391]; unfold things; simp
  · exact h.h327
  · obtain ⟨a1, a2, a3, a4, a5⟩ := h.inn j hj hf
    show hset H 55 _ (nm j) = _
    simp only [hset]
    rw [if_neg a3]; exact a1
theorem fn_is : (cfg.P.funcs[14]?.map fun fn => (fn.body, fn.ntmps, fn.results)) = some (some code, 55, #[.cell 4 25, .tmp 5]) := by kernel_rfl
theorem toD_ints (H : Heap) (m : Nat) (f : List Nat) : mapO (fun r => mapO (toD allB H (m + 1)) r) (rowsF f) = some ((ints f).map ei) := by
  unfold rowsF ints
  rw [List.map_map]
  refine mapO_map _ _ _ f fun x hx => rfl
theorem fin_val {n c : Nat} (h : Fin n c T H) : snap allB H 4 (.tup [.agg [.ref 391 0 0 n, .ref 327 0 0 c], I 0]) = some (newV n c) := by
  obtain ⟨nm, h1, h2⟩ := h.inn
  have a1 : toD allB H 4 (.ref 391 0 0 n) = some (.lst 8 ((newA n c).things.map encT)) := by
    have : mapO (fun r => mapO (toD allB H 3) r) (List.replicate n R1) = some ((List.replicate n z1).map encT) := by
      have := mapO_map (fun r => mapO (toD allB H 3) r) (fun _ : Th => R1) (fun _ => encT z1) (List.replicate n z1) (fun _ _ => rfl)
      rw [List.map_replicate, List.map_replicate] at this
      rw [this, List.map_replicate]
    simp only [toD, allB, if_true, h.h391, List.drop_zero]
    rw [List.take_of_length_le (by simp)]
    rw [this]; rfl
  have a2 : toD allB H 4 (.ref 327 0 0 c) = some (.lst 1 ((newA n c).free.map encL)) := by
    have : mapO (fun r => mapO (toD allB H 3) r) ((List.range c).map fun j => [cell (nm j) 0 (fr n c j)]) = some ((newA n c).free.map encL) := by
      unfold newA
      rw [List.map_map]
      refine mapO_map _ _ _ _ fun j hj => ?_
      have hj' := List.mem_range.1 hj
      unfold cell
      by_cases hf : fr n c j = []
      · rw [if_pos hf]
        simp only [Function.comp, hf]
        rfl
      · rw [if_neg hf]
        have b := h2 j hj' hf
        have : toD allB H 3 (.ref (nm j) 0 0 (fr n c j).length) = some (.lst 1 ((ints (fr n c j)).map ei)) := by
          rw [toD]
          simp only [allB, if_true, b, List.drop_zero]
          rw [List.take_of_length_le (by simp [rowsF])]
          rw [toD_ints H 1]
        simp only [mapO, this]
        rfl
    rw [toD]
    simp only [allB, if_true, h1, List.drop_zero]
    rw [List.take_of_length_le (by simp)]
    rw [this]
  simp only [snap, mapO, a1, a2]
  rfl
theorem new_ok0 (n c : Nat) (hn : 1 ≤ n ∧ n ≤ 64) (hc : 1 ≤ c ∧ c ≤ 64) : valω cfg 14 [I (n : Int), I (c : Int)] = some (newV n c) := by
  have hfn := fn_is
  cases hf : cfg.P.funcs[14]? with
  | none => rw [hf] at hfn; cases hfn
  | some fn =>
    rw [hf] at hfn
    simp only [Option.map_some, Option.some.injEq, Prod.mk.injEq] at hfn
    obtain ⟨hb, hnt, hres⟩ := hfn
    obtain ⟨T', H', nx', hr, hq⟩ := start_go (T := argsT [I (n : Int), I (c : Int)]) (Q := fun T' H' _ => Fin n c T' H') hn hc rfl rfl fun T' H' nx' nm' hS => end_go hS fun _ _ _ h => h
    have hv : resultsA cfg.P fn T' H' = some (.tup [.agg [.ref 391 0 0 n, .ref 327 0 0 c], I 0]) := by
      unfold resultsA
      rw [hres]
      simp [mapO, resultOf, loadA, eff, hq.t4, hq.t5, hq.h55, Z25, G25, getCells, partA]
    have hr' : Runs cfg ⟨0, 0 + fn.ntmps, cfg.trim 14, cfg.names 14, cfg.virt 14⟩ [.code code] (argsT [I (n : Int), I (c : Int)]) noHeap (0 + fn.ntmps) (T', H', nx') := by
      rw [hnt]; exact hr
    have hcall := callω_of hf hb (by rw [hnt]; simp) hr' hv
    unfold valω byValue
    rw [hcall]
    simp only [fin_val hq]
/-- A new arena. -/
theorem new_ok (n c : Nat) (hn : 1 ≤ n ∧ n ≤ 64) (hc : 1 ≤ c ∧ c ≤ 64) : retω cfg [.agg [.lst 8, .lst 1], .one (.int .i64)] 14 [.d (.v (.int .i64 (n : Int))), .d (.v (.int .i64 (c : Int)))] = some (((newA n c).things.map encT, ((newA n c).free.map encL, ())), ((0 : Int), ())) := by
  unfold retω retOf
  rw [new_ok0 n c hn hc]
  rfl
end
end Arena
end Go.AI
