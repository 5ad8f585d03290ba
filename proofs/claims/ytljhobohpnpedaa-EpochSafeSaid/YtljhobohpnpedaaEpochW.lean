/-
  Own work. EpochSafe: the variable that holds rows of rows, known by a law of its own; the regions that touch it, one operation after the other.
-/
import Derived.Test.YtljhobohpnpedaaToldS
import Derived.KernelRfl
import Derived.Test.YtljhobohpnpedaaAiKit
namespace Go.AI
open Go
set_option linter.unusedVariables false
set_option linter.unusedSimpArgs false
namespace Safe
def rowB (l : List Bool) : List (List AV) := l.map fun b => [AV.d (.v (.bool b))]
/-- In the variable lie i rows at the most, each a block of its own. -/
structure SJw (rs : List (Nat × List Bool)) (i : Nat) (T : Tmps) (H : Heap) (v9 : Nat) (vr : Nat → Nat) : Prop where
  t9 : T 9 = .ref 9 v9 0 rs.length
  h9 : H 9 = some (.row 1 v9 (rs.map fun r => [AV.ref r.1 (vr r.1) 0 r.2.length]))
  inn : ∀ r ∈ rs, 20 ≤ r.1 ∧ r.1 < 20 + i ∧ H r.1 = some (.row 1 (vr r.1) (rowB r.2))
  free : ∀ b, 20 + i ≤ b → b < 140 → H b = none
def SJ (rs : List (Nat × List Bool)) (i : Nat) : JT := fun T H => i ≤ 120 ∧ (rs.map (·.1)).Nodup ∧ ∃ v9 vr, SJw rs i T H v9 vr
theorem den_at {V V' : VHeap} {b : Nat} (h : V' b = V b) : den V' b = den V b := by unfold den; rw [h]
theorem canV_ref' {H : Heap} {b ver len s off : Nat} {data : List (List AV)} (h : H b = some (.row s ver data)) : canV true 0 H 4 (.ref b ver off len) = .ref b 0 off len := by
  simp [canV, h]
theorem canH_row' {H : Heap} {b ver s : Nat} {data : List (List AV)} (h : H b = some (.row s ver data)) : canH true 0 H b = some (.row s 0 (data.map fun r => r.map (canV true 0 H 4))) := by
  simp [canH, h, canB]
theorem rowB_can (H : Heap) (l : List Bool) : ((rowB l).map fun r => r.map (canV true 0 H 4)) = rowB l := by
  unfold rowB; rw [List.map_map]; rfl
theorem rowB_frz (p : Nat → Bool) (H : Heap) (l : List Bool) : ((rowB l).map fun r => r.map (frzV p H 4)) = rowB l := by
  unfold rowB; rw [List.map_map]; rfl
theorem frzH_row {p : Nat → Bool} {H : Heap} {b ver s : Nat} {data : List (List AV)} (hp : p b = false) (h : H b = some (.row s ver data)) : frzH p H b = some (.row s ver (data.map fun r => r.map (frzV p H 4))) := by
  simp [frzH, hp, h, frzB]
theorem frzV_ref {p : Nat → Bool} {H : Heap} {b ver off len : Nat} (hp : p b = false) : frzV p H 4 (.ref b ver off len) = .ref b ver off len := by
  simp [frzV, hp]
theorem SJ.stab (rs : List (Nat × List Bool)) (i : Nat) : Stab (SJ rs i) where
  only T T' V V' hT hV h := by
    obtain ⟨hi, hn, v9, vr, h⟩ := h
    obtain ⟨e9, eb⟩ := pV_at hV
    refine ⟨hi, hn, v9, vr, ?_, ?_, fun g hg => ?_, fun b h1 h2 => ?_⟩
    · show pT T' = _; rw [hT]; exact h.t9
    · rw [den_at e9]; exact h.h9
    · obtain ⟨a, b, c⟩ := h.inn g hg
      exact ⟨a, b, by rw [den_at (eb g.1 a (by omega))]; exact c⟩
    · rw [den_at (eb b (by omega) h2)]; exact h.free b h1 h2
  can T H h := by
    obtain ⟨hi, hn, v9, vr, h⟩ := h
    refine ⟨hi, hn, 0, fun _ => 0, ?_, ?_, fun g hg => ?_, fun b h1 h2 => ?_⟩
    · show canV true 0 H 4 (T 9) = _; rw [h.t9, canV_ref' h.h9]
    · rw [canH_row' h.h9, List.map_map]
      refine congrArg some (congrArg (ABlk.row 1 0) (List.map_congr_left fun g hg => ?_))
      simp only [Function.comp, List.map_cons, List.map_nil]
      rw [canV_ref' (h.inn g hg).2.2]
    · obtain ⟨a, b, c⟩ := h.inn g hg
      exact ⟨a, b, by rw [canH_row' c, rowB_can]⟩
    · simp [canH, h.free b h1 h2]
  frz n T H hl h := by
    obtain ⟨hi, hn, v9, vr, h⟩ := h
    have hp : ∀ b, b < 140 → (fun b => Nat.ble n b) b = false := fun b hb => by
      show Nat.ble n b = false
      cases e : Nat.ble n b with
      | false => rfl
      | true => have := Nat.le_of_ble_eq_true e; omega
    refine ⟨hi, hn, v9, vr, ?_, ?_, fun g hg => ?_, fun b h1 h2 => ?_⟩
    · show frzV _ H 4 (T 9) = _; rw [h.t9, frzV_ref (hp 9 (by omega))]
    · rw [frzH_row (hp 9 (by omega)) h.h9, List.map_map]
      refine congrArg some (congrArg (ABlk.row 1 v9) (List.map_congr_left fun g hg => ?_))
      simp only [Function.comp, List.map_cons, List.map_nil]
      rw [frzV_ref (hp g.1 (by have := (h.inn g hg).2.1; omega))]
    · obtain ⟨a, b, c⟩ := h.inn g hg
      exact ⟨a, b, by rw [frzH_row (hp g.1 (by omega)) c, rowB_frz]⟩
    · simp [frzH, h.free b h1 h2]
theorem SJ.new (T : Tmps) (V : VHeap) (h : newQ (pT T) (pV V)) : SJ [] 0 T (den V) := by
  obtain ⟨h1, h2⟩ := h
  have hV : pV V = pV (fun b => if b = 9 then some (.drow 1 0 []) else none) := by
    rw [h2]; rfl
  obtain ⟨e9, eb⟩ := pV_at hV.symm
  refine ⟨by omega, List.nodup_nil, 0, fun _ => 0, h1, ?_, fun g hg => absurd hg (by simp), fun b h3 h4 => ?_⟩
  · unfold den; rw [← e9]; rfl
  · unfold den; rw [← eb b (by omega) h4]
    show denO (if b = 9 then _ else none) = none
    rw [if_neg (by omega)]; rfl

/-! Memory that can be said in the form of the symbols. -/
def Sayable (H : Heap) : Prop := ∃ V, den V = H
theorem Sayable.den (V : VHeap) : Sayable (den V) := ⟨V, rfl⟩
theorem Sayable.set {H : Heap} (h : Sayable H) (b s v : Nat) (d : List (List AV)) : Sayable (hset H b (some (.row s v d))) := by
  obtain ⟨V, rfl⟩ := h
  refine ⟨vset V b (some (.raw s v d)), ?_⟩
  funext c
  unfold Go.AI.den vset hset
  by_cases e : c = b
  · simp [e, denO, VBlk.den]
  · simp [e]
theorem tsets_eq {T : Tmps} : ∀ {ts : List Nat} {vs : List AV}, (∀ x ∈ ts.zip vs, T x.1 = x.2) → tsets T ts vs = T
  | [], _, _ => by simp [tsets]
  | _ :: _, [], _ => by simp [tsets]
  | t :: ts, v :: vs, h => by
    simp only [tsets]
    rw [tsets_eq fun x hx => h x (by simp [hx])]
    funext u
    simp only [tset]
    split
    · rename_i e; rw [e]; exact (h (t, v) (by simp)).symm
    · rfl
theorem vsets_eq {V : VHeap} : ∀ {ts : List Nat} {vs : List (Option VBlk)}, (∀ x ∈ ts.zip vs, den V x.1 = denO x.2) → den (vsets V ts vs) = den V
  | [], _, _ => by simp [vsets]
  | _ :: _, [], _ => by simp [vsets]
  | t :: ts, v :: vs, h => by
    have ih := vsets_eq (V := V) (ts := ts) (vs := vs) fun x hx => h x (by simp [hx])
    funext u
    simp only [vsets]
    show denO (vset (vsets V ts vs) t v u) = _
    unfold vset
    by_cases e : u = t
    · rw [if_pos e, e]; exact (h (t, v) (by simp)).symm
    · rw [if_neg e]; exact congrFun ih u
/-- From a point on, at a state that is like it. -/
theorem hold_use {J : JT} {C : Cfg} {f : FuncId} {sh : List Sh} {ks : List AItem} {temps : List Nat} {vals : List AV} {blks : List Nat} {bvals : List (Option VBlk)} {nx : Nat} {c : tyS sh} (h : HoldAt J C f sh ks temps vals blks bvals nx c) {T : Tmps} {H : Heap}
    (hs : Sayable H) (hT : ∀ x ∈ temps.zip vals, T x.1 = x.2) (hH : ∀ x ∈ blks.zip bvals, H x.1 = denO x.2) (hj : J T H) : Ends 0 false C f sh ks T H nx c := by
  obtain ⟨V, rfl⟩ := hs
  have := h T V
  rw [tsets_eq hT, vsets_eq hH] at this
  exact this hj
theorem ends_region {C : Cfg} {f : FuncId} {fn : Func} (hf : C.P.funcs[f]? = some fn) {sh : List Sh} {ks : List AItem} {code : Code} {id : Nat} {ops : Array Oper} {draw : Bool} (hc : code = .region id ops draw) {T T' : Tmps} {H H' : Heap} {nx nx' : Nat} {c : tyS sh}
    (hr : region C (callω C) ⟨0, 0 + fn.ntmps, C.trim f, C.names f, C.virt f⟩ ops draw T H nx = some (T', H', nx')) (h : Ends 0 false C f sh ks T' H' nx' c) : Ends 0 false C f sh (.code code :: ks) T H nx c := by
  obtain ⟨fn', hf', T2, H2, nx2, v, r, g1, g2⟩ := h
  rw [hf] at hf'; cases hf'
  refine ⟨fn, hf, T2, H2, nx2, v, r, ?_, g2⟩
  rw [hc]
  refine Runs.region ?_
  unfold RunsO
  rw [hr]
  exact g1
end Safe
end Go.AI
namespace Go.AI
open Go
set_option linter.unusedVariables false
set_option linter.unusedSimpArgs false
namespace Safe
noncomputable abbrev FE : Fm := ⟨0, 0 + Go.Proofs.Try.f5.ntmps, cfg.trim 5, cfg.names 5, cfg.virt 5⟩
/-! In order. -/
def Seqs (K : Call) (F : Fm) (ops : Array Oper) (os : List Oper) (T : Tmps) (H : Heap) (nx : Nat) (Q : Tmps → Heap → Nat → Prop) : Prop := ∃ T' H' nx', seqOps cfg K F ops os T H nx = some (T', H', nx') ∧ Q T' H' nx'
section
variable {K : Call} {F : Fm} {ops : Array Oper} {T : Tmps} {H : Heap} {nx : Nat} {Q : Tmps → Heap → Nat → Prop}
theorem Seqs.nil (h : Q T H nx) : Seqs K F ops [] T H nx Q := ⟨T, H, nx, by simp [seqOps], h⟩
theorem Seqs.step {o : Oper} {r : List Oper} (e : Eff) (hw : wantedA ops T o = some true) (hd : isDeep F o = false) (he : operOut cfg K F T H nx o = some (.eff e)) (hr : Seqs K F ops r (putT T o.dst e.v) (writes H e.wr) (nx + wide) Q) : Seqs K F ops (o :: r) T H nx Q := by
  obtain ⟨T', H', nx', h1, h2⟩ := hr
  refine ⟨T', H', nx', ?_, h2⟩
  unfold seqOps
  rw [hw]
  simp only [hd, Bool.false_eq_true, if_false, he, h1]
theorem Seqs.deep {o : Oper} {r : List Oper} (e : Eff) (hw : wantedA ops T o = some true) (hd : isDeep F o = true) (he : deepOut cfg.P F T H nx o = some e) (hr : Seqs K F ops r (putT T o.dst e.v) (writes H e.wr) (nx + wide) Q) : Seqs K F ops (o :: r) T H nx Q := by
  obtain ⟨T', H', nx', h1, h2⟩ := hr
  refine ⟨T', H', nx', ?_, h2⟩
  unfold seqOps
  rw [hw]
  simp only [hd, if_true, he, h1]
end
theorem ends_seqs {sh : List Sh} {ks : List AItem} {code : Code} {id : Nat} {ops : Array Oper} (hc : code = .region id ops false) {T : Tmps} {H : Heap} {nx : Nat} {c : tyS sh}
    (h : Seqs (callω cfg) FE ops ops.toList T H nx fun T' H' nx' => Ends 0 false cfg 5 sh ks T' H' nx' c) : Ends 0 false cfg 5 sh (.code code :: ks) T H nx c := by
  obtain ⟨T', H', nx', h1, h2⟩ := h
  refine ends_region Go.Proofs.Try.func5 hc (T' := T') (H' := H') (nx' := nx') ?_ h2
  unfold region
  rw [if_neg (by decide)]
  exact h1
/-! In any order. -/
def Draws (K : Call) (F : Fm) (ops : Array Oper) (base : Nat) (os : List Oper) (i : Nat) (T : Tmps) (H : Heap) (Q : Tmps → Heap → List Foot → Prop) : Prop :=
  ∃ T' H' l, drawOps cfg K F ops base os i T H = some (T', H', l) ∧ Q T' H' l
theorem Draws.nil {K : Call} {F : Fm} {ops : Array Oper} {base i : Nat} {T : Tmps} {H : Heap} {Q : Tmps → Heap → List Foot → Prop} (h : Q T H []) : Draws K F ops base [] i T H Q := ⟨T, H, [], by simp [drawOps], h⟩
theorem Draws.step {K : Call} {F : Fm} {ops : Array Oper} {base : Nat} {o : Oper} {r : List Oper} {i : Nat} {T : Tmps} {H : Heap} {Q : Tmps → Heap → List Foot → Prop} (e : Eff) (fd : List Nat) (wr : List Nat) (hg : wantedA ops T o = some true) (hf : footOf F T o = fd)
    (he : operOut cfg K F T (restr H fd) (base + i * wide) o = some (.eff e)) (hw : ((e.wr.map (·.1)).filter fun b => b < base + i * wide || base + i * wide + wide ≤ b) = wr)
    (hr : Draws K F ops base r (i + 1) (putT T o.dst e.v) (writes H e.wr) fun T' H' l => Q T' H' (⟨i, fd, wr⟩ :: l)) : Draws K F ops base (o :: r) i T H Q := by
  obtain ⟨T', H', l, h1, h2⟩ := hr
  refine ⟨T', H', ⟨i, fd, wr⟩ :: l, ?_, h2⟩
  unfold drawOps
  rw [hg]
  simp only [hf, he, h1, hw]
theorem ends_draws {sh : List Sh} {ks : List AItem} {code : Code} {id : Nat} {ops : Array Oper} (hc : code = .region id ops true) (hsolo : isSolo ops = false) {T : Tmps} {H : Heap} {nx : Nat} {c : tyS sh}
    (h : Draws (callω cfg) FE ops nx ops.toList 0 T H fun T' H' l => footOk (Region.before ops) nx l = true ∧ Ends 0 false cfg 5 sh ks T' H' (nx + ops.size * wide) c) : Ends 0 false cfg 5 sh (.code code :: ks) T H nx c := by
  obtain ⟨T', H', l, h1, h2, h3⟩ := h
  refine ends_region Go.Proofs.Try.func5 hc (T' := T') (H' := H') (nx' := nx + ops.size * wide) ?_ h3
  unfold region
  rw [if_pos rfl, hsolo]
  simp only [Bool.false_eq_true, if_false]
  rw [show drawOps cfg (callω cfg) FE ops nx ops.toList 0 T H = some (T', H', l) from h1]
  simp only [h2, if_true]
/-! What the operations do. -/
abbrev I (n : Int) : AV := .d (.v (.int .i64 n))
abbrev B (b : Bool) : AV := .d (.v (.bool b))
theorem P46 : tsl cfg.P 46 = some (45, 1, 24) := by kernel_rfl
theorem P45 : tsl cfg.P 45 = some (4, 1, 1) := by kernel_rfl
theorem U46 : cfg.P.underlying 46 = some (.slice 45) := by kernel_rfl
theorem U45 : cfg.P.underlying 45 = some (.slice 4) := by kernel_rfl
theorem Z45 : tsz cfg.P 45 = some 1 := by kernel_rfl
theorem Z4 : tsz cfg.P 4 = some 1 := by kernel_rfl
theorem Z3 : tsz cfg.P 3 = some 1 := by kernel_rfl
theorem G46 : tagg cfg.P 46 = false := by kernel_rfl
theorem G45 : tagg cfg.P 45 = false := by kernel_rfl
theorem G4 : tagg cfg.P 4 = false := by kernel_rfl
theorem G3 : tagg cfg.P 3 = false := by kernel_rfl
theorem F271 : tfld cfg.P 27 1 = some (1, 1, false) := by kernel_rfl
section
variable (aft : Array Edge) {K : Call} {F : Fm} {T : Tmps} {H : Heap} {fr : Nat}
theorem e_move {pos : String} {i j t : Nat} {v : AV} (h : T j = v) : operOut cfg K F T H fr { dst := some i, op := .move (.tmp j), type := t, pos := pos, after := aft, guard := none } = some (.eff ⟨v, []⟩) := by
  simp [operOut, eff, aeval, h]
theorem e_len {pos : String} {i j b ver off len : Nat} (h : T j = .ref b ver off len) : operOut cfg K F T H fr { dst := some i, op := .call { callee := .builtin .len, args := #[.tmp j], argTypes := #[46] }, type := 3, pos := pos, after := aft, guard := none } = some (.eff ⟨I len, []⟩) := by
  simp [operOut, eff, aeval, h, builtinA, U46, lenA]
theorem e_lss {pos : String} {i a b : Nat} {x y : Int} (h1 : T a = I x) (h2 : T b = I y) : operOut cfg K F T H fr { dst := some i, op := .binOp .lss 3 (.tmp a) (.tmp b) 3, type := 4, pos := pos, after := aft, guard := none } = some (.eff ⟨B (decide (x < y)), []⟩) := by
  simp [operOut, eff, aeval, h1, h2, binA, intOp]
theorem e_index {pos : String} {i j k t e e' : Nat} {b ver off len s by0 : Nat} {data : List (List AV)} {x : Int} (hu : cfg.P.underlying t = some (.slice e)) (ht : tsl cfg.P t = some (e', s, by0)) (h1 : T j = .ref b ver off len) (h2 : T k = I x) (hb : H b = some (.row s ver data)) (hx : 0 ≤ x ∧ x < len) :
    operOut cfg K F T H fr { dst := some i, op := .indexAddr t (.tmp j) (.tmp k), type := 0, pos := pos, after := aft, guard := none } = some (.eff ⟨.ptr b ver (off + x.toNat) 0, []⟩) := by
  simp [operOut, eff, aeval, h1, h2, asInt, hu, ht, hb, hx]
theorem e_load {pos : String} {i j t b ver n o : Nat} {s : Nat} {data : List (List AV)} {r : List AV} {v : AV} (h : T j = .ptr b ver n o) (hb : H b = some (.row s ver data)) (hr : data[n]? = some r) (hv : r[o]? = some v) (hz : tsz cfg.P t = some 1) (hg : tagg cfg.P t = false) :
    operOut cfg K F T H fr { dst := some i, op := .load t (.tmp j), type := t, pos := pos, after := aft, guard := none } = some (.eff ⟨v, []⟩) := by
  obtain ⟨ho, hv⟩ := List.getElem?_eq_some_iff.1 hv
  have hc : getCells r o 1 = some [v] := by
    unfold getCells
    rw [if_pos (by omega), List.drop_eq_getElem_cons ho, hv]; rfl
  simp [operOut, eff, aeval, h, hb, hr, hz, hg, hc, partA]
theorem e_fld {pos : String} {i j b ver n o : Nat} (h : T j = .ptr b ver n o) : operOut cfg K F T H fr { dst := some i, op := .fieldAddr 27 (.tmp j) 1, type := 0, pos := pos, after := aft, guard := none } = some (.eff ⟨.ptr b ver n (o + 1), []⟩) := by
  simp [operOut, eff, aeval, h, F271]
end
/-! The code of each. -/
def opsOf : Code → Array Oper
  | .region _ r _ => r
  | _ => #[]
noncomputable def whole : Code := match Go.Proofs.Try.f5.body with
  | some c => c
  | none => .skip
abbrev p20 : List Nat := [1, 1, 1, 1, 1, 1, 1, 0, 1, 0, 0, 1, 0, 0, 1, 1, 0, 1, 0, 1, 0, 1, 0, 1, 1, 0, 0, 0, 0]
noncomputable def rg20 : Array Oper := opsOf (cAt p20 whole)
theorem is20 : bd cfg 5 p20 = .region 20 rg20 false := by kernel_rfl
/-! What is left alone. -/
def AgT (T : Tmps) : List Nat → List AV → Prop
  | t :: ts, v :: vs => T t = v ∧ AgT T ts vs
  | _, _ => True
def AgH (H : Heap) : List Nat → List (Option VBlk) → Prop
  | t :: ts, v :: vs => H t = denO v ∧ AgH H ts vs
  | _, _ => True
theorem AgT.all {T : Tmps} : ∀ {ts : List Nat} {vs : List AV}, AgT T ts vs → ∀ x ∈ ts.zip vs, T x.1 = x.2
  | [], _, _, x, hx => by simp at hx
  | _ :: _, [], _, x, hx => by simp at hx
  | t :: ts, v :: vs, h, x, hx => by
    simp only [List.zip_cons_cons, List.mem_cons] at hx
    rcases hx with rfl | hx
    · exact h.1
    · exact AgT.all h.2 x hx
theorem AgH.all {H : Heap} : ∀ {ts : List Nat} {vs : List (Option VBlk)}, AgH H ts vs → ∀ x ∈ ts.zip vs, H x.1 = denO x.2
  | [], _, _, x, hx => by simp at hx
  | _ :: _, [], _, x, hx => by simp at hx
  | t :: ts, v :: vs, h, x, hx => by
    simp only [List.zip_cons_cons, List.mem_cons] at hx
    rcases hx with rfl | hx
    · exact h.1
    · exact AgH.all h.2 x hx
theorem r20 {rs : List (Nat × List Bool)} {i : Nat} {x0 : Int} {x1 : List (List DV)} {x7 : Nat} {b8 : List (List DV)} {x10 : Int} {x13 : List (List DV)} {x14 x15 b462 : Int} {b462_1 b462_2 b7 : List (List DV)} {k c o b : Int} {b1 b2 : List (List DV)} {r : Bool × Unit}
    (h : law11_EpochSafe.A20 (SJ rs i) x0 x1 x7 b8 x10 x13 x14 x15 (decide (x15 < (rs.length : Int))) b462 b462_1 b462_2 b7 k c o b b1 b2 r) : law11_EpochSafe.M20 (SJ rs i) x0 x1 x7 b8 x10 x13 x14 x15 b462 b462_1 b462_2 b7 k c o b b1 b2 r := by
  intro T V hj
  obtain ⟨hi, hn, v9, vr, hs⟩ := hj
  refine ends_seqs is20 ?_
  conv in (Array.toList rg20) => whnf
  refine Seqs.step ⟨I x15, []⟩ rfl rfl (e_move _ rfl) ?_
  refine Seqs.step ⟨.ref 9 v9 0 rs.length, []⟩ rfl rfl (e_move _ hs.t9) ?_
  refine Seqs.step ⟨I rs.length, []⟩ rfl rfl (e_len _ rfl) ?_
  refine Seqs.step ⟨B (decide (x15 < (rs.length : Int))), []⟩ rfl rfl (e_lss _ rfl rfl) ?_
  refine Seqs.nil (hold_use h (Sayable.den _) (AgT.all ?_) (AgH.all ?_) ⟨hi, hn, v9, vr, hs.t9, hs.h9, hs.inn, hs.free⟩)
  · repeat (first | exact trivial | refine ⟨rfl, ?_⟩)
  · repeat (first | exact trivial | refine ⟨rfl, ?_⟩)
end Safe
end Go.AI
namespace Go.AI
open Go
set_option linter.unusedVariables false
set_option linter.unusedSimpArgs false
namespace Safe
abbrev p22 : List Nat := [1, 1, 1, 1, 1, 1, 1, 0, 1, 0, 0, 1, 0, 0, 1, 1, 0, 1, 0, 1, 0, 1, 0, 1, 1, 0, 0, 1, 0, 0]
noncomputable def rg22 : Array Oper := opsOf (cAt p22 whole)
theorem is22 : bd cfg 5 p22 = .region 22 rg22 true := by kernel_rfl
theorem bef22 : Region.before rg22 = #[0, 0, 3, 7, 0, 16, 63, 127] := by kernel_rfl
theorem solo22 : isSolo rg22 = false := by kernel_rfl
abbrev p38 : List Nat := [1, 1, 1, 1, 1, 1, 1, 0, 1, 0, 0, 1, 0, 0, 1, 1, 0, 1, 0, 1, 1, 1, 1, 0, 1, 0, 0, 1, 0, 0, 1, 1, 1, 0, 1, 0, 0, 1, 0, 0, 0]
noncomputable def rg38 : Array Oper := opsOf (cAt p38 whole)
theorem is38 : bd cfg 5 p38 = .region 38 rg38 false := by kernel_rfl
theorem restr_in {H : Heap} {F : List Nat} {b : Nat} (h : b ∈ F) : restr H F b = H b := by unfold restr; rw [if_pos (by simpa using h)]
theorem e_storeB (aft : Array Edge) {K : Call} {F : Fm} {T : Tmps} {H : Heap} {fr : Nat} {pos : String} {j b ver n : Nat} {data : List (List AV)} {x : AV} (h1 : T j = .ptr b ver n 0) (hb : H b = some (.row 1 ver data)) (hx : data[n]? = some [x]) :
    operOut cfg K F T H fr { dst := none, op := .store 4 (.tmp j) (.const (.bool false)), type := 0, pos := pos, after := aft, guard := none } = some (.eff ⟨undefA, [(b, some (.row 1 ver (data.set n [B false])))]⟩) := by
  cases hv : F.vt <;> simp [operOut, eff, aeval, h1, hb, hx, Z4, constA, okCells, AV.cells, nzA, tyNil, virt, putCells, hv, deNil]
theorem hset_ne {H : Heap} {b g : Nat} {x : Option ABlk} (h : b ≠ g) : hset H g x b = H b := by unfold hset; rw [if_neg h]
theorem hset_eq {H : Heap} {g : Nat} {x : Option ABlk} : hset H g x g = x := by unfold hset; rw [if_pos rfl]
theorem rows_at {rs : List (Nat × List Bool)} {vr : Nat → Nat} {k g : Nat} {s : List Bool} (hk : rs[k]? = some (g, s)) : (rs.map fun r => [AV.ref r.1 (vr r.1) 0 r.2.length])[0 + k]? = some [AV.ref g (vr g) 0 s.length] := by
  rw [Nat.zero_add, List.getElem?_map, hk]; rfl
theorem rowB_at {s : List Bool} {c : Nat} {b : Bool} (h : s[c]? = some b) : (rowB s)[0 + c]? = some [B b] := by
  unfold rowB; rw [Nat.zero_add, List.getElem?_map, h]; rfl
theorem lt_of_some {α : Type} {l : List α} {k : Nat} {x : α} (h : l[k]? = some x) : k < l.length := (List.getElem?_eq_some_iff.1 h).1
theorem r38 {rs : List (Nat × List Bool)} {i k cc g : Nat} {s : List Bool} {bb : Bool} (hk : rs[k]? = some (g, s)) (hc : s[cc]? = some bb) {x0 : Int} {x1 : List (List DV)} {x7 : Nat} {b8 : List (List DV)} {x10 : Int} {x13 : List (List DV)} {x16 b462 : Int} {b462_1 b462_2 b7 : List (List DV)} {kd c o b : Int} {b1 b2 : List (List DV)} {r : Bool × Unit}
    (h : law11_EpochSafe.A38 (SJ rs i) x0 x1 x7 b8 x10 x13 x16 (k : Int) (cc : Int) bb b462 b462_1 b462_2 b7 kd c o b b1 b2 r) : law11_EpochSafe.M38 (SJ rs i) x0 x1 x7 b8 x10 x13 x16 (k : Int) (cc : Int) b462 b462_1 b462_2 b7 kd c o b b1 b2 r := by
  intro T V hj
  obtain ⟨hi, hn, v9, vr, hs⟩ := hj
  have hkl := lt_of_some hk
  have hcl := lt_of_some hc
  have hg := hs.inn (g, s) (List.mem_of_getElem? hk)
  refine ends_seqs is38 ?_
  conv in (Array.toList rg38) => whnf
  refine Seqs.step ⟨.ref 9 v9 0 rs.length, []⟩ rfl rfl (e_move _ hs.t9) ?_
  refine Seqs.step ⟨I k, []⟩ rfl rfl (e_move _ rfl) ?_
  refine Seqs.step ⟨.ptr 9 v9 (0 + k) 0, []⟩ rfl rfl (e_index _ (x := (k : Int)) U46 P46 rfl rfl hs.h9 ⟨by omega, by omega⟩) ?_
  refine Seqs.step ⟨.ref g (vr g) 0 s.length, []⟩ rfl rfl (e_load _ rfl hs.h9 (rows_at hk) rfl Z45 G45) ?_
  refine Seqs.step ⟨I cc, []⟩ rfl rfl (e_move _ rfl) ?_
  refine Seqs.step ⟨.ptr g (vr g) (0 + cc) 0, []⟩ rfl rfl (e_index _ (x := (cc : Int)) U45 P45 rfl rfl hg.2.2 ⟨by omega, by omega⟩) ?_
  refine Seqs.step ⟨B bb, []⟩ rfl rfl (e_load _ rfl hg.2.2 (rowB_at hc) rfl Z4 G4) ?_
  refine Seqs.nil (hold_use h (Sayable.den _) (AgT.all ?_) (AgH.all ?_) ⟨hi, hn, v9, vr, hs.t9, hs.h9, hs.inn, hs.free⟩)
  · repeat (first | exact trivial | refine ⟨rfl, ?_⟩)
  · repeat (first | exact trivial | refine ⟨rfl, ?_⟩)
theorem foot22 {g : Nat} (hg : g < 140) : footOk (Region.before rg22) 2097216 [⟨0, [], []⟩, ⟨1, [], []⟩, ⟨2, [9], []⟩, ⟨3, [9], []⟩, ⟨4, [], []⟩, ⟨5, [1048704], []⟩, ⟨6, [g], []⟩, ⟨7, [g], [g]⟩] = true := by
  rw [bef22]
  simp [footOk, show g < 2097216 by omega]
  exact ⟨.inl (by decide), .inl (by decide), .inl (by decide), by decide⟩
theorem nodup_at {rs : List (Nat × List Bool)} (hn : (rs.map (·.1)).Nodup) {k j g : Nat} {s s' : List Bool} (hk : rs[k]? = some (g, s)) (hj : rs[j]? = some (g, s')) : j = k := by
  have h1 : (rs.map (·.1))[k]? = some g := by rw [List.getElem?_map, hk]; rfl
  have h2 : (rs.map (·.1))[j]? = some g := by rw [List.getElem?_map, hj]; rfl
  obtain ⟨a1, a2⟩ := List.getElem?_eq_some_iff.1 h1
  obtain ⟨b1, b2⟩ := List.getElem?_eq_some_iff.1 h2
  exact (List.getElem_inj hn).1 (b2.trans a2.symm)
theorem map_set_same {α β : Type} (f : α → β) {l : List α} {k : Nat} {x y : α} (hk : l[k]? = some x) (h : f y = f x) : (l.set k y).map f = l.map f := by
  apply List.ext_getElem?
  intro j
  rw [List.getElem?_map, List.getElem?_map, List.getElem?_set]
  by_cases e : k = j
  · subst e
    rw [if_pos rfl, if_pos (lt_of_some hk), hk]
    simp [h]
  · rw [if_neg e]
theorem rowB_set (s : List Bool) (c : Nat) : (rowB s).set (0 + c) [B false] = rowB (s.set c false) := by
  unfold rowB; rw [Nat.zero_add, List.map_set]
theorem r22 {rs : List (Nat × List Bool)} {i k cc g : Nat} {s : List Bool} (hk : rs[k]? = some (g, s)) (hc : cc < s.length) {x0 : Int} {x1 : List (List DV)} {x7 : Nat} {b8 : List (List DV)} {x10 : Int} {x13 : List (List DV)} {x14 b462 : Int} {b462_1 b462_2 b7 : List (List DV)} {kd o b : Int} {b1 b2 : List (List DV)} {r : Bool × Unit}
    (h : law11_EpochSafe.A22 (SJ (rs.set k (g, s.set cc false)) i) x0 x1 x7 b8 x10 x13 x14 (k : Int) b462 b462_1 b462_2 b7 kd (cc : Int) o b b1 b2 r) : law11_EpochSafe.M22 (SJ rs i) x0 x1 x7 b8 x10 x13 x14 (k : Int) b462 b462_1 b462_2 b7 kd (cc : Int) o b b1 b2 r := by
  intro T V hj
  obtain ⟨hi, hn, v9, vr, hs⟩ := hj
  have hkl := lt_of_some hk
  have hg := hs.inn (g, s) (List.mem_of_getElem? hk)
  have hg1 : 20 ≤ g := hg.1
  have hg2 : g < 20 + i := hg.2.1
  obtain ⟨x, hx⟩ : ∃ x, s[cc]? = some x := ⟨s[cc], List.getElem?_eq_getElem hc⟩
  refine ends_draws is22 solo22 ?_
  conv in (Array.toList rg22) => whnf
  refine Draws.step ⟨.ref 9 v9 0 rs.length, []⟩ [] [] rfl rfl (e_move _ hs.t9) rfl ?_
  refine Draws.step ⟨I k, []⟩ [] [] rfl rfl (e_move _ rfl) rfl ?_
  refine Draws.step ⟨.ptr 9 v9 (0 + k) 0, []⟩ [9] [] rfl rfl (e_index _ (x := (k : Int)) U46 P46 rfl rfl hs.h9 ⟨by omega, by omega⟩) rfl ?_
  refine Draws.step ⟨.ref g (vr g) 0 s.length, []⟩ [9] [] rfl rfl (e_load _ rfl hs.h9 (rows_at hk) rfl Z45 G45) rfl ?_
  refine Draws.step ⟨.ptr 1048704 0 0 (0 + 1), []⟩ [] [] rfl rfl (e_fld _ rfl) rfl ?_
  refine Draws.step ⟨I cc, []⟩ [1048704] [] rfl rfl (e_load _ (b := 1048704) (ver := 0) (n := 0) (o := 0 + 1) (s := 3) rfl rfl rfl rfl Z3 G3) rfl ?_
  refine Draws.step ⟨.ptr g (vr g) (0 + cc) 0, []⟩ [g] [] rfl rfl (e_index _ (x := (cc : Int)) U45 P45 rfl rfl ((restr_in (List.mem_singleton.2 rfl)).trans hg.2.2) ⟨by omega, by omega⟩) rfl ?_
  refine Draws.step ⟨undefA, [(g, some (.row 1 (vr g) ((rowB s).set (0 + cc) [B false])))]⟩ [g] [g] rfl rfl (e_storeB _ rfl ((restr_in (List.mem_singleton.2 rfl)).trans hg.2.2) (rowB_at hx)) (by simp; omega) ?_
  refine Draws.nil ⟨foot22 (by omega), ?_⟩
  rw [rowB_set]
  refine hold_use h (Sayable.set (Sayable.den _) _ _ _ _) (AgT.all ?_) (AgH.all ?_) ⟨hi, ?_, v9, vr, ?_, ?_, fun q hq => ?_, fun b h1 h2 => ?_⟩
  · repeat (first | exact trivial | refine ⟨rfl, ?_⟩)
  · repeat (first | exact trivial | refine ⟨(hset_ne (by omega)).trans rfl, ?_⟩)
  · rw [map_set_same (y := (g, s.set cc false)) (·.1) hk rfl]; exact hn
  · rw [List.length_set]; exact hs.t9
  · rw [map_set_same (y := (g, s.set cc false)) _ hk (by simp)]
    show (if 9 = g then _ else _) = _
    rw [if_neg (by omega)]; exact hs.h9
  · obtain ⟨j, hjl⟩ := List.mem_iff_getElem?.1 hq
    rw [List.getElem?_set] at hjl
    by_cases e : k = j
    · rw [if_pos e, if_pos hkl] at hjl
      simp only [Option.some.injEq] at hjl
      subst hjl
      refine ⟨hg1, hg2, ?_⟩
      show (if g = g then _ else _) = _
      rw [if_pos rfl]
    · rw [if_neg e] at hjl
      obtain ⟨q1, q2, q3⟩ := hs.inn q (List.mem_of_getElem? hjl)
      refine ⟨q1, q2, ?_⟩
      show (if q.1 = g then _ else _) = _
      rw [if_neg fun e' => e (nodup_at hn (s' := q.2) hk (by rw [hjl, ← e'])).symm]
      exact q3
  · show (if b = g then _ else _) = _
    rw [if_neg (by omega)]; exact hs.free b h1 h2
end Safe
end Go.AI
namespace Go.AI
open Go
set_option linter.unusedVariables false
set_option linter.unusedSimpArgs false
namespace Safe
abbrev p25 : List Nat := [1, 1, 1, 1, 1, 1, 1, 0, 1, 0, 0, 1, 0, 0, 1, 1, 0, 1, 0, 1, 1, 0, 1, 0, 1]
noncomputable def rg25 : Array Oper := opsOf (cAt p25 whole)
theorem is25 : bd cfg 5 p25 = .region 25 rg25 false := by kernel_rfl
abbrev p41 : List Nat := [1, 1, 1, 1, 1, 1, 1, 0, 1, 0, 0, 1, 0, 0, 1, 1, 0, 1, 0, 1, 1, 1, 1, 0, 1, 0, 0, 1, 0, 0, 1, 1, 1, 1, 1]
noncomputable def rg41 : Array Oper := opsOf (cAt p41 whole)
theorem is41 : bd cfg 5 p41 = .region 41 rg41 true := by kernel_rfl
theorem bef41 : Region.before rg41 = #[0, 0, 0, 6, 15, 0, 0, 64, 224, 511, 1023] := by kernel_rfl
theorem solo41 : isSolo rg41 = false := by kernel_rfl
theorem nm9 : FE.nm.contains 9 = true := by kernel_rfl
theorem nm10 : tagOf 70000 FE.nm = some 10 := by kernel_rfl
theorem kp46 : keepsT FE.nm 46 = true := by kernel_rfl
theorem lo190 : FE.lo = 190 := by kernel_rfl
section
variable (aft : Array Edge) {K : Call} {T : Tmps} {H : Heap} {fr : Nat}
theorem e_deep {pos : String} {d i : Nat} (h : T 10 = I (i : Int)) (hf : H (20 + i) = none) (hi : 20 + i < fr) : deepOut cfg.P FE T H fr { dst := some d, op := .buildSlice 45 0 #[], type := 45, pos := pos, after := aft, guard := none } = some ⟨.ref (20 + i) 0 0 0, [(20 + i, some (.row 1 0 []))]⟩ := by
  have hn : deepName FE T = some (20 + i) := by
    unfold deepName
    rw [nm10]
    simp only [h, asInt, Int.toNat_natCast]
  unfold deepOut
  simp only [P45, hn, hf, Option.isNone_none, true_and]
  rw [if_pos hi]
theorem e_append {F : Fm} {t e' by0 : Nat} {pos : String} {d j k b ver len c verc offc n : Nat} {data datac ys : List (List AV)} (hu : cfg.P.underlying t = some (.slice e')) (ht : tsl cfg.P t = some (e', 1, by0)) (hg : tagg cfg.P t = false) (h1 : T j = .ref b ver 0 len) (h2 : T k = .ref c verc offc n) (hb : H b = some (.row 1 ver data)) (hc : H c = some (.row 1 verc datac)) (hl : len = data.length)
    (hy : (datac.drop offc).take n = ys) (hr : (len + ys.length) * by0 ≤ room) (hr' : len + ys.length ≤ room) : operOut cfg K F T H fr { dst := some d, op := .call { callee := .builtin .append, args := #[.tmp j, .tmp k], argTypes := #[t, t] }, type := t, pos := pos, after := aft, guard := none } = some (.eff ⟨.ref b (ver + 1) 0 (len + ys.length), [(b, some (.row 1 (ver + 1) (data ++ ys)))]⟩) := by
  subst hl
  simp [operOut, eff, builtinA, aeval, h1, h2, hb, hc, hu, ht, hg, appendA, rowsOf, hy, hr, hr']
theorem tyNil_ref {t b v o n : Nat} : tyNil cfg.P t (.ref b v o n) = .ref b v o n := rfl
theorem e_build1 {pos : String} {d j b v o n : Nat} (h : T j = .ref b v o n) : operOut cfg K FE T H fr { dst := some d, op := .buildSlice 46 1 #[(0, .tmp j)], type := 46, pos := pos, after := aft, guard := none } = some (.eff ⟨.ref fr 0 0 1, [(fr, some (.row 1 0 [[.ref b v o n]]))]⟩) := by
  have hf : tyFld cfg.P 46 0 (.ref b v o n) = .ref b v o n := by simp [tyFld, U46, tyNil]
  have hk := kp46
  simp [operOut, eff, aeval, h, P46, rowsAre, hf, okCells, AV.cells, hk]
theorem e_build0 {pos : String} {d : Nat} : operOut cfg K FE T H fr { dst := some d, op := .buildSlice 46 0 #[], type := 46, pos := pos, after := aft, guard := none } = some (.eff ⟨.ref fr 0 0 0, [(fr, some (.row 1 0 []))]⟩) := by
  have hk := kp46
  simp [operOut, eff, aeval, P46, rowsAre, hk]
theorem e_assign9 {pos : String} {j v n : Nat} (h : T j = .ref 9 v 0 n) : operOut cfg K FE T H fr { dst := some 9, op := .assign (.tmp j), type := 46, pos := pos, after := aft, guard := none } = some (.eff ⟨.ref 9 v 0 n, []⟩) := by
  have hl : ¬ (FE.lo ≤ 9) := by rw [lo190]; decide
  simp [operOut, eff, aeval, h, assignA, hl]
theorem e_assignG {F : Fm} {pos : String} {j b v n v9 : Nat} {data data9 : List (List AV)} (h : T j = .ref b v 0 n) (hb : H b = some (.row 1 v data)) (h9 : H 9 = some (.row 1 v9 data9)) (hn : n = data.length) (hl : F.lo ≤ b) (hnm : F.nm.contains 9 = true) (h0 : F.sb = 0) (hne : 9 ≠ b) : operOut cfg K F T H fr { dst := some 9, op := .assign (.tmp j), type := 46, pos := pos, after := aft, guard := none } = some (.eff ⟨.ref 9 (v9 + 1) 0 n, [(b, some (.row 1 (v + 1) [])), (9, some (.row 1 (v9 + 1) data))]⟩) := by
  have h5 : nextVer H 9 = some (v9 + 1) := by simp [nextVer, h9]
  have hc : F.lo ≤ b ∧ F.nm.contains 9 = true := ⟨hl, hnm⟩
  simp only [operOut, eff, aeval, h, assignA]
  rw [if_pos hc]
  simp only [h0, Nat.zero_add, hb, h5]
  rw [if_pos ⟨trivial, trivial, hn, hne⟩]
theorem e_assignN {pos : String} {j b v n v9 : Nat} {data data9 : List (List AV)} (h : T j = .ref b v 0 n) (hb : H b = some (.row 1 v data)) (h9 : H 9 = some (.row 1 v9 data9)) (hn : n = data.length) (hlo : 190 ≤ b) : operOut cfg K FE T H fr { dst := some 9, op := .assign (.tmp j), type := 46, pos := pos, after := aft, guard := none } = some (.eff ⟨.ref 9 (v9 + 1) 0 n, [(b, some (.row 1 (v + 1) [])), (9, some (.row 1 (v9 + 1) data))]⟩) :=
  e_assignG aft h hb h9 hn (by rw [lo190]; exact hlo) nm9 rfl (by omega)
end
theorem embed_rowB (l : List Bool) : embed (l.map fun b => [DV.v (.bool b)]) = rowB l := by
  unfold embed rowB; rw [List.map_map]; rfl
theorem rowB_len (l : List Bool) : (rowB l).length = l.length := by simp [rowB]
theorem take_all {α : Type} {l : List α} {n : Nat} (h : n = l.length) : (l.drop 0).take n = l := by rw [List.drop_zero]; exact List.take_of_length_le (by omega)
theorem hset4 {H : Heap} {b g1 g2 g3 g4 : Nat} {x1 x2 x3 x4 : Option ABlk} (h1 : b ≠ g1) (h2 : b ≠ g2) (h3 : b ≠ g3) (h4 : b ≠ g4) : hset (hset (hset (hset H g1 x1) g2 x2) g3 x3) g4 x4 b = H b :=
  (hset_ne h4).trans ((hset_ne h3).trans ((hset_ne h2).trans (hset_ne h1)))
theorem hset5 {H : Heap} {b g1 g2 g3 g4 g5 : Nat} {x1 x2 x3 x4 x5 : Option ABlk} (h1 : b ≠ g1) (h2 : b ≠ g2) (h3 : b ≠ g3) (h4 : b ≠ g4) (h5 : b ≠ g5) : hset (hset (hset (hset (hset H g1 x1) g2 x2) g3 x3) g4 x4) g5 x5 b = H b :=
  (hset_ne h5).trans (hset4 h1 h2 h3 h4)
theorem r25 {rs : List (Nat × List Bool)} {i : Nat} {pn : List Bool} (hi : i < 120) (hrs : rs.length ≤ 120) (hpn : pn.length ≤ 64) {x0 : Int} {x1 : List (List DV)} {b8 : List (List DV)} {x13 : List (List DV)} {b462 : Int} {b462_1 b462_2 : List (List DV)} {kd c o b : Int} {b1 b2 : List (List DV)} {r : Bool × Unit}
    (h : law11_EpochSafe.A25_1049488 (SJ (rs ++ [(20 + i, pn)]) (i + 1)) x0 x1 pn.length b8 (i : Int) x13 b462 b462_1 b462_2 (pn.map fun b => [DV.v (.bool b)]) kd c o b b1 b2 r) : law11_EpochSafe.M25_1049488 (SJ rs i) x0 x1 pn.length b8 (i : Int) x13 b462 b462_1 b462_2 (pn.map fun b => [DV.v (.bool b)]) kd c o b b1 b2 r := by
  intro T V hj
  obtain ⟨_, hn, v9, vr, hs⟩ := hj
  have hfree := hs.free (20 + i) (Nat.le_refl _) (by omega)
  have hroom : room = 140737488355328 := rfl
  refine ends_seqs is25 ?_
  conv in (Array.toList rg25) => whnf
  refine Seqs.step ⟨.ref 9 v9 0 rs.length, []⟩ rfl (by kernel_rfl) (e_move _ hs.t9) ?_
  refine Seqs.deep ⟨.ref (20 + i) 0 0 0, [(20 + i, some (.row 1 0 []))]⟩ rfl (by kernel_rfl) (e_deep _ rfl hfree (by omega)) ?_
  refine Seqs.step ⟨.ref 7 0 0 pn.length, []⟩ rfl (by kernel_rfl) (e_move _ rfl) ?_
  refine Seqs.step ⟨.ref (20 + i) (0 + 1) 0 (0 + (rowB pn).length), [(20 + i, some (.row 1 (0 + 1) ([] ++ rowB pn)))]⟩ rfl (by kernel_rfl) (e_append (datac := rowB pn) _ U45 P45 G45 rfl rfl hset_eq ((hset_ne (by omega)).trans (congrArg some (congrArg (ABlk.row 1 0) (embed_rowB pn)))) rfl (take_all (rowB_len pn).symm) (by rw [rowB_len, hroom]; omega) (by rw [rowB_len, hroom]; omega)) ?_
  refine Seqs.step ⟨.ref (1049488 + 4 * 16) 0 0 1, [(1049488 + 4 * 16, some (.row 1 0 [[.ref (20 + i) (0 + 1) 0 (0 + (rowB pn).length)]]))]⟩ rfl (by kernel_rfl) (e_build1 _ rfl) ?_
  refine Seqs.step ⟨.ref 9 (v9 + 1) 0 (rs.length + ([[.ref (20 + i) (0 + 1) 0 (0 + (rowB pn).length)]] : List (List AV)).length), [(9, some (.row 1 (v9 + 1) ((rs.map fun r => [AV.ref r.1 (vr r.1) 0 r.2.length]) ++ [[.ref (20 + i) (0 + 1) 0 (0 + (rowB pn).length)]])))]⟩ rfl (by kernel_rfl) (e_append (j := 114) (k := 118) (b := 9) (ver := v9) (len := rs.length) (c := 1049488 + 4 * 16) (verc := 0) (offc := 0) (n := 1) (ys := [[.ref (20 + i) (0 + 1) 0 (0 + (rowB pn).length)]]) (datac := [[.ref (20 + i) (0 + 1) 0 (0 + (rowB pn).length)]]) _ U46 P46 G46 rfl rfl ((hset_ne (b := 9) (g := 1049488 + 4 * 16) (by omega)).trans ((hset_ne (b := 9) (g := 20 + i) (by omega)).trans ((hset_ne (b := 9) (g := 20 + i) (by omega)).trans hs.h9))) hset_eq (by rw [List.length_map]) rfl (by rw [hroom]; simp; omega) (by rw [hroom]; simp; omega)) ?_
  refine Seqs.step ⟨.ref 9 (v9 + 1) 0 (rs.length + 1), []⟩ rfl (by kernel_rfl) (e_assign9 _ rfl) ?_
  dsimp only [writes]
  refine Seqs.nil (hold_use h (Sayable.set (Sayable.set (Sayable.set (Sayable.set (Sayable.den _) _ _ _ _) _ _ _ _) _ _ _ _) _ _ _ _) (AgT.all ?_) (AgH.all ?_) ⟨by omega, ?_, v9 + 1, fun g => if g = 20 + i then 1 else vr g, ?_, ?_, fun q hq => ?_, fun b h1 h2 => ?_⟩)
  · repeat (first | exact trivial | refine ⟨rfl, ?_⟩)
  · refine ⟨(hset4 (by omega) (by omega) (by omega) (by omega)).trans rfl, ?_⟩
    repeat (first | exact trivial | refine ⟨(hset4 (by omega) (by omega) (by omega) (by omega)).trans rfl, ?_⟩)
  · rw [List.map_append, List.nodup_append]
    refine ⟨hn, by simp, fun a ha b hb => ?_⟩
    obtain ⟨q, hq, rfl⟩ := List.mem_map.1 ha
    have := (hs.inn q hq).2.1
    simp at hb
    omega
  · rw [List.length_append]; rfl
  · refine hset_eq.trans (congrArg some (congrArg (ABlk.row 1 (v9 + 1)) ?_))
    rw [List.map_append]
    refine congr (congrArg _ (List.map_congr_left fun q hq => ?_)) ?_
    · have := (hs.inn q hq).2.1
      show [AV.ref q.1 (vr q.1) 0 q.2.length] = [AV.ref q.1 (if q.1 = 20 + i then 1 else vr q.1) 0 q.2.length]
      rw [if_neg (by omega)]
    · show _ = [[AV.ref (20 + i) (if 20 + i = 20 + i then 1 else vr (20 + i)) 0 pn.length]]
      rw [if_pos rfl, rowB_len, Nat.zero_add, Nat.zero_add]
  · rcases List.mem_append.1 hq with hq | hq
    · obtain ⟨q1, q2, q3⟩ := hs.inn q hq
      refine ⟨q1, by omega, (hset_ne (by omega)).trans ((hset_ne (by omega)).trans ((hset_ne (by omega)).trans ((hset_ne (by omega)).trans ?_)))⟩
      show _ = some (ABlk.row 1 (if q.1 = 20 + i then 1 else vr q.1) (rowB q.2))
      rw [if_neg (by omega)]; exact q3
    · simp only [List.mem_singleton] at hq
      subst hq
      refine ⟨by omega, by show 20 + i < _; omega, (hset_ne (by omega)).trans ((hset_ne (by omega)).trans (hset_eq.trans ?_))⟩
      show _ = some (ABlk.row 1 (if 20 + i = 20 + i then 1 else vr (20 + i)) (rowB pn))
      rw [if_pos rfl]; rfl
  · exact (hset_ne (by omega)).trans ((hset_ne (by omega)).trans ((hset_ne (by omega)).trans ((hset_ne (by omega)).trans (hs.free b (by omega) h2))))
section
variable (aft : Array Edge) {K : Call} {F : Fm} {T : Tmps} {H : Heap} {fr : Nat}
theorem e_addc {pos : String} {d a : Nat} {x : Int} {m : Nat} (h1 : T a = I x) : operOut cfg K F T H fr { dst := some d, op := .binOp .add 3 (.tmp a) (.const (.int .i64 (Int.ofNat m))) 3, type := 3, pos := pos, after := aft, guard := none } = some (.eff ⟨I (IntKind.i64.wrap (x + m)), []⟩) := by
  simp [operOut, eff, aeval, h1, binA, intOp, constA]
theorem e_sliceTo {pos : String} {d j k b ver len n : Nat} {data : List (List AV)} (h1 : T j = .ref b ver 0 len) (h2 : T k = I (n : Int)) (hb : H b = some (.row 1 ver data)) (hl : len = data.length) (hn : n ≤ len) : operOut cfg K F T H fr { dst := some d, op := .slice 46 (.tmp j) none (some (.tmp k)) none, type := 46, pos := pos, after := aft, guard := none } = some (.eff ⟨.ref b ver 0 n, []⟩) := by
  subst hl
  simp [operOut, eff, aeval, h1, h2, hb, sliceA, P46, boundsA, hiOr, hiA, loA, asInt, hn]
theorem e_sliceFrom {pos : String} {d j k b ver len n : Nat} {data : List (List AV)} (h1 : T j = .ref b ver 0 len) (h2 : T k = I (n : Int)) (hb : H b = some (.row 1 ver data)) (hl : len = data.length) (hn : n ≤ len) : operOut cfg K F T H fr { dst := some d, op := .slice 46 (.tmp j) (some (.tmp k)) none none, type := 46, pos := pos, after := aft, guard := none } = some (.eff ⟨.ref b ver n (len - n), []⟩) := by
  subst hl
  simp [operOut, eff, aeval, h1, h2, hb, sliceA, P46, boundsA, hiOr, hiA, loA, asInt, hn]
end
theorem foot41 : footOk (Region.before rg41) 4194528 [⟨0, [], []⟩, ⟨1, [], []⟩, ⟨2, [], []⟩, ⟨3, [9], []⟩, ⟨4, [4194528, 9], [4194528]⟩, ⟨5, [], []⟩, ⟨6, [], []⟩, ⟨7, [], []⟩, ⟨8, [9], []⟩, ⟨9, [4194528, 9], [4194528]⟩, ⟨10, [9, 4194528], [4194528, 9]⟩] = true := by
  rw [bef41]
  decide
theorem wrap_nat {k : Nat} (h : k < 1000) : IntKind.i64.wrap ((k : Int) + ((1 : Nat) : Int)) = ((k + 1 : Nat) : Int) := by
  have := wrap_succ (show k < 4611686018427387904 by omega)
  exact this
theorem r41 {rs : List (Nat × List Bool)} {i k : Nat} (hk : k < rs.length) (hrs : rs.length ≤ 120) {x0 : Int} {x1 : List (List DV)} {x7 : Nat} {b8 : List (List DV)} {x10 : Int} {x13 : List (List DV)} {x16 b462 : Int} {b462_1 b462_2 b7 : List (List DV)} {kd c o b : Int} {b1 b2 : List (List DV)} {r : Bool × Unit}
    (h : law11_EpochSafe.A41 (SJ (rs.eraseIdx k) i) x0 x1 x7 b8 x10 x13 x16 b462 b462_1 b462_2 b7 kd c o b b1 b2 r) : law11_EpochSafe.M41 (SJ rs i) x0 x1 x7 b8 x10 x13 x16 (k : Int) b462 b462_1 b462_2 b7 kd c o b b1 b2 r := by
  intro T V hj
  obtain ⟨hi, hn, v9, vr, hs⟩ := hj
  have hroom : room = 140737488355328 := rfl
  generalize hD : (rs.map fun r => [AV.ref r.1 (vr r.1) 0 r.2.length]) = D
  have hDl : D.length = rs.length := by rw [← hD, List.length_map]
  have h9 := hs.h9
  rw [hD] at h9
  refine ends_draws is41 solo41 ?_
  conv in (Array.toList rg41) => whnf
  refine Draws.step ⟨.ref 4194528 0 0 0, [(4194528, some (.row 1 0 []))]⟩ [] [] rfl rfl (e_build0 _) rfl ?_
  dsimp only [writes]
  refine Draws.step ⟨.ref 9 v9 0 rs.length, []⟩ [] [] rfl rfl (e_move _ hs.t9) rfl ?_
  dsimp only [writes]
  refine Draws.step ⟨I k, []⟩ [] [] rfl rfl (e_move _ rfl) rfl ?_
  dsimp only [writes]
  refine Draws.step ⟨.ref 9 v9 0 k, []⟩ [9] [] rfl rfl (e_sliceTo _ (n := k) rfl rfl ((restr_in (by simp)).trans ((hset_ne (b := 9) (g := 4194528) (by omega)).trans h9)) hDl.symm (by omega)) rfl ?_
  dsimp only [writes]
  refine Draws.step ⟨.ref 4194528 (0 + 1) 0 (0 + (D.take k).length), [(4194528, some (.row 1 (0 + 1) ([] ++ D.take k)))]⟩ [4194528, 9] [4194528] rfl rfl (e_append (j := 175) (k := 178) (b := 4194528) (ver := 0) (len := 0) (c := 9) (verc := v9) (offc := 0) (n := k) (ys := D.take k) (data := []) (datac := D) _ U46 P46 G46 rfl rfl ((restr_in (by simp)).trans hset_eq) ((restr_in (by simp)).trans ((hset_ne (b := 9) (g := 4194528) (by omega)).trans h9)) rfl (by rw [List.drop_zero]) (by rw [hroom, List.length_take]; omega) (by rw [hroom, List.length_take]; omega)) rfl ?_
  dsimp only [writes]
  refine Draws.step ⟨.ref 9 v9 0 rs.length, []⟩ [] [] rfl rfl (e_move _ hs.t9) rfl ?_
  dsimp only [writes]
  refine Draws.step ⟨I k, []⟩ [] [] rfl rfl (e_move _ rfl) rfl ?_
  dsimp only [writes]
  refine Draws.step ⟨I ((k + 1 : Nat) : Int), []⟩ [] [] rfl rfl ((e_addc _ (x := (k : Int)) rfl).trans (by rw [wrap_nat (by omega)])) rfl ?_
  dsimp only [writes]
  refine Draws.step ⟨.ref 9 v9 (k + 1) (rs.length - (k + 1)), []⟩ [9] [] rfl rfl (e_sliceFrom _ (n := k + 1) rfl rfl ((restr_in (by simp)).trans ((hset_ne (b := 9) (g := 4194528) (by omega)).trans ((hset_ne (b := 9) (g := 4194528) (by omega)).trans h9))) hDl.symm (by omega)) rfl ?_
  dsimp only [writes]
  refine Draws.step ⟨.ref 4194528 (0 + 1 + 1) 0 (0 + (D.take k).length + (D.drop (k + 1)).length), [(4194528, some (.row 1 (0 + 1 + 1) (([] ++ D.take k) ++ D.drop (k + 1))))]⟩ [4194528, 9] [4194528] rfl rfl (e_append (j := 179) (k := 183) (b := 4194528) (ver := 0 + 1) (len := 0 + (D.take k).length) (c := 9) (verc := v9) (offc := k + 1) (n := rs.length - (k + 1)) (ys := D.drop (k + 1)) (data := [] ++ D.take k) (datac := D) _ U46 P46 G46 rfl rfl ((restr_in (by simp)).trans hset_eq) ((restr_in (by simp)).trans ((hset_ne (b := 9) (g := 4194528) (by omega)).trans ((hset_ne (b := 9) (g := 4194528) (by omega)).trans h9))) (by rw [List.nil_append, Nat.zero_add]) (List.take_of_length_le (by rw [List.length_drop]; omega)) (by rw [hroom, List.length_take, List.length_drop]; omega) (by rw [hroom, List.length_take, List.length_drop]; omega)) rfl ?_
  dsimp only [writes]
  refine Draws.step ⟨.ref 9 (v9 + 1) 0 (0 + (D.take k).length + (D.drop (k + 1)).length), [(4194528, some (.row 1 (0 + 1 + 1 + 1) [])), (9, some (.row 1 (v9 + 1) (([] ++ D.take k) ++ D.drop (k + 1))))]⟩ [9, 4194528] [4194528, 9] rfl rfl (e_assignN _ (b := 4194528) (v := 0 + 1 + 1) (v9 := v9) (data9 := D) rfl ((restr_in (by simp)).trans hset_eq) ((restr_in (by simp)).trans ((hset_ne (b := 9) (g := 4194528) (by omega)).trans ((hset_ne (b := 9) (g := 4194528) (by omega)).trans ((hset_ne (b := 9) (g := 4194528) (by omega)).trans h9)))) (by rw [List.nil_append, Nat.zero_add, List.length_append]) (by omega)) rfl ?_
  refine Draws.nil ⟨foot41, ?_⟩
  dsimp only [writes]
  have hsub : ∀ q ∈ rs.eraseIdx k, q ∈ rs := fun q hq => (List.eraseIdx_sublist rs k).subset hq
  refine hold_use h (Sayable.set (Sayable.set (Sayable.set (Sayable.set (Sayable.set (Sayable.den _) _ _ _ _) _ _ _ _) _ _ _ _) _ _ _ _) _ _ _ _) (AgT.all ?_) (AgH.all ?_) ⟨hi, ?_, v9 + 1, vr, ?_, ?_, fun q hq => ?_, fun b h1 h2 => ?_⟩
  · repeat (first | exact trivial | refine ⟨rfl, ?_⟩)
  · refine ⟨(hset5 (by omega) (by omega) (by omega) (by omega) (by omega)).trans rfl, ?_⟩
    repeat (first | exact trivial | refine ⟨(hset5 (by omega) (by omega) (by omega) (by omega) (by omega)).trans rfl, ?_⟩)
  · exact (List.Sublist.map _ (List.eraseIdx_sublist rs k)).nodup hn
  · show AV.ref 9 (v9 + 1) 0 (0 + (D.take k).length + (D.drop (k + 1)).length) = _
    rw [List.length_take, List.length_drop, List.length_eraseIdx, if_pos hk, hDl]
    congr 1; omega
  · refine hset_eq.trans (congrArg some (congrArg (ABlk.row 1 (v9 + 1)) ?_))
    rw [List.nil_append, ← hD, ← List.map_take, ← List.map_drop, ← List.map_append, List.eraseIdx_eq_take_drop_succ]
  · obtain ⟨q1, q2, q3⟩ := hs.inn q (hsub q hq)
    exact ⟨q1, q2, (hset5 (by omega) (by omega) (by omega) (by omega) (by omega)).trans q3⟩
  · exact (hset5 (by omega) (by omega) (by omega) (by omega) (by omega)).trans (hs.free b h1 h2)
end Safe
end Go.AI
