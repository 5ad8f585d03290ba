/-
  Own work. Calls of Run and of rounds, from any of the kernel's states on.
-/
import Derived.Test.YthagcidcihgboaaGreatTop1
namespace Go.AI
open Go
set_option linter.unusedVariables false
set_option linter.unusedSimpArgs false
namespace Top
theorem wrap_eq (n : Int) : IntKind.i64.wrap n = if 9223372036854775808 ≤ n % 18446744073709551616 then n % 18446744073709551616 - 18446744073709551616 else n % 18446744073709551616 := by
  simp [IntKind.wrap, IntKind.bits, IntKind.signed]
theorem wrap_id {n : Int} (h0 : -9223372036854775808 ≤ n) (h1 : n < 9223372036854775808) : IntKind.i64.wrap n = n := by
  rw [wrap_eq]
  split <;> omega
/-! The code. -/
def partC : List Nat → Code → Code
  | [], c => c
  | 0 :: r, .seq a _ => partC r a
  | _ :: r, .seq _ b => partC r b
  | 0 :: r, .block _ b => partC r b
  | 0 :: r, .loop b => partC r b
  | 0 :: r, .cond _ a _ => partC r a
  | _ :: r, .cond _ _ b => partC r b
  | _, c => c
def opsC : Code → Array Oper
  | .region _ r _ => r
  | _ => #[]
noncomputable def codeOf (fn : Func) : Code := match fn.body with
  | some c => c
  | none => .skip
def RunsTo (F : Fm) (k : List AItem) (T : Tmps) (H : Heap) (nx : Nat) (Q : Tmps → Heap → Nat → Prop) : Prop := ∃ T' H' nx', Runs cfg F k T H nx (T', H', nx') ∧ Q T' H' nx'
section
variable {F : Fm} {k : List AItem} {T : Tmps} {H : Heap} {nx : Nat} {Q : Tmps → Heap → Nat → Prop}
theorem RunsTo.ret (h : Q T H nx) : RunsTo F (.code .ret :: k) T H nx Q := ⟨T, H, nx, Runs.ret, h⟩
theorem RunsTo.skip (h : RunsTo F k T H nx Q) : RunsTo F (.code .skip :: k) T H nx Q := let ⟨a, b, c, h1, h2⟩ := h; ⟨a, b, c, Runs.skip h1, h2⟩
theorem RunsTo.seq {a b : Code} (h : RunsTo F (.code a :: .code b :: k) T H nx Q) : RunsTo F (.code (.seq a b) :: k) T H nx Q := let ⟨x, y, z, h1, h2⟩ := h; ⟨x, y, z, Runs.seq h1, h2⟩
theorem RunsTo.block {id : Nat} {b : Code} (h : RunsTo F (.code b :: .inBlock id :: k) T H nx Q) : RunsTo F (.code (.block id b) :: k) T H nx Q := let ⟨x, y, z, h1, h2⟩ := h; ⟨x, y, z, Runs.block h1, h2⟩
theorem RunsTo.inBlock {id : Nat} (h : RunsTo F k T H nx Q) : RunsTo F (.inBlock id :: k) T H nx Q := let ⟨x, y, z, h1, h2⟩ := h; ⟨x, y, z, Runs.inBlock h1, h2⟩
theorem RunsTo.exit {id : Nat} {k' : List AItem} (hk : exitToA id k = some k') (h : RunsTo F k' T H nx Q) : RunsTo F (.code (.exit id) :: k) T H nx Q := let ⟨x, y, z, h1, h2⟩ := h; ⟨x, y, z, Runs.exit hk h1, h2⟩
theorem RunsTo.loop {b : Code} (hq : F.q = false) (hT : FlatT F.sb T) (hH : FlatH F.sb H) (h : RunsTo F (.code b :: .inLoop b (upN nx) :: k) T H (upN nx) Q) : RunsTo F (.code (.loop b) :: k) T H nx Q := by
  obtain ⟨x, y, z, h1, h2⟩ := h
  refine ⟨x, y, z, Runs.loop ?_, h2⟩
  rw [hq, canT_flat hT, canH_flat hH]; exact h1
theorem RunsTo.round {b : Code} {nx0 : Nat} (ht : F.tr = true) (hq : F.q = false) (hn : F.sb ≤ nx0) (hT : FlatT F.sb T) (hH : FlatH F.sb H) (h : RunsTo F (.code b :: .inLoop b nx0 :: k) T H nx0 Q) : RunsTo F (.inLoop b nx0 :: k) T H nx Q := by
  obtain ⟨x, y, z, h1, h2⟩ := h
  refine ⟨x, y, z, Runs.round ht ?_, h2⟩
  rw [hq, frzT_flat hn hT, frzH_flat hn hH, canT_flat hT, canH_flat hH]; exact h1
theorem RunsTo.condT {c : Operand} {a b : Code} (hc : aeval T c = B true) (h : RunsTo F (.code a :: k) T H nx Q) : RunsTo F (.code (.cond c a b) :: k) T H nx Q := let ⟨x, y, z, h1, h2⟩ := h; ⟨x, y, z, Runs.cond hc (fun _ => h1) (fun e => absurd e (by simp)), h2⟩
theorem RunsTo.condF {c : Operand} {a b : Code} (hc : aeval T c = B false) (h : RunsTo F (.code b :: k) T H nx Q) : RunsTo F (.code (.cond c a b) :: k) T H nx Q := let ⟨x, y, z, h1, h2⟩ := h; ⟨x, y, z, Runs.cond hc (fun e => absurd e (by simp)) (fun _ => h1), h2⟩
/-- A region in order. -/
def Seqs (F : Fm) (ops : Array Oper) (os : List Oper) (T : Tmps) (H : Heap) (nx : Nat) (Q : Tmps → Heap → Nat → Prop) : Prop := ∃ T' H' nx', seqOps cfg (callω cfg) F ops os T H nx = some (T', H', nx') ∧ Q T' H' nx'
theorem Seqs.nil {ops : Array Oper} (h : Q T H nx) : Seqs F ops [] T H nx Q := ⟨T, H, nx, by simp [seqOps], h⟩
theorem Seqs.step {ops : Array Oper} {o : Oper} {r : List Oper} (e : Eff) (hw : wantedA ops T o = some true) (hd : isDeep F o = false) (he : operOut cfg (callω cfg) F T H nx o = some (.eff e)) (hr : Seqs F ops r (putT T o.dst e.v) (writes H e.wr) (nx + wide) Q) : Seqs F ops (o :: r) T H nx Q := by
  obtain ⟨T', H', nx', h1, h2⟩ := hr
  refine ⟨T', H', nx', ?_, h2⟩
  unfold seqOps
  rw [hw]
  simp only [hd, Bool.false_eq_true, if_false, he, h1]
theorem Seqs.pass {ops : Array Oper} {o : Oper} {r : List Oper} (hw : wantedA ops T o = some false) (hr : Seqs F ops r (putT T o.dst undefA) H (nx + wide) Q) : Seqs F ops (o :: r) T H nx Q := by
  obtain ⟨T', H', nx', h1, h2⟩ := hr
  refine ⟨T', H', nx', ?_, h2⟩
  unfold seqOps
  rw [hw]
  exact h1
theorem RunsTo.seqs {id : Nat} {ops : Array Oper} (h : Seqs F ops ops.toList T H nx fun T' H' nx' => RunsTo F k T' H' nx' Q) : RunsTo F (.code (.region id ops false) :: k) T H nx Q := by
  obtain ⟨T', H', nx', h1, x, y, z, h2, h3⟩ := h
  refine ⟨x, y, z, Runs.region ?_, h3⟩
  unfold region
  rw [if_neg (by decide), h1]
  exact h2
theorem RunsTo.mono {Q' : Tmps → Heap → Nat → Prop} (h : RunsTo F k T H nx Q) (hq : ∀ T' H' nx', Q T' H' nx' → Q' T' H' nx') : RunsTo F k T H nx Q' := by
  obtain ⟨x, y, z, h1, h2⟩ := h
  exact ⟨x, y, z, h1, hq _ _ _ h2⟩
/-! Operations. -/
theorem o_move {o : Oper} {a : Nat} {v : AV} (ho : o.op = .move (.tmp a)) (h1 : T a = v) : operOut cfg (callω cfg) F T H nx o = some (.eff ⟨v, []⟩) := by
  simp [operOut, ho, eff, aeval, h1]
theorem o_const {o : Oper} {n : Int} (ho : o.op = .move (.const (.int .i64 n))) : operOut cfg (callω cfg) F T H nx o = some (.eff ⟨I n, []⟩) := by
  simp [operOut, ho, eff, aeval, constA]
theorem o_assignC {o : Oper} {x : Value} {d : Nat} (ho : o.op = .assign (.const x)) (hd : o.dst = some d) (hx : constA x = .d (.v x)) : operOut cfg (callω cfg) F T H nx o = some (.eff ⟨.d (.v x), []⟩) := by
  simp [operOut, ho, eff, aeval, hx, assignA, hd]
theorem o_assign {o : Oper} {a : Nat} {x : DV} (ho : o.op = .assign (.tmp a)) (h1 : T a = .d x) : operOut cfg (callω cfg) F T H nx o = some (.eff ⟨.d x, []⟩) := by
  cases hd : o.dst <;> simp [operOut, ho, eff, aeval, h1, assignA, hd]
theorem o_lss {o : Oper} {t t' a b : Nat} {x y : Int} (ho : o.op = .binOp .lss t (.tmp a) (.tmp b) t') (h1 : T a = I x) (h2 : T b = I y) : operOut cfg (callω cfg) F T H nx o = some (.eff ⟨B (decide (x < y)), []⟩) := by
  simp [operOut, ho, eff, aeval, h1, h2, binA, intOp]
theorem o_lssC {o : Oper} {t t' a : Nat} {x y : Int} (ho : o.op = .binOp .lss t (.tmp a) (.const (.int .i64 y)) t') (h1 : T a = I x) : operOut cfg (callω cfg) F T H nx o = some (.eff ⟨B (decide (x < y)), []⟩) := by
  simp [operOut, ho, eff, aeval, h1, constA, binA, intOp]
theorem o_addC {o : Oper} {t t' a : Nat} {x y : Int} (ho : o.op = .binOp .add t (.tmp a) (.const (.int .i64 y)) t') (h1 : T a = I x) : operOut cfg (callω cfg) F T H nx o = some (.eff ⟨I (IntKind.i64.wrap (x + y)), []⟩) := by
  simp [operOut, ho, eff, aeval, h1, constA, binA, intOp]
theorem o_not {o : Oper} {t a : Nat} {b : Bool} (ho : o.op = .unOp .not t (.tmp a)) (h1 : T a = B b) : operOut cfg (callω cfg) F T H nx o = some (.eff ⟨B (!b), []⟩) := by
  simp [operOut, ho, eff, aeval, h1]
theorem o_pickC {o : Oper} {a b : Nat} {x y : AV} {p : Bool} {c : Value} (ho : o.op = .pick (.tmp a) (.const c) (.tmp b)) (h1 : T a = B p) (h2 : T b = y) (hc : constA c = x) : operOut cfg (callω cfg) F T H nx o = some (.eff ⟨if p then x else y, []⟩) := by
  cases p <;> simp [operOut, ho, eff, aeval, h1, h2, hc]
theorem U25 : cfg.P.underlying 25 = some (.slice 3) := by kernel_rfl
theorem P25 : tsl cfg.P 25 = some (3, 1, 8) := by kernel_rfl
theorem Z3 : tsz cfg.P 3 = some 1 := by kernel_rfl
theorem G3 : tagg cfg.P 3 = false := by kernel_rfl
theorem o_len {o : Oper} {a : Nat} {xs : List (List DV)} {c : Go.Call} (ho : o.op = .call c) (hc : c.callee = .builtin .len) (ha : c.args.toList = [.tmp a]) (ht : c.argTypes.toList = [25]) (h1 : T a = .d (.lst 1 xs)) : operOut cfg (callω cfg) F T H nx o = some (.eff ⟨I xs.length, []⟩) := by
  simp [operOut, ho, eff, hc, ha, ht, aeval, h1, builtinA, U25, lenA]
theorem o_indexD {o : Oper} {a b : Nat} {xs : List (List DV)} {r : List DV} {n : Int} (ho : o.op = .indexAddr 25 (.tmp a) (.tmp b)) (h1 : T a = .d (.lst 1 xs)) (h2 : T b = I n) (hn : 0 ≤ n) (hr : xs[n.toNat]? = some r) : operOut cfg (callω cfg) F T H nx o = some (.eff ⟨.d (.ptr r 0), []⟩) := by
  simp [operOut, ho, eff, aeval, h1, h2, asInt, U25, P25, hn, hr]
theorem o_loadD {o : Oper} {a : Nat} {n : Int} (ho : o.op = .load 3 (.tmp a)) (h1 : T a = .d (.ptr [.v (.int .i64 n)] 0)) : operOut cfg (callω cfg) F T H nx o = some (.eff ⟨I n, []⟩) := by
  simp [operOut, ho, eff, aeval, h1, Z3, G3, getCells, partA]
theorem mode_step : cfg.mode 7 = .box := by kernel_rfl
theorem typed_step (kp : AV) (hk : ∃ b v i o, kp = .ptr b v i o) (c : Int) : typedFor cfg.P 7 [kp, I c] = [kp, I c] := by
  obtain ⟨b, v, i, o, rfl⟩ := hk
  kernel_rfl
theorem o_step {o : Oper} {a b : Nat} {kp : AV} {n : Int} {e : Eff} {c : Go.Call} (ho : o.op = .call c) (hc : c.callee = .value (.func 7)) (ha : c.args.toList = [.tmp a, .tmp b]) (hk : ∃ b v i o, kp = .ptr b v i o) (h1 : T a = kp) (h2 : T b = I n) (he : boxCall (callω cfg) 7 [kp, I n] H nx = some e) : operOut cfg (callω cfg) F T H nx o = some (.eff e) := by
  have hv : aeval T (.func 7) = .fn 7 [] := by
    show (if 7 < bnd then AV.fn 7 [] else AV.dead) = _
    rw [if_pos (by decide)]
  unfold operOut
  rw [ho]
  dsimp only
  rw [hc]
  dsimp only
  rw [hv]
  dsimp only
  rw [if_pos (by decide), ha]
  have e2 : List.map (aeval T) [Operand.tmp a, Operand.tmp b] = [kp, I n] := by simp [aeval, h1, h2]
  rw [e2, typed_step kp hk, List.append_nil]
  unfold callOut
  rw [mode_step]
  dsimp only
  rw [he]
end
/-- States from which every step leads to such states. -/
structure Closed (kp : AV) (FK : List Nat) (FR : Nat) (S : St → Prop) : Prop where
  ptr : ∃ b v i o, kp = .ptr b v i o
  low : flatC FR kp = true
  go : ∀ s, S s → ∀ c : Int, ∃ b s', Goes kp FK FR s c b s' ∧ S s'
theorem FlatT.put {lo : Nat} {T : Tmps} (h : FlatT lo T) {d : Option Tmp} {v : AV} (hv : flatC lo v = true) : FlatT lo (putT T d v) := by
  intro t
  cases d with
  | none => exact h t
  | some d =>
    show flatC lo (if t = d then v else T t) = true
    split
    · exact hv
    · exact h t
/-! Run. -/
noncomputable def w13 : Code := codeOf Go.Proofs.Tryz.f13
noncomputable def lp13 : Code := partC [1, 0, 1, 0, 0] w13
noncomputable def g0 : Array Oper := opsC (partC [0] w13)
noncomputable def g1 : Array Oper := opsC (partC [1, 0, 0] w13)
noncomputable def g7 : Array Oper := opsC (partC [1, 1, 0] w13)
noncomputable def g2 : Array Oper := opsC (partC [1, 0, 1, 0, 0, 0] w13)
noncomputable def g3 : Array Oper := opsC (partC [1, 0, 1, 0, 0, 1, 1, 0, 0, 0] w13)
noncomputable def g4 : Array Oper := opsC (partC [1, 0, 1, 0, 0, 1, 1, 0, 0, 1, 0] w13)
noncomputable def g5 : Array Oper := opsC (partC [1, 0, 1, 0, 0, 1, 1, 0, 0, 1, 1, 0] w13)
noncomputable def g6 : Array Oper := opsC (partC [1, 0, 1, 0, 0, 1, 1, 1] w13)
theorem code13 : w13 = .seq (.region 0 g0 false) (.seq (.seq (.region 1 g1 false) (.block 0 (.loop lp13))) (.seq (.region 7 g7 false) .ret)) := by kernel_rfl
theorem code13l : lp13 = .seq (.region 2 g2 false) (.seq (.cond (.tmp 10) .skip (.exit 0)) (.seq (.block 1 (.seq (.region 3 g3 false) (.seq (.region 4 g4 false) (.cond (.tmp 15) (.region 5 g5 false) .skip)))) (.region 6 g6 false))) := by kernel_rfl
structure RInv (kp : AV) (FK : List Nat) (lo : Nat) (H0 : Heap) (rows : List (List DV)) (s : St) (T : Tmps) (H : Heap) (i : Nat) : Prop where
  t0 : T 0 = kp
  t4 : ∃ n, T 4 = I n
  t7 : T 7 = .d (.lst 1 rows)
  t8 : T 8 = I (rows.length : Nat)
  t9 : T 9 = I (i : Nat)
  fl : FlatT lo T
  agr : Agr FK s H
  out : ∀ x, FK.contains x = false → H x = H0 x
  fh : FlatH lo H
section
variable {kp : AV} {FK : List Nat} {FR : Nat} {S : St → Prop} {F : Fm} {H0 : Heap} {rows : List (List DV)} {k : List AItem} {nx0 : Nat} {Q : Tmps → Heap → Nat → Prop}
theorem run_loop (hS : Closed kp FK FR S) (ht : F.tr = true) (hq : F.q = false) (hFR : FR ≤ F.sb) (hn : F.sb ≤ nx0) (hrows : ∀ r ∈ rows, ∃ c : Int, r = [.v (.int .i64 c)]) (hlen : rows.length ≤ 1000) (hex : exitToA 0 (.inLoop lp13 nx0 :: .inBlock 0 :: k) = some k)
    (hend : ∀ T' H' s', S s' → RInv kp FK F.sb H0 rows s' T' H' rows.length → RunsTo F k T' H' (nx0 + wide) Q) :
    ∀ (m i : Nat) (s : St) (T : Tmps) (H : Heap), rows.length = i + m → S s → RInv kp FK F.sb H0 rows s T H i → RunsTo F (.code lp13 :: .inLoop lp13 nx0 :: .inBlock 0 :: k) T H nx0 Q := by
  intro m
  induction m with
  | zero =>
    intro i s T H hi hs hI
    have hi : rows.length = i := by omega
    subst hi
    rw [code13l]
    refine RunsTo.seq (RunsTo.seqs ?_)
    conv in (Array.toList g2) => whnf
    refine Seqs.step ⟨B (decide ((rows.length : Int) < (rows.length : Int))), []⟩ rfl rfl (o_lss rfl hI.t9 hI.t8) (Seqs.nil ?_)
    refine RunsTo.seq (RunsTo.condF ?_ ?_)
    · show B (decide ((rows.length : Int) < (rows.length : Int))) = B false
      rw [decide_eq_false (by omega)]
    · rw [← code13l]
      refine RunsTo.exit (k' := k) (by rw [← hex]; rfl) (hend _ _ s hs ⟨hI.t0, hI.t4, hI.t7, hI.t8, hI.t9, FlatT.put hI.fl rfl, hI.agr, hI.out, hI.fh⟩)
  | succ m ih =>
    intro i s T H hi hs hI
    have hlt : i < rows.length := by omega
    obtain ⟨c, hc⟩ := hrows rows[i] (List.getElem_mem hlt)
    obtain ⟨b, s', ⟨hfl', hgo⟩, hs'⟩ := hS.go s hs c
    obtain ⟨n, hn4⟩ := hI.t4
    rw [code13l]
    refine RunsTo.seq (RunsTo.seqs ?_)
    conv in (Array.toList g2) => whnf
    refine Seqs.step ⟨B (decide ((i : Int) < (rows.length : Int))), []⟩ rfl rfl (o_lss rfl hI.t9 hI.t8) (Seqs.nil ?_)
    refine RunsTo.seq (RunsTo.condT ?_ (RunsTo.skip (RunsTo.seq (RunsTo.block (RunsTo.seq (RunsTo.seqs ?_))))))
    · show B (decide ((i : Int) < (rows.length : Int))) = B true
      rw [decide_eq_true (by omega)]
    conv in (Array.toList g3) => whnf
    refine Seqs.step ⟨.d (.ptr [.v (.int .i64 c)] 0), []⟩ rfl rfl (o_indexD rfl hI.t7 hI.t9 (by omega) (by rw [Int.toNat_natCast, List.getElem?_eq_getElem hlt, hc])) ?_
    refine Seqs.step ⟨I c, []⟩ rfl rfl (o_loadD rfl rfl) ?_
    refine Seqs.step ⟨I c, []⟩ rfl rfl (o_assign rfl rfl) (Seqs.nil ?_)
    refine RunsTo.seq (RunsTo.seqs ?_)
    conv in (Array.toList g4) => whnf
    refine Seqs.step ⟨kp, []⟩ rfl rfl (o_move rfl hI.t0) ?_
    refine Seqs.step ⟨I c, []⟩ rfl rfl (o_move rfl rfl) ?_
    obtain ⟨wr, hw1, hw2, hw3⟩ := hgo H (nx0 + wide + wide + wide + wide + wide + wide) hI.agr (by omega)
    refine Seqs.step ⟨B b, wr⟩ rfl rfl (o_step rfl rfl rfl hS.ptr rfl rfl hw1) (Seqs.nil ?_)
    have hfh : FlatH F.sb (writes H wr) := flat_goes hFR hfl' hI.fh hw2 hw3
    have hout : ∀ x, FK.contains x = false → writes H wr x = H0 x := fun x hx => by rw [hw3 x hx, hI.out x hx]
    have hkp : flatC F.sb kp = true := flatC_le hFR hS.low
    -- the end of a round
    have tail : ∀ (T' : Tmps) (nx' : Nat) (n' : Int), T' 0 = kp → T' 4 = I n' → T' 7 = .d (.lst 1 rows) → T' 8 = I (rows.length : Nat) → T' 9 = I (i : Nat) → FlatT F.sb T' →
        RunsTo F (.inBlock 1 :: .code (.region 6 g6 false) :: .inLoop lp13 nx0 :: .inBlock 0 :: k) T' (writes H wr) nx' Q := by
      intro T' nx' n' h0 h4 h7 h8 h9 hf
      refine RunsTo.inBlock (RunsTo.seqs ?_)
      conv in (Array.toList g6) => whnf
      refine Seqs.step ⟨I (IntKind.i64.wrap ((i : Int) + 1)), []⟩ rfl rfl (o_addC rfl h9) ?_
      refine Seqs.step ⟨I (IntKind.i64.wrap ((i : Int) + 1)), []⟩ rfl rfl (o_move rfl rfl) (Seqs.nil ?_)
      refine RunsTo.round ht hq hn (FlatT.put (FlatT.put hf rfl) rfl) hfh ?_
      refine ih (i + 1) s' _ _ (by omega) hs' ⟨h0, ⟨n', h4⟩, h7, h8, ?_, FlatT.put (FlatT.put hf rfl) rfl, hw2, hout, hfh⟩
      show I (IntKind.i64.wrap ((i : Int) + 1)) = _
      rw [wrap_id (by omega) (by omega)]
      congr 3
    have fl1 := FlatT.put (d := some 15) (v := B b) (FlatT.put (d := some 14) (v := I c) (FlatT.put (d := some 13) (v := kp) (FlatT.put (d := some 6) (v := I c) (FlatT.put (d := some 12) (v := I c) (FlatT.put (d := some 11) (v := .d (.ptr [.v (.int .i64 c)] 0)) (FlatT.put (d := some 10) (v := B (decide ((i : Int) < (rows.length : Int)))) hI.fl rfl) rfl) rfl) rfl) hkp) rfl) rfl
    cases b with
    | false =>
      refine RunsTo.condF rfl (RunsTo.skip ?_)
      exact tail _ _ n hI.t0 hn4 hI.t7 hI.t8 hI.t9 fl1
    | true =>
      refine RunsTo.condT rfl (RunsTo.seqs ?_)
      conv in (Array.toList g5) => whnf
      refine Seqs.step ⟨I n, []⟩ rfl rfl (o_move rfl hn4) ?_
      refine Seqs.step ⟨I (IntKind.i64.wrap (n + 1)), []⟩ rfl rfl (o_addC rfl rfl) ?_
      refine Seqs.step ⟨I (IntKind.i64.wrap (n + 1)), []⟩ rfl rfl (o_assign rfl rfl) (Seqs.nil ?_)
      exact tail _ _ (IntKind.i64.wrap (n + 1)) hI.t0 rfl hI.t7 hI.t8 hI.t9 (FlatT.put (FlatT.put (FlatT.put fl1 rfl) rfl) rfl)
end
end Top
end Go.AI
namespace Go.AI
open Go
set_option linter.unusedVariables false
set_option linter.unusedSimpArgs false
namespace Top
theorem flat_args {lo : Nat} : ∀ {l : List AV}, (∀ v ∈ l, flatC lo v = true) → FlatT lo (argsT l) := fun {l} h t => by
  unfold argsT
  cases hl : l[t]? with
  | none => rfl
  | some v => exact h v (List.mem_of_getElem? hl)
theorem fn13 : cfg.P.funcs[13]? = some Go.Proofs.Tryz.f13 := by kernel_rfl
theorem bd13 : Go.Proofs.Tryz.f13.body = some w13 := by kernel_rfl
theorem nt13 : Go.Proofs.Tryz.f13.ntmps = 20 := by kernel_rfl
theorem tr13 : cfg.trim 13 = true := by kernel_rfl
theorem nm13 : cfg.names 13 = [] := by kernel_rfl
theorem vt13 : cfg.virt 13 = true := by kernel_rfl
theorem re13 (T : Tmps) (H : Heap) : resultsA cfg.P Go.Proofs.Tryz.f13 T H = some (T 4) := by kernel_rfl
/-- The names behind a call of Run. -/
def n13 (nx : Nat) : Nat := upN (nx + 20 + wide + wide + wide + wide) + wide + wide + wide
theorem upN_le (n : Nat) : n ≤ upN n := by unfold upN; omega
section
variable {kp : AV} {FK : List Nat} {FR : Nat} {S : St → Prop}
theorem run_call (hS : Closed kp FK FR S) {rows : List (List DV)} (hrows : ∀ r ∈ rows, ∃ c : Int, r = [.v (.int .i64 c)]) (hlen : rows.length ≤ 1000) {s : St} (hs : S s) {H : Heap} {nx : Nat} (hnx : FR ≤ nx) (hA : Agr FK s H) (hH : FlatH nx H) :
    ∃ v H' s', callω cfg 13 [kp, .d (.lst 1 rows)] H nx = some (v, H', n13 nx) ∧ S s' ∧ Agr FK s' H' ∧ (∀ x, FK.contains x = false → H' x = H x) ∧ FlatH nx H' := by
  have hkp : flatC nx kp = true := flatC_le hnx hS.low
  have hw : wide = 16 := rfl
  have key : RunsTo ⟨nx, nx + 20, true, [], true⟩ [.code w13] (argsT [kp, .d (.lst 1 rows)]) H (nx + 20) fun T' H' nx' => nx' = n13 nx ∧ ∃ s', S s' ∧ Agr FK s' H' ∧ (∀ x, FK.contains x = false → H' x = H x) ∧ FlatH nx H' := by
    have fl0 : FlatT nx (argsT [kp, .d (.lst 1 rows)]) := flat_args fun v hv => by
      simp only [List.mem_cons, List.not_mem_nil, or_false] at hv
      rcases hv with rfl | rfl
      · exact hkp
      · rfl
    rw [code13]
    refine RunsTo.seq (RunsTo.seqs ?_)
    conv in (Array.toList g0) => whnf
    refine Seqs.step ⟨I 0, []⟩ rfl rfl (o_assignC rfl rfl rfl) (Seqs.nil ?_)
    refine RunsTo.seq (RunsTo.seq (RunsTo.seqs ?_))
    conv in (Array.toList g1) => whnf
    refine Seqs.step ⟨.d (.lst 1 rows), []⟩ rfl rfl (o_move rfl rfl) ?_
    refine Seqs.step ⟨I rows.length, []⟩ rfl rfl (o_len rfl rfl rfl rfl rfl) ?_
    refine Seqs.step ⟨I 0, []⟩ rfl rfl (o_const rfl) (Seqs.nil ?_)
    have fl1 := FlatT.put (d := some 9) (v := I 0) (FlatT.put (d := some 8) (v := I rows.length) (FlatT.put (d := some 7) (v := .d (.lst 1 rows)) (FlatT.put (d := some 4) (v := I 0) fl0 rfl) rfl) rfl) rfl
    refine RunsTo.block (RunsTo.loop rfl fl1 hH ?_)
    have hle : nx ≤ upN (nx + 20 + wide + wide + wide + wide) := Nat.le_trans (by omega) (upN_le _)
    refine run_loop hS (F := ⟨nx, nx + 20, true, [], true⟩) rfl rfl hnx hle hrows hlen rfl ?_ rows.length 0 s _ _ (by omega) hs ⟨rfl, ⟨0, rfl⟩, rfl, rfl, rfl, fl1, hA, fun _ _ => rfl, hH⟩
    intro T' H' s' hs' hI
    obtain ⟨n, hn⟩ := hI.t4
    refine RunsTo.seq (RunsTo.seqs ?_)
    conv in (Array.toList g7) => whnf
    refine Seqs.step ⟨I n, []⟩ rfl rfl (o_move rfl hn) ?_
    refine Seqs.step ⟨I n, []⟩ rfl rfl (o_assign rfl rfl) (Seqs.nil (RunsTo.ret ⟨rfl, s', hs', hI.agr, hI.out, hI.fh⟩))
  obtain ⟨T', H', nx', hr, rfl, s', h1, h2, h3, h4⟩ := key
  refine ⟨T' 4, H', s', ?_, h1, h2, h3, h4⟩
  refine callω_of fn13 bd13 (by rw [nt13]; exact Nat.le_of_ble_eq_true rfl) ?_ (re13 T' H')
  rw [nt13, tr13, nm13, vt13]
  exact hr
end
/-! rounds. -/
noncomputable def w14 : Code := codeOf Go.Proofs.Tryz.f14
noncomputable def lp14 : Code := partC [1, 0, 0] w14
noncomputable def li14 : Code := partC [1, 0, 0, 1, 0, 0, 1, 0, 1, 0, 0] w14
noncomputable def r0 : Array Oper := opsC (partC [0] w14)
noncomputable def r1 : Array Oper := opsC (partC [1, 0, 0, 0, 0] w14)
noncomputable def r3 : Array Oper := opsC (partC [1, 0, 0, 1, 0, 0, 0] w14)
noncomputable def r4 : Array Oper := opsC (partC [1, 0, 0, 1, 0, 0, 1, 0, 0] w14)
noncomputable def r5 : Array Oper := opsC (partC [1, 0, 0, 1, 0, 0, 1, 0, 1, 0, 0, 0, 0] w14)
noncomputable def r7 : Array Oper := opsC (partC [1, 0, 0, 1, 0, 0, 1, 0, 1, 0, 0, 1, 0, 0] w14)
noncomputable def r6 : Array Oper := opsC (partC [1, 0, 0, 1, 0, 0, 1, 0, 1, 0, 0, 1, 1] w14)
noncomputable def r8 : Array Oper := opsC (partC [1, 0, 0, 1, 0, 0, 1, 1, 0] w14)
noncomputable def r2 : Array Oper := opsC (partC [1, 0, 0, 1, 1] w14)
theorem code14 : w14 = .seq (.region 0 r0 false) (.block 0 (.loop lp14)) := by kernel_rfl
theorem code14l : lp14 = .seq (.seq (.region 1 r1 false) (.cond (.tmp 8) .skip (.exit 0))) (.seq (.block 1 (.seq (.region 3 r3 false) (.seq (.seq (.region 4 r4 false) (.block 2 (.loop li14))) (.seq (.region 8 r8 false) (.cond (.tmp 23) .ret .skip))))) (.region 2 r2 false)) := by kernel_rfl
theorem code14i : li14 = .seq (.seq (.region 5 r5 false) (.cond (.tmp 13) .skip (.exit 2))) (.seq (.block 3 (.region 7 r7 false)) (.region 6 r6 false)) := by kernel_rfl
/-- So many rounds in which something is done; then one in which nothing is. -/
inductive Rounds (kp : AV) (FK : List Nat) (FR : Nat) : St → Nat → St → Prop
  | stop {s : St} (h0 : Goes kp FK FR s 0 false s) (h1 : Goes kp FK FR s 1 false s) : Rounds kp FK FR s 0 s
  | more {s s1 s2 s' : St} {m : Nat} {b0 b1 : Bool} (h0 : Goes kp FK FR s 0 b0 s1) (h1 : Goes kp FK FR s1 1 b1 s2) (hb : (b1 || b0) = true) (h : Rounds kp FK FR s2 m s') : Rounds kp FK FR s (m + 1) s'
structure OInv (kp : AV) (FK : List Nat) (lo : Nat) (H0 : Heap) (s : St) (T : Tmps) (H : Heap) : Prop where
  t0 : T 0 = kp
  t1 : T 1 = I 2
  fl : FlatT lo T
  agr : Agr FK s H
  out : ∀ x, FK.contains x = false → H x = H0 x
  fh : FlatH lo H
section
variable {kp : AV} {FK : List Nat} {FR : Nat} {F : Fm} {H0 : Heap} {k : List AItem} {nx0 : Nat} {Q : Tmps → Heap → Nat → Prop}
/-- One core's turn within a round. -/
theorem inner_go (hk : ∃ b v i o, kp = .ptr b v i o) (hlow : flatC FR kp = true) (ht : F.tr = true) (hq : F.q = false) (hFR : FR ≤ F.sb) (hn : F.sb ≤ nx0) {s s' : St} {c r : Int} (hc : c < 2) (hc0 : 0 ≤ c) {d b : Bool} (hg : Goes kp FK FR s c b s') {T : Tmps} {H : Heap} (hI : OInv kp FK F.sb H0 s T H) (h4 : T 4 = I r) (h5 : T 5 = B d) (h6 : T 6 = I c)
    (hend : ∀ T' H', OInv kp FK F.sb H0 s' T' H' → T' 4 = I r → T' 5 = B (b || d) → T' 6 = I (c + 1) → RunsTo F (.code li14 :: .inLoop li14 nx0 :: k) T' H' nx0 Q) :
    RunsTo F (.code li14 :: .inLoop li14 nx0 :: k) T H nx0 Q := by
  have hkp : flatC F.sb kp = true := flatC_le hFR hlow
  rw [code14i]
  refine RunsTo.seq (RunsTo.seq (RunsTo.seqs ?_))
  conv in (Array.toList r5) => whnf
  refine Seqs.step ⟨I c, []⟩ rfl rfl (o_move rfl h6) ?_
  refine Seqs.step ⟨I 2, []⟩ rfl rfl (o_move rfl hI.t1) ?_
  refine Seqs.step ⟨B (decide (c < 2)), []⟩ rfl rfl (o_lss rfl rfl rfl) (Seqs.nil ?_)
  refine RunsTo.condT ?_ (RunsTo.skip (RunsTo.seq (RunsTo.block (RunsTo.seqs ?_))))
  · show B (decide (c < 2)) = B true
    rw [decide_eq_true hc]
  conv in (Array.toList r7) => whnf
  refine Seqs.step ⟨kp, []⟩ rfl rfl (o_move rfl hI.t0) ?_
  refine Seqs.step ⟨I c, []⟩ rfl rfl (o_move rfl h6) ?_
  obtain ⟨hfl', hgo⟩ := hg
  obtain ⟨wr, hw1, hw2, hw3⟩ := hgo H (nx0 + wide + wide + wide + wide + wide) hI.agr (by omega)
  refine Seqs.step ⟨B b, wr⟩ rfl rfl (o_step rfl rfl rfl hk rfl rfl hw1) ?_
  refine Seqs.step ⟨B b, []⟩ rfl rfl (o_move rfl rfl) ?_
  have hfh : FlatH F.sb (writes H wr) := flat_goes hFR hfl' hI.fh hw2 hw3
  have hout : ∀ x, FK.contains x = false → writes H wr x = H0 x := fun x hx => by rw [hw3 x hx, hI.out x hx]
  have fl1 := FlatT.put (d := some 19) (v := B b) (FlatT.put (d := some 18) (v := B b) (FlatT.put (d := some 17) (v := I c) (FlatT.put (d := some 16) (v := kp) (FlatT.put (d := some 13) (v := B (decide (c < 2))) (FlatT.put (d := some 12) (v := I 2) (FlatT.put (d := some 11) (v := I c) hI.fl rfl) rfl) rfl) hkp) rfl) rfl) rfl
  have tail : ∀ (T' : Tmps) (nx' : Nat), T' 0 = kp → T' 1 = I 2 → T' 4 = I r → T' 5 = B (b || d) → T' 6 = I c → FlatT F.sb T' →
      RunsTo F (.inBlock 3 :: .code (.region 6 r6 false) :: .inLoop li14 nx0 :: k) T' (writes H wr) nx' Q := by
    intro T' nx' q0 q1 q4 q5 q6 hf
    refine RunsTo.inBlock (RunsTo.seqs ?_)
    conv in (Array.toList r6) => whnf
    refine Seqs.step ⟨I c, []⟩ rfl rfl (o_move rfl q6) ?_
    refine Seqs.step ⟨I (IntKind.i64.wrap (c + 1)), []⟩ rfl rfl (o_addC rfl rfl) ?_
    refine Seqs.step ⟨I (IntKind.i64.wrap (c + 1)), []⟩ rfl rfl (o_assign rfl rfl) (Seqs.nil ?_)
    have fl2 := FlatT.put (d := some 6) (v := I (IntKind.i64.wrap (c + 1))) (FlatT.put (d := some 15) (v := I (IntKind.i64.wrap (c + 1))) (FlatT.put (d := some 14) (v := I c) hf rfl) rfl) rfl
    refine RunsTo.round ht hq hn fl2 hfh ?_
    refine hend _ _ ⟨q0, q1, fl2, hw2, hout, hfh⟩ q4 q5 ?_
    show I (IntKind.i64.wrap (c + 1)) = _
    rw [wrap_id (by omega) (by omega)]
  cases b with
  | false =>
    refine Seqs.step ⟨B d, []⟩ rfl rfl (o_move rfl h5) ?_
    refine Seqs.step ⟨B d, []⟩ rfl rfl (o_pickC (p := false) rfl rfl rfl rfl) ?_
    refine Seqs.step ⟨B d, []⟩ rfl rfl (o_assign rfl rfl) (Seqs.nil ?_)
    exact tail _ _ hI.t0 hI.t1 h4 rfl h6 (FlatT.put (FlatT.put (FlatT.put fl1 rfl) rfl) rfl)
  | true =>
    refine Seqs.pass rfl ?_
    refine Seqs.step ⟨B true, []⟩ rfl rfl (o_pickC (p := true) rfl rfl rfl rfl) ?_
    refine Seqs.step ⟨B true, []⟩ rfl rfl (o_assign rfl rfl) (Seqs.nil ?_)
    exact tail _ _ hI.t0 hI.t1 h4 rfl h6 (FlatT.put (FlatT.put (FlatT.put fl1 rfl) rfl) rfl)
/-- Where the names stand at the end. -/
def m14 (nx0 : Nat) : Nat := upN (nx0 + wide + wide + wide + wide) + wide + wide + wide + wide + wide
theorem rounds_go (hk : ∃ b v i o, kp = .ptr b v i o) (hlow : flatC FR kp = true) (ht : F.tr = true) (hq : F.q = false) (hFR : FR ≤ F.sb) (hn : F.sb ≤ nx0)
    {s s' : St} {m : Nat} (hR : Rounds kp FK FR s m s') :
    ∀ (r : Nat) (T : Tmps) (H : Heap), r + m < 60000 → OInv kp FK F.sb H0 s T H → T 4 = I r →
      (∀ T' H', OInv kp FK F.sb H0 s' T' H' → Q T' H' (m14 nx0)) → RunsTo F (.code lp14 :: .inLoop lp14 nx0 :: k) T H nx0 Q := by
  induction hR with
  | stop h0 h1 =>
    intro r T H hr hI h4 hQ
    rw [code14l]
    refine RunsTo.seq (RunsTo.seq (RunsTo.seqs ?_))
    conv in (Array.toList r1) => whnf
    refine Seqs.step ⟨I r, []⟩ rfl rfl (o_move rfl h4) ?_
    refine Seqs.step ⟨B (decide ((r : Int) < 60000)), []⟩ rfl rfl (o_lssC rfl rfl) (Seqs.nil ?_)
    refine RunsTo.condT ?_ (RunsTo.skip (RunsTo.seq (RunsTo.block (RunsTo.seq (RunsTo.seqs ?_)))))
    · show B (decide ((r : Int) < 60000)) = B true
      rw [decide_eq_true (by omega)]
    conv in (Array.toList r3) => whnf
    refine Seqs.step ⟨B false, []⟩ rfl rfl (o_assignC rfl rfl rfl) (Seqs.nil ?_)
    refine RunsTo.seq (RunsTo.seq (RunsTo.seqs ?_))
    conv in (Array.toList r4) => whnf
    refine Seqs.step ⟨I 0, []⟩ rfl rfl (o_assignC rfl rfl rfl) (Seqs.nil ?_)
    have fl1 := FlatT.put (d := some 6) (v := I 0) (FlatT.put (d := some 5) (v := B false) (FlatT.put (d := some 8) (v := B (decide ((r : Int) < 60000))) (FlatT.put (d := some 7) (v := I r) hI.fl rfl) rfl) rfl) rfl
    refine RunsTo.block (RunsTo.loop hq fl1 hI.fh ?_)
    have hle : F.sb ≤ upN (nx0 + wide + wide + wide + wide) := Nat.le_trans (by omega) (upN_le _)
    refine inner_go hk hlow ht hq hFR hle (c := 0) (by omega) (by omega) h0 (H0 := H0) ⟨hI.t0, hI.t1, fl1, hI.agr, hI.out, hI.fh⟩ (r := r) h4 (d := false) rfl rfl ?_
    intro T1 H1 hI1 q4 q5 q6
    refine inner_go hk hlow ht hq hFR hle (c := 1) (by omega) (by omega) h1 (H0 := H0) hI1 q4 q5 q6 ?_
    intro T2 H2 hI2 p4 p5 p6
    rw [code14i]
    refine RunsTo.seq (RunsTo.seq (RunsTo.seqs ?_))
    conv in (Array.toList r5) => whnf
    refine Seqs.step ⟨I 2, []⟩ rfl rfl (o_move rfl p6) ?_
    refine Seqs.step ⟨I 2, []⟩ rfl rfl (o_move rfl hI2.t1) ?_
    refine Seqs.step ⟨B (decide ((2 : Int) < 2)), []⟩ rfl rfl (o_lss rfl rfl rfl) (Seqs.nil ?_)
    refine RunsTo.condF (show B (decide ((2 : Int) < 2)) = B false by rw [decide_eq_false (by omega)]) (RunsTo.exit rfl (RunsTo.seq (RunsTo.seqs ?_)))
    conv in (Array.toList r8) => whnf
    refine Seqs.step ⟨B false, []⟩ rfl rfl (o_move rfl p5) ?_
    refine Seqs.step ⟨B (!false), []⟩ rfl rfl (o_not rfl rfl) (Seqs.nil ?_)
    refine RunsTo.condT rfl (RunsTo.ret ?_)
    refine hQ _ _ ⟨hI2.t0, hI2.t1, ?_, hI2.agr, hI2.out, hI2.fh⟩
    exact FlatT.put (FlatT.put (FlatT.put (FlatT.put (FlatT.put hI2.fl rfl) rfl) rfl) rfl) rfl
  | more h0 h1 hb hR ih =>
    intro r T H hr hI h4 hQ
    rename_i b0 b1
    rw [code14l]
    refine RunsTo.seq (RunsTo.seq (RunsTo.seqs ?_))
    conv in (Array.toList r1) => whnf
    refine Seqs.step ⟨I r, []⟩ rfl rfl (o_move rfl h4) ?_
    refine Seqs.step ⟨B (decide ((r : Int) < 60000)), []⟩ rfl rfl (o_lssC rfl rfl) (Seqs.nil ?_)
    refine RunsTo.condT ?_ (RunsTo.skip (RunsTo.seq (RunsTo.block (RunsTo.seq (RunsTo.seqs ?_)))))
    · show B (decide ((r : Int) < 60000)) = B true
      rw [decide_eq_true (by omega)]
    conv in (Array.toList r3) => whnf
    refine Seqs.step ⟨B false, []⟩ rfl rfl (o_assignC rfl rfl rfl) (Seqs.nil ?_)
    refine RunsTo.seq (RunsTo.seq (RunsTo.seqs ?_))
    conv in (Array.toList r4) => whnf
    refine Seqs.step ⟨I 0, []⟩ rfl rfl (o_assignC rfl rfl rfl) (Seqs.nil ?_)
    have fl1 := FlatT.put (d := some 6) (v := I 0) (FlatT.put (d := some 5) (v := B false) (FlatT.put (d := some 8) (v := B (decide ((r : Int) < 60000))) (FlatT.put (d := some 7) (v := I r) hI.fl rfl) rfl) rfl) rfl
    refine RunsTo.block (RunsTo.loop hq fl1 hI.fh ?_)
    have hle : F.sb ≤ upN (nx0 + wide + wide + wide + wide) := Nat.le_trans (by omega) (upN_le _)
    refine inner_go hk hlow ht hq hFR hle (c := 0) (by omega) (by omega) h0 (H0 := H0) ⟨hI.t0, hI.t1, fl1, hI.agr, hI.out, hI.fh⟩ (r := r) h4 (d := false) rfl rfl ?_
    intro T1 H1 hI1 q4 q5 q6
    refine inner_go hk hlow ht hq hFR hle (c := 1) (by omega) (by omega) h1 (H0 := H0) hI1 q4 q5 q6 ?_
    intro T2 H2 hI2 p4 p5 p6
    have hd : (b1 || (b0 || false)) = true := by rw [Bool.or_false]; exact hb
    rw [hd] at p5
    rw [code14i]
    refine RunsTo.seq (RunsTo.seq (RunsTo.seqs ?_))
    conv in (Array.toList r5) => whnf
    refine Seqs.step ⟨I 2, []⟩ rfl rfl (o_move rfl p6) ?_
    refine Seqs.step ⟨I 2, []⟩ rfl rfl (o_move rfl hI2.t1) ?_
    refine Seqs.step ⟨B (decide ((2 : Int) < 2)), []⟩ rfl rfl (o_lss rfl rfl rfl) (Seqs.nil ?_)
    refine RunsTo.condF (show B (decide ((2 : Int) < 2)) = B false by rw [decide_eq_false (by omega)]) (RunsTo.exit rfl (RunsTo.seq (RunsTo.seqs ?_)))
    conv in (Array.toList r8) => whnf
    refine Seqs.step ⟨B true, []⟩ rfl rfl (o_move rfl p5) ?_
    refine Seqs.step ⟨B (!true), []⟩ rfl rfl (o_not rfl rfl) (Seqs.nil ?_)
    refine RunsTo.condF rfl (RunsTo.skip (RunsTo.inBlock (RunsTo.seqs ?_)))
    conv in (Array.toList r2) => whnf
    refine Seqs.step ⟨I r, []⟩ rfl rfl (o_move rfl p4) ?_
    refine Seqs.step ⟨I (IntKind.i64.wrap ((r : Int) + 1)), []⟩ rfl rfl (o_addC rfl rfl) ?_
    refine Seqs.step ⟨I (IntKind.i64.wrap ((r : Int) + 1)), []⟩ rfl rfl (o_assign rfl rfl) (Seqs.nil ?_)
    have fl3 := FlatT.put (d := some 4) (v := I (IntKind.i64.wrap ((r : Int) + 1))) (FlatT.put (d := some 10) (v := I (IntKind.i64.wrap ((r : Int) + 1))) (FlatT.put (d := some 9) (v := I r) (FlatT.put (d := some 23) (v := B false) (FlatT.put (d := some 22) (v := B true) (FlatT.put (d := some 13) (v := B false) (FlatT.put (d := some 12) (v := I 2) (FlatT.put (d := some 11) (v := I 2) hI2.fl rfl) rfl) rfl) rfl) rfl) rfl) rfl) rfl
    refine RunsTo.round ht hq hn fl3 hI2.fh ?_
    rw [← code14i, ← code14l]
    refine ih (r + 1) _ _ (by omega) ⟨hI2.t0, hI2.t1, fl3, hI2.agr, hI2.out, hI2.fh⟩ ?_ hQ
    show I (IntKind.i64.wrap ((r : Int) + 1)) = _
    rw [wrap_id (by omega) (by omega)]
    congr 3
theorem fn14 : cfg.P.funcs[14]? = some Go.Proofs.Tryz.f14 := by kernel_rfl
theorem bd14 : Go.Proofs.Tryz.f14.body = some w14 := by kernel_rfl
theorem nt14 : Go.Proofs.Tryz.f14.ntmps = 24 := by kernel_rfl
theorem tr14 : cfg.trim 14 = true := by kernel_rfl
theorem nm14 : cfg.names 14 = [] := by kernel_rfl
theorem vt14 : cfg.virt 14 = true := by kernel_rfl
theorem re14 (T : Tmps) (H : Heap) : resultsA cfg.P Go.Proofs.Tryz.f14 T H = some (.tup []) := by kernel_rfl
/-- The names behind a call of rounds. -/
def n14 (nx : Nat) : Nat := m14 (upN (nx + 24 + wide))
theorem rounds_call (hk : ∃ b v i o, kp = .ptr b v i o) (hlow : flatC FR kp = true) {s s' : St} {m : Nat} (hR : Rounds kp FK FR s m s') (hm : m < 60000) {H : Heap} {nx : Nat} (hnx : FR ≤ nx) (hA : Agr FK s H) (hH : FlatH nx H) :
    ∃ H', callω cfg 14 [kp, I 2] H nx = some (.tup [], H', n14 nx) ∧ Agr FK s' H' ∧ (∀ x, FK.contains x = false → H' x = H x) ∧ FlatH nx H' := by
  have hkp : flatC nx kp = true := flatC_le hnx hlow
  have hw : wide = 16 := rfl
  have key : RunsTo ⟨nx, nx + 24, true, [], true⟩ [.code w14] (argsT [kp, I 2]) H (nx + 24) fun T' H' nx' => nx' = n14 nx ∧ Agr FK s' H' ∧ (∀ x, FK.contains x = false → H' x = H x) ∧ FlatH nx H' := by
    have fl0 : FlatT nx (argsT [kp, I 2]) := flat_args fun v hv => by
      simp only [List.mem_cons, List.not_mem_nil, or_false] at hv
      rcases hv with rfl | rfl
      · exact hkp
      · rfl
    rw [code14]
    refine RunsTo.seq (RunsTo.seqs ?_)
    conv in (Array.toList r0) => whnf
    refine Seqs.step ⟨I 0, []⟩ rfl rfl (o_assignC rfl rfl rfl) (Seqs.nil ?_)
    have fl1 := FlatT.put (d := some 4) (v := I 0) fl0 rfl
    refine RunsTo.block (RunsTo.loop rfl fl1 hH ?_)
    have hle : nx ≤ upN (nx + 24 + wide) := Nat.le_trans (by omega) (upN_le _)
    refine rounds_go hk hlow (F := ⟨nx, nx + 24, true, [], true⟩) (H0 := H) rfl rfl hnx hle hR 0 _ _ (by omega) ⟨rfl, rfl, fl1, hA, fun _ _ => rfl, hH⟩ rfl ?_
    intro T' H' hI
    exact ⟨rfl, hI.agr, hI.out, hI.fh⟩
  obtain ⟨T', H', nx', hr, rfl, h2, h3, h4⟩ := key
  refine ⟨H', ?_, h2, h3, h4⟩
  refine callω_of fn14 bd14 (by rw [nt14]; exact Nat.le_of_ble_eq_true rfl) ?_ (re14 T' H')
  rw [nt14, tr14, nm14, vt14]
  exact hr
end
end Top
end Go.AI
