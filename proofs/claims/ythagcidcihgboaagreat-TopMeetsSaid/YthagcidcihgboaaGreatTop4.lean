/-
  Own work. A pick that is no core's number: Step finds none, and nothing turns.
-/
import Derived.Test.YthagcidcihgboaaGreatTop3
namespace Go.AI
open Go
set_option linter.unusedVariables false
set_option linter.unusedSimpArgs false
namespace Top
noncomputable def w17 : Code := codeOf Go.Proofs.Tryz.f17
noncomputable def a0 : Array Oper := opsC (partC [0] w17)
noncomputable def a1 : Array Oper := opsC (partC [1, 0, 0] w17)
noncomputable def a2 : Array Oper := opsC (partC [1, 0, 1, 0, 0] w17)
noncomputable def ax : Code := partC [1, 1] w17
theorem code17 : w17 = .seq (.region 0 a0 false) (.seq (.seq (.region 1 a1 false) (.cond (.tmp 19) (.seq (.region 2 a2 false) .ret) .skip)) ax) := by kernel_rfl
noncomputable def w7 : Code := codeOf Go.Proofs.Tryz.f7
noncomputable def s0 : Array Oper := opsC (partC [0] w7)
noncomputable def s1 : Array Oper := opsC (partC [1, 0] w7)
noncomputable def s2 : Array Oper := opsC (partC [1, 1, 0, 0] w7)
noncomputable def s3 : Array Oper := opsC (partC [1, 1, 0, 1, 0, 0] w7)
noncomputable def sx : Code := partC [1, 1, 1] w7
theorem code7 : w7 = .seq (.region 0 s0 false) (.seq (.region 1 s1 false) (.seq (.seq (.region 2 s2 false) (.cond (.tmp 17) (.seq (.region 3 s3 false) .ret) .skip)) sx)) := by kernel_rfl
theorem UP26 : ∃ t, cfg.P.underlying 26 = some (.pointer t) := ⟨80, by kernel_rfl⟩
theorem UP70 : ∃ t, cfg.P.underlying 70 = some (.pointer t) := ⟨90, by kernel_rfl⟩
theorem F80 : tfld cfg.P 80 3 = some (12, 1, false) := by kernel_rfl
theorem U78 : ∃ e, cfg.P.underlying 78 = some (.slice e) := ⟨90, by kernel_rfl⟩
theorem Z78 : tsz cfg.P 78 = some 1 := by kernel_rfl
theorem G78 : tagg cfg.P 78 = false := by kernel_rfl
abbrev nilp : AV := .d (.v (.pointer none))
section
variable {F : Fm} {k : List AItem} {T : Tmps} {H : Heap} {nx : Nat} {Q : Tmps → Heap → Nat → Prop}
theorem o_assignN {o : Oper} (ho : o.op = .assign (.const (.pointer none))) : operOut cfg (callω cfg) F T H nx o = some (.eff ⟨nilp, []⟩) := by
  cases hd : o.dst <;> simp [operOut, ho, eff, aeval, constA, assignA, hd]
theorem o_eqNil {o : Oper} {t t' a b v i j : Nat} (hu : ∃ e, cfg.P.underlying t = some (.pointer e)) (ho : o.op = .binOp .eql t (.tmp a) (.const (.pointer none)) t') (h1 : T a = .ptr b v i j) : operOut cfg (callω cfg) F T H nx o = some (.eff ⟨B false, []⟩) := by
  obtain ⟨e, hu⟩ := hu
  simp [operOut, ho, eff, aeval, constA, h1, binA, isPtrA, hu]
theorem o_eqNilN {o : Oper} {t t' a : Nat} (hu : ∃ e, cfg.P.underlying t = some (.pointer e)) (ho : o.op = .binOp .eql t (.tmp a) (.const (.pointer none)) t') (h1 : T a = nilp) : operOut cfg (callω cfg) F T H nx o = some (.eff ⟨B true, []⟩) := by
  obtain ⟨e, hu⟩ := hu
  simp [operOut, ho, eff, aeval, constA, h1, binA, hu]
theorem o_geq {o : Oper} {t t' a b : Nat} {x y : Int} (ho : o.op = .binOp .geq t (.tmp a) (.tmp b) t') (h1 : T a = I x) (h2 : T b = I y) : operOut cfg (callω cfg) F T H nx o = some (.eff ⟨B (decide (x ≥ y)), []⟩) := by
  simp [operOut, ho, eff, aeval, h1, h2, binA, intOp]
theorem o_nilCheck {o : Oper} {a b v i j : Nat} (ho : o.op = .nilCheck (.tmp a)) (h1 : T a = .ptr b v i j) : operOut cfg (callω cfg) F T H nx o = some (.eff ⟨.ptr b v i j, []⟩) := by
  simp [operOut, ho, eff, aeval, h1]
theorem o_fld {o : Oper} {t m off a b v i j : Nat} (ht : tfld cfg.P t m = some (off, 1, false)) (ho : o.op = .fieldAddr t (.tmp a) m) (h1 : T a = .ptr b v i j) : operOut cfg (callω cfg) F T H nx o = some (.eff ⟨.ptr b v i (j + off), []⟩) := by
  simp [operOut, ho, eff, aeval, h1, ht]
theorem o_load {o : Oper} {t a b v i j s : Nat} {data : List (List AV)} {r : List AV} {x : AV} (hz : tsz cfg.P t = some 1) (hg : tagg cfg.P t = false) (ho : o.op = .load t (.tmp a)) (h1 : T a = .ptr b v i j) (hb : H b = some (.row s v data)) (hr : data[i]? = some r) (hx : r[j]? = some x) : operOut cfg (callω cfg) F T H nx o = some (.eff ⟨x, []⟩) := by
  obtain ⟨hj, hx⟩ := List.getElem?_eq_some_iff.1 hx
  have hc : getCells r j 1 = some [x] := by
    unfold getCells
    rw [if_pos (by omega), List.drop_eq_getElem_cons hj, hx]; rfl
  simp [operOut, ho, eff, aeval, h1, hb, hr, hz, hg, hc, partA]
theorem o_lenR {o : Oper} {t a b v off n : Nat} {c : Go.Call} (hu : ∃ e, cfg.P.underlying t = some (.slice e)) (ho : o.op = .call c) (hc : c.callee = .builtin .len) (ha : c.args.toList = [.tmp a]) (ht : c.argTypes.toList = [t]) (h1 : T a = .ref b v off n) : operOut cfg (callω cfg) F T H nx o = some (.eff ⟨I n, []⟩) := by
  obtain ⟨e, hu⟩ := hu
  simp [operOut, ho, eff, hc, ha, ht, aeval, h1, builtinA, hu, lenA]
theorem mode_at : cfg.mode 17 = .inl := by kernel_rfl
theorem typed_at (b v i o : Nat) (c : Int) : typedFor cfg.P 17 [.ptr b v i o, I c] = [.ptr b v i o, I c] := by kernel_rfl
theorem o_at {o : Oper} {a b kb v i j : Nat} {n : Int} {c : Go.Call} {x : AV} {H' : Heap} {nx' : Nat} (ho : o.op = .call c) (hc : c.callee = .value (.func 17)) (ha : c.args.toList = [.tmp a, .tmp b]) (h1 : T a = .ptr kb v i j) (h2 : T b = I n) (he : callω cfg 17 [.ptr kb v i j, I n] H nx = some (x, H', nx')) : operOut cfg (callω cfg) F T H nx o = some (.run x H' nx') := by
  have hv : aeval T (.func 17) = .fn 17 [] := by
    show (if 17 < bnd then AV.fn 17 [] else AV.dead) = _
    rw [if_pos (by decide)]
  unfold operOut
  rw [ho]
  dsimp only
  rw [hc]
  dsimp only
  rw [hv]
  dsimp only
  rw [if_pos (by decide), ha]
  have e2 : List.map (aeval T) [Operand.tmp a, Operand.tmp b] = [.ptr kb v i j, I n] := by simp [aeval, h1, h2]
  rw [e2, typed_at, List.append_nil]
  unfold callOut
  rw [mode_at]
  dsimp only
  rw [he]
theorem Seqs.run {ops : Array Oper} {o : Oper} {r : List Oper} {x : AV} {H' : Heap} {nx' : Nat} (hw : wantedA ops T o = some true) (hd : isDeep F o = false) (he : operOut cfg (callω cfg) F T H nx o = some (.run x H' nx')) (hr : Seqs F ops r (putT T o.dst x) H' nx' Q) : Seqs F ops (o :: r) T H nx Q := by
  obtain ⟨T', H2, nx2, h1, h2⟩ := hr
  refine ⟨T', H2, nx2, ?_, h2⟩
  unfold seqOps
  rw [hw]
  simp only [hd, Bool.false_eq_true, if_false, he, h1]
end
theorem fn17 : cfg.P.funcs[17]? = some Go.Proofs.Tryz.f17 := by kernel_rfl
theorem bd17 : Go.Proofs.Tryz.f17.body = some w17 := by kernel_rfl
theorem nt17 : Go.Proofs.Tryz.f17.ntmps = 26 := by kernel_rfl
theorem re17 (T : Tmps) (H : Heap) : resultsA cfg.P Go.Proofs.Tryz.f17 T H = some (T 4) := by kernel_rfl
theorem fn7 : cfg.P.funcs[7]? = some Go.Proofs.Tryz.f7 := by kernel_rfl
theorem bd7 : Go.Proofs.Tryz.f7.body = some w7 := by kernel_rfl
theorem nt7 : Go.Proofs.Tryz.f7.ntmps = 18 := by kernel_rfl
theorem re7 (T : Tmps) (H : Heap) : resultsA cfg.P Go.Proofs.Tryz.f7 T H = some (T 4) := by kernel_rfl
theorem at_out {kb s cb cv co : Nat} {r : List AV} {H : Heap} {nx : Nat} {c : Int} (hc : c < 0 ∨ 2 ≤ c) (hb : H kb = some (.row s 0 [r])) (hr : r[12]? = some (.ref cb cv co 2)) : ∃ nx', callω cfg 17 [.ptr kb 0 0 0, I c] H nx = some (nilp, H, nx') := by
  have key : RunsTo ⟨nx, nx + 26, cfg.trim 17, cfg.names 17, cfg.virt 17⟩ [.code w17] (argsT [.ptr kb 0 0 0, I c]) H (nx + 26) fun T' H' nx' => H' = H ∧ T' 4 = nilp := by
    rw [code17]
    refine RunsTo.seq (RunsTo.seqs ?_)
    conv in (Array.toList a0) => whnf
    refine Seqs.step ⟨nilp, []⟩ rfl rfl (o_assignN rfl) (Seqs.nil ?_)
    refine RunsTo.seq (RunsTo.seq (RunsTo.seqs ?_))
    conv in (Array.toList a1) => whnf
    refine Seqs.step ⟨.ptr kb 0 0 0, []⟩ rfl rfl (o_move rfl rfl) ?_
    refine Seqs.step ⟨B false, []⟩ rfl rfl (o_eqNil UP26 rfl rfl) ?_
    refine Seqs.step ⟨B false, []⟩ rfl rfl (o_move rfl rfl) ?_
    refine Seqs.step ⟨I c, []⟩ rfl rfl (o_move rfl rfl) ?_
    refine Seqs.step ⟨B (decide (c < 0)), []⟩ rfl rfl (o_lssC rfl rfl) ?_
    by_cases hneg : c < 0
    · rw [decide_eq_true hneg]
      refine Seqs.step ⟨B true, []⟩ rfl rfl (o_pickC (p := false) rfl rfl rfl rfl) ?_
      refine Seqs.step ⟨B true, []⟩ rfl rfl (o_move rfl rfl) ?_
      refine Seqs.pass rfl (Seqs.pass rfl (Seqs.pass rfl (Seqs.pass rfl (Seqs.pass rfl (Seqs.pass rfl (Seqs.pass rfl ?_))))))
      refine Seqs.step ⟨B true, []⟩ rfl rfl (o_pickC (p := true) rfl rfl rfl rfl) (Seqs.nil ?_)
      refine RunsTo.condT rfl (RunsTo.seq (RunsTo.seqs ?_))
      conv in (Array.toList a2) => whnf
      exact Seqs.step ⟨nilp, []⟩ rfl rfl (o_assignN rfl) (Seqs.nil (RunsTo.ret ⟨rfl, rfl⟩))
    · rw [decide_eq_false hneg]
      refine Seqs.step ⟨B false, []⟩ rfl rfl (o_pickC (p := false) rfl rfl rfl rfl) ?_
      refine Seqs.step ⟨B false, []⟩ rfl rfl (o_move rfl rfl) ?_
      refine Seqs.step ⟨I c, []⟩ rfl rfl (o_move rfl rfl) ?_
      refine Seqs.step ⟨.ptr kb 0 0 0, []⟩ rfl rfl (o_move rfl rfl) ?_
      refine Seqs.step ⟨.ptr kb 0 0 0, []⟩ rfl rfl (o_nilCheck rfl rfl) ?_
      refine Seqs.step ⟨.ptr kb 0 0 (0 + 12), []⟩ rfl rfl (o_fld F80 rfl rfl) ?_
      refine Seqs.step ⟨.ref cb cv co 2, []⟩ rfl rfl (o_load Z78 G78 rfl rfl hb rfl hr) ?_
      refine Seqs.step ⟨I 2, []⟩ rfl rfl (o_lenR U78 rfl rfl rfl rfl rfl) ?_
      refine Seqs.step ⟨B (decide (c ≥ 2)), []⟩ rfl rfl (o_geq rfl rfl rfl) ?_
      refine Seqs.step ⟨B (decide (c ≥ 2)), []⟩ rfl rfl (o_pickC (p := false) rfl rfl rfl rfl) (Seqs.nil ?_)
      refine RunsTo.condT ?_ (RunsTo.seq (RunsTo.seqs ?_))
      · show B (decide (c ≥ 2)) = B true
        rw [decide_eq_true (by omega)]
      conv in (Array.toList a2) => whnf
      exact Seqs.step ⟨nilp, []⟩ rfl rfl (o_assignN rfl) (Seqs.nil (RunsTo.ret ⟨rfl, rfl⟩))
  obtain ⟨T', H', nx', hr', rfl, h4⟩ := key
  refine ⟨nx', ?_⟩
  have := callω_of (args := [.ptr kb 0 0 0, I c]) fn17 bd17 (by rw [nt17]; exact Nat.le_of_ble_eq_true rfl) (by rw [nt17]; exact hr') (re17 T' H')
  rw [this, h4]
theorem step_out {kb s cb cv co : Nat} {r : List AV} {H : Heap} {nx : Nat} {c : Int} (hc : c < 0 ∨ 2 ≤ c) (hb : H kb = some (.row s 0 [r])) (hr : r[12]? = some (.ref cb cv co 2)) : ∃ nx', callω cfg 7 [.ptr kb 0 0 0, I c] H nx = some (B false, H, nx') := by
  have key : RunsTo ⟨nx, nx + 18, cfg.trim 7, cfg.names 7, cfg.virt 7⟩ [.code w7] (argsT [.ptr kb 0 0 0, I c]) H (nx + 18) fun T' H' nx' => H' = H ∧ T' 4 = B false := by
    rw [code7]
    refine RunsTo.seq (RunsTo.seqs ?_)
    conv in (Array.toList s0) => whnf
    refine Seqs.step ⟨B false, []⟩ rfl rfl (o_assignC rfl rfl rfl) (Seqs.nil ?_)
    refine RunsTo.seq (RunsTo.seqs ?_)
    conv in (Array.toList s1) => whnf
    refine Seqs.step ⟨.ptr kb 0 0 0, []⟩ rfl rfl (o_move rfl rfl) ?_
    refine Seqs.step ⟨I c, []⟩ rfl rfl (o_move rfl rfl) ?_
    obtain ⟨nx', hat⟩ := at_out (nx := nx + 18 + wide + wide + wide) hc hb hr
    refine Seqs.run rfl rfl (o_at rfl rfl rfl rfl rfl hat) ?_
    refine Seqs.step ⟨nilp, []⟩ rfl rfl (o_assign rfl rfl) (Seqs.nil ?_)
    refine RunsTo.seq (RunsTo.seq (RunsTo.seqs ?_))
    conv in (Array.toList s2) => whnf
    refine Seqs.step ⟨nilp, []⟩ rfl rfl (o_move rfl rfl) ?_
    refine Seqs.step ⟨B true, []⟩ rfl rfl (o_eqNilN UP70 rfl rfl) ?_
    refine Seqs.step ⟨B true, []⟩ rfl rfl (o_move rfl rfl) ?_
    refine Seqs.pass rfl (Seqs.pass rfl (Seqs.pass rfl (Seqs.pass rfl (Seqs.pass rfl ?_))))
    refine Seqs.step ⟨B true, []⟩ rfl rfl (o_pickC (p := true) rfl rfl rfl rfl) (Seqs.nil ?_)
    refine RunsTo.condT rfl (RunsTo.seq (RunsTo.seqs ?_))
    conv in (Array.toList s3) => whnf
    exact Seqs.step ⟨B false, []⟩ rfl rfl (o_assignC rfl rfl rfl) (Seqs.nil (RunsTo.ret ⟨rfl, rfl⟩))
  obtain ⟨T', H', nx', hr', rfl, h4⟩ := key
  refine ⟨nx', ?_⟩
  have := callω_of (args := [.ptr kb 0 0 0, I c]) fn7 bd7 (by rw [nt7]; exact Nat.le_of_ble_eq_true rfl) (by rw [nt7]; exact hr') (re7 T' H')
  rw [this, h4]
/-- Two cores are there. -/
noncomputable def cores2 (FK : List Nat) (s : St) (kb : Nat) : Bool := match hp (trOf FK s) kb with
  | some (ABlk.row _ 0 [r]) => (match (r : List AV)[12]? with
    | some (AV.ref _ _ _ 2) => true
    | _ => false)
  | _ => false
theorem goes_out {kb : Nat} {FK : List Nat} {FR : Nat} {s t : St} {b : Bool} {c : Int} (hc : c < 0 ∨ 2 ≤ c) (h0 : nxt (.ptr kb 0 0 0) FK FR s 0 = some (b, t)) (h2 : cores2 FK s kb = true) (hfs : flatS FK FR s = true) : Goes (.ptr kb 0 0 0) FK FR s c false s := by
  refine ⟨hfs, fun H fr hA hfr => ?_⟩
  unfold nxt nxtF at h0
  generalize hH0 : hp (trOf FK s) = H0 at h0
  generalize hF : reach (.ptr kb 0 0 0) 0 H0 = F at h0
  split at h0
  case isFalse => cases h0
  rename_i hok
  unfold boxOK at hok
  simp only [Bool.and_eq_true] at hok
  have hsub : ∀ x, F.contains x = true → FK.contains x = true := fun x hx => by
    have := List.all_eq_true.1 hok.1 x (by simpa using hx)
    simp only [Bool.and_eq_true] at this
    cases hb : H0 x with
    | none => rw [hb] at this; simp [closedB] at this
    | some y => exact trOf_in FK s x y (by rw [hH0]; exact hb)
  have hA' : ∀ x, F.contains x = true → H x = H0 x := fun x hx => by rw [hA x (hsub x hx), hH0]
  have hreach : [AV.ptr kb 0 0 0, I c].flatMap (refsIn H 4) = F := by
    have e1 : [AV.ptr kb 0 0 0, I c].flatMap (refsIn H0 4) = F := hF
    have : ∀ l : List AV, (∀ x ∈ l.flatMap (refsIn H0 4), H x = H0 x) → l.flatMap (refsIn H 4) = l.flatMap (refsIn H0 4) := fun l hl =>
      fm_congr l fun v hv => refsIn_congr _ v fun x hx => hl x (List.mem_flatMap.2 ⟨v, hv, hx⟩)
    refine (this [.ptr kb 0 0 0, I c] fun x hx => hA' x ?_).trans e1
    have hx2 : x ∈ F := by rw [← e1]; exact hx
    exact List.elem_iff.2 hx2
  have hkF : F.contains kb = true := by
    have : kb ∈ [AV.ptr kb 0 0 0, I 0].flatMap (refsIn H0 4) := by
      rw [List.flatMap_cons]
      refine List.mem_append_left _ ?_
      unfold refsIn
      exact List.mem_flatMap.2 ⟨kb, by simp [refs], List.mem_cons_self ..⟩
    exact List.elem_iff.2 (by rw [← hF]; exact this)
  have hok2 : boxOK F [.ptr kb 0 0 0, I c] H fr = true := by
    unfold boxOK
    simp only [Bool.and_eq_true]
    refine ⟨List.all_eq_true.2 fun x hx => ?_, hok.2⟩
    have := List.all_eq_true.1 hok.1 x hx
    simp only [Bool.and_eq_true] at this ⊢
    rw [hA' x (by simpa using hx)]
    refine ⟨?_, this.2⟩
    have h1 := this.1
    simp [Nat.blt] at h1 ⊢
    omega
  have hcl : (F.all fun x => closedB F (restr H F x)) = true := List.all_eq_true.2 fun x hx => by
    have := List.all_eq_true.1 hok.1 x hx
    simp only [Bool.and_eq_true] at this
    have hx' : F.contains x = true := by simpa using hx
    unfold restr
    rw [if_pos hx', hA' x hx']
    exact this.2
  obtain ⟨r, sz, cb, cv, co, hrow, hr12⟩ : ∃ r sz cb cv co, H0 kb = some (.row sz 0 [r]) ∧ r[12]? = some (.ref cb cv co 2) := by
    unfold cores2 at h2
    rw [hH0] at h2
    split at h2
    · rename_i sz r hrow
      split at h2
      · rename_i cb cv co hr
        exact ⟨r, sz, cb, cv, co, hrow, hr⟩
      · cases h2
    · cases h2
  obtain ⟨nx', hcall⟩ := step_out (H := restr H F) (nx := boxTop F) hc (by unfold restr; rw [if_pos hkF, hA' kb hkF]; exact hrow) hr12
  refine ⟨boxWr F (restr H F), ?_, fun x hx => ?_, fun x hx => ?_⟩
  · have e : boxCall (callω cfg) 7 [.ptr kb 0 0 0, I c] H fr = boxEnd F (B false) (restr H F) fr := by
      unfold boxCall
      rw [show ([AV.ptr kb 0 0 0, I c].flatMap (refsIn H 4)) = F from hreach, if_pos hok2, hcall]
    rw [e]
    exact boxEnd_bool hcl
  · rw [writes_box]
    by_cases hF2 : F.contains x = true
    · rw [if_pos hF2]; unfold restr; rw [if_pos hF2]; exact hA x hx
    · rw [if_neg hF2]; exact hA x hx
  · rw [writes_box]
    by_cases hF2 : F.contains x = true
    · rw [hsub x hF2] at hx; cases hx
    · rw [if_neg hF2]
/-- All picks of a state. -/
theorem goes_all {kb : Nat} {FK : List Nat} {FR : Nat} {s t0 t1 : St} {b0 b1 : Bool} (hlt : ∀ x, FK.contains x = true → x < FR) (h0 : nxt (.ptr kb 0 0 0) FK FR s 0 = some (b0, t0)) (h1 : nxt (.ptr kb 0 0 0) FK FR s 1 = some (b1, t1)) (h2 : cores2 FK s kb = true) (hfs : flatS FK FR s = true) {S : St → Prop} (hs : S s) (hs0 : S t0) (hs1 : S t1) (c : Int) : ∃ b s', Goes (.ptr kb 0 0 0) FK FR s c b s' ∧ S s' := by
  by_cases e0 : c = 0
  · subst e0; exact ⟨b0, t0, nxt_goes h0 hlt, hs0⟩
  · by_cases e1 : c = 1
    · subst e1; exact ⟨b1, t1, nxt_goes h1 hlt, hs1⟩
    · exact ⟨false, s, goes_out (by omega) h0 h2 hfs, hs⟩
end Top
end Go.AI
