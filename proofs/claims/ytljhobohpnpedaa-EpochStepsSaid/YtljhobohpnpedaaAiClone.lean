/-
  Own work. slices.Clone, whatever its type: a new row of one's own with the same elements.
-/
import Derived.Test.YtljhobohpnpedaaAiRun
import Derived.Control
import Derived.BigFrame
import Derived.Lib.LazyBuf
namespace Go.AI
open Go
set_option linter.unusedVariables false
set_option linter.unusedSimpArgs false
variable {P : Program} {O : Nat → Prop} {ι : Inj} {H H0 : Heap} {w : World}

theorem src_empty (s0 : Nat) (a : Option Addr) (cap : Nat) : Src O ι w P s0 [] (.slice a 0 cap) [] where
  len := by simp
  run := fun w2 _ => by
    cases a with
    | none => simp [Builtin.firstCells]
    | some a => simp [Builtin.firstCells, loadCells, loadCellsFrom]
  rows := fun i x h => by simp at h
  one := by simp
theorem clone_sem (hH : HR O ι H w) (h0 : ∀ b B, H0 b = some B → H b = some B) {t e0 : TypeId} {s0 by0 fr ty : Nat} {x : AV} {c : Value} {ys : List (List AV)} {N : Nat → Prop} (hN : N fr) (hf : ι fr = none)
    (ht : tsl P t = some (e0, s0, by0)) (hy : rowsOf H0 s0 x = some ys) (hx : R O ι w x c) (hroom : ys.length * by0 ≤ room) :
    ∃ c5 w5, (Instr.buildSlice t 0 #[]).run P w = .ok c5 w5 ∧ ∃ cv w' ι', (Builtin.append_ #[t, t] ty #[c5, c]).run P w5 = .ok cv w' ∧ Post O ι H w N ⟨.ref fr 0 0 ys.length, [(fr, some (.row s0 0 ys))]⟩ cv w' ι' := by
  obtain ⟨hsl, _⟩ := tsl_some ht
  have hu : ∃ d, P.underlying t = some (.slice d) := ⟨_, hsl⟩
  obtain ⟨A', k1, k2, k3⟩ := buildSlice_run (O := O) (ι := ι) (w := w) (n := 0) (l := []) (ps := []) (rows := []) ht (by simp) (by simp [rowsAre]) (by simp [PR]) rfl
  obtain ⟨cv1, w1, ι1, q1, q2⟩ := buildSlice_sim (n := 0) (l := []) (ps := []) (rows := []) (N := N) hH hN hf ht (by simp) (by simp [rowsAre]) (by simp [PR]) rfl
  have hsame : Same w { w with heap := w.heap.push (.cells A' e0) } := ⟨rfl, rfl, rfl, by simp, fun k hk => by
    show (w.heap.push _)[k]? = _
    rw [Array.getElem?_push, if_neg (by omega)]⟩
  refine ⟨_, _, k1, ?_⟩
  cases ys with
  | nil =>
    obtain ⟨ay, capy, l, rfl, hcapy, hsrc⟩ := rowsOf_src (P := P) hH h0 hy hx
    have hl : l = [] := by
      have := hsrc.len
      simpa using this
    subst hl
    have hrun : ∀ w2 : World, w2.heap = w.heap → (Builtin.firstCells s0 0 (.slice ay 0 capy)).run P w2 = .ok (([] : List Value).toArray) w2 := fun w2 h => by simpa using hsrc.run w2 h
    have e := q1.symm.trans k1
    simp only [Result.ok.injEq] at e
    obtain ⟨rfl, rfl⟩ := e
    refine ⟨_, _, ι1, append_none (a := some ⟨w.heap.size, 0, none⟩) (cap := 0) (len := 0) ht hu (Nat.le_refl _) #[t, t] rfl rfl ?_, q2⟩
    cases ay with
    | none => simp [Builtin.firstCells]
    | some a => simp [Builtin.firstCells, loadCells, loadCellsFrom]
  | cons y0 ys' =>
    have hH5 := hH.same hsame
    have hx5 := R.mono (hsame.ex ι) x c hx
    obtain ⟨cv, w', ι', r1, r2⟩ := append_new (xs := []) (ys := y0 :: ys') (len := 0) (a := some ⟨w.heap.size, 0, none⟩) (old := []) (N := N) (ty := ty) hH5 h0 hN hf ht hu hy hx5 (src_empty s0 _ 0) rfl (by simp) (by simpa using hroom) #[t, t] rfl rfl
    refine ⟨cv, w', ι', r1, ?_⟩
    have e1 : 0 + (y0 :: ys').length = (y0 :: ys').length := Nat.zero_add _
    rw [e1, List.nil_append] at r2
    exact ⟨r2.hr, r2.val, Ex.trans hH.lt (hsame.ex ι) r2.ex, r2.new⟩

/-- Is a function's body that of slices.Clone at a type? -/
def asClone : Code → Option TypeId
  | .seq (.region _ ⟨[⟨some 2, .assign (.const (.slice none 0 0)), _, _, _, none⟩]⟩ false)
      (.seq (.seq (.region _ ⟨[⟨some 3, .move (.tmp 0), _, _, _, none⟩, ⟨some 4, .binOp .eql t1 (.tmp 3) (.const (.slice none 0 0)) _, _, _, _, none⟩]⟩ false)
          (.cond (.tmp 4) (.seq (.region _ ⟨[⟨some 2, .assign (.const (.slice none 0 0)), _, _, _, none⟩]⟩ false) .ret) .skip))
        (.seq (.region _ ⟨[⟨some 5, .buildSlice t2 0 ⟨[]⟩, _, _, _, none⟩, ⟨some 6, .move (.tmp 0), _, _, _, none⟩, ⟨some 7, .call ⟨.builtin .append, ⟨[.tmp 5, .tmp 6]⟩, ⟨[t3, t4]⟩⟩, _, _, _, none⟩, ⟨some 2, .assign (.tmp 7), _, _, _, none⟩]⟩ false) .ret)) =>
    if t1 = t2 ∧ t3 = t2 ∧ t4 = t2 then some t2 else none
  | _ => none
theorem step_value {o : Oper} {a : Act} {next : Act → World → Prop} {Q : Exit → Act → World → Prop} {v : Value} {w' : World} (h : (execOp a.eval o).run P w = .ok (.value v) w') (hn : next (a.put o.dst v) w') : o.wp P a w next Q := by
  unfold Oper.wp
  rw [h]
  exact hn
theorem guard_slice (t : TypeId) (ox oy : Operand) (a : Option Addr) (n cp : Nat) (b : Value) : (eqGuard .eql t ox oy (.slice a n cp) b).run P w = .ok () w := by simp [eqGuard]
def o_nil (t : TypeId) (p : String) (f : Array Edge) : Oper := ⟨some 2, .assign (.const (.slice none 0 0)), t, p, f, none⟩
def o_mv (d : Nat) (t : TypeId) (p : String) (f : Array Edge) : Oper := ⟨some d, .move (.tmp 0), t, p, f, none⟩
def o_eq (t1 u1 t : TypeId) (p : String) (f : Array Edge) : Oper := ⟨some 4, .binOp .eql t1 (.tmp 3) (.const (.slice none 0 0)) u1, t, p, f, none⟩
def o_bs (t2 t : TypeId) (p : String) (f : Array Edge) : Oper := ⟨some 5, .buildSlice t2 0 ⟨[]⟩, t, p, f, none⟩
def o_ap (t3 t4 t : TypeId) (p : String) (f : Array Edge) : Oper := ⟨some 7, .call ⟨.builtin .append, ⟨[.tmp 5, .tmp 6]⟩, ⟨[t3, t4]⟩⟩, t, p, f, none⟩
def o_as (t : TypeId) (p : String) (f : Array Edge) : Oper := ⟨some 2, .assign (.tmp 7), t, p, f, none⟩
theorem asClone_some {code : Code} {t : TypeId} (h : asClone code = some t) : ∃ r0 ty0 p0 f0 r1 ty1 p1 f1 u1 ty2 p2 f2 r2 ty3 p3 f3 r3 ty4 p4 f4 ty5 p5 f5 ty6 p6 f6 ty7 p7 f7,
    code = .seq (.region r0 ⟨[o_nil ty0 p0 f0]⟩ false) (.seq (.seq (.region r1 ⟨[o_mv 3 ty1 p1 f1, o_eq t u1 ty2 p2 f2]⟩ false) (.cond (.tmp 4) (.seq (.region r2 ⟨[o_nil ty3 p3 f3]⟩ false) .ret) .skip))
      (.seq (.region r3 ⟨[o_bs t ty4 p4 f4, o_mv 6 ty5 p5 f5, o_ap t t ty6 p6 f6, o_as ty7 p7 f7]⟩ false) .ret)) := by
  unfold asClone at h
  split at h
  · rename_i r0 ty0 p0 f0 r1 ty1 p1 f1 t1 u1 ty2 p2 f2 r2 ty3 p3 f3 r3 t2 ty4 p4 f4 ty5 p5 f5 t3 t4 ty6 p6 f6 ty7 p7 f7
    split at h
    · rename_i htt
      obtain ⟨rfl, rfl, rfl⟩ := htt
      simp only [Option.some.injEq] at h
      subst h
      exact ⟨_, _, _, _, _, _, _, _, _, _, _, _, _, _, _, _, _, _, _, _, _, _, _, _, _, _, _, _, _, rfl⟩
    · cases h
  · cases h
theorem bs_exec (ρ : Operand → Value) (t2 t : TypeId) (p : String) (f : Array Edge) : execOp ρ (o_bs t2 t p f) = (do pure (.value (← Instr.buildSlice t2 0 #[]))) := by simp [execOp, o_bs]
theorem ap_blt {ats : Array TypeId} {ty : TypeId} {cs : Array Bool} {args : Array Value} : builtin .append ats ty cs args = (do pure (.value (← Builtin.append_ ats ty args))) := rfl
theorem ap_exec (ρ : Operand → Value) (t3 t4 t : TypeId) (p : String) (f : Array Edge) : execOp ρ (o_ap t3 t4 t p f) = (do pure (.value (← Builtin.append_ #[t3, t4] t #[ρ (.tmp 5), ρ (.tmp 6)]))) := by
  rw [o_ap, BigFrame.execOp_builtin, ap_blt]
  simp
def fr8 (c0 c2 c3 c4 c5 c6 c7 : Value) : Act := { tmps := ⟨[c0, undef, c2, c3, c4, c5, c6, c7]⟩, defers := [] }
theorem wpOps_cons {ops : Array Oper} {Q : Exit → Act → World → Prop} {i : Nat} {l : List Nat} {a : Act} {w : World} {o : Oper} (ho : ops[i]? = some o) (hg : o.guard = none) (h : o.wp P a w (wpOps P ops Q l) Q) : wpOps P ops Q (i :: l) a w := by
  simp only [wpOps, ho]
  rw [if_pos (by unfold Region.wanted; rw [hg])]
  exact .inl h
theorem slice_none (hH : HR O ι H w) (h0 : ∀ b B, H0 b = some B → H b = some B) {s0 : Nat} {x : AV} {ys : List (List AV)} {n cap : Nat} (hy : rowsOf H0 s0 x = some ys) (hx : R O ι w x (.slice none n cap)) : ys.length = 0 := by
  cases x with
  | d y =>
    cases y with
    | lst s xs =>
      simp only [rowsOf] at hy
      split at hy
      · simp only [Option.some.injEq] at hy
        subst hy
        simp only [R, DR] at hx
        obtain ⟨a, cap', h1, _, h2⟩ := hx
        rcases h2 with h2 | ⟨k, off, h3, _⟩
        · subst h2; rfl
        · subst h3; cases h1
      · cases hy
    | _ => simp [rowsOf] at hy
  | ex s xs =>
    simp only [rowsOf] at hy
    split at hy
    · simp only [Option.some.injEq] at hy
      subst hy
      simp only [R] at hx
      obtain ⟨a, h1, h2⟩ := hx
      rcases h2 with h2 | ⟨k, off, h3, _⟩
      · subst h2; rfl
      · subst h3; cases h1
    · cases hy
  | nil s => simp only [rowsOf, Option.some.injEq] at hy; subst hy; rfl
  | ref b ver off len =>
    simp only [rowsOf] at hy
    split at hy
    · rename_i s ver' data hb
      split at hy
      · rename_i hc
        simp only [Option.some.injEq] at hy
        subst hy
        simp only [R] at hx
        obtain ⟨e, he, hm, hle, _, hat⟩ := hx
        obtain ⟨B, hB, hbr⟩ := hH.blk b e he
        rw [h0 _ _ hb] at hB; cases hB
        simp only [BR] at hbr
        have h3 := hat (by rw [hc.2]; exact hbr.2.2.1.symm)
        unfold SliceAt at h3
        cases hk : e.blk with
        | none =>
          rw [hk] at h3
          obtain ⟨_, h4, _⟩ := h3
          simp [h4]
        | some k =>
          rw [hk] at h3
          obtain ⟨a, cap', h4, h5, h6, h7, h8, h9⟩ := h3
          simp only [Value.slice.injEq] at h4
          have : cap' = 0 := by
            rcases Nat.eq_zero_or_pos cap' with h | h
            · exact h
            · have := h9 (by omega); rw [← h4.1] at this; cases this
          have : len = 0 := by omega
          simp [this]
      · cases hy
    · cases hy
  | _ => simp [rowsOf] at hy
theorem clone_calls (hH : HR O ι H w) (h0 : ∀ b B, H0 b = some B → H b = some B) {t : TypeId} {f : FuncId} {fn : Func} {code : Code} (hfn : P.funcs[f]? = some fn) (hb : fn.body = some code) (hc : asClone code = some t) (hn : fn.ntmps = 8) (hres : fn.results = #[.tmp 2])
    {fr : Nat} (hfr : ∀ b, fr ≤ b → b < fr + 16 → ι b = none) {args : List AV} {as : List Value} {e : Eff} (hr : Rl O ι w args as) (he : cloneA P H0 fr t args = some e) :
    Known P f ∧ OutR P O ι H w fr f as (.eff e) := by
  refine ⟨⟨fn, hfn, by rw [hb]; rfl⟩, ?_⟩
  unfold cloneA at he
  split at he
  · rename_i e0 s0 by0 x ht
    split at he
    · rename_i ys hy
      split at he
      · rename_i hroom
        simp only [Option.some.injEq] at he
        subst he
        simp only [Rl] at hr
        obtain ⟨c, l, rfl, hx, rfl⟩ := hr
        obtain ⟨hsl, _⟩ := tsl_some ht
        obtain ⟨a, cap, l, rfl, hcap, _⟩ := rowsOf_src (P := P) hH h0 hy hx
        simp only [OutR]
        refine calls_of_wp hfn hb ?_
        obtain ⟨r0, ty0, p0, f0, r1, ty1, p1, f1, u1, ty2, p2, f2, r2, ty3, p3, f3, r3, ty4, p4, f4, ty5, p5, f5, ty6, p6, f6, ty7, p7, f7, rfl⟩ := asClone_some hc
        clear hc hb
        have hres' : ∀ (tm : Array Value) (w : World), (results fn tm).run P w = .ok (tm.getD 2 undef) w := by
          intro tm w
          rw [results_eq, hres]
          simp [resVal]
        rw [hn]
        show Code.wp P _ _ (fr8 (.slice a ys.length cap) undef undef undef undef undef undef) w
        have nilCase : a = none → ys.length = 0 → ∃ v, (Value.slice none 0 0) = v ∧ ∃ ι', Post O ι H w (fun b => fr ≤ b ∧ b < fr + 16) ⟨.ref fr 0 0 ys.length, [(fr, some (.row s0 0 ys))]⟩ v w ι' := by
          intro _ hz
          have hys : ys = [] := List.eq_nil_of_length_eq_zero hz
          subst hys
          obtain ⟨g1, g2⟩ := new_virt hH (hfr fr (Nat.le_refl _) (by omega)) s0
          refine ⟨_, rfl, _, ⟨by simpa only [writes] using g1, ?_, g2, new_names ⟨Nat.le_refl _, by omega⟩⟩⟩
          simp only [R]
          exact ⟨_, iset_same .., rfl, Nat.le_refl _, ⟨_, _, rfl⟩, fun _ => ⟨rfl, rfl, rfl⟩⟩
        refine wp_seq (wp_region ?_)
        show wpOps P _ _ [0] _ w
        refine wpOps_cons rfl rfl (step_value (v := .slice none 0 0) (w' := w) rfl ?_)
        show Code.wp P _ _ (fr8 (.slice a ys.length cap) (.slice none 0 0) undef undef undef undef undef) w
        refine wp_seq (wp_seq (wp_region ?_))
        show wpOps P _ _ [0, 1] _ w
        refine wpOps_cons rfl rfl (step_value (v := .slice a ys.length cap) (w' := w) rfl ?_)
        refine wpOps_cons rfl rfl (step_value (v := .bool a.isNone) (w' := w) ?_ ?_)
        · have h1 := run_eql_slice_nil (P := P) w t _ a ys.length cap hsl
          have h2 := guard_slice (P := P) (w := w) t (.tmp 3) (.const (.slice none 0 0)) a ys.length cap (.slice none 0 0)
          show (do eqGuard .eql t (.tmp 3) (.const (.slice none 0 0)) (.slice a ys.length cap) (.slice none 0 0); pure (.value (← binOp .eql t (.slice a ys.length cap) (.slice none 0 0))) : Sem Next).run P w = _
          simp only [Sem.run_bind, h2, Result.andThen_ok, h1, Sem.run_pure]
        show Code.wp P _ _ (fr8 (.slice a ys.length cap) (.slice none 0 0) (.slice a ys.length cap) (.bool a.isNone) undef undef undef) w
        cases a with
        | none =>
          refine wp_cond_true rfl ?_
          refine wp_seq (wp_region ?_)
          show wpOps P _ _ [0] _ w
          refine wpOps_cons rfl rfl (step_value (v := .slice none 0 0) (w' := w) rfl ?_)
          refine wp_ret ?_
          refine ⟨rfl, _, hres' _ _, ?_⟩
          have hz : ys.length = 0 := slice_none hH h0 hy hx
          obtain ⟨v, hv, ι', hp⟩ := nilCase rfl hz
          subst hv
          exact ⟨ι', hp⟩
        | some ad =>
          refine wp_cond_false rfl ?_
          refine wp_skip ?_
          show Code.wp P _ _ (fr8 (.slice (some ad) ys.length cap) (.slice none 0 0) (.slice (some ad) ys.length cap) (.bool false) undef undef undef) w
          obtain ⟨c5, w5, k1, cv, w', ι', k2, k3⟩ := clone_sem (P := P) (N := fun b => fr ≤ b ∧ b < fr + 16) (ty := ty6) hH h0 ⟨Nat.le_refl fr, by omega⟩ (hfr fr (Nat.le_refl _) (by omega)) ht hy hx hroom.1
          refine wp_seq (wp_region ?_)
          show wpOps P _ _ [0, 1, 2, 3] _ w
          refine wpOps_cons (o := o_bs t ty4 p4 f4) rfl rfl (step_value (v := c5) (w' := w5) ?_ ?_)
          · rw [bs_exec]
            simp only [Sem.run_bind, k1, Result.andThen_ok, Sem.run_pure]
          refine wpOps_cons (o := o_mv 6 ty5 p5 f5) rfl rfl (step_value (v := .slice (some ad) ys.length cap) (w' := w5) rfl ?_)
          refine wpOps_cons (o := o_ap t t ty6 p6 f6) rfl rfl (step_value (v := cv) (w' := w') ?_ ?_)
          · rw [ap_exec]
            have e5 : ∀ u v w : Value, ((((fr8 u (Value.slice none 0 0) u (Value.bool false) undef undef undef).put (some 5) v).put (some 6) w).eval (.tmp 5)) = v := fun _ _ _ => rfl
            have e6 : ∀ u v w : Value, ((((fr8 u (Value.slice none 0 0) u (Value.bool false) undef undef undef).put (some 5) v).put (some 6) w).eval (.tmp 6)) = w := fun _ _ _ => rfl
            have e7 := e5 (.slice (some ad) ys.length cap) c5 (.slice (some ad) ys.length cap)
            have e8 := e6 (.slice (some ad) ys.length cap) c5 (.slice (some ad) ys.length cap)
            simp only [o_bs, o_mv] at *
            rw [e7, e8]
            simp only [Sem.run_bind, k2, Result.andThen_ok, Sem.run_pure]
          refine wpOps_cons (o := o_as ty7 p7 f7) rfl rfl (step_value (v := cv) (w' := w') rfl ?_)
          refine wp_ret ?_
          exact ⟨rfl, _, hres' _ _, ι', k3⟩
      · cases he
    · cases he
  · cases he
end Go.AI
