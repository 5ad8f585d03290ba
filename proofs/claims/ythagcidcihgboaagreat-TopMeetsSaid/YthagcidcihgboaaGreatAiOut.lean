/-
  Own work. An operation, calls too: what the value interpreter says of it, the machine does.
-/
import Derived.Test.YthagcidcihgboaaGreatAiBox
import Derived.RangeFuncSeq
namespace Go.AI
open Go
set_option linter.unusedVariables false
set_option linter.unusedSimpArgs false
variable {P : Program} {O : Nat → Prop} {ι : Inj} {H H0 : Heap} {w w' : World}

/-- The modes that rest on laws of their own. -/
structure ModesOK (C : Cfg) : Prop where
  name : ∀ (f : FuncId) (fn : Func), C.P.funcs[f]? = some fn → (fn.name == "runtime.NumGoroutine") = false
  clone : ∀ f t, C.mode f = .clone t → ∀ {O : Nat → Prop} {ι : Inj} {H H0 : Heap} {w : World} {fr : Nat} {args : List AV} {as : List Value} {e : Eff}, HR O ι H w → (∀ b B, H0 b = some B → H b = some B) → (∀ b, fr ≤ b → b < fr + 16 → ι b = none) → Rl O ι w args as →
    cloneA C.P H0 fr t args = some e → Known C.P f ∧ OutR C.P O ι H w fr f as (.eff e)
  sort : ∀ f cut, C.mode f = .sort cut → ∀ {O : Nat → Prop} {ι : Inj} {H H0 : Heap} {w : World} {fr : Nat} {args : List AV} {as : List Value} {e : Eff}, HR O ι H w → (∀ b B, H0 b = some B → H b = some B) → Rl O ι w args as →
    sortA cut H0 args = some e → Known C.P f ∧ OutR C.P O ι H w fr f as (.eff e)
  prim : SoundV C.P (fun f => C.mode f = .prim) C.prim
  iter : ∀ {g : FuncId} {caps : List DV} {xs : List (List DV)} {w : World} {cs : List Value}, gather C g caps = some xs → DRl (fun _ => True) w caps cs → Known C.P g ∧
    ∀ (l : Nat) (w1 : World) (Jx : World → Prop), Same w w1 → (∀ A B, Jx A → Same A B → Jx B) →
      (xs ≠ [] → ∀ W x, Same w1 W → YieldAt Fence.wide 0 C.P l #[x] W fun e W' => e = .returned (.bool false) ∧ Jx W') →
      CallsIn Fence.wide 0 C.P g (#[.func (.yield l) #[] #[]] ++ cs.toArray) w1 fun e W' => (∃ v, e = .returned v) ∧ ((xs = [] ∧ Same w1 W') ∨ (xs ≠ [] ∧ Jx W'))

theorem callOut_calls {C : Cfg} (hM : ModesOK C) {K : Call} (hK : SoundK C.P K) (hH : HR O ι H w) (h0 : ∀ b B, H0 b = some B → H b = some B) {fr : Nat} (hfr : ∀ b, fr ≤ b → b < fr + 16 → ι b = none) {f : FuncId} {args : List AV} {as : List Value} (hr : Rl O ι w args as) {out : Out}
    (hrun : ∀ v H' nx', out = .run v H' nx' → H0 = H ∧ ∀ b, fr ≤ b → ι b = none) (he : callOut C K f args H0 fr = some out) : Known C.P f ∧ OutR C.P O ι H w fr f as out := by
  unfold callOut at he
  have pureCase : ∀ {K' : FuncId → List AV → Option AV} {ok : FuncId → Prop}, SoundV C.P ok K' → ok f → (match pureCall K' f args H0 with
    | some (r, []) => some (Out.eff ⟨r, []⟩)
    | some (r, p) => some (.frz r p)
    | none => none) = some out → Known C.P f ∧ OutR C.P O ι H w fr f as out := by
    intro K' ok hV hok he
    split at he
    · rename_i r hp
      cases he
      obtain ⟨h1, _, h3⟩ := pure_calls hV hH h0 hok fr hr hp
      exact ⟨h1, h3 rfl⟩
    · rename_i r p _ hp
      cases he
      obtain ⟨h1, h2, _⟩ := pure_calls hV hH h0 hok fr hr hp
      exact ⟨h1, h2⟩
    · cases he
  split at he
  · exact pureCase (SoundV.of hK fun _ => True) trivial he
  · rename_i hm
    exact pureCase hM.prim hm he
  · rename_i t hm
    split at he
    · rename_i e hc
      cases he
      exact hM.clone f t hm hH h0 hfr hr hc
    · cases he
  · rename_i ct hm
    split at he
    · rename_i e hc
      cases he
      exact hM.sort f ct hm hH h0 hr hc
    · cases he
  · split at he
    · rename_i v H' nx' hk
      cases he
      obtain ⟨e1, e2⟩ := hrun v H' nx' rfl
      subst e1
      obtain ⟨h1, h2, h3⟩ := hK f args as H0 fr v H' nx' O ι w hk hH hr e2
      exact ⟨h3, h1, h2⟩
    · cases he
  · split at he
    · rename_i e hc
      cases he
      exact cell_calls hK hH h0 fr hr hc
    · cases he
  · split at he
    · rename_i e hc
      cases he
      exact own_calls hK hH h0 fr hr hc
    · cases he
  · split at he
    · rename_i e hc
      cases he
      exact lend_calls hK hH h0 fr hr hc
    · cases he
  · split at he
    · rename_i e hc
      cases he
      exact fresh_calls hK hH h0 hfr hr hc
    · cases he
  · split at he
    · rename_i e hc
      cases he
      exact box_calls hK hH h0 hfr hr hc
    · cases he

/-- What an operation does. -/
def Did (P : Program) (o : Oper) (a : Act) (w : World) (Φ : Value → World → Prop) : Prop :=
  ∀ (K : Act → World → Prop) (Q : Exit → Act → World → Prop), (∀ cv w', Φ cv w' → K (a.put o.dst cv) w') → o.wp P a w K Q
def OutP (O : Nat → Prop) (ι : Inj) (H : Heap) (w : World) (N : Nat → Prop) (fr : Nat) : Out → Value → World → Prop
  | .eff e, cv, w' => ∃ ι', Post O ι H w N e cv w' ι'
  | .frz v p, cv, w' => Same w w' ∧ R O (ikill p.contains ι) w' v cv
  | .run v H' nx', cv, w' => fr ≤ nx' ∧ ∃ ι', HR O ι' H' w' ∧ R O ι' w' v cv ∧ Ex ι w ι' w' ∧ ∀ b, ι' b ≠ none → ι b = none → fr ≤ b ∧ b < nx'
theorem SimN.did {N : Nat → Prop} {o : Oper} {a : Act} {e : Eff} (h : SimN P O ι H w N (execOp a.eval o) e) : Did P o a w fun cv w' => ∃ ι', Post O ι H w N e cv w' ι' := by
  obtain ⟨nx, cv, w', ι', h1, h2, h3⟩ := h
  intro K Q hK
  unfold Oper.wp
  rw [h1]
  rcases h2 with rfl | ⟨rfl, rfl⟩
  · exact hK cv w' ⟨ι', h3⟩
  · exact hK undef w' ⟨ι', h3⟩
theorem typed_R {ts : List TypeId} : ∀ {args : List AV} {as : List Value}, Rl O ι w args as → Rl O ι w (typedArgs P ts args) as := by
  induction ts with
  | nil => intro args as h; cases args <;> simpa [typedArgs] using h
  | cons t ts ih =>
    intro args as h
    cases args with
    | nil => simpa [typedArgs] using h
    | cons x r =>
      simp only [Rl] at h
      obtain ⟨v, l', rfl, h1, h2⟩ := h
      have h3 := ih h2
      cases x with
      | nil s =>
        simp only [typedArgs, Rl]
        exact ⟨v, l', rfl, by simpa [R] using h1, h3⟩
      | _ =>
        simp only [typedArgs, Rl]
        exact ⟨v, l', rfl, h1, h3⟩
theorem typedFor_R {f : FuncId} {args : List AV} {as : List Value} (h : Rl O ι w args as) : Rl O ι w (typedFor P f args) as := by
  unfold typedFor
  split
  · exact typed_R h
  · exact h
theorem Rl_append : ∀ {xs ys : List AV} {l m : List Value}, Rl O ι w xs l → Rl O ι w ys m → Rl O ι w (xs ++ ys) (l ++ m)
  | [], ys, l, m, h1, h2 => by simp [Rl] at h1; subst h1; simpa using h2
  | x :: r, ys, l, m, h1, h2 => by
    simp only [Rl] at h1
    obtain ⟨v, l', rfl, a1, a2⟩ := h1
    simp only [List.cons_append, Rl]
    exact ⟨v, l' ++ m, rfl, a1, Rl_append a2 h2⟩
theorem DRl_Rl : ∀ {xs : List DV} {l : List Value}, DRl (imm O ι) w xs l → Rl O ι w (xs.map .d) l
  | [], l, h => by simpa [DRl, Rl] using h
  | x :: r, l, h => by
    simp only [DRl] at h
    obtain ⟨v, l', rfl, h1, h2⟩ := h
    simp only [List.map_cons, Rl, R]
    exact ⟨v, l', rfl, h1, DRl_Rl h2⟩
theorem enter_run {o : Oper} {c : Go.Call} {fo : Operand} (ho : o.op = .call c) (hc : c.callee = .value fo) {a : Act} {f : FuncId} {cs : List Value} (hf : a.eval fo = .func (.func f) #[] cs.toArray) (hk : Known P f)
    (hn : ∀ fn : Func, P.funcs[f]? = some fn → (fn.name == "runtime.NumGoroutine") = false) : (execOp a.eval o).run P w = .ok (.enter f (c.args.toList.map a.eval ++ cs).toArray) w := by
  obtain ⟨fn, h1, h2⟩ := hk
  have h3 := hn fn h1
  have h4 : fn.body.isNone = false := by cases hb : fn.body <;> simp [hb] at h2 ⊢
  obtain ⟨dst, op, type, pos, after, guard⟩ := o
  simp only at ho
  subst ho
  simp only [execOp, resolve, hc, hf, Deferred.ofValue, Sem.run_bind, Sem.run_pure, Result.andThen_ok, invoke, callFunc, run_program, h1, h3, h4]
  simp only [Bool.false_eq_true, if_false, Sem.run_pure]
  congr 2
  apply Array.ext'
  simp
theorem enter_bound {o : Oper} {c : Go.Call} {fo : Operand} (ho : o.op = .call c) (hc : c.callee = .value fo) (hemp : c.args = #[]) {a : Act} {f : FuncId} {cs : List Value} (hf : a.eval fo = .func (.func f) cs.toArray #[]) (hk : Known P f)
    (hn : ∀ fn : Func, P.funcs[f]? = some fn → (fn.name == "runtime.NumGoroutine") = false) : (execOp a.eval o).run P w = .ok (.enter f cs.toArray) w := by
  obtain ⟨fn, h1, h2⟩ := hk
  have h3 := hn fn h1
  have h4 : fn.body.isNone = false := by cases hb : fn.body <;> simp [hb] at h2 ⊢
  obtain ⟨dst, op, type, pos, after, guard⟩ := o
  simp only at ho
  subst ho
  simp only [execOp, resolve, hc, hf, hemp, Deferred.ofValue, Sem.run_bind, Sem.run_pure, Result.andThen_ok, invoke, callFunc, run_program, h1, h3, h4]
  simp only [Bool.false_eq_true, if_false, Sem.run_pure]
  congr 2
  apply Array.ext'
  simp
theorem operOut_did {C : Cfg} (hM : ModesOK C) {K : Call} (hK : SoundK C.P K) (hH : HR O ι H w) (h0 : ∀ b B, H0 b = some B → H b = some B) {F : Fm} {fr : Nat} (hfr : ∀ b, fr ≤ b → b < fr + 16 → ι b = none) {T : Tmps} {a : Act} (hT : TR O ι w T a) {o : Oper} (hf : ∀ b ∈ footOf F T o, H0 b = H b) {out : Out}
    (hrun : ∀ v H' nx', out = .run v H' nx' → H0 = H ∧ ∀ b, fr ≤ b → ι b = none) (he : operOut C K F T H0 fr o = some out) : Did C.P o a w (OutP O ι H w (NN F fr o) fr out) := by
  have effCase : (match eff C.P F (aeval T) H0 fr o with | some e => some (Out.eff e) | none => none) = some out → Did C.P o a w (OutP O ι H w (NN F fr o) fr out) := by
    intro he
    split at he
    · rename_i e hE
      cases he
      exact (eff_sim hH h0 hfr hT hf hE).did
    · cases he
  have anyCase : ∀ (f : FuncId) (args : List AV) (as : List Value), (Known C.P f → (execOp a.eval o).run C.P w = .ok (.enter f as.toArray) w) → Rl O ι w args as →
      callOut C K f args H0 fr = some out → Did C.P o a w (OutP O ι H w (NN F fr o) fr out) := by
    intro f args as hent hargs he
    obtain ⟨h1, h2⟩ := callOut_calls hM hK hH h0 hfr hargs hrun he
    have hx := hent h1
    intro K' Q hK'
    unfold Oper.wp
    rw [hx]
    simp only [Oper.upon]
    cases out with
    | eff e =>
      refine h2.mono fun en w' hret => ?_
      cases en with
      | returned cv =>
        obtain ⟨ι', hp⟩ := hret
        exact hK' cv w' ⟨ι', hp.weaken fun b hb => .inl hb⟩
      | _ => exact hret.elim
    | frz v p =>
      refine Calls.mono h2 fun en w' hret => ?_
      cases en with
      | returned cv => exact hK' cv w' hret
      | _ => exact hret.elim
    | run v H' nx' =>
      refine Calls.mono h2.1 fun en w' hret => ?_
      cases en with
      | returned cv => exact hK' cv w' ⟨h2.2, hret⟩
      | _ => exact hret.elim
  have callCase : ∀ (c : Go.Call) (fo : Operand) (f : FuncId) (caps : List AV) (cs : List Value), o.op = .call c → c.callee = .value fo → a.eval fo = .func (.func f) #[] cs.toArray → Rl O ι w caps cs →
      callOut C K f (typedFor C.P f (c.args.toList.map (aeval T)) ++ caps) H0 fr = some out → Did C.P o a w (OutP O ι H w (NN F fr o) fr out) := fun c fo f caps cs ho hc hv hcaps he =>
    anyCase f _ (c.args.toList.map a.eval ++ cs) (fun hk => enter_run (w := w) ho hc hv hk (hM.name f)) (Rl_append (typedFor_R (P := C.P) (f := f) (aevals_R hT c.args.toList)) hcaps) he
  unfold operOut at he
  split at he
  · rename_i c hop
    split at he
    · rename_i fo hc
      have hv := aeval_R hT fo
      split at he
      · rename_i f caps hfo
        rw [hfo] at hv
        simp only [R] at hv
        obtain ⟨cs, hv, hcs⟩ := hv
        split at he
        · rename_i hlt
          rw [fnV_lt hlt] at hv
          exact callCase c fo f caps cs hop hc hv hcs he
        · rename_i hge
          split at he
          · rename_i hemp
            rw [fnV_ge hge] at hv
            exact anyCase (f - bnd) caps cs (fun hk => enter_bound (w := w) hop hc (by simpa using hemp) hv hk (hM.name _)) hcs he
          · cases he
      · rename_i f caps hfo
        rw [hfo] at hv
        simp only [R, DR] at hv
        obtain ⟨cs, hv, hcs⟩ := hv
        split at he
        · rename_i hlt
          rw [fnV_lt hlt] at hv
          exact callCase c fo f _ cs hop hc hv (DRl_Rl hcs) he
        · cases he
      · cases he
    · exact effCase he
  · exact effCase he

/-! ### Operations one after the other -/
theorem TR.mono {ι' : Inj} {T : Tmps} {a : Act} (h : TR O ι w T a) (hx : Ex ι w ι' w') : TR O ι' w' T a := fun t => (h t).mono hx
theorem TR.put {T : Tmps} {a : Act} (h : TR O ι w T a) {dst : Option Tmp} (hd : ∀ d, dst = some d → d < a.tmps.size) {v : AV} {cv : Value} (hv : R O ι w v cv) : TR O ι w (putT T dst v) (a.put dst cv) := by
  cases dst with
  | none => exact h
  | some d =>
    intro t
    simp only [putT, Act.put, tset]
    have hlt := hd d rfl
    by_cases ht : t = d
    · subst ht
      rw [if_pos rfl]
      simp [Array.getD_eq_getD_getElem?, hlt]
      exact hv
    · rw [if_neg ht]
      have := h t
      simpa [Array.getD_eq_getD_getElem?, Array.getElem?_setIfInBounds_ne (Ne.symm ht)] using this
theorem put_size (a : Act) (dst : Option Tmp) (v : Value) : (a.put dst v).tmps.size = a.tmps.size := by cases dst <;> simp [Act.put]
theorem put_defers (a : Act) (dst : Option Tmp) (v : Value) : (a.put dst v).defers = a.defers := by cases dst <;> rfl
theorem wanted_R {ops : Array Oper} {T : Tmps} {a : Act} (hT : TR O ι w T a) {o : Oper} {b : Bool} (h : wantedA ops T o = some b) : Region.wanted o (yielded ops a.tmps) = b := by
  unfold wantedA at h
  unfold Region.wanted
  split at h
  · rename_i hg
    rw [hg]; simp at h; subst h; rfl
  · rename_i j want hg
    rw [hg]
    simp only
    unfold yielded
    split at h
    · rename_i t ht
      rw [ht]
      simp only [Option.bind_some]
      have hr := hT t
      split at h
      · rename_i x hx
        simp at h; subst h
        rw [hx] at hr
        simp only [R, DR] at hr
        cases hg2 : a.tmps[t]? with
        | none => simp [Array.getD_eq_getD_getElem?, hg2, undef] at hr
        | some v =>
          simp [Array.getD_eq_getD_getElem?, hg2] at hr
          subst hr
          simp
      · rename_i x hx
        simp at h; subst h
        rw [hx] at hr
        simp only [R, DR] at hr
        cases hg2 : a.tmps[t]? with
        | none => simp
        | some v =>
          simp [Array.getD_eq_getD_getElem?, hg2] at hr
          subst hr
          simp
      · cases h
    · rename_i ht
      rw [ht]
      simp at h; subst h
      simp
end Go.AI
