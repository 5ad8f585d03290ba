/-
  Own work. The value interpreter over symbols is sound: regions, whole runs.
-/
import Derived.Test.YtljhobohpnpedaaAiVok5
namespace Go.AI
open Go
set_option linter.unusedVariables false
set_option linter.unusedSimpArgs false
variable {V : VHeap} {p : Nat → Bool} {r : VLeaf}

theorem run_bind {β γ : Type} {r : γ} : ∀ {t : Tree β} {k : β → Tree γ}, (t.bind k).run = some r → ∃ b, t.run = some b ∧ (k b).run = some r
  | .done b, k, h => ⟨b, rfl, h⟩
  | .stop, k, h => (run_stop.1 h).elim
  | .ask c t f, k, h => by
    rcases run_ask.1 h with ⟨h1, h⟩ | ⟨h1, h⟩
    · obtain ⟨b, h2, h3⟩ := run_bind h
      exact ⟨b, run_ask.2 (.inl ⟨h1, h2⟩), h3⟩
    · obtain ⟨b, h2, h3⟩ := run_bind h
      exact ⟨b, run_ask.2 (.inr ⟨h1, h2⟩), h3⟩
  | .need p i t, k, h => by
    obtain ⟨h1, h⟩ := run_need.1 h
    obtain ⟨b, h2, h3⟩ := run_bind h
    exact ⟨b, run_need.2 ⟨h1, h2⟩, h3⟩
  | .get o g, k, h => by
    obtain ⟨a, h1, h⟩ := run_get.1 h
    obtain ⟨b, h2, h3⟩ := run_bind h
    exact ⟨b, run_get.2 ⟨a, h1, h2⟩, h3⟩
/-- Calls that are run in the caller's memory. -/
def InlOK (C : Cfg) (inl : VInl) : Prop := ∀ (f : FuncId) (args : List AV) (V : VHeap) (fr : Nat) (kr : AV → VHeap → Nat → Tree VLeaf) (r : VLeaf), (inl f args V fr kr).run = some r → ∃ v V' nx', callω C f args (den V) fr = some (v, den V', nx') ∧ (kr v V' nx').run = some r
theorem InlOK.none (C : Cfg) : InlOK C (fun _ _ _ _ _ => .stop) := fun _ _ _ _ _ _ h => (run_stop.1 h).elim
section
variable {C : Cfg} {pt : Bool} {inl : VInl} {F : Fm} {T : Tmps} {fr : Nat} {o : Oper} {ke : VEff → Tree VLeaf} {kf : AV → List Nat → Tree VLeaf} {kr : AV → VHeap → Nat → Tree VLeaf}
def Comes3 (out : Option Out) (ke : VEff → Tree VLeaf) (kf : AV → List Nat → Tree VLeaf) (kr : AV → VHeap → Nat → Tree VLeaf) (r : VLeaf) : Prop :=
  (∃ e, out = some (.eff (denE e)) ∧ (ke e).run = some r) ∨ (∃ v p, out = some (.frz v p) ∧ (kf v p).run = some r) ∨ (∃ v V' nx', out = some (.run v (den V') nx') ∧ (kr v V' nx').run = some r)
theorem vcall_ok (hi : InlOK C inl) {f : FuncId} {args : List AV} (h : (vcall C inl f args V fr ke kf kr).run = some r) : Comes3 (callOut C (callω C) f args (den V) fr) ke kf kr r := by
  have byv : ∀ {K : FuncId → List AV → Option AV}, (vpureW C.P K f args V fun v p => match p with | [] => ke ⟨v, []⟩ | p => kf v p).run = some r →
      Comes3 (match pureCall K f args (den V) with | some (r, []) => some (.eff ⟨r, []⟩) | some (r, p) => some (.frz r p) | none => none) ke kf kr r := by
    intro K h
    obtain ⟨v, q, h1, h2⟩ := vpureW_ok h
    rw [h1]
    cases q with
    | nil => exact .inl ⟨⟨v, []⟩, rfl, h2⟩
    | cons a l => exact .inr (.inl ⟨v, a :: l, rfl, h2⟩)
  unfold vcall at h
  cases hm : C.mode f with
  | pure =>
    rw [hm] at h
    have := byv h
    unfold callOut
    rw [hm]
    exact this
  | prim =>
    rw [hm] at h
    have := byv h
    unfold callOut
    rw [hm]
    exact this
  | clone t =>
    rw [hm] at h
    obtain ⟨e, h1, h2⟩ := vclone_ok h
    exact .inl ⟨e, by unfold callOut; rw [hm]; simp only [h1], h2⟩
  | sort ct =>
    rw [hm] at h
    obtain ⟨e, h1, h2⟩ := vsort_ok h
    exact .inl ⟨e, by unfold callOut; rw [hm]; simp only [h1], h2⟩
  | inl =>
    rw [hm] at h
    obtain ⟨v, V', nx', h1, h2⟩ := hi f args V fr kr r h
    exact .inr (.inr ⟨v, V', nx', by unfold callOut; rw [hm]; simp only [h1], h2⟩)
  | cell =>
    rw [hm] at h
    obtain ⟨e, h1, h2⟩ := vcell_ok h
    exact .inl ⟨e, by unfold callOut; rw [hm]; simp only [h1], h2⟩
  | own =>
    rw [hm] at h
    obtain ⟨e, h1, h2⟩ := vown_ok h
    exact .inl ⟨e, by unfold callOut; rw [hm]; simp only [h1], h2⟩
  | lend =>
    rw [hm] at h
    obtain ⟨e, h1, h2⟩ := vlend_ok h
    exact .inl ⟨e, by unfold callOut; rw [hm]; simp only [h1], h2⟩
  | fresh =>
    rw [hm] at h
    obtain ⟨e, h1, h2⟩ := vfresh_ok h
    exact .inl ⟨e, by unfold callOut; rw [hm]; simp only [h1], h2⟩
theorem voper_ok (hi : InlOK C inl) (h : (voper C pt inl F T V fr o ke kf kr).run = some r) : Comes3 (operOut C (callω C) F T (den V) fr o) ke kf kr r := by
  have effc : (veff C.P pt F (aeval T) V fr o ke).run = some r → Comes3 (match eff C.P F (aeval T) (den V) fr o with | some e => some (.eff e) | none => none) ke kf kr r := by
    intro h
    obtain ⟨e, h1, h2⟩ := veff_ok h
    exact .inl ⟨e, by rw [h1], h2⟩
  unfold voper at h
  unfold operOut
  cases hop : o.op with
  | call c =>
    rw [hop] at h
    simp only at h ⊢
    cases hc : c.callee with
    | value fo =>
      rw [hc] at h
      simp only at h ⊢
      cases hf : aeval T fo with
      | fn f caps => rw [hf] at h; exact vcall_ok hi h
      | d x =>
        cases x with
        | fn f caps => rw [hf] at h; exact vcall_ok hi h
        | _ => rw [hf] at h; exact (run_stop.1 h).elim
      | _ => rw [hf] at h; exact (run_stop.1 h).elim
    | _ => rw [hc] at h; exact effc h
  | _ => rw [hop] at h; exact effc h
theorem tset_known {t : Nat} {b : Bool} (h : T t = .d (.v (.bool b))) : tset T t (.d (.v (.bool b))) = T := by
  funext u
  simp only [tset]
  split
  · rename_i hu; subst hu; exact h.symm
  · rfl
theorem vwanted_ok {ops : Array Oper} {yes no : Tmps → Tree VLeaf} (h : (vwanted ops T o yes no).run = some r) : (wantedA ops T o = some true ∧ (yes T).run = some r) ∨ (wantedA ops T o = some false ∧ (no T).run = some r) := by
  unfold vwanted at h
  unfold wantedA
  cases hg : o.guard with
  | none => rw [hg] at h; exact .inl ⟨rfl, h⟩
  | some gw =>
    obtain ⟨j, want⟩ := gw
    rw [hg] at h
    simp only at h ⊢
    cases ht : (ops[j]?).bind (·.dst) with
    | none => rw [ht] at h; exact .inr ⟨rfl, h⟩
    | some t =>
      rw [ht] at h
      simp only at h ⊢
      split at h
      · rename_i b hb
        simp only [hb]
        cases want with
        | true =>
          rcases run_ask.1 h with ⟨h1, h⟩ | ⟨h1, h⟩
          · subst h1; rw [tset_known hb] at h; exact .inl ⟨rfl, h⟩
          · subst h1; rw [tset_known hb] at h; exact .inr ⟨rfl, h⟩
        | false =>
          rcases run_ask.1 h with ⟨h1, h⟩ | ⟨h1, h⟩
          · subst h1; rw [tset_known hb] at h; exact .inr ⟨rfl, h⟩
          · subst h1; rw [tset_known hb] at h; exact .inl ⟨rfl, h⟩
      · rename_i vs hv
        simp only [hv]
        exact .inr ⟨trivial, h⟩
      · exact (run_stop.1 h).elim
end
theorem vseq_ok {C : Cfg} {pt : Bool} {inl : VInl} (hi : InlOK C inl) {F : Fm} {ops : Array Oper} {r : VLeaf} : ∀ {l : List Oper} {T : Tmps} {V : VHeap} {nx : Nat} {k : Tmps → VHeap → Nat → Tree VLeaf}, (vseq C pt inl F ops l T V nx k).run = some r →
    ∃ T' V' nx', seqOps C (callω C) F ops l T (den V) nx = some (T', den V', nx') ∧ (k T' V' nx').run = some r
  | [], T, V, nx, k, h => ⟨T, V, nx, rfl, h⟩
  | o :: l, T, V, nx, k, h => by
    simp only [vseq] at h
    rcases vwanted_ok h with ⟨hw, h⟩ | ⟨hw, h⟩
    · cases hdp : isDeep F o with
      | true => rw [hdp] at h; exact (run_stop.1 h).elim
      | false =>
      rw [hdp] at h
      simp only [Bool.false_eq_true, if_false] at h
      rcases voper_ok hi h with ⟨e, h1, h2⟩ | ⟨v, p, h1, h2⟩ | ⟨v, V1, nx1, h1, h2⟩
      · obtain ⟨T', V', nx', h3, h4⟩ := vseq_ok hi h2
        refine ⟨T', V', nx', ?_, h4⟩
        rw [den_vwrites] at h3
        simp only [seqOps, hw, hdp, h1, Bool.false_eq_true, if_false]
        exact h3
      · obtain ⟨T', V', nx', h3, h4⟩ := vseq_ok hi h2
        refine ⟨T', V', nx', ?_, h4⟩
        rw [frzTV_eq, frzKV_eq] at h3
        simp only [seqOps, hw, hdp, h1, Bool.false_eq_true, if_false]
        exact h3
      · obtain ⟨T', V', nx', h3, h4⟩ := vseq_ok hi h2
        refine ⟨T', V', nx', ?_, h4⟩
        simp only [seqOps, hw, hdp, h1, Bool.false_eq_true, if_false]
        exact h3
    · obtain ⟨T', V', nx', h3, h4⟩ := vseq_ok hi h
      refine ⟨T', V', nx', ?_, h4⟩
      simp only [seqOps, hw]
      exact h3
theorem vdraw_ok {C : Cfg} {pt : Bool} {F : Fm} {ops : Array Oper} {base : Nat} {r : VLeaf} : ∀ {os : List Oper} {i : Nat} {T : Tmps} {V : VHeap} {k : Tmps → VHeap → List Foot → Tree VLeaf}, (vdraw C pt F ops base os i T V k).run = some r →
    ∃ T' V' l, drawOps C (callω C) F ops base os i T (den V) = some (T', den V', l) ∧ (k T' V' l).run = some r
  | [], i, T, V, k, h => ⟨T, V, [], rfl, h⟩
  | o :: os, i, T, V, k, h => by
    simp only [vdraw] at h
    rcases vwanted_ok h with ⟨hw, h⟩ | ⟨hw, h⟩
    · rcases voper_ok (InlOK.none C) h with ⟨e, h1, h2⟩ | ⟨v, p, h1, h2⟩ | ⟨v, V1, nx1, h1, h2⟩
      · obtain ⟨T', V', l, h3, h4⟩ := vdraw_ok h2
        refine ⟨T', V', _, ?_, h4⟩
        rw [den_vwrites] at h3
        rw [den_vrestr] at h1
        simp only [drawOps, hw, h1]
        have h3' : drawOps C (callω C) F ops base os (i + 1) (putT T o.dst (denE e).v) (writes (den V) (denE e).wr) = some (T', den V', l) := h3
        rw [h3']
        simp only [denE, keys_denW]
      · dsimp only at h2
        split at h2
        · rename_i hp
          obtain ⟨T', V', l, h3, h4⟩ := vdraw_ok h2
          refine ⟨T', V', _, ?_, h4⟩
          rw [den_vwrites, den_killed] at h3
          rw [den_vrestr] at h1
          simp only [drawOps, hw, h1, h3]
          rw [if_pos hp]
        · exact (run_stop.1 h2).elim
      · exact (run_stop.1 h2).elim
    · obtain ⟨T', V', l, h3, h4⟩ := vdraw_ok h
      refine ⟨T', V', l, ?_, h4⟩
      simp only [drawOps, hw]
      exact h3
theorem vregion_ok {C : Cfg} {pt : Bool} {inl : VInl} (hi : InlOK C inl) {F : Fm} {ops : Array Oper} {draw : Bool} {T : Tmps} {nx : Nat} {k : Tmps → VHeap → Nat → Tree VLeaf} (h : (vregion C pt inl F ops draw T V nx k).run = some r) :
    ∃ T' V' nx', region C (callω C) F ops draw T (den V) nx = some (T', den V', nx') ∧ (k T' V' nx').run = some r := by
  unfold vregion at h
  unfold region
  cases draw with
  | true =>
    simp only [if_true] at h ⊢
    cases hso : isSolo ops with
    | true =>
      rw [hso] at h
      simp only [if_true] at h ⊢
      obtain ⟨T', V', l, h1, h2⟩ := vdraw_ok h
      rw [h1]
      simp only
      split at h2
      · rename_i hf
        rw [if_pos hf]
        exact vseq_ok hi h2
      · exact (run_stop.1 h2).elim
    | false =>
      rw [hso] at h
      simp only [Bool.false_eq_true, if_false] at h ⊢
      obtain ⟨T', V', l, h1, h2⟩ := vdraw_ok h
      rw [h1]
      simp only
      split at h2
      · rename_i hf
        rw [if_pos hf]
        exact ⟨_, _, _, rfl, h2⟩
      · exact (run_stop.1 h2).elim
  | false =>
    simp only [Bool.false_eq_true, if_false] at h ⊢
    exact vseq_ok hi h
/-- What a leaf says. -/
def LeafOK (C : Cfg) (F : Fm) (k : List AItem) (T : Tmps) (H : Heap) (nx : Nat) : VLeaf → Prop
  | .fin T' V' nx' => Runs C F k T H nx (T', den V', nx')
  | .round b nx0 k' T' V' nx' => ∀ r, Runs C F (.inLoop b nx0 :: k') T' (den V') nx' r → Runs C F k T H nx r
  | .enter b k' T' V' nx' => ∀ r, Runs C F (.code (.loop b) :: k') T' (den V') nx' r → Runs C F k T H nx r
  | .mid k' T' V' nx' => ∀ r, Runs C F k' T' (den V') nx' r → Runs C F k T H nx r
theorem LeafOK.step {C : Cfg} {F : Fm} {k k1 : List AItem} {T T1 : Tmps} {H H1 : Heap} {nx nx1 : Nat} (hs : ∀ r, Runs C F k1 T1 H1 nx1 r → Runs C F k T H nx r) {l : VLeaf} (h : LeafOK C F k1 T1 H1 nx1 l) : LeafOK C F k T H nx l := by
  cases l with
  | fin T' V' nx' => exact hs _ h
  | round b nx0 k' T' V' nx' => exact fun r hr => hs _ (h r hr)
  | enter b k' T' V' nx' => exact fun r hr => hs _ (h r hr)
  | mid k' T' V' nx' => exact fun r hr => hs _ (h r hr)
theorem know_eq {T : Tmps} {c : Operand} {b : Bool} (h : aeval T c = .d (.v (.bool b))) : know T c b = T := by
  cases c with
  | tmp t =>
    funext u
    simp only [know, tset]
    split
    · rename_i hu; subst hu; exact h.symm
    · rfl
  | _ => rfl
/-- What is told beforehand is so. -/
def SumOK (C : Cfg) (S : Summ) : Prop := ∀ f args V nx t, S.of f args V nx = some t → ∀ r, t.run = some r → callω C f args (den V) nx = some (r.1, den r.2.1, r.2.2)
def noSum : Summ := ⟨false, fun _ _ _ _ => none⟩
def partSum : Summ := ⟨true, fun _ _ _ _ => none⟩
theorem partSum_ok (C : Cfg) : SumOK C partSum := fun _ _ _ _ _ h => by cases h
theorem noSum_ok (C : Cfg) : SumOK C noSum := fun _ _ _ _ _ h => by cases h
theorem rangeV_eq {C : Cfg} {T : Tmps} {f : Operand} {ps : Array Tmp} {assign body : Code} : rangeV C T V f ps assign body = rangeA C T (den V) f ps assign body := by
  unfold rangeV rangeA
  rw [refsInV_eq, show snapV (refsIn (den V) 4 (aeval T f)).contains V 4 = snap (refsIn (den V) 4 (aeval T f)).contains (den V) 4 from funext (snapV_eq 4)]
  rfl
theorem vrun_ok {C : Cfg} {S : Summ} (hS : SumOK C S) : ∀ (n : Nat) (F : Fm) (k : List AItem) (T : Tmps) (V : VHeap) (nx : Nat) (l : VLeaf), (vrun C S n F k T V nx).run = some l → LeafOK C F k T (den V) nx l
  | 0, F, k, T, V, nx, l, h => by simp [vrun, Tree.run] at h
  | n + 1, F, k, T, V, nx, l, h => by
    have ih := vrun_ok hS (C := C) n
    cases k with
    | nil =>
      simp [vrun, Tree.run] at h
      subst h
      exact Runs.nil
    | cons x k =>
      cases x with
      | inBlock id => simp only [vrun] at h; exact (ih _ _ _ _ _ _ h).step fun r => Runs.inBlock
      | inScope c => simp only [vrun] at h; exact (ih _ _ _ _ _ _ h).step fun r => Runs.inScope
      | inLoop b nx0 =>
        simp [vrun, Tree.run] at h
        subst h
        exact fun r hr => hr
      | code c =>
        cases c with
        | skip => simp only [vrun] at h; exact (ih _ _ _ _ _ _ h).step fun r => Runs.skip
        | label l => simp only [vrun] at h; exact (ih _ _ _ _ _ _ h).step fun r => Runs.label
        | ret =>
          simp [vrun, Tree.run] at h
          subst h
          exact Runs.ret
        | seq a b => simp only [vrun] at h; exact (ih _ _ _ _ _ _ h).step fun r => Runs.seq
        | block a b => simp only [vrun] at h; exact (ih _ _ _ _ _ _ h).step fun r => Runs.block
        | scope b => simp only [vrun] at h; exact (ih _ _ _ _ _ _ h).step fun r => Runs.scope
        | loop b =>
          simp [vrun, Tree.run] at h
          subst h
          exact fun r hr => hr
        | exit id =>
          simp only [vrun] at h
          split at h
          · rename_i k' hk
            exact (ih _ _ _ _ _ _ h).step fun r => Runs.exit hk
          · exact (run_stop.1 h).elim
        | cond c a b =>
          simp only [vrun] at h
          split at h
          · rename_i t ht
            rcases run_ask.1 h with ⟨h1, h⟩ | ⟨h1, h⟩
            · subst h1
              rw [know_eq ht] at h
              exact (ih _ _ _ _ _ _ h).step fun r hr => Runs.cond ht (fun _ => hr) (fun h => by cases h)
            · subst h1
              rw [know_eq ht] at h
              exact (ih _ _ _ _ _ _ h).step fun r hr => Runs.cond ht (fun h => by cases h) (fun _ => hr)
          · exact (run_stop.1 h).elim
        | region id ops draw =>
          simp only [vrun] at h
          cases hmid : F.nm.contains (900000 + id) with
          | true =>
            rw [hmid] at h
            simp only [if_true, Tree.run, Option.some.injEq] at h
            subst h
            exact fun r hr => hr
          | false =>
          rw [hmid] at h
          simp only [Bool.false_eq_true, if_false] at h
          have hi : InlOK C (fun f args V nx kr => match S.of f args V nx with
            | some t => t.bind fun x => kr x.1 x.2.1 x.2.2
            | none => match C.P.funcs[f]? with
            | some fn => match fn.body with
              | some c => if args.length ≤ fn.ntmps then (vrun C S n ⟨nx, nx + fn.ntmps, C.trim f, C.names f, C.virt f⟩ [.code c] (argsT args) V (nx + fn.ntmps)).bind fun leaf => (match leaf with
                | .fin T' V' nx' => (match resultsA C.P fn T' (den V') with | some v => kr v V' nx' | none => .stop)
                | _ => .stop) else .stop
              | none => .stop
            | none => .stop) := by
            intro f args V nx kr r h
            dsimp only at h
            split at h
            · rename_i t ht
              obtain ⟨x, h1, h2⟩ := run_bind h
              exact ⟨x.1, x.2.1, x.2.2, hS _ _ _ _ _ ht _ h1, h2⟩
            cases hf : C.P.funcs[f]? with
            | none => rw [hf] at h; exact (run_stop.1 h).elim
            | some fn =>
              rw [hf] at h
              dsimp only at h
              cases hb : fn.body with
              | none => rw [hb] at h; exact (run_stop.1 h).elim
              | some c =>
                rw [hb] at h
                dsimp only at h
                split at h
                · rename_i hl
                  obtain ⟨leaf, h1, h2⟩ := run_bind h
                  have h3 := ih _ _ _ _ _ _ h1
                  cases leaf with
                  | fin T' V' nx' =>
                    dsimp only at h2
                    split at h2
                    · rename_i v hv
                      exact ⟨v, V', nx', callω_of hf hb hl h3 hv, h2⟩
                    · exact (run_stop.1 h2).elim
                  | _ => exact (run_stop.1 h2).elim
                · exact (run_stop.1 h).elim
          obtain ⟨T', V', nx', h1, h2⟩ := vregion_ok hi h
          exact (ih _ _ _ _ _ _ h2).step fun r hr => Runs.region (by rw [h1]; exact hr)
        | rangeFunc f ps assign body =>
          simp only [vrun] at h
          split at h
          · rename_i ops o hr
            rw [rangeV_eq] at hr
            obtain ⟨xs, h1, h⟩ := run_get.1 h
            subst h1
            rcases run_ask.1 h with ⟨h1, h⟩ | ⟨h1, h⟩
            · cases xs with
              | nil => exact (ih _ _ _ _ _ _ h).step fun r hr' => Runs.none hr hr'
              | cons x xs => cases h1
            · cases xs with
              | nil => cases h1
              | cons x xs =>
                obtain ⟨T', V', nx', h2, h3⟩ := vregion_ok (C := C) (inl := fun _ _ _ _ _ => .stop) (fun f args V nx kr r h => (run_stop.1 h).elim) h
                simp only [Tree.run, Option.some.injEq] at h3
                subst h3
                exact Runs.quit hr h2
          · exact (run_stop.1 h).elim
        | _ => simp [vrun, Tree.run] at h
theorem den_noV : den noV = noHeap := rfl
end Go.AI
