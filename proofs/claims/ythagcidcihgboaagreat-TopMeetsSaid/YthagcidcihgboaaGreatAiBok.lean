/-
  Own work. The interpreter over finite memory is sound over the interpreter.
-/
import Derived.Test.YthagcidcihgboaaGreatAiB
namespace Go.AI
open Go
set_option linter.unusedVariables false
set_option linter.unusedSimpArgs false

theorem tm_dead (t : Tr AV) : ∀ (ps : List Tmp), tm (bdeadT t ps) = deadT (tm t) ps
  | [] => by funext c; simp [bdeadT, deadT]
  | d :: r => by
    funext c
    have h := congrFun (tm_dead t r) c
    show orUndef (((bdeadT t r).put d (some .dead)).get c) = _
    rw [Tr.get_put]
    unfold deadT at h ⊢
    by_cases e : c = d
    · subst e; simp [orUndef]
    · rw [if_neg e]
      show tm (bdeadT t r) c = _
      rw [h]
      simp [e]
theorem frzO_ok {r : Option (AV × List Nat)} {x : BOut} : bfrzO r = some x → (match r with
    | some (r, []) => some (Out.eff ⟨r, []⟩)
    | some (r, p) => some (.frz r p)
    | none => none) = some x.to := by
  intro h
  unfold bfrzO at h
  split at h
  · cases h; rfl
  · rename_i a b hn
    cases h
    cases b with
    | nil => exact absurd rfl hn
    | cons c l => rfl
  · cases h
theorem effO_ok {r : Option Eff} {x : BOut} : beffO r = some x → (match r with | some e => some (Out.eff e) | none => none) = some x.to := by
  intro h
  unfold beffO at h
  split at h
  · cases h; rfl
  · cases h
theorem pureCall_mono {K K' : FuncId → List AV → Option AV} (hk : ∀ f as r, K f as = some r → K' f as = some r) {f : FuncId} {args : List AV} {H : Heap} {r : AV × List Nat} (h : pureCall K f args H = some r) : pureCall K' f args H = some r := by
  unfold pureCall at h ⊢
  split at h
  · split at h
    · rename_i hr
      rw [hk _ _ _ hr]
      exact h
    · cases h
  · cases h
theorem cellCall_ok {K : BCall} {K' : Call} (hk : BLe K K') {f : FuncId} {args : List AV} {H : Heap} {e : Eff} (h : bcellCall K f args H = some e) : cellCall K' f args H = some e := by
  unfold bcellCall at h
  split at h
  · rename_i b ver i o r
    unfold cellCall
    split at h
    · rename_i s ver' data as hb has
      simp only [hb, has]
      split at h
      · rename_i hv
        rw [if_pos hv]
        split at h
        · rename_i cs hcs
          simp only [hcs]
          split at h
          · rename_i x hx
            simp only [hx]
            split at h
            · rename_i v hc n hr
              have := hk _ _ _ _ _ _ _ hr
              rw [hp_put, hp_lf] at this
              simp only [this]
              exact h
            · cases h
          · cases h
        · cases h
      · cases h
    · cases h
  · cases h
theorem hp_cut (H : Heap) : ∀ (F : List Nat), hp (bcut H F) = restr H F
  | [] => by funext b; simp [hp, bcut, Tr.get_lf, restr]
  | c :: r => by
    funext b
    have h := congrFun (hp_cut H r) b
    show ((bcut H r).put c (H c)).get b = restr H (c :: r) b
    rw [Tr.get_put]
    unfold restr at h ⊢
    by_cases e : b = c
    · subst e; simp
    · rw [if_neg e]
      show hp (bcut H r) b = _
      rw [h]
      simp [e]
theorem boxCall_ok {K : BCall} {K' : Call} (hk : BLe K K') {f : FuncId} {args : List AV} {H : Heap} {fr : Nat} {e : Eff} (h : bboxCall K f args H fr = some e) : boxCall K' f args H fr = some e := by
  unfold bboxCall at h
  unfold boxCall
  split at h
  · rename_i ho
    rw [if_pos ho]
    split at h
    · rename_i v hc n hr
      have := hk _ _ _ _ _ _ _ hr
      rw [hp_cut] at this
      rw [this]
      exact h
    · cases h
  · cases h
theorem callOut_ok {C : Cfg} {K : BCall} {K' : Call} (hk : BLe K K') {R : FuncId → List AV → Option (AV × Tr ABlk × Nat)} {f : FuncId} {args : List AV} {H : Heap} {fr : Nat}
    (hR : ∀ f args v h' nx', R f args = some (v, h', nx') → K' f args H fr = some (v, hp h', nx')) {x : BOut} (h : bcallOut C K R f args H fr = some x) : callOut C K' f args H fr = some x.to := by
  unfold bcallOut at h
  unfold callOut
  split at h
  · rename_i hm
    simp only [hm]
    cases hp' : pureCall (bval K) f args H with
    | none => rw [hp'] at h; cases h
    | some r =>
      rw [hp'] at h
      rw [pureCall_mono (fun f as r hr => bval_ok hk hr) hp']
      exact frzO_ok h
  · rename_i hm; simp only [hm]; exact frzO_ok h
  · rename_i hm; simp only [hm]; exact effO_ok h
  · rename_i hm; simp only [hm]; exact effO_ok h
  · rename_i hm
    simp only [hm]
    unfold brunO at h
    split at h
    · rename_i v h' nx' hr
      cases h
      rw [hR _ _ _ _ _ hr]; rfl
    · cases h
  · rename_i hm
    simp only [hm]
    cases hp' : bcellCall K f args H with
    | none => rw [hp'] at h; cases h
    | some r =>
      rw [hp'] at h
      rw [cellCall_ok hk hp']
      exact effO_ok h
  · rename_i hm
    simp only [hm]
    cases hp' : bboxCall K f args H fr with
    | none => rw [hp'] at h; cases h
    | some r =>
      rw [hp'] at h
      rw [boxCall_ok hk hp']
      exact effO_ok h
  · cases h
theorem operOut_ok {C : Cfg} {K : BCall} {K' : Call} (hk : BLe K K') {R : FuncId → List AV → Option (AV × Tr ABlk × Nat)} {F : Fm} {T : Tmps} {H : Heap} {fr : Nat} {o : Oper}
    (hR : ∀ f args v h' nx', R f args = some (v, h', nx') → K' f args H fr = some (v, hp h', nx')) {x : BOut} (h : boperOut C K R F T H fr o = some x) : operOut C K' F T H fr o = some x.to := by
  unfold boperOut at h
  unfold operOut
  split at h
  · rename_i c hc
    simp only [hc]
    unfold bcalleeOut at h
    split at h
    · rename_i fo hfo
      simp only [hfo]
      unfold bvalOut at h
      split at h
      · rename_i f caps hv
        simp only [hv]
        split at h
        · rename_i hlt; rw [if_pos hlt]; exact callOut_ok hk hR h
        · rename_i hlt
          rw [if_neg hlt]
          split at h
          · rename_i hem; rw [if_pos hem]; exact callOut_ok hk hR h
          · cases h
      · rename_i f caps hv
        simp only [hv]
        split at h
        · rename_i hlt; rw [if_pos hlt]; exact callOut_ok hk hR h
        · cases h
      · cases h
    · rename_i hn
      have he : ef_call C.P (aeval T) H fr c = eff C.P F (aeval T) H fr o := by
        obtain ⟨dst, op, type, pos, after, guard⟩ := o
        subst hc; rfl
      rw [he] at h
      split
      · rename_i fo hfo; exact absurd hfo (hn fo)
      · exact effO_ok h
  · rename_i hn
    rw [effF_eq] at h
    split
    · rename_i c hc; exact absurd hc (hn c)
    · exact effO_ok h
theorem bseq_ok {C : Cfg} {K : BCall} {K' : Call} (hk : BLe K K') {F : Fm} {ops : Array Oper} : ∀ (l : List Oper) (t : Tr AV) (h : Tr ABlk) (nx : Nat) (t' : Tr AV) (h' : Tr ABlk) (nx' : Nat), bseq C K F ops l t h nx = some (t', h', nx') → seqOps C K' F ops l (tm t) (hp h) nx = some (tm t', hp h', nx')
  | [], t, h, nx, t', h', nx', hr => by
    unfold bseq at hr; cases hr; unfold seqOps; rfl
  | o :: r, t, h, nx, t', h', nx', hr => by
    unfold bseq at hr
    unfold seqOps
    split at hr
    · rename_i hw
      simp only [hw]
      split at hr
      · cases hr
      · rename_i hd
        rw [if_neg hd]
        split at hr
        · rename_i e he
          rw [operOut_ok hk (fun f args v h'' nx'' hx => hk _ _ _ _ _ _ _ hx) he]
          have := bseq_ok hk r _ _ _ _ _ _ hr
          rw [tm_put, hp_wr] at this
          exact this
        · rename_i v p he
          rw [operOut_ok hk (fun f args v h'' nx'' hx => hk _ _ _ _ _ _ _ hx) he]
          have := bseq_ok hk r _ _ _ _ _ _ hr
          rw [tm_put, tm_frz, hp_frzK] at this
          exact this
        · rename_i v h2 nx2 he
          rw [operOut_ok hk (fun f args v h'' nx'' hx => hk _ _ _ _ _ _ _ hx) he]
          have := bseq_ok hk r _ _ _ _ _ _ hr
          rw [tm_put] at this
          exact this
        · cases hr
    · rename_i hw
      simp only [hw]
      have := bseq_ok hk r _ _ _ _ _ _ hr
      rw [tm_put] at this
      exact this
    · cases hr
theorem bdraw_ok {C : Cfg} {K : BCall} {K' : Call} (hk : BLe K K') {F : Fm} {ops : Array Oper} {base : Nat} : ∀ (l : List Oper) (i : Nat) (t : Tr AV) (h : Tr ABlk) (t' : Tr AV) (h' : Tr ABlk) (fs : List Foot), bdraw C K F ops base l i t h = some (t', h', fs) → drawOps C K' F ops base l i (tm t) (hp h) = some (tm t', hp h', fs)
  | [], i, t, h, t', h', fs, hr => by
    unfold bdraw at hr; cases hr; unfold drawOps; rfl
  | o :: r, i, t, h, t', h', fs, hr => by
    unfold bdraw at hr
    unfold drawOps
    split at hr
    · rename_i hw
      simp only [hw]
      split at hr
      · rename_i e he
        rw [operOut_ok hk (fun f args v h'' nx'' hx => by cases hx) he]
        dsimp only [BOut.to]
        split at hr
        · rename_i t2 h2 l hl
          cases hr
          have := bdraw_ok hk r _ _ _ _ _ _ hl
          rw [tm_put, hp_wr] at this
          rw [this]
        · cases hr
      · rename_i v p he
        rw [operOut_ok hk (fun f args v h'' nx'' hx => by cases hx) he]
        dsimp only [BOut.to]
        split at hr
        · rename_i t2 h2 l hl
          have := bdraw_ok hk r _ _ _ _ _ _ hl
          rw [tm_put, hp_wr] at this
          rw [this]
          dsimp only
          split at hr
          · rename_i hc; cases hr; rw [if_pos hc]
          · cases hr
        · cases hr
      · cases hr
    · rename_i hw
      simp only [hw]
      have := bdraw_ok hk r _ _ _ _ _ _ hr
      rw [tm_put] at this
      exact this
    · cases hr
theorem bregion_ok {C : Cfg} {K : BCall} {K' : Call} (hk : BLe K K') {F : Fm} {ops : Array Oper} {draw : Bool} {t : Tr AV} {h : Tr ABlk} {nx : Nat} {t' : Tr AV} {h' : Tr ABlk} {nx' : Nat} (hr : bregion C K F ops draw t h nx = some (t', h', nx')) : region C K' F ops draw (tm t) (hp h) nx = some (tm t', hp h', nx') := by
  unfold bregion at hr
  unfold region
  split at hr
  · rename_i hd
    rw [if_pos hd]
    split at hr
    · rename_i hs
      rw [if_pos hs]
      split at hr
      · rename_i t2 h2 l hl
        rw [bdraw_ok hk _ _ _ _ _ _ _ hl]
        dsimp only
        split at hr
        · rename_i hf; rw [if_pos hf]; exact bseq_ok hk _ _ _ _ _ _ _ hr
        · cases hr
      · cases hr
    · rename_i hs
      rw [if_neg hs]
      split at hr
      · rename_i t2 h2 l hl
        rw [bdraw_ok hk _ _ _ _ _ _ _ hl]
        dsimp only
        split at hr
        · rename_i hf; cases hr; rw [if_pos hf]
        · cases hr
      · cases hr
  · rename_i hd
    rw [if_neg hd]
    exact bseq_ok hk _ _ _ _ _ _ _ hr
/-- What is still to come, from a state on. -/
def BRuns (C : Cfg) (F : Fm) (s : BS) (r : Tmps × Heap × Nat) : Prop := Runs C F s.k (tm s.t) (hp s.h) s.nx r
theorem bcode_ok {C : Cfg} {K : BCall} (hk : BLe K (callω C)) {F : Fm} {k : List AItem} {t : Tr AV} {h : Tr ABlk} {nx : Nat} {c : Code} {s' : BS} (hs : bcode C K F k t h nx c = some s') (r : Tmps × Heap × Nat) (hr : BRuns C F s' r) : BRuns C F ⟨.code c :: k, t, h, nx⟩ r := by
  unfold bcode at hs
  split at hs
  · cases hs; exact Runs.skip hr
  · cases hs; exact Runs.label hr
  · cases hs
    obtain ⟨n, hn⟩ := hr
    cases n with
    | zero => simp [arun] at hn
    | succ n =>
      simp only [arun, Option.some.injEq] at hn
      subst hn
      exact Runs.ret
  · cases hs; exact Runs.seq hr
  · cases hs; exact Runs.block hr
  · cases hs
    unfold BRuns at hr
    rw [tm_can, hp_can] at hr
    exact Runs.loop hr
  · cases hs; exact Runs.scope hr
  · rename_i id
    cases he : exitToA id k with
    | none => rw [he] at hs; cases hs
    | some k' => rw [he] at hs; cases hs; exact Runs.exit he hr
  · rename_i c a b
    unfold bcond at hs
    split at hs
    · rename_i hc
      cases hs; exact Runs.cond hc (fun _ => hr) (fun e => by cases e)
    · rename_i hc
      cases hs; exact Runs.cond hc (fun e => by cases e) (fun _ => hr)
    · cases hs
  · rename_i id ops draw
    cases hg : bregion C K F ops draw t h nx with
    | none => rw [hg] at hs; cases hs
    | some x =>
      obtain ⟨t', h', nx'⟩ := x
      rw [hg] at hs
      cases hs
      refine Runs.region ?_
      rw [bregion_ok hk hg]
      exact hr
  · rename_i f ps assign body
    unfold bquit at hs
    split at hs
    · rename_i ops ha
      cases hs
      exact Runs.none ha hr
    · rename_i ops x xs ha
      split at hs
      · rename_i t' h' nx' hg
        cases hs
        have hg' := bregion_ok hk hg
        rw [tm_dead] at hg'
        obtain ⟨n, hn⟩ := hr
        cases n with
        | zero => simp [arun] at hn
        | succ n =>
          simp only [arun, Option.some.injEq] at hn
          subst hn
          exact Runs.quit ha hg'
      · cases hs
    · cases hs
  · cases hs
theorem bstep_ok {C : Cfg} {K : BCall} (hk : BLe K (callω C)) {F : Fm} {s s' : BS} (hs : bstep C K F s = some s') (r : Tmps × Heap × Nat) (hr : BRuns C F s' r) : BRuns C F s r := by
  obtain ⟨k, t, h, nx⟩ := s
  unfold bstep at hs
  cases k with
  | nil => cases hs
  | cons i k =>
    dsimp only at hs
    unfold bitem at hs
    split at hs
    · cases hs; exact Runs.inBlock hr
    · cases hs; exact Runs.inScope hr
    · unfold bround at hs
      split at hs
      · rename_i ht
        simp only [Option.some.injEq] at hs; subst hs
        unfold BRuns at hr
        rw [tm_can, tm_frz, hp_can, hp_frzH] at hr
        exact Runs.round ht hr
      · rename_i ht
        simp only [Option.some.injEq] at hs; subst hs
        unfold BRuns at hr
        rw [tm_can, hp_can] at hr
        exact Runs.round' (by simpa using ht) hr
    · exact bcode_ok hk hs r hr
theorem bcallOf_ok {C : Cfg} {run : Fm → BS → Option BS} (hrun : ∀ F s s', run F s = some s' → BRuns C F s (tm s'.t, hp s'.h, s'.nx)) : BLe (bcallOf C run) (callω C) := by
  intro f args h nx v h' nx' hr
  unfold bcallOf at hr
  split at hr
  · rename_i fn hf
    split at hr
    · rename_i c hb
      split at hr
      · rename_i hl
        split at hr
        · rename_i s hs
          split at hr
          · rename_i v' hv
            cases hr
            have := hrun _ _ _ hs
            unfold BRuns at this
            rw [tm_args] at this
            exact callω_of hf hb hl this hv
          · cases hr
        · cases hr
      · cases hr
    · cases hr
  · cases hr
theorem brun_ok {C : Cfg} : ∀ (n : Nat) (F : Fm) (s s' : BS), brun C n F s = some s' → BRuns C F s (tm s'.t, hp s'.h, s'.nx)
  | 0, F, s, s', h => by cases h
  | n + 1, F, s, s', h => by
    unfold brun at h
    split at h
    · rename_i hk
      cases h
      unfold BRuns
      rw [hk]
      exact Runs.nil
    · split at h
      · rename_i s2 hs
        exact bstep_ok (bcallOf_ok (brun_ok n)) hs _ (brun_ok n F _ _ h)
      · cases h
theorem bcall_ok (C : Cfg) (n : Nat) : BLe (bcall C n) (callω C) := bcallOf_ok (brun_ok n)
theorem bval_val {C : Cfg} {n : Nat} {f : FuncId} {as : List AV} {r : AV} (h : bval (bcall C n) f as = some r) : valω C f as = some r := bval_ok (bcall_ok C n) h
/-- So many items; then what is still to come. -/
noncomputable def bgo (C : Cfg) (K : BCall) (F : Fm) : Nat → BS → Option BS
  | 0, s => some s
  | m + 1, s => match bstep C K F s with
    | some s' => bgo C K F m s'
    | none => none
theorem bgo_ok {C : Cfg} {K : BCall} (hk : BLe K (callω C)) {F : Fm} : ∀ {m : Nat} {s s' : BS}, bgo C K F m s = some s' → ∀ r, BRuns C F s' r → BRuns C F s r
  | 0, s, s', h, r, hr => by cases h; exact hr
  | m + 1, s, s', h, r, hr => by
    unfold bgo at h
    split at h
    · rename_i s2 hs
      exact bstep_ok hk hs r (bgo_ok hk h r hr)
    · cases h
end Go.AI
