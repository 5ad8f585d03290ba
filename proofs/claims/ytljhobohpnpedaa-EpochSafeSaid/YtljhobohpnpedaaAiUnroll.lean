/-
  Own work. Calls in the caller's memory whose loops are run round by round, over symbols.
-/
import Derived.Test.YtljhobohpnpedaaAiObs
namespace Go.AI
open Go
set_option linter.unusedVariables false
set_option linter.unusedSimpArgs false

/-- A run that goes on through loops, so many times. -/
noncomputable def urun (C : Cfg) (S : Summ) (n : Nat) (F : Fm) : Nat → List AItem → Tmps → VHeap → Nat → Tree (Tmps × VHeap × Nat)
  | 0, _, _, _, _ => .stop
  | m + 1, k, T, V, nx => (vrun C S n F k T V nx).bind fun l => match l with
    | .fin T' V' nx' => .done (T', V', nx')
    | .enter b k' T' V' nx' => urun C S n F m (.code b :: .inLoop b (upN nx') :: k') (fun t => canVV F.tr F.sb V' 4 (T' t)) (canHV F.tr F.sb V') (upN nx')
    | .round b nx0 k' T' V' nx' => match F.tr with
      | true => urun C S n F m (.code b :: .inLoop b nx0 :: k') (fun t => canVV true F.sb (frzHV (fun b => Nat.ble nx0 b) V') 4 (frzVV (fun b => Nat.ble nx0 b) V' 4 (T' t))) (canHV true F.sb (frzHV (fun b => Nat.ble nx0 b) V')) nx0
      | false => .stop
    | .mid .. => .stop
theorem urun_ok {C : Cfg} {S : Summ} (hS : SumOK C S) {n : Nat} {F : Fm} : ∀ {m : Nat} {k : List AItem} {T : Tmps} {V : VHeap} {nx : Nat} {r : Tmps × VHeap × Nat}, (urun C S n F m k T V nx).run = some r → Runs C F k T (den V) nx (r.1, den r.2.1, r.2.2)
  | 0, k, T, V, nx, r, h => (run_stop.1 h).elim
  | m + 1, k, T, V, nx, r, h => by
    unfold urun at h
    obtain ⟨l, h1, h2⟩ := run_bind h
    have hl := vrun_ok hS _ _ _ _ _ _ _ h1
    cases l with
    | fin T' V' nx' =>
      simp only [Tree.run, Option.some.injEq] at h2
      subst h2
      exact hl
    | enter b k' T' V' nx' =>
      have := urun_ok hS h2
      refine hl _ (Runs.loop ?_)
      rw [canHV_eq] at this
      have e : (fun t => canVV F.tr F.sb V' 4 (T' t)) = canT F.tr F.sb (den V') T' := by
        funext t
        rw [canVV_eq]
        rfl
      rw [e] at this
      exact this
    | round b nx0 k' T' V' nx' =>
      dsimp only at h2
      split at h2
      · rename_i ht
        have := urun_ok hS h2
        refine hl _ (Runs.round ht ?_)
        rw [canHV_eq, frzHV_eq] at this
        have e : (fun t => canVV true F.sb (frzHV (fun b => Nat.ble nx0 b) V') 4 (frzVV (fun b => Nat.ble nx0 b) V' 4 (T' t))) = canT true F.sb (frzH (fun b => Nat.ble nx0 b) (den V')) (frzT (fun b => Nat.ble nx0 b) (den V') T') := by
          funext t
          rw [canVV_eq, frzHV_eq, frzVV_eq]
          rfl
        rw [e] at this
        rw [ht]
        exact this
      · exact (run_stop.1 h2).elim
    | mid k' T' V' nx' => exact (run_stop.1 h2).elim
/-- A call of that kind. -/
noncomputable def ucall (C : Cfg) (m : Nat) (f : FuncId) (args : List AV) (V : VHeap) (nx : Nat) : Tree (AV × VHeap × Nat) := match C.P.funcs[f]? with
  | some fn => match fn.body with
    | some c => if args.length ≤ fn.ntmps then (urun C noSum 400 ⟨nx, nx + fn.ntmps, C.trim f, C.names f, C.virt f⟩ m [.code c] (argsT args) V (nx + fn.ntmps)).bind fun x => (match resultsA C.P fn x.1 (den x.2.1) with
      | some v => .done (v, x.2.1, x.2.2)
      | none => .stop) else .stop
    | none => .stop
  | none => .stop
/-- These functions are run so. -/
noncomputable def unSum (C : Cfg) (m : Nat) (fs : List FuncId) : Summ := ⟨false, fun f args V nx => match fs.contains f with
  | true => some (ucall C m f args V nx)
  | false => none⟩
theorem unSum_ok (C : Cfg) (m : Nat) (fs : List FuncId) : SumOK C (unSum C m fs) := by
  intro f args V nx t ht r hr
  simp only [unSum] at ht
  split at ht
  · simp only [Option.some.injEq] at ht
    subst ht
    unfold ucall at hr
    cases hf : C.P.funcs[f]? with
    | none => rw [hf] at hr; exact (run_stop.1 hr).elim
    | some fn =>
      rw [hf] at hr
      dsimp only at hr
      cases hb : fn.body with
      | none => rw [hb] at hr; exact (run_stop.1 hr).elim
      | some c =>
        rw [hb] at hr
        dsimp only at hr
        split at hr
        · rename_i hl
          obtain ⟨x, h1, h2⟩ := run_bind hr
          have h3 := urun_ok (noSum_ok C) h1
          split at h2
          · rename_i v hv
            simp only [Tree.run, Option.some.injEq] at h2
            subst h2
            exact callω_of hf hb hl h3 hv
          · exact (run_stop.1 h2).elim
        · exact (run_stop.1 hr).elim
  · cases ht
end Go.AI
