/-
  Own work. A range over a function whose body leaves the function in its first round.
-/
import Derived.Test.YthagcidcihgboaaGreatAiCan
import Derived.RangeFuncKeeps
import Derived.RangeFuncCalls
namespace Go.AI
open Go
set_option linter.unusedVariables false
set_option linter.unusedSimpArgs false
variable {P : Program} {O : Nat → Prop} {ι ι0 : Inj} {H H0 : Heap} {w w' w0 : World}

/-- Operations that are no defer statements do in a round what they do everywhere. -/
theorem round_ops {l0 : Nat} {ops : Array Oper} {Φ : Act → World → Prop} (hd : ∀ o ∈ ops.toList, ∀ c, o.op ≠ .defer c) : ∀ (l : List Nat) (a : Act) (w : World),
    wpOps P ops (fun e a w => e = .normal ∧ Φ a w) l a w → wpOpsIn (Fence.wide.inRound l0) 0 P ops (fun e a w => e = .normal ∧ Φ a w) l a w
  | [], a, w, h => by simpa [wpOps, wpOpsIn] using h
  | i :: l, a, w, h => by
    have ih := round_ops (l0 := l0) (Φ := Φ) hd l
    simp only [wpOps] at h
    simp only [wpOpsIn]
    cases ho : ops[i]? with
    | none => simp only [ho] at h ⊢; exact ih a w h
    | some o =>
      have hm : o ∈ ops.toList := by simpa using Array.mem_of_getElem? ho
      simp only [ho] at h ⊢
      by_cases hw : Region.wanted o (yielded ops a.tmps) = true
      · rw [if_pos hw] at h ⊢
        refine ⟨fun _ _ => trivial, ?_⟩
        rcases h with h | ⟨_, a', w', h1, _⟩
        · unfold Oper.wp at h
          rw [Oper.semAt_eq _ _ _ (hd o hm)]
          generalize (execOp a.eval o).run P w = r at h ⊢
          cases r with
          | ok x w' =>
            cases x <;> simp only [Oper.upon, Oper.uponIn] at h ⊢ <;> first | exact ih _ _ h | exact h.elim | skip
            · refine ⟨fun h => by simp [Fence.inRound, Fence.wide] at h, ?_⟩
              refine CallsIn.inRound l0 (callsIn_wide.2 (Calls.mono h fun e w'' he => ?_))
              cases e with
              | returned v => exact ih _ _ he
              | panicked ch => cases he.1
              | outgrown => obtain ⟨a2, w2, h2⟩ := he; cases h2.1
            · refine ⟨fun h => by simp [Fence.inRound, Fence.wide] at h, ?_⟩
              exact fun c cs _ => let ⟨v, w', r, s⟩ := h c cs; ⟨v, w', ih _ _ r, stepsIn_wide.2 s⟩
          | halt x w' => cases x <;> simp only [Oper.upon, Oper.uponIn] at h ⊢ <;> first | exact h.elim | (cases h.1)
        · cases h1
      · rw [if_neg hw] at h ⊢
        exact ⟨fun _ _ => trivial, ih _ _ h⟩

theorem fnD_some {as : List AV} {g : FuncId} {caps : List DV} (h : fnD as = some (g, caps)) : as = [.d (.fn g caps)] ∧ g < bnd := by
  unfold fnD at h
  split at h
  · split at h
    · rename_i hg
      simp only [Option.some.injEq, Prod.mk.injEq] at h
      obtain ⟨rfl, rfl⟩ := h
      exact ⟨rfl, hg⟩
    · cases h
  · cases h
theorem deadT_R {T : Tmps} {a : Act} (hT : TR O ι w T a) (p : Tmp) (x : Value) : TR O ι w (deadT T [p]) { tmps := a.tmps.setIfInBounds p x, defers := [] } := by
  intro t
  unfold deadT
  by_cases ht : t = p
  · subst ht
    rw [if_pos (by simp)]
    simp [R]
  · rw [if_neg (by simp [ht])]
    have := hT t
    simpa [Array.getD_eq_getD_getElem?, Array.getElem?_setIfInBounds_ne (Ne.symm ht)] using this
/-- What holds when the loop's body has left. -/
structure Left (O : Nat → Prop) (ι : Inj) (w : World) (T : Tmps) (a : Act) (nx nx1 : Nat) (H1 : Heap) (l D : Nat) (rec_ : Loop) (w' : World) (ι' : Inj) : Prop where
  lp : w'.heap[l]? = some (.loop rec_)
  dp : w'.heap[D]? = some (.deferred (some []))
  hr : HR O ι' H1 w'
  tr : TR O ι' w' T a
  ex : Ex ι w ι' w'
  new : ∀ b, ι' b ≠ none → ι b = none → nx ≤ b ∧ b < nx1
  le : nx ≤ nx1
  free : ¬ owned ι' D
theorem range_wp {C : Cfg} (hM : ModesOK C) {K : Call} (hK : SoundK C.P K) {F : Fm} {nt : Nat} {ops : Array Oper} (hok : ∀ o ∈ ops.toList, ∀ d : Nat, o.dst = some d → d < nt) {ps : Array Tmp} {body : Code} {f : Operand}
    (hq : quitOf ps .skip body = some ops) {T : Tmps} {H : Heap} {nx : Nat} {as : List AV} {g : FuncId} {caps : List DV} {xs : List (List DV)}
    (has : mapO (snap (refsIn H 4 (aeval T f)).contains H 4) [aeval T f] = some as) (hfn : fnD as = some (g, caps)) (hg : gather C g caps = some xs) {a : Act} (hI : Inv ι0 w0 O F nt ι H w T a nx)
    {T1 : Tmps} {H1 : Heap} {nx1 : Nat} (hreg : xs ≠ [] → region C K (quitF F nx) ops false (deadT T ps.toList) H (nx + (F.lo - F.sb)) = some (T1, H1, nx1)) :
    (Code.rangeFunc f ps .skip body).wp C.P (fun e a' w' => (xs = [] ∧ e = .normal ∧ Inv ι0 w0 O F nt ι H w' T a' nx) ∨ (xs ≠ [] ∧ e = .ret ∧ ∃ ι', Inv ι0 w0 O F nt ι' H1 w' T a' nx1)) a w := by
  -- the body
  unfold quitOf at hq
  simp only at hq
  split at hq
  · rename_i hps
    obtain ⟨p, rfl⟩ : ∃ p, ps = #[p] := by
      match ps, hps with
      | ⟨[p]⟩, _ => exact ⟨p, rfl⟩
    unfold quits at hq
    split at hq
    · rename_i bid rid ops0
      split at hq
      · rename_i hnd
        simp only [Option.some.injEq] at hq
        subst hq
        have hnd' : ∀ o ∈ ops0.toList, ∀ c, o.op ≠ .defer c := fun o ho c hc => by
          have := List.all_eq_true.1 hnd o ho
          rw [hc] at this
          cases this
        -- the iterator
        have hpa := pure_args hI.hr (fun _ _ h => h) has (by simp only [Rl]; exact ⟨_, _, rfl, aeval_R hI.tr f, rfl⟩)
        rw [(fnD_some hfn).1] at hpa
        simp only [Rl, R, DR] at hpa
        obtain ⟨v, l', hv, ⟨cs, rfl, hcs⟩, rfl⟩ := hpa
        simp only [List.cons.injEq, and_true] at hv
        rw [fnV_lt (fnD_some hfn).2] at hv
        have hcs' := DRl.mono (im' := fun _ => True) (Nat.le_refl _) (fun k _ _ => ⟨rfl, trivial⟩) _ _ hcs
        obtain ⟨⟨fn0, hf0, hb0⟩, hiter⟩ := hM.iter hg hcs'
        have hnm := hM.name g fn0 hf0
        have hb1 : fn0.body.isNone = false := by cases hb : fn0.body <;> simp [hb] at hb0 ⊢
        have hlt := hI.hr.lt
        rw [← wpIn_wide (n := 0)]
        refine wpIn_rangeFunc ?_
        intro fn hfn'
        obtain ⟨rec, hrec⟩ : ∃ rec : LoopState → Option Code → Loop, rec = fun st pe => { state := st, pending := pe, fn, tmps := a.tmps, params := #[p], assign := .skip, body := .block bid (.seq (.region rid ops0 false) .ret), defers := w.heap.size } := ⟨_, rfl⟩
        obtain ⟨W1, hW1⟩ : ∃ W1, (w.alloc (.deferred (some []))).alloc (.loop (rec .ready none)) = W1 := ⟨_, rfl⟩
        have hL1 : W1.heap[w.heap.size + 1]? = some (.loop (rec .ready none)) := by
          rw [← hW1]; have := World.alloc_heap_new (w.alloc (.deferred (some []))) (.loop (rec .ready none)); rwa [World.size_alloc] at this
        have hK1 : W1.heap[w.heap.size]? = some (.deferred (some [])) := by
          rw [← hW1]; exact (Go.RowKit.Below.heap_alloc _ _ _ (by simp)).trans (World.alloc_heap_new w _)
        have hs1 : Same w W1 := by
          rw [← hW1]
          exact ⟨rfl, rfl, rfl, by simp; omega, fun k hk => (Go.RowKit.Below.heap_alloc _ _ _ (by simp; omega)).trans (Go.RowKit.Below.heap_alloc _ _ _ hk)⟩
        have hno : ∀ k, w.heap.size ≤ k → ¬ owned ι k := fun k hk ⟨b, e, h1, h2⟩ => by have := hlt b e k h1 h2; omega
        have hlW1 : w.heap.size + 1 < W1.heap.size := (Array.getElem?_eq_some_iff.1 hL1).1
        refine ⟨w.heap.size + 1, [markOf w.heap.size], W1, { target := .fn (.func g) cs.toArray, args := #[.func (.yield (w.heap.size + 1)) #[] #[]] }, W1, g, #[.func (.yield (w.heap.size + 1)) #[] #[]] ++ cs.toArray, W1, ?_, ?_, fun _ _ => trivial, ?_, fun h => by simp [Fence.wide] at h, ?_⟩
        · rw [← hW1, hrec]; exact run_enterLoop_outer _ _ _ _ _
        · simp only [resolve, rangeCall, hv]
          simp [go_sem]
        · simp only [invoke, callFunc, Sem.run_bind, Sem.run_pure, Result.andThen_ok, run_program, hf0, hnm, hb1]
          simp only [Bool.false_eq_true, if_false, Sem.run_pure]
        · refine (hiter (w.heap.size + 1) W1 (fun W => ∃ ι', Left O ι w T a nx nx1 H1 (w.heap.size + 1) w.heap.size (rec .done (some .ret)) W ι' ∧ nx + (F.lo - F.sb) ≤ nx1 ∧ xs ≠ []) hs1 ?_ ?_).mono ?_
          · rintro A B ⟨ι', hL, hle, hne⟩ hs
            refine ⟨ι', ⟨(hs.heap _ (Array.getElem?_eq_some_iff.1 hL.lp).1).trans hL.lp, (hs.heap _ (Array.getElem?_eq_some_iff.1 hL.dp).1).trans hL.dp, hL.hr.same hs, hL.tr.mono (hs.ex ι'), Ex.trans hlt hL.ex (hs.ex ι'), hL.new, hL.le, hL.free⟩, hle, hne⟩
          · -- the one round
            intro hxs W x hsW
            have hlW : W.heap[w.heap.size + 1]? = some (.loop (rec .ready none)) := (hsW.heap _ hlW1).trans hL1
            have hDW : W.heap[w.heap.size]? = some (.deferred (some [])) := (hsW.heap _ (by omega)).trans hK1
            have hltW : w.heap.size + 1 < W.heap.size := (Array.getElem?_eq_some_iff.1 hlW).1
            have hy : (Instr.yield (w.heap.size + 1) #[x]).run C.P W = .ok (.round (w.heap.size + 1) fn (a.tmps.setIfInBounds p x) .skip (.block bid (.seq (.region rid ops0 false) .ret))) W := by
              have := run_yield (P := C.P) (args := #[x]) hlW (by rw [hrec]; rfl)
              rw [hrec] at this
              simpa using this
            refine ⟨fn, _, .skip, _, hy, roundIn_of_wpIn trivial (wpIn_skip ⟨_, run_beginRound hlW (by rw [hrec]), ?_⟩)⟩
            obtain ⟨W2, hW2⟩ : ∃ W2, W.putObj (w.heap.size + 1) (.loop { rec .ready none with state := .busy }) = W2 := ⟨_, rfl⟩
            rw [hW2]
            have hl2 : W2.heap[w.heap.size + 1]? = some (.loop { rec .ready none with state := .busy }) := by rw [← hW2]; exact World.putObj_heap_same hltW
            have hD2 : W2.heap[w.heap.size]? = some (.deferred (some [])) := by rw [← hW2]; exact (World.putObj_heap_other (by omega)).trans hDW
            have hs2 : Same w W2 := by
              rw [← hW2]
              refine ⟨hsW.os.trans hs1.os, hsW.tape.trans hs1.tape, hsW.output.trans hs1.output, by simp; omega, fun k hk => ?_⟩
              exact (World.putObj_heap_other (by omega)).trans ((hsW.heap k (by omega)).trans (hs1.heap k hk))
            have hI2 : Inv ι W2 O (quitF F nx) nt ι H W2 (deadT T #[p].toList) { tmps := a.tmps.setIfInBounds p x, defers := [] } (nx + (F.lo - F.sb)) := by
              have hnames := hI.names
              refine ⟨hI.hr.same hs2, deadT_R (hI.tr.mono (hs2.ex ι)) p x, Ex.refl .., by simpa using hI.sz, trivial, fun b hb => hI.fresh b (by omega), fun b _ h => h, (hI.hr.same hs2).lt, fun b hb => ?_, ⟨?_, ?_⟩⟩
              · by_cases h : nx ≤ b
                · exact absurd (hI.fresh b h) hb
                · show b < nx
                  omega
              · show nx + nt ≤ nx + (F.lo - F.sb)
                omega
              · exact Nat.le_refl _
            have he := hreg hxs
            simp only [region, Bool.false_eq_true, if_false] at he
            have hseq := seq_wp (ι0 := ι) (w0 := W2) (O := O) hM hK hok (Q := fun e a' w' => e = .normal ∧ ∃ ι', Inv ι W2 O (quitF F nx) nt ι' H1 w' T1 a' nx1) ops0.toList 0 ι H W2 _ _ _ (by simp) he hI2 (fun ι' w' a' h => ⟨rfl, ι', h⟩)
            have hin := round_ops (l0 := w.heap.size + 1) hnd' _ _ _ hseq
            rw [show List.range' 0 ops0.toList.length = List.range ops0.size by simp [List.range_eq_range']] at hin
            have hrg := wpIn_region (id := rid) hin
            refine wpIn_block (wpIn_seq (wpIn_mono hrg ?_))
            rintro e a3 W3 ⟨rfl, ι', h3⟩
            refine wpIn_ret ?_
            have hkl := h3.ex.keep (w.heap.size + 1) (Array.getElem?_eq_some_iff.1 hl2).1 (hno _ (by omega))
            have hkD := h3.ex.keep w.heap.size (Array.getElem?_eq_some_iff.1 hD2).1 (hno _ (by omega))
            have hl3 := hkl.1.trans hl2
            have hlt3 := (Array.getElem?_eq_some_iff.1 hl3).1
            have hend := run_endRound (P := C.P) (some .ret) hl3
            refine ⟨_, _, hend, rfl, ι', ?_, ?_, hxs⟩
            · have ht : Turn W3 (W3.putObj (w.heap.size + 1) (.loop { { rec .ready none with state := .busy } with state := if (some Code.ret).isNone then .ready else .done, pending := some .ret })) := Turn.putObj _ hl3 rfl
              have hx3 : Ex ι w ι' W3 := Ex.trans hlt (hs2.ex ι) h3.ex
              refine ⟨?_, (World.putObj_heap_other (by omega)).trans (hkD.1.trans hD2), h3.hr.turn ht, fun t => ((hI.tr t).mono hx3).turn ht, hx3.turn hlt ht rfl rfl rfl fun k hk => World.putObj_heap_other (by omega), fun b hb1 hb2 => ⟨?_, ?_⟩, ?_, hkD.2⟩
              · rw [World.putObj_heap_same hlt3, hrec]; rfl
              · by_cases h : nx ≤ b
                · exact h
                · exact absurd hb2 (h3.low b (show b < nx by omega) hb1)
              · by_cases h : nx1 ≤ b
                · exact absurd (h3.fresh b h) hb1
                · omega
              · have := h3.names.2
                have e1 : (quitF F nx).lo = nx + (F.lo - F.sb) := rfl
                omega
            · have := h3.names.2
              have e1 : (quitF F nx).lo = nx + (F.lo - F.sb) := rfl
              omega
          · rintro e W ⟨⟨v, rfl⟩, hW⟩
            have hnames := hI.names
            rcases hW with ⟨hxs, hsW⟩ | ⟨hxs, ι', hL, hle, _⟩
            · have hlW : W.heap[w.heap.size + 1]? = some (.loop (rec .ready none)) := (hsW.heap _ hlW1).trans hL1
              have hDW : W.heap[w.heap.size]? = some (.deferred (some [])) := (hsW.heap _ (by omega)).trans hK1
              have hend : (Instr.endLoop (w.heap.size + 1)).run C.P W = .ok none (W.putObj (w.heap.size + 1) (.loop { rec .ready none with state := .exhausted })) := by
                have := run_endLoop (P := C.P) hlW (by rw [hrec]; simp)
                rw [hrec] at this ⊢
                exact this
              refine ⟨none, _, hend, .inl ⟨hxs, rfl, ?_⟩⟩
              have hs : Same w (W.putObj (w.heap.size + 1) (.loop { rec .ready none with state := .exhausted })) := by
                refine ⟨hsW.os.trans hs1.os, hsW.tape.trans hs1.tape, hsW.output.trans hs1.output, by have := hsW.size; simp; omega, fun k hk => ?_⟩
                exact (World.putObj_heap_other (by omega)).trans ((hsW.heap k (by omega)).trans (hs1.heap k hk))
              refine ⟨hI.hr.same hs, hI.tr.mono (hs.ex ι), Ex.trans hI.old hI.ex (hs.ex ι), hI.sz, ⟨⟨w.heap.size, rfl, hI.ex.size, (World.putObj_heap_other (by omega)).trans hDW, hno _ (Nat.le_refl _), fun D' hD' => ?_⟩, hI.df.ex (hs.ex ι)⟩, hI.fresh, hI.low, hI.old, hI.named, hI.names⟩
              have := (Array.getElem?_eq_some_iff.1 (hI.df.has D' hD').2.1).1
              omega
            · have hend : (Instr.endLoop (w.heap.size + 1)).run C.P W = .ok (some .ret) (W.putObj (w.heap.size + 1) (.loop { rec .done (some .ret) with state := .exhausted })) := by
                have := run_endLoop (P := C.P) hL.lp (by rw [hrec]; simp)
                rw [hrec] at this ⊢
                exact this
              refine ⟨some .ret, _, hend, wpIn_ret (.inr ⟨hxs, rfl, ι', ?_⟩)⟩
              have ht := Turn.putObj (.loop { rec .done (some .ret) with state := .exhausted }) hL.lp rfl
              have hx : Ex ι w ι' (W.putObj (w.heap.size + 1) (.loop { rec .done (some .ret) with state := .exhausted })) := hL.ex.turn hlt ht rfl rfl rfl fun k hk => World.putObj_heap_other (by omega)
              refine ⟨hL.hr.turn ht, fun t => (hL.tr t).turn ht, Ex.trans hI.old hI.ex hx, hI.sz, ⟨⟨w.heap.size, rfl, hI.ex.size, (World.putObj_heap_other (by omega)).trans hL.dp, hL.free, fun D' hD' => ?_⟩, hI.df.ex hx⟩, fun b hb => ?_, fun b hb hne => ?_, hI.old, hI.named, ⟨hI.names.1, by omega⟩⟩
              · have := (Array.getElem?_eq_some_iff.1 (hI.df.has D' hD').2.1).1
                omega
              · cases h : ι' b with
                | none => rfl
                | some e' => have := hL.new b (by rw [h]; simp) (hI.fresh b (by omega)); omega
              · cases hι : ι b with
                | some e' => exact hI.low b hb (by rw [hι]; simp)
                | none => have := hL.new b hne hι; omega
      · cases hq
    · cases hq
  · cases hq
end Go.AI
