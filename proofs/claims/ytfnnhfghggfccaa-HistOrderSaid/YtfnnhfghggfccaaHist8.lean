/-
  Own work. The histories' laws: HistSteps, HistRuns.
-/
import Derived.Test.YtfnnhfghggfccaaHist7
namespace Go.AI
open Go
set_option linter.unusedVariables false
set_option linter.unusedSimpArgs false
namespace Hist
open Kit
theorem a0 (a : Act) : dInt .i64 (encAct a) 0 = some a.kind := rfl
theorem a1 (a : Act) : dInt .i64 (encAct a) 1 = some a.core := rfl
theorem a2 (a : Act) : dInt .i64 (encAct a) 2 = some a.now := rfl
theorem a3 (a : Act) : dInt .i64 (encAct a) 3 = some a.c.kind := rfl
theorem a4 (a : Act) : dInt .u64 (encAct a) 4 = some a.c.a := rfl
theorem a5 (a : Act) : dInt .u64 (encAct a) 5 = some a.c.b := rfl
theorem a6 (a : Act) : dInt .i64 (encAct a) 6 = some a.c.rights := rfl
theorem a7 (a : Act) : dInt .i64 (encAct a) 7 = some a.c.badge := rfl
theorem a8 (a : Act) : dInt .i64 (encAct a) 8 = some a.c.ty := rfl
theorem a9 (a : Act) : dInt .i64 (encAct a) 9 = some a.c.size := rfl
theorem a10 (a : Act) : dInt .i64 (encAct a) 10 = some a.c.value := rfl
theorem a11 (a : Act) : dInt .i64 (encAct a) 11 = some a.r.code := rfl
theorem a12 (a : Act) : dInt .i64 (encAct a) 12 = some a.r.value := rfl
theorem a13 (a : Act) : dInt .i64 (encAct a) 13 = some a.r.badge := rfl
theorem a14 (a : Act) : dBool (encAct a) 14 = some a.r.cap := rfl
theorem a15 (a : Act) : dInt .i64 (encAct a) 15 = some a.e.kind := rfl
theorem a16 (a : Act) : dInt .i64 (encAct a) 16 = some a.e.core := rfl
theorem a17 (a : Act) : dInt .i64 (encAct a) 17 = some a.e.call.kind := rfl
theorem a18 (a : Act) : dInt .u64 (encAct a) 18 = some a.e.call.a := rfl
theorem a19 (a : Act) : dInt .u64 (encAct a) 19 = some a.e.call.b := rfl
theorem a20 (a : Act) : dInt .i64 (encAct a) 20 = some a.e.call.rights := rfl
theorem a21 (a : Act) : dInt .i64 (encAct a) 21 = some a.e.call.badge := rfl
theorem a22 (a : Act) : dInt .i64 (encAct a) 22 = some a.e.call.ty := rfl
theorem a23 (a : Act) : dInt .i64 (encAct a) 23 = some a.e.call.size := rfl
theorem a24 (a : Act) : dInt .i64 (encAct a) 24 = some a.e.call.value := rfl
theorem a25 (a : Act) : dInt .i64 (encAct a) 25 = some a.e.stamp := rfl
theorem a26 (a : Act) : dLst 5 (encAct a) 26 = some (a.e.dones.map encDon) := rfl
def small (h : H) : Prop := h.sp.length ≤ 60 ∧ h.ev.length ≤ 60 ∧ ∀ e ∈ h.ev, e.dones.length ≤ 10
instance (h : H) : Decidable (small h) := inferInstanceAs (Decidable (h.sp.length ≤ 60 ∧ h.ev.length ≤ 60 ∧ ∀ e ∈ h.ev, e.dones.length ≤ 10))
theorem small_ok (h : H) : law18_small.R (h.sp.map encSpan) (h.ev.map encEv) = some (decide (small h), ()) := by
  refine law18_small.start _ _ _ ?_
  simp only [List.length_map, cond_ite, decide_eq_true_eq]
  by_cases h1 : h.sp.length ≤ 60
  · by_cases h2 : h.ev.length ≤ 60
    · rw [if_neg (by omega), if_neg (by omega)]
      have key : ∀ m i : Nat, i + m = h.ev.length → (∀ j, ∀ hj : j < h.ev.length, j < i → h.ev[j].dones.length ≤ 10) → law18_small.H5 i (h.sp.map encSpan) (h.ev.map encEv) (decide (small h), ()) := by
        intro m
        induction m with
        | zero =>
          intro i hi hj
          refine law18_small.H5_step _ _ _ _ ?_
          simp only [List.length_map, cond_ite, decide_eq_true_eq]
          rw [if_neg (by omega), decide_eq_true]
          refine ⟨h1, h2, fun e he => ?_⟩
          obtain ⟨j, hjl, rfl⟩ := List.getElem_of_mem he
          exact hj j hjl (by omega)
        | succ m ih =>
          intro i hi hj
          refine law18_small.H5_step _ _ _ _ ?_
          have hil : i < h.ev.length := by omega
          simp only [List.length_map, cond_ite, decide_eq_true_eq, needs_nat, Int.toNat_natCast, map_get _ _ _ hil, optAll_so, e11, wrap_succ (show i < 4611686018427387904 by omega)]
          rw [if_pos (by omega)]
          split
          · rw [decide_eq_false]
            intro hs
            have := hs.2.2 _ (List.getElem_mem hil)
            omega
          · refine ih (i + 1) (by omega) fun j hjl hji => ?_
            by_cases e : j = i
            · subst e; omega
            · exact hj j hjl (by omega)
      exact key h.ev.length 0 (by omega) fun j _ hj => absurd hj (by omega)
    · rw [if_neg (by omega), if_pos (by omega), decide_eq_false]
      intro hs; exact h2 hs.2.1
  · rw [if_pos (by omega), decide_eq_false]
    intro hs; exact h1 hs.1
theorem small_few {h : H} (hs : small h) : fewDones h.ev := fun e he => by have := hs.2.2 e he; omega
theorem enc_res (r : H × Int) : encRes r = ((r.1.sp.map encSpan, (r.1.ev.map encEv, ())), (r.2, ())) := rfl
theorem steps_law (h k : H) (a : Act) : law18_HistSteps.R (h.sp.map encSpan) (h.ev.map encEv) (k.sp.map encSpan) (k.ev.map encEv) a.kind a.core a.now a.c.kind a.c.a a.c.b a.c.rights a.c.badge a.c.ty a.c.size a.c.value a.r.code a.r.value a.r.badge a.r.cap a.e.kind a.e.core a.e.call.kind a.e.call.a a.e.call.b a.e.call.rights a.e.call.badge a.e.call.ty a.e.call.size a.e.call.value a.e.stamp (a.e.dones.map encDon) = some (true, ()) := by
  refine law18_HistSteps.start _ _ _ _ _ _ _ _ _ _ _ _ _ _ _ _ _ _ _ _ _ _ _ _ _ _ _ _ _ _ _ _ ?_
  simp only [small_ok, live_ok, optAll_so]
  by_cases h1 : small h
  · by_cases h2 : small k
    · by_cases h3 : a.e.dones.length ≤ 10
      · have hd := does_size h a
        have hf := does_few h a (small_few h1) h3
        have h1' := h1
        obtain ⟨l1, l2, l3⟩ := h1'
        rw [decide_eq_true h1, decide_eq_true h2, decide_eq_false (by simp; omega)]
        simp only [Bool.not_true, cond_false, does_ok h a (by omega) (by omega), doc_ok h a (by omega) (by omega), optAll_so, enc_res, pend_ok h a.core (show h.sp.length < 1000000 by omega), ref_pend_ok h a.core (show h.sp.length < 1000000 by omega),
          ref_same_ok (does h a).1 (does h a).1 (by omega) (by omega) hf, decide_true, cond_true, beq_self_eq_true, check_ok h (by omega) (by omega), is_ok h (by omega) (by omega), num_ok, same_ok h k (by omega) (by omega) (small_few h1), ref_same_ok h k (by omega) (by omega) (small_few h1)]
        by_cases ho : Ok h
        · rw [if_pos ho, decide_eq_true ho]; exact True.intro
        · rw [if_neg ho, decide_eq_false ho]; exact True.intro
      · rw [decide_eq_true h1, decide_eq_true h2, decide_eq_true (by simp; omega)]; exact True.intro
    · rw [decide_eq_true h1, decide_eq_false h2]; exact True.intro
  · rw [decide_eq_false h1]; exact True.intro
theorem runs_loop (l : List Act) (hl : l.length ≤ 60) : ∀ (m i : Nat) (h : H), i + m = l.length → Ok h → h.sp.length ≤ i → h.ev.length ≤ i → fewDones h.ev →
    law18_HistRuns.H6 (l.map encAct) i (h.sp.map encSpan) (h.ev.map encEv) (h.sp.map encSpan) (h.ev.map encEv) (true, ()) := by
  intro m
  induction m with
  | zero =>
    intro i h hi ho h1 h2 h3
    refine law18_HistRuns.H6_step _ _ _ _ _ _ _ ?_
    simp only [List.length_map, cond_ite, decide_eq_true_eq, live_ok, optAll_so]
    rw [if_neg (by omega)]
    exact True.intro
  | succ m ih =>
    intro i h hi ho h1 h2 h3
    refine law18_HistRuns.H6_step _ _ _ _ _ _ _ ?_
    have hil : i < l.length := by omega
    have hin : decide ((i : Int) < (((l.map encAct).length : Nat) : Int)) = true := decide_eq_true (by simp; omega)
    generalize hp : l[i] = a
    have hg : (l.map encAct)[i]? = some (encAct a) := by rw [map_get _ _ _ hil, hp]
    have hd := does_size h a
    have hk := does_keeps ho a
    simp only [hin, cond_true, needs_nat, Int.toNat_natCast, hg, optAll_so, a0, a1, a2, a3, a4, a5, a6, a7, a8, a9, a10, a11, a12, a13, a14, a15, a16, a17, a18, a19, a20, a21, a22, a23, a24, a25, a26, live_ok]
    by_cases h4 : a.e.dones.length ≤ 10
    · have hf := does_few h a h3 h4
      rw [decide_eq_false (by simp; omega)]
      simp only [cond_false, does_ok h a (by omega) (by omega), doc_ok h a (by omega) (by omega), optAll_so, enc_res, ref_same_ok (does h a).1 (does h a).1 (by omega) (by omega) hf, decide_true, Bool.not_true, bne_self_eq_false, check_ok (does h a).1 (by omega) (by omega), num_ok, if_pos hk, wrap_succ (show i < 4611686018427387904 by omega)]
      exact ih (i + 1) _ (by omega) hk (by omega) (by omega) hf
    · rw [decide_eq_true (by simp; omega)]; exact True.intro
theorem ok_empty : Ok ⟨[], []⟩ := ⟨fun i hi => absurd hi (by simp), fun i hi => absurd hi (by simp)⟩
theorem runs_law (l : List Act) : law18_HistRuns.R (l.map encAct) = some (true, ()) := by
  refine law18_HistRuns.start _ _ ?_
  simp only [List.length_map, cond_ite, decide_eq_true_eq, live_ok, optAll_so]
  by_cases h : l.length ≤ 60
  · rw [if_neg (by omega)]
    exact runs_loop l h l.length 0 ⟨[], []⟩ (by omega) ok_empty (by simp) (by simp) (fun e he => by simp at he)
  · rw [if_pos (by omega)]; exact True.intro
end Hist
end Go.AI
