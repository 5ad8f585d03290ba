/-
  Own work. The histories' functions: the document's 'Is'; equality on both sides; the open span.
-/
import Derived.Test.YtfnnhfghggfccaaHist3
namespace Go.AI
open Go
set_option linter.unusedVariables false
set_option linter.unusedSimpArgs false
namespace Hist
open Kit
theorem evB_eq (e : Event) (l : List Event) : evB e l = (!decide (e.kind < 0) && (!decide (e.kind > 3) && (decide (isCore e.core) && (!decide (e.stamp < 1) && (l[l.length - 1]?).all fun x => !decide (e.stamp ≤ x.stamp))))) := by
  have e1 : decide (0 ≤ e.kind) = !decide (e.kind < 0) := by rw [Bool.eq_iff_iff]; simp
  have e2 : decide (e.kind ≤ 3) = !decide (e.kind > 3) := by rw [Bool.eq_iff_iff]; simp
  have e3 : decide (1 ≤ e.stamp) = !decide (e.stamp < 1) := by rw [Bool.eq_iff_iff]; simp
  have e4 : (fun x : Event => decide (e.stamp > x.stamp)) = fun x => !decide (e.stamp ≤ x.stamp) := by
    funext x; rw [Bool.eq_iff_iff]; simp
  unfold evB
  rw [e1, e2, e3, e4]
  generalize (!decide (e.kind < 0)) = b1
  generalize (!decide (e.kind > 3)) = b2
  generalize decide (isCore e.core) = b3
  generalize (!decide (e.stamp < 1)) = b4
  generalize ((l[l.length - 1]?).all _) = b5
  revert b1 b2 b3 b4 b5
  decide
theorem ev_step (l : List Event) (i : Nat) (hi : i < l.length) (hl : l.length < 1000000) (b : List (List DV)) (c : Bool × Unit)
    (hN : evB l[i] (l.take i) = true → ref18_Is.H12 ((i + 1 : Nat) : Int) b (l.map encEv) c) (hF : evB l[i] (l.take i) = false → c = (false, ())) : ref18_Is.H12 i b (l.map encEv) c := by
  refine ref18_Is.H12_step _ _ _ _ ?_
  have hlen : (l.take i).length = i := by simp; omega
  generalize hs : l[i] = s at hN hF
  rw [evB_eq] at hN hF
  have hin : decide ((i : Int) < (((l.map encEv).length : Nat) : Int)) = true := decide_eq_true (by simp; omega)
  simp only [hin, cond_true, needs_nat, Int.toNat_natCast, map_get _ _ _ hi, hs, optAll_so, e0, e1, e2, e3, e4, e5, e6, e7, e8, e9, e10, e11, ref_core_ok, wrap_succ (show i < 4611686018427387904 by omega)]
  have hm : ((l.take i)[(l.take i).length - 1]?).all (fun x => !decide (s.stamp ≤ x.stamp)) = (decide (i = 0) || ((l[i - 1]?).all fun x => !decide (s.stamp ≤ x.stamp))) := by
    rw [hlen]
    by_cases h0 : i = 0
    · subst h0; simp
    · rw [List.getElem?_take, if_pos (by omega), List.getElem?_eq_getElem (by omega), decide_eq_false h0]
      simp only [Option.all_some, Bool.false_or]
  rw [hm] at hN hF
  generalize decide (s.kind < 0) = q at hN hF ⊢; cases q <;> try exact hF rfl
  generalize decide (s.kind > 3) = q at hN hF ⊢; cases q <;> try exact hF rfl
  generalize decide (isCore s.core) = q at hN hF ⊢; cases q
  · exact hF rfl
  generalize decide (s.stamp < 1) = q at hN hF ⊢; cases q <;> try exact hF rfl
  by_cases h0 : i = 0
  · have hn0 : decide ((i : Int) > 0) = false := decide_eq_false (by omega)
    rw [decide_eq_true h0] at hN hF
    simp only [hn0, cond_false]
    exact hN rfl
  · have hw : IntKind.i64.wrap ((i : Int) - 1) = ((i - 1 : Nat) : Int) := wrap_pred (by omega) (by omega)
    have hn0 : decide ((i : Int) > 0) = true := decide_eq_true (by omega)
    rw [decide_eq_false h0, List.getElem?_eq_getElem (show i - 1 < l.length by omega)] at hN hF
    simp only [hn0, hw, needs_nat, Int.toNat_natCast, map_get _ _ _ (show i - 1 < l.length by omega), optAll_so, e10, cond_true]
    simp only [Option.all_some] at hN hF
    generalize decide (s.stamp ≤ l[i - 1].stamp) = q at hN hF ⊢; cases q
    · exact hN rfl
    · exact hF rfl
theorem is_ok (h : H) (hl : h.sp.length < 1000000) (he : h.ev.length < 1000000) : ref18_Is.R (h.sp.map encSpan) (h.ev.map encEv) = some (decide (Ok h), ()) := by
  refine ref18_Is.start _ _ _ ?_
  have evs : ∀ m i : Nat, i + m = h.ev.length → (∀ i, ∀ hi : i < h.sp.length, spanB h.sp[i] (h.sp.take i) = true) → (∀ j, j < i → ∀ hj : j < h.ev.length, evB h.ev[j] (h.ev.take j) = true) →
      ref18_Is.H12 i (h.sp.map encSpan) (h.ev.map encEv) (decide (Ok h), ()) := by
    intro m
    induction m with
    | zero =>
      intro i hi hs hj
      refine ref18_Is.H12_step _ _ _ _ ?_
      simp only [cond_ite, decide_eq_true_eq, List.length_map]
      have hok : Ok h := ⟨hs, fun i hi => hj i (by omega) hi⟩
      rw [if_neg (by omega), decide_eq_true hok]
    | succ m ih =>
      intro i hi hs hj
      refine ev_step _ i (by omega) he _ _ (fun hb => ih (i + 1) (by omega) hs fun j hj1 hj2 => ?_) fun hb => ?_
      · by_cases hji : j = i
        · subst hji; exact hb
        · exact hj j (by omega) hj2
      · rw [decide_eq_false fun hok : Ok h => by rw [hok.2 i (by omega)] at hb; cases hb]
  have sps : ∀ m i : Nat, i + m = h.sp.length → (∀ j, j < i → ∀ hj : j < h.sp.length, spanB h.sp[j] (h.sp.take j) = true) →
      ref18_Is.H3 i (h.sp.map encSpan) (h.ev.map encEv) (decide (Ok h), ()) := by
    intro m
    induction m with
    | zero =>
      intro i hi hj
      refine ref18_Is.H3_step _ _ _ _ ?_
      simp only [cond_ite, decide_eq_true_eq, List.length_map]
      rw [if_neg (by omega)]
      exact evs h.ev.length 0 (by omega) (fun i hi => hj i (by omega) hi) (fun j hj => absurd hj (by omega))
    | succ m ih =>
      intro i hi hj
      refine is_step _ i (by omega) hl _ _ (fun hb => ih (i + 1) (by omega) fun j hj1 hj2 => ?_) fun hb => ?_
      · by_cases hji : j = i
        · subst hji; exact hb
        · exact hj j (by omega) hj2
      · rw [decide_eq_false fun hok : Ok h => by rw [hok.1 i (by omega)] at hb; cases hb]
  exact sps h.sp.length 0 (by omega) fun j hj => absurd hj (by omega)
theorem dones_ok (a b : List Don) (ha : a.length < 1000000) : ref17_Dones.R (a.map encDon) (b.map encDon) = some (decide (a = b), ()) := by
  refine ref17_Dones.start _ _ _ ?_
  simp only [List.length_map, cond_ite, bne_iff_ne]
  by_cases hl : a.length = b.length
  · rw [if_neg (by omega)]
    refine eq_loop a b (fun i c => ref17_Dones.H5 (a.map encDon) (b.map encDon) i c) hl fun i c h1 h2 => ?_
    refine ref17_Dones.H5_step _ _ _ _ ?_
    by_cases hi : i < a.length
    · obtain ⟨g1, g2⟩ := h1 hi
      simp only [List.length_map, cond_ite, decide_eq_true_eq, needs_nat, Int.toNat_natCast, map_get _ _ _ hi, map_get _ _ _ (hl ▸ hi), optAll_so, d0, d1, d2, d3, d4, eqDon, Bool.not_eq_true', decide_eq_false_iff_not, wrap_succ (show i < 4611686018427387904 by omega)]
      rw [if_pos (by omega)]
      split
      · rename_i h; exact g2 h
      · rename_i h; exact g1 (Decidable.not_not.1 h)
    · simp only [List.length_map, cond_ite, decide_eq_true_eq]
      rw [if_neg (by omega)]
      exact h2 (by omega)
  · rw [if_pos (by omega), decide_eq_false]
    intro e; subst e; exact hl rfl
theorem sdones_ok (a b : List Don) (ha : a.length < 1000000) : slices_Equal_api_Done_api_Done.R (a.map encDon) (b.map encDon) = some (decide (a = b), ()) := by
  refine slices_Equal_api_Done_api_Done.start _ _ _ ?_
  simp only [List.length_map, cond_ite, bne_iff_ne]
  by_cases hl : a.length = b.length
  · rw [if_neg (by omega)]
    refine eq_loop a b (fun i c => slices_Equal_api_Done_api_Done.H5 (a.map encDon) (b.map encDon) a.length i c) hl fun i c h1 h2 => ?_
    refine slices_Equal_api_Done_api_Done.H5_step _ _ _ _ _ ?_
    by_cases hi : i < a.length
    · obtain ⟨g1, g2⟩ := h1 hi
      simp only [List.length_map, cond_ite, decide_eq_true_eq, needs_nat, Int.toNat_natCast, map_get _ _ _ hi, map_get _ _ _ (hl ▸ hi), optAll_so, d0, d1, d2, d3, d4, eqDon, Bool.not_eq_true', decide_eq_false_iff_not, wrap_succ (show i < 4611686018427387904 by omega)]
      rw [if_pos (by omega)]
      split
      · rename_i h; exact g2 h
      · rename_i h; exact g1 (Decidable.not_not.1 h)
    · simp only [List.length_map, cond_ite, decide_eq_true_eq]
      rw [if_neg (by omega)]
      exact h2 (by omega)
  · rw [if_pos (by omega), decide_eq_false]
    intro e; subst e; exact hl rfl
theorem sspans_ok (a b : List Span) (ha : a.length < 1000000) : slices_Equal_api_Span_api_Span.R (a.map encSpan) (b.map encSpan) = some (decide (a = b), ()) := by
  refine slices_Equal_api_Span_api_Span.start _ _ _ ?_
  simp only [List.length_map, cond_ite, bne_iff_ne]
  by_cases hl : a.length = b.length
  · rw [if_neg (by omega)]
    refine eq_loop a b (fun i c => slices_Equal_api_Span_api_Span.H5 (a.map encSpan) (b.map encSpan) a.length i c) hl fun i c h1 h2 => ?_
    refine slices_Equal_api_Span_api_Span.H5_step _ _ _ _ _ ?_
    by_cases hi : i < a.length
    · obtain ⟨g1, g2⟩ := h1 hi
      simp only [List.length_map, cond_ite, decide_eq_true_eq, needs_nat, Int.toNat_natCast, map_get _ _ _ hi, map_get _ _ _ (hl ▸ hi), optAll_so, s0, s1, s2, s3, s4, s5, s6, s7, s8, s9, s10, s11, s12, s13, s14, eqSpan, Bool.not_eq_true', decide_eq_false_iff_not, wrap_succ (show i < 4611686018427387904 by omega)]
      rw [if_pos (by omega)]
      split
      · rename_i h; exact g2 h
      · rename_i h; exact g1 (Decidable.not_not.1 h)
    · simp only [List.length_map, cond_ite, decide_eq_true_eq]
      rw [if_neg (by omega)]
      exact h2 (by omega)
  · rw [if_pos (by omega), decide_eq_false]
    intro e; subst e; exact hl rfl
theorem eqEv (x y : Event) : (x.kind = y.kind ∧ x.core = y.core ∧ x.call = y.call ∧ x.stamp = y.stamp ∧ x.dones = y.dones) ↔ x = y := by
  obtain ⟨a, b, c, d, e⟩ := x
  obtain ⟨a', b', c', d', e'⟩ := y
  simp
theorem same1_ok (x y : Event) (hx : x.dones.length < 1000000) : hist_Same_1.R x.kind x.core x.call.kind x.call.a x.call.b x.call.rights x.call.badge x.call.ty x.call.size x.call.value x.stamp (x.dones.map encDon) y.kind y.core y.call.kind y.call.a y.call.b y.call.rights y.call.badge y.call.ty y.call.size y.call.value y.stamp (y.dones.map encDon) = some (decide (x = y), ()) := by
  refine hist_Same_1.start _ _ _ _ _ _ _ _ _ _ _ _ _ _ _ _ _ _ _ _ _ _ _ _ _ ?_
  simp only [eqCall, sdones_ok _ _ hx, optAll_so, cond_ite, beq_iff_eq, decide_eq_true_eq]
  rw [show decide (x = y) = decide (x.kind = y.kind ∧ x.core = y.core ∧ x.call = y.call ∧ x.stamp = y.stamp ∧ x.dones = y.dones) from decide_eq_decide.2 (eqEv x y).symm]
  repeat' split
  all_goals simp [*]
def fewDones (l : List Event) : Prop := ∀ e ∈ l, e.dones.length < 1000000
theorem sevs_ok (a b : List Event) (ha : a.length < 1000000) (hd : fewDones a) : slices_EqualFunc_api_Event_api_Event_api_Event_api_Event__hist_Same_1.R (a.map encEv) (b.map encEv) = some (decide (a = b), ()) := by
  refine slices_EqualFunc_api_Event_api_Event_api_Event_api_Event__hist_Same_1.start _ _ _ ?_
  simp only [List.length_map, cond_ite, bne_iff_ne]
  by_cases hl : a.length = b.length
  · rw [if_neg (by omega)]
    refine eq_loop a b (fun i c => slices_EqualFunc_api_Event_api_Event_api_Event_api_Event__hist_Same_1.H5 (b.map encEv) (a.map encEv) a.length i c) hl fun i c h1 h2 => ?_
    refine slices_EqualFunc_api_Event_api_Event_api_Event_api_Event__hist_Same_1.H5_step _ _ _ _ _ ?_
    by_cases hi : i < a.length
    · obtain ⟨g1, g2⟩ := h1 hi
      simp only [List.length_map, cond_ite, decide_eq_true_eq, needs_nat, Int.toNat_natCast, map_get _ _ _ hi, map_get _ _ _ (hl ▸ hi), optAll_so, e0, e1, e2, e3, e4, e5, e6, e7, e8, e9, e10, e11, same1_ok _ _ (hd _ (List.getElem_mem hi)), Bool.not_eq_true', decide_eq_false_iff_not, wrap_succ (show i < 4611686018427387904 by omega)]
      rw [if_pos (by omega)]
      split
      · rename_i h; exact g2 h
      · rename_i h; exact g1 (Decidable.not_not.1 h)
    · simp only [List.length_map, cond_ite, decide_eq_true_eq]
      rw [if_neg (by omega)]
      exact h2 (by omega)
  · rw [if_pos (by omega), decide_eq_false]
    intro e; subst e; exact hl rfl
theorem eqH (a b : H) : (a.sp = b.sp ∧ a.ev = b.ev) ↔ a = b := by
  cases a; cases b; simp
theorem same_ok (a b : H) (ha : a.sp.length < 1000000) (he : a.ev.length < 1000000) (hd : fewDones a.ev) : hist_Same.R (a.sp.map encSpan) (a.ev.map encEv) (b.sp.map encSpan) (b.ev.map encEv) = some (decide (a = b), ()) := by
  refine hist_Same.start _ _ _ _ _ ?_
  simp only [sspans_ok _ _ ha, sevs_ok _ _ he hd, optAll_so, cond_ite, decide_eq_true_eq]
  rw [show decide (a = b) = decide (a.sp = b.sp ∧ a.ev = b.ev) from decide_eq_decide.2 (eqH a b).symm]
  split <;> simp [*]
end Hist
end Go.AI
