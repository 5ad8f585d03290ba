/-
  Own work. The histories' functions: which history may be.
-/
import Derived.Test.YtfnnhfghggfccaaHist1
namespace Go.AI
open Go
set_option linter.unusedVariables false
set_option linter.unusedSimpArgs false
namespace Hist
open Kit
/-- The last span of a core. -/
def prevOf (l : List Span) (c : Int) : Option Span := if down l c l.length < 0 then none else l[(down l c l.length).toNat]?
def monoB (l : List Span) (t : Int) : Bool := (l[l.length - 1]?).all fun x => decide (x.st ≤ t)
def freeB (l : List Span) (c t : Int) : Bool := (prevOf l c).all fun x => decide (x.en ≠ 0 ∧ x.en < t)
def spanB (s : Span) (l : List Span) : Bool :=
  decide (isCore s.core) && decide (1 ≤ s.st) && decide (s.en ≠ 0 → s.st ≤ s.en) && decide (s.en = 0 → s.rep = rep0) && monoB l s.st && freeB l s.core s.st
theorem down_cases (l : List Span) (c : Int) : (down l c l.length < 0 ∧ prevOf l c = none) ∨ ∃ k : Nat, ∃ h : k < l.length, down l c l.length = k ∧ prevOf l c = some l[k] := by
  by_cases h : down l c l.length < 0
  · exact .inl ⟨h, by unfold prevOf; rw [if_pos h]⟩
  · have := down_lt l c l.length
    obtain ⟨k, hk⟩ : ∃ k : Nat, down l c l.length = k := ⟨(down l c l.length).toNat, by omega⟩
    have hkl : k < l.length := by omega
    refine .inr ⟨k, hkl, hk, ?_⟩
    unfold prevOf
    rw [if_neg h, hk]
    simp [hkl]
theorem needs_nat (k : Nat) (p : Prop) : needs ((0 : Int) ≤ (k : Int)) p = p := by
  rw [needs_iff]; exact propext ⟨fun h => h.2, fun h => ⟨Int.natCast_nonneg k, h⟩⟩
theorem isSpan_ok (s : Span) (l : List Span) (hl : l.length < 1000000) : hist_isSpan.R s.core s.call.kind s.call.a s.call.b s.call.rights s.call.badge s.call.ty s.call.size s.call.value s.st s.en s.rep.code s.rep.value s.rep.badge s.rep.cap (l.map encSpan) = some (spanB s l, ()) := by
  refine hist_isSpan.start _ _ _ _ _ _ _ _ _ _ _ _ _ _ _ _ _ ?_
  simp only [core_ok, of_ok l s.core hl, optAll_so, eqRep0]
  have tail : ∀ (b : Bool × Unit), b = (monoB l s.st && freeB l s.core s.st, ()) → (cond (decide ((((l.map encSpan).length : Nat) : Int) > (0 : Int)))
      (needs ((0 : Int) ≤ (IntKind.i64.wrap ((((l.map encSpan).length : Nat) : Int) - (1 : Int)))) (
        optAll ((l.map encSpan)[(Int.toNat (IntKind.i64.wrap ((((l.map encSpan).length : Nat) : Int) - (1 : Int))))]?) fun (r1 : List DV) =>
        optAll ((dInt IntKind.i64 r1 9)) fun (z2 : Int) =>
        cond (decide ((s.st < z2))) (b = (false, ())) (b = (freeB l s.core s.st, ()))))
      (b = (freeB l s.core s.st, ()))) := by
    intro b hb
    subst hb
    by_cases h0 : l.length = 0
    · have : l = [] := List.length_eq_zero_iff.1 h0
      subst this
      simp [monoB]
    · have hw : IntKind.i64.wrap ((l.length : Int) - 1) = ((l.length - 1 : Nat) : Int) := wrap_pred (by omega) (by omega)
      simp only [List.length_map, hw, Int.toNat_natCast, map_get _ _ _ (by omega : l.length - 1 < l.length), optAll_so, s9, cond_ite, decide_eq_true_eq, needs_iff]
      rw [if_pos (by omega)]
      refine ⟨by omega, ?_⟩
      unfold monoB
      rw [List.getElem?_eq_getElem (by omega)]
      simp only [Option.all_some]
      split
      · rw [decide_eq_false (by omega)]; simp
      · rw [decide_eq_true (by omega)]; simp
  have free : ∀ (b : Bool × Unit), (b = (freeB l s.core s.st, ())) = _ := fun b => rfl
  by_cases h1' : ¬ isCore s.core
  · simp [h1', spanB]
  have h1 : isCore s.core := Decidable.not_not.1 h1'
  by_cases h2 : s.st < 1
  · simp [h1, h2, spanB]; omega
  have h2' : 1 ≤ s.st := by omega
  rcases down_cases l s.core with ⟨hd, hp⟩ | ⟨k, hk, hd, hp⟩
  · have hf : freeB l s.core s.st = true := by unfold freeB; rw [hp]; rfl
    simp only [hd, decide_true, cond_true]
    rw [hf] at tail
    by_cases h3 : s.en = 0
    · by_cases h4 : s.rep = rep0
      · simp only [h1, h2, h3, h4, decide_true, decide_false, Bool.not_true, cond_false, cond_true, bne_self_eq_false, beq_self_eq_true]
        refine tail _ ?_
        simp [spanB, h1, h2', h3, h4, hf]
      · simp [h1, h2, h3, h4, spanB]
    · by_cases h4 : s.en < s.st
      · simp [h1, h2, h3, h4, spanB]; omega
      · have e1 : (s.en != 0) = true := by simpa using h3
        have e2 : (s.en == 0) = false := by simpa using h3
        simp only [h1, h2, e1, e2, h4, decide_true, decide_false, Bool.not_true, cond_false, cond_true]
        refine tail _ ?_
        have h5 : s.st ≤ s.en := by omega
        simp [spanB, h1, h2', h3, h5, hf]
  · have hf : freeB l s.core s.st = decide (ahead l[k] s) := by unfold freeB; rw [hp]; rfl
    rw [hf] at tail
    have hn : decide ((k : Int) < 0) = false := decide_eq_false (by omega)
    simp only [hd, hn, cond_false, needs_nat, Int.toNat_natCast, map_get _ _ _ hk, optAll_so, s0, s1, s2, s3, s4, s5, s6, s7, s8, s9, s10, s11, s12, s13, s14, ahead_ok]
    by_cases h3 : s.en = 0
    · by_cases h4 : s.rep = rep0
      · simp only [h1, h2, h3, h4, decide_true, decide_false, Bool.not_true, cond_false, cond_true, bne_self_eq_false, beq_self_eq_true]
        refine tail _ ?_
        simp [spanB, h1, h2', h3, h4, hf]
      · simp [h1, h2, h3, h4, spanB]
    · by_cases h4 : s.en < s.st
      · simp [h1, h2, h3, h4, spanB]; omega
      · have e1 : (s.en != 0) = true := by simpa using h3
        have e2 : (s.en == 0) = false := by simpa using h3
        simp only [h1, h2, e1, e2, h4, decide_true, decide_false, Bool.not_true, cond_false, cond_true]
        refine tail _ ?_
        have h5 : s.st ≤ s.en := by omega
        simp [spanB, h1, h2', h3, h5, hf]
/-- May an event be, behind others? -/
def evB (e : Event) (l : List Event) : Bool :=
  decide (0 ≤ e.kind) && decide (e.kind ≤ 3) && decide (isCore e.core) && decide (1 ≤ e.stamp) && (l[l.length - 1]?).all fun x => decide (e.stamp > x.stamp)
theorem isEvent_ok (e : Event) (l : List Event) (hl : l.length < 1000000) : hist_isEvent.R e.kind e.core e.call.kind e.call.a e.call.b e.call.rights e.call.badge e.call.ty e.call.size e.call.value e.stamp (e.dones.map encDon) (l.map encEv) = some (evB e l, ()) := by
  refine hist_isEvent.start _ _ _ _ _ _ _ _ _ _ _ _ _ _ ?_
  simp only [core_ok, optAll_so]
  by_cases h1 : e.kind < 0
  · have : ¬ 0 ≤ e.kind := by omega
    simp [h1, evB, this]
  have h1' : 0 ≤ e.kind := by omega
  by_cases h2 : e.kind > 3
  · have : ¬ e.kind ≤ 3 := by omega
    simp [h1, h2, evB, this]
  have h2' : e.kind ≤ 3 := by omega
  by_cases h3' : ¬ isCore e.core
  · simp [h1, h2, h3', evB]
  have h3 : isCore e.core := Decidable.not_not.1 h3'
  by_cases h4 : e.stamp < 1
  · have : ¬ 1 ≤ e.stamp := by omega
    simp [h1, h2, h3, h4, evB, this]
  have h4' : 1 ≤ e.stamp := by omega
  by_cases h0 : l.length = 0
  · have : l = [] := List.length_eq_zero_iff.1 h0
    subst this
    simp [h1, h2, h3, h4, evB, h1', h2', h4']
  · have hw : IntKind.i64.wrap ((l.length : Int) - 1) = ((l.length - 1 : Nat) : Int) := wrap_pred (by omega) (by omega)
    have hb : (((l.length : Nat) : Int) == 0) = false := by simpa using h0
    simp only [h1, h2, h3, h4, hb, List.length_map, hw, Int.toNat_natCast, map_get _ _ _ (by omega : l.length - 1 < l.length), optAll_so, e10, decide_true, decide_false, Bool.not_true, cond_false, needs_iff, Int.natCast_nonneg, true_and]
    unfold evB
    rw [List.getElem?_eq_getElem (by omega)]
    simp [h1', h2', h3, h4']
def okB (h : H) : Bool := (List.range h.sp.length).all (fun i => (h.sp[i]?).all fun s => spanB s (h.sp.take i)) && (List.range h.ev.length).all (fun i => (h.ev[i]?).all fun e => evB e (h.ev.take i))
def Ok (h : H) : Prop := (∀ i, ∀ hi : i < h.sp.length, spanB h.sp[i] (h.sp.take i) = true) ∧ ∀ i, ∀ hi : i < h.ev.length, evB h.ev[i] (h.ev.take i) = true
theorem okB_iff (h : H) : okB h = true ↔ Ok h := by
  simp only [okB, Ok, Bool.and_eq_true, List.all_eq_true, List.mem_range]
  constructor
  · rintro ⟨a, b⟩
    refine ⟨fun i hi => ?_, fun i hi => ?_⟩
    · have := a i hi
      rwa [List.getElem?_eq_getElem hi] at this
    · have := b i hi
      rwa [List.getElem?_eq_getElem hi] at this
  · rintro ⟨a, b⟩
    refine ⟨fun i hi => ?_, fun i hi => ?_⟩
    · rw [List.getElem?_eq_getElem hi]; exact a i hi
    · rw [List.getElem?_eq_getElem hi]; exact b i hi
instance (h : H) : Decidable (Ok h) := decidable_of_iff _ (okB_iff h)
theorem check_ok (h : H) (hl : h.sp.length < 1000000) (he : h.ev.length < 1000000) : hist_Check.R (h.sp.map encSpan) (h.ev.map encEv) = some (if Ok h then 0 else 180, ()) := by
  refine hist_Check.start _ _ _ ?_
  have evs : ∀ m i : Nat, i + m = h.ev.length → (∀ i, ∀ hi : i < h.sp.length, spanB h.sp[i] (h.sp.take i) = true) → (∀ j, j < i → ∀ hj : j < h.ev.length, evB h.ev[j] (h.ev.take j) = true) →
      hist_Check.H9 (h.ev.map encEv) h.ev.length i (h.sp.map encSpan) (h.ev.map encEv) (if Ok h then 0 else 180, ()) := by
    intro m
    induction m with
    | zero =>
      intro i hi hs hj
      refine hist_Check.H9_step _ _ _ _ _ _ ?_
      simp only [cond_ite, decide_eq_true_eq]
      rw [if_neg (by omega), if_pos ⟨hs, fun i hi => hj i (by omega) hi⟩]
    | succ m ih =>
      intro i hi hs hj
      refine hist_Check.H9_step _ _ _ _ _ _ ?_
      have hil : i < h.ev.length := by omega
      have hq := isEvent_ok h.ev[i] (h.ev.take i) (by simp; omega)
      rw [List.map_take] at hq
      simp only [cond_ite, decide_eq_true_eq, needs_iff, Int.toNat_natCast, map_get _ _ _ hil, optAll_so, e0, e1, e2, e3, e4, e5, e6, e7, e8, e9, e10, e11, hq, List.length_map]
      rw [if_pos (by omega)]
      refine ⟨by omega, ⟨by omega, by omega, by omega⟩, ?_⟩
      by_cases hb : evB h.ev[i] (h.ev.take i) = true
      · rw [hb]
        simp only [Bool.not_true, Bool.false_eq_true, if_false]
        rw [wrap_succ (by omega)]
        refine ih (i + 1) (by omega) hs fun j hj1 hj2 => ?_
        by_cases hji : j = i
        · subst hji; exact hb
        · exact hj j (by omega) hj2
      · rw [if_pos (by simpa using hb), if_neg fun hok => hb (hok.2 i hil)]
  have sps : ∀ m i : Nat, i + m = h.sp.length → (∀ j, j < i → ∀ hj : j < h.sp.length, spanB h.sp[j] (h.sp.take j) = true) →
      hist_Check.H3 (h.sp.map encSpan) h.sp.length i (h.sp.map encSpan) (h.ev.map encEv) (if Ok h then 0 else 180, ()) := by
    intro m
    induction m with
    | zero =>
      intro i hi hj
      refine hist_Check.H3_step _ _ _ _ _ _ ?_
      simp only [cond_ite, decide_eq_true_eq]
      rw [if_neg (by omega)]
      have := evs h.ev.length 0 (by omega) (fun i hi => hj i (by omega) hi) (fun j hj => absurd hj (by omega))
      rw [List.length_map]
      exact this
    | succ m ih =>
      intro i hi hj
      refine hist_Check.H3_step _ _ _ _ _ _ ?_
      have hil : i < h.sp.length := by omega
      have hq := isSpan_ok h.sp[i] (h.sp.take i) (by simp; omega)
      rw [List.map_take] at hq
      simp only [cond_ite, decide_eq_true_eq, needs_iff, Int.toNat_natCast, map_get _ _ _ hil, optAll_so, s0, s1, s2, s3, s4, s5, s6, s7, s8, s9, s10, s11, s12, s13, s14, hq, List.length_map]
      rw [if_pos (by omega)]
      refine ⟨by omega, ⟨by omega, by omega, by omega⟩, ?_⟩
      by_cases hb : spanB h.sp[i] (h.sp.take i) = true
      · rw [hb]
        simp only [Bool.not_true, Bool.false_eq_true, if_false]
        rw [wrap_succ (by omega)]
        refine ih (i + 1) (by omega) fun j hj1 hj2 => ?_
        by_cases hji : j = i
        · subst hji; exact hb
        · exact hj j (by omega) hj2
      · rw [if_pos (by simpa using hb), if_neg fun hok => hb (hok.1 i hil)]
  have := sps h.sp.length 0 (by omega) fun j hj => absurd hj (by omega)
  rw [List.length_map]
  exact this
end Hist
end Go.AI
