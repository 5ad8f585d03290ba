/-
  Own work. The histories' functions: the document's side; equality.
-/
import Derived.Test.YtfnnhfghggfccaaHist2
namespace Go.AI
open Go
set_option linter.unusedVariables false
set_option linter.unusedSimpArgs false
namespace Hist
open Kit
theorem down_take (l : List Span) (c : Int) (i : Nat) : ∀ n, n ≤ i → down (l.take i) c n = down l c n := by
  intro n
  induction n with
  | zero => intro _; rfl
  | succ n ih =>
    intro h
    have e : (l.take i)[n]? = l[n]? := by rw [List.getElem?_take, if_pos (by omega)]
    rw [down, down, ih (by omega), e]
theorem needs_nat' (k : Nat) (p : Prop) : needs ((0 : Int) ≤ (k : Int)) p ↔ p := by rw [needs_nat]
theorem spanB_eq (s : Span) (l : List Span) : spanB s l = (decide (isCore s.core) && (!decide (s.st < 1) && (monoB l s.st && ((s.en == 0 || !decide (s.en < s.st)) && ((!(s.en == 0) || decide (s.rep = rep0)) && freeB l s.core s.st))))) := by
  have e1 : decide (1 ≤ s.st) = !decide (s.st < 1) := by rw [Bool.eq_iff_iff]; simp
  have e2 : decide (s.en ≠ 0 → s.st ≤ s.en) = (s.en == 0 || !decide (s.en < s.st)) := by
    rw [Bool.eq_iff_iff]; by_cases h : s.en = 0 <;> simp [h]
  have e3 : decide (s.en = 0 → s.rep = rep0) = (!(s.en == 0) || decide (s.rep = rep0)) := by
    rw [Bool.eq_iff_iff]; by_cases h : s.en = 0 <;> simp [h]
  unfold spanB
  rw [e1, e2, e3]
  generalize decide (isCore s.core) = b1
  generalize decide (s.st < 1) = b2
  generalize monoB l s.st = b3
  generalize (s.en == 0 || !decide (s.en < s.st)) = b4
  generalize (!(s.en == 0) || decide (s.rep = rep0)) = b5
  generalize freeB l s.core s.st = b6
  revert b1 b2 b3 b4 b5 b6
  decide
theorem is_step (l : List Span) (i : Nat) (hi : i < l.length) (hl : l.length < 1000000) (b : List (List DV)) (c : Bool × Unit)
    (hN : spanB l[i] (l.take i) = true → ref18_Is.H3 ((i + 1 : Nat) : Int) (l.map encSpan) b c) (hF : spanB l[i] (l.take i) = false → c = (false, ())) : ref18_Is.H3 i (l.map encSpan) b c := by
  refine ref18_Is.H3_step _ _ _ _ ?_
  have hlen : (l.take i).length = i := by simp; omega
  generalize hs : l[i] = s at hN hF
  rw [spanB_eq] at hN hF
  have hL := last_ok l s.core i (by omega) hl
  have hin : decide ((i : Int) < (((l.map encSpan).length : Nat) : Int)) = true := decide_eq_true (by simp; omega)
  simp only [hin, cond_true, needs_nat, Int.toNat_natCast, map_get _ _ _ hi, hs, optAll_so, s0, s1, s2, s3, s4, s5, s6, s7, s8, s9, s10, s11, s12, s13, s14, ref_core_ok, eqRep0, hL, wrap_succ (show i < 4611686018427387904 by omega), bne]
  have hdt : down (l.take i) s.core (l.take i).length = down l s.core i := by rw [hlen]; exact down_take _ _ _ _ (Nat.le_refl _)
  have hm : monoB (l.take i) s.st = (decide (i = 0) || ((l[i - 1]?).all fun x => !decide (s.st < x.st))) := by
    unfold monoB
    rw [hlen]
    by_cases h0 : i = 0
    · subst h0; simp
    · rw [List.getElem?_take, if_pos (by omega), List.getElem?_eq_getElem (by omega), decide_eq_false h0]
      simp only [Option.all_some, Bool.false_or]
      rw [Bool.eq_iff_iff]; simp
  rw [hm] at hN hF
  rcases down_cases (l.take i) s.core with ⟨hd, hp⟩ | ⟨k, hk, hd, hp⟩ <;> rw [hdt] at hd
  · have hf : freeB (l.take i) s.core s.st = true := by unfold freeB; rw [hp]; rfl
    have hn : decide (down l s.core i ≥ 0) = false := decide_eq_false (by omega)
    rw [hf] at hN hF
    simp only [hn, cond_false]
    by_cases h0 : i = 0
    · have hn0 : decide ((i : Int) > 0) = false := decide_eq_false (by omega)
      rw [decide_eq_true h0] at hN hF
      simp only [hn0, cond_false]
      generalize decide (isCore s.core) = q at hN hF ⊢; cases q
      · exact hF rfl
      generalize decide (s.st < 1) = q at hN hF ⊢; cases q <;> try exact hF rfl
      generalize (s.en == 0) = q at hN hF ⊢; cases q
      · generalize decide (s.en < s.st) = q at hN hF ⊢; cases q
        · exact hN rfl
        · exact hF rfl
      · generalize decide (s.rep = rep0) = q at hN hF ⊢; cases q
        · exact hF rfl
        · exact hN rfl
    · have hw : IntKind.i64.wrap ((i : Int) - 1) = ((i - 1 : Nat) : Int) := wrap_pred (by omega) (by omega)
      have hn0 : decide ((i : Int) > 0) = true := decide_eq_true (by omega)
      rw [decide_eq_false h0, List.getElem?_eq_getElem (show i - 1 < l.length by omega)] at hN hF
      simp only [hn0, hw, needs_nat, Int.toNat_natCast, map_get _ _ _ (show i - 1 < l.length by omega), optAll_so, s9, cond_true]
      simp only [Option.all_some] at hN hF
      generalize decide (isCore s.core) = q at hN hF ⊢; cases q
      · exact hF rfl
      generalize decide (s.st < 1) = q at hN hF ⊢; cases q <;> try exact hF rfl
      generalize decide (s.st < l[i - 1].st) = q at hN hF ⊢; cases q <;> try exact hF rfl
      generalize (s.en == 0) = q at hN hF ⊢; cases q
      · generalize decide (s.en < s.st) = q at hN hF ⊢; cases q
        · exact hN rfl
        · exact hF rfl
      · generalize decide (s.rep = rep0) = q at hN hF ⊢; cases q
        · exact hF rfl
        · exact hN rfl
  · have hkl : k < l.length := by omega
    have hgk : (l.take i)[k] = l[k] := by simp
    have hf : freeB (l.take i) s.core s.st = (!(l[k].en == 0) && !decide (l[k].en ≥ s.st)) := by
      unfold freeB; rw [hp, hgk]
      rw [Bool.eq_iff_iff]; simp
    have hn : decide ((k : Int) ≥ 0) = true := decide_eq_true (by omega)
    rw [hf] at hN hF
    simp only [hd, hn, cond_true, needs_nat, Int.toNat_natCast, map_get _ _ _ hkl, optAll_so, s9, s10]
    have h0 : ¬ i = 0 := by omega
    have hw : IntKind.i64.wrap ((i : Int) - 1) = ((i - 1 : Nat) : Int) := wrap_pred (by omega) (by omega)
    have hn0 : decide ((i : Int) > 0) = true := decide_eq_true (by omega)
    rw [decide_eq_false h0, List.getElem?_eq_getElem (show i - 1 < l.length by omega)] at hN hF
    simp only [hn0, hw, needs_nat, Int.toNat_natCast, map_get _ _ _ (show i - 1 < l.length by omega), optAll_so, s9, cond_true]
    simp only [Option.all_some] at hN hF
    generalize decide (isCore s.core) = q at hN hF ⊢; cases q
    · exact hF rfl
    generalize decide (s.st < 1) = q at hN hF ⊢; cases q <;> try exact hF rfl
    generalize decide (s.st < l[i - 1].st) = q at hN hF ⊢; cases q <;> try exact hF rfl
    generalize (s.en == 0) = q at hN hF ⊢; cases q
    · generalize decide (s.en < s.st) = q at hN hF ⊢; cases q <;> try exact hF rfl
      generalize (l[k].en == 0) = q at hN hF ⊢; cases q <;> try exact hF rfl
      generalize decide (l[k].en ≥ s.st) = q at hN hF ⊢; cases q
      · exact hN rfl
      · exact hF rfl
    · generalize decide (s.rep = rep0) = q at hN hF ⊢; cases q
      · exact hF rfl
      generalize (l[k].en == 0) = q at hN hF ⊢; cases q <;> try exact hF rfl
      generalize decide (l[k].en ≥ s.st) = q at hN hF ⊢; cases q
      · exact hN rfl
      · exact hF rfl
end Hist
end Go.AI
