/-
  Own work. grab's laws: what each function does; GrabSingle, GrabWaits.
-/
import Derived.Test.YtcfglafjemagpaaTold
import Derived.Test.YtcfglafjemagpaaAiKit2
import Derived.Test.YtcfglafjemagpaaAiSort
namespace Go.AI
open Go
set_option linter.unusedVariables false
set_option linter.unusedSimpArgs false
namespace Grabs
open Kit

theorem needs_nat (k : Nat) (p : Prop) : needs ((0 : Int) ≤ (k : Int)) p = p := by
  rw [eq_iff_iff, needs_iff]
  exact ⟨fun h => h.2, fun h => ⟨by omega, h⟩⟩
theorem live_ok : law07_live.R = some (true, ()) := law07_live.closed
theorem num_ok (n : Int) : law07_num.R n = some (n, ()) := law07_num.start _ _ rfl
theorem neg_ok (n : Int) : grab_Start_1.R n = some (decide (n < 0), ()) := grab_Start_1.start _ _ rfl
theorem cellsEi (l : List Int) : l.map cellOfD = l.map ei := rfl
theorem ei0 (n : Int) : dInt .i64 (ei n) 0 = some n := rfl
theorem mapO_ei : ∀ l : List Int, mapO asCellD (l.map ei) = some l
  | [] => rfl
  | n :: l => by
    simp only [List.map_cons, mapO, mapO_ei l]
    rfl
theorem has_ok (l : List Int) (hl : l.length < 1000000) : ∃ b, slices_ContainsFunc_int_int__grab_Start_1.R (l.map ei) = some (b, ()) := by
  have key : ∀ m i : Nat, i + m = l.length → ∃ r, slices_IndexFunc_int_int__grab_Start_1.H3 (l.map ei) l.length i (r, ()) := by
    intro m
    induction m with
    | zero =>
      intro i hi
      refine ⟨-1, slices_IndexFunc_int_int__grab_Start_1.H3_step _ _ _ _ ?_⟩
      rw [decide_eq_false (by omega)]
      exact rfl
    | succ m ih =>
      intro i hi
      have hil : i < l.length := by omega
      obtain ⟨r, hr⟩ := ih (i + 1) (by omega)
      by_cases hn : l[i] < 0
      · refine ⟨i, slices_IndexFunc_int_int__grab_Start_1.H3_step _ _ _ _ ?_⟩
        rw [decide_eq_true (by omega)]
        simp only [cond_true, needs_nat, Int.toNat_natCast, map_get _ _ _ hil, optAll_so, ei0, neg_ok, decide_eq_true hn]
      · refine ⟨r, slices_IndexFunc_int_int__grab_Start_1.H3_step _ _ _ _ ?_⟩
        rw [decide_eq_true (by omega)]
        simp only [cond_true, needs_nat, Int.toNat_natCast, map_get _ _ _ hil, optAll_so, ei0, neg_ok, decide_eq_false hn, cond_false]
        rw [wrap_succ (show i < 4611686018427387904 by omega)]
        exact hr
  obtain ⟨r, hr⟩ := key l.length 0 (by omega)
  have e1 : slices_IndexFunc_int_int__grab_Start_1.R (l.map ei) = some (r, ()) := by
    refine slices_IndexFunc_int_int__grab_Start_1.start _ _ ?_
    rw [List.length_map]
    exact hr
  refine ⟨decide (r ≥ 0), slices_ContainsFunc_int_int__grab_Start_1.start _ _ ?_⟩
  rw [e1]
  exact rfl
/-- The locks, in order, each once. -/
def cut (l : List Int) : List Int := Lib.compact (isort l)
theorem cut_len (l : List Int) : (cut l).length ≤ l.length := by
  have := compact_le (isort l)
  rw [isort_len] at this
  exact this
theorem compact_up (l : List Int) (h : l.Pairwise (· ≤ ·)) : (Lib.compact l).Pairwise (· < ·) := by
  unfold Lib.compact Lib.compactUpTo
  rw [List.pairwise_map]
  have hr : ((List.range l.length).filter (Lib.keeps l.toArray)).Pairwise (· < ·) := (List.pairwise_lt_range).filter _
  refine hr.imp_of_mem fun {a b} ha hb hab => ?_
  rw [List.mem_filter, List.mem_range] at ha hb
  have hk := hb.2
  unfold Lib.keeps at hk
  rw [decide_eq_true_eq] at hk
  have hne := hk.resolve_left (by omega)
  have hp := List.pairwise_iff_getElem.1 h
  have g : ∀ i (hi : i < l.length), l.toArray[i]! = l[i] := fun i hi => by
    rw [getElem!_pos _ i (by simpa using hi)]; simp
  rw [g b hb.1, g (b - 1) (by omega)] at hne
  rw [g a ha.1, g b hb.1]
  have h1 : l[b - 1]'(by omega) ≤ l[b]'hb.1 := hp (b - 1) b (by omega) hb.1 (by omega)
  have h2 : l[a]'ha.1 ≤ l[b - 1]'(by omega) := by
    by_cases e : a = b - 1
    · subst e; exact Int.le_refl _
    · exact hp a (b - 1) ha.1 (by omega) (by omega)
  omega
theorem cut_up (l : List Int) : (cut l).Pairwise (· < ·) := compact_up _ (isort_sorted l)
/-- A grab. -/
def gt (who : Int) (cs : List Int) (ph at_ tries : Int) (wait : Bool) : (Int × (List (List DV) × (Int × (Int × (Int × (Bool × Unit)))))) := (who, (cs.map ei, (ph, (at_, (tries, (wait, ()))))))
theorem start_ok (who : Int) (wait : Bool) (l : List Int) (hl : l.length ≤ 64) : (∃ g e, grab_Start.R who wait (l.map ei) = some (g, (e, ())) ∧ e ≠ 0) ∨
    grab_Start.R who wait (l.map ei) = some (gt who (cut l) (if (cut l).length = 0 then 2 else 1) 0 0 wait, (0, ())) := by
  by_cases hw : who < 1
  · refine .inl ⟨(0, ([], (0, (0, (0, (false, ())))))), 2, grab_Start.start _ _ _ _ ?_, by omega⟩
    rw [decide_eq_true hw]
    exact rfl
  obtain ⟨b, hb⟩ := has_ok l (by omega)
  cases b with
  | true =>
    refine .inl ⟨(0, ([], (0, (0, (0, (false, ())))))), 2, grab_Start.start _ _ _ _ ?_, by omega⟩
    rw [decide_eq_false hw, hb]
    exact rfl
  | false =>
    refine .inr (grab_Start.start _ _ _ _ ?_)
    rw [decide_eq_false hw, hb]
    simp only [cond_false, optAll_so, List.length_map]
    rw [decide_eq_false (by omega)]
    have hlen := isort_len l
    simp only [cond_false, cellsEi, mapO_ei, optAll_so, List.length_map, needs_iff, true_and, hlen]
    refine ⟨by omega, by omega, by omega, ?_⟩
    have e : ((Lib.compact (isort l) ++ List.replicate (l.length - (Lib.compact (isort l)).length) 0).map ei).take (Lib.compact (isort l)).length = (cut l).map ei := by
      rw [List.map_append, List.take_left' (by simp)]
      rfl
    rw [e]
    show cond ((((cut l).length : Nat) : Int) == 0) _ _
    by_cases h0 : (cut l).length = 0
    · rw [if_pos h0, h0]; exact rfl
    · rw [if_neg h0, beq_eq_false_iff_ne.2 (by omega)]; exact rfl
section
variable {who : Int} {cs : List Int} {at_ : Nat} {tries : Int} {wait : Bool}
def op (k c who : Int) : (Int × (Int × (Int × (Int × (Int × Unit))))) := (k, (c, (0, (0, (who, ())))))
theorem next1 (h : at_ < cs.length) : grab_Next.R who (cs.map ei) 1 at_ tries wait = some (op 4 cs[at_] who, (true, ())) := by
  refine grab_Next.start _ _ _ _ _ _ _ ?_
  simp only [beq_self_eq_true, cond_true, List.length_map]
  rw [decide_eq_false (by omega), decide_eq_false (by omega)]
  simp only [cond_false, needs_nat, Int.toNat_natCast, map_get _ _ _ h, optAll_so, ei0]
  exact rfl
theorem next1_none (h : cs.length ≤ at_) : ∃ o, grab_Next.R who (cs.map ei) 1 at_ tries wait = some (o, (false, ())) := by
  refine ⟨op 0 0 0, grab_Next.start _ _ _ _ _ _ _ ?_⟩
  simp only [beq_self_eq_true, cond_true, List.length_map]
  rw [decide_eq_false (by omega), decide_eq_true (by omega)]
  exact rfl
theorem next34 {ph : Int} (hp : ph = 3 ∨ ph = 4) (h : at_ < cs.length) (hs : cs.length < 1000000) : grab_Next.R who (cs.map ei) ph ((at_ + 1 : Nat) : Int) tries wait = some (op 5 cs[at_] who, (true, ())) := by
  have e : IntKind.i64.wrap (((at_ + 1 : Nat) : Int) - 1) = (at_ : Int) := by rw [wrap_id (by omega) (by omega)]; omega
  refine grab_Next.start _ _ _ _ _ _ _ ?_
  rcases hp with rfl | rfl
  · simp only [show ((3 : Int) == 1) = false from rfl, beq_self_eq_true, cond_true, cond_false, List.length_map, e]
    rw [decide_eq_false (by omega), decide_eq_false (by omega)]
    simp only [cond_false, needs_nat, Int.toNat_natCast, map_get _ _ _ h, optAll_so, ei0]
    exact rfl
  · simp only [show ((4 : Int) == 1) = false from rfl, show ((4 : Int) == 3) = false from rfl, beq_self_eq_true, cond_true, cond_false, List.length_map, e]
    rw [decide_eq_false (by omega), decide_eq_false (by omega)]
    simp only [cond_false, needs_nat, Int.toNat_natCast, map_get _ _ _ h, optAll_so, ei0]
    exact rfl
theorem next25 {ph at_ : Int} (hp : ph = 2 ∨ ph = 5) : grab_Next.R who (cs.map ei) ph at_ tries wait = some (op 0 0 0, (false, ())) := by
  refine grab_Next.start _ _ _ _ _ _ _ ?_
  rcases hp with rfl | rfl <;> exact rfl
theorem take_ok1 (h : at_ < cs.length) (hs : cs.length < 1000000) : grab_Take.R who (cs.map ei) 1 at_ tries wait true = some (gt who cs (if at_ + 1 = cs.length then 2 else 1) ((at_ + 1 : Nat) : Int) tries wait, ()) := by
  refine grab_Take.start _ _ _ _ _ _ _ _ ?_
  rw [next1 h]
  simp only [optAll_so, Bool.not_true, cond_false, bne_self_eq_false, cond_true, List.length_map]
  rw [wrap_succ (by omega)]
  by_cases e : at_ + 1 = cs.length
  · rw [if_pos e, beq_iff_eq.2 (by omega)]; exact rfl
  · rw [if_neg e, beq_eq_false_iff_ne.2 (by omega)]; exact rfl
theorem take_ok2 (h : at_ < cs.length) : grab_Take.R who (cs.map ei) 1 at_ tries true false = some (gt who cs 1 at_ tries true, ()) := by
  refine grab_Take.start _ _ _ _ _ _ _ _ ?_
  rw [next1 h]
  exact rfl
theorem take_ok3 (h : at_ < cs.length) : grab_Take.R who (cs.map ei) 1 at_ tries false false = some (gt who cs (if 0 < at_ then 3 else 1) at_ (IntKind.i64.wrap (tries + 1)) false, ()) := by
  refine grab_Take.start _ _ _ _ _ _ _ _ ?_
  rw [next1 h]
  simp only [optAll_so, Bool.not_true, cond_false, bne_self_eq_false, Bool.not_false, cond_true]
  by_cases e : 0 < at_
  · rw [if_pos e, decide_eq_true (by omega)]; exact rfl
  · rw [if_neg e, decide_eq_false (by omega)]; exact rfl
theorem take_ok25 {ph at_ : Int} (hp : ph = 2 ∨ ph = 5) (b : Bool) : grab_Take.R who (cs.map ei) ph at_ tries wait b = some (gt who cs ph at_ tries wait, ()) := by
  refine grab_Take.start _ _ _ _ _ _ _ _ ?_
  rw [next25 hp]
  exact rfl
theorem take_ok3b (h : at_ < cs.length) (hs : cs.length < 1000000) (b : Bool) : grab_Take.R who (cs.map ei) 3 ((at_ + 1 : Nat) : Int) tries wait b = some (gt who cs (if 0 < at_ then 3 else 1) at_ tries wait, ()) := by
  have e : IntKind.i64.wrap (((at_ + 1 : Nat) : Int) - 1) = (at_ : Int) := by rw [wrap_id (by omega) (by omega)]; omega
  refine grab_Take.start _ _ _ _ _ _ _ _ ?_
  rw [next34 (.inl rfl) h hs]
  simp only [optAll_so, Bool.not_true, cond_false, show ((3 : Int) != 1) = true from rfl, cond_true, e, beq_self_eq_true]
  by_cases e : 0 < at_
  · rw [if_pos e, decide_eq_true (by omega)]; exact rfl
  · rw [if_neg e, decide_eq_false (by omega)]; exact rfl
theorem take_ok4 (h : at_ < cs.length) (hs : cs.length < 1000000) (b : Bool) : grab_Take.R who (cs.map ei) 4 ((at_ + 1 : Nat) : Int) tries wait b = some (gt who cs (if at_ = 0 then 5 else 4) at_ tries wait, ()) := by
  have e : IntKind.i64.wrap (((at_ + 1 : Nat) : Int) - 1) = (at_ : Int) := by rw [wrap_id (by omega) (by omega)]; omega
  refine grab_Take.start _ _ _ _ _ _ _ _ ?_
  rw [next34 (.inr rfl) h hs]
  simp only [optAll_so, Bool.not_true, cond_false, show ((4 : Int) != 1) = true from rfl, show ((4 : Int) == 3) = false from rfl, cond_true, e]
  by_cases e : at_ = 0
  · rw [if_pos e, decide_eq_false (by omega)]; exact rfl
  · rw [if_neg e, decide_eq_true (by omega)]; exact rfl
theorem held_ok {ph : Int} (h : at_ ≤ cs.length) (hs : cs.length < 1000000) : grab_Held.R who (cs.map ei) ph at_ tries wait = some ((cs.take at_).map ei, ()) := by
  refine grab_Held.start _ _ _ _ _ _ _ ?_
  simp only [List.length_map, show (if (0 : Int) > (at_ : Int) then (0 : Int) else (at_ : Int)) = at_ by rw [if_neg (by omega)], show (if (cs.length : Int) < (at_ : Int) then (cs.length : Int) else (at_ : Int)) = at_ by rw [if_neg (by omega)], Int.toNat_natCast]
  have e : (cs.map ei).take at_ = (cs.take at_).map ei := List.map_take.symm
  have e2 : (cs.take at_).length = at_ := by simp; omega
  rw [e]
  generalize cs.take at_ = q at e2
  subst e2
  rw [needs_iff, needs_iff]
  simp only [List.length_map]
  refine ⟨by omega, by omega, ?_⟩
  rw [List.take_of_length_le (by simp)]
theorem free_ok : grab_Free.R who (cs.map ei) 2 at_ tries wait = some (gt who cs (if cs.length = 0 then 5 else 4) at_ tries wait, ()) := by
  refine grab_Free.start _ _ _ _ _ _ _ ?_
  simp only [bne_self_eq_false, cond_false, List.length_map]
  by_cases e : cs.length = 0
  · rw [if_pos e, e]; exact rfl
  · rw [if_neg e, beq_eq_false_iff_ne.2 (by omega)]; exact rfl
end
end Grabs
end Go.AI
