/-
  Own work. The cells' functions: what each answers, in plain lists.
-/
import Derived.Test.YtfgaoimljkibgaaTold
import Derived.Test.YtfgaoimljkibgaaAiKit
namespace Go.AI
open Go
set_option linter.unusedVariables false
set_option linter.unusedSimpArgs false
namespace Cells

structure Op where
  k : Int
  c : Int
  o : Int
  v : Int
  w : Int
  deriving DecidableEq
def encOp (p : Op) : List DV := [.v (.int .i64 p.k), .v (.int .i64 p.c), .v (.int .i64 p.o), .v (.int .i64 p.v), .v (.int .i64 p.w)]
abbrev Rec := Int × Int × Int × Int × Int × Int × Bool × Unit
instance decRec : DecidableEq Rec := by
  have h1 : DecidableEq (Bool × Unit) := inferInstance
  have h2 : DecidableEq (Int × Bool × Unit) := inferInstance
  have h3 : DecidableEq (Int × Int × Bool × Unit) := inferInstance
  have h4 : DecidableEq (Int × Int × Int × Bool × Unit) := inferInstance
  have h5 : DecidableEq (Int × Int × Int × Int × Bool × Unit) := inferInstance
  have h6 : DecidableEq (Int × Int × Int × Int × Int × Bool × Unit) := inferInstance
  exact (inferInstance : DecidableEq (Int × Int × Int × Int × Int × Int × Bool × Unit))
def rec (p : Op) (g : Int) (b : Bool) : Rec := (p.k, p.c, p.o, p.v, p.w, g, b, ())
def rec0 : Rec := (0, 0, 0, 0, 0, 0, false, ())
/-- May a step be, on so many cells? -/
def may (p : Op) (n : Nat) : Prop := 1 ≤ p.k ∧ p.k ≤ 5 ∧ 0 ≤ p.c ∧ p.c < n ∧ (p.k < 4 ∨ 1 ≤ p.w)
instance (p : Op) (n : Nat) : Decidable (may p n) := by unfold may; exact inferInstance
/-- A cell behind a step; did it go well? -/
def next (p : Op) (x : Int) : Int × Bool :=
  if p.k = 1 then (x, true) else if p.k = 2 then (p.v, true)
  else if p.k = 4 then (if x = 0 then (p.w, true) else (x, false))
  else if p.k = 5 then (if x = p.w then (0, true) else (x, false))
  else (if x = p.o then (p.v, true) else (x, false))
def got (p : Op) (l : List Int) : Int := l.getD p.c.toNat 0
/-- Values behind a step, and what is told of it. -/
def app (p : Op) (l : List Int) : List Int × Rec :=
  if may p l.length then (l.set p.c.toNat (next p (got p l)).1, rec p (got p l) (next p (got p l)).2) else (l, rec0)
theorem app_len (p : Op) (l : List Int) : (app p l).1.length = l.length := by
  unfold app; split <;> simp

theorem live_ok : law04_live.R = some (true, ()) := law04_live.closed
theorem num_ok (n : Int) : law04_num.R n = some (n, ()) := law04_num.start _ _ rfl
theorem check_ok (p : Op) (n : Nat) : cells_Check.R p.k p.c p.o p.v p.w n = some (if may p n then 0 else 2, ()) := by
  refine cells_Check.start _ _ _ _ _ _ _ ?_
  by_cases h : may p n
  · rw [if_pos h]
    unfold may at h
    simp only [cond_ite, decide_eq_true_eq, beq_iff_eq]
    repeat' split
    all_goals first | trivial | rfl | (exfalso; omega)
  · rw [if_neg h]
    unfold may at h
    simp only [cond_ite, decide_eq_true_eq, beq_iff_eq]
    repeat' split
    all_goals first | trivial | rfl | (exfalso; omega)
theorem is_ok (p : Op) (n : Nat) : ref04_Is.R p.k p.c p.o p.v p.w n = some (decide (may p n), ()) := by
  refine ref04_Is.start _ _ _ _ _ _ _ ?_
  by_cases h : may p n
  · rw [decide_eq_true h]
    unfold may at h
    simp only [cond_ite, decide_eq_true_eq]
    repeat' split
    all_goals first | trivial | rfl | (exfalso; omega) | (rw [decide_eq_true (by omega)])
  · rw [decide_eq_false h]
    unfold may at h
    simp only [cond_ite, decide_eq_true_eq]
    repeat' split
    all_goals first | trivial | rfl | (exfalso; omega) | (rw [decide_eq_false (by omega)])
theorem step_ok (p : Op) (x : Int) (h : 1 ≤ p.k ∧ p.k ≤ 5) : cells_step.R x p.k p.c p.o p.v p.w = some ((rec p x (next p x).2, ()), (next p x).1) := by
  refine cells_step.start _ _ _ _ _ _ _ ?_
  simp only [cond_ite, beq_iff_eq, next, rec]
  repeat' split
  all_goals first | trivial | rfl | simp_all
theorem got_get {p : Op} {l : List Int} (h : may p l.length) : (l.map ei)[p.c.toNat]? = some (ei (got p l)) := by
  unfold may at h
  have : p.c.toNat < l.length := by omega
  rw [map_get _ _ _ this]
  simp [got, this]
theorem ei_set (l : List Int) (i : Nat) (x : Int) : (l.map ei).set i [.v (.int .i64 x)] = (l.set i x).map ei := by rw [List.map_set]; rfl
theorem apply_ok (p : Op) (l : List Int) (hl : l.length < 1000000) : cells_Apply.R (l.map ei) p.k p.c p.o p.v p.w = some ((app p l).1.map ei, (app p l).2, ()) := by
  refine cells_Apply.start _ _ _ _ _ _ _ ?_
  rw [List.length_map, check_ok, optAll_so]
  simp only [cond_ite, needs_iff]
  by_cases h : may p l.length
  · have hm := h
    unfold may at h
    simp only [if_pos hm]
    rw [if_neg (by simp)]
    refine ⟨⟨by omega, by omega⟩, ⟨by omega, by omega⟩, ?_⟩
    rw [Nat.zero_add, got_get hm, optAll_so]
    show optAll (some (got p l)) _
    rw [optAll_so, step_ok p _ ⟨h.1, h.2.1⟩, optAll_so]
    simp only [putD, ei, List.take_zero, List.nil_append, List.length_cons, List.length_nil, List.drop_succ_cons, List.drop_nil, List.append_nil, ei_set, app, if_pos hm]
    rw [List.take_of_length_le (by simp)]
  · simp only [if_neg h]
    rw [if_pos (by simp)]
    refine ⟨⟨by omega, by omega⟩, ?_⟩
    rw [List.take_of_length_le (by simp)]
    simp [app, if_neg h, rec0]
theorem ref_apply_ok (p : Op) (l : List Int) (hl : l.length < 1000000) : ref04_Apply.R (l.map ei) p.k p.c p.o p.v p.w = some ((app p l).1.map ei, (app p l).2, ()) := by
  refine ref04_Apply.start _ _ _ _ _ _ _ ?_
  rw [List.length_map, is_ok, optAll_so]
  simp only [cond_ite, needs_iff, Bool.not_eq_true', decide_eq_false_iff_not]
  by_cases h : may p l.length
  · have hm := h
    unfold may at h
    rw [if_neg (by simpa using hm)]
    refine ⟨by omega, ?_⟩
    simp only [Nat.zero_add, got_get hm, optAll_so]
    have hd : dInt .i64 (ei (got p l)) 0 = some (got p l) := rfl
    have hp : ∀ x : Int, putD (ei (got p l)) 0 [.v (.int .i64 x)] = [.v (.int .i64 x)] := fun x => rfl
    have hlen : (ei (got p l)).length = 1 := rfl
    simp only [hd, optAll_so, hp, hlen, ei_set, beq_iff_eq]
    have ht : ∀ x : Int, ((l.set p.c.toNat x).map ei).take l.length = (l.set p.c.toNat x).map ei := fun x => List.take_of_length_le (by simp)
    have hr : (l.length * 8 ≤ 140737488355328 ∧ l.length * 1 ≤ 140737488355328) := ⟨by omega, by omega⟩
    have hc : 0 ≤ p.c ∧ p.c < (l.length : Int) := ⟨by omega, by omega⟩
    have hk : p.k = 1 ∨ p.k = 2 ∨ p.k = 3 ∨ p.k = 4 ∨ p.k = 5 := by omega
    simp only [ht, app, if_pos hm, hr, hc, true_and, next, rec, and_self, Nat.le_refl]
    rcases hk with hk | hk | hk | hk | hk
    all_goals simp only [hk]
    all_goals simp
    all_goals first | done | (split <;> simp_all)
  · rw [if_pos (by simpa using h)]
    simp [app, if_neg h, rec0]
theorem eq_loop {α : Type} [DecidableEq α] (a b : List α) (H : Int → (Bool × Unit) → Prop) (hl : a.length = b.length)
    (step : ∀ (i : Nat) c, (∀ h : i < a.length, (a[i] = b[i]'(by omega) → H ((i + 1 : Nat) : Int) c) ∧ (a[i] ≠ b[i]'(by omega) → c = (false, ()))) → (a.length ≤ i → c = (true, ())) → H i c) : H 0 (decide (a = b), ()) := by
  have key : ∀ n i : Nat, i + n = a.length → a.take i = b.take i → H i (decide (a = b), ()) := by
    intro n
    induction n with
    | zero =>
      intro i hi ht
      refine step i _ (fun h => absurd h (by omega)) fun _ => ?_
      rw [List.take_of_length_le (by omega), List.take_of_length_le (by omega)] at ht
      rw [decide_eq_true ht]
    | succ n ih =>
      intro i hi ht
      refine step i _ (fun h => ⟨fun he => ih (i + 1) (by omega) ?_, fun hne => ?_⟩) (fun h => absurd h (by omega))
      · rw [List.take_succ_eq_append_getElem h, List.take_succ_eq_append_getElem (by omega), ht, he]
      · rw [decide_eq_false]
        intro e
        subst e
        exact hne rfl
  exact key a.length 0 (by omega) rfl
theorem values_ok (a b : List Int) (ha : a.length < 1000000) : ref04_Values.R (a.map ei) (b.map ei) = some (decide (a = b), ()) := by
  refine ref04_Values.start _ _ _ ?_
  simp only [List.length_map, cond_ite, bne_iff_ne]
  by_cases hl : a.length = b.length
  · rw [if_neg (by omega)]
    refine eq_loop a b (fun i c => ref04_Values.H5 (a.map ei) (b.map ei) i c) hl fun i c h1 h2 => ?_
    refine ref04_Values.H5_step _ _ _ _ ?_
    simp only [List.length_map, cond_ite, decide_eq_true_eq, needs_iff, Int.toNat_natCast, bne_iff_ne]
    by_cases hi : i < a.length
    · obtain ⟨g1, g2⟩ := h1 hi
      rw [if_pos (by omega), map_get _ _ _ hi, map_get _ _ _ (by omega), wrap_succ (by omega)]
      refine ⟨by omega, ?_⟩
      show _ ∧ (if a[i] ≠ b[i] then _ else _)
      refine ⟨by omega, ?_⟩
      split
      · rename_i h; exact g2 h
      · rename_i h; exact g1 (Decidable.not_not.1 h)
    · rw [if_neg (by omega)]
      exact h2 (by omega)
  · rw [if_pos (by omega), decide_eq_false]
    intro e; subst e; exact hl rfl
def encRec (r : Rec) : List DV := [.v (.int .i64 r.1), .v (.int .i64 r.2.1), .v (.int .i64 r.2.2.1), .v (.int .i64 r.2.2.2.1), .v (.int .i64 r.2.2.2.2.1), .v (.int .i64 r.2.2.2.2.2.1), .v (.bool r.2.2.2.2.2.2.1)]
theorem recs_ok (a b : List Rec) (ha : a.length < 1000000) : ref04_Recs.R (a.map encRec) (b.map encRec) = some (decide (a = b), ()) := by
  refine ref04_Recs.start _ _ _ ?_
  simp only [List.length_map, cond_ite, bne_iff_ne]
  by_cases hl : a.length = b.length
  · rw [if_neg (by omega)]
    refine eq_loop a b (fun i c => ref04_Recs.H5 (a.map encRec) (b.map encRec) i c) hl fun i c h1 h2 => ?_
    refine ref04_Recs.H5_step _ _ _ _ ?_
    simp only [List.length_map, cond_ite, decide_eq_true_eq, needs_iff, Int.toNat_natCast]
    by_cases hi : i < a.length
    · obtain ⟨g1, g2⟩ := h1 hi
      rw [if_pos (by omega), map_get _ _ _ hi, map_get _ _ _ (by omega), wrap_succ (by omega)]
      refine ⟨by omega, ?_⟩
      simp only [encRec, dInt, dBool, List.getElem?_cons_zero, List.getElem?_cons_succ, optAll_so, if_true]
      refine ⟨by omega, ?_⟩
      split
      · rename_i h
        refine g2 fun e => ?_
        rw [e] at h
        simp at h
      · rename_i h
        refine g1 ?_
        simp at h
        obtain ⟨q1, q2, q3, q4, q5, q6, q7⟩ := h
        exact Prod.ext q1 (Prod.ext q2 (Prod.ext q3 (Prod.ext q4 (Prod.ext q5 (Prod.ext q6 (Prod.ext q7 rfl))))))
    · rw [if_neg (by omega)]
      exact h2 (by omega)
  · rw [if_pos (by omega), decide_eq_false]
    intro e; subst e; exact hl rfl
theorem small_ok (l : List (List DV)) : law04_small.R l = some (decide (l.length ≤ 200), ()) := by
  refine law04_small.start _ _ ?_
  simp only [Prod.mk.injEq, and_true]
  exact decide_eq_decide.2 (by omega)
theorem zero_ok (n : Nat) (hn : n ≤ 5000) : ref04_Zero.R n = some ((List.replicate n 0).map ei, ()) := by
  have key : ∀ m i : Nat, i + m = n → ref04_Zero.H4 n ((List.replicate i 0).map ei) i ((List.replicate n 0).map ei, ()) := by
    intro m
    induction m with
    | zero =>
      intro i hi
      have : i = n := by omega
      subst this
      refine ref04_Zero.H4_step _ _ _ _ ?_
      simp only [cond_ite, decide_eq_true_eq]
      rw [if_neg (by omega), List.take_of_length_le (Nat.le_refl _)]
    | succ m ih =>
      intro i hi
      refine ref04_Zero.H4_step _ _ _ _ ?_
      simp only [cond_ite, decide_eq_true_eq, needs_iff]
      rw [if_pos (by omega)]
      have := ih (i + 1) (by omega)
      rw [List.replicate_succ', List.map_append] at this
      refine ⟨trivial, ?_, ?_⟩
      · simp; omega
      · rw [wrap_succ (by omega)]
        exact this
  refine ref04_Zero.start _ _ ?_
  exact key n 0 (by omega)
end Cells
end Go.AI
