/-
  Own work. The cells' laws: CellsApart, CellsOnce, CellsTrace, CellsMany.
-/
import Derived.Test.YtfgaoimljkibgaaCells2
namespace Go.AI
open Go
set_option linter.unusedVariables false
set_option linter.unusedSimpArgs false
namespace Cells

theorem app_may {p : Op} {l : List Int} (h : may p l.length) : app p l = (l.set p.c.toNat (next p (got p l)).1, rec p (got p l) (next p (got p l)).2) := by unfold app; rw [if_pos h]
theorem app_not {p : Op} {l : List Int} (h : ¬ may p l.length) : app p l = (l, rec0) := by unfold app; rw [if_neg h]
theorem got_set {p q : Op} {l : List Int} {x : Int} (hp : 0 ≤ p.c) (hq : 0 ≤ q.c) (h : p.c ≠ q.c) : got q (l.set p.c.toNat x) = got q l := by
  unfold got
  rw [List.getD_eq_getElem?_getD, List.getD_eq_getElem?_getD, List.getElem?_set_ne (by omega)]
theorem got_same {p : Op} {l : List Int} {x : Int} (h : may p l.length) : got p (l.set p.c.toNat x) = x := by
  unfold may at h
  unfold got
  rw [List.getD_eq_getElem?_getD, List.getElem?_set_self (by omega)]
  rfl
theorem rec_beq (r s : Rec) : (r.1 == s.1 && (r.2.1 == s.2.1 && (r.2.2.1 == s.2.2.1 && (r.2.2.2.1 == s.2.2.2.1 && (r.2.2.2.2.1 == s.2.2.2.2.1 && (r.2.2.2.2.2.1 == s.2.2.2.2.2.1 && (r.2.2.2.2.2.2.1 == s.2.2.2.2.2.2.1 && true))))))) = decide (r = s) := by
  rw [eq_comm]
  by_cases h : r = s
  · subst h; rw [rec_eq]; simp
  · rw [decide_eq_false h]
    symm
    rw [Bool.eq_false_iff]
    intro e
    simp at e
    obtain ⟨q1, q2, q3, q4, q5, q6, q7⟩ := e
    exact h (Prod.ext q1 (Prod.ext q2 (Prod.ext q3 (Prod.ext q4 (Prod.ext q5 (Prod.ext q6 (Prod.ext q7 rfl)))))))
theorem apart_pure (p q : Op) (l : List Int) (h : p.c ≠ q.c) : (app q (app p l).1).1 = (app p (app q l).1).1 ∧ (app p (app q l).1).2 = (app p l).2 ∧ (app q (app p l).1).2 = (app q l).2 := by
  by_cases hp : may p l.length
  · by_cases hq : may q l.length
    · have hq' : may q (l.set p.c.toNat (next p (got p l)).1).length := by rw [List.length_set]; exact hq
      have hp' : may p (l.set q.c.toNat (next q (got q l)).1).length := by rw [List.length_set]; exact hp
      rw [app_may hp, app_may hq, app_may hq', app_may hp']
      simp only
      have p0 : 0 ≤ p.c := by unfold may at hp; omega
      have q0 : 0 ≤ q.c := by unfold may at hq; omega
      rw [got_set p0 q0 h, got_set q0 p0 (Ne.symm h)]
      refine ⟨?_, rfl, rfl⟩
      rw [List.set_comm _ _ (by omega)]
    · have hq' : ¬ may q (l.set p.c.toNat (next p (got p l)).1).length := by rw [List.length_set]; exact hq
      rw [app_may hp, app_not hq]
      simp only
      rw [app_not hq', app_may hp]
      exact ⟨rfl, rfl, rfl⟩
  · by_cases hq : may q l.length
    · have hp' : ¬ may p (l.set q.c.toNat (next q (got q l)).1).length := by rw [List.length_set]; exact hp
      rw [app_not hp, app_may hq]
      simp only
      rw [app_not hp']
      exact ⟨rfl, rfl, trivial⟩
    · rw [app_not hp, app_not hq]
      simp only
      rw [app_not hp]
      exact ⟨rfl, rfl, trivial⟩
theorem apart_law (l : List Int) (p q : Op) : law04_CellsApart.R (l.map ei) p.k p.c p.o p.v p.w q.k q.c q.o q.v q.w = some (true, ()) := by
  refine law04_CellsApart.start _ _ _ _ _ _ _ _ _ _ _ _ ?_
  simp only [cond_ite, decide_eq_true_eq, beq_iff_eq, List.length_map, live_ok, optAll_so]
  by_cases hl : l.length ≤ 100
  · rw [if_neg (by omega)]
    by_cases h : p.c = q.c
    · rw [if_pos h]; trivial
    · rw [if_neg h]
      simp only [apply_ok p l (by omega), apply_ok q l (by omega), optAll_so, apply_ok q (app p l).1 (by rw [app_len]; omega), apply_ok p (app q l).1 (by rw [app_len]; omega)]
      obtain ⟨h1, h2, h3⟩ := apart_pure p q l h
      rw [values_ok _ _ (by rw [app_len, app_len]; omega), h1, h2, h3]
      simp only [optAll_so, rec_eq, decide_true, if_true]
  · rw [if_pos (by omega)]; trivial

theorem once_loop (l a b : List Int) (p : Op) (r s : Rec) (ha : a.length = l.length) (hl : l.length ≤ 100) (hp : may p l.length)
    (h1 : ∀ i (h : i < l.length), (i : Int) ≠ p.c → a[i] = l[i]) (h2 : r.2.2.2.2.2.2.1 = false → a = l ∧ s.2.2.2.2.2.2.1 = false) (h3 : p.k = 1 ∨ p.k = 2 → a = b)
    (h4 : r.2.2.2.2.2.1 = got p l) (h5 : s.2.2.2.2.2.1 = got p a) :
    ∀ n i : Nat, i + n = l.length → law04_CellsOnce.H9 (l.map ei) (a.map ei) (b.map ei) i p.k p.c p.o p.v p.w r.1 r.2.1 r.2.2.1 r.2.2.2.1 r.2.2.2.2.1 r.2.2.2.2.2.1 r.2.2.2.2.2.2.1 s.1 s.2.1 s.2.2.1 s.2.2.2.1 s.2.2.2.2.1 s.2.2.2.2.2.1 s.2.2.2.2.2.2.1 (true, ()) := by
  intro n
  induction n with
  | zero =>
    intro i hi
    refine law04_CellsOnce.H9_step _ _ _ _ _ _ _ _ _ _ _ _ _ _ _ _ _ _ _ _ _ _ _ _ ?_
    have hm := hp
    unfold may at hm
    have hg : (l.map ei)[p.c.toNat]? = some (ei (got p l)) := got_get hp
    have hg2 : (a.map ei)[p.c.toNat]? = some (ei (got p a)) := got_get (by rw [ha]; exact hp)
    simp only [cond_ite, decide_eq_true_eq, needs_iff, List.length_map, Bool.not_eq_true', beq_iff_eq]
    rw [if_neg (by omega), values_ok _ _ (by omega), values_ok _ _ (by omega)]
    simp only [hg, hg2, optAll_so, show ∀ x, dInt .i64 (ei x) 0 = some x from fun _ => rfl, h4, h5, if_true, live_ok]
    have tail : 0 ≤ p.c ∧ 0 ≤ p.c ∧ True := ⟨by omega, by omega, trivial⟩
    have hk : ∀ {A : Prop}, (p.k = 1 ∨ p.k = 2) → A → (if decide (a = b) = false then ((true, ()) : Bool × Unit) = (false, ()) else A) := by
      intro A hk hA
      rw [if_neg (by simp [h3 hk])]
      exact hA
    have rest : (if p.k = 1 then (if decide (a = b) = false then ((true, ()) : Bool × Unit) = (false, ()) else 0 ≤ p.c ∧ 0 ≤ p.c ∧ True) else
        if p.k = 2 then (if decide (a = b) = false then ((true, ()) : Bool × Unit) = (false, ()) else 0 ≤ p.c ∧ 0 ≤ p.c ∧ True) else 0 ≤ p.c ∧ 0 ≤ p.c ∧ True) := by
      split
      · rename_i hk1; exact hk (.inl hk1) tail
      · split
        · rename_i hk2; exact hk (.inr hk2) tail
        · exact tail
    by_cases hr : r.2.2.2.2.2.2.1 = false
    · obtain ⟨e1, e2⟩ := h2 hr
      rw [if_pos hr, if_neg (by simp [e1]), if_neg (by simp [e2])]
      exact rest
    · rw [if_neg hr]
      exact rest
  | succ n ih =>
    intro i hi
    have hil : i < l.length := by omega
    refine law04_CellsOnce.H9_step _ _ _ _ _ _ _ _ _ _ _ _ _ _ _ _ _ _ _ _ _ _ _ _ ?_
    simp only [cond_ite, decide_eq_true_eq, needs_iff, List.length_map, Int.toNat_natCast, bne_iff_ne]
    rw [if_pos (by omega), map_get _ _ _ hil, map_get _ _ _ (by omega), wrap_succ (by omega)]
    simp only [optAll_so, show ∀ x, dInt .i64 (ei x) 0 = some x from fun _ => rfl]
    have hrec := ih (i + 1) (by omega)
    split
    · rename_i hne
      refine ⟨by omega, by omega, ?_⟩
      rw [if_neg (by simp [h1 i hil hne])]
      exact hrec
    · exact hrec
theorem once_law (l : List Int) (p : Op) : law04_CellsOnce.R (l.map ei) p.k p.c p.o p.v p.w = some (true, ()) := by
  refine law04_CellsOnce.start _ _ _ _ _ _ _ ?_
  simp only [cond_ite, decide_eq_true_eq, List.length_map, live_ok, optAll_so, check_ok, num_ok, bne_iff_ne]
  by_cases hl : l.length ≤ 100
  · rw [if_neg (by omega)]
    by_cases hm : may p l.length
    · have hm' : may p (app p l).1.length := by rw [app_len]; exact hm
      rw [if_neg (by simp [hm])]
      simp only [apply_ok p l (by omega), apply_ok p (app p l).1 (by rw [app_len]; omega), optAll_so, List.length_map, app_len]
      rw [if_neg (by simp), if_neg (by simp)]
      refine once_loop l (app p l).1 (app p (app p l).1).1 p (app p l).2 (app p (app p l).1).2 (app_len p l) hl hm ?_ ?_ ?_ ?_ ?_ l.length 0 (by omega)
      · intro i hi hne
        have hm2 := hm
        unfold may at hm2
        simp only [app_may hm]
        rw [List.getElem_set_ne (by omega)]
      · intro hr
        rw [app_may hm] at hr ⊢
        simp only [rec] at hr
        have hx : (next p (got p l)).1 = got p l := by
          unfold next at hr ⊢
          split at hr
          · cases hr
          · split at hr
            · cases hr
            · rename_i h1 h2
              rw [if_neg h1, if_neg h2]
              split at hr
              · rename_i h4
                rw [if_pos h4]
                split at hr
                · cases hr
                · rename_i h5; rw [if_neg h5]
              · rename_i h4
                rw [if_neg h4]
                split at hr
                · rename_i h5
                  rw [if_pos h5]
                  split at hr
                  · cases hr
                  · rename_i h6; rw [if_neg h6]
                · rename_i h5
                  rw [if_neg h5]
                  split at hr
                  · cases hr
                  · rename_i h6; rw [if_neg h6]
        have hself : l.set p.c.toNat (got p l) = l := by
          have hm2 := hm
          unfold may at hm2
          apply List.ext_getElem
          · simp
          · intro i h1 h2
            rw [List.getElem_set]
            split
            · rename_i he; subst he; simp [got, h2]
            · rfl
        simp only [hx, hself]
        refine ⟨trivial, ?_⟩
        rw [app_may hm]
        exact hr
      · intro hk
        rw [app_may hm', app_may hm]
        simp only
        rw [got_same hm, List.set_set]
        rcases hk with hk | hk
        · simp [next, hk]
        · simp [next, hk]
      · rw [app_may hm]; rfl
      · rw [app_may hm']; rfl
    · rw [if_pos (by simp [hm])]; trivial
  · rw [if_pos (by omega)]; trivial
end Cells
end Go.AI
