/-
  Own work. The arenas' third law: who turns to what.
-/
import Derived.Test.YtebkdpcgbnlfcaaArena6
namespace Go.AI
open Go
set_option linter.unusedVariables false
set_option linter.unusedSimpArgs false
namespace Arena
open Kit
theorem good_small {a : A} (h : good a = true) : Small a ∧ Tiny a := by
  obtain ⟨h1, h2, h3, h4⟩ := (good_iff a).1 h
  have hz : a.things.length ≤ 64 ∧ a.free.length ≤ 64 := by unfold sizes at h1; simp at h1; omega
  have hl : ∀ l ∈ a.free, l.length ≤ 64 := fun l hl => by
    have hsub := List.sublist_flatten_of_mem hl
    refine Nat.le_trans (nodup_small a.things.length l (h4.sublist hsub) fun p hp => ?_) hz.1
    have := okP_lt (h3 p (hsub.subset hp)); omega
  exact ⟨⟨by omega, by omega, fun l h => by have := hl l h; omega⟩, ⟨by omega, by omega, fun l h => by have := hl l h; omega⟩⟩
theorem turn_loop (a b : A) (l : List Act) (i : Nat) (ha : Small a) (hb : Small b) (hlen : b.things.length = a.things.length) (q : Int) (h1 : ∀ p : Int, 0 ≤ p → p ≠ q → stS b p = stS a p) (h2 : stS b q = stS a q ∨ Allowed a b q)
    (nxt : law09_ArenaStates.H5 (l.map encAct) (IntKind.i64.wrap ((i : Int) + 1)) (b.things.map encT) (b.free.map encL) (true, ())) : ∀ (m p : Nat) (k : Int), p + m = a.things.length → 0 ≤ k ∧ k ≤ 1 → ((p : Int) ≤ q → k = 0) →
    law09_ArenaStates.H12 (l.map encAct) i k p (a.things.map encT) (a.free.map encL) (b.things.map encT) (b.free.map encL) (true, ()) := by
  intro m
  induction m with
  | zero =>
    intro p k hp hk hq
    refine law09_ArenaStates.H12_step _ _ _ _ _ _ _ _ _ ?_
    rw [List.length_map, decide_eq_false (show ¬ (p : Int) < (a.things.length : Int) by omega), decide_eq_false (show ¬ k > 1 by omega)]
    exact nxt
  | succ m ih =>
    intro p k hp hk hq
    refine law09_ArenaStates.H12_step _ _ _ _ _ _ _ _ _ ?_
    have hpl : p < a.things.length := by have := ha.things; omega
    have htl := ha.things
    rw [List.length_map, decide_eq_true (show (p : Int) < (a.things.length : Int) by omega)]
    simp only [cT, state_ok a p ha, state_ok b p hb, optAll_so, free_b, live_b, limbo_b, retired_b, st_beq, wrap_succ (show p < 4611686018427387904 by omega), needs_nat, Int.toNat_natCast, map_get _ _ _ hpl, t1_]
    have stay : ((p : Int) ≠ q ∨ stS b q = stS a q) → stS b p = stS a p := fun h => by
      by_cases e : (p : Int) = q
      · rw [e]; exact h.resolve_left (fun hn => hn e)
      · exact h1 p (by omega) e
    by_cases he : stS b p = stS a p
    · rw [he, decide_eq_true rfl]
      exact ih (p + 1) k (by omega) hk (fun h => hq (by omega))
    · have hpq : (p : Int) = q := Decidable.byContradiction fun hn => he (stay (.inl hn))
      have hall : Allowed a b p := by
        rcases h2 with h2 | h2
        · exact absurd (stay (.inr h2)) he
        · rw [hpq]; exact h2
      have hk0 : k = 0 := hq (by omega)
      subst hk0
      have go := ih (p + 1) (IntKind.i64.wrap (0 + 1)) (by omega) (by rw [wrap_id (by omega) (by omega)]; omega) (fun h => by omega)
      have hat : a.things[p] = at_ a p := by
        have hpi : (p : Int).toNat < a.things.length := by omega
        exact at_eq hpi
      rcases hall with ⟨e1, e2⟩ | ⟨e1, e2⟩ | ⟨e1, e2, e3⟩ | ⟨e1, e2⟩
      · rw [e1, e2]; exact go
      · rw [e1, e2]; exact go
      · rw [e1, e2, hat, e3]; exact go
      · rw [e1, e2]; exact go
theorem states_loop (l : List Act) (hl : l.length ≤ 100) : ∀ (m i : Nat) (a : A), i + m = l.length → good a = true → Refs a (1000000000 + 100 * (i : Int)) →
    law09_ArenaStates.H5 (l.map encAct) i (a.things.map encT) (a.free.map encL) (true, ()) := by
  intro m
  induction m with
  | zero =>
    intro i a hi hg hr
    refine law09_ArenaStates.H5_step _ _ _ _ _ ?_
    rw [List.length_map, decide_eq_false (by omega)]
    simp only [cF, live_ok, optAll_so]
  | succ m ih =>
    intro i a hi hg hr
    refine law09_ArenaStates.H5_step _ _ _ _ _ ?_
    have hil : i < l.length := by omega
    rw [List.length_map, decide_eq_true (by omega)]
    have x0 : ∀ x : Act, dInt .i64 (encAct x) 0 = some x.kind := fun _ => rfl
    have x1 : ∀ x : Act, dInt .i64 (encAct x) 1 = some x.core := fun _ => rfl
    have x2 : ∀ x : Act, dInt .i64 (encAct x) 2 = some x.obj := fun _ => rfl
    have x3 : ∀ x : Act, dInt .i64 (encAct x) 3 = some x.by_ := fun _ => rfl
    have x4 : ∀ x : Act, dInt .i64 (encAct x) 4 = some x.t.ty := fun _ => rfl
    have x5 : ∀ x : Act, dInt .i64 (encAct x) 5 = some x.t.gen := fun _ => rfl
    have x6 : ∀ x : Act, dInt .i64 (encAct x) 6 = some x.t.refs := fun _ => rfl
    have x7 : ∀ x : Act, dInt .i64 (encAct x) 7 = some x.t.start := fun _ => rfl
    have x8 : ∀ x : Act, dInt .i64 (encAct x) 8 = some x.t.size := fun _ => rfl
    have x9 : ∀ x : Act, dInt .i64 (encAct x) 9 = some x.t.water := fun _ => rfl
    have x10 : ∀ x : Act, dInt .i64 (encAct x) 10 = some x.t.src := fun _ => rfl
    have x11 : ∀ x : Act, dInt .i64 (encAct x) 11 = some x.t.val := fun _ => rfl
    have hs := (good_small hg).1
    simp only [cT, needs_nat, Int.toNat_natCast, map_get _ _ _ hil, optAll_so, x0, x1, x2, x3, x4, x5, x6, x7, x8, x9, x10, x11, does_ok a _ hs]
    generalize l[i] = x
    have hL := does_left hg (M := 1000000000 + 100 * (i : Int)) ⟨by omega, by omega⟩ hr x
    have hb := (good_small hL.good).1
    have hgr := does_grows a x
    obtain ⟨q, h1, h2⟩ := hL.turn
    rw [show (t3 (doesS a x)).1.1 = (doesS a x).1.things.map encT from rfl, show (t3 (doesS a x)).1.2.1 = (doesS a x).1.free.map encL from rfl, check_ok _ hb]
    simp only [optAll_so, num_ok, hL.good, List.length_map]
    have nxt := ih (i + 1) (doesS a x).1 (by omega) hL.good (by have := hL.refs; rw [show (1000000000 + 100 * ((i + 1 : Nat) : Int)) = 1000000000 + 100 * (i : Int) + 100 by omega]; exact this)
    rw [← wrap_succ (show i < 4611686018427387904 by omega)] at nxt
    have go := turn_loop a (doesS a x).1 l i hs hb hgr.things q h1 h2 nxt a.things.length 0 0 (by omega) (by omega) (fun _ => rfl)
    have e1 : (er true != (0 : Int)) = false := rfl
    have e2 : (((doesS a x).1.things.length : Int) != (a.things.length : Int)) = false := by rw [hgr.things]; simp
    rw [e1, e2]
    simp only [cF]
    by_cases he : (doesS a x).2.2 = 0
    · rw [show (((t3 (doesS a x)).2.2.1 : Int) != 0) = false by show ((doesS a x).2.2 != 0) = false; simpa using he]
      exact go
    · have hsame := does_err a x he
      rw [show (((t3 (doesS a x)).2.2.1 : Int) != 0) = true by show ((doesS a x).2.2 != 0) = true; simpa using he, same_ok _ _ hs]
      simp only [cT, optAll_so]
      rw [decide_eq_true hsame.symm]
      exact go
theorem states_law (a : A) (l : List Act) : law09_ArenaStates.R (a.things.map encT) (a.free.map encL) (l.map encAct) = some (true, ()) := by
  refine law09_ArenaStates.start _ _ _ _ ?_
  simp only [small_ok, live_ok, optAll_so]
  cases h : smallB a
  · trivial
  have ht := smallB_tiny h
  have hs := ht.small
  simp only [check_ok a hs, optAll_so, num_ok, Bool.not_true, cF, List.length_map]
  by_cases hl : (l.length : Int) > 100
  · rw [decide_eq_true hl]; trivial
  rw [decide_eq_false hl]
  cases hg : good a
  · trivial
  rw [show (er true != (0 : Int)) = false from rfl]
  simp only [cF]
  refine states_loop l (by omega) l.length 0 a (by omega) hg fun t htm => ?_
  unfold smallB at h
  simp only [Bool.and_eq_true, decide_eq_true_eq, List.all_eq_true] at h
  have := h.2.2.1 t htm
  omega
end Arena
end Go.AI
