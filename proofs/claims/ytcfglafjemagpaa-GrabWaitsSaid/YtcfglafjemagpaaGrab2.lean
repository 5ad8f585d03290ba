/-
  Own work. grab's laws: GrabSingle, GrabWaits.
-/
import Derived.Test.YtcfglafjemagpaaGrab1
namespace Go.AI
open Go
set_option linter.unusedVariables false
set_option linter.unusedSimpArgs false
namespace Grabs
open Kit

theorem single_law (who : Int) (wait : Bool) (l : List Int) : law07_GrabSingle.R who wait (l.map ei) = some (true, ()) := by
  refine law07_GrabSingle.start _ _ _ _ ?_
  rw [List.length_map]
  by_cases h1 : l.length > 64
  · rw [decide_eq_true (by omega)]
    simp only [cond_true, live_ok, optAll_so]
  rw [decide_eq_false (by omega)]
  by_cases h2 : who < 1
  · rw [decide_eq_true h2]
    simp only [cond_true, cond_false, live_ok, optAll_so]
  rw [decide_eq_false h2, needs_iff, List.take_of_length_le (by simp)]
  simp only [cond_false]
  refine ⟨by omega, ?_⟩
  rcases start_ok who wait l (by omega) with ⟨g, e, hs, he⟩ | hs
  · rw [hs]
    simp only [optAll_so, num_ok]
    rw [show ((e != 0) : Bool) = true by simp [he]]
    simp only [cond_true, live_ok, optAll_so]
  · have hlen := cut_len l
    have hup := List.pairwise_iff_getElem.1 (cut_up l)
    rw [hs]
    simp only [optAll_so, num_ok, bne_self_eq_false, cond_false]
    generalize cut l = cs at *
    simp only [gt, List.length_map]
    -- back
    have down : ∀ m : Nat, m ≤ cs.length → law07_GrabSingle.H19 ((m : Int) - 1) who (cs.map ei) (if m = 0 then 5 else 4) m 0 wait (true, ()) := by
      intro m
      induction m with
      | zero =>
        intro _
        refine law07_GrabSingle.H19_step _ _ _ _ _ _ _ _ ?_
        rw [decide_eq_false (by omega), if_pos rfl, next25 (.inr rfl)]
        simp only [cond_false, optAll_so, beq_self_eq_true, cond_true, Bool.not_false, live_ok]
      | succ m ih =>
        intro hm
        refine law07_GrabSingle.H19_step _ _ _ _ _ _ _ _ ?_
        have hml : m < cs.length := by omega
        rw [decide_eq_true (by omega), if_neg (by omega), next34 (.inr rfl) hml (by omega), show ((m + 1 : Nat) : Int) - 1 = (m : Int) by omega]
        simp only [cond_true, optAll_so, op, Bool.not_true, cond_false, bne_self_eq_false, needs_nat, Int.toNat_natCast, map_get _ _ _ hml, ei0]
        rw [take_ok4 hml (by omega)]
        simp only [optAll_so, gt]
        rw [wrap_id (by omega) (by omega)]
        exact ih (by omega)
    have up : ∀ m i : Nat, i + m = cs.length → law07_GrabSingle.H9 who cs.length i who (cs.map ei) (if cs.length = i then 2 else 1) i 0 wait (true, ()) := by
      intro m
      induction m with
      | zero =>
        intro i hi
        refine law07_GrabSingle.H9_step _ _ _ _ _ _ _ _ _ _ ?_
        rw [decide_eq_false (by omega), if_pos (by omega), held_ok (by omega) (by omega), free_ok]
        simp only [cond_false, bne_self_eq_false, optAll_so, List.length_map]
        rw [show (cs.take i).length = cs.length by simp; omega]
        simp only [cond_false, bne_self_eq_false, gt]
        rw [wrap_id (by omega) (by omega)]
        have := down cs.length (Nat.le_refl _)
        rw [show i = cs.length by omega]
        exact this
      | succ m ih =>
        intro i hi
        refine law07_GrabSingle.H9_step _ _ _ _ _ _ _ _ _ _ ?_
        have hil : i < cs.length := by omega
        rw [decide_eq_true (by omega), if_neg (by omega), next1 hil, take_ok1 hil (by omega)]
        simp only [cond_true, optAll_so, op, Bool.not_true, cond_false, bne_self_eq_false, needs_nat, Int.toNat_natCast, map_get _ _ _ hil, ei0, gt]
        have nxt := ih (i + 1) (by omega)
        rw [wrap_succ (by omega)]
        have e : (if i + 1 = cs.length then (2 : Int) else 1) = if cs.length = i + 1 then 2 else 1 := by
          by_cases h : cs.length = i + 1
          · rw [if_pos h, if_pos h.symm]
          · rw [if_neg h, if_neg (fun e => h e.symm)]
        rw [e]
        by_cases hi0 : 0 < i
        · have hpl : i - 1 < cs.length := by omega
          rw [decide_eq_true (by omega), wrap_id (n := (i : Int) - 1) (by omega) (by omega), show (i : Int) - 1 = ((i - 1 : Nat) : Int) by omega]
          simp only [cond_true, needs_nat, Int.toNat_natCast, map_get _ _ _ hpl, optAll_so, ei0]
          have := hup (i - 1) i hpl hil (by omega)
          rw [decide_eq_false (by omega)]
          exact nxt
        · rw [decide_eq_false (by omega)]
          exact nxt
    have := up cs.length 0 (by omega)
    exact this
def eb (b : Bool) : List DV := [.v (.bool b)]
theorem eb0 (b : Bool) : dBool (eb b) 0 = some b := rfl
/-- Where a grab may be. -/
inductive Wh (cs : List Int) (wait : Bool) (i : Nat) : Int → Int → Int → Prop where
  | takes (a : Nat) (t : Nat) : a < cs.length → t ≤ i → (wait = true → t = 0) → Wh cs wait i 1 a t
  | has (a : Nat) (t : Nat) : a ≤ cs.length → t ≤ i → (wait = true → t = 0) → Wh cs wait i 2 a t
  | back (a : Nat) (t : Nat) : a < cs.length → t ≤ i → wait = false → Wh cs wait i 3 ((a + 1 : Nat) : Int) t
theorem waits_law (who : Int) (wait : Bool) (l : List Int) (oks : List Bool) : law07_GrabWaits.R who wait (l.map ei) (oks.map eb) = some (true, ()) := by
  refine law07_GrabWaits.start _ _ _ _ _ ?_
  rw [List.length_map, List.length_map]
  by_cases h1 : l.length > 64
  · rw [decide_eq_true (by omega)]
    simp only [cond_true, live_ok, optAll_so]
  rw [decide_eq_false (by omega)]
  by_cases h2 : oks.length > 300
  · rw [decide_eq_true (by omega)]
    simp only [cond_true, cond_false, live_ok, optAll_so]
  rw [decide_eq_false (by omega), needs_iff, List.take_of_length_le (by simp)]
  simp only [cond_false]
  refine ⟨by omega, ?_⟩
  rcases start_ok who wait l (by omega) with ⟨g, e, hs, he⟩ | hs
  · rw [hs]
    simp only [optAll_so, num_ok]
    rw [show ((e != 0) : Bool) = true by simp [he]]
    simp only [cond_true, live_ok, optAll_so]
  · have hlen := cut_len l
    rw [hs]
    simp only [optAll_so, num_ok, bne_self_eq_false, cond_false]
    generalize cut l = cs at *
    simp only [gt]
    have hcs : cs.length < 1000000 := by omega
    have main : ∀ m i : Nat, i + m = oks.length → ∀ ph at_ tries, Wh cs wait i ph at_ tries → law07_GrabWaits.H8 wait (oks.map eb) i who (cs.map ei) ph at_ tries wait (true, ()) := by
      intro m
      induction m with
      | zero =>
        intro i hi ph at_ tries hw
        refine law07_GrabWaits.H8_step _ _ _ _ _ _ _ _ _ _ ?_
        rw [List.length_map, decide_eq_false (by omega)]
        simp only [cond_false, live_ok, optAll_so]
      | succ m ih =>
        intro i hi ph at_ tries hw
        refine law07_GrabWaits.H8_step _ _ _ _ _ _ _ _ _ _ ?_
        have hil : i < oks.length := by omega
        rw [List.length_map, decide_eq_true (by omega)]
        simp only [cond_true, needs_nat, Int.toNat_natCast, map_get _ _ _ hil, optAll_so, eb0, List.length_map]
        rw [wrap_succ (show i < 4611686018427387904 by omega)]
        have ih := ih (i + 1) (by omega)
        generalize oks[i] = ok
        cases hw with
        | takes a t ha ht hwt =>
          have hn : decide (((cs.length : Nat) : Int) > 0) = true := decide_eq_true (by omega)
          have hh : ∀ (ph tr : Int), grab_Held.R who (cs.map ei) ph a tr wait = some ((cs.take a).map ei, ()) := fun ph tr => held_ok (by omega) hcs
          have hh1 : ∀ (ph tr : Int), grab_Held.R who (cs.map ei) ph ((a + 1 : Nat) : Int) tr wait = some ((cs.take (a + 1)).map ei, ()) := fun ph tr => held_ok (by omega) hcs
          have l0 : (((cs.take a).map ei).length : Int) = a := by simp; omega
          have l1 : (((cs.take (a + 1)).map ei).length : Int) = ((a + 1 : Nat) : Int) := by simp; omega
          have e31 : ((1 : Int) == 3) = false := rfl
          cases ok with
          | true =>
            rw [take_ok1 ha hcs]
            simp only [optAll_so, gt, beq_self_eq_true, cond_true, hh, hh1, l0, l1, hn, e31, cond_false, Bool.not_true]
            rw [wrap_succ (show a < 4611686018427387904 by omega), decide_eq_false (show ¬ (((a + 1 : Nat) : Int) < (a : Int)) by omega)]
            simp only [bne_self_eq_false, cond_false]
            have nxt : law07_GrabWaits.H8 wait (oks.map eb) ((i + 1 : Nat) : Int) who (cs.map ei) (if a + 1 = cs.length then 2 else 1) ((a + 1 : Nat) : Int) t wait (true, ()) := by
              by_cases e : a + 1 = cs.length
              · rw [if_pos e]; exact ih _ _ _ (.has (a + 1) t (by omega) (by omega) hwt)
              · rw [if_neg e]; exact ih _ _ _ (.takes (a + 1) t (by omega) (by omega) hwt)
            cases wait with
            | true =>
              obtain rfl := hwt rfl
              simp only [cond_true, show ((((0 : Nat) : Int)) != 0) = false from rfl, cond_false, Bool.not_true] at nxt ⊢
              exact nxt
            | false =>
              simp only [cond_false, Bool.not_false, cond_true] at nxt ⊢
              exact nxt
          | false =>
            cases wait with
            | true =>
              obtain rfl := hwt rfl
              rw [take_ok2 ha]
              simp only [optAll_so, gt, beq_self_eq_true, cond_true, hh, hh1, l0, l1, hn, e31, cond_false, Bool.not_true, Bool.not_false]
              rw [decide_eq_false (show ¬ ((a : Int) < (a : Int)) by omega)]
              simp only [bne_self_eq_false, cond_false]
              exact ih _ _ _ (.takes a 0 ha (by omega) (fun _ => rfl))
            | false =>
              rw [take_ok3 ha]
              have et : IntKind.i64.wrap ((t : Int) + 1) = ((t + 1 : Nat) : Int) := wrap_succ (by omega)
              simp only [optAll_so, gt, beq_self_eq_true, cond_true, hh, hh1, l0, l1, hn, e31, cond_false, Bool.not_true, Bool.not_false, et, bne_self_eq_false]
              by_cases e : 0 < a
              · rw [if_pos e, decide_eq_true (show (a : Int) > 0 by omega)]
                simp only [beq_self_eq_true, Bool.not_true, cond_false]
                have := ih _ _ _ (.back (a - 1) (t + 1) (by omega) (by omega) rfl)
                rw [show a - 1 + 1 = a by omega] at this
                exact this
              · rw [if_neg e, decide_eq_false (show ¬ (a : Int) > 0 by omega)]
                simp only [e31, beq_self_eq_true, Bool.not_true, cond_false]
                exact ih _ _ _ (.takes a (t + 1) ha (by omega) (fun h => by cases h))
        | has a t ha ht hwt =>
          rw [take_ok25 (.inl rfl)]
          simp only [optAll_so, gt, show ((2 : Int) == 1) = false from rfl, show ((2 : Int) == 3) = false from rfl, cond_false]
          exact ih _ _ _ (.has a t ha (by omega) hwt)
        | back a t ha ht hwt =>
          subst hwt
          rw [take_ok3b ha hcs]
          simp only [optAll_so, gt, show ((3 : Int) == 1) = false from rfl, beq_self_eq_true, cond_false, cond_true]
          rw [held_ok (by omega) hcs, held_ok (by omega) hcs]
          have l0 : (((cs.take a).map ei).length : Int) = a := by simp; omega
          have l1 : (((cs.take (a + 1)).map ei).length : Int) = ((a + 1 : Nat) : Int) := by simp; omega
          simp only [optAll_so, l0, l1]
          rw [wrap_id (by omega) (by omega), show ((a + 1 : Nat) : Int) - 1 = (a : Int) by omega]
          simp only [bne_self_eq_false, cond_false]
          by_cases e : 0 < a
          · rw [if_pos e]
            have := ih _ _ _ (.back (a - 1) t (by omega) (by omega) rfl)
            rw [show a - 1 + 1 = a by omega] at this
            exact this
          · rw [if_neg e]
            exact ih _ _ _ (.takes a t ha (by omega) (fun h => by cases h))
    refine main oks.length 0 (by omega) _ _ _ ?_
    by_cases h0 : cs.length = 0
    · rw [if_pos h0]; exact .has 0 0 (by omega) (by omega) (fun _ => rfl)
    · rw [if_neg h0]; exact .takes 0 0 (by omega) (by omega) (fun _ => rfl)
end Grabs
end Go.AI
