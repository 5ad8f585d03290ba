/-
  Own work. The ports' functions: notices; the document's side.
-/
import Derived.Test.YtlkaolahadcjbaaPort3
namespace Go.AI
open Go
set_option linter.unusedVariables false
set_option linter.unusedSimpArgs false
namespace Port
open Kit
def bor (a b : Int) : Int := IntKind.i64.wrap (((BitVec.toNat ((BitVec.ofInt 64 a) ||| (BitVec.ofInt 64 b))) : Nat) : Int)
def signal (p : P) (n : Int) : P × W × Bool :=
  if goodP p = false then (p, w0, false)
  else if p.kind = 2 then (leave p 0, { p.q.getD 0 w0 with value := n }, true)
  else if p.kind = 0 then (⟨p.kind, bor p.word n, p.q⟩, w0, false)
  else (p, w0, false)
abbrev ST := PT × (WT × (Bool × Unit))
def tS (r : P × W × Bool) : ST := (tP r.1, (tW r.2.1, (r.2.2, ())))
theorem signal_ok (p : P) (n : Int) (hl : p.q.length < 1000000) : port_Signal.R p.kind p.word (p.q.map encW) n = some (tS (signal p n)) := by
  refine port_Signal.start _ _ _ _ _ ?_
  simp only [check_ok p hl, optAll_so, cond_ite, bne_iff_ne, beq_iff_eq]
  unfold signal
  by_cases h0 : goodP p = true
  · rw [if_pos h0, if_neg (fun e => e rfl), if_neg (show ¬ goodP p = false by rw [h0]; decide)]
    by_cases h1 : p.kind = 2
    · rw [if_pos h1, if_pos h1]
      have hq := good_len h0 (by omega)
      rw [show port_leave.R p.kind p.word (p.q.map encW) 0 = some (tP (leave p 0), (tW p.q[0], ())) from leave_ok p 0 hq hl]
      simp only [optAll_so]
      rw [show p.q.getD 0 w0 = p.q[0] by simp [List.getD, hq]]
      rfl
    · rw [if_neg h1, if_neg h1]
      by_cases h2 : p.kind = 0
      · rw [if_pos h2, if_pos h2]; rfl
      · rw [if_neg h2, if_neg h2]; rfl
  · rw [if_neg h0, if_pos (by decide), if_pos (show goodP p = false by simpa using h0)]; rfl
def wait (p : P) (c : Int) : P × Int × Int :=
  if begin' p c ≠ 0 then (p, 0, begin' p c)
  else if p.word ≠ 0 then (⟨p.kind, 0, p.q⟩, p.word, 0)
  else (join p 2 { w0 with core := c }, 0, 0)
abbrev AT := PT × (Int × (Int × Unit))
def tA (r : P × Int × Int) : AT := (tP r.1, (r.2.1, (r.2.2, ())))
theorem wait_ok (p : P) (c : Int) (hl : p.q.length < 1000000) : port_Wait.R p.kind p.word (p.q.map encW) c = some (tA (wait p c)) := by
  refine port_Wait.start _ _ _ _ _ ?_
  have hj : port_join.R p.kind p.word (p.q.map encW) 2 c 0 0 false 0 0 0 false = some (tP (join p 2 { w0 with core := c }), ()) := join_ok p 2 { w0 with core := c } hl
  simp only [begin_ok p c hl, hj, optAll_so, cond_ite, bne_iff_ne]
  unfold wait
  by_cases h0 : begin' p c ≠ 0
  · rw [if_pos h0, if_pos h0]; rfl
  rw [if_neg h0, if_neg h0]
  by_cases h1 : p.word ≠ 0
  · rw [if_pos h1, if_pos h1]; rfl
  · rw [if_neg h1, if_neg h1]; rfl
def drop (p : P) (c : Int) : P × Bool := if idx p.q c < 0 then (p, false) else (leave p (idx p.q c).toNat, true)
def tD (r : P × Bool) : PT × (Bool × Unit) := (tP r.1, (r.2, ()))
theorem drop_ok (p : P) (c : Int) (hl : p.q.length < 1000000) : port_Drop.R p.kind p.word (p.q.map encW) c = some (tD (drop p c)) := by
  refine port_Drop.start _ _ _ _ _ ?_
  simp only [at_ok p c hl, optAll_so]
  unfold drop
  rcases idx_cases p.q c with ⟨h1, _⟩ | ⟨k, hk, h1, _⟩
  · rw [h1]; rfl
  · rw [h1, decide_eq_false (by omega), if_neg (by omega), leave_ok p k hk hl]
    rfl
/-! The document's side. -/
theorem ref_core_ok (c : Int) : ref16_core.R c = some (decide (isCore c), ()) := by
  refine ref16_core.start _ _ ?_
  simp only [cond_ite, decide_eq_true_eq]
  rw [isCore_dec]
  split
  · simp_all
  · rw [decide_eq_false (by omega)]; rfl
theorem find_loop (k w : Int) (q : List W) (c : Int) (hl : q.length < 1000000) : ∀ m i : Nat, i + m = q.length → ref16_find.H3 c i k w (q.map encW) (idxTo q c i, ()) := by
  intro m
  induction m with
  | zero =>
    intro i hi
    refine ref16_find.H3_step _ _ _ _ _ _ ?_
    rw [decide_eq_false (by simp; omega), idxTo_end q c i (by omega)]
    rfl
  | succ m ih =>
    intro i hi
    refine ref16_find.H3_step _ _ _ _ _ _ ?_
    have hil : i < q.length := by omega
    rw [decide_eq_true (by simp; omega), idxTo_step q c i hil]
    simp only [cond_true, needs_nat, Int.toNat_natCast, map_get _ _ _ hil, optAll_so, w0_, w1_, w2_, w3_, w4_, w5_, w6_, w7_, cond_ite, beq_iff_eq, wrap_succ (show i < 4611686018427387904 by omega)]
    split
    · rfl
    · exact ih (i + 1) (by omega)
theorem find_ok (p : P) (c : Int) (hl : p.q.length < 1000000) : ref16_find.R p.kind p.word (p.q.map encW) c = some (idx p.q c, ()) := by
  refine ref16_find.start _ _ _ _ _ ?_
  have := find_loop p.kind p.word p.q c hl p.q.length 0 (by omega)
  rw [idxTo_zero] at this
  exact this
theorem without_ok (p : P) (i : Nat) (hi : i < p.q.length) (hl : p.q.length < 1000000) : ref16_without.R p.kind p.word (p.q.map encW) i = some (tP (leave p i), ()) := by
  refine ref16_without.start _ _ _ _ _ ?_
  have hw : IntKind.i64.wrap ((i : Int) + 1) = ((i + 1 : Nat) : Int) := wrap_succ (by omega)
  have hT : ((p.q.map encW).take i ++ ((p.q.map encW).take p.q.length).drop (i + 1)) = (p.q.take i ++ p.q.drop (i + 1)).map encW := by
    rw [take_map_len, List.map_append, List.map_take, List.map_drop]
  have hTl : (p.q.take i ++ p.q.drop (i + 1)).length = p.q.length - 1 := by simp; omega
  have hfin : ((p.q.take i ++ p.q.drop (i + 1)).map encW).take (p.q.length - 1) = (p.q.take i ++ p.q.drop (i + 1)).map encW := List.take_of_length_le (by rw [List.length_map, hTl]; exact Nat.le_refl _)
  simp only [hw, Int.toNat_natCast, List.length_map, hT, List.take_length, needs_iff, hTl]
  refine ⟨⟨by omega, by omega, by omega⟩, ⟨by simp; omega, by simp; omega⟩, ⟨by omega, by omega, by omega⟩, trivial, ⟨by omega, by omega⟩, ?_⟩
  by_cases h1 : p.q.length = 1
  · rw [show ((p.q.length - 1 : Nat) : Int) = 0 by omega]
    simp only [beq_self_eq_true, cond_true, leave, tP, if_pos h1]
    rw [hfin]
  · rw [show (((p.q.length - 1 : Nat) : Int) == 0) = false by simp; omega]
    simp only [cond_false, leave, tP, if_neg h1]
    rw [hfin]
end Port
end Go.AI
