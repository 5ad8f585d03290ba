/-
  Own work. The ports' functions: who leaves, who joins, who meets whom.
-/
import Derived.Test.YtlkaolahadcjbaaPort1
namespace Go.AI
open Go
set_option linter.unusedVariables false
set_option linter.unusedSimpArgs false
namespace Port
open Kit
abbrev WT := Int × (Int × (Int × (Bool × (Int × (Int × (Int × (Bool × Unit)))))))
def tW (w : W) : WT := (w.core, (w.value, (w.badge, (w.has, (w.ko, (w.ks, (w.gen, (w.grant, ()))))))))
abbrev PT := Int × (Int × (List (List DV) × Unit))
def tP (p : P) : PT := (p.kind, (p.word, (p.q.map encW, ())))
def leave (p : P) (i : Nat) : P := ⟨if p.q.length = 1 then 0 else p.kind, p.word, p.q.take i ++ p.q.drop (i + 1)⟩
theorem over_two (L T Z : List (List DV)) (i n : Nat) (hi : i ≤ L.length) (hn : n = i + T.length) (hT : n ≤ L.length) : (overD (overD L i T) n Z).take n = L.take i ++ T := by
  have h1 : (overD L i T).length = L.length := by
    unfold overD
    simp only [List.length_append, List.length_take, List.length_drop]
    omega
  have h2 : ((overD L i T).take n).length = n := by rw [List.length_take, h1]; omega
  rw [show overD (overD L i T) n Z = (overD L i T).take n ++ (Z ++ (overD L i T).drop (n + Z.length)) from rfl]
  rw [List.take_append_of_le_length (by omega), List.take_take, Nat.min_self]
  rw [show overD L i T = L.take i ++ (T ++ L.drop (i + T.length)) from rfl, ← List.append_assoc]
  rw [List.take_append_of_le_length (by simp only [List.length_append, List.length_take]; omega)]
  exact List.take_of_length_le (by simp only [List.length_append, List.length_take]; omega)
theorem leave_ok (p : P) (i : Nat) (hi : i < p.q.length) (hl : p.q.length < 1000000) : port_leave.R p.kind p.word (p.q.map encW) i = some (tP (leave p i), (tW p.q[i], ())) := by
  refine port_leave.start _ _ _ _ _ ?_
  have hw : IntKind.i64.wrap ((i : Int) + 1) = ((i + 1 : Nat) : Int) := wrap_succ (by omega)
  have e1 : ((i : Int) == ((i + 1 : Nat) : Int)) = false := by
    rw [Bool.eq_false_iff]; intro h; have := beq_iff_eq.1 h; omega
  have hT : ((p.q.map encW).drop (i + 1)).take (p.q.length - (i + 1)) = (p.q.drop (i + 1)).map encW := by
    rw [← List.map_drop]
    exact List.take_of_length_le (by simp)
  have hTl : ((p.q.drop (i + 1)).map encW).length = p.q.length - (i + 1) := by simp
  have e2 : decide ((0 : Nat) = 0 ∧ i = p.q.length) = false := decide_eq_false (by omega)
  simp only [hw, Int.toNat_natCast, Nat.zero_add, Nat.sub_zero, List.length_map, List.drop_zero, hT, hTl, e1, e2, cond_false, map_get _ _ _ hi, optAll_so, w0_, w1_, w2_, w3_, w4_, w5_, w6_, w7_, needs_iff]
  have hov : (overD (p.q.map encW) i ((p.q.drop (i + 1)).map encW)).length = p.q.length := by
    unfold overD
    simp only [List.length_append, List.length_take, List.length_drop, List.length_map]
    omega
  have hn : i + (p.q.drop (i + 1)).length = p.q.length - 1 := by simp; omega
  have hfin : ∀ Z, (overD (overD (p.q.map encW) i ((p.q.drop (i + 1)).map encW)) (p.q.length - 1) Z).take (p.q.length - 1) = (p.q.take i ++ p.q.drop (i + 1)).map encW := by
    intro Z
    rw [over_two _ _ Z i _ (by simp; omega) (by rw [hTl]; omega) (by simp), List.map_append, List.map_take]
  simp only [hov]
  refine ⟨by omega, ⟨by omega, by omega⟩, ⟨by omega, by omega⟩, ⟨by omega, by omega, by omega⟩, by omega, ⟨by omega, by omega, by omega⟩, ⟨by omega, by omega, by omega⟩, ?_⟩
  rw [decide_eq_false (show ¬ (True ∧ i = p.q.length) from fun h => by have := h.2; omega)]
  simp only [cond_false]
  have hn2 : i + (p.q.length - (i + 1)) = p.q.length - 1 := by omega
  refine ⟨by omega, ⟨by omega, by omega, by omega⟩, ?_⟩
  simp only [hn2, hfin]
  by_cases h1 : p.q.length = 1
  · rw [show ((p.q.length - 1 : Nat) : Int) = 0 by omega]
    simp only [beq_self_eq_true, cond_true, leave, tP, tW, if_pos h1]
  · rw [show (((p.q.length - 1 : Nat) : Int) == 0) = false by simp; omega]
    simp only [cond_false, leave, tP, tW, if_neg h1]
def join (p : P) (k : Int) (w : W) : P := ⟨k, p.word, p.q ++ [w]⟩
theorem encW_is (w : W) : encW w = [.v (.int .i64 w.core), .v (.int .i64 w.value), .v (.int .i64 w.badge), .v (.bool w.has), .v (.int .i64 w.ko), .v (.int .i64 w.ks), .v (.int .i64 w.gen), .v (.bool w.grant)] := rfl
theorem join_ok (p : P) (k : Int) (w : W) (hl : p.q.length < 1000000) : port_join.R p.kind p.word (p.q.map encW) k w.core w.value w.badge w.has w.ko w.ks w.gen w.grant = some (tP (join p k w), ()) := by
  refine port_join.start _ _ _ _ _ _ _ _ _ _ _ _ _ ?_
  simp only [← encW_is, List.take_succ_cons, List.take_zero, List.take_length, needs_iff]
  refine ⟨by simp; omega, trivial, by simp; omega, ?_⟩
  simp [tP, join]
/-- The first error of one who comes. -/
def begin' (p : P) (c : Int) : Int := if isCore c ∧ goodP p = true then (if idx p.q c < 0 then 0 else 8) else 2
theorem begin_ok (p : P) (c : Int) (hl : p.q.length < 1000000) : port_begin.R p.kind p.word (p.q.map encW) c = some (begin' p c, ()) := by
  refine port_begin.start _ _ _ _ _ ?_
  simp only [core_ok, check_ok p hl, at_ok p c hl, optAll_so]
  unfold begin'
  by_cases h1 : isCore c
  · by_cases h2 : goodP p = true
    · rw [if_pos h2, if_pos ⟨h1, h2⟩, decide_eq_true h1]
      by_cases h3 : idx p.q c < 0
      · rw [if_pos h3, decide_eq_false (by omega)]; rfl
      · rw [if_neg h3, decide_eq_true (by omega)]; rfl
    · rw [if_neg h2, if_neg (fun e => h2 e.2), decide_eq_true h1]; rfl
  · rw [if_neg (fun e => h1 e.1), decide_eq_false h1]; rfl
/-- One comes who meets those of a kind, or waits as one of another kind. -/
def meet (p : P) (w : W) (other kind : Int) : P × W × Bool × Int :=
  if begin' p w.core ≠ 0 then (p, w0, false, begin' p w.core)
  else if p.kind = other then (leave p 0, p.q.getD 0 w0, true, 0)
  else (join p kind w, w0, false, 0)
abbrev MT := PT × (WT × (Bool × (Int × Unit)))
def tM (r : P × W × Bool × Int) : MT := (tP r.1, (tW r.2.1, (r.2.2.1, (r.2.2.2, ()))))
theorem begin_good {p : P} {c : Int} (h : begin' p c = 0) : isCore c ∧ goodP p = true ∧ idx p.q c = -1 := by
  unfold begin' at h
  split at h
  · rename_i h1
    split at h
    · rename_i h2
      rcases idx_cases p.q c with ⟨h3, _⟩ | ⟨k, _, h3, _⟩
      · exact ⟨h1.1, h1.2, h3⟩
      · omega
    · cases h
  · cases h
theorem good_len {p : P} (h : goodP p = true) (hk : p.kind ≠ 0) : 0 < p.q.length := by
  unfold goodP at h
  simp only [Bool.and_eq_true] at h
  obtain ⟨⟨⟨⟨_, _⟩, h3⟩, _⟩, _⟩ := h
  have h4 : (p.kind == 0) = false := by simpa using hk
  rw [h4] at h3
  have h5 : ((p.q.length : Int) == 0) = false := by
    cases hb : ((p.q.length : Int) == 0)
    · rfl
    · rw [hb] at h3; cases h3
  have : (p.q.length : Int) ≠ 0 := by simpa using h5
  omega
theorem meet_ok (p : P) (w : W) (other kind : Int) (ho : other ≠ 0) (hl : p.q.length < 1000000) : port_meet.R p.kind p.word (p.q.map encW) w.core w.value w.badge w.has w.ko w.ks w.gen w.grant other kind = some (tM (meet p w other kind)) := by
  refine port_meet.start _ _ _ _ _ _ _ _ _ _ _ _ _ _ ?_
  simp only [begin_ok p w.core hl, join_ok p kind w hl, optAll_so, cond_ite, bne_iff_ne, beq_iff_eq]
  unfold meet
  by_cases h0 : begin' p w.core ≠ 0
  · rw [if_pos h0, if_pos h0]; rfl
  rw [if_neg h0, if_neg h0]
  by_cases h1 : p.kind = other
  · rw [if_pos h1, if_pos h1]
    have hg := begin_good (Decidable.not_not.1 h0)
    have hq := good_len hg.2.1 (by rw [h1]; exact ho)
    have hlv := leave_ok p 0 hq hl
    rw [show port_leave.R p.kind p.word (p.q.map encW) 0 = some (tP (leave p 0), (tW p.q[0], ())) from hlv]
    simp only [optAll_so]
    rw [show p.q.getD 0 w0 = p.q[0] by simp [List.getD, hq]]
    rfl
  · rw [if_neg h1, if_neg h1]; rfl
def send (p : P) (w : W) : P × W × Bool × Int := meet p w 2 1
def recv (p : P) (w : W) : P × W × Bool × Int := meet p w 1 2
theorem send_ok (p : P) (w : W) (hl : p.q.length < 1000000) : port_Send.R p.kind p.word (p.q.map encW) w.core w.value w.badge w.has w.ko w.ks w.gen w.grant = some (tM (send p w)) := by
  refine port_Send.start _ _ _ _ _ _ _ _ _ _ _ _ ?_
  rw [meet_ok p w 2 1 (by decide) hl]
  rfl
theorem recv_ok (p : P) (w : W) (hl : p.q.length < 1000000) : port_Recv.R p.kind p.word (p.q.map encW) w.core w.value w.badge w.has w.ko w.ks w.gen w.grant = some (tM (recv p w)) := by
  refine port_Recv.start _ _ _ _ _ _ _ _ _ _ _ _ ?_
  rw [meet_ok p w 1 2 (by decide) hl]
  rfl
end Port
end Go.AI
