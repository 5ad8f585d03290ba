/-
  Own work. The ports' law PortDrops.
-/
import Derived.Test.YtlkaolahadcjbaaPort4
namespace Go.AI
open Go
set_option linter.unusedVariables false
set_option linter.unusedSimpArgs false
namespace Port
open Kit
theorem ref_same_ok (a b : P) (ha : a.q.length < 1000000) : ref16_Same.R a.kind a.word (a.q.map encW) b.kind b.word (b.q.map encW) = some (decide (a = b), ()) := by
  refine ref16_Same.start _ _ _ _ _ _ _ ?_
  have e : decide (a = b) = decide (a.kind = b.kind ∧ a.word = b.word ∧ a.q = b.q) := decide_eq_decide.2 (eqP a b).symm
  simp only [List.length_map, cond_ite, bne_iff_ne]
  by_cases h1 : a.kind = b.kind
  · by_cases h2 : a.word = b.word
    · by_cases hl : a.q.length = b.q.length
      · rw [if_neg (fun h => h h1), if_neg (fun h => h h2), if_neg (by omega)]
        have e2 : decide (a = b) = decide (a.q = b.q) := by rw [e]; simp [h1, h2]
        rw [e2]
        refine eq_loop a.q b.q (fun i c => ref16_Same.H5 i a.kind a.word (a.q.map encW) b.kind b.word (b.q.map encW) c) hl fun i c g1 g2 => ?_
        refine ref16_Same.H5_step _ _ _ _ _ _ _ _ ?_
        by_cases hi : i < a.q.length
        · obtain ⟨k1, k2⟩ := g1 hi
          simp only [List.length_map, cond_ite, decide_eq_true_eq, needs_nat, Int.toNat_natCast, map_get _ _ _ hi, map_get _ _ _ (hl ▸ hi), optAll_so, w0_, w1_, w2_, w3_, w4_, w5_, w6_, w7_, eqW, Bool.not_eq_true', decide_eq_false_iff_not, wrap_succ (show i < 4611686018427387904 by omega)]
          rw [if_pos (by omega)]
          split
          · rename_i h; exact k2 h
          · rename_i h; exact k1 (Decidable.not_not.1 h)
        · simp only [List.length_map, cond_ite, decide_eq_true_eq]
          rw [if_neg (by omega)]
          exact g2 (by omega)
      · rw [if_neg (fun h => h h1), if_neg (fun h => h h2), if_pos (by omega), e, decide_eq_false]
        rintro ⟨_, _, h⟩; exact hl (by rw [h])
    · rw [if_neg (fun h => h h1), if_pos h2, e, decide_eq_false]
      rintro ⟨_, h, _⟩; exact h2 h
  · rw [if_pos h1, e, decide_eq_false]
    rintro ⟨h, _⟩; exact h1 h
/-! Who is dropped. -/
theorem good_filter {q : List W} (h : good q [] = true) (f : W → Bool) : good (q.filter f) [] = true := by
  obtain ⟨h1, h2⟩ := (good_iff q []).1 h
  refine (good_iff _ []).2 ⟨fun w hw => h1 w (List.mem_filter.1 hw).1, ?_⟩
  exact List.Pairwise.sublist (List.Sublist.map _ List.filter_sublist) h2
theorem leave_filter : ∀ (q : List W) (k : Nat) (hk : k < q.length), (q.map W.core).Nodup → q.take k ++ q.drop (k + 1) = q.filter (fun w => w.core != (q[k]).core)
  | w :: q, 0, hk, h => by
    simp only [List.map_cons, List.nodup_cons] at h
    simp only [List.take_zero, List.nil_append, Nat.zero_add, List.drop_succ_cons, List.drop_zero, List.getElem_cons_zero]
    rw [List.filter_cons_of_neg (by simp), List.filter_eq_self.2]
    intro x hx
    have : x.core ≠ w.core := fun e => h.1 (List.mem_map.2 ⟨x, hx, e⟩)
    simpa using this
  | w :: q, k + 1, hk, h => by
    simp only [List.map_cons, List.nodup_cons] at h
    have hk' : k < q.length := by simpa using hk
    have ih := leave_filter q k hk' h.2
    simp only [List.take_succ_cons, List.drop_succ_cons, List.getElem_cons_succ, List.cons_append]
    have hne : w.core ≠ (q[k]).core := fun e => h.1 (List.mem_map.2 ⟨q[k], List.getElem_mem hk', e.symm⟩)
    rw [List.filter_cons_of_pos (by simpa using hne), ih]
def rest (q : List W) (c : Int) : List W := q.filter fun w => w.core != c
theorem goodP_parts {p : P} (h : goodP p = true) : 0 ≤ p.kind ∧ p.kind ≤ 2 ∧ (p.kind = 0 ↔ p.q = []) ∧ (p.kind ≠ 0 → p.word = 0) ∧ good p.q [] = true := by
  unfold goodP at h
  simp only [Bool.and_eq_true, Bool.not_eq_true', decide_eq_false_iff_not, Bool.or_eq_true, beq_iff_eq] at h
  obtain ⟨⟨⟨⟨h1, h2⟩, h3⟩, h4⟩, h5⟩ := h
  refine ⟨by omega, by omega, ?_, fun e => h4.resolve_left e, h5⟩
  have h6 : (p.kind = 0) ↔ ((p.q.length : Int) = 0) := by
    have := Bool.eq_iff_iff.1 h3
    simpa using this
  rw [h6, ← List.length_eq_zero_iff]
  omega
/-- A good port without a core: the others in their order. -/
theorem drop_is {p : P} (hg : goodP p = true) (c : Int) : drop p c = (⟨if rest p.q c = [] then 0 else p.kind, p.word, rest p.q c⟩, decide ((rest p.q c).length < p.q.length)) := by
  obtain ⟨h0, h2, hk, hw, hgood⟩ := goodP_parts hg
  have hnd := ((good_iff p.q []).1 hgood).2
  unfold drop
  rcases idx_cases p.q c with ⟨h1, hn⟩ | ⟨k, hkl, h1, hc, _⟩
  · rw [h1, if_pos (by omega)]
    have e : rest p.q c = p.q := List.filter_eq_self.2 fun w hw => by simpa using hn w hw
    rw [e, decide_eq_false (by omega)]
    by_cases hq : p.q = []
    · rw [if_pos hq, ← hk.2 hq]
    · rw [if_neg hq]
  · rw [h1, if_neg (by omega), Int.toNat_natCast]
    have e : p.q.take k ++ p.q.drop (k + 1) = rest p.q c := by
      rw [leave_filter p.q k hkl hnd, hc]; rfl
    have el : (rest p.q c).length = p.q.length - 1 := by rw [← e]; simp; omega
    rw [decide_eq_true (by omega)]
    unfold leave
    rw [e]
    by_cases hl : p.q.length = 1
    · rw [if_pos hl, if_pos (List.length_eq_zero_iff.1 (by omega))]
    · rw [if_neg hl, if_neg (fun h => by rw [h] at el; simp at el; omega)]
theorem drop_good {p : P} (hg : goodP p = true) (c : Int) : goodP (drop p c).1 = true := by
  obtain ⟨h0, h2, hk, hw, hgood⟩ := goodP_parts hg
  rw [drop_is hg]
  refine goodP_of ?_ ?_ ?_ ?_ (good_filter hgood _)
  · show 0 ≤ if _ then (0 : Int) else p.kind
    split <;> omega
  · show (if _ then (0 : Int) else p.kind) ≤ 2
    split <;> omega
  · show (if rest p.q c = [] then (0 : Int) else p.kind) = 0 ↔ rest p.q c = []
    constructor
    · intro e
      by_cases h : rest p.q c = []
      · exact h
      · rw [if_neg h] at e
        have := hk.1 e
        unfold rest; rw [this]; rfl
    · intro e; rw [if_pos e]
  · intro e
    refine hw fun e2 => e ?_
    show (if rest p.q c = [] then (0 : Int) else p.kind) = 0
    split
    · rfl
    · exact e2
theorem drop_twice {p : P} (hg : goodP p = true) (c : Int) : drop (drop p c).1 c = ((drop p c).1, false) := by
  have hg2 := drop_good hg c
  rw [drop_is hg2, drop_is hg]
  have e : rest (rest p.q c) c = rest p.q c := by unfold rest; rw [List.filter_filter]; congr 1; funext w; simp
  simp only [e]
  rw [decide_eq_false (by omega)]
  by_cases h : rest p.q c = []
  · simp [h]
  · simp [h]
theorem drops_loop (p : P) (hg : goodP p = true) (hl : p.q.length ≤ 100) (c : Int) : ∀ m i : Nat, i + m = p.q.length →
    law16_PortDrops.H7 c (drop p c).2 ((rest (p.q.take i) c).map encW) i p.kind p.word (p.q.map encW) (drop p c).1.kind (drop p c).1.word ((drop p c).1.q.map encW) (true, ()) := by
  have hq : (drop p c).1.q = rest p.q c := by rw [drop_is hg]
  have hrl : (rest p.q c).length ≤ p.q.length := List.length_filter_le _ _
  have hql : (drop p c).1.q.length < 1000000 := by rw [hq]; omega
  intro m
  induction m with
  | zero =>
    intro i hi
    refine law16_PortDrops.H7_step _ _ _ _ _ _ _ _ _ _ _ ?_
    have ht : p.q.take i = p.q := List.take_of_length_le (by omega)
    have hin : decide ((i : Int) < (p.q.length : Int)) = false := decide_eq_false (by omega)
    rw [ht]
    simp only [List.length_map, hin, cond_false, drop_ok (drop p c).1 c hql, optAll_so, drop_twice hg c, tD, tP]
    have hb : ((drop p c).2 == decide (((rest p.q c).length : Int) < (p.q.length : Int))) = true := by
      rw [drop_is hg]
      simp
    have hs1 := ref_same_ok (drop p c).1 (drop p c).1 hql
    have hs2 := ref_same_ok ⟨0, 0, (drop p c).1.q⟩ ⟨0, 0, rest p.q c⟩ hql
    have hck := check_ok (drop p c).1 hql
    rw [hq] at hs1 hs2 hck
    have hw : ((drop p c).1.word == p.word) = true := by rw [drop_is hg]; simp
    rw [hb]
    simp only [hq]
    simp only [cond_true, Bool.not_false, hs1, optAll_so, decide_true, hck, drop_good hg c, if_true, num_ok, beq_self_eq_true, take_map_len]
    rw [show ref16_Same.R 0 0 ((rest p.q c).map encW) 0 0 ((rest p.q c).map encW) = some (decide ((⟨0, 0, rest p.q c⟩ : P) = ⟨0, 0, rest p.q c⟩), ()) from hs2]
    simp only [optAll_so, decide_true, cond_true, hw, live_ok]
  | succ m ih =>
    intro i hi
    refine law16_PortDrops.H7_step _ _ _ _ _ _ _ _ _ _ _ ?_
    have hil : i < p.q.length := by omega
    have hin : decide ((i : Int) < (p.q.length : Int)) = true := decide_eq_true (by omega)
    have nxt := ih (i + 1) (by omega)
    have hr : rest (p.q.take (i + 1)) c = rest (p.q.take i) c ++ (if p.q[i].core = c then [] else [p.q[i]]) := by
      rw [List.take_succ_eq_append_getElem hil]
      unfold rest
      rw [List.filter_append]
      congr 1
      by_cases h : p.q[i].core = c
      · rw [if_pos h]; simp [h]
      · rw [if_neg h]; simp [h]
    have hrl2 : (rest (p.q.take i) c).length ≤ 100 := by
      have : (rest (p.q.take i) c).length ≤ (p.q.take i).length := List.length_filter_le _ _
      rw [List.length_take] at this; omega
    rw [hr] at nxt
    simp only [List.length_map, hin, cond_true, needs_nat, Int.toNat_natCast, map_get _ _ _ hil, optAll_so, w0_, w1_, w2_, w3_, w4_, w5_, w6_, w7_, ← encW_is, List.take_succ_cons, List.take_zero, cond_ite, bne_iff_ne, wrap_succ (show i < 4611686018427387904 by omega)]
    by_cases h : p.q[i].core = c
    · rw [if_neg (fun e => e h)]
      rw [if_pos h, List.append_nil] at nxt
      exact nxt
    · rw [if_pos h]
      rw [if_neg h, List.map_append] at nxt
      refine needs_iff.2 ⟨trivial, needs_iff.2 ⟨⟨?_, ?_⟩, nxt⟩⟩
      · simp only [List.length_append, List.length_map, List.length_cons, List.length_nil]; omega
      · simp only [List.length_append, List.length_map, List.length_cons, List.length_nil]; omega
theorem drops_law (p : P) (c : Int) : law16_PortDrops.R p.kind p.word (p.q.map encW) c = some (true, ()) := by
  refine law16_PortDrops.start _ _ _ _ _ ?_
  simp only [List.length_map]
  by_cases h : (p.q.length : Int) > 100
  · rw [decide_eq_true h]; simp only [live_ok, optAll_so, cond_true]
  rw [decide_eq_false h]
  simp only [cond_false, check_ok p (show p.q.length < 1000000 by omega), optAll_so, num_ok]
  by_cases hg : goodP p = true
  · rw [if_pos hg]
    simp only [bne_self_eq_false, cond_false, drop_ok p c (show p.q.length < 1000000 by omega), optAll_so, tD, tP]
    exact drops_loop p hg (by omega) c p.q.length 0 (by omega)
  · rw [if_neg hg]
    simp only [live_ok, optAll_so]
    exact True.intro
end Port
end Go.AI
