/-
  Own work. The ports' law PortFirst.
-/
import Derived.Test.YtlkaolahadcjbaaPort6
namespace Go.AI
open Go
set_option linter.unusedVariables false
set_option linter.unusedSimpArgs false
namespace Port
open Kit
theorem first_step (p : P) (a : A) (hk : a.kind = 0 ∨ a.kind = 1) (hg : goodP p = true) (hw : p.word = 0) :
    (∃ e, e ≠ 0 ∧ acts p a = (p, w0, false, 0, e)) ∨
    (p.kind ≠ a.kind + 1 ∧ ∃ w r, p.q = w :: r ∧ acts p a = (⟨if r = [] then 0 else p.kind, 0, r⟩, w, true, 0, 0) ∧ goodP ⟨if r = [] then 0 else p.kind, 0, r⟩ = true) ∨
    ((p.q ≠ [] → p.kind = a.kind + 1) ∧ acts p a = (⟨a.kind + 1, 0, p.q ++ [a.w]⟩, w0, false, 0, 0) ∧ goodP ⟨a.kind + 1, 0, p.q ++ [a.w]⟩ = true) := by
  obtain ⟨h0, h2, hkq, hkw, hgood⟩ := goodP_parts hg
  have hacts : acts p a = ((meet p a.w (2 - a.kind) (a.kind + 1)).1, (meet p a.w (2 - a.kind) (a.kind + 1)).2.1, (meet p a.w (2 - a.kind) (a.kind + 1)).2.2.1, 0, (meet p a.w (2 - a.kind) (a.kind + 1)).2.2.2) := by
    rcases hk with e | e
    · unfold acts; rw [if_pos e, e]; rfl
    · unfold acts; rw [if_neg (by omega), if_pos e, e]; rfl
  rw [hacts]
  by_cases hb : begin' p a.w.core = 0
  · obtain ⟨hc, _, hx⟩ := begin_good hb
    by_cases ho : p.kind = 2 - a.kind
    · refine .inr (.inl ⟨by omega, ?_⟩)
      have hm : meet p a.w (2 - a.kind) (a.kind + 1) = (leave p 0, p.q.getD 0 w0, true, 0) := by unfold meet; rw [hb, if_neg (fun e => e rfl), if_pos ho]
      rw [hm]
      have hq := good_len hg (by omega)
      cases hqq : p.q with
      | nil => rw [hqq] at hq; simp at hq
      | cons w r =>
        refine ⟨w, r, rfl, ?_, ?_⟩
        · have hl : leave p 0 = ⟨if r = [] then 0 else p.kind, 0, r⟩ := by
            unfold leave
            rw [hqq, hw]
            by_cases hr : r = []
            · subst hr; simp
            · have : r.length ≠ 0 := fun e => hr (List.length_eq_zero_iff.1 e)
              simp [hr]
          rw [hl]
          rfl
        · rw [hqq] at hgood
          have hg2 := (good_iff _ _).1 hgood
          have hgr : good r [] = true := (good_iff _ _).2 ⟨fun x hx => hg2.1 x (List.mem_cons_of_mem _ hx), (List.nodup_cons.1 (by simpa using hg2.2)).2⟩
          refine goodP_of ?_ ?_ ?_ (fun _ => rfl) hgr
          · show 0 ≤ if r = [] then (0 : Int) else p.kind
            split <;> omega
          · show (if r = [] then (0 : Int) else p.kind) ≤ 2
            split <;> omega
          · show (if r = [] then (0 : Int) else p.kind) = 0 ↔ r = []
            constructor
            · intro e
              by_cases hr : r = []
              · exact hr
              · rw [if_neg hr] at e; omega
            · intro e; rw [if_pos e]
    · refine .inr (.inr ⟨fun hq => ?_, ?_, ?_⟩)
      · have : p.kind ≠ 0 := fun e => hq (hkq.1 e)
        omega
      · have hm : meet p a.w (2 - a.kind) (a.kind + 1) = (join p (a.kind + 1) a.w, w0, false, 0) := by unfold meet; rw [hb, if_neg (fun e => e rfl), if_neg ho]
        rw [hm]
        unfold join
        rw [hw]
      · have hg2 := (good_iff _ _).1 hgood
        have hnot : ∀ w ∈ p.q, w.core ≠ a.w.core := by
          rcases idx_cases p.q a.w.core with ⟨_, h⟩ | ⟨k, _, h, _⟩
          · exact h
          · rw [h] at hx; omega
        refine goodP_of ?_ ?_ ?_ (fun _ => rfl) ((good_iff _ _).2 ⟨fun x hx => ?_, ?_⟩)
        · show 0 ≤ a.kind + 1; omega
        · show a.kind + 1 ≤ 2; omega
        · show a.kind + 1 = 0 ↔ p.q ++ [a.w] = []
          constructor
          · intro e; omega
          · intro e; simp at e
        · rcases List.mem_append.1 hx with h | h
          · exact hg2.1 x h
          · have e : x = a.w := by simpa using h
            rw [e]; exact ⟨hc, by simp⟩
        · show ((p.q ++ [a.w]).map W.core).Nodup
          rw [List.map_append]
          refine List.nodup_append.2 ⟨hg2.2, by simp, fun x hx y hy => ?_⟩
          obtain ⟨w, hw', rfl⟩ := List.mem_map.1 hx
          have e : y = a.w.core := by simpa using hy
          rw [e]; exact hnot w hw'
  · refine .inl ⟨_, hb, ?_⟩
    have hm : meet p a.w (2 - a.kind) (a.kind + 1) = (p, w0, false, begin' p a.w.core) := by unfold meet; rw [if_pos hb]
    rw [hm]
theorem first_loop (l : List A) (hl : l.length ≤ 100) : ∀ (m i : Nat) (p : P), i + m = l.length → goodP p = true → p.word = 0 → law16_PortFirst.H8 (l.map encA) (p.q.map encW) p.kind i p.kind p.word (p.q.map encW) (true, ()) := by
  intro m
  induction m with
  | zero =>
    intro i p hi hg hw
    refine law16_PortFirst.H8_step _ _ _ _ _ _ _ _ ?_
    rw [decide_eq_false (by simp; omega)]
    simp only [cond_false, live_ok, optAll_so]
  | succ m ih =>
    intro i p hi hg hw
    refine law16_PortFirst.H8_step _ _ _ _ _ _ _ _ ?_
    have hil : i < l.length := by omega
    rw [decide_eq_true (by simp; omega)]
    have hle := good_le (goodP_parts hg).2.2.2.2
    simp only [cond_true, needs_nat, Int.toNat_natCast, map_get _ _ _ hil, optAll_so, a0_, a1_, a2_, a3_, a4_, a5_, a6_, a7_, a8_, a9_, does_ok p l[i] (by omega), wrap_succ (show i < 4611686018427387904 by omega)]
    generalize ha : l[i] = a
    by_cases hk : a.kind = 0 ∨ a.kind = 1
    · have hwr : IntKind.i64.wrap (a.kind + 1) = a.kind + 1 := wrap_id (by omega) (by omega)
      simp only [hwr]
      have key : ∀ (A B : Prop), (cond (a.kind != 0) (cond (a.kind != 1) A B) B ↔ B) := by
        intro A B
        rcases hk with e | e <;> rw [e] <;> exact Iff.rfl
      rcases first_step p a hk hg hw with ⟨e, he, hs⟩ | ⟨h1, w, r, hq, hs, hg2⟩ | ⟨h1, hs, hg2⟩
      · rw [hs]
        have he' : (e != 0) = true := by simpa using he
        simp only [tX, tP, tW, he', cond_true]
        rw [key]
        exact ih (i + 1) p (by omega) hg hw
      · rw [hs, hq]
        have hnk : (p.kind == a.kind + 1) = false := by simpa using h1
        have hrl : r.length ≤ 63 := by rw [hq] at hle; simp at hle; omega
        have hck := check_ok ⟨if r = [] then 0 else p.kind, 0, r⟩ (show r.length < 1000000 by omega)
        simp only [tX, tP, tW, bne_self_eq_false, cond_false, cond_true, hnk, List.map_cons, List.length_cons, List.getElem?_cons_zero, optAll_so, w0_, w1_, w2_, w3_, w4_, w5_, w6_, w7_, beq_self_eq_true, Bool.and_self, Bool.not_true, List.drop_succ_cons, List.drop_zero, List.length_map, Int.toNat_natCast, Nat.add_sub_cancel, take_map_len, hck, hg2, if_true, num_ok, needs_iff]
        rw [key]
        have nxt := ih (i + 1) _ (by omega) hg2 rfl
        rw [show (((r.length + 1 : Nat) : Int) == 0) = false by simp; omega]
        simp only [cond_false]
        refine ⟨⟨by omega, by omega⟩, ⟨by omega, by omega, by omega⟩, ⟨by omega, by omega⟩, trivial, ?_⟩
        by_cases hr : r = []
        · subst hr
          exact nxt
        · have hr0 : ((r.length : Int) == 0) = false := by
            have : r.length ≠ 0 := fun e => hr (List.length_eq_zero_iff.1 e)
            simp; omega
          rw [hr0]
          simp only [if_neg hr] at nxt ⊢
          simp only [bne_self_eq_false, cond_false]
          exact nxt
      · rw [hs]
        have hl2 : ((p.q ++ [a.w]).length : Nat) = p.q.length + 1 := by simp
        have hck := check_ok ⟨a.kind + 1, 0, p.q ++ [a.w]⟩ (show (p.q ++ [a.w]).length < 1000000 by rw [hl2]; omega)
        have nxt := ih (i + 1) _ (by omega) hg2 rfl
        simp only [tX, tP, tW, bne_self_eq_false, cond_false, List.map_append, List.map_cons, List.map_nil] at nxt hck ⊢
        simp only [hck, hg2, if_true, num_ok, optAll_so, bne_self_eq_false, cond_false, ← encW_is, List.take_succ_cons, List.take_zero, List.length_append, List.length_map, List.length_cons, List.length_nil, List.take_length, needs_iff]
        rw [key]
        have htk : (p.q.map encW ++ [encW a.w]).take (p.q.length + (0 + 1)) = p.q.map encW ++ [encW a.w] := List.take_of_length_le (by simp)
        by_cases hq : p.q = []
        · simp only [hq, List.length_nil, List.map_nil, List.nil_append] at nxt htk ⊢
          rw [decide_eq_false (show ¬ (((0 : Nat) : Int) > 0) by omega)]
          exact ⟨trivial, by omega, nxt⟩
        · have hpos : p.q.length ≠ 0 := fun e => hq (List.length_eq_zero_iff.1 e)
          have hkk := h1 hq
          rw [decide_eq_true (show ((p.q.length : Nat) : Int) > 0 by omega), hkk]
          simp only [cond_true, bne_self_eq_false, cond_false]
          exact ⟨trivial, by omega, nxt⟩
    · have h0 : (a.kind != 0) = true := by simpa using fun e => hk (.inl e)
      have h1 : (a.kind != 1) = true := by simpa using fun e => hk (.inr e)
      rw [h0, h1]
      simp only [cond_true]
      exact ih (i + 1) p (by omega) hg hw
theorem first_law (l : List A) : law16_PortFirst.R (l.map encA) = some (true, ()) := by
  refine law16_PortFirst.start _ _ ?_
  simp only [List.length_map]
  by_cases h : (l.length : Int) > 100
  · rw [decide_eq_true h]; simp only [live_ok, optAll_so, cond_true]
  rw [decide_eq_false h]
  simp only [cond_false]
  exact first_loop l (by omega) l.length 0 pe (by omega) rfl rfl
end Port
end Go.AI
