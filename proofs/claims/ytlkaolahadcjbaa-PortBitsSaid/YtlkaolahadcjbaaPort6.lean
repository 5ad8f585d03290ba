/-
  Own work. The ports' functions: the document's side, what is done; the law PortRuns.
-/
import Derived.Test.YtlkaolahadcjbaaPort5
namespace Go.AI
open Go
set_option linter.unusedVariables false
set_option linter.unusedSimpArgs false
namespace Port
open Kit
theorem nodup_small : ∀ (n : Nat) (l : List Int), l.Nodup → (∀ x ∈ l, 0 ≤ x ∧ x < (n : Int)) → l.length ≤ n
  | 0, l, _, h => by
    cases l with
    | nil => exact Nat.le_refl _
    | cons x r => have := h x (by simp); omega
  | n + 1, l, hd, h => by
    have ih := nodup_small n (l.erase (n : Int)) (hd.erase _) fun x hx => by
      have h1 := (List.Nodup.mem_erase_iff hd).1 hx
      have h2 := h x h1.2
      omega
    have := List.length_erase (a := (n : Int)) (l := l)
    split at this <;> omega
theorem good_le {q : List W} (h : good q [] = true) : q.length ≤ 64 := by
  obtain ⟨h1, h2⟩ := (good_iff q []).1 h
  have := nodup_small 64 (q.map W.core) h2 fun x hx => by
    obtain ⟨w, hw, rfl⟩ := List.mem_map.1 hx
    have := (h1 w hw).1
    exact ⟨this.1, this.2⟩
  simpa using this
def okFrom (q : List W) : Nat → Nat → Bool
  | 0, _ => true
  | m + 1, i => match q[i]? with
    | some w => decide (isCore w.core) && decide (idx q w.core = i) && okFrom q m (i + 1)
    | none => true
theorem okFrom_iff (q : List W) : ∀ m i : Nat, okFrom q m i = true ↔ ∀ j, i ≤ j → j < i + m → ∀ h : j < q.length, isCore q[j].core ∧ idx q q[j].core = j
  | 0, i => by simp [okFrom]; intro j h1 h2; omega
  | m + 1, i => by
    rw [okFrom]
    by_cases hi : i < q.length
    · rw [List.getElem?_eq_getElem hi]
      simp only [Bool.and_eq_true, decide_eq_true_eq, okFrom_iff q m (i + 1)]
      constructor
      · rintro ⟨h1, h2⟩ j h3 h4 h5
        by_cases e : j = i
        · subst e; exact h1
        · exact h2 j (by omega) (by omega) h5
      · intro h
        exact ⟨h i (Nat.le_refl _) (by omega) hi, fun j h1 h2 h3 => h j (by omega) (by omega) h3⟩
    · rw [List.getElem?_eq_none (by omega)]
      simp only [true_iff]
      intro j h1 h2 h3; omega
theorem okFrom_good (q : List W) : okFrom q q.length 0 = good q [] := by
  rw [Bool.eq_iff_iff, okFrom_iff, good_iff]
  constructor
  · intro h
    refine ⟨fun w hw => ?_, ?_⟩
    · obtain ⟨j, hj, rfl⟩ := List.mem_iff_getElem.1 hw
      exact ⟨(h j (Nat.zero_le _) (by omega) hj).1, by simp⟩
    · refine List.pairwise_iff_getElem.2 fun i j hi hj hij e => ?_
      rw [List.length_map] at hi hj
      rw [List.getElem_map, List.getElem_map] at e
      have h1 := (h i (Nat.zero_le _) (by omega) hi).2
      have h2 := (h j (Nat.zero_le _) (by omega) hj).2
      rw [e, h2] at h1
      omega
  · rintro ⟨h1, h2⟩ j _ _ hj
    refine ⟨(h1 _ (List.getElem_mem hj)).1, ?_⟩
    rcases idx_cases q q[j].core with ⟨_, h4⟩ | ⟨k, hk, h3, h4, h5⟩
    · exact absurd rfl (h4 _ (List.getElem_mem hj))
    · rw [h3]
      by_cases e : k = j
      · rw [e]
      · have h6 := List.pairwise_iff_getElem.1 h2
        rcases Nat.lt_or_gt_of_ne e with h7 | h7
        · have := h6 k j (by simpa using hk) (by simpa using hj) h7
          rw [List.getElem_map, List.getElem_map] at this
          exact absurd h4 this
        · exact absurd rfl (h5 j h7)
theorem is_loop (k w : Int) (q : List W) (hl : q.length < 1000000) : ∀ m i : Nat, i + m = q.length → ref16_Is.H5 i k w (q.map encW) (okFrom q m i, ()) := by
  intro m
  induction m with
  | zero =>
    intro i hi
    refine ref16_Is.H5_step _ _ _ _ _ ?_
    rw [decide_eq_false (by simp; omega)]
    rfl
  | succ m ih =>
    intro i hi
    refine ref16_Is.H5_step _ _ _ _ _ ?_
    have hil : i < q.length := by omega
    rw [decide_eq_true (by simp; omega)]
    have hf := find_ok ⟨k, w, q⟩ q[i].core hl
    simp only [cond_true, needs_nat, Int.toNat_natCast, map_get _ _ _ hil, optAll_so, w0_, w1_, w2_, w3_, w4_, w5_, w6_, w7_, ref_core_ok, hf, wrap_succ (show i < 4611686018427387904 by omega)]
    rw [okFrom, List.getElem?_eq_getElem hil]
    simp only
    by_cases h1 : isCore q[i].core
    · by_cases h2 : idx q q[i].core = i
      · rw [decide_eq_true h1, decide_eq_true h2, h2]
        simp only [Bool.not_true, cond_false, bne_self_eq_false, Bool.true_and]
        exact ih (i + 1) (by omega)
      · rw [decide_eq_true h1, decide_eq_false h2, show (idx q q[i].core != (i : Int)) = true by simpa using h2]
        simp
    · rw [decide_eq_false h1]; simp
theorem ref_is_ok (p : P) (hl : p.q.length < 1000000) : ref16_Is.R p.kind p.word (p.q.map encW) = some (goodP p, ()) := by
  refine ref16_Is.start _ _ _ _ ?_
  have hh := is_loop p.kind p.word p.q hl p.q.length 0 (by omega)
  rw [okFrom_good] at hh
  have e : goodP p = (!decide (p.kind < 0) && !decide (p.kind > 2) && ((p.kind == 0) == ((p.q.length : Int) == 0)) && (p.kind == 0 || p.word == 0) && good p.q []) := rfl
  have hle : good p.q [] = true → decide ((p.q.length : Int) > 64) = false := fun h => decide_eq_false (by have := good_le h; omega)
  simp only [List.length_map]
  rw [e]
  generalize hb1 : decide (p.kind < 0) = b1
  generalize hb2 : decide (p.kind > 2) = b2
  generalize hb3 : ((p.q.length : Int) == 0) = b3
  generalize hb4 : (p.kind == 0) = b4
  generalize hb5 : (p.word == 0) = b5
  generalize hb6 : decide ((p.q.length : Int) > 64) = b6 at hle
  have hb4' : (p.kind != 0) = !b4 := by rw [← hb4]; rfl
  have hb5' : (p.word != 0) = !b5 := by rw [← hb5]; rfl
  rw [hb4', hb5']
  generalize hg : good p.q [] = g at hh hle
  cases b1
  case true => simp
  cases b2
  case true => simp
  cases b6 <;> cases b3 <;> cases b4 <;> cases b5 <;> first
    | exact hh
    | (cases g
       · simp
       · exact absurd (hle rfl) (by decide))
    | simp
def meetM (p : P) (w : W) (k : Int) : P × W × Bool × Int := meet p w (3 - k) k
theorem begin_bad {p : P} {c : Int} (h : ¬ goodP p = true) : begin' p c = 2 := by unfold begin'; rw [if_neg (fun e => h e.2)]
theorem begin_nocore {p : P} {c : Int} (h : ¬ isCore c) : begin' p c = 2 := by unfold begin'; rw [if_neg (fun e => h e.1)]
theorem begin_new {p : P} {c : Int} (h : goodP p = true) (hc : isCore c) (hx : idx p.q c < 0) : begin' p c = 0 := by unfold begin'; rw [if_pos ⟨hc, h⟩, if_pos hx]
theorem begin_old {p : P} {c : Int} (h : goodP p = true) (hc : isCore c) (hx : ¬ idx p.q c < 0) : begin' p c = 8 := by unfold begin'; rw [if_pos ⟨hc, h⟩, if_neg hx]
theorem ref_meet_ok (p : P) (w : W) (k : Int) (hk : k = 1 ∨ k = 2) (hl : p.q.length < 1000000) : ref16_meet.R p.kind p.word (p.q.map encW) w.core w.value w.badge w.has w.ko w.ks w.gen w.grant k = some (tM (meet p w (3 - k) k)) := by
  refine ref16_meet.start _ _ _ _ _ _ _ _ _ _ _ _ _ ?_
  have hw : IntKind.i64.wrap (3 - k) = 3 - k := wrap_id (by omega) (by omega)
  simp only [ref_is_ok p hl, ref_core_ok, find_ok p w.core hl, optAll_so, hw, ← encW_is, List.take_succ_cons, List.take_zero, List.take_length]
  by_cases hg : goodP p = true
  · by_cases hc : isCore w.core
    · rw [hg, decide_eq_true hc]
      simp only [Bool.not_true, cond_false]
      by_cases hx : idx p.q w.core < 0
      · have hb := begin_new hg hc hx
        rw [decide_eq_false (show ¬ idx p.q w.core ≥ 0 by omega)]
        simp only [cond_false]
        by_cases h1 : p.kind = 3 - k
        · have hm : meet p w (3 - k) k = (leave p 0, p.q.getD 0 w0, true, 0) := by unfold meet; rw [hb, if_neg (fun e => e rfl), if_pos h1]
          rw [hm, show (p.kind == 3 - k) = true by simpa using h1]
          simp only [cond_true]
          have hq := good_len hg (by omega)
          rw [show ref16_without.R p.kind p.word (p.q.map encW) 0 = some (tP (leave p 0), ()) from without_ok p 0 hq hl]
          simp only [optAll_so, map_get _ _ _ hq, w0_, w1_, w2_, w3_, w4_, w5_, w6_, w7_]
          rw [show p.q.getD 0 w0 = p.q[0] by simp [List.getD, hq]]
          rfl
        · have hm : meet p w (3 - k) k = (join p k w, w0, false, 0) := by unfold meet; rw [hb, if_neg (fun e => e rfl), if_neg h1]
          rw [hm, show (p.kind == 3 - k) = false by simpa using h1]
          simp only [cond_false]
          simp only [needs_iff]
          refine ⟨by simp; omega, trivial, by simp; omega, ?_⟩
          simp [tM, tP, tW, join, w0]
      · have hb := begin_old hg hc hx
        have hm : meet p w (3 - k) k = (p, w0, false, 8) := by unfold meet; rw [hb]; rfl
        rw [hm, decide_eq_true (show idx p.q w.core ≥ 0 by omega)]
        rfl
    · have hm : meet p w (3 - k) k = (p, w0, false, 2) := by unfold meet; rw [begin_nocore hc]; rfl
      rw [hm, hg, decide_eq_false hc]
      rfl
  · have hm : meet p w (3 - k) k = (p, w0, false, 2) := by unfold meet; rw [begin_bad hg]; rfl
    have hg' : goodP p = false := by simpa using hg
    rw [hm, hg']
    rfl
theorem ref_send_ok (p : P) (w : W) (hl : p.q.length < 1000000) : ref16_Send.R p.kind p.word (p.q.map encW) w.core w.value w.badge w.has w.ko w.ks w.gen w.grant = some (tM (send p w)) := by
  refine ref16_Send.start _ _ _ _ _ _ _ _ _ _ _ _ ?_
  rw [ref_meet_ok p w 1 (.inl rfl) hl]
  rfl
theorem ref_recv_ok (p : P) (w : W) (hl : p.q.length < 1000000) : ref16_Recv.R p.kind p.word (p.q.map encW) w.core w.value w.badge w.has w.ko w.ks w.gen w.grant = some (tM (recv p w)) := by
  refine ref16_Recv.start _ _ _ _ _ _ _ _ _ _ _ _ ?_
  rw [ref_meet_ok p w 2 (.inr rfl) hl]
  rfl
theorem ref_signal_ok (p : P) (n : Int) (hl : p.q.length < 1000000) : ref16_Signal.R p.kind p.word (p.q.map encW) n = some (tS (signal p n)) := by
  refine ref16_Signal.start _ _ _ _ _ ?_
  simp only [ref_is_ok p hl, optAll_so, cond_ite, bne_iff_ne, beq_iff_eq]
  unfold signal
  by_cases h0 : goodP p = true
  · rw [h0]
    simp only [Bool.not_true, cond_false, if_neg (show ¬ (false = true) by decide), if_neg (show ¬ (true = false) by decide)]
    by_cases h1 : p.kind = 2
    · rw [if_pos h1, if_pos h1]
      have hq := good_len h0 (by omega)
      rw [show ref16_without.R p.kind p.word (p.q.map encW) 0 = some (tP (leave p 0), ()) from without_ok p 0 hq hl]
      simp only [optAll_so, map_get _ _ _ hq, w0_, w1_, w2_, w3_, w4_, w5_, w6_, w7_]
      rw [show p.q.getD 0 w0 = p.q[0] by simp [List.getD, hq]]
      rfl
    · rw [if_neg h1, if_neg h1]
      by_cases h2 : p.kind = 0
      · rw [if_pos h2, if_pos h2]; rfl
      · rw [if_neg h2, if_neg h2]; rfl
  · rw [if_pos (show (!goodP p) = true by simpa using h0), if_pos (show goodP p = false by simpa using h0)]; rfl
theorem ref_wait_ok (p : P) (c : Int) (hl : p.q.length < 1000000) : ref16_Wait.R p.kind p.word (p.q.map encW) c = some (tA (wait p c)) := by
  refine ref16_Wait.start _ _ _ _ _ ?_
  simp only [ref_is_ok p hl, ref_core_ok, find_ok p c hl, optAll_so]
  by_cases hg : goodP p = true
  · by_cases hc : isCore c
    · rw [hg, decide_eq_true hc]
      simp only [Bool.not_true, cond_false]
      by_cases hx : idx p.q c < 0
      · have hb := begin_new hg hc hx
        rw [decide_eq_false (show ¬ idx p.q c ≥ 0 by omega)]
        simp only [cond_false]
        by_cases h1 : p.word ≠ 0
        · have hm : wait p c = (⟨p.kind, 0, p.q⟩, p.word, 0) := by unfold wait; rw [hb, if_neg (fun e => e rfl), if_pos h1]
          rw [hm, show (p.word != 0) = true by simpa using h1]; rfl
        · have hm : wait p c = (join p 2 { w0 with core := c }, 0, 0) := by unfold wait; rw [hb, if_neg (fun e => e rfl), if_neg h1]
          rw [hm, show (p.word != 0) = false by simpa using h1]
          have e : ([.v (.int .i64 c), .v (.int .i64 0), .v (.int .i64 0), .v (.bool false), .v (.int .i64 0), .v (.int .i64 0), .v (.int .i64 0), .v (.bool false)] : List DV) = encW { w0 with core := c } := rfl
          simp only [cond_false, List.take_succ_cons, List.take_zero, List.take_length, e]
          simp only [needs_iff]
          refine ⟨by simp; omega, trivial, by simp; omega, ?_⟩
          simp [tA, tP, join]
      · have hm : wait p c = (p, 0, 8) := by unfold wait; rw [begin_old hg hc hx]; rfl
        rw [hm, decide_eq_true (show idx p.q c ≥ 0 by omega)]
        rfl
    · have hm : wait p c = (p, 0, 2) := by unfold wait; rw [begin_nocore hc]; rfl
      rw [hm, hg, decide_eq_false hc]
      rfl
  · have hm : wait p c = (p, 0, 2) := by unfold wait; rw [begin_bad hg]; rfl
    have hg' : goodP p = false := by simpa using hg
    rw [hm, hg']
    rfl
theorem ref_drop_ok (p : P) (c : Int) (hl : p.q.length < 1000000) : ref16_Drop.R p.kind p.word (p.q.map encW) c = some (tD (drop p c)) := by
  refine ref16_Drop.start _ _ _ _ _ ?_
  simp only [find_ok p c hl, optAll_so]
  unfold drop
  rcases idx_cases p.q c with ⟨h1, _⟩ | ⟨k, hk, h1, _⟩
  · rw [h1]; rfl
  · rw [h1, decide_eq_false (by omega), if_neg (by omega), without_ok p k hk hl]
    rfl
/-! What is done. -/
structure A where
  kind : Int
  w : W
  bits : Int
def acts (p : P) (a : A) : P × W × Bool × Int × Int :=
  if a.kind = 0 then ((send p a.w).1, (send p a.w).2.1, (send p a.w).2.2.1, 0, (send p a.w).2.2.2)
  else if a.kind = 1 then ((recv p a.w).1, (recv p a.w).2.1, (recv p a.w).2.2.1, 0, (recv p a.w).2.2.2)
  else if a.kind = 2 then ((signal p a.bits).1, (signal p a.bits).2.1, (signal p a.bits).2.2, 0, 0)
  else if a.kind = 3 then ((wait p a.w.core).1, w0, false, (wait p a.w.core).2.1, (wait p a.w.core).2.2)
  else ((drop p a.w.core).1, w0, (drop p a.w.core).2, 0, 0)
abbrev XT := PT × (WT × (Bool × (Int × (Int × Unit))))
def tX (r : P × W × Bool × Int × Int) : XT := (tP r.1, (tW r.2.1, (r.2.2.1, (r.2.2.2.1, (r.2.2.2.2, ())))))
theorem does_ok (p : P) (a : A) (hl : p.q.length < 1000000) : law16_does.R p.kind p.word (p.q.map encW) a.kind a.w.core a.w.value a.w.badge a.w.has a.w.ko a.w.ks a.w.gen a.w.grant a.bits = some (tX (acts p a)) := by
  refine law16_does.start _ _ _ _ _ _ _ _ _ _ _ _ _ _ ?_
  simp only [send_ok p a.w hl, recv_ok p a.w hl, signal_ok p a.bits hl, wait_ok p a.w.core hl, drop_ok p a.w.core hl, num_ok, optAll_so, cond_ite, beq_iff_eq]
  unfold acts
  by_cases h0 : a.kind = 0
  · rw [if_pos h0, if_pos h0]; rfl
  rw [if_neg h0, if_neg h0]
  by_cases h1 : a.kind = 1
  · rw [if_pos h1, if_pos h1]; rfl
  rw [if_neg h1, if_neg h1]
  by_cases h2 : a.kind = 2
  · rw [if_pos h2, if_pos h2]; rfl
  rw [if_neg h2, if_neg h2]
  by_cases h3 : a.kind = 3
  · rw [if_pos h3, if_pos h3]; rfl
  rw [if_neg h3, if_neg h3]
  rfl
theorem model_ok (p : P) (a : A) (hl : p.q.length < 1000000) : law16_model.R p.kind p.word (p.q.map encW) a.kind a.w.core a.w.value a.w.badge a.w.has a.w.ko a.w.ks a.w.gen a.w.grant a.bits = some (tX (acts p a)) := by
  refine law16_model.start _ _ _ _ _ _ _ _ _ _ _ _ _ _ ?_
  simp only [ref_send_ok p a.w hl, ref_recv_ok p a.w hl, ref_signal_ok p a.bits hl, ref_wait_ok p a.w.core hl, ref_drop_ok p a.w.core hl, optAll_so, cond_ite, beq_iff_eq]
  unfold acts
  by_cases h0 : a.kind = 0
  · rw [if_pos h0, if_pos h0]; rfl
  rw [if_neg h0, if_neg h0]
  by_cases h1 : a.kind = 1
  · rw [if_pos h1, if_pos h1]; rfl
  rw [if_neg h1, if_neg h1]
  by_cases h2 : a.kind = 2
  · rw [if_pos h2, if_pos h2]; rfl
  rw [if_neg h2, if_neg h2]
  by_cases h3 : a.kind = 3
  · rw [if_pos h3, if_pos h3]; rfl
  rw [if_neg h3, if_neg h3]
  rfl
theorem leave_len (p : P) (i : Nat) : (leave p i).q.length ≤ p.q.length := by
  unfold leave
  simp only [List.length_append, List.length_take, List.length_drop]
  omega
theorem meet_len (p : P) (w : W) (o k : Int) : (meet p w o k).1.q.length ≤ p.q.length + 1 := by
  unfold meet
  split
  · exact Nat.le_succ _
  · split
    · exact Nat.le_succ_of_le (leave_len p 0)
    · simp [join]
theorem acts_len (p : P) (a : A) : (acts p a).1.q.length ≤ p.q.length + 1 := by
  unfold acts
  split
  · exact meet_len ..
  split
  · exact meet_len ..
  split
  · show (signal p a.bits).1.q.length ≤ _
    unfold signal
    split
    · exact Nat.le_succ _
    split
    · exact Nat.le_succ_of_le (leave_len p 0)
    split <;> exact Nat.le_succ _
  split
  · show (wait p a.w.core).1.q.length ≤ _
    unfold wait
    split
    · exact Nat.le_succ _
    split
    · exact Nat.le_succ _
    · simp [join]
  · show (drop p a.w.core).1.q.length ≤ _
    unfold drop
    split
    · exact Nat.le_succ _
    · exact Nat.le_succ_of_le (leave_len ..)
def encA (a : A) : List DV := [.v (.int .i64 a.kind), .v (.int .i64 a.w.core), .v (.int .i64 a.w.value), .v (.int .i64 a.w.badge), .v (.bool a.w.has), .v (.int .i64 a.w.ko), .v (.int .i64 a.w.ks), .v (.int .i64 a.w.gen), .v (.bool a.w.grant), .v (.int .i64 a.bits)]
section cells
variable (a : A)
theorem a0_ : dInt .i64 (encA a) 0 = some a.kind := rfl
theorem a1_ : dInt .i64 (encA a) 1 = some a.w.core := rfl
theorem a2_ : dInt .i64 (encA a) 2 = some a.w.value := rfl
theorem a3_ : dInt .i64 (encA a) 3 = some a.w.badge := rfl
theorem a4_ : dBool (encA a) 4 = some a.w.has := rfl
theorem a5_ : dInt .i64 (encA a) 5 = some a.w.ko := rfl
theorem a6_ : dInt .i64 (encA a) 6 = some a.w.ks := rfl
theorem a7_ : dInt .i64 (encA a) 7 = some a.w.gen := rfl
theorem a8_ : dBool (encA a) 8 = some a.w.grant := rfl
theorem a9_ : dInt .i64 (encA a) 9 = some a.bits := rfl
end cells
theorem runs_loop (l : List A) (hl : l.length ≤ 100) : ∀ (m i : Nat) (p : P), i + m = l.length → p.q.length ≤ i → law16_PortRuns.H6 (l.map encA) i p.kind p.word (p.q.map encW) p.kind p.word (p.q.map encW) (true, ()) := by
  intro m
  induction m with
  | zero =>
    intro i p hi hp
    refine law16_PortRuns.H6_step _ _ _ _ _ _ _ _ _ ?_
    rw [decide_eq_false (by simp; omega)]
    simp only [cond_false, live_ok, optAll_so]
  | succ m ih =>
    intro i p hi hp
    refine law16_PortRuns.H6_step _ _ _ _ _ _ _ _ _ ?_
    have hil : i < l.length := by omega
    rw [decide_eq_true (by simp; omega)]
    have hlen := acts_len p l[i]
    have nxt := ih (i + 1) (acts p l[i]).1 (by omega) (by omega)
    have hs := ref_same_ok (acts p l[i]).1 (acts p l[i]).1 (by omega)
    simp only [cond_true, needs_nat, Int.toNat_natCast, map_get _ _ _ hil, optAll_so, a0_, a1_, a2_, a3_, a4_, a5_, a6_, a7_, a8_, a9_, does_ok p l[i] (by omega), model_ok p l[i] (by omega), wrap_succ (show i < 4611686018427387904 by omega), tX, tP, hs, decide_true, Bool.not_true, cond_false, beq_self_eq_true, Bool.and_self, bne_self_eq_false]
    exact nxt
theorem runs_law (l : List A) : law16_PortRuns.R (l.map encA) = some (true, ()) := by
  refine law16_PortRuns.start _ _ ?_
  simp only [List.length_map]
  by_cases h : (l.length : Int) > 100
  · rw [decide_eq_true h]; simp only [live_ok, optAll_so, cond_true]
  rw [decide_eq_false h]
  simp only [cond_false]
  exact runs_loop l (by omega) l.length 0 pe (by omega) (by decide)
end Port
end Go.AI
