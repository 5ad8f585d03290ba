/-
  Own work. The ports' laws: PortTurns, PortMany.
-/
import Derived.Test.YtlkaolahadcjbaaPort2
namespace Go.AI
open Go
set_option linter.unusedVariables false
set_option linter.unusedSimpArgs false
namespace Port
open Kit
theorem equal_ok (a b : List W) (ha : a.length < 1000000) : slices_Equal_api_Waiter_api_Waiter.R (a.map encW) (b.map encW) = some (decide (a = b), ()) := by
  refine slices_Equal_api_Waiter_api_Waiter.start _ _ _ ?_
  simp only [List.length_map, cond_ite, bne_iff_ne]
  by_cases hl : a.length = b.length
  · rw [if_neg (by omega)]
    refine eq_loop a b (fun i c => slices_Equal_api_Waiter_api_Waiter.H5 (a.map encW) (b.map encW) a.length i c) hl fun i c h1 h2 => ?_
    refine slices_Equal_api_Waiter_api_Waiter.H5_step _ _ _ _ _ ?_
    by_cases hi : i < a.length
    · obtain ⟨g1, g2⟩ := h1 hi
      simp only [List.length_map, cond_ite, decide_eq_true_eq, needs_nat, Int.toNat_natCast, map_get _ _ _ hi, map_get _ _ _ (hl ▸ hi), optAll_so, w0_, w1_, w2_, w3_, w4_, w5_, w6_, w7_, eqW, Bool.not_eq_true', decide_eq_false_iff_not, wrap_succ (show i < 4611686018427387904 by omega)]
      rw [if_pos (by omega)]
      split
      · rename_i h; exact g2 h
      · rename_i h; exact g1 (Decidable.not_not.1 h)
    · simp only [List.length_map, cond_ite, decide_eq_true_eq]
      rw [if_neg (by omega)]
      exact h2 (by omega)
  · rw [if_pos (by omega), decide_eq_false]
    intro e; subst e; exact hl rfl
theorem eqP (a b : P) : (a.kind = b.kind ∧ a.word = b.word ∧ a.q = b.q) ↔ a = b := by cases a; cases b; simp
theorem same_ok (a b : P) (ha : a.q.length < 1000000) : port_Same.R a.kind a.word (a.q.map encW) b.kind b.word (b.q.map encW) = some (decide (a = b), ()) := by
  refine port_Same.start _ _ _ _ _ _ _ ?_
  simp only [equal_ok _ _ ha, optAll_so, cond_ite, beq_iff_eq]
  rw [show decide (a = b) = decide (a.kind = b.kind ∧ a.word = b.word ∧ a.q = b.q) from decide_eq_decide.2 (eqP a b).symm]
  repeat' split
  all_goals simp [*]
theorem good_iff : ∀ (q : List W) (seen : List Int), good q seen = true ↔ (∀ w ∈ q, isCore w.core ∧ w.core ∉ seen) ∧ (q.map W.core).Nodup
  | [], seen => by simp [good]
  | w :: q, seen => by
    rw [good, Bool.and_eq_true, Bool.and_eq_true, good_iff q (w.core :: seen)]
    simp only [List.map_cons, List.nodup_cons, List.mem_cons, not_or, decide_eq_true_eq, Bool.not_eq_true', List.mem_map, forall_eq_or_imp]
    constructor
    · rintro ⟨⟨h1, h2⟩, h3, h4⟩
      refine ⟨⟨⟨h1, by simpa using h2⟩, fun x hx => ⟨(h3 x hx).1, (h3 x hx).2.2⟩⟩, ?_, h4⟩
      rintro ⟨x, hx, e⟩
      exact (h3 x hx).2.1 e
    · rintro ⟨⟨⟨h1, h2⟩, h3⟩, h4, h5⟩
      exact ⟨⟨h1, by simpa using h2⟩, fun x hx => ⟨(h3 x hx).1, fun e => h4 ⟨x, hx, e⟩, (h3 x hx).2⟩, h5⟩
theorem goodP_of {p : P} (h0 : 0 ≤ p.kind) (h2 : p.kind ≤ 2) (hk : p.kind = 0 ↔ p.q = []) (hw : p.kind ≠ 0 → p.word = 0) (hg : good p.q [] = true) : goodP p = true := by
  unfold goodP
  rw [decide_eq_false (by omega), decide_eq_false (by omega), hg]
  by_cases h : p.kind = 0
  · have := hk.1 h
    simp [h, this]
  · have hq : p.q ≠ [] := fun e => h (hk.2 e)
    have hql : ((p.q.length : Int) == 0) = false := by
      have : p.q.length ≠ 0 := fun e => hq (List.length_eq_zero_iff.1 e)
      simp; omega
    rw [hql]
    simp [h, hw h]
theorem idx_none {q : List W} {c : Int} (h : ∀ w ∈ q, w.core ≠ c) : idx q c = -1 := by
  rcases idx_cases q c with ⟨h1, _⟩ | ⟨k, hk, _, h2, _⟩
  · exact h1
  · exact absurd h2 (h _ (List.getElem_mem hk))
theorem begin_zero {p : P} {c : Int} (hc : isCore c) (hg : goodP p = true) (h : ∀ w ∈ p.q, w.core ≠ c) : begin' p c = 0 := by
  unfold begin'
  rw [if_pos ⟨hc, hg⟩, idx_none h]; rfl
theorem begin_there {p : P} {c : Int} (hc : isCore c) (hg : goodP p = true) {w : W} (hw : w ∈ p.q) (e : w.core = c) : begin' p c = 8 := by
  unfold begin'
  rw [if_pos ⟨hc, hg⟩]
  rcases idx_cases p.q c with ⟨_, h2⟩ | ⟨k, hk, h1, _⟩
  · exact absurd e (h2 w hw)
  · rw [h1, if_neg (by omega)]
def pe : P := ⟨0, 0, []⟩
theorem good_one (k : Int) (hk : k = 1 ∨ k = 2) (w : W) (hc : isCore w.core) : goodP ⟨k, 0, [w]⟩ = true := by
  refine goodP_of ?_ ?_ ?_ ?_ ?_
  · show 0 ≤ k; omega
  · show k ≤ 2; omega
  · show k = 0 ↔ [w] = []; simp; omega
  · intro _; rfl
  · refine (good_iff _ _).2 ⟨fun x hx => ?_, by simp⟩
    have e : x = w := by simpa using hx
    rw [e]
    exact ⟨hc, by simp⟩
theorem meet_first (w : W) (hc : isCore w.core) (o k : Int) (ho : o ≠ 0) : meet pe w o k = (⟨k, 0, [w]⟩, w0, false, 0) := by
  unfold meet
  have hb : begin' pe w.core = 0 := begin_zero hc rfl (fun x hx => by simp [pe] at hx)
  rw [hb, if_neg (fun e => e rfl), if_neg (show ¬ pe.kind = o from fun e => ho e.symm)]
  rfl
theorem meet_second (a b : W) (ha : isCore a.core) (hb : isCore b.core) (k k2 : Int) (hk : k = 1 ∨ k = 2) : meet ⟨k, 0, [a]⟩ b k k2 = if a.core = b.core then (⟨k, 0, [a]⟩, w0, false, 8) else (pe, a, true, 0) := by
  unfold meet
  have hg := good_one k hk a ha
  by_cases h : a.core = b.core
  · rw [begin_there hb hg (w := a) (by simp) h, if_pos (by decide), if_pos h]
  · have hx : ∀ x ∈ ([a] : List W), x.core ≠ b.core := by
      intro x hx
      have e : x = a := by simpa using hx
      rw [e]; exact h
    rw [begin_zero hb hg hx, if_neg (fun e => e rfl), if_pos rfl, if_neg h]
    rfl
theorem turns_law (a b : W) (s : Bool) : law16_PortTurns.R a.core a.value a.badge a.has a.ko a.ks a.gen a.grant b.core b.value b.badge b.has b.ko b.ks b.gen b.grant s = some (true, ()) := by
  refine law16_PortTurns.start _ _ _ _ _ _ _ _ _ _ _ _ _ _ _ _ _ _ ?_
  by_cases h1 : a.core < 0
  · rw [decide_eq_true h1]; simp only [live_ok, optAll_so, cond_true]
  by_cases h2 : a.core ≥ 64
  · rw [decide_eq_false h1, decide_eq_true h2]; simp only [live_ok, optAll_so, cond_true, cond_false]
  by_cases h3 : b.core < 0
  · rw [decide_eq_false h1, decide_eq_false h2, decide_eq_true h3]; simp only [live_ok, optAll_so, cond_true, cond_false]
  by_cases h4 : b.core ≥ 64
  · rw [decide_eq_false h1, decide_eq_false h2, decide_eq_false h3, decide_eq_true h4]; simp only [live_ok, optAll_so, cond_true, cond_false]
  have ha : isCore a.core := ⟨by omega, by omega⟩
  have hb : isCore b.core := ⟨by omega, by omega⟩
  have s1 : port_Send.R 0 0 [] a.core a.value a.badge a.has a.ko a.ks a.gen a.grant = some (tM (⟨1, 0, [a]⟩, w0, false, 0)) := by
    have := send_ok pe a (by decide)
    unfold send at this
    rw [meet_first a ha 2 1 (by decide)] at this
    exact this
  have r1 : port_Recv.R 0 0 [] a.core a.value a.badge a.has a.ko a.ks a.gen a.grant = some (tM (⟨2, 0, [a]⟩, w0, false, 0)) := by
    have := recv_ok pe a (by decide)
    unfold recv at this
    rw [meet_first a ha 1 2 (by decide)] at this
    exact this
  have r2 := recv_ok ⟨1, 0, [a]⟩ b (by show 1 < 1000000; decide)
  have s2 := send_ok ⟨2, 0, [a]⟩ b (by show 1 < 1000000; decide)
  unfold recv at r2
  unfold send at s2
  rw [meet_second a b ha hb 1 2 (.inl rfl)] at r2
  rw [meet_second a b ha hb 2 1 (.inr rfl)] at s2
  have hsa := fun k => same_ok ⟨k, 0, [a]⟩ ⟨k, 0, [a]⟩ (by show 1 < 1000000; decide)
  have hse := same_ok pe pe (by decide)
  rw [decide_eq_false h1, decide_eq_false h2, decide_eq_false h3, decide_eq_false h4]
  simp only [cond_false, s1, r1, optAll_so, tM, tP, num_ok]
  by_cases he : a.core = b.core
  · rw [if_pos he] at r2 s2
    rw [show (a.core == b.core) = true by simpa using he]
    cases s
    · simp only [cond_false, cond_true, s2, optAll_so, tM, tP, num_ok, hsa, decide_true, live_ok]
      exact True.intro
    · simp only [cond_false, cond_true, r2, optAll_so, tM, tP, num_ok, hsa, decide_true, live_ok]
      exact True.intro
  · rw [if_neg he] at r2 s2
    rw [show (a.core == b.core) = false by simpa using he]
    have hz : IntKind.i64.wrap (0 + 0) = 0 := by decide
    cases s
    · simp only [cond_false, cond_true, s2, optAll_so, tM, tP, tW, num_ok, hz, beq_self_eq_true, Bool.and_self, hse]
      rw [show port_Same.R pe.kind pe.word (pe.q.map encW) 0 0 [] = some (decide (pe = pe), ()) from hse]
      simp only [optAll_so, decide_true, cond_true, live_ok]
    · simp only [cond_false, cond_true, r2, optAll_so, tM, tP, tW, num_ok, hz, beq_self_eq_true, Bool.and_self, hse]
      rw [show port_Same.R pe.kind pe.word (pe.q.map encW) 0 0 [] = some (decide (pe = pe), ()) from hse]
      simp only [optAll_so, decide_true, cond_true, live_ok]
/-! PortMany -/
def whoW (c : Int) : W := ⟨c, c, 0, false, 0, 0, 0, false⟩
theorem who_ok (c : Int) : law16_who.R c = some (tW (whoW c), ()) := law16_who.start _ _ rfl
def wsR (a m : Nat) : List W := (List.range' a m).map fun (i : Nat) => whoW i
theorem wsR_len (a m : Nat) : (wsR a m).length = m := by simp [wsR]
theorem wsR_mem {a m : Nat} {w : W} (h : w ∈ wsR a m) : ∃ i : Nat, a ≤ i ∧ i < a + m ∧ w = whoW i := by
  unfold wsR at h
  obtain ⟨i, hi, rfl⟩ := List.mem_map.1 h
  have := List.mem_range'_1.1 hi
  exact ⟨i, this.1, this.2, rfl⟩
theorem wsR_good (a m : Nat) (h : a + m ≤ 64) : good (wsR a m) [] = true := by
  refine (good_iff _ _).2 ⟨fun w hw => ?_, ?_⟩
  · obtain ⟨i, h1, h2, rfl⟩ := wsR_mem hw
    exact ⟨⟨by show (0 : Int) ≤ i; omega, by show (i : Int) < 64; omega⟩, by simp⟩
  · unfold wsR
    rw [List.map_map]
    have e : (W.core ∘ fun (i : Nat) => whoW i) = fun (i : Nat) => (i : Int) := rfl
    rw [e]
    exact List.pairwise_map.2 (List.Pairwise.imp (fun h e => h (Int.ofNat.inj e)) List.nodup_range')
def pm (k : Int) (a m : Nat) : P := ⟨if m = 0 then 0 else k, 0, wsR a m⟩
theorem pm_good (k : Int) (hk : k = 1 ∨ k = 2) (a m : Nat) (h : a + m ≤ 64) : goodP (pm k a m) = true := by
  refine goodP_of ?_ ?_ ?_ ?_ (wsR_good a m h)
  · show 0 ≤ if m = 0 then (0 : Int) else k
    split <;> omega
  · show (if m = 0 then (0 : Int) else k) ≤ 2
    split <;> omega
  · show (if m = 0 then (0 : Int) else k) = 0 ↔ wsR a m = []
    rw [← List.length_eq_zero_iff, wsR_len]
    split
    · simp [*]
    · constructor
      · intro e; omega
      · intro e; exact absurd e (by omega)
  · intro _; rfl
theorem wsR_snoc (a m : Nat) : wsR a m ++ [whoW ((a + m : Nat) : Int)] = wsR a (m + 1) := by
  unfold wsR
  rw [List.range'_1_concat, List.map_append]
  rfl
theorem wsR_cons (a m : Nat) : wsR a (m + 1) = whoW (a : Int) :: wsR (a + 1) m := by
  unfold wsR
  rw [List.range'_succ]
  rfl
theorem many_in (k o : Int) (hk : k = 1 ∨ k = 2) (ho : o = 1 ∨ o = 2) (hne : k ≠ o) (m : Nat) (h : m < 64) : meet (pm k 0 m) (whoW m) o k = (pm k 0 (m + 1), w0, false, 0) := by
  unfold meet
  have hb : begin' (pm k 0 m) (whoW m).core = 0 := by
    refine begin_zero ⟨by show (0 : Int) ≤ m; omega, by show (m : Int) < 64; omega⟩ (pm_good k hk 0 m (by omega)) fun w hw => ?_
    obtain ⟨i, h1, h2, rfl⟩ := wsR_mem hw
    show (i : Int) ≠ m
    omega
  rw [hb, if_neg (fun e => e rfl), if_neg (show ¬ (pm k 0 m).kind = o from ?_)]
  · have := wsR_snoc 0 m
    rw [Nat.zero_add] at this
    show ((⟨k, 0, wsR 0 m ++ [whoW m]⟩ : P), w0, false, (0 : Int)) = _
    rw [this]
    rfl
  · show ¬ (if m = 0 then (0 : Int) else k) = o
    split <;> omega
theorem many_out (k o : Int) (hk : k = 1 ∨ k = 2) (a m : Nat) (h : a + (m + 1) < 64) : meet (pm k a (m + 1)) (whoW 63) k o = (pm k (a + 1) m, whoW a, true, 0) := by
  unfold meet
  have hb : begin' (pm k a (m + 1)) (whoW 63).core = 0 := by
    refine begin_zero ⟨by decide, by decide⟩ (pm_good k hk a (m + 1) (by omega)) fun w hw => ?_
    obtain ⟨i, h1, h2, rfl⟩ := wsR_mem hw
    show (i : Int) ≠ 63
    omega
  rw [hb, if_neg (fun e => e rfl), if_pos (show (pm k a (m + 1)).kind = k from rfl)]
  unfold leave
  have hq : (pm k a (m + 1)).q = whoW a :: wsR (a + 1) m := wsR_cons a m
  rw [hq]
  simp only [List.length_cons, wsR_len, List.take_zero, List.nil_append, List.drop_succ_cons, List.drop_zero, List.getD_cons_zero]
  unfold pm
  by_cases hm : m = 0
  · subst hm; rfl
  · rw [if_neg (show ¬ m + 1 = 1 by omega), if_neg (show ¬ m + 1 = 0 by omega), if_neg hm]
theorem many_law (n : Int) (s : Bool) : law16_PortMany.R n s = some (true, ()) := by
  refine law16_PortMany.start _ _ _ ?_
  by_cases h1 : n < 0
  · rw [decide_eq_true h1]; simp only [live_ok, optAll_so, cond_true]
  by_cases h2 : n ≥ 64
  · rw [decide_eq_false h1, decide_eq_true h2]; simp only [live_ok, optAll_so, cond_true, cond_false]
  rw [decide_eq_false h1, decide_eq_false h2]
  simp only [cond_false]
  obtain ⟨N, rfl⟩ : ∃ N : Nat, n = N := ⟨n.toNat, by omega⟩
  have outs : ∀ m a : Nat, a + m = N → law16_PortMany.H17 N s a (pm (cond s 1 2) a m).kind 0 ((wsR a m).map encW) (true, ()) := by
    intro m
    induction m with
    | zero =>
      intro a ha
      refine law16_PortMany.H17_step _ _ _ _ _ _ _ ?_
      rw [decide_eq_false (by omega)]
      have := same_ok pe pe (by decide)
      rw [show port_Same.R (pm (cond s 1 2) a 0).kind 0 ((wsR a 0).map encW) 0 0 [] = some (decide (pe = pe), ()) from this]
      simp only [cond_false, optAll_so, decide_true, cond_true, live_ok]
    | succ m ih =>
      intro a ha
      refine law16_PortMany.H17_step _ _ _ _ _ _ _ ?_
      rw [decide_eq_true (by omega)]
      have hl : (pm (cond s 1 2) a (m + 1)).q.length < 1000000 := by show (wsR a (m + 1)).length < _; rw [wsR_len]; omega
      have nxt := ih (a + 1) (by omega)
      have hw : IntKind.i64.wrap ((a : Int) + 1) = ((a + 1 : Nat) : Int) := wrap_succ (by omega)
      cases s
      · have hs := send_ok (pm 2 a (m + 1)) (whoW 63) hl
        unfold send at hs
        rw [many_out 2 1 (.inr rfl) a m (by omega)] at hs
        simp only [cond_true, cond_false, who_ok, optAll_so, tW, hw]
        rw [show port_Send.R (pm 2 a (m + 1)).kind 0 ((wsR a (m + 1)).map encW) (whoW 63).core (whoW 63).value (whoW 63).badge (whoW 63).has (whoW 63).ko (whoW 63).ks (whoW 63).gen (whoW 63).grant = _ from hs]
        simp only [optAll_so, tM, tP, tW, num_ok, bne_self_eq_false, Bool.not_true, cond_false, beq_self_eq_true, Bool.and_self]
        exact nxt
      · have hs := recv_ok (pm 1 a (m + 1)) (whoW 63) hl
        unfold recv at hs
        rw [many_out 1 2 (.inl rfl) a m (by omega)] at hs
        simp only [cond_true, cond_false, who_ok, optAll_so, tW, hw]
        rw [show port_Recv.R (pm 1 a (m + 1)).kind 0 ((wsR a (m + 1)).map encW) (whoW 63).core (whoW 63).value (whoW 63).badge (whoW 63).has (whoW 63).ko (whoW 63).ks (whoW 63).gen (whoW 63).grant = _ from hs]
        simp only [optAll_so, tM, tP, tW, num_ok, bne_self_eq_false, Bool.not_true, cond_false, beq_self_eq_true, Bool.and_self]
        exact nxt
  have ins : ∀ m c : Nat, c + m = N → law16_PortMany.H6 N s c (pm (cond s 1 2) 0 c).kind 0 ((wsR 0 c).map encW) (true, ()) := by
    intro m
    induction m with
    | zero =>
      intro c hc
      refine law16_PortMany.H6_step _ _ _ _ _ _ _ ?_
      rw [decide_eq_false (by omega)]
      have e : c = N := by omega
      subst e
      exact outs c 0 (by omega)
    | succ m ih =>
      intro c hc
      refine law16_PortMany.H6_step _ _ _ _ _ _ _ ?_
      rw [decide_eq_true (by omega)]
      have hl : (pm (cond s 1 2) 0 c).q.length < 1000000 := by show (wsR 0 c).length < _; rw [wsR_len]; omega
      have nxt := ih (c + 1) (by omega)
      have hw : IntKind.i64.wrap ((c : Int) + 1) = ((c + 1 : Nat) : Int) := wrap_succ (by omega)
      have hlen : ((((pm (cond s 1 2) 0 (c + 1)).q.map encW).length : Nat) : Int) = ((c + 1 : Nat) : Int) := by
        rw [List.length_map]; show (((wsR 0 (c + 1)).length : Nat) : Int) = _; rw [wsR_len]
      cases s
      · have hs := recv_ok (pm 2 0 c) (whoW c) hl
        unfold recv at hs
        rw [many_in 2 1 (.inr rfl) (.inl rfl) (by decide) c (by omega)] at hs
        simp only [cond_true, cond_false, who_ok, optAll_so, tW, hw]
        rw [show port_Recv.R (pm 2 0 c).kind 0 ((wsR 0 c).map encW) (whoW c).core (whoW c).value (whoW c).badge (whoW c).has (whoW c).ko (whoW c).ks (whoW c).gen (whoW c).grant = _ from hs]
        have hlen : ((((pm 2 0 (c + 1)).q.map encW).length : Nat) : Int) = ((c + 1 : Nat) : Int) := hlen
        simp only [optAll_so, tM, tP, tW, num_ok, bne_self_eq_false, cond_false, hlen]
        exact nxt
      · have hs := send_ok (pm 1 0 c) (whoW c) hl
        unfold send at hs
        rw [many_in 1 2 (.inl rfl) (.inr rfl) (by decide) c (by omega)] at hs
        simp only [cond_true, cond_false, who_ok, optAll_so, tW, hw]
        rw [show port_Send.R (pm 1 0 c).kind 0 ((wsR 0 c).map encW) (whoW c).core (whoW c).value (whoW c).badge (whoW c).has (whoW c).ko (whoW c).ks (whoW c).gen (whoW c).grant = _ from hs]
        have hlen : ((((pm 1 0 (c + 1)).q.map encW).length : Nat) : Int) = ((c + 1 : Nat) : Int) := hlen
        simp only [optAll_so, tM, tP, tW, num_ok, bne_self_eq_false, cond_false, hlen]
        exact nxt
  exact ins N 0 (by omega)
end Port
end Go.AI
