/-
  Own work. The epochs' laws: EpochSteps, EpochRuns, EpochNow.
-/
import Derived.Test.YtljhobohpnpedaaEpoch3
namespace Go.AI
open Go
set_option linter.unusedVariables false
set_option linter.unusedSimpArgs false
namespace Epoch
open Kit
theorem good_small {e : E} (h : good e = true) : Small e := by
  obtain ⟨h1, h2, h3, h4, h5, _⟩ := good_parts h
  refine ⟨by omega, by omega, fun l hl => ?_, fun p hp => ?_⟩
  · have := (good_limbo h hl).2; omega
  · rcases good_pins h hp with h | h | h <;> omega
theorem has_good {e : E} {c : Int} (h : good e = false) : has e c = false := by unfold has; rw [h]; simp
theorem lim_mono {n n' : Int} (hn : n ≤ n') : ∀ {l : List Ws} {a b : Int}, b ≤ a → limOK l a n = true → limOK l b n' = true
  | [], _, _, _, _ => rfl
  | w :: r, a, b, hb, h => by
    simp only [limOK, Bool.and_eq_true, decide_eq_true_eq] at h ⊢
    obtain ⟨⟨⟨⟨h1, h2⟩, h3⟩, h4⟩, h5⟩ := h
    exact ⟨⟨⟨⟨h1, h2⟩, by omega⟩, by omega⟩, lim_mono hn (Int.le_refl _) h5⟩
theorem lim_snoc {o n : Int} (h0 : 0 ≤ o) (h1 : o < 64) : ∀ {l : List Ws} {a : Int}, a ≤ n → limOK l a n = true → limOK (l ++ [⟨o, n⟩]) a n = true
  | [], a, ha, _ => by simp [limOK, h0, h1, ha]
  | w :: r, a, ha, h => by
    simp only [limOK, Bool.and_eq_true, decide_eq_true_eq, List.cons_append] at h ⊢
    obtain ⟨⟨⟨⟨h2, h3⟩, h4⟩, h5⟩, h6⟩ := h
    exact ⟨⟨⟨⟨h2, h3⟩, h4⟩, h5⟩, lim_snoc h0 h1 h5 h6⟩
theorem lim_drop {n : Int} : ∀ {l : List Ws} {a : Int} (k : Nat), limOK l a n = true → limOK (l.drop k) a n = true
  | [], _, k, _ => by rw [List.drop_nil]; rfl
  | w :: r, a, 0, h => h
  | w :: r, a, k + 1, h => by
    simp only [limOK, Bool.and_eq_true, decide_eq_true_eq] at h
    obtain ⟨⟨⟨⟨_, _⟩, h4⟩, _⟩, h6⟩ := h
    rw [List.drop_succ_cons]
    exact lim_mono (Int.le_refl _) h4 (lim_drop k h6)
theorem good_set_pin {e : E} (h : good e = true) (c p : Int) (hp : p = 0 ∨ p = e.now ∨ p = e.now + 1) : good (pinE e c p) = true := by
  obtain ⟨h1, h2, h3, h4, h5, _⟩ := good_parts h
  refine good_of ?_ ?_ ?_ h4 h5 (fun q hq => ?_) (fun l hl => good_limbo h hl)
  · show 1 ≤ (e.pins.set c.toNat p).length; rw [List.length_set]; exact h1
  · show (e.pins.set c.toNat p).length ≤ 64; rw [List.length_set]; exact h2
  · show e.limbo.length = (e.pins.set c.toNat p).length; rw [List.length_set]; exact h3
  · rcases List.mem_or_eq_of_mem_set hq with h' | h'
    · exact good_pins h h'
    · rw [h']; exact hp
theorem good_set_lim {e : E} (h : good e = true) (c : Int) (l : List Ws) (hl : limOK l 1 e.now = true ∧ l.length ≤ 8) : good (limE e c l) = true := by
  obtain ⟨h1, h2, h3, h4, h5, _⟩ := good_parts h
  refine good_of h1 h2 ?_ h4 h5 (fun q hq => good_pins h hq) (fun q hq => ?_)
  · show (e.limbo.set c.toNat l).length = e.pins.length; rw [List.length_set]; exact h3
  · rcases List.mem_or_eq_of_mem_set hq with h' | h'
    · exact good_limbo h h'
    · rw [h']; exact hl
theorem atL_good {e : E} (h : good e = true) {c : Int} (hc : has e c = true) : atL e.limbo c ∈ e.limbo := by
  obtain ⟨h1, h2, _⟩ := has_parts hc
  have hi : c.toNat < e.limbo.length := by have := (good_parts h).2.2.1; omega
  unfold atL
  rw [List.getD, List.getElem?_eq_getElem hi]
  exact List.getElem_mem hi
/-- What a step does to good ones. -/
theorem acts_good {e : E} (h : good e = true) (a : A) : good (acts e a).1 = true := by
  have hp := good_parts h
  unfold acts
  split
  · unfold pinS
    split
    · exact h
    split
    · exact h
    · exact good_set_pin h _ _ (.inr (.inr rfl))
  split
  · unfold unpinS
    split
    · exact h
    split
    · exact h
    · exact good_set_pin h _ _ (.inl rfl)
  split
  · unfold retS
    split
    · exact h
    · rename_i hn
      split
      · exact h
      · rename_i h8
        have hh : has e a.core = true := by
          cases hb : has e a.core
          · exact absurd (.inr (.inr hb)) hn
          · rfl
        have hl := good_limbo h (atL_good h hh)
        refine good_set_lim h _ _ ⟨lim_snoc (by omega) (by omega) hp.2.2.2.1 hl.1, ?_⟩
        simp only [List.length_append, List.length_cons, List.length_nil]; omega
  split
  · unfold advS
    split
    · exact h
    split
    · exact h
    split
    · exact h
    · rename_i h1 h2 h3
      refine good_of hp.1 hp.2.1 hp.2.2.1 (by show 1 ≤ e.now + 1; omega) (by show e.now + 1 ≤ _; omega) (fun q hq => ?_) (fun l hl => ?_)
      · show q = 0 ∨ q = e.now + 1 ∨ q = e.now + 1 + 1
        rcases good_pins h hq with h' | h' | h'
        · exact .inl h'
        · exact absurd (List.any_eq_true.2 ⟨q, hq, by simpa using h'⟩) h3
        · exact .inr (.inl h')
      · have := good_limbo h hl
        exact ⟨lim_mono (by show e.now ≤ e.now + 1; omega) (Int.le_refl _) this.1, this.2⟩
  · unfold reapS
    split
    · exact h
    · rename_i hn
      have hh : has e a.core = true := by simpa using hn
      have hl := good_limbo h (atL_good h hh)
      exact good_set_lim h _ _ ⟨lim_drop _ hl.1, by rw [List.length_drop]; omega⟩
theorem acts_bad {e : E} (h : good e = false) (a : A) : (acts e a).1 = e ∧ (acts e a).2.1 = [] := by
  have hh : ∀ c, has e c = false := fun c => has_good h
  unfold acts pinS unpinS retS advS reapS
  split
  · rw [if_pos (hh _)]; exact ⟨rfl, rfl⟩
  split
  · rw [if_pos (hh _)]; exact ⟨rfl, rfl⟩
  split
  · rw [if_pos (.inr (.inr (hh _)))]; exact ⟨rfl, rfl⟩
  split
  · exact ⟨rfl, rfl⟩
  · rw [if_pos (hh _)]; exact ⟨rfl, rfl⟩
theorem acts_small {e : E} (h : Small e) (a : A) : Small (acts e a).1 := by
  cases hg : good e
  · rw [(acts_bad hg a).1]; exact h
  · exact good_small (acts_good hg a)
theorem acts_out {e : E} (a : A) : (acts e a).2.1.length < 1000000 := by
  cases hg : good e
  · rw [(acts_bad hg a).2]; exact (by decide : 0 < 1000000)
  · unfold acts
    split
    · exact (by decide : 0 < 1000000)
    split
    · exact (by decide : 0 < 1000000)
    split
    · exact (by decide : 0 < 1000000)
    split
    · exact (by decide : 0 < 1000000)
    · unfold reapS
      split
      · exact (by decide : 0 < 1000000)
      · rename_i hn
        have hl := good_limbo hg (atL_good hg (show has e a.core = true by simpa using hn))
        show (((atL e.limbo a.core).take _).map Ws.obj).length < _
        rw [List.length_map, List.length_take]; omega
theorem acts_now {e : E} (h : good e = true) (a : A) : ((acts e a).1.now = e.now + 1 ∧ a.kind = 3 ∧ (acts e a).2.2 = 1000) ∨ ((acts e a).1.now = e.now ∧ (a.kind ≠ 3 ∨ (acts e a).2.2 ≠ 1000)) := by
  unfold acts
  split
  · refine .inr ⟨?_, .inl (by omega)⟩
    unfold pinS
    split
    · rfl
    split <;> rfl
  split
  · refine .inr ⟨?_, .inl (by omega)⟩
    unfold unpinS
    split
    · rfl
    split <;> rfl
  split
  · refine .inr ⟨?_, .inl (by omega)⟩
    unfold retS
    split
    · rfl
    split <;> rfl
  split
  · unfold advS
    split
    · exact .inr ⟨rfl, .inr (show (0 : Int) ≠ 1000 by decide)⟩
    split
    · exact .inr ⟨rfl, .inr (show (0 : Int) ≠ 1000 by decide)⟩
    split
    · exact .inr ⟨rfl, .inr (show (0 : Int) ≠ 1000 by decide)⟩
    · exact .inl ⟨rfl, ‹_›, rfl⟩
  · refine .inr ⟨?_, .inl ‹_›⟩
    unfold reapS
    split <;> rfl
def smallB (e : E) : Bool := decide (e.pins.length ≤ 70) && decide (e.limbo.length ≤ 70) && e.limbo.all fun l => decide (l.length ≤ 30)
theorem small_ok (e : E) : law11_small.R e.now (e.pins.map ei) (e.limbo.map encL) = some (smallB e, ()) := by
  refine law11_small.start _ _ _ _ ?_
  simp only [List.length_map]
  unfold smallB
  by_cases h1 : (e.pins.length : Int) > 70
  · rw [decide_eq_true h1, decide_eq_false (show ¬ e.pins.length ≤ 70 by omega)]; simp
  rw [decide_eq_false h1, decide_eq_true (show e.pins.length ≤ 70 by omega)]
  by_cases h2 : (e.limbo.length : Int) > 70
  · rw [decide_eq_true h2, decide_eq_false (show ¬ e.limbo.length ≤ 70 by omega)]; simp
  rw [decide_eq_false h2, decide_eq_true (show e.limbo.length ≤ 70 by omega)]
  simp only [cond_false, Bool.true_and]
  have key : ∀ m i : Nat, i + m = e.limbo.length → law11_small.H5 i e.now (e.pins.map ei) (e.limbo.map encL) ((e.limbo.drop i).all fun l => decide (l.length ≤ 30), ()) := by
    intro m
    induction m with
    | zero =>
      intro i hi
      refine law11_small.H5_step _ _ _ _ _ ?_
      rw [decide_eq_false (by simp; omega), List.drop_eq_nil_of_le (by omega)]
      rfl
    | succ m ih =>
      intro i hi
      refine law11_small.H5_step _ _ _ _ _ ?_
      have hil : i < e.limbo.length := by omega
      rw [decide_eq_true (by simp; omega), List.drop_eq_getElem_cons hil, List.all_cons]
      simp only [cond_true, needs_nat, Int.toNat_natCast, map_get _ _ _ hil, optAll_so, l0_, List.length_map, wrap_succ (show i < 4611686018427387904 by omega)]
      by_cases h : (e.limbo[i]).length ≤ 30
      · rw [decide_eq_false (by omega), decide_eq_true h]
        simp only [cond_false, Bool.true_and]
        exact ih (i + 1) (by omega)
      · rw [decide_eq_true (by omega), decide_eq_false h]; simp
  exact key e.limbo.length 0 (by omega)
def InR (e : E) : Prop := ∀ p ∈ e.pins, -9223372036854775808 ≤ p ∧ p < 9223372036854775808
theorem smallB_small {e : E} (hr : InR e) (h : smallB e = true) : Small e := by
  unfold smallB at h
  simp only [Bool.and_eq_true, decide_eq_true_eq, List.all_eq_true] at h
  exact ⟨by omega, by omega, fun l hl => by have := h.2 l hl; omega, hr⟩
theorem newS_small (n : Int) : Small (newS n).1 := by
  unfold newS
  split
  · exact ⟨by decide, by decide, fun l hl => by simp at hl, fun p hp => by simp at hp⟩
  · refine ⟨by simp; omega, by simp; omega, fun l hl => ?_, fun p hp => ?_⟩
    · rw [List.eq_of_mem_replicate hl]; decide
    · rw [List.eq_of_mem_replicate hp]; decide
theorem newS_good {n : Int} (h : ¬ (n < 1 ∨ n > 64)) : good (newS n).1 = true ∧ (newS n).2 = 0 := by
  unfold newS
  rw [if_neg h]
  refine ⟨good_of ?_ ?_ ?_ (Int.le_refl _) (show (1 : Int) ≤ 1099511627776 by decide) (fun p hp => .inl (List.eq_of_mem_replicate hp)) (fun l hl => ?_), rfl⟩
  · show 1 ≤ (List.replicate n.toNat (0 : Int)).length; rw [List.length_replicate]; omega
  · show (List.replicate n.toNat (0 : Int)).length ≤ 64; rw [List.length_replicate]; omega
  · show (List.replicate n.toNat ([] : List Ws)).length = (List.replicate n.toNat (0 : Int)).length; rw [List.length_replicate, List.length_replicate]
  · rw [List.eq_of_mem_replicate hl]; exact ⟨rfl, by decide⟩
theorem er_zero (b : Bool) : (er b == 0) = b := by cases b <;> rfl
theorem steps_law (e f : E) (a : A) (n : Int) (hr : InR e) : law11_EpochSteps.R e.now (e.pins.map ei) (e.limbo.map encL) f.now (f.pins.map ei) (f.limbo.map encL) a.kind a.core a.obj n = some (true, ()) := by
  refine law11_EpochSteps.start _ _ _ _ _ _ _ _ _ _ _ ?_
  simp only [small_ok, optAll_so]
  cases h1 : smallB e
  · simp only [live_ok, optAll_so, Bool.not_false, cond_true]
  cases h2 : smallB f
  · simp only [live_ok, optAll_so, Bool.not_false, Bool.not_true, cond_true, cond_false]
  have hs := smallB_small hr h1
  have hsx := acts_small hs a
  have hn := newS_small n
  simp only [Bool.not_true, cond_false, does_ok e a hs, model_ok e a hs, newS_ok, rnew_ok, optAll_so, tX, tS, tE, rsame_ok _ _ hsx, ints_ok _ _ (acts_out a), decide_true, cond_true, beq_self_eq_true, check_ok e hs, num_ok, ris_ok e hs, same_ok e f hs, rsame_ok e f hs, rsame_ok _ _ hn, er_zero, live_ok]
theorem runs_loop (l : List A) (hl : l.length ≤ 120) (encA : A → List DV) (h0 : ∀ a, dInt .i64 (encA a) 0 = some a.kind) (h1 : ∀ a, dInt .i64 (encA a) 1 = some a.core) (h2 : ∀ a, dInt .i64 (encA a) 2 = some a.obj) : ∀ (m i : Nat) (e : E), i + m = l.length → good e = true → law11_EpochRuns.H9 (l.map encA) i e.now (e.pins.map ei) (e.limbo.map encL) e.now (e.pins.map ei) (e.limbo.map encL) (true, ()) := by
  intro m
  induction m with
  | zero =>
    intro i e hi hg
    refine law11_EpochRuns.H9_step _ _ _ _ _ _ _ _ _ ?_
    rw [decide_eq_false (by simp; omega)]
    simp only [cond_false, live_ok, optAll_so]
  | succ m ih =>
    intro i e hi hg
    refine law11_EpochRuns.H9_step _ _ _ _ _ _ _ _ _ ?_
    have hil : i < l.length := by omega
    rw [decide_eq_true (by simp; omega)]
    have hs := good_small hg
    have hgx := acts_good hg l[i]
    have hsx := good_small hgx
    have nxt := ih (i + 1) _ (by omega) hgx
    simp only [cond_true, needs_nat, Int.toNat_natCast, map_get _ _ _ hil, optAll_so, h0, h1, h2, does_ok e l[i] hs, model_ok e l[i] hs, tX, tE, rsame_ok _ _ hsx, ints_ok _ _ (acts_out _), decide_true, Bool.not_true, cond_false, bne_self_eq_false, check_ok _ hsx, hgx, er, num_ok, wrap_succ (show i < 4611686018427387904 by omega)]
    exact nxt
def encA (a : A) : List DV := [.v (.int .i64 a.kind), .v (.int .i64 a.core), .v (.int .i64 a.obj)]
theorem a0_ (a : A) : dInt .i64 (encA a) 0 = some a.kind := rfl
theorem a1_ (a : A) : dInt .i64 (encA a) 1 = some a.core := rfl
theorem a2_ (a : A) : dInt .i64 (encA a) 2 = some a.obj := rfl
theorem runs_law (n : Int) (l : List A) : law11_EpochRuns.R n (l.map encA) = some (true, ()) := by
  refine law11_EpochRuns.start _ _ _ ?_
  simp only [List.length_map]
  by_cases h : (l.length : Int) > 120
  · rw [decide_eq_true h]; simp only [live_ok, optAll_so, cond_true]
  rw [decide_eq_false h]
  simp only [cond_false, newS_ok, rnew_ok, optAll_so, tS, tE, num_ok]
  by_cases hn : n < 1 ∨ n > 64
  · have e2 : (newS n).2 = 2 := by unfold newS; rw [if_pos hn]
    rw [e2]
    rcases hn with h1 | h1
    · rw [decide_eq_true h1]; simp only [live_ok, optAll_so]; exact True.intro
    · rw [decide_eq_true h1]
      cases decide (n < 1) <;> (simp only [live_ok, optAll_so]; exact True.intro)
  · obtain ⟨hg, e2⟩ := newS_good hn
    rw [e2]
    exact runs_loop l (by omega) encA a0_ a1_ a2_ l.length 0 _ (by omega) hg
theorem now_pins (l : List A) (hl : l.length ≤ 120) (i : Nat) (e x : E) (hg : good x = true) (hi : i < 1000) (nxt : law11_EpochNow.H8 (l.map encA) ((i + 1 : Nat) : Int) x.now (x.pins.map ei) (x.limbo.map encL) (true, ())) : ∀ m k : Nat, k + m = x.pins.length →
    law11_EpochNow.H14 (l.map encA) i k e.now (e.pins.map ei) (e.limbo.map encL) x.now (x.pins.map ei) (x.limbo.map encL) (true, ()) := by
  have hp := good_parts hg
  have hw : IntKind.i64.wrap (x.now + 1) = x.now + 1 := wrap_id (by omega) (by omega)
  intro m
  induction m with
  | zero =>
    intro k hk
    refine law11_EpochNow.H14_step _ _ _ _ _ _ _ _ _ _ ?_
    rw [decide_eq_false (by simp; omega), wrap_succ (show i < 4611686018427387904 by omega)]
    exact nxt
  | succ m ih =>
    intro k hk
    refine law11_EpochNow.H14_step _ _ _ _ _ _ _ _ _ _ ?_
    have hkl : k < x.pins.length := by omega
    have hpk := good_pins hg (List.getElem_mem hkl)
    have nx := ih (k + 1) (by omega)
    rw [decide_eq_true (by simp; omega)]
    simp only [cond_true, needs_nat, Int.toNat_natCast, map_get _ _ _ hkl, optAll_so, n0_, hw, wrap_succ (show k < 4611686018427387904 by omega)]
    generalize x.pins[k] = p at hpk ⊢
    by_cases h0 : p = 0
    · rw [show (p != 0) = false by simpa using h0]; exact nx
    · rw [show (p != 0) = true by simpa using h0, decide_eq_false (by omega), decide_eq_false (by omega)]
      exact nx
theorem now_loop (l : List A) (hl : l.length ≤ 120) : ∀ (m i : Nat) (e : E), i + m = l.length → good e = true → law11_EpochNow.H8 (l.map encA) i e.now (e.pins.map ei) (e.limbo.map encL) (true, ()) := by
  intro m
  induction m with
  | zero =>
    intro i e hi hg
    refine law11_EpochNow.H8_step _ _ _ _ _ _ ?_
    rw [decide_eq_false (by simp; omega)]
    simp only [cond_false, live_ok, optAll_so]
  | succ m ih =>
    intro i e hi hg
    refine law11_EpochNow.H8_step _ _ _ _ _ _ ?_
    have hil : i < l.length := by omega
    have hp := good_parts hg
    have hw : IntKind.i64.wrap (e.now + 1) = e.now + 1 := wrap_id (by omega) (by omega)
    rw [decide_eq_true (by simp; omega)]
    have hgx := acts_good hg l[i]
    have inner := now_pins l hl i e _ hgx (by omega) (ih (i + 1) _ (by omega) hgx) _ 0 (Nat.zero_add _)
    have hnow := acts_now hg l[i]
    simp only [cond_true, needs_nat, Int.toNat_natCast, map_get _ _ _ hil, optAll_so, a0_, a1_, a2_, does_ok e l[i] (good_small hg), tX, tE, hw]
    generalize l[i] = a at hnow inner ⊢
    rcases hnow with ⟨h1, h2, h3⟩ | ⟨h1, h2⟩
    · rw [h2, h3, h1]
      rw [h1] at inner
      simp only [beq_self_eq_true, cond_true, bne_self_eq_false, cond_false]
      exact inner
    · rw [h1]
      rw [h1] at inner
      simp only [bne_self_eq_false, cond_false]
      by_cases h3 : a.kind = 3
      · have h4 := h2.resolve_left (fun e => e h3)
        rw [h3, show ((acts e a).2.2 == 1000) = false by simpa using h4, show ((acts e a).2.2 != 1000) = true by simpa using h4]
        exact inner
      · rw [show (a.kind == 3) = false by simpa using h3, show (a.kind != 3) = true by simpa using h3]
        exact inner
theorem now_law (n : Int) (l : List A) : law11_EpochNow.R n (l.map encA) = some (true, ()) := by
  refine law11_EpochNow.start _ _ _ ?_
  simp only [List.length_map]
  by_cases h1 : n < 1
  · rw [decide_eq_true h1]; simp only [live_ok, optAll_so, cond_true]
  rw [decide_eq_false h1]
  by_cases h2 : n > 64
  · rw [decide_eq_true h2]; simp only [live_ok, optAll_so, cond_true, cond_false]
  rw [decide_eq_false h2]
  by_cases h : (l.length : Int) > 120
  · rw [decide_eq_true h]; simp only [live_ok, optAll_so, cond_true, cond_false]
  rw [decide_eq_false h]
  obtain ⟨hg, e2⟩ := newS_good (n := n) (by omega)
  simp only [cond_false, newS_ok, optAll_so, tS, tE, num_ok]
  rw [e2]
  exact now_loop l (by omega) l.length 0 _ (by omega) hg
end Epoch
end Go.AI
