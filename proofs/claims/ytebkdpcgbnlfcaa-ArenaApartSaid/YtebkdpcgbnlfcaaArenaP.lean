/-
  Own work. The arenas' fourth law: no two are given one place; who comes again has another generation.
-/
import Derived.Test.YtebkdpcgbnlfcaaArena8
import Derived.Test.YtebkdpcgbnlfcaaArena7
import Derived.Test.YtebkdpcgbnlfcaaToldAF
namespace Go.AI
open Go
set_option linter.unusedVariables false
set_option linter.unusedSimpArgs false
namespace Arena
open Kit
theorem mem_ints {n c j : Nat} {x : Int} : x ∈ ints (fr n c j) ↔ ∃ q : Nat, q < n ∧ q % c = j ∧ x = (q : Int) := by
  unfold ints fr
  simp only [List.mem_map, List.mem_filter, List.mem_range, beq_iff_eq]
  constructor
  · rintro ⟨q, ⟨h1, h2⟩, rfl⟩; exact ⟨q, h1, h2, rfl⟩
  · rintro ⟨q, h1, h2, rfl⟩; exact ⟨q, ⟨h1, h2⟩, rfl⟩
theorem newA_good (n c : Nat) (hn : 1 ≤ n ∧ n ≤ 64) (hc : 1 ≤ c ∧ c ≤ 64) : good (newA n c) = true := by
  refine (good_iff _).2 ⟨?_, fun t ht => ?_, fun p hp => ?_, ?_⟩
  · unfold sizes newA; simp; omega
  · unfold newA at ht
    rw [List.eq_of_mem_replicate ht]; rfl
  · obtain ⟨l, hl, hpl⟩ := List.mem_flatten.1 hp
    unfold newA at hl
    obtain ⟨j, hj, rfl⟩ := List.mem_map.1 hl
    obtain ⟨q, h1, h2, rfl⟩ := mem_ints.1 hpl
    unfold okP newA
    simp [h1, z1, liveB]
  · refine List.pairwise_flatten.2 ⟨fun l hl => ?_, ?_⟩
    · unfold newA at hl
      obtain ⟨j, hj, rfl⟩ := List.mem_map.1 hl
      unfold ints fr
      exact List.Pairwise.map _ (fun a b hab => by omega) (List.Pairwise.filter _ List.nodup_range)
    · unfold newA
      refine List.Pairwise.map _ (fun i j hij => ?_) List.nodup_range
      intro x hx y hy e
      obtain ⟨q, h1, h2, rfl⟩ := mem_ints.1 hx
      obtain ⟨u, g1, g2, g3⟩ := mem_ints.1 hy
      have : q = u := by omega
      subst this
      exact hij (by omega)
theorem take_states {a : A} (h : good a = true) {c : Int} {t : Th} {p : Int} {r : List Int} (hc : 0 ≤ c ∧ c < a.free.length) (ht : liveB t = true) (hl : listOf a c = p :: r) :
    takeS a c t = (putA (putL a c r) p { t with gen := (at_ a p).gen, refs := 1 }, p, 0) ∧ stS a p = .free ∧ stS (putA (putL a c r) p { t with gen := (at_ a p).gen, refs := 1 }) p = .live := by
  have pm := cut_perm hc hl
  obtain ⟨h1, h2, h3, h4⟩ := (good_iff a).1 h
  have hp := okP_iff.1 (h3 p (pm.mem_iff.2 List.mem_cons_self))
  refine ⟨?_, ?_, ?_⟩
  · unfold takeS
    rw [if_pos ⟨hc.1, hc.2, ht, h⟩, hl]
  · rw [st_in ⟨hp.1, hp.2.1⟩]
    unfold stT
    rw [if_neg (by rw [hp.2.2.1]; simp), if_neg hp.2.2.2, if_pos (by unfold freeB; exact decide_eq_true (pm.mem_iff.2 List.mem_cons_self))]
  · have hp' : 0 ≤ p ∧ p < (putL a c r).things.length := ⟨hp.1, hp.2.1⟩
    have hl2 : liveB { t with gen := (at_ a p).gen, refs := 1 } = true := ht
    rw [st_put_eq hp']
    unfold stT
    rw [if_pos hl2]
def frameT : Th := ⟨3, 0, 0, 0, 0, 0, -1, 0⟩
/-- Behind so many rounds. -/
structure Ap (n C i : Nat) (a : A) (seen : List Th) (places : List Int) : Prop where
  good : good a = true
  things : a.things.length = n
  free : a.free.length = C
  refs : Refs a (1000 + 1000 * i)
  gens : ∀ t ∈ a.things, t.gen ≤ i
  pl : ∀ p ∈ places, 0 ≤ p ∧ p < n ∧ liveB (at_ a p) = true ∧ (at_ a p).refs = 1
  nd : places.Nodup
  sn : ∀ s ∈ seen, 0 ≤ s.start ∧ s.start < n ∧ s.gen ≤ (at_ a s.start).gen ∧ (liveB (at_ a s.start) = false → s.gen < (at_ a s.start).gen)
  sl : seen.length ≤ i
  ql : places.length ≤ i
theorem Ap.next {n C i : Nat} {a : A} {seen : List Th} {places : List Int} (h : Ap n C i a seen places) : Ap n C (i + 1) a seen places :=
  ⟨h.good, h.things, h.free, refs_more h.refs (by omega), fun t ht => by have := h.gens t ht; omega, h.pl, h.nd, h.sn, by have := h.sl; omega, by have := h.ql; omega⟩
theorem gens_put {a : A} {i : Nat} (h : ∀ t ∈ a.things, t.gen ≤ i) {p : Int} {t : Th} (ht : t.gen ≤ ((i + 1 : Nat) : Int)) : ∀ u ∈ (putA a p t).things, u.gen ≤ ((i + 1 : Nat) : Int) := fun u hu => by
  rcases List.mem_or_eq_of_mem_set hu with hu | rfl
  · have := h u hu; omega
  · exact ht
/-- One more is taken. -/
theorem ap_take {n C i : Nat} {a : A} {seen : List Th} {places : List Int} (h : Ap n C i a seen places) {c : Int} (hc : 0 ≤ c ∧ c < C) {p : Int} {r : List Int} (hl : listOf a c = p :: r) :
    p ∉ places ∧ 0 ≤ p ∧ p < n ∧ Ap n C (i + 1) (putA (putL a c r) p { frameT with gen := (at_ a p).gen, refs := 1 }) (seen ++ [{ frameT with gen := (at_ a p).gen, refs := 1, start := p }]) (places ++ [p]) ∧
      ({ frameT with gen := (at_ a p).gen, refs := 1, start := p } : Th) ∉ seen := by
  have hcf : 0 ≤ c ∧ c < a.free.length := by rw [h.free]; exact hc
  have pm := cut_perm hcf hl
  obtain ⟨h1, h2, h3, h4⟩ := (good_iff a).1 h.good
  have hp := okP_iff.1 (h3 p (pm.mem_iff.2 List.mem_cons_self))
  have hth := h.things
  have hp' : 0 ≤ p ∧ p < (putL a c r).things.length := ⟨hp.1, hp.2.1⟩
  have hnp : p ∉ places := fun hm => by have := (h.pl p hm).2.2.1; rw [hp.2.2.1] at this; cases this
  obtain ⟨e1, _, _⟩ := take_states h.good hcf (t := frameT) rfl hl
  have hL := take_left h.good (M := 1000 + 1000 * (i : Int)) (by omega) h.refs c frameT
  rw [e1] at hL
  have hat : ∀ q : Int, 0 ≤ q → at_ (putA (putL a c r) p { frameT with gen := (at_ a p).gen, refs := 1 }) q = if q = p then { frameT with gen := (at_ a p).gen, refs := 1 } else at_ a q := fun q hq => at_put (putL a c r) p q _ hp' hq
  refine ⟨hnp, hp.1, by omega, ⟨hL.good, by simp [putA, putL, h.things], by simp [putA, putL, h.free], refs_more hL.refs (by omega), ?_, fun q hq => ?_, ?_, fun s hs => ?_, ?_, ?_⟩, fun hm => ?_⟩
  · exact gens_put (a := putL a c r) h.gens (by have := h.gens _ (at_mem ⟨hp.1, hp.2.1⟩); show (at_ a p).gen ≤ _; omega)
  · rcases List.mem_append.1 hq with hq | hq
    · obtain ⟨q1, q2, q3, q4⟩ := h.pl q hq
      rw [hat q q1, if_neg (show ¬ q = p from fun e => hnp (e ▸ hq))]
      exact ⟨q1, q2, q3, q4⟩
    · obtain rfl := List.mem_singleton.1 hq
      rw [hat q hp.1, if_pos rfl]
      exact ⟨hp.1, by omega, rfl, rfl⟩
  · exact List.nodup_append.2 ⟨h.nd, by simp, fun x hx y hy e => by rw [List.mem_singleton.1 hy] at e; exact hnp (e ▸ hx)⟩
  · rcases List.mem_append.1 hs with hs | hs
    · obtain ⟨s1, s2, s3, s4⟩ := h.sn s hs
      rw [hat s.start s1]
      by_cases e : s.start = p
      · rw [if_pos e]
        have := s3; rw [e] at this
        exact ⟨s1, s2, this, fun hx => by cases hx⟩
      · rw [if_neg e]; exact ⟨s1, s2, s3, s4⟩
    · obtain rfl := List.mem_singleton.1 hs
      rw [hat p hp.1, if_pos rfl]
      exact ⟨hp.1, by show p < _; omega, Int.le_refl _, fun hx => by cases hx⟩
  · have := h.sl; simp; omega
  · have := h.ql; simp; omega
  · obtain ⟨s1, s2, s3, s4⟩ := h.sn _ hm
    exact absurd (s4 hp.2.2.1) (Int.lt_irrefl _)
/-- The first one is let go. -/
theorem ap_go {n C i : Nat} (hi : i ≤ 100) {a : A} {seen : List Th} {q : Int} {places : List Int} (h : Ap n C i a seen (q :: places)) {c : Int} (hc : 0 ≤ c ∧ c < C) :
    (referS a q (-1)).2 = 0 ∧ (dropS (referS a q (-1)).1 q).2 = 0 ∧ (giveS (dropS (referS a q (-1)).1 q).1 c q).2 = 0 ∧ Ap n C (i + 1) (giveS (dropS (referS a q (-1)).1 q).1 c q).1 seen places := by
  obtain ⟨q1, q2, q3, q4⟩ := h.pl q List.mem_cons_self
  have hth := h.things
  have hq : 0 ≤ q ∧ q < a.things.length := ⟨q1, by omega⟩
  have hnd := List.nodup_cons.1 h.nd
  have g0 := thing_live (((good_iff a).1 h.good).2.1 _ (at_mem hq)) q3
  have gi := h.gens _ (at_mem hq)
  -- referred to by one fewer
  have L1 := refer_left h.good (M := 1000 + 1000 * (i : Int)) ⟨by omega, by omega⟩ h.refs q (-1)
  have e1 : referS a q (-1) = (putA a q { at_ a q with refs := 0 }, 0) := by
    unfold referS
    rw [if_pos ⟨has_iff.2 ⟨q1, hq.2, h.good⟩, q3, by omega, by omega, by rw [q4]; omega⟩, q4]
    rfl
  rw [e1] at L1 ⊢
  have at1 : ∀ p : Int, 0 ≤ p → at_ (putA a q { at_ a q with refs := 0 }) p = if p = q then { at_ a q with refs := 0 } else at_ a p := fun p hp => at_put a q p _ hq hp
  have hq1 : 0 ≤ q ∧ q < (putA a q { at_ a q with refs := 0 }).things.length := by simpa [putA] using hq
  -- no more
  have L2 := drop_left L1.good (M := 1000 + 1000 * (i : Int) + 100) (by omega) L1.refs q
  have n1 : nextS (at_ a q).gen = (at_ a q).gen + 1 := by unfold nextS; rw [if_pos ⟨g0.1, by omega⟩]
  have e2 : dropS (putA a q { at_ a q with refs := 0 }) q = (putA (putA a q { at_ a q with refs := 0 }) q ⟨0, (at_ a q).gen + 1, 0, 0, 0, 0, -1, 0⟩, 0) := by
    unfold dropS
    rw [at1 q q1, if_pos rfl, if_pos ⟨has_iff.2 ⟨q1, hq1.2, L1.good⟩, q3, rfl⟩]
    show (putA _ q ⟨0, nextS (at_ a q).gen, 0, 0, 0, 0, -1, 0⟩, (0 : Int)) = _
    rw [n1]
  simp only
  rw [e2] at L2 ⊢
  generalize hd : putA (putA a q { at_ a q with refs := 0 }) q ⟨0, (at_ a q).gen + 1, 0, 0, 0, 0, -1, 0⟩ = d at L2 ⊢
  have at2 : ∀ p : Int, 0 ≤ p → at_ d p = if p = q then ⟨0, (at_ a q).gen + 1, 0, 0, 0, 0, -1, 0⟩ else at_ a p := fun p hp => by
    rw [← hd, at_put _ q p _ hq1 hp]
    by_cases e : p = q
    · rw [if_pos e, if_pos e]
    · rw [if_neg e, if_neg e, at1 p hp, if_neg e]
  have dth : d.things.length = n := by rw [← hd]; simp [putA, h.things]
  have dfr : d.free = a.free := by rw [← hd]; rfl
  have hnf : q ∉ d.free.flatten := by rw [dfr]; exact live_out h.good q3
  have L3 := give_left L2.good (M := 1000 + 1000 * (i : Int) + 100 + 100) (by omega) L2.refs c q
  have e3 : giveS d c q = (putL d c (listOf d c ++ [q]), 0) := by
    unfold giveS
    rw [if_pos ⟨hc.1, by rw [dfr, h.free]; exact hc.2, has_iff.2 ⟨q1, by omega, L2.good⟩, by rw [at2 q q1, if_pos rfl]; rfl, by unfold freeB; exact decide_eq_false hnf⟩, if_neg (by rw [at2 q q1, if_pos rfl]; show ¬ (at_ a q).gen + 1 = -1; omega)]
  simp only
  rw [e3] at L3 ⊢
  have hat : ∀ p : Int, at_ (putL d c (listOf d c ++ [q])) p = at_ d p := fun _ => rfl
  refine ⟨trivial, trivial, rfl, ⟨L3.good, dth, by show (d.free.set _ _).length = C; rw [List.length_set, dfr, h.free], refs_more L3.refs (by omega), ?_, fun p hp => ?_, hnd.2, fun s hs => ?_, by have := h.sl; omega, by have := h.ql; simp at this; omega⟩⟩
  · show ∀ t ∈ d.things, t.gen ≤ _
    rw [← hd]
    intro u hu
    rcases List.mem_or_eq_of_mem_set hu with hu | rfl
    · rcases List.mem_or_eq_of_mem_set hu with hu | rfl
      · have := h.gens u hu; omega
      · show (at_ a q).gen ≤ _; omega
    · show (at_ a q).gen + 1 ≤ _; omega
  · obtain ⟨p1, p2, p3, p4⟩ := h.pl p (List.mem_cons_of_mem _ hp)
    have hne : p ≠ q := fun e => hnd.1 (e ▸ hp)
    rw [hat, at2 p p1, if_neg hne]
    exact ⟨p1, p2, p3, p4⟩
  · obtain ⟨s1, s2, s3, s4⟩ := h.sn s hs
    rw [hat, at2 s.start s1]
    by_cases e : s.start = q
    · rw [if_pos e]
      rw [e] at s3
      exact ⟨s1, s2, by show s.gen ≤ (at_ a q).gen + 1; omega, fun _ => by show s.gen < (at_ a q).gen + 1; omega⟩
    · rw [if_neg e]; exact ⟨s1, s2, s3, s4⟩
theorem apart_seen (C : Nat) (l : List Int) (i : Nat) (hi : i ≤ 100) (p : Int) (x0 y0 : A) (seen : List Th) (places : List Int) (t : Th) (hs : t.start = p) (hne : t ∉ seen) (hsl : seen.length ≤ 100) (hql : places.length ≤ 100)
    (nxt : law09_ArenaApart.H10 C (l.map ei) ((seen ++ [t]).map encT) ((places ++ [p]).map ei) ((i + 1 : Nat) : Int) (y0.things.map encT) (y0.free.map encL) (true, ())) : ∀ (m k : Nat), k + m = seen.length →
    law09_ArenaApart.H36 C (l.map ei) (seen.map encT) (places.map ei) i p k (x0.things.map encT) (x0.free.map encL) (y0.things.map encT) (y0.free.map encL) t.ty t.gen t.refs t.start t.size t.water t.src t.val (true, ()) := by
  intro m
  induction m with
  | zero =>
    intro k hk
    refine law09_ArenaApart.H36_step _ _ _ _ _ _ _ _ _ _ _ _ _ _ _ _ _ _ _ _ ?_
    rw [List.length_map, decide_eq_false (by omega)]
    simp only [cF, needs_iff, wrap_succ (show i < 4611686018427387904 by omega)]
    refine ⟨trivial, by simp; omega, trivial, by simp; omega, ?_⟩
    rw [List.map_append, List.map_append] at nxt
    exact nxt
  | succ m ih =>
    intro k hk
    refine law09_ArenaApart.H36_step _ _ _ _ _ _ _ _ _ _ _ _ _ _ _ _ _ _ _ _ ?_
    have hkl : k < seen.length := by omega
    rw [List.length_map, decide_eq_true (by omega)]
    simp only [cT, needs_iff, Nat.zero_add, Int.toNat_natCast, map_get _ _ _ hkl, optAll_so, t0_, t1_, t2_, t3_, t4_, t5_, t6_, t7_, eqT, wrap_succ (show k < 4611686018427387904 by omega)]
    rw [decide_eq_false (show ¬ seen[k] = t from fun e => hne (e ▸ List.getElem_mem hkl))]
    simp only [cF]
    exact ⟨⟨by omega, by omega⟩, ih (k + 1) (by omega)⟩
theorem apart_places (C : Nat) (l : List Int) (i : Nat) (hi : i ≤ 100) (p : Int) (x0 y0 : A) (hp : 0 ≤ p ∧ p < y0.things.length) (seen : List Th) (places : List Int) (hnp : p ∉ places) (hql : places.length ≤ 100)
    (nxt : law09_ArenaApart.H36 C (l.map ei) (seen.map encT) (places.map ei) i p 0 (x0.things.map encT) (x0.free.map encL) (y0.things.map encT) (y0.free.map encL) (at_ y0 p).ty (at_ y0 p).gen (at_ y0 p).refs p (at_ y0 p).size (at_ y0 p).water (at_ y0 p).src (at_ y0 p).val (true, ())) : ∀ (m k : Nat), k + m = places.length →
    law09_ArenaApart.H29 C (l.map ei) (seen.map encT) (places.map ei) i p k (x0.things.map encT) (x0.free.map encL) (y0.things.map encT) (y0.free.map encL) (true, ()) := by
  intro m
  induction m with
  | zero =>
    intro k hk
    refine law09_ArenaApart.H29_step _ _ _ _ _ _ _ _ _ _ _ _ ?_
    have hpi : p.toNat < y0.things.length := by omega
    rw [List.length_map, decide_eq_false (by omega)]
    simp only [cF, needs_iff, map_get _ _ _ hpi, optAll_so, t0_, t1_, t2_, t3_, t4_, t5_, t6_, t7_, at_eq hpi]
    exact ⟨hp.1, nxt⟩
  | succ m ih =>
    intro k hk
    refine law09_ArenaApart.H29_step _ _ _ _ _ _ _ _ _ _ _ _ ?_
    have hkl : k < places.length := by omega
    rw [List.length_map, decide_eq_true (by omega)]
    simp only [cT, needs_iff, Nat.zero_add, Int.toNat_natCast, map_get _ _ _ hkl, optAll_so, n0_, wrap_succ (show k < 4611686018427387904 by omega)]
    rw [show (places[k] == p) = false by simpa using fun e : places[k] = p => hnp (e ▸ List.getElem_mem hkl)]
    simp only [cF]
    exact ⟨⟨by omega, by omega⟩, ih (k + 1) (by omega)⟩
theorem apart_loop {n C : Nat} (hn : 1 ≤ n ∧ n ≤ 64) (hC : 1 ≤ C ∧ C ≤ 64) (l : List Int) (hl : l.length ≤ 100) : ∀ (m i : Nat) (a : A) (seen : List Th) (places : List Int), i + m = l.length → Ap n C i a seen places →
    law09_ArenaApart.H10 C (l.map ei) (seen.map encT) (places.map ei) i (a.things.map encT) (a.free.map encL) (true, ()) := by
  intro m
  induction m with
  | zero =>
    intro i a seen places hi h
    refine law09_ArenaApart.H10_step _ _ _ _ _ _ _ _ ?_
    rw [List.length_map, decide_eq_false (by omega)]
    simp only [cF, live_ok, optAll_so]
  | succ m ih =>
    intro i a seen places hi h
    refine law09_ArenaApart.H10_step _ _ _ _ _ _ _ _ ?_
    have hil : i < l.length := by omega
    have hs := (good_small h.good).1
    have stay := ih (i + 1) a seen places (by omega) h.next
    have htk : ∀ z : Int, arena_Take.R (a.things.map encT) (a.free.map encL) z 3 0 0 0 0 0 (-1) 0 = some (t3 (takeS a z frameT)) := fun z => take_ok a z frameT hs
    rw [List.length_map, decide_eq_true (by omega)]
    simp only [cT, needs_nat, Int.toNat_natCast, map_get _ _ _ hil, optAll_so, n0_, wrap_succ (show i < 4611686018427387904 by omega), law09_frame.closed, htk, num_ok]
    generalize l[i] = z
    by_cases z1 : z < 0
    · rw [decide_eq_true z1]; exact stay
    rw [decide_eq_false z1]
    by_cases z2 : z ≥ (C : Int)
    · rw [decide_eq_true z2]; exact stay
    rw [decide_eq_false z2]
    simp only [cF]
    have hz : 0 ≤ z ∧ z < (C : Int) := ⟨by omega, by omega⟩
    have hzf : 0 ≤ z ∧ z < (a.free.length : Int) := by rw [h.free]; exact hz
    cases hL : listOf a z with
    | nil =>
      have e : takeS a z frameT = (a, 0, 5) := by
        unfold takeS
        rw [if_pos ⟨hzf.1, hzf.2, rfl, h.good⟩, hL]
      rw [e, show ((t3 (a, (0 : Int), (5 : Int))).2.2.1 == (5 : Int)) = true from rfl]
      simp only [cT]
      cases places with
      | nil =>
        rw [List.map_nil, List.length_nil, show decide (((0 : Nat) : Int) > 0) = false from rfl, show ((t3 (a, (0 : Int), (5 : Int))).2.2.1 != (0 : Int)) = true from rfl, show ((t3 (a, (0 : Int), (5 : Int))).2.2.1 != (5 : Int)) = false from rfl]
        exact stay
      | cons q ps =>
        obtain ⟨g1, g2, g3, g4⟩ := ap_go (by omega) h hz
        have L1 := refer_left h.good (M := 1000 + 1000 * (i : Int)) ⟨by omega, by omega⟩ h.refs q (-1)
        have hs1 := (good_small L1.good).1
        have L2 := drop_left L1.good (M := 1000 + 1000 * (i : Int) + 100) (by omega) L1.refs q
        have hs2 := (good_small L2.good).1
        have hql := h.ql
        simp only [List.length_cons] at hql
        rw [decide_eq_true (show (((((q :: ps).map ei).length : Nat) : Int) > 0) by simp)]
        simp only [cT, needs_iff, List.map_cons, List.getElem?_cons_zero, optAll_so, n0_, List.length_cons, List.length_map, refer_ok a q (-1) hs]
        rw [show (t2 (referS a q (-1))).1.1 = (referS a q (-1)).1.things.map encT from rfl, show (t2 (referS a q (-1))).1.2.1 = (referS a q (-1)).1.free.map encL from rfl, drop_ok _ _ hs1]
        simp only [optAll_so]
        rw [show (t2 (dropS (referS a q (-1)).1 q)).1.1 = (dropS (referS a q (-1)).1 q).1.things.map encT from rfl, show (t2 (dropS (referS a q (-1)).1 q)).1.2.1 = (dropS (referS a q (-1)).1 q).1.free.map encL from rfl, give_ok _ _ _ hs2]
        simp only [optAll_so]
        rw [show (t2 (referS a q (-1))).2.1 = (0 : Int) from g1, show (t2 (dropS (referS a q (-1)).1 q)).2.1 = (0 : Int) from g2, show (t2 (giveS (dropS (referS a q (-1)).1 q).1 z q)).2.1 = (0 : Int) from g3]
        rw [show (IntKind.i64.wrap (IntKind.i64.wrap ((0 : Int) + 0) + 0) != 0) = false from rfl]
        have el : ((ei q :: ps.map ei).drop 1).take (ps.length + 1 - 1) = ps.map ei := List.take_of_length_le (by simp)
        rw [el]
        simp only [cF]
        refine ⟨⟨by omega, by omega⟩, ⟨by omega, by omega, by omega⟩, by simp; omega, trivial, ?_⟩
        exact ih (i + 1) _ seen ps (by omega) g4
    | cons p r =>
      obtain ⟨e, _, _⟩ := take_states h.good hzf (t := frameT) rfl hL
      obtain ⟨k1, k2, k3, k4, k5⟩ := ap_take h hz hL
      have nxt := ih (i + 1) _ _ _ (by omega) k4
      rw [e]
      have hbl : (putA (putL a z r) p { frameT with gen := (at_ a p).gen, refs := 1 }).things.length = n := k4.things
      have hat : at_ (putA (putL a z r) p { frameT with gen := (at_ a p).gen, refs := 1 }) p = { frameT with gen := (at_ a p).gen, refs := 1 } := by
        rw [at_put (putL a z r) p p _ ⟨k2, by have := h.things; show p < (a.things.length : Int); omega⟩ k2, if_pos rfl]
      generalize putA (putL a z r) p { frameT with gen := (at_ a p).gen, refs := 1 } = b at hbl hat nxt ⊢
      rw [show ((t3 (b, p, (0 : Int))).2.2.1 == (5 : Int)) = false from rfl, show ((t3 (b, p, (0 : Int))).2.2.1 != (0 : Int)) = false from rfl, show (t3 (b, p, (0 : Int))).2.1 = p from rfl, show (t3 (b, p, (0 : Int))).1.1 = b.things.map encT from rfl, show (t3 (b, p, (0 : Int))).1.2.1 = b.free.map encL from rfl]
      simp only [cF, List.length_map]
      rw [decide_eq_false (show ¬ p < 0 by omega), decide_eq_false (show ¬ p ≥ (b.things.length : Int) by omega)]
      simp only [cF]
      refine apart_places C l i (by omega) p a b ⟨k2, by omega⟩ seen places k1 (by have := h.ql; omega) ?_ places.length 0 (by omega)
      rw [hat]
      exact apart_seen C l i (by omega) p a b seen places { frameT with gen := (at_ a p).gen, refs := 1, start := p } rfl k5 (by have := h.sl; omega) (by have := h.ql; omega) nxt seen.length 0 (by omega)
theorem apart_law (n c : Int) (l : List Int) : law09_ArenaApart.R n c (l.map ei) = some (true, ()) := by
  refine law09_ArenaApart.start _ _ _ _ ?_
  simp only [live_ok, optAll_so, List.length_map]
  by_cases h1 : n < 1
  · rw [decide_eq_true h1]; trivial
  rw [decide_eq_false h1]
  by_cases h2 : n > 64
  · rw [decide_eq_true h2]; trivial
  rw [decide_eq_false h2]
  by_cases h3 : c < 1
  · rw [decide_eq_true h3]; trivial
  rw [decide_eq_false h3]
  by_cases h4 : c > 64
  · rw [decide_eq_true h4]; trivial
  rw [decide_eq_false h4]
  by_cases h5 : (l.length : Int) > 100
  · rw [decide_eq_true h5]; trivial
  rw [decide_eq_false h5]
  obtain ⟨N, rfl⟩ := Int.eq_ofNat_of_zero_le (show 0 ≤ n by omega)
  obtain ⟨C, rfl⟩ := Int.eq_ofNat_of_zero_le (show 0 ≤ c by omega)
  have e1 : arena_New.R (N : Int) (C : Int) = _ := new_ok N C (by omega) (by omega)
  rw [e1]
  simp only [cF, optAll_so, num_ok]
  rw [show ((0 : Int) != 0) = false from rfl]
  refine apart_loop (n := N) (C := C) ⟨by omega, by omega⟩ ⟨by omega, by omega⟩ l (by omega) l.length 0 (newA N C) [] [] (by omega) ⟨newA_good N C (by omega) (by omega), by unfold newA; simp, by unfold newA; simp, fun u hu => ?_, fun u hu => ?_, fun p hp => (by cases hp), List.nodup_nil, fun s hs => (by cases hs), Nat.le_refl _, Nat.le_refl _⟩
  · unfold newA at hu
    rw [List.eq_of_mem_replicate hu]; decide
  · unfold newA at hu
    rw [List.eq_of_mem_replicate hu]; decide
end Arena
end Go.AI
