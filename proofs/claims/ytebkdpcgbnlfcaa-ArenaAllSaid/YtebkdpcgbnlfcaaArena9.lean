/-
  Own work. The arenas' last law: all places there are, each once.
-/
import Derived.Test.YtebkdpcgbnlfcaaArena8
import Derived.Test.YtebkdpcgbnlfcaaArena7
import Derived.Test.YtebkdpcgbnlfcaaToldAL
namespace Go.AI
open Go
set_option linter.unusedVariables false
set_option linter.unusedSimpArgs false
namespace Arena
open Kit
theorem mem_ints {n c j : Nat} {x : Int} : x ∈ ints (fr n c j) ↔ ∃ q : Nat, q < n ∧ q % c = j ∧ x = (q : Int) := by
  unfold ints fr
  simp only [List.mem_map, List.mem_filter, List.mem_range, beq_iff_eq]
  constructor
  · rintro ⟨q, ⟨h1, h2⟩, rfl⟩; exact ⟨q, h1, h2, rfl⟩
  · rintro ⟨q, h1, h2, rfl⟩; exact ⟨q, ⟨h1, h2⟩, rfl⟩
theorem newA_good (n c : Nat) (hn : 1 ≤ n ∧ n ≤ 64) (hc : 1 ≤ c ∧ c ≤ 64) : good (newA n c) = true := by
  refine (good_iff _).2 ⟨?_, fun t ht => ?_, fun p hp => ?_, ?_⟩
  · unfold sizes newA; simp; omega
  · unfold newA at ht
    rw [List.eq_of_mem_replicate ht]; rfl
  · obtain ⟨l, hl, hpl⟩ := List.mem_flatten.1 hp
    unfold newA at hl
    obtain ⟨j, hj, rfl⟩ := List.mem_map.1 hl
    obtain ⟨q, h1, h2, rfl⟩ := mem_ints.1 hpl
    unfold okP newA
    simp [h1, z1, liveB]
  · refine List.pairwise_flatten.2 ⟨fun l hl => ?_, ?_⟩
    · unfold newA at hl
      obtain ⟨j, hj, rfl⟩ := List.mem_map.1 hl
      unfold ints fr
      exact List.Pairwise.map _ (fun a b hab => by omega) (List.Pairwise.filter _ List.nodup_range)
    · unfold newA
      refine List.Pairwise.map _ (fun i j hij => ?_) List.nodup_range
      intro x hx y hy e
      obtain ⟨q, h1, h2, rfl⟩ := mem_ints.1 hx
      obtain ⟨u, g1, g2, g3⟩ := mem_ints.1 hy
      have : q = u := by omega
      subst this
      exact hij (by omega)
def sumTo (n c : Nat) : Nat → Nat
  | 0 => 0
  | j + 1 => sumTo n c j + (fr n c j).length
theorem sum_succ (p c : Nat) : ∀ j : Nat, sumTo (p + 1) c j = sumTo p c j + if p % c < j then 1 else 0
  | 0 => by simp [sumTo]
  | j + 1 => by
    simp only [sumTo, fr_succ, sum_succ p c j]
    by_cases h : p % c = j
    · rw [if_pos h, if_neg (by omega), if_pos (by omega)]; simp; omega
    · rw [if_neg h]
      by_cases h2 : p % c < j
      · rw [if_pos h2, if_pos (by omega)]; simp; omega
      · rw [if_neg h2, if_neg (by omega)]; simp
theorem sum_zero (c : Nat) : ∀ j : Nat, sumTo 0 c j = 0
  | 0 => rfl
  | j + 1 => by simp only [sumTo, sum_zero c j]; rfl
theorem sum_all (c : Nat) (hc : 0 < c) : ∀ n : Nat, sumTo n c c = n
  | 0 => sum_zero c c
  | n + 1 => by rw [sum_succ, sum_all c hc n, if_pos (Nat.mod_lt _ hc)]
theorem sum_le (n c : Nat) : ∀ j : Nat, sumTo n c j ≤ n * j
  | 0 => Nat.zero_le _
  | j + 1 => by
    have := sum_le n c j
    have := fr_len n c j
    simp only [sumTo, Nat.mul_succ]; omega
/-- Where c has taken i, all before it all. -/
structure At (n C c i : Nat) (a : A) : Prop where
  good : good a = true
  refs : Refs a 1000000
  things : a.things.length = n
  free : a.free.length = C
  here : c < C → listOf a c = (ints (fr n C c)).drop i
  later : ∀ j : Nat, c < j → j < C → listOf a j = ints (fr n C j)
theorem listOf_put (a : A) (p : Int) (t : Th) (c : Int) : listOf (putA a p t) c = listOf a c := rfl
theorem listOf_set {a : A} {c : Nat} (hc : c < a.free.length) (l : List Int) (j : Nat) : listOf (putL a c l) j = if j = c then l else listOf a j := by
  unfold listOf putL
  simp only [List.getD_eq_getElem?_getD, Int.toNat_natCast, List.getElem?_set]
  by_cases h : c = j
  · rw [if_pos h, if_pos h.symm, if_pos (by omega)]; rfl
  · rw [if_neg h, if_neg (fun e => h e.symm)]
theorem take_states {a : A} (h : good a = true) {c : Int} {t : Th} {p : Int} {r : List Int} (hc : 0 ≤ c ∧ c < a.free.length) (ht : liveB t = true) (hl : listOf a c = p :: r) :
    takeS a c t = (putA (putL a c r) p { t with gen := (at_ a p).gen, refs := 1 }, p, 0) ∧ stS a p = .free ∧ stS (putA (putL a c r) p { t with gen := (at_ a p).gen, refs := 1 }) p = .live := by
  have pm := cut_perm hc hl
  obtain ⟨h1, h2, h3, h4⟩ := (good_iff a).1 h
  have hp := okP_iff.1 (h3 p (pm.mem_iff.2 List.mem_cons_self))
  refine ⟨?_, ?_, ?_⟩
  · unfold takeS
    rw [if_pos ⟨hc.1, hc.2, ht, h⟩, hl]
  · rw [st_in ⟨hp.1, hp.2.1⟩]
    unfold stT
    rw [if_neg (by rw [hp.2.2.1]; simp), if_neg hp.2.2.2, if_pos (by unfold freeB; exact decide_eq_true (pm.mem_iff.2 List.mem_cons_self))]
  · have hp' : 0 ≤ p ∧ p < (putL a c r).things.length := ⟨hp.1, hp.2.1⟩
    have hl2 : liveB { t with gen := (at_ a p).gen, refs := 1 } = true := ht
    rw [st_put_eq hp']
    unfold stT
    rw [if_pos hl2]
theorem all_core {n C : Nat} (hn : 1 ≤ n ∧ n ≤ 64) (hC : 1 ≤ C ∧ C ≤ 64) (t : Th) (ht : liveB t = true) (c : Nat) (hc : c < C)
    (nxt : ∀ a : A, At n C (c + 1) 0 a → law09_ArenaAll.H9 n C ((sumTo n C (c + 1) : Nat) : Int) ((c + 1 : Nat) : Int) t.ty t.gen t.refs t.start t.size t.water t.src t.val (a.things.map encT) (a.free.map encL) (true, ())) : ∀ (m i : Nat) (a : A), i + m = (fr n C c).length → At n C c i a →
    law09_ArenaAll.H12 n C ((sumTo n C c + i : Nat) : Int) c i t.ty t.gen t.refs t.start t.size t.water t.src t.val (a.things.map encT) (a.free.map encL) (true, ()) := by
  have hfl := fr_len n C c
  have hsl := sum_le n C c
  have hsb : sumTo n C c ≤ 4096 := Nat.le_trans hsl (Nat.le_trans (Nat.mul_le_mul hn.2 (show c ≤ 64 by omega)) (by omega))
  intro m
  induction m with
  | zero =>
    intro i a hi h
    refine law09_ArenaAll.H12_step _ _ _ _ _ _ _ _ _ _ _ _ _ _ _ _ ?_
    have hs := (good_small h.good).1
    have hl : listOf a c = [] := by rw [h.here hc]; exact List.drop_eq_nil_of_le (by rw [ints_len]; omega)
    have htk : takeS a c t = (a, 0, 5) := by
      unfold takeS
      rw [if_pos ⟨by omega, by have := h.free; omega, ht, h.good⟩, hl]
    rw [decide_eq_true (by omega)]
    simp only [cT, take_ok a c t hs, optAll_so, htk, num_ok]
    rw [show (t3 (a, (0 : Int), (5 : Int))).1.1 = a.things.map encT from rfl, show (t3 (a, (0 : Int), (5 : Int))).1.2.1 = a.free.map encL from rfl, same_ok _ _ hs, decide_eq_true rfl]
    have e : sumTo n C c + i = sumTo n C (c + 1) := by simp only [sumTo]; omega
    rw [e, wrap_succ (show c < 4611686018427387904 by omega)]
    exact nxt a ⟨h.good, h.refs, h.things, h.free, fun hc2 => by rw [List.drop_zero]; exact h.later (c + 1) (by omega) hc2, fun j h1 h2 => h.later j (by omega) h2⟩
  | succ m ih =>
    intro i a hi h
    refine law09_ArenaAll.H12_step _ _ _ _ _ _ _ _ _ _ _ _ _ _ _ _ ?_
    have hs := (good_small h.good).1
    have hil : i < (ints (fr n C c)).length := by rw [ints_len]; omega
    have hl : listOf a c = (ints (fr n C c))[i] :: (ints (fr n C c)).drop (i + 1) := by rw [h.here hc]; exact List.drop_eq_getElem_cons hil
    have hmem : (ints (fr n C c))[i] ∈ ints (fr n C c) := List.getElem_mem hil
    generalize (ints (fr n C c))[i] = p at hl hmem
    obtain ⟨q, q1, q2, rfl⟩ := mem_ints.1 hmem
    have hcf : 0 ≤ (c : Int) ∧ (c : Int) < a.free.length := by have := h.free; omega
    obtain ⟨e1, e2, e3⟩ := take_states h.good hcf ht hl
    have hL := take_left h.good (M := 1000000) (by omega) h.refs (c : Int) t
    rw [e1] at hL
    have hg2 := hL.good
    generalize hb : putA (putL a (c : Int) ((ints (fr n C c)).drop (i + 1))) (q : Int) { t with gen := (at_ a (q : Int)).gen, refs := 1 } = b at e1 e3 hL hg2
    have hs2 := (good_small hg2).1
    rw [decide_eq_true (by omega)]
    simp only [cT, take_ok a c t hs, optAll_so, e1, num_ok, needs_iff]
    rw [show (t3 (b, (q : Int), (0 : Int))).1.1 = b.things.map encT from rfl, show (t3 (b, (q : Int), (0 : Int))).1.2.1 = b.free.map encL from rfl, show (t3 (b, (q : Int), (0 : Int))).2.1 = (q : Int) from rfl, state_ok a _ hs, state_ok b _ hs2]
    simp only [optAll_so, free_b, live_b, st_beq, e2, e3]
    rw [show ((t3 (b, (q : Int), (0 : Int))).2.2.1 != (0 : Int)) = false from rfl, show ((Int.tmod (q : Int) (C : Int)) != (c : Int)) = false by rw [show Int.tmod (q : Int) (C : Int) = ((q % C : Nat) : Int) from rfl, q2]; simp]
    simp only [cF, decide_true, Bool.not_true]
    refine ⟨by omega, ?_⟩
    rw [wrap_succ (show i < 4611686018427387904 by omega), wrap_succ (show sumTo n C c + i < 4611686018427387904 by omega)]
    refine ih (i + 1) b (by omega) ⟨hg2, ?_, ?_, ?_, fun _ => ?_, fun j h1 h2 => ?_⟩
    · rw [← hb]; exact refs_put (a := putL a (c : Int) _) h.refs (Int.le_refl _) (by show (1 : Int) ≤ _; omega)
    · rw [← hb]; simp [putA, putL, h.things]
    · rw [← hb]; simp [putA, putL, h.free]
    · rw [← hb, listOf_put, listOf_set (by have := h.free; omega), if_pos rfl]
    · rw [← hb, listOf_put, listOf_set (by have := h.free; omega), if_neg (by omega)]
      exact h.later j h1 h2
theorem all_cores {n C : Nat} (hn : 1 ≤ n ∧ n ≤ 64) (hC : 1 ≤ C ∧ C ≤ 64) (t : Th) (ht : liveB t = true) : ∀ (m c : Nat) (a : A), c + m = C → At n C c 0 a →
    law09_ArenaAll.H9 n C ((sumTo n C c : Nat) : Int) c t.ty t.gen t.refs t.start t.size t.water t.src t.val (a.things.map encT) (a.free.map encL) (true, ()) := by
  intro m
  induction m with
  | zero =>
    intro c a hc h
    refine law09_ArenaAll.H9_step _ _ _ _ _ _ _ _ _ _ _ _ _ _ _ ?_
    rw [decide_eq_false (by omega), show c = C by omega, sum_all C (by omega) n, show ((n : Int) == (n : Int)) = true by simp]
    simp only [cF, cT, live_ok, optAll_so]
  | succ m ih =>
    intro c a hc h
    refine law09_ArenaAll.H9_step _ _ _ _ _ _ _ _ _ _ _ _ _ _ _ ?_
    rw [decide_eq_true (by omega)]
    exact all_core hn hC t ht c (by omega) (fun b hb => ih (c + 1) b (by omega) hb) (fr n C c).length 0 a (by omega) h
theorem all_law (n c : Int) (t : Th) : law09_ArenaAll.R n c t.ty t.gen t.refs t.start t.size t.water t.src t.val = some (true, ()) := by
  refine law09_ArenaAll.start _ _ _ _ _ _ _ _ _ _ _ ?_
  simp only [live_ok, optAll_so]
  by_cases h1 : n < 1
  · rw [decide_eq_true h1]; trivial
  rw [decide_eq_false h1]
  by_cases h2 : n > 64
  · rw [decide_eq_true h2]; trivial
  rw [decide_eq_false h2]
  by_cases h3 : c < 1
  · rw [decide_eq_true h3]; trivial
  rw [decide_eq_false h3]
  by_cases h4 : c > 64
  · rw [decide_eq_true h4]; trivial
  rw [decide_eq_false h4]
  by_cases h5 : t.ty < 1
  · rw [decide_eq_true h5]; trivial
  rw [decide_eq_false h5]
  by_cases h6 : t.ty > 5
  · rw [decide_eq_true h6]; trivial
  rw [decide_eq_false h6]
  obtain ⟨N, rfl⟩ := Int.eq_ofNat_of_zero_le (show 0 ≤ n by omega)
  obtain ⟨C, rfl⟩ := Int.eq_ofNat_of_zero_le (show 0 ≤ c by omega)
  have e1 : arena_New.R (N : Int) (C : Int) = _ := new_ok N C (by omega) (by omega)
  have ht : liveB t = true := by unfold liveB; simp; omega
  rw [e1]
  simp only [cF, optAll_so, num_ok]
  rw [show ((0 : Int) != 0) = false from rfl]
  have hl : ∀ j : Nat, j < C → listOf (newA N C) j = ints (fr N C j) := fun j hj => by
    unfold listOf newA
    simp [List.getD_eq_getElem?_getD, hj]
  exact all_cores ⟨by omega, by omega⟩ ⟨by omega, by omega⟩ t ht C 0 (newA N C) (by omega) ⟨newA_good N C (by omega) (by omega), fun u hu => by
    unfold newA at hu
    rw [List.eq_of_mem_replicate hu]; decide, by unfold newA; simp, by unfold newA; simp, fun h => by rw [List.drop_zero]; exact hl 0 h, fun j _ hj => hl j hj⟩
end Arena
end Go.AI
