/-
  Own work. The arenas' second law: from a new one on.
-/
import Derived.Test.YtebkdpcgbnlfcaaArena5
import Derived.Test.YtebkdpcgbnlfcaaArenaNew
import Derived.Test.YtebkdpcgbnlfcaaToldAR
namespace Go.AI
open Go
set_option linter.unusedVariables false
set_option linter.unusedSimpArgs false
namespace Arena
open Kit
theorem mod_ne {p q c : Nat} (h1 : p < q) (h2 : q < p + c) : q % c ≠ p % c := fun e => by
  have := Nat.sub_mod_eq_zero_of_mod_eq e
  rw [Nat.mod_eq_of_lt (by omega)] at this
  omega
theorem fr_gap (c j a : Nat) : ∀ d : Nat, (∀ q, a ≤ q → q < a + d → q % c ≠ j) → fr (a + d) c j = fr a c j
  | 0, _ => rfl
  | d + 1, h => by
    rw [show a + (d + 1) = (a + d) + 1 by omega, fr_succ, if_neg (h (a + d) (by omega) (by omega)), List.append_nil]
    exact fr_gap c j a d fun q h1 h2 => h q h1 (by omega)
theorem fr_next {p c : Nat} (hc : 0 < c) : fr (p + c) c (p % c) = fr p c (p % c) ++ [p] := by
  have h := fr_gap c (p % c) (p + 1) (c - 1) fun q h1 h2 => mod_ne (by omega) (by omega)
  rw [show p + 1 + (c - 1) = p + c by omega] at h
  rw [h, fr_succ, if_pos rfl]
theorem fr_start {c j : Nat} (hj : j < c) : fr j c j = [] := by
  have h := fr_gap c j 0 j fun q _ h2 => by rw [Nat.mod_eq_of_lt (by omega)]; omega
  rw [Nat.zero_add] at h
  rw [h]; rfl
theorem fr_end {n p c : Nat} (hc : 0 < c) (hp : n ≤ p) (hq : p < n + c ∨ p < c) : fr p c (p % c) = fr n c (p % c) := by
  have h := fr_gap c (p % c) n (p - n) fun q h1 h2 => by
    rcases hq with hq | hq
    · exact fun e => mod_ne (p := q) (q := p) (c := c) (by omega) (by omega) e.symm
    · rw [Nat.mod_eq_of_lt (by omega), Nat.mod_eq_of_lt hq]; omega
  rw [show n + (p - n) = p by omega] at h
  exact h
def lists (n c i : Nat) : List (List DV) := (List.range i).map fun j => encL (ints (fr n c j))
theorem ints_len (f : List Nat) : (ints f).length = f.length := by unfold ints; simp
theorem rnew_list {n c : Nat} (hn : 1 ≤ n ∧ n ≤ 64) (hc : 1 ≤ c ∧ c ≤ 64) (j : Nat) (hj : j < c) (x62 x63 x349 : List (List DV)) (A : AT × (Int × Unit))
    (nxt : ref09_New.H6_1048576 n c ((j + 1 : Nat) : Int) x62 x63 x349 (lists n c (j + 1)) [] A) : ∀ (m p : Nat), n ≤ p + m → p % c = j → (p < n + c ∨ p < c) →
    ref09_New.H10 n c j ((ints (fr p c j)).map ei) p x62 x63 x349 (lists n c j) A := by
  intro m
  induction m with
  | zero =>
    intro p hp hm hq
    refine ref09_New.H10_step _ _ _ _ _ _ _ _ _ _ ?_
    rw [decide_eq_false (by omega)]
    have hl := fr_len p c j
    have he : fr p c j = fr n c j := by rw [← hm]; exact fr_end (by omega) (by omega) hq
    have hl2 := fr_len n c j
    simp only [cF, needs_iff, wrap_succ (show j < 4611686018427387904 by omega)]
    refine ⟨trivial, by unfold lists; simp; omega, ?_⟩
    have e : lists n c j ++ ([[DV.lst 1 ((((ints (fr p c j)).map ei).take ((ints (fr p c j)).map ei).length))]] : List (List DV)).take 1 = lists n c (j + 1) := by
      rw [List.take_length, he]
      unfold lists
      rw [List.range_succ, List.map_append]; rfl
    rw [e]
    exact nxt
  | succ m ih =>
    intro p hp hm hq
    by_cases hpn : p < n
    · refine ref09_New.H10_step _ _ _ _ _ _ _ _ _ _ ?_
      have hl := fr_len p c j
      rw [decide_eq_true (by omega)]
      simp only [cT, needs_iff]
      refine ⟨trivial, by simp [ints_len]; omega, ?_⟩
      have e : (ints (fr p c j)).map ei ++ ([[DV.v (Value.int IntKind.i64 (p : Int))]] : List (List DV)).take 1 = (ints (fr (p + c) c j)).map ei := by
        have := fr_next (p := p) (c := c) (by omega)
        rw [hm] at this
        rw [this]
        unfold ints
        rw [List.map_append, List.map_append]; rfl
      rw [e, wrap_id (by omega) (by omega), show ((p : Int) + (c : Int)) = ((p + c : Nat) : Int) by omega]
      exact ih (p + c) (by omega) (by rw [Nat.add_mod_right]; exact hm) (.inl (by omega))
    · refine ref09_New.H10_step _ _ _ _ _ _ _ _ _ _ ?_
      rw [decide_eq_false (by omega)]
      have hl := fr_len p c j
      have he : fr p c j = fr n c j := by rw [← hm]; exact fr_end (by omega) (by omega) hq
      have hl2 := fr_len n c j
      simp only [cF, needs_iff, wrap_succ (show j < 4611686018427387904 by omega)]
      refine ⟨trivial, by unfold lists; simp; omega, ?_⟩
      have e : lists n c j ++ ([[DV.lst 1 ((((ints (fr p c j)).map ei).take ((ints (fr p c j)).map ei).length))]] : List (List DV)).take 1 = lists n c (j + 1) := by
        rw [List.take_length, he]
        unfold lists
        rw [List.range_succ, List.map_append]; rfl
      rw [e]
      exact nxt
theorem rnew_things {n : Nat} (hn : n ≤ 64) (x62 x63 free b : List (List DV)) : ∀ (m i : Nat), i + m = n → ref09_New.H15_2097152 n i x62 x63 (List.replicate i (encT z1)) free b ((List.replicate n (encT z1), (free, ())), ((0 : Int), ())) := by
  intro m
  induction m with
  | zero =>
    intro i hi
    refine ref09_New.H15_2097152_step _ _ _ _ _ _ _ _ ?_
    rw [decide_eq_false (by omega), show i = n by omega]
    simp only [cF, List.take_length]
  | succ m ih =>
    intro i hi
    refine ref09_New.H15_2097152_step _ _ _ _ _ _ _ _ ?_
    rw [decide_eq_true (by omega)]
    simp only [cT, needs_iff, wrap_succ (show i < 4611686018427387904 by omega)]
    refine ⟨trivial, by simp; omega, ?_⟩
    have := ih (i + 1) (by omega)
    rw [List.replicate_succ'] at this
    exact this
theorem newA_free (n c : Nat) : (newA n c).free.map encL = lists n c c := by unfold newA lists; rw [List.map_map]; rfl
theorem newA_things (n c : Nat) : (newA n c).things.map encT = List.replicate n (encT z1) := by unfold newA; rw [List.map_replicate]
theorem rnew_loop {n c : Nat} (hn : 1 ≤ n ∧ n ≤ 64) (hc : 1 ≤ c ∧ c ≤ 64) : ∀ (m j : Nat), j + m = c →
    ref09_New.H6_1048576 n c j [] [] [] (lists n c j) [] (((newA n c).things.map encT, ((newA n c).free.map encL, ())), ((0 : Int), ())) := by
  rw [newA_free, newA_things]
  intro m
  induction m with
  | zero =>
    intro j hj
    refine ref09_New.H6_1048576_step _ _ _ _ _ _ _ _ _ ?_
    rw [decide_eq_false (by omega), show j = c by omega]
    exact rnew_things hn.2 [] [] (lists n c c) [] n 0 (by omega)
  | succ m ih =>
    intro j hj
    refine ref09_New.H6_1048576_step _ _ _ _ _ _ _ _ _ ?_
    rw [decide_eq_true (by omega)]
    have h := rnew_list hn hc j (by omega) [] [] [] _ (ih (j + 1) (by omega)) n j (by omega) (Nat.mod_eq_of_lt (by omega)) (.inr (by omega))
    rw [fr_start (by omega)] at h
    exact h
theorem rnew_ok (n c : Nat) (hn : 1 ≤ n ∧ n ≤ 64) (hc : 1 ≤ c ∧ c ≤ 64) : ref09_New.R n c = some (((newA n c).things.map encT, ((newA n c).free.map encL, ())), ((0 : Int), ())) := by
  refine ref09_New.start _ _ _ ?_
  rw [decide_eq_false (by omega), decide_eq_false (by omega), decide_eq_false (by omega), decide_eq_false (by omega)]
  simp only [cF]
  refine ref09_New.H6_step _ _ _ _ _ _ _ _ ?_
  rw [decide_eq_true (by omega)]
  have h := rnew_list hn hc 0 (by omega) [] [] [] _ (rnew_loop hn hc (c - 1) 1 (by omega)) n 0 (by omega) (Nat.zero_mod c) (.inr (by omega))
  rw [fr_start (by omega)] at h
  exact h
theorem new_bad (n c : Int) (h : n < 1 ∨ n > 64 ∨ c < 1 ∨ c > 64) : arena_New.R n c = some ((([], ([], ())), ((2 : Int), ())) : AT × (Int × Unit)) := by
  refine arena_New.start _ _ _ ?_
  by_cases h1 : n < 1
  · rw [decide_eq_true h1]; rfl
  rw [decide_eq_false h1]
  by_cases h2 : n > 64
  · rw [decide_eq_true h2]; rfl
  rw [decide_eq_false h2]
  by_cases h3 : c < 1
  · rw [decide_eq_true h3]; rfl
  rw [decide_eq_false h3, decide_eq_true (show c > 64 by omega)]; rfl
/-- Lists of bounded length. -/
structure Bd (m : Nat) (a : A) : Prop where
  things : a.things.length ≤ 64
  free : a.free.length ≤ 64
  lists : ∀ l ∈ a.free, l.length ≤ m
theorem Bd.small {m : Nat} {a : A} (h : Bd m a) (hm : m < 1000000) : Small a := ⟨by have := h.things; omega, by have := h.free; omega, fun l hl => by have := h.lists l hl; omega⟩
theorem Bd.does {m : Nat} {a : A} (h : Bd m a) (x : Act) : Bd (m + 1) (doesS a x).1 := by
  have hg := does_grows a x
  refine ⟨by rw [hg.things]; exact h.things, by rw [hg.free]; exact h.free, fun l hl => ?_⟩
  obtain ⟨q, hq, hle⟩ := hg.lists l hl
  have := h.lists q hq
  omega
theorem newA_bd (n c : Nat) (hn : n ≤ 64) (hc : c ≤ 64) : Bd 64 (newA n c) := ⟨by unfold newA; simp; omega, by unfold newA; simp; omega, fun l hl => by
  unfold newA at hl
  obtain ⟨j, hj, rfl⟩ := List.mem_map.1 hl
  have := fr_len n c j
  rw [ints_len]; omega⟩
theorem runs_loop (l : List Act) (hl : l.length ≤ 100) : ∀ (m i : Nat) (a : A), i + m = l.length → Bd (64 + i) a →
    law09_ArenaRuns.H9 (l.map encAct) i (a.things.map encT) (a.free.map encL) (a.things.map encT) (a.free.map encL) (true, ()) := by
  intro m
  induction m with
  | zero =>
    intro i a hi hb
    refine law09_ArenaRuns.H9_step _ _ _ _ _ _ _ ?_
    rw [List.length_map, decide_eq_false (by omega)]
    simp only [cF, live_ok, optAll_so]
  | succ m ih =>
    intro i a hi hb
    refine law09_ArenaRuns.H9_step _ _ _ _ _ _ _ ?_
    have hil : i < l.length := by omega
    rw [List.length_map, decide_eq_true (by omega)]
    have x0 : ∀ x : Act, dInt .i64 (encAct x) 0 = some x.kind := fun _ => rfl
    have x1 : ∀ x : Act, dInt .i64 (encAct x) 1 = some x.core := fun _ => rfl
    have x2 : ∀ x : Act, dInt .i64 (encAct x) 2 = some x.obj := fun _ => rfl
    have x3 : ∀ x : Act, dInt .i64 (encAct x) 3 = some x.by_ := fun _ => rfl
    have x4 : ∀ x : Act, dInt .i64 (encAct x) 4 = some x.t.ty := fun _ => rfl
    have x5 : ∀ x : Act, dInt .i64 (encAct x) 5 = some x.t.gen := fun _ => rfl
    have x6 : ∀ x : Act, dInt .i64 (encAct x) 6 = some x.t.refs := fun _ => rfl
    have x7 : ∀ x : Act, dInt .i64 (encAct x) 7 = some x.t.start := fun _ => rfl
    have x8 : ∀ x : Act, dInt .i64 (encAct x) 8 = some x.t.size := fun _ => rfl
    have x9 : ∀ x : Act, dInt .i64 (encAct x) 9 = some x.t.water := fun _ => rfl
    have x10 : ∀ x : Act, dInt .i64 (encAct x) 10 = some x.t.src := fun _ => rfl
    have x11 : ∀ x : Act, dInt .i64 (encAct x) 11 = some x.t.val := fun _ => rfl
    have hs := hb.small (by omega)
    simp only [cT, needs_nat, Int.toNat_natCast, map_get _ _ _ hil, optAll_so, x0, x1, x2, x3, x4, x5, x6, x7, x8, x9, x10, x11, does_ok a _ hs, model_ok a _ hs, wrap_succ (show i < 4611686018427387904 by omega)]
    have nxt := ih (i + 1) (doesS a l[i]).1 (by omega) (hb.does l[i])
    generalize l[i] = x at nxt ⊢
    have hs2 := (hb.does x).small (by omega)
    rw [show (t3 (doesS a x)).1.1 = (doesS a x).1.things.map encT from rfl, show (t3 (doesS a x)).1.2.1 = (doesS a x).1.free.map encL from rfl, same_ok _ _ hs2, decide_eq_true rfl]
    simp only [optAll_so, Bool.not_true, cF]
    rw [show ((t3 (doesS a x)).2.1 != (t3 (doesS a x)).2.1) = false by simp, show ((t3 (doesS a x)).2.2.1 != (t3 (doesS a x)).2.2.1) = false by simp]
    exact nxt
theorem runs_law (n c : Int) (l : List Act) : law09_ArenaRuns.R n c (l.map encAct) = some (true, ()) := by
  refine law09_ArenaRuns.start _ _ _ _ ?_
  rw [List.length_map]
  by_cases hl : (l.length : Int) > 100
  · rw [decide_eq_true hl]; simp only [cT, live_ok, optAll_so]
  rw [decide_eq_false hl]
  by_cases h : n < 1 ∨ n > 64 ∨ c < 1 ∨ c > 64
  · simp only [cF, new_bad n c h, optAll_so, num_ok, live_ok]
    rw [show ((2 : Int) != 0) = true from rfl]
    simp only [cT]
    by_cases h1 : n < 1
    · rw [decide_eq_true h1]; trivial
    rw [decide_eq_false h1]
    by_cases h2 : n > 64
    · rw [decide_eq_true h2]; trivial
    rw [decide_eq_false h2]
    by_cases h3 : c < 1
    · rw [decide_eq_true h3]; trivial
    rw [decide_eq_false h3, decide_eq_true (show c > 64 by omega)]; trivial
  · obtain ⟨N, rfl⟩ := Int.eq_ofNat_of_zero_le (show 0 ≤ n by omega)
    obtain ⟨C, rfl⟩ := Int.eq_ofNat_of_zero_le (show 0 ≤ c by omega)
    have e1 : arena_New.R (N : Int) (C : Int) = _ := new_ok N C (by omega) (by omega)
    rw [e1]
    simp only [cF, optAll_so, num_ok, rnew_ok N C (by omega) (by omega)]
    rw [show ((0 : Int) != 0) = false from rfl]
    exact runs_loop l (by omega) l.length 0 (newA N C) (by omega) (newA_bd N C (by omega) (by omega))
end Arena
end Go.AI
