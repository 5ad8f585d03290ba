/-
  Own work. The arenas' first law.
-/
import Derived.Test.YtebkdpcgbnlfcaaArena4
namespace Go.AI
open Go
set_option linter.unusedVariables false
set_option linter.unusedSimpArgs false
namespace Arena
open Kit
/-! Are two the same? -/
theorem eq_loopR {α : Type} [DecidableEq α] (z : Bool) (a b : List α) (H : Int → (Bool × Unit) → Prop) (hl : a.length = b.length)
    (step : ∀ (i : Nat) c, (∀ h : i < a.length, (a[i] = b[i]'(by omega) → H ((i + 1 : Nat) : Int) c) ∧ (a[i] ≠ b[i]'(by omega) → c = (false, ()))) → (a.length ≤ i → c = (z, ())) → H i c) : H 0 (decide (a = b) && z, ()) := by
  have key : ∀ n i : Nat, i + n = a.length → a.take i = b.take i → H i (decide (a = b) && z, ()) := by
    intro n
    induction n with
    | zero =>
      intro i hi ht
      refine step i _ (fun h => absurd h (by omega)) fun _ => ?_
      rw [List.take_of_length_le (by omega), List.take_of_length_le (by omega)] at ht
      rw [decide_eq_true ht]; rfl
    | succ n ih =>
      intro i hi ht
      refine step i _ (fun h => ⟨fun he => ih (i + 1) (by omega) ?_, fun hne => ?_⟩) (fun h => absurd h (by omega))
      · rw [List.take_succ_eq_append_getElem h, List.take_succ_eq_append_getElem (by omega), ht, he]
      · rw [decide_eq_false]
        · rfl
        · intro e
          subst e
          exact hne rfl
  exact key a.length 0 (by omega) rfl
theorem eqT (a b : Th) : (a.ty == b.ty && (a.gen == b.gen && (a.refs == b.refs && (a.start == b.start && (a.size == b.size && (a.water == b.water && (a.src == b.src && (a.val == b.val && true)))))))) = decide (a = b) := by
  obtain ⟨a1, a2, a3, a4, a5, a6, a7, a8⟩ := a
  obtain ⟨b1, b2, b3, b4, b5, b6, b7, b8⟩ := b
  rw [Bool.eq_iff_iff]
  simp
theorem ints_ok (a b : List Int) (ha : a.length < 1000000) : ref07_Ints.R (a.map ei) (b.map ei) = some (decide (a = b), ()) := by
  refine ref07_Ints.start _ _ _ ?_
  simp only [List.length_map, cond_ite, bne_iff_ne]
  by_cases hl : a.length = b.length
  · rw [if_neg (by omega)]
    refine eq_loop a b (fun i c => ref07_Ints.H5 (a.map ei) (b.map ei) i c) hl fun i c h1 h2 => ?_
    refine ref07_Ints.H5_step _ _ _ _ ?_
    by_cases hi : i < a.length
    · obtain ⟨g1, g2⟩ := h1 hi
      simp only [List.length_map, cond_ite, decide_eq_true_eq, needs_nat, Int.toNat_natCast, map_get _ _ _ hi, map_get _ _ _ (hl ▸ hi), optAll_so, n0_, bne_iff_ne, wrap_succ (show i < 4611686018427387904 by omega)]
      rw [if_pos (by omega)]
      split
      · rename_i h; exact g2 h
      · rename_i h; exact g1 (Decidable.not_not.1 h)
    · simp only [List.length_map, cond_ite, decide_eq_true_eq]
      rw [if_neg (by omega)]
      exact h2 (by omega)
  · rw [if_pos (by omega), decide_eq_false]
    intro e; subst e; exact hl rfl
theorem same_lists (t u : List (List DV)) (a b : List (List Int)) (hl : a.length = b.length) (hs : a.length < 1000000) (hll : ∀ l ∈ a, l.length < 1000000) :
    ref09_Same.H10 0 t (a.map encL) u (b.map encL) (decide (a = b), ()) := by
  refine eq_loop a b (fun i c => ref09_Same.H10 i t (a.map encL) u (b.map encL) c) hl fun i c h1 h2 => ?_
  refine ref09_Same.H10_step _ _ _ _ _ _ ?_
  by_cases hi : i < a.length
  · obtain ⟨g1, g2⟩ := h1 hi
    simp only [List.length_map, cond_ite, decide_eq_true_eq, needs_nat, Int.toNat_natCast, map_get _ _ _ hi, map_get _ _ _ (hl ▸ hi), optAll_so, l0_, ints_ok _ _ (hll _ (List.getElem_mem hi)), Bool.not_eq_true', decide_eq_false_iff_not, wrap_succ (show i < 4611686018427387904 by omega)]
    rw [if_pos (by omega)]
    split
    · rename_i h; exact g2 h
    · rename_i h; exact g1 (Decidable.not_not.1 h)
  · simp only [List.length_map, cond_ite, decide_eq_true_eq]
    rw [if_neg (by omega)]
    exact h2 (by omega)
theorem eqA (a b : A) : decide (a = b) = (decide (a.things = b.things) && decide (a.free = b.free)) := by
  obtain ⟨a1, a2⟩ := a
  obtain ⟨b1, b2⟩ := b
  rw [Bool.eq_iff_iff]
  simp
theorem same_ok (a b : A) (hs : Small a) : ref09_Same.R (a.things.map encT) (a.free.map encL) (b.things.map encT) (b.free.map encL) = some (decide (a = b), ()) := by
  refine ref09_Same.start _ _ _ _ _ ?_
  rw [eqA]
  have k1 := hs.things
  simp only [List.length_map, cond_ite, bne_iff_ne]
  by_cases hl : a.things.length = b.things.length
  · rw [if_neg (by omega)]
    by_cases hf : a.free.length = b.free.length
    · rw [if_neg (by omega)]
      refine eq_loopR (decide (a.free = b.free)) a.things b.things (fun i c => ref09_Same.H5 i (a.things.map encT) (a.free.map encL) (b.things.map encT) (b.free.map encL) c) hl fun i c h1 h2 => ?_
      refine ref09_Same.H5_step _ _ _ _ _ _ ?_
      by_cases hi : i < a.things.length
      · obtain ⟨g1, g2⟩ := h1 hi
        simp only [List.length_map, cond_ite, decide_eq_true_eq, needs_nat, Int.toNat_natCast, map_get _ _ _ hi, map_get _ _ _ (hl ▸ hi), optAll_so, t0_, t1_, t2_, t3_, t4_, t5_, t6_, t7_, eqT, Bool.not_eq_true', decide_eq_false_iff_not, wrap_succ (show i < 4611686018427387904 by omega)]
        rw [if_pos (by omega)]
        split
        · rename_i h; exact g2 h
        · rename_i h; exact g1 (Decidable.not_not.1 h)
      · simp only [List.length_map, cond_ite, decide_eq_true_eq]
        rw [if_neg (by omega), h2 (by omega)]
        exact same_lists _ _ a.free b.free hf hs.free hs.lists
    · rw [if_pos (by omega), decide_eq_false (show ¬ a.free = b.free by intro e; rw [e] at hf; exact hf rfl), Bool.and_false]
  · rw [if_pos (by omega), decide_eq_false (show ¬ a.things = b.things by intro e; rw [e] at hl; exact hl rfl)]; rfl
/-! Small ones; one with lists of its own. -/
def sumL : List (List Int) → Int
  | [] => 0
  | l :: r => (if 1000 < (l.length : Int) then 1000 else (l.length : Int)) + sumL r
theorem sumL_nonneg : ∀ l, 0 ≤ sumL l
  | [] => Int.le_refl _
  | l :: r => by have := sumL_nonneg r; simp only [sumL]; split <;> omega
theorem sumL_le : ∀ l m, m ∈ l → sumL l ≤ 300 → m.length ≤ 300
  | l :: r, m, hm, hs => by
    have h1 := sumL_nonneg r
    simp only [sumL] at hs
    rcases List.mem_cons.1 hm with rfl | hm
    · split at hs <;> omega
    · exact sumL_le r m hm (by split at hs <;> omega)
def smallB (a : A) : Bool := decide (a.things.length ≤ 70) && (decide (a.free.length ≤ 70) && (a.things.all (fun t => decide (t.refs ≤ 1000000000)) && decide (sumL a.free ≤ 300)))
theorem small_things (a : A) (h7 : a.things.length ≤ 70) (x : Int) : ∀ (m i : Nat), i + m = a.things.length → law09_small.H10 x i (a.things.map encT) (a.free.map encL) ((a.things.drop i).all (fun t => decide (t.refs ≤ 1000000000)) && decide (x ≤ 300), ()) := by
  intro m
  induction m with
  | zero =>
    intro i hi
    refine law09_small.H10_step _ _ _ _ _ ?_
    rw [List.length_map, decide_eq_false (by omega), List.drop_eq_nil_of_le (by omega)]
    rfl
  | succ m ih =>
    intro i hi
    refine law09_small.H10_step _ _ _ _ _ ?_
    have hil : i < a.things.length := by omega
    rw [List.length_map, decide_eq_true (by omega), List.drop_eq_getElem_cons hil]
    simp only [cond_true, needs_nat, Int.toNat_natCast, map_get _ _ _ hil, optAll_so, t2_, wrap_succ (show i < 4611686018427387904 by omega), List.all_cons]
    by_cases h : (a.things[i]).refs > 1000000000
    · rw [decide_eq_true h, decide_eq_false (show ¬ (a.things[i]).refs ≤ 1000000000 by omega)]; rfl
    · rw [decide_eq_false h, decide_eq_true (show (a.things[i]).refs ≤ 1000000000 by omega)]
      exact ih (i + 1) (by omega)
theorem small_lists (a : A) (h7 : a.things.length ≤ 70) (h8 : a.free.length ≤ 70) : ∀ (m i : Nat) (x : Int), i + m = a.free.length → 0 ≤ x ∧ x ≤ i * 1000 → law09_small.H6 x i (a.things.map encT) (a.free.map encL) (a.things.all (fun t => decide (t.refs ≤ 1000000000)) && decide (x + sumL (a.free.drop i) ≤ 300), ()) := by
  intro m
  induction m with
  | zero =>
    intro i x hi hx
    refine law09_small.H6_step _ _ _ _ _ ?_
    rw [List.length_map, decide_eq_false (by omega), List.drop_eq_nil_of_le (by omega), show x + sumL [] = x by simp [sumL]]
    exact small_things a h7 x a.things.length 0 (by omega)
  | succ m ih =>
    intro i x hi hx
    refine law09_small.H6_step _ _ _ _ _ ?_
    have hil : i < a.free.length := by omega
    have hq' : 0 ≤ (if (1000 : Int) < ((a.free[i]).length : Int) then (1000 : Int) else ((a.free[i]).length : Int)) ∧ (if (1000 : Int) < ((a.free[i]).length : Int) then (1000 : Int) else ((a.free[i]).length : Int)) ≤ 1000 := by split <;> omega
    have eq : decide (x + sumL (a.free.drop i) ≤ 300) = decide ((x + (if (1000 : Int) < ((a.free[i]).length : Int) then (1000 : Int) else ((a.free[i]).length : Int))) + sumL (a.free.drop (i + 1)) ≤ 300) :=
      decide_eq_decide.2 (by rw [List.drop_eq_getElem_cons hil, sumL]; omega)
    rw [eq, List.length_map, decide_eq_true (by omega)]
    simp only [cond_true, needs_nat, Int.toNat_natCast, map_get _ _ _ hil, optAll_so, l0_, List.length_map, wrap_succ (show i < 4611686018427387904 by omega)]
    rw [wrap_id (by omega) (by omega)]
    exact ih (i + 1) _ (by omega) (by omega)
theorem small_ok (a : A) : law09_small.R (a.things.map encT) (a.free.map encL) = some (smallB a, ()) := by
  refine law09_small.start _ _ _ ?_
  simp only [List.length_map]
  unfold smallB
  by_cases h1 : (a.things.length : Int) > 70
  · rw [decide_eq_true h1, decide_eq_false (show ¬ a.things.length ≤ 70 by omega)]; rfl
  rw [decide_eq_false h1, decide_eq_true (show a.things.length ≤ 70 by omega)]
  by_cases h2 : (a.free.length : Int) > 70
  · rw [decide_eq_true h2, decide_eq_false (show ¬ a.free.length ≤ 70 by omega)]; rfl
  rw [decide_eq_false h2, decide_eq_true (show a.free.length ≤ 70 by omega)]
  have h := small_lists a (by omega) (by omega) a.free.length 0 0 (by omega) (by omega)
  rw [List.drop_zero, Int.zero_add] at h
  exact h
/-- Sizes of what is done with. -/
structure Tiny (a : A) : Prop where
  things : a.things.length ≤ 70
  free : a.free.length ≤ 70
  lists : ∀ l ∈ a.free, l.length ≤ 300
theorem smallB_tiny {a : A} (h : smallB a = true) : Tiny a := by
  unfold smallB at h
  simp only [Bool.and_eq_true, decide_eq_true_eq] at h
  exact ⟨h.1, h.2.1, fun l hl => sumL_le _ l hl h.2.2.2⟩
theorem Tiny.small {a : A} (h : Tiny a) : Small a := ⟨by have := h.things; omega, by have := h.free; omega, fun l hl => by have := h.lists l hl; omega⟩
theorem own_loop (a : A) (hs : Small a) : ∀ (m i : Nat), i + m = a.free.length →
    law09_own.H4 i (a.things.map encT) (a.free.map encL) [] [] (a.things.map encT) ((a.free.take i).map encL) (tA a, ()) := by
  intro m
  induction m with
  | zero =>
    intro i hi
    refine law09_own.H4_step _ _ _ _ _ _ _ _ ?_
    rw [List.length_map, decide_eq_false (by omega), List.take_of_length_le (show a.free.length ≤ i by omega)]
    simp only [cF, List.take_length]
    rfl
  | succ m ih =>
    intro i hi
    refine law09_own.H4_step _ _ _ _ _ _ _ _ ?_
    have hil : i < a.free.length := by omega
    have hff := hs.free
    have hll := hs.lists _ (List.getElem_mem hil)
    rw [List.length_map, decide_eq_true (by omega)]
    simp only [cond_true, needs_iff, Int.toNat_natCast, map_get _ _ _ hil, optAll_so, l0_, List.length_map, wrap_succ (show i < 4611686018427387904 by omega)]
    have e : (a.free.take i).map encL ++ ([[DV.lst 1 (((a.free[i]).map ei).take (a.free[i]).length)]] : List (List DV)).take 1 = (a.free.take (i + 1)).map encL := by
      rw [take_map_len, List.take_succ_eq_append_getElem hil, List.map_append]; rfl
    rw [e, List.length_map, List.length_take]
    refine ⟨by omega, by omega, trivial, by omega, ?_⟩
    exact ih (i + 1) (by omega)
theorem own_ok (a : A) (hs : Small a) : law09_own.R (a.things.map encT) (a.free.map encL) = some (tA a, ()) := by
  refine law09_own.start _ _ _ ?_
  have h1 := hs.things
  rw [needs_iff, List.length_map]
  refine ⟨by omega, ?_⟩
  have h := own_loop a hs a.free.length 0 (by omega)
  exact h
/-! What is done. -/
structure Act where
  kind : Int
  core : Int
  obj : Int
  by_ : Int
  t : Th
def encAct (x : Act) : List DV := [.v (.int .i64 x.kind), .v (.int .i64 x.core), .v (.int .i64 x.obj), .v (.int .i64 x.by_)] ++ encT x.t
def doesS (a : A) (x : Act) : A × Int × Int :=
  if x.kind = 0 then takeS a x.core x.t
  else if x.kind = 1 then ((dropS a x.obj).1, 0, (dropS a x.obj).2)
  else if x.kind = 2 then ((giveS a x.core x.obj).1, 0, (giveS a x.core x.obj).2)
  else ((referS a x.obj x.by_).1, 0, (referS a x.obj x.by_).2)
theorem does_ok (a : A) (x : Act) (hs : Small a) : law09_does.R (a.things.map encT) (a.free.map encL) x.kind x.core x.obj x.by_ x.t.ty x.t.gen x.t.refs x.t.start x.t.size x.t.water x.t.src x.t.val = some (t3 (doesS a x)) := by
  refine law09_does.start _ _ _ _ _ _ _ _ _ _ _ _ _ _ _ ?_
  unfold doesS
  simp only [take_ok a x.core x.t hs, drop_ok a x.obj hs, give_ok a x.core x.obj hs, refer_ok a x.obj x.by_ hs, num_ok, optAll_so]
  by_cases h0 : x.kind = 0
  · rw [if_pos h0, show (x.kind == 0) = true by simpa using h0]; rfl
  rw [if_neg h0, show (x.kind == 0) = false by simpa using h0]
  by_cases h1 : x.kind = 1
  · rw [if_pos h1, show (x.kind == 1) = true by simpa using h1]; rfl
  rw [if_neg h1, show (x.kind == 1) = false by simpa using h1]
  by_cases h2 : x.kind = 2
  · rw [if_pos h2, show (x.kind == 2) = true by simpa using h2]; rfl
  rw [if_neg h2, show (x.kind == 2) = false by simpa using h2]; rfl
theorem model_ok (a : A) (x : Act) (hs : Small a) : law09_model.R (a.things.map encT) (a.free.map encL) x.kind x.core x.obj x.by_ x.t.ty x.t.gen x.t.refs x.t.start x.t.size x.t.water x.t.src x.t.val = some (t3 (doesS a x)) := by
  refine law09_model.start _ _ _ _ _ _ _ _ _ _ _ _ _ _ _ ?_
  unfold doesS
  simp only [rtake_ok a x.core x.t hs, rdrop_ok a x.obj hs, rgive_ok a x.core x.obj hs, rrefer_ok a x.obj x.by_ hs, num_ok, optAll_so]
  by_cases h0 : x.kind = 0
  · rw [if_pos h0, show (x.kind == 0) = true by simpa using h0]; rfl
  rw [if_neg h0, show (x.kind == 0) = false by simpa using h0]
  by_cases h1 : x.kind = 1
  · rw [if_pos h1, show (x.kind == 1) = true by simpa using h1]; rfl
  rw [if_neg h1, show (x.kind == 1) = false by simpa using h1]
  by_cases h2 : x.kind = 2
  · rw [if_pos h2, show (x.kind == 2) = true by simpa using h2]; rfl
  rw [if_neg h2, show (x.kind == 2) = false by simpa using h2]; rfl
/-! Sizes afterwards. -/
structure Grows (a b : A) : Prop where
  things : b.things.length = a.things.length
  free : b.free.length = a.free.length
  lists : ∀ l ∈ b.free, ∃ m ∈ a.free, l.length ≤ m.length + 1
theorem Grows.rfl' (a : A) : Grows a a := ⟨rfl, rfl, fun l hl => ⟨l, hl, by omega⟩⟩
theorem grows_put (a : A) (p : Int) (t : Th) : Grows a (putA a p t) := ⟨by simp [putA], rfl, fun l hl => ⟨l, hl, by omega⟩⟩
theorem Grows.put {a b : A} (h : Grows a b) (p : Int) (t : Th) : Grows a (putA b p t) := ⟨by simp [putA, h.things], h.free, h.lists⟩
theorem listOf_len {a : A} {c : Int} (hc : c.toNat < a.free.length) : listOf a c ∈ a.free := by rw [← listOf_eq hc]; exact List.getElem_mem hc
theorem grows_list (a : A) (c : Int) (hc : c.toNat < a.free.length) (l : List Int) (hl : l.length ≤ (listOf a c).length + 1) : Grows a (putL a c l) := ⟨rfl, by simp [putL], fun m hm => by
  rcases List.mem_or_eq_of_mem_set hm with h | rfl
  · exact ⟨m, h, by omega⟩
  · exact ⟨_, listOf_len hc, hl⟩⟩
theorem take_grows (a : A) (c : Int) (t : Th) : Grows a (takeS a c t).1 := by
  unfold takeS
  split
  · rename_i h
    split
    · exact Grows.rfl' a
    · rename_i p r hl
      exact (grows_list a c (by omega) r (by rw [hl]; simp; omega)).put _ _
  · exact Grows.rfl' a
theorem give_grows (a : A) (c p : Int) : Grows a (giveS a c p).1 := by
  unfold giveS
  split
  · rename_i h
    split
    · exact Grows.rfl' a
    · exact grows_list a c (by omega) _ (by simp)
  · exact Grows.rfl' a
theorem does_grows (a : A) (x : Act) : Grows a (doesS a x).1 := by
  unfold doesS
  split
  · exact take_grows a _ _
  · split
    · unfold dropS; split
      · exact grows_put _ _ _
      · exact Grows.rfl' a
    · split
      · exact give_grows a _ _
      · unfold referS; split
        · exact grows_put _ _ _
        · exact Grows.rfl' a
theorem steps_law (a : A) (x : Act) : law09_ArenaSteps.R (a.things.map encT) (a.free.map encL) x.kind x.core x.obj x.by_ x.t.ty x.t.gen x.t.refs x.t.start x.t.size x.t.water x.t.src x.t.val = some (true, ()) := by
  refine law09_ArenaSteps.start _ _ _ _ _ _ _ _ _ _ _ _ _ _ _ ?_
  simp only [small_ok, live_ok, optAll_so]
  cases h : smallB a
  · trivial
  have ht := smallB_tiny h
  have hs := ht.small
  have hg := does_grows a x
  have hb : Small (doesS a x).1 := ⟨by have := hg.things; have := ht.things; omega, by have := hg.free; have := ht.free; omega, fun l hl => by
    obtain ⟨m, hm, hle⟩ := hg.lists l hl
    have := ht.lists m hm
    omega⟩
  simp only [own_ok a hs, optAll_so, Bool.not_true, cF]
  rw [show (tA a).1 = a.things.map encT from rfl, show (tA a).2.1 = a.free.map encL from rfl, does_ok a x hs, model_ok a x hs]
  simp only [optAll_so]
  rw [show (t3 (doesS a x)).1.1 = (doesS a x).1.things.map encT from rfl, show (t3 (doesS a x)).1.2.1 = (doesS a x).1.free.map encL from rfl, same_ok _ _ hb, same_ok _ _ hs]
  simp [optAll_so]
end Arena
end Go.AI
