/-
  Own work. The arenas' steps, on: drop, give, refer; one thing behind the other.
-/
import Derived.Test.YtebkdpcgbnlfcaaArena3
namespace Go.AI
open Go
set_option linter.unusedVariables false
set_option linter.unusedSimpArgs false
namespace Arena
open Kit
def idxF : List Int → Int → Nat → Int
  | [], _, _ => -1
  | x :: r, p, i => if p = x then (i : Int) else idxF r p (i + 1)
theorem idxF_iff : ∀ (l : List Int) (p : Int) (i : Nat), 0 ≤ idxF l p i ↔ p ∈ l
  | [], p, i => by simp [idxF]
  | x :: r, p, i => by
    unfold idxF
    split
    · rename_i h; simp [h]
    · rename_i h; rw [idxF_iff r p (i + 1)]; simp [h]
theorem index_loop (l : List Int) (p : Int) (hl : l.length < 1000000) : ∀ (m i : Nat), i + m = l.length → slices_Index_int_int.H3 (l.map ei) p l.length i (idxF (l.drop i) p i, ()) := by
  intro m
  induction m with
  | zero =>
    intro i hi
    refine slices_Index_int_int.H3_step _ _ _ _ _ ?_
    rw [decide_eq_false (by omega), List.drop_eq_nil_of_le (by omega)]
    rfl
  | succ m ih =>
    intro i hi
    refine slices_Index_int_int.H3_step _ _ _ _ _ ?_
    have hil : i < l.length := by omega
    rw [decide_eq_true (by omega), List.drop_eq_getElem_cons hil]
    simp only [cond_true, needs_nat, Int.toNat_natCast, map_get _ _ _ hil, optAll_so, n0_, wrap_succ (show i < 4611686018427387904 by omega), idxF]
    by_cases h : p = l[i]
    · rw [if_pos h, show (p == l[i]) = true by simpa using h]; rfl
    · rw [if_neg h, show (p == l[i]) = false by simpa using h]
      exact ih (i + 1) (by omega)
theorem contains_ok (l : List Int) (p : Int) (hl : l.length < 1000000) : slices_Contains_int_int.R (l.map ei) p = some (decide (p ∈ l), ()) := by
  refine slices_Contains_int_int.start _ _ _ ?_
  have h := index_loop l p hl l.length 0 (by omega)
  rw [slices_Index_int_int.start (l.map ei) p (idxF (l.drop 0) p 0, ()) (by rw [List.length_map]; exact h)]
  simp only [optAll_so, List.drop_zero]
  rw [show decide (p ∈ l) = decide (idxF l p 0 ≥ 0) from decide_eq_decide.2 (idxF_iff l p 0).symm]
def idxL : List (List Int) → Int → Nat → Int
  | [], _, _ => -1
  | x :: r, p, i => if p ∈ x then (i : Int) else idxL r p (i + 1)
theorem idxL_iff : ∀ (l : List (List Int)) (p : Int) (i : Nat), 0 ≤ idxL l p i ↔ p ∈ l.flatten
  | [], p, i => by simp [idxL]
  | x :: r, p, i => by
    unfold idxL
    split
    · rename_i h; rw [List.flatten_cons]; simp [h]
    · rename_i h; rw [idxL_iff r p (i + 1), List.flatten_cons, List.mem_append]; simp [h]
theorem indexL_loop (l : List (List Int)) (p : Int) (hl : l.length < 1000000) (hll : ∀ m ∈ l, m.length < 1000000) : ∀ (m i : Nat), i + m = l.length → slices_IndexFunc_int_int__arena_isFree_1.H3 (l.map encL) l.length i p (idxL (l.drop i) p i, ()) := by
  intro m
  induction m with
  | zero =>
    intro i hi
    refine slices_IndexFunc_int_int__arena_isFree_1.H3_step _ _ _ _ _ ?_
    rw [decide_eq_false (by omega), List.drop_eq_nil_of_le (by omega)]
    rfl
  | succ m ih =>
    intro i hi
    refine slices_IndexFunc_int_int__arena_isFree_1.H3_step _ _ _ _ _ ?_
    have hil : i < l.length := by omega
    rw [decide_eq_true (by omega), List.drop_eq_getElem_cons hil]
    simp only [cond_true, needs_nat, Int.toNat_natCast, map_get _ _ _ hil, optAll_so, l0_, contains_ok _ p (hll _ (List.getElem_mem hil)), wrap_succ (show i < 4611686018427387904 by omega), idxL]
    by_cases h : p ∈ l[i]
    · rw [if_pos h, decide_eq_true h]; rfl
    · rw [if_neg h, decide_eq_false h]
      exact ih (i + 1) (by omega)
def freeB (a : A) (p : Int) : Bool := decide (p ∈ a.free.flatten)
theorem isFree_ok (a : A) (p : Int) (hs : Small a) : arena_isFree.R (a.things.map encT) (a.free.map encL) p = some (freeB a p, ()) := by
  refine arena_isFree.start _ _ _ _ ?_
  have h := indexL_loop a.free p hs.free hs.lists a.free.length 0 (by omega)
  have h2 : slices_IndexFunc_int_int__arena_isFree_1.R (a.free.map encL) p = some (idxL (a.free.drop 0) p 0, ()) := slices_IndexFunc_int_int__arena_isFree_1.start _ _ _ (by rw [List.length_map]; exact h)
  rw [slices_ContainsFunc_int_int__arena_isFree_1.start (a.free.map encL) p (decide (idxL (a.free.drop 0) p 0 ≥ 0), ()) (by rw [h2]; rfl)]
  simp only [optAll_so, List.drop_zero]
  rw [freeB, show decide (p ∈ a.free.flatten) = decide (idxL a.free p 0 ≥ 0) from decide_eq_decide.2 (idxL_iff a.free p 0).symm]
def dropS (a : A) (p : Int) : A × Int :=
  if has a p = true ∧ liveB (at_ a p) = true ∧ (at_ a p).refs = 0 then (putA a p ⟨0, nextS (at_ a p).gen, 0, 0, 0, 0, -1, 0⟩, 0) else (a, 2)
def giveS (a : A) (c p : Int) : A × Int :=
  if 0 ≤ c ∧ c < a.free.length ∧ has a p = true ∧ liveB (at_ a p) = false ∧ freeB a p = false then
    if (at_ a p).gen = -1 then (a, 0) else (putL a c (listOf a c ++ [p]), 0)
  else (a, 2)
def referS (a : A) (p b : Int) : A × Int :=
  if has a p = true ∧ liveB (at_ a p) = true ∧ -100 ≤ b ∧ b ≤ 100 ∧ -b ≤ (at_ a p).refs then (putA a p { at_ a p with refs := IntKind.i64.wrap ((at_ a p).refs + b) }, 0) else (a, 2)
theorem drop_ok (a : A) (p : Int) (hs : Small a) : arena_Drop.R (a.things.map encT) (a.free.map encL) p = some (t2 (dropS a p)) := by
  refine arena_Drop.start _ _ _ _ ?_
  unfold dropS
  simp only [has_ok a p hs, optAll_so]
  by_cases h1 : has a p = false
  · rw [if_neg (fun h => by simp [h1] at h), h1]; rfl
  replace h1 : has a p = true := by simpa using h1
  have hp := has_iff.1 h1
  have hpi : p.toNat < a.things.length := by omega
  rw [h1]
  simp only [Bool.not_true, cF, needs_iff, map_get _ _ _ hpi, optAll_so, t0_, t1_, t2_, t3_, t4_, t5_, t6_, t7_, isLive_ok, at_eq hpi, next_ok, put_ok a p _ _ _ _ _ _ _ _ hs ⟨hp.1, hp.2.1⟩]
  refine ⟨hp.1, ?_⟩
  by_cases h2 : liveB (at_ a p) = false
  · rw [if_neg (fun h => by simp [h2] at h), h2]; rfl
  replace h2 : liveB (at_ a p) = true := by simpa using h2
  rw [h2]
  simp only [Bool.not_true, cF]
  refine ⟨hp.1, ?_⟩
  by_cases h3 : (at_ a p).refs = 0
  · rw [if_pos ⟨by simp, by simp, h3⟩, show ((at_ a p).refs != 0) = false by simpa using h3]
    exact ⟨hp.1, rfl⟩
  · rw [if_neg (fun h => h3 h.2.2), show ((at_ a p).refs != 0) = true by simpa using h3]
    rfl
theorem rdrop_ok (a : A) (p : Int) (hs : Small a) : ref09_Drop.R (a.things.map encT) (a.free.map encL) p = some (t2 (dropS a p)) := by
  refine ref09_Drop.start _ _ _ _ ?_
  unfold dropS
  simp only [place_ok a p hs, optAll_so]
  by_cases h1 : has a p = false
  · rw [if_neg (fun h => by simp [h1] at h), h1]; rfl
  replace h1 : has a p = true := by simpa using h1
  have hp := has_iff.1 h1
  have hpi : p.toNat < a.things.length := by omega
  rw [h1]
  simp only [Bool.not_true, cF, needs_iff, map_get _ _ _ hpi, optAll_so, t0_, t1_, t2_, t3_, t4_, t5_, t6_, t7_, rLive_ok, at_eq hpi, rnext_ok, set_ok a p _ _ _ _ _ _ _ _ hs ⟨hp.1, hp.2.1⟩]
  refine ⟨hp.1, ?_⟩
  by_cases h2 : liveB (at_ a p) = false
  · rw [if_neg (fun h => by simp [h2] at h), h2]; rfl
  replace h2 : liveB (at_ a p) = true := by simpa using h2
  rw [h2]
  simp only [Bool.not_true, cF]
  refine ⟨hp.1, ?_⟩
  by_cases h3 : (at_ a p).refs = 0
  · rw [if_pos ⟨by simp, by simp, h3⟩, show ((at_ a p).refs != 0) = false by simpa using h3]
    exact ⟨hp.1, rfl⟩
  · rw [if_neg (fun h => h3 h.2.2), show ((at_ a p).refs != 0) = true by simpa using h3]
    rfl
theorem refer_ok (a : A) (p b : Int) (hs : Small a) : arena_Refer.R (a.things.map encT) (a.free.map encL) p b = some (t2 (referS a p b)) := by
  refine arena_Refer.start _ _ _ _ _ ?_
  unfold referS
  simp only [has_ok a p hs, optAll_so]
  by_cases h1 : has a p = false
  · rw [if_neg (fun h => by simp [h1] at h), h1]; rfl
  replace h1 : has a p = true := by simpa using h1
  have hp := has_iff.1 h1
  have hpi : p.toNat < a.things.length := by omega
  rw [h1]
  simp only [Bool.not_true, cF, needs_iff, map_get _ _ _ hpi, optAll_so, t0_, t1_, t2_, t3_, t4_, t5_, t6_, t7_, isLive_ok, at_eq hpi, put_ok a p _ _ _ _ _ _ _ _ hs ⟨hp.1, hp.2.1⟩]
  refine ⟨hp.1, ?_⟩
  by_cases h2 : liveB (at_ a p) = false
  · rw [if_neg (fun h => by simp [h2] at h), h2]; rfl
  replace h2 : liveB (at_ a p) = true := by simpa using h2
  rw [h2]
  simp only [Bool.not_true, cF]
  by_cases h3 : b < -100
  · rw [if_neg (fun h => by omega), decide_eq_true h3]; rfl
  rw [decide_eq_false h3]
  by_cases h4 : b > 100
  · rw [if_neg (fun h => by omega), decide_eq_true h4]; rfl
  rw [decide_eq_false h4, wrap_id (show -9223372036854775808 ≤ 0 - b by omega) (by omega)]
  simp only [cF]
  refine ⟨hp.1, ?_⟩
  by_cases h5 : (at_ a p).refs < 0 - b
  · rw [if_neg (fun h => by omega), decide_eq_true h5]; rfl
  · rw [if_pos ⟨by simp, by simp, by omega, by omega, by omega⟩, decide_eq_false h5]
    exact ⟨hp.1, rfl⟩
theorem rrefer_ok (a : A) (p b : Int) (hs : Small a) : ref09_Refer.R (a.things.map encT) (a.free.map encL) p b = some (t2 (referS a p b)) := by
  refine ref09_Refer.start _ _ _ _ _ ?_
  unfold referS
  simp only [place_ok a p hs, optAll_so]
  by_cases h1 : has a p = false
  · rw [if_neg (fun h => by simp [h1] at h), h1]; rfl
  replace h1 : has a p = true := by simpa using h1
  have hp := has_iff.1 h1
  have hpi : p.toNat < a.things.length := by omega
  rw [h1]
  simp only [Bool.not_true, cF, needs_iff, map_get _ _ _ hpi, optAll_so, t0_, t1_, t2_, t3_, t4_, t5_, t6_, t7_, rLive_ok, at_eq hpi, set_ok a p _ _ _ _ _ _ _ _ hs ⟨hp.1, hp.2.1⟩]
  refine ⟨hp.1, ?_⟩
  by_cases h2 : liveB (at_ a p) = false
  · rw [if_neg (fun h => by simp [h2] at h), h2]; rfl
  replace h2 : liveB (at_ a p) = true := by simpa using h2
  rw [h2]
  simp only [Bool.not_true, cF]
  by_cases h3 : b < -100
  · rw [if_neg (fun h => by omega), decide_eq_true h3]; rfl
  rw [decide_eq_false h3]
  by_cases h4 : b > 100
  · rw [if_neg (fun h => by omega), decide_eq_true h4]; rfl
  rw [decide_eq_false h4, wrap_id (show -9223372036854775808 ≤ 0 - b by omega) (by omega)]
  simp only [cF]
  refine ⟨hp.1, ?_⟩
  by_cases h5 : (at_ a p).refs < 0 - b
  · rw [if_neg (fun h => by omega), decide_eq_true h5]; rfl
  · rw [if_pos ⟨by simp, by simp, by omega, by omega, by omega⟩, decide_eq_false h5]
    exact ⟨hp.1, rfl⟩
theorem give_ok (a : A) (c p : Int) (hs : Small a) : arena_Give.R (a.things.map encT) (a.free.map encL) c p = some (t2 (giveS a c p)) := by
  refine arena_Give.start _ _ _ _ _ ?_
  unfold giveS
  simp only [has_ok a p hs, optAll_so, List.length_map]
  by_cases g1 : c < 0
  · rw [decide_eq_true g1, if_neg (fun h => by omega)]; rfl
  rw [decide_eq_false g1]
  by_cases g2 : c ≥ (a.free.length : Int)
  · rw [decide_eq_true g2, if_neg (fun h => by omega)]; rfl
  rw [decide_eq_false g2]
  by_cases h1 : has a p = false
  · rw [if_neg (fun h => by simp [h1] at h), h1]; rfl
  replace h1 : has a p = true := by simpa using h1
  have hp := has_iff.1 h1
  have hpi : p.toNat < a.things.length := by omega
  have hc : c.toNat < a.free.length := by omega
  rw [h1]
  simp only [Bool.not_true, cF, needs_iff, map_get _ _ _ hpi, map_get _ _ _ hc, optAll_so, l0_, t0_, t1_, t2_, t3_, t4_, t5_, t6_, t7_, isLive_ok, at_eq hpi, listOf_eq hc, isFree_ok a p hs]
  refine ⟨hp.1, ?_⟩
  by_cases h2 : liveB (at_ a p) = true
  · rw [if_neg (fun h => by simp [h2] at h), h2]; rfl
  replace h2 : liveB (at_ a p) = false := by simpa using h2
  rw [h2]
  by_cases h3 : freeB a p = true
  · rw [if_neg (fun h => by simp [h3] at h), h3]; rfl
  replace h3 : freeB a p = false := by simpa using h3
  rw [h3, if_pos ⟨by omega, by omega, by simp, by simp, by simp⟩]
  simp only [cF]
  refine ⟨hp.1, ?_⟩
  have hmem : listOf a c ∈ a.free := by rw [← listOf_eq hc]; exact List.getElem_mem hc
  have hlen := hs.lists _ hmem
  by_cases h4 : (at_ a p).gen = -1
  · rw [if_pos h4, show ((at_ a p).gen == -1) = true by simpa using h4]; rfl
  · rw [if_neg h4, show ((at_ a p).gen == -1) = false by simpa using h4]
    simp only [cF]
    have e : ((((listOf a c).map ei).take (Int.toNat ((((listOf a c).map ei).length : Nat) : Int))) ++ (([[DV.v (Value.int IntKind.i64 p)]] : List (List DV)).take 1)) = (listOf a c ++ [p]).map ei := by
      rw [Int.toNat_natCast, List.take_length, List.map_append]; rfl
    rw [e, List.take_length, list_ok a c _ hs ⟨by omega, by omega⟩]
    simp only [List.length_map, List.length_append, List.length_cons, List.length_nil]
    exact ⟨by omega, trivial, by omega, by omega, rfl⟩
theorem rgive_ok (a : A) (c p : Int) (hs : Small a) : ref09_Give.R (a.things.map encT) (a.free.map encL) c p = some (t2 (giveS a c p)) := by
  refine ref09_Give.start _ _ _ _ _ ?_
  unfold giveS
  simp only [place_ok a p hs, optAll_so, List.length_map]
  by_cases h1 : has a p = false
  · rw [if_neg (fun h => by simp [h1] at h), h1]; rfl
  replace h1 : has a p = true := by simpa using h1
  have hp := has_iff.1 h1
  rw [h1]
  by_cases g1 : c < 0
  · rw [decide_eq_true g1, if_neg (fun h => by omega)]; rfl
  rw [decide_eq_false g1]
  by_cases g2 : c ≥ (a.free.length : Int)
  · rw [decide_eq_true g2, if_neg (fun h => by omega)]; rfl
  rw [decide_eq_false g2]
  have hpi : p.toNat < a.things.length := by omega
  have hc : c.toNat < a.free.length := by omega
  simp only [Bool.not_true, cF, needs_iff, map_get _ _ _ hpi, map_get _ _ _ hc, optAll_so, l0_, t0_, t1_, t2_, t3_, t4_, t5_, t6_, t7_, rLive_ok, at_eq hpi, listOf_eq hc, in_ok a p hs]
  refine ⟨hp.1, ?_⟩
  by_cases h2 : liveB (at_ a p) = true
  · rw [if_neg (fun h => by simp [h2] at h), h2]; rfl
  replace h2 : liveB (at_ a p) = false := by simpa using h2
  rw [h2]
  have ef : decide (((a.free.flatten.count p : Nat) : Int) > 0) = freeB a p := decide_eq_decide.2 ⟨fun h => List.count_pos_iff.1 (by omega), fun h => by have := List.count_pos_iff.2 h; omega⟩
  rw [ef]
  by_cases h3 : freeB a p = true
  · rw [if_neg (fun h => by simp [h3] at h), h3]; rfl
  replace h3 : freeB a p = false := by simpa using h3
  rw [h3, if_pos ⟨by omega, by omega, by simp, by simp, by simp⟩]
  simp only [cF]
  refine ⟨hp.1, ?_⟩
  have hmem : listOf a c ∈ a.free := by rw [← listOf_eq hc]; exact List.getElem_mem hc
  have hlen := hs.lists _ hmem
  by_cases h4 : (at_ a p).gen = -1
  · rw [if_pos h4, show ((at_ a p).gen == -1) = true by simpa using h4]; rfl
  · rw [if_neg h4, show ((at_ a p).gen == -1) = false by simpa using h4]
    simp only [cF]
    have e : (((listOf a c).map ei) ++ (([[DV.v (Value.int IntKind.i64 p)]] : List (List DV)).take 1)) = (listOf a c ++ [p]).map ei := by
      rw [List.map_append]; rfl
    rw [e, List.take_length, rlist_ok a c _ hs ⟨by omega, by omega⟩]
    simp only [List.length_map, List.length_append, List.length_cons, List.length_nil]
    exact ⟨by omega, by omega, trivial, by omega, rfl⟩
end Arena
end Go.AI
