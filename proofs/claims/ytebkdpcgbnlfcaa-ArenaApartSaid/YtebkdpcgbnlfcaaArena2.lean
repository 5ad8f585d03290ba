/-
  Own work. The arenas' functions: the document's answer; both say the same.
-/
import Derived.Test.YtebkdpcgbnlfcaaArena1
namespace Go.AI
open Go
set_option linter.unusedVariables false
set_option linter.unusedSimpArgs false
namespace Arena
open Kit
theorem nodup_small : ∀ (n : Nat) (l : List Int), l.Nodup → (∀ x ∈ l, 0 ≤ x ∧ x < (n : Int)) → l.length ≤ n
  | 0, l, _, h => by
    cases l with
    | nil => exact Nat.le_refl _
    | cons x r => have := h x (by simp); omega
  | n + 1, l, hd, h => by
    have ih := nodup_small n (l.erase (n : Int)) (hd.erase _) fun x hx => by
      have h1 := (List.Nodup.mem_erase_iff hd).1 hx
      have h2 := h x h1.2
      omega
    have := List.length_erase (a := (n : Int)) (l := l)
    split at this <;> omega
theorem in_list (a : A) (p : Int) (ci : Nat) (hc : ci < a.free.length) (hl : (a.free[ci]).length < 1000000) (hf : ci < 1000000)
    (nxt : ∀ n : Nat, n ≤ (ci + 1) * 1000000 → ref09_in.H4 p n ((ci + 1 : Nat) : Int) (a.things.map encT) (a.free.map encL) (((n + (a.free.drop (ci + 1)).flatten.count p : Nat) : Int), ())) : ∀ (m j n : Nat), j + m = (a.free[ci]).length → n ≤ ci * 1000000 + j →
    ref09_in.H7 p n ci j (a.things.map encT) (a.free.map encL) (((n + ((a.free[ci]).drop j ++ (a.free.drop (ci + 1)).flatten).count p : Nat) : Int), ()) := by
  intro m
  induction m with
  | zero =>
    intro j n hj hn
    refine ref09_in.H7_step _ _ _ _ _ _ _ ?_
    simp only [needs_nat, Int.toNat_natCast, map_get _ _ _ hc, optAll_so, l0_, List.length_map]
    rw [decide_eq_false (by omega), List.drop_eq_nil_of_le (by omega), List.nil_append, wrap_succ (show ci < 4611686018427387904 by omega)]
    exact nxt n (by omega)
  | succ m ih =>
    intro j n hj hn
    refine ref09_in.H7_step _ _ _ _ _ _ _ ?_
    have hjl : j < (a.free[ci]).length := by omega
    simp only [needs_nat, Int.toNat_natCast, map_get _ _ _ hc, optAll_so, l0_, List.length_map]
    rw [decide_eq_true (by omega), List.drop_eq_getElem_cons hjl, List.cons_append]
    simp only [cond_true, map_get _ _ _ hjl, optAll_so, n0_, wrap_succ (show j < 4611686018427387904 by omega), wrap_succ (show n < 4611686018427387904 by omega), List.count_cons]
    by_cases h : (a.free[ci])[j] = p
    · rw [show ((a.free[ci])[j] == p) = true by simpa using h]
      have := ih (j + 1) (n + 1) (by omega) (by omega)
      simp only [cond_true, if_true]
      rw [show n + (List.count p (List.drop (j + 1) (a.free[ci]) ++ (List.drop (ci + 1) a.free).flatten) + 1) = n + 1 + List.count p (List.drop (j + 1) (a.free[ci]) ++ (List.drop (ci + 1) a.free).flatten) by omega]
      exact this
    · rw [show ((a.free[ci])[j] == p) = false by simpa using h]
      exact ih (j + 1) n (by omega) (by omega)
theorem in_lists (a : A) (p : Int) (hs : Small a) : ∀ (m i n : Nat), i + m = a.free.length → n ≤ i * 1000000 →
    ref09_in.H4 p n i (a.things.map encT) (a.free.map encL) (((n + (a.free.drop i).flatten.count p : Nat) : Int), ()) := by
  intro m
  induction m with
  | zero =>
    intro i n hi hn
    refine ref09_in.H4_step _ _ _ _ _ _ ?_
    rw [List.length_map, decide_eq_false (by omega), List.drop_eq_nil_of_le (by omega)]
    rfl
  | succ m ih =>
    intro i n hi hn
    refine ref09_in.H4_step _ _ _ _ _ _ ?_
    have hil : i < a.free.length := by omega
    have hff := hs.free
    have hll := hs.lists _ (List.getElem_mem hil)
    rw [List.length_map, decide_eq_true (by omega), List.drop_eq_getElem_cons hil, List.flatten_cons]
    have := in_list a p i hil hll (by omega) (fun n hn => ih (i + 1) n (by omega) hn) (a.free[i]).length 0 n (Nat.zero_add _) (by rw [Nat.add_zero]; exact hn)
    rw [List.drop_zero] at this
    exact this
theorem in_ok (a : A) (p : Int) (hs : Small a) : ref09_in.R (a.things.map encT) (a.free.map encL) p = some (((a.free.flatten.count p : Nat) : Int), ()) := by
  have e0 : 0 ≤ 0 * 1000000 := Nat.zero_le _
  have h := in_lists a p hs a.free.length 0 0 (Nat.zero_add _) e0
  have e : 0 + (a.free.drop 0).flatten.count p = a.free.flatten.count p := by rw [List.drop_zero, Nat.zero_add]
  rw [e] at h
  exact ref09_in.start _ _ _ _ h
def onceF (a : A) (l : List Int) : Bool := l.all fun p => okP a.things p && (a.free.flatten.count p == 1)
def listF (a : A) (l : List Int) : Bool := decide (l.length ≤ 64) && onceF a l
def isF (a : A) : Bool := sizes a && ((a.free.all (listF a)) && a.things.all thingB)
theorem is_things (a : A) (hs : Small a) : ∀ (m i : Nat), i + m = a.things.length → ref09_Is.H16 i (a.things.map encT) (a.free.map encL) ((a.things.drop i).all thingB, ()) := by
  intro m
  induction m with
  | zero =>
    intro i hi
    refine ref09_Is.H16_step _ _ _ _ ?_
    rw [List.length_map, decide_eq_false (by omega), List.drop_eq_nil_of_le (by omega)]
    rfl
  | succ m ih =>
    intro i hi
    refine ref09_Is.H16_step _ _ _ _ ?_
    have hil : i < a.things.length := by omega
    have ht := hs.things
    have nxt := ih (i + 1) (by omega)
    rw [List.length_map, decide_eq_true (by omega), List.drop_eq_getElem_cons hil]
    simp only [cond_true, needs_nat, Int.toNat_natCast, map_get _ _ _ hil, optAll_so, t0_, t1_, t2_, t3_, t4_, t5_, t6_, t7_, rLive_ok, List.all_cons, wrap_succ (show i < 4611686018427387904 by omega)]
    generalize a.things[i] = t
    generalize hL : liveB t = L
    have eT : thingB t = if L = true then decide (0 ≤ t.gen) && decide (t.gen ≤ 4095) && decide (0 ≤ t.refs) else decide (t.ty = 0) && decide (-1 ≤ t.gen) && decide (t.gen ≤ 4095) && decide (t.refs = 0) := by rw [← hL]; rfl
    have eL : (L = true ↔ 1 ≤ t.ty ∧ t.ty ≤ 5) := by rw [← hL]; unfold liveB; simp
    have fin : thingB t = true → ((thingB t && (a.things.drop (i + 1)).all thingB, ()) : Bool × Unit) = ((a.things.drop (i + 1)).all thingB, ()) := fun h => by rw [h]; rfl
    have fF : thingB t = false → ((thingB t && (a.things.drop (i + 1)).all thingB, ()) : Bool × Unit) = (false, ()) := fun h => by rw [h]; rfl
    have fN : thingB t = true → ref09_Is.H16 ((i + 1 : Nat) : Int) (a.things.map encT) (a.free.map encL) (thingB t && (a.things.drop (i + 1)).all thingB, ()) := fun h => by rw [fin h]; exact nxt
    simp only [cond_ite, decide_eq_true_eq, beq_iff_eq]
    cases L
    · have h5 : ¬ (1 ≤ t.ty ∧ t.ty ≤ 5) := fun h => by simpa using eL.2 h
      simp only [Bool.false_eq_true, if_false, Bool.not_false, if_true] at eT ⊢
      repeat' split
      all_goals first
        | exact fF (by rw [eT, Bool.eq_false_iff]; simp only [ne_eq, Bool.and_eq_true, decide_eq_true_eq]; omega)
        | exact fN (by rw [eT]; simp only [Bool.and_eq_true, decide_eq_true_eq]; omega)
    · have h5 := eL.1 rfl
      simp only [if_true, Bool.not_true, Bool.false_eq_true, if_false] at eT ⊢
      repeat' split
      all_goals first
        | exact fF (by rw [eT, Bool.eq_false_iff]; simp only [ne_eq, Bool.and_eq_true, decide_eq_true_eq]; omega)
        | exact fN (by rw [eT]; simp only [Bool.and_eq_true, decide_eq_true_eq]; omega)
theorem is_list (a : A) (hs : Small a) (ci : Nat) (hc : ci < a.free.length) (Z : Bool)
    (nxt : ref09_Is.H5 ((ci + 1 : Nat) : Int) (a.things.map encT) (a.free.map encL) (Z, ())) : ∀ (m j : Nat), j + m = (a.free[ci]).length →
    ref09_Is.H10 ci j (a.things.map encT) (a.free.map encL) (onceF a ((a.free[ci]).drop j) && Z, ()) := by
  have hff := hs.free
  have hll := hs.lists _ (List.getElem_mem hc)
  intro m
  induction m with
  | zero =>
    intro j hj
    refine ref09_Is.H10_step _ _ _ _ _ ?_
    simp only [needs_nat, Int.toNat_natCast, map_get _ _ _ hc, optAll_so, l0_, List.length_map]
    rw [decide_eq_false (by omega), List.drop_eq_nil_of_le (by omega), wrap_succ (show ci < 4611686018427387904 by omega)]
    exact nxt
  | succ m ih =>
    intro j hj
    refine ref09_Is.H10_step _ _ _ _ _ ?_
    have hjl : j < (a.free[ci]).length := by omega
    simp only [needs_nat, Int.toNat_natCast, map_get _ _ _ hc, optAll_so, l0_, List.length_map]
    rw [decide_eq_true (by omega), List.drop_eq_getElem_cons hjl]
    simp only [cond_true, map_get _ _ _ hjl, optAll_so, n0_, wrap_succ (show j < 4611686018427387904 by omega), onceF, List.all_cons]
    have nx := ih (j + 1) (by omega)
    unfold onceF at nx
    generalize (a.free[ci])[j] = p
    by_cases h1 : p < 0
    · rw [decide_eq_true h1, show okP a.things p = false by unfold okP; rw [decide_eq_false (by omega)]; rfl]; rfl
    rw [decide_eq_false h1]
    by_cases h2 : p ≥ (a.things.length : Int)
    · rw [decide_eq_true h2, show okP a.things p = false by unfold okP; rw [List.getElem?_eq_none (by omega)]; simp]; rfl
    rw [decide_eq_false h2]
    have hp : p.toNat < a.things.length := by omega
    have hk : okP a.things p = (!liveB a.things[p.toNat] && decide (a.things[p.toNat].gen ≠ -1)) := by
      unfold okP; rw [List.getElem?_eq_getElem hp, decide_eq_true (show 0 ≤ p by omega)]; rfl
    rw [hk]
    simp only [cF, map_get _ _ _ hp, optAll_so, t0_, t1_, t2_, t3_, t4_, t5_, t6_, t7_, rLive_ok, needs_iff, in_ok a p hs]
    refine ⟨by omega, ?_⟩
    cases liveB a.things[p.toNat]
    · simp only [cF]
      refine ⟨by omega, ?_⟩
      by_cases h3 : a.things[p.toNat].gen = -1
      · rw [show (a.things[p.toNat].gen == -1) = true by simpa using h3]
        simp [h3]
      · rw [show (a.things[p.toNat].gen == -1) = false by simpa using h3, decide_eq_true h3]
        simp only [cF]
        by_cases h4 : a.free.flatten.count p = 1
        · rw [show (((a.free.flatten.count p : Nat) : Int) != 1) = false by simp; omega, show (a.free.flatten.count p == 1) = true by simpa using h4]
          exact nx
        · rw [show (((a.free.flatten.count p : Nat) : Int) != 1) = true by simp; omega, show (a.free.flatten.count p == 1) = false by simpa using h4]
          rfl
    · rfl
theorem is_lists (a : A) (hs : Small a) : ∀ (m i : Nat), i + m = a.free.length →
    ref09_Is.H5 i (a.things.map encT) (a.free.map encL) ((a.free.drop i).all (listF a) && a.things.all thingB, ()) := by
  intro m
  induction m with
  | zero =>
    intro i hi
    refine ref09_Is.H5_step _ _ _ _ ?_
    rw [List.length_map, decide_eq_false (by omega), List.drop_eq_nil_of_le (by omega)]
    simp only [cF, List.all_nil, Bool.true_and]
    exact is_things a hs a.things.length 0 (by omega)
  | succ m ih =>
    intro i hi
    refine ref09_Is.H5_step _ _ _ _ ?_
    have hil : i < a.free.length := by omega
    rw [List.length_map, decide_eq_true (by omega), List.drop_eq_getElem_cons hil]
    simp only [cond_true, needs_nat, Int.toNat_natCast, map_get _ _ _ hil, optAll_so, l0_, List.length_map, List.all_cons]
    have h := is_list a hs i hil _ (ih (i + 1) (by omega)) (a.free[i]).length 0 (by omega)
    rw [List.drop_zero, ← Bool.and_assoc] at h
    unfold listF
    by_cases h1 : ((a.free[i]).length : Int) > 64
    · rw [decide_eq_true h1, decide_eq_false (show ¬ (a.free[i]).length ≤ 64 by omega)]; rfl
    · rw [decide_eq_false h1, decide_eq_true (show (a.free[i]).length ≤ 64 by omega)]
      exact h
theorem is_ok0 (a : A) (hs : Small a) : ref09_Is.R (a.things.map encT) (a.free.map encL) = some (isF a, ()) := by
  refine ref09_Is.start _ _ _ ?_
  simp only [List.length_map]
  unfold isF sizes
  by_cases h1 : (a.things.length : Int) < 1
  · rw [decide_eq_true h1, decide_eq_false (show ¬ 1 ≤ a.things.length by omega)]; simp
  rw [decide_eq_false h1, decide_eq_true (show 1 ≤ a.things.length by omega)]
  by_cases h2 : (a.things.length : Int) > 64
  · rw [decide_eq_true h2, decide_eq_false (show ¬ a.things.length ≤ 64 by omega)]; simp
  rw [decide_eq_false h2, decide_eq_true (show a.things.length ≤ 64 by omega)]
  by_cases h3 : (a.free.length : Int) < 1
  · rw [decide_eq_true h3, decide_eq_false (show ¬ 1 ≤ a.free.length by omega)]; simp
  rw [decide_eq_false h3, decide_eq_true (show 1 ≤ a.free.length by omega)]
  by_cases h4 : (a.free.length : Int) > 64
  · rw [decide_eq_true h4, decide_eq_false (show ¬ a.free.length ≤ 64 by omega)]; simp
  rw [decide_eq_false h4, decide_eq_true (show a.free.length ≤ 64 by omega)]
  simp only [cond_false, Bool.true_and]
  exact is_lists a hs a.free.length 0 (by omega)
theorem walk_iff (th : List Th) (hn : th.length ≤ 64) : ∀ (l : List Int) (s : List Bool), s.length = 64 → (walkF th s l = true ↔ (∀ p ∈ l, okP th p = true ∧ s.getD p.toNat false = false) ∧ l.Nodup)
  | [], s, _ => by simp [walkF]
  | p :: r, s, hs => by
    have ih := walk_iff th hn r (s.set p.toNat true) (by simpa using hs)
    simp only [walkF, Bool.and_eq_true, Bool.not_eq_true', ih, List.nodup_cons]
    constructor
    · rintro ⟨h1, h2, h3, h4⟩
      have hp := okP_lt h1
      have get : ∀ q ∈ r, q.toNat ≠ p.toNat ∧ s.getD q.toNat false = false := fun q hq => by
        obtain ⟨k1, k2⟩ := h3 q hq
        have hq' := okP_lt k1
        rw [List.getD_eq_getElem?_getD, List.getElem?_set] at k2
        split at k2
        · rw [if_pos (by omega)] at k2; simp at k2
        · rename_i hne; exact ⟨fun e => hne e.symm, by rw [List.getD_eq_getElem?_getD]; exact k2⟩
      refine ⟨fun q hq => ?_, fun hm => (get p hm).1 rfl, h4⟩
      rcases List.mem_cons.1 hq with rfl | hq
      · exact ⟨h1, h2⟩
      · exact ⟨(h3 q hq).1, (get q hq).2⟩
    · rintro ⟨h1, h2, h3⟩
      refine ⟨(h1 p List.mem_cons_self).1, (h1 p List.mem_cons_self).2, fun q hq => ?_, h3⟩
      obtain ⟨k1, k2⟩ := h1 q (List.mem_cons_of_mem _ hq)
      refine ⟨k1, ?_⟩
      have hp := okP_lt (h1 p List.mem_cons_self).1
      have hq' := okP_lt k1
      have hne : p.toNat ≠ q.toNat := fun e => h2 (by rw [show p = q by omega]; exact hq)
      rw [List.getD_eq_getElem?_getD, List.getElem?_set, if_neg hne, ← List.getD_eq_getElem?_getD]; exact k2
theorem good_iff (a : A) : good a = true ↔ sizes a = true ∧ (∀ t ∈ a.things, thingB t = true) ∧ (∀ p ∈ a.free.flatten, okP a.things p = true) ∧ a.free.flatten.Nodup := by
  unfold good
  rw [Bool.and_eq_true, Bool.and_eq_true, List.all_eq_true]
  refine and_congr_right fun hz => and_congr_right fun _ => ?_
  have hn : a.things.length ≤ 64 := by unfold sizes at hz; simp at hz; omega
  rw [walk_iff a.things hn _ _ rfl]
  refine and_congr_left fun _ => ⟨fun h p hp => (h p hp).1, fun h p hp => ⟨h p hp, ?_⟩⟩
  have := okP_lt (h p hp)
  rw [List.getD_eq_getElem?_getD, List.getElem?_replicate]; split <;> rfl
theorem good_is (a : A) : isF a = good a := by
  rw [Bool.eq_iff_iff, good_iff]
  unfold isF
  rw [Bool.and_eq_true, Bool.and_eq_true, List.all_eq_true, List.all_eq_true]
  refine and_congr_right fun hz => ?_
  have hn : a.things.length ≤ 64 := by unfold sizes at hz; simp at hz; omega
  constructor
  · rintro ⟨h1, h2⟩
    have key : ∀ p ∈ a.free.flatten, okP a.things p = true ∧ a.free.flatten.count p = 1 := fun p hp => by
      obtain ⟨l, hl, hpl⟩ := List.mem_flatten.1 hp
      have := h1 l hl
      unfold listF onceF at this
      rw [Bool.and_eq_true, List.all_eq_true] at this
      simpa using this.2 p hpl
    refine ⟨h2, fun p hp => (key p hp).1, List.nodup_iff_count.2 fun p => ?_⟩
    by_cases hp : p ∈ a.free.flatten
    · rw [(key p hp).2]; exact Nat.le_refl _
    · rw [List.count_eq_zero_of_not_mem hp]; omega
  · rintro ⟨h1, h2, h3⟩
    refine ⟨fun l hl => ?_, h1⟩
    have hsub := List.sublist_flatten_of_mem hl
    unfold listF onceF
    rw [Bool.and_eq_true, decide_eq_true_eq, List.all_eq_true]
    refine ⟨Nat.le_trans (nodup_small a.things.length l (h3.sublist hsub) fun p hp => ?_) hn, fun p hp => ?_⟩
    · have := okP_lt (h2 p (hsub.subset hp)); omega
    · have hm := hsub.subset hp
      rw [Bool.and_eq_true]
      refine ⟨h2 p hm, ?_⟩
      rw [List.Nodup.count h3, if_pos hm]; rfl
theorem is_ok (a : A) (hs : Small a) : ref09_Is.R (a.things.map encT) (a.free.map encL) = some (good a, ()) := by rw [is_ok0 a hs, good_is]
end Arena
end Go.AI
