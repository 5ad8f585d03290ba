/-
  Own work. The ghosts' laws: GhostOrder, GhostStays.
-/
import Derived.Test.YtjjchnnnchccgaaGhost5
namespace Go.AI
open Go
set_option linter.unusedVariables false
set_option linter.unusedSimpArgs false
namespace Ghost
open Kit
/-! Who is above. -/
theorem aboveF_fuel (f : List Int) : ∀ (n m : Nat) (id : Int), id.toNat < n → id.toNat < m → aboveF f n id = aboveF f m id
  | 0, _, _, h, _ => absurd h (by omega)
  | _, 0, _, _, h => absurd h (by omega)
  | n + 1, m + 1, id, h1, h2 => by
    rw [aboveF, aboveF]
    by_cases h : id < 0 ∨ (f.length : Int) ≤ id
    · rw [if_pos h, if_pos h]
    · rw [if_neg h, if_neg h]
      by_cases h3 : f.getD id.toNat 0 < 0 ∨ id ≤ f.getD id.toNat 0
      · rw [if_pos h3, if_pos h3]
      · rw [if_neg h3, if_neg h3, aboveF_fuel f n m _ (by omega) (by omega)]
def ab (f : List Int) (id : Int) : List Int := aboveF f (id.toNat + 1) id
theorem ab_eq (f : List Int) (id : Int) : ab f id = if id < 0 ∨ (f.length : Int) ≤ id then [] else if f.getD id.toNat 0 < 0 ∨ id ≤ f.getD id.toNat 0 then [] else f.getD id.toNat 0 :: ab f (f.getD id.toNat 0) := by
  unfold ab
  rw [aboveF]
  by_cases h : id < 0 ∨ (f.length : Int) ≤ id
  · rw [if_pos h, if_pos h]
  · rw [if_neg h, if_neg h]
    by_cases h3 : f.getD id.toNat 0 < 0 ∨ id ≤ f.getD id.toNat 0
    · rw [if_pos h3, if_pos h3]
    · rw [if_neg h3, if_neg h3, aboveF_fuel f id.toNat ((f.getD id.toNat 0).toNat + 1) _ (by omega) (by omega)]
theorem ab_cases (f : List Int) (id : Int) : ab f id = [] ∨ ∃ u, 0 ≤ u ∧ u < id ∧ u < f.length ∧ ab f id = u :: ab f u := by
  rw [ab_eq]
  by_cases h : id < 0 ∨ (f.length : Int) ≤ id
  · rw [if_pos h]; exact .inl rfl
  · rw [if_neg h]
    by_cases h3 : f.getD id.toNat 0 < 0 ∨ id ≤ f.getD id.toNat 0
    · rw [if_pos h3]; exact .inl rfl
    · rw [if_neg h3]; exact .inr ⟨_, by omega, by omega, by omega, rfl⟩
theorem ab_lt (f : List Int) : ∀ (n : Nat) (id z : Int), id.toNat < n → z ∈ ab f id → 0 ≤ z ∧ z < id
  | 0, _, _, h, _ => absurd h (by omega)
  | n + 1, id, z, h, hz => by
    rcases ab_cases f id with e | ⟨u, h1, h2, _, e⟩
    · rw [e] at hz; simp at hz
    · rw [e] at hz
      rcases List.mem_cons.1 hz with hz | hz
      · rw [hz]; omega
      · have := ab_lt f n u z (by omega) hz; omega
theorem ab_trans (f : List Int) : ∀ (n : Nat) (x y z : Int), x.toNat < n → y ∈ ab f x → z ∈ ab f y → z ∈ ab f x
  | 0, _, _, _, h, _, _ => absurd h (by omega)
  | n + 1, x, y, z, h, hy, hz => by
    rcases ab_cases f x with e | ⟨u, h1, h2, _, e⟩
    · rw [e] at hy; simp at hy
    · rw [e] at hy ⊢
      rcases List.mem_cons.1 hy with hy | hy
      · rw [hy] at hz; exact List.mem_cons_of_mem _ hz
      · exact List.mem_cons_of_mem _ (ab_trans f n u y z (by omega) hy hz)
theorem ab_append (f : List Int) (v : Int) : ∀ (n : Nat) (id : Int), id.toNat < n → id < f.length → ab (f ++ [v]) id = ab f id
  | 0, _, h, _ => absurd h (by omega)
  | n + 1, id, h, hl => by
    rw [ab_eq (f ++ [v]), ab_eq f]
    by_cases h0 : id < 0
    · rw [if_pos (.inl h0), if_pos (.inl h0)]
    · have hi : id.toNat < f.length := by omega
      have e : (f ++ [v]).getD id.toNat 0 = f.getD id.toNat 0 := by simp [List.getD, List.getElem?_append, hi]
      rw [if_neg (show ¬ (id < 0 ∨ ((f ++ [v]).length : Int) ≤ id) by simp only [List.length_append, List.length_cons, List.length_nil]; omega), if_neg (show ¬ (id < 0 ∨ (f.length : Int) ≤ id) by omega), e]
      by_cases h3 : f.getD id.toNat 0 < 0 ∨ id ≤ f.getD id.toNat 0
      · rw [if_pos h3, if_pos h3]
      · rw [if_neg h3, if_neg h3, ab_append f v n _ (by omega) (by omega)]
/-- Each one is older than the one before. -/
def Dec : Int → List Int → Prop
  | _, [] => True
  | x, u :: r => u < x ∧ Dec u r
theorem ab_dec (f : List Int) : ∀ (n : Nat) (id : Int), id.toNat < n → Dec id (ab f id)
  | 0, _, h => absurd h (by omega)
  | n + 1, id, h => by
    rcases ab_cases f id with e | ⟨u, h1, h2, _, e⟩
    · rw [e]; exact trivial
    · rw [e]; exact ⟨h2, ab_dec f n u (by omega)⟩
theorem descS_iff {g : G} {a b : K} : descS g a b = true ↔ ∃ x y, whoS g a = some x ∧ whoS g b = some y ∧ y ∈ ab g.from_ x := by
  unfold descS
  cases whoS g a with
  | none => simp
  | some x =>
    cases whoS g b with
    | none => simp
    | some y =>
      simp only [decide_eq_true_eq, Option.some.injEq]
      exact ⟨fun h => ⟨x, y, rfl, rfl, h⟩, fun ⟨x', y', h1, h2, h3⟩ => by subst h1; subst h2; exact h3⟩
theorem order_loop (up : List Int) (hl : up.length < 1000000) : ∀ (m i : Nat) (x : Int), i + m = up.length → Dec x (up.drop i) → law14_GhostOrder.H12 x (up.map ei) i (true, ()) := by
  intro m
  induction m with
  | zero =>
    intro i x hi hd
    refine law14_GhostOrder.H12_step _ _ _ _ ?_
    rw [decide_eq_false (by simp; omega)]
    simp only [cF, live_ok, optAll_so]
  | succ m ih =>
    intro i x hi hd
    refine law14_GhostOrder.H12_step _ _ _ _ ?_
    have hil : i < up.length := by omega
    rw [List.drop_eq_getElem_cons hil] at hd
    rw [decide_eq_true (by simp; omega)]
    simp only [cT, needs_nat, Int.toNat_natCast, map_get _ _ _ hil, optAll_so, n0_, wrap_succ (show i < 4611686018427387904 by omega)]
    rw [decide_eq_false (by have := hd.1; omega)]
    exact ih (i + 1) _ (by omega) hd.2
theorem order_law (l : List B) (a b c : K) : law14_GhostOrder.R (l.map encB) a.obj a.slot b.obj b.slot c.obj c.slot = some (true, ()) := by
  refine law14_GhostOrder.start _ _ _ _ _ _ _ _ ?_
  simp only [List.length_map]
  by_cases h : (l.length : Int) > 80
  · rw [decide_eq_true h]; simp only [live_ok, optAll_so, cT]
  rw [decide_eq_false h]
  have hg := run_good l
  have hs := good_small hg
  simp only [cF, run_ok l (by omega), optAll_so, tA, tG]
  generalize (runS l).1 = g at hg hs
  simp only [desc_ok g _ _ hs, who_ok g _ hs, optAll_so, tW]
  have h1 : descS g a a = false := by
    cases hd : descS g a a with
    | false => rfl
    | true =>
      obtain ⟨x, y, e1, e2, h3⟩ := descS_iff.1 hd
      rw [e1] at e2; cases e2
      have := ab_lt g.from_ _ x x (Nat.lt_succ_self _) h3; omega
  rw [h1]
  have fin : cond (!(whoS g a).isSome) True (optAll (ghost_Above.R (g.keys.map encK) (g.ids.map ei) (g.from_.map ei) ((whoS g a).getD 0)) fun c15 => law14_GhostOrder.H12 ((whoS g a).getD 0) c15.1 0 (true, ())) := by
    cases hw : whoS g a with
    | none => exact True.intro
    | some x =>
      simp only [Option.isSome_some, Bool.not_true, cF, Option.getD_some, above_ok g x hs, optAll_so]
      exact order_loop _ (above_small g x hs) _ 0 x (Nat.zero_add _) (ab_dec g.from_ _ x (Nat.lt_succ_self _))
  simp only [live_ok, optAll_so, cF]
  cases hab : descS g a b with
  | false => exact fin
  | true =>
    have h2 : descS g b a = false := by
      cases hd : descS g b a with
      | false => rfl
      | true =>
        obtain ⟨x, y, e1, e2, h3⟩ := descS_iff.1 hab
        obtain ⟨y', x', e3, e4, h4⟩ := descS_iff.1 hd
        rw [e2] at e3; cases e3
        rw [e1] at e4; cases e4
        have := ab_lt g.from_ _ x y (Nat.lt_succ_self _) h3
        have := ab_lt g.from_ _ y x (Nat.lt_succ_self _) h4
        omega
    rw [h2]
    simp only [cF, cT]
    cases hbc : descS g b c with
    | false => exact fin
    | true =>
      have h3 : descS g a c = true := by
        obtain ⟨x, y, e1, e2, h3⟩ := descS_iff.1 hab
        obtain ⟨y', z, e3, e4, h4⟩ := descS_iff.1 hbc
        rw [e2] at e3; cases e3
        exact descS_iff.2 ⟨x, z, e1, e4, ab_trans g.from_ _ x y z (Nat.lt_succ_self _) h3 h4⟩
      rw [h3]
      exact fin
/-! Who stays. -/
theorem who_iff {g : G} (hg : GoodP g) {k : K} {d : Int} : whoS g k = some d ↔ ∃ i : Nat, g.keys[i]? = some k ∧ g.ids[i]? = some d := by
  unfold whoS
  rcases idx_cases g.keys k with ⟨h1, h2⟩ | ⟨i, hi, h1, h2, h3⟩
  · rw [h1, if_pos (by omega)]
    constructor
    · intro h; cases h
    · rintro ⟨j, hj, _⟩; exact absurd (List.mem_of_getElem? hj) h2
  · have hl := hg.len
    rw [h1, if_neg (by omega), if_neg (by omega), Int.toNat_natCast]
    constructor
    · intro h; exact ⟨i, by rw [List.getElem?_eq_getElem hi, h2], h⟩
    · rintro ⟨j, hj, hd⟩
      have hjl := (List.getElem?_eq_some_iff.1 hj).1
      have hje := (List.getElem?_eq_some_iff.1 hj).2
      have : j = i := by
        have hp := List.pairwise_iff_getElem.1 hg.knd
        rcases Nat.lt_trichotomy j i with h | h | h
        · exact absurd (hje.trans h2.symm) (hp j i hjl hi h)
        · exact h
        · exact absurd (h2.trans hje.symm) (hp i j hi hjl h)
      rw [← this]; exact hd
theorem del_get {α : Type} (l : List α) (j i : Nat) (hj : j < l.length) : (del l j)[i]? = if i < j then l[i]? else l[i + 1]? := by
  unfold del
  rw [List.getElem?_append, List.length_take, Nat.min_eq_left (by omega)]
  by_cases h : i < j
  · rw [if_pos h, if_pos h, List.getElem?_take, if_pos h]
  · rw [if_neg h, if_neg h, List.getElem?_drop]
    congr 1; omega
theorem born_who {g : G} (hg : GoodP g) {k a : K} {u x : Int} (hb : (born g k u).2 = 0) (hg2 : GoodP (born g k u).1) (h : whoS g a = some x) : whoS (born g k u).1 a = some x ∧ (born g k u).1.from_ = g.from_ ++ [u] := by
  unfold born at hb hg2 ⊢
  split at hb
  · cases hb
  · rename_i hm
    rw [if_neg hm] at hg2 ⊢
    obtain ⟨i, h1, h2⟩ := (who_iff hg).1 h
    have hi1 := (List.getElem?_eq_some_iff.1 h1).1
    have hi2 := (List.getElem?_eq_some_iff.1 h2).1
    refine ⟨(who_iff hg2).2 ⟨i, ?_, ?_⟩, rfl⟩
    · show (g.keys ++ [k])[i]? = _; rw [List.getElem?_append_left hi1]; exact h1
    · show (g.ids ++ [(g.from_.length : Int)])[i]? = _; rw [List.getElem?_append_left hi2]; exact h2
/-- What a step that is done does to those who are there. -/
theorem step_who {g : G} (hg : good g = true) (b : B) (he : (addS g b).2 = 0) :
    (b.kind = 4 ∧ (addS g b).1.from_ = g.from_ ∧ whoS (addS g b).1 b.key = none ∧ ∀ a x, a ≠ b.key → whoS g a = some x → whoS (addS g b).1 a = some x) ∨
    (b.kind = 3 ∧ (addS g b).1.from_ = g.from_ ∧ (∀ x, whoS g b.from_ = some x → whoS (addS g b).1 b.key = some x) ∧ ∀ a x, a ≠ b.from_ → whoS g a = some x → whoS (addS g b).1 a = some x) ∨
    ((b.kind = 1 ∨ b.kind = 2) ∧ ∃ u, ∀ a x, whoS g a = some x → whoS (addS g b).1 a = some x ∧ (addS g b).1.from_ = g.from_ ++ [u]) := by
  have hgp := good_iff.1 hg
  have hg2 := good_iff.1 (addS_good hg b)
  by_cases hb : bad b
  · rw [add_bad (.inr hb)] at he; cases he
  rcases kinds hb with h1 | h1 | h1 | h1
  · refine .inr (.inr ⟨.inl h1, -1, fun a x ha => ?_⟩)
    rw [add_root hg hb h1] at he hg2 ⊢
    split at he
    · cases he
    · rename_i h3; rw [if_neg h3] at hg2 ⊢
      exact born_who hgp he hg2 ha
  · refine .inr (.inr ⟨.inr h1, g.ids.getD (idx g.keys b.from_).toNat 0, fun a x ha => ?_⟩)
    rw [add_two hg hb (.inl h1)] at he hg2 ⊢
    split at he
    · cases he
    · rename_i h2; rw [if_neg h2] at hg2 ⊢
      split at he
      · cases he
      · rename_i h3; rw [if_neg h3] at hg2 ⊢
        have h4 : ¬ b.kind = 3 := by omega
        rw [if_neg h4] at he hg2 ⊢
        exact born_who hgp he hg2 ha
  · refine .inr (.inl ⟨h1, ?_⟩)
    rw [add_two hg hb (.inr h1)] at he hg2 ⊢
    split at he
    · cases he
    · rename_i h2; rw [if_neg h2] at hg2 ⊢
      split at he
      · cases he
      · rename_i h3; rw [if_neg h3] at hg2 ⊢
        rw [if_pos h1] at hg2 ⊢
        rcases idx_cases g.keys b.from_ with ⟨h5, _⟩ | ⟨k, hk, h5, h6, _⟩
        · omega
        rw [h5, Int.toNat_natCast] at hg2 ⊢
        refine ⟨rfl, fun x hx => ?_, fun a x hne hx => ?_⟩
        · obtain ⟨i, g1, g2⟩ := (who_iff hgp).1 hx
          have hik : i = k := by
            have hjl := (List.getElem?_eq_some_iff.1 g1).1
            have hje := (List.getElem?_eq_some_iff.1 g1).2
            have hp := List.pairwise_iff_getElem.1 hgp.knd
            rcases Nat.lt_trichotomy i k with h | h | h
            · exact absurd (hje.trans h6.symm) (hp i k hjl hk h)
            · exact h
            · exact absurd (h6.trans hje.symm) (hp k i hk hjl h)
          refine (who_iff hg2).2 ⟨i, ?_, g2⟩
          show (g.keys.set k b.key)[i]? = _
          rw [hik, List.getElem?_set_self hk]
        · obtain ⟨i, g1, g2⟩ := (who_iff hgp).1 hx
          refine (who_iff hg2).2 ⟨i, ?_, g2⟩
          show (g.keys.set k b.key)[i]? = _
          rw [List.getElem?_set_ne (fun e => by
            subst e
            rw [List.getElem?_eq_getElem hk, h6] at g1
            exact hne (Option.some.inj g1).symm)]
          exact g1
  · refine .inl ⟨h1, ?_⟩
    rw [add_die hg hb h1] at he hg2 ⊢
    split at he
    · cases he
    · rename_i h2; rw [if_neg h2] at hg2 ⊢
      rcases idx_cases g.keys b.key with ⟨h5, _⟩ | ⟨k, hk, h5, h6, _⟩
      · omega
      rw [h5, Int.toNat_natCast] at hg2 ⊢
      have hkd : k < g.ids.length := by rw [← hgp.len]; exact hk
      refine ⟨rfl, ?_, fun a x hne hx => ?_⟩
      · cases hw : whoS ⟨del g.keys k, del g.ids k, g.from_⟩ b.key with
        | none => rfl
        | some d =>
          obtain ⟨i, g1, _⟩ := (who_iff hg2).1 hw
          have g1 : (del g.keys k)[i]? = some b.key := g1
          rw [del_get _ _ _ hk] at g1
          have hp := List.pairwise_iff_getElem.1 hgp.knd
          split at g1
          · rename_i hik
            have hjl := (List.getElem?_eq_some_iff.1 g1).1
            have hje := (List.getElem?_eq_some_iff.1 g1).2
            exact absurd (hje.trans h6.symm) (hp i k hjl hk hik)
          · rename_i hik
            have hjl := (List.getElem?_eq_some_iff.1 g1).1
            have hje := (List.getElem?_eq_some_iff.1 g1).2
            exact absurd (h6.trans hje.symm) (hp k (i + 1) hk hjl (by omega))
      · obtain ⟨i, g1, g2⟩ := (who_iff hgp).1 hx
        have hik : i ≠ k := fun e => by
          subst e
          rw [List.getElem?_eq_getElem hk, h6] at g1
          exact hne (Option.some.inj g1).symm
        by_cases hlt : i < k
        · refine (who_iff hg2).2 ⟨i, ?_, ?_⟩
          · show (del g.keys k)[i]? = _; rw [del_get _ _ _ hk, if_pos hlt]; exact g1
          · show (del g.ids k)[i]? = _; rw [del_get _ _ _ hkd, if_pos hlt]; exact g2
        · refine (who_iff hg2).2 ⟨i - 1, ?_, ?_⟩
          · show (del g.keys k)[i - 1]? = _; rw [del_get _ _ _ hk, if_neg (by omega), show i - 1 + 1 = i by omega]; exact g1
          · show (del g.ids k)[i - 1]? = _; rw [del_get _ _ _ hkd, if_neg (by omega), show i - 1 + 1 = i by omega]; exact g2
theorem descS_of {g : G} {a b : K} {x y : Int} (h1 : whoS g a = some x) (h2 : whoS g b = some y) : descS g a b = decide (y ∈ ab g.from_ x) := by
  unfold descS
  rw [h1, h2]
  rfl
theorem descS_none {g : G} {a b : K} (h : whoS g a = none ∨ whoS g b = none) : descS g a b = false := by
  unfold descS
  rcases h with h | h
  · rw [h]
  · rw [h]
    cases whoS g a <;> rfl
theorem stays_loop (m : List B) (hm : m.length ≤ 80) (x y : Int) (was : Bool) : ∀ (r i : Nat) (a b : K) (g : G), i + r = m.length → good g = true → whoS g a = some x → whoS g b = some y → was = decide (y ∈ ab g.from_ x) →
    law14_GhostStays.H11 (m.map encB) was i a.obj a.slot b.obj b.slot (g.keys.map encK) (g.ids.map ei) (g.from_.map ei) (true, ()) := by
  intro r
  induction r with
  | zero =>
    intro i a b g hi hg ha hb hw
    refine law14_GhostStays.H11_step _ _ _ _ _ _ _ _ _ _ _ ?_
    rw [decide_eq_false (by simp; omega)]
    simp only [cF, live_ok, optAll_so]
  | succ r ih =>
    intro i a b g hi hg ha hb hw
    refine law14_GhostStays.H11_step _ _ _ _ _ _ _ _ _ _ _ ?_
    have hil : i < m.length := by omega
    rw [decide_eq_true (by simp; omega)]
    simp only [cT, needs_nat, Int.toNat_natCast, map_get _ _ _ hil, optAll_so, b0_, b1_, b2_, b3_, b4_, add_ok g m[i] (good_small hg), num_ok, tA, tG, wrap_succ (show i < 4611686018427387904 by omega), eqK]
    generalize m[i] = e
    have hg2 := addS_good hg e
    have hs2 := good_small hg2
    by_cases he : (addS g e).2 = 0
    · rw [show ((addS g e).2 != 0) = false by simpa using he]
      have hstep := step_who hg e he
      generalize (addS g e).1 = h at hg2 hs2 hstep
      simp only [cF, desc_ok h _ _ hs2, optAll_so]
      have go : ∀ a' b' : K, whoS h a' = some x → whoS h b' = some y → ab h.from_ x = ab g.from_ x → cond (!(descS h a' b' == was)) ((true, ()) = (false, ())) (law14_GhostStays.H11 (m.map encB) was ((i + 1 : Nat) : Int) a'.obj a'.slot b'.obj b'.slot (h.keys.map encK) (h.ids.map ei) (h.from_.map ei) (true, ())) := fun a' b' h1 h2 h3 => by
        rw [descS_of h1 h2, h3, ← hw, show (was == was) = true by simp]
        simp only [Bool.not_true, cF]
        exact ih (i + 1) a' b' h (by omega) hg2 h1 h2 (by rw [h3]; exact hw)
      rcases hstep with ⟨h1, hf, hn, hk⟩ | ⟨h1, hf, hm2, hk⟩ | ⟨h1, u, hk⟩
      · rw [h1]
        simp only [Int.reduceBEq, cT, cF]
        by_cases e1 : e.key = a
        · rw [decide_eq_true e1, descS_none (.inl (e1 ▸ hn))]
          simp only [cT, Bool.not_false, live_ok, optAll_so]
        · rw [decide_eq_false e1]
          by_cases e2 : e.key = b
          · rw [decide_eq_true e2, descS_none (.inr (e2 ▸ hn))]
            simp only [cT, cF, Bool.not_false, live_ok, optAll_so]
          · rw [decide_eq_false e2]
            exact go a b (hk a x (fun h => e1 h.symm) ha) (hk b y (fun h => e2 h.symm) hb) (by rw [hf])
      · rw [h1]
        simp only [Int.reduceBEq, cT, cF]
        by_cases e1 : e.from_ = a
        · rw [decide_eq_true e1]
          have ha' := hm2 x (by rw [e1]; exact ha)
          by_cases e3 : a = b
          · rw [decide_eq_true e3]
            have hxy : x = y := by rw [← e3, ha] at hb; exact Option.some.inj hb
            exact go e.key e.key ha' (by rw [← hxy]; exact ha') (by rw [hf])
          · rw [decide_eq_false e3, decide_eq_false (show ¬ e.from_ = b from fun h => e3 (e1.symm.trans h))]
            exact go e.key b ha' (hk b y (fun h => e3 (e1.symm.trans h.symm)) hb) (by rw [hf])
        · rw [decide_eq_false e1]
          have ha' := hk a x (fun h => e1 h.symm) ha
          by_cases e3 : a = b
          · rw [decide_eq_true e3]
            have hxy : x = y := by rw [← e3, ha] at hb; exact Option.some.inj hb
            exact go a a ha' (by rw [← hxy]; exact ha') (by rw [hf])
          · rw [decide_eq_false e3]
            by_cases e2 : e.from_ = b
            · rw [decide_eq_true e2]
              exact go a e.key ha' (hm2 y (by rw [e2]; exact hb)) (by rw [hf])
            · rw [decide_eq_false e2]
              exact go a b ha' (hk b y (fun h => e2 h.symm) hb) (by rw [hf])
      · obtain ⟨ha', hf⟩ := hk a x ha
        have hb' := (hk b y hb).1
        have hgp := good_iff.1 hg
        have hx : x < g.from_.length := by
          obtain ⟨j, _, hj⟩ := (who_iff hgp).1 ha
          exact (hgp.dok x (List.mem_of_getElem? hj)).2
        have e3 : ab h.from_ x = ab g.from_ x := by rw [hf]; exact ab_append _ _ _ _ (Nat.lt_succ_self _) hx
        rw [show (e.kind == 4) = false by simp; omega, show (e.kind == 3) = false by simp; omega]
        exact go a b ha' hb' e3
    · rw [show ((addS g e).2 != 0) = true by simpa using he, addS_err he]
      exact ih (i + 1) a b g (by omega) hg ha hb hw
theorem stays_law (l : List B) (a b : K) (m : List B) : law14_GhostStays.R (l.map encB) a.obj a.slot b.obj b.slot (m.map encB) = some (true, ()) := by
  refine law14_GhostStays.start _ _ _ _ _ _ _ ?_
  simp only [List.length_map]
  by_cases h : (l.length : Int) > 80
  · rw [decide_eq_true h]; simp only [live_ok, optAll_so, cT]
  rw [decide_eq_false h]
  by_cases h2 : (m.length : Int) > 80
  · rw [decide_eq_true h2]; simp only [live_ok, optAll_so, cT, cF]
  rw [decide_eq_false h2]
  have hg := run_good l
  have hs := good_small hg
  simp only [cF, run_ok l (by omega), optAll_so, tA, tG]
  generalize (runS l).1 = g at hg hs
  simp only [desc_ok g _ _ hs, who_ok g _ hs, optAll_so, tW]
  cases ha : whoS g a with
  | none =>
    rw [descS_none (.inl ha)]
    simp only [Option.isSome_none, Bool.not_false, cT, live_ok, optAll_so]
  | some x =>
    cases hb : whoS g b with
    | none =>
      rw [descS_none (.inr hb)]
      simp only [Option.isSome_none, Option.isSome_some, Bool.not_false, Bool.not_true, cT, cF, live_ok, optAll_so]
    | some y =>
      simp only [Option.isSome_some, Bool.not_true, cF]
      exact stays_loop m (by omega) x y _ m.length 0 a b g (by omega) hg ha hb (descS_of ha hb)
end Ghost
end Go.AI
