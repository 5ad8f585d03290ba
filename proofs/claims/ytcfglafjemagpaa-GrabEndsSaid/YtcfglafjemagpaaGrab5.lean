/-
  Own work. grab's laws: picked round by round all come to their end (plain lists, no program).
-/
import Derived.Test.YtcfglafjemagpaaGrab4
namespace Go.AI
open Go
set_option linter.unusedVariables false
set_option linter.unusedSimpArgs false
namespace Grabs
open Kit

/-- Who has a lock (cells that are not free are held by somebody). -/
structure Lh (v : List Int) (gs : List S) : Prop where
  lk : Lk v gs
  by_ : ∀ c : Nat, c < 8 → v[c]? ≠ some 0 → ∃ (i : Nat) (s : S), gs[i]? = some s ∧ (c : Int) ∈ s.held
/-- One's greatest lock, plus one. -/
def topS (s : S) : Nat := if s.a = 0 then 0 else (s.cs.getD (s.a - 1) 0).toNat + 1
def top : List S → Nat
  | [] => 0
  | s :: r => max (topS s) (top r)
theorem top_le : ∀ {gs : List S} {i : Nat} {s : S}, gs[i]? = some s → topS s ≤ top gs
  | g :: gs, 0, s, h => by
    simp only [List.getElem?_cons_zero, Option.some.injEq] at h
    subst h
    simp only [top]
    omega
  | g :: gs, i + 1, s, h => by
    have := top_le (gs := gs) (i := i) (s := s) (by simpa using h)
    simp only [top]
    omega
theorem top_at : ∀ {gs : List S}, 0 < top gs → ∃ (i : Nat) (s : S), gs[i]? = some s ∧ topS s = top gs
  | [], h => by simp [top] at h
  | g :: gs, h => by
    by_cases hg : top gs ≤ topS g
    · exact ⟨0, g, rfl, by simp only [top]; omega⟩
    · obtain ⟨i, s, h1, h2⟩ := top_at (gs := gs) (by omega)
      exact ⟨i + 1, s, by simpa using h1, by simp only [top]; omega⟩
theorem top_lub {gs : List S} {m : Nat} (h : ∀ (i : Nat) (s : S), gs[i]? = some s → topS s ≤ m) : top gs ≤ m := by
  rcases Nat.eq_zero_or_pos (top gs) with h0 | h0
  · omega
  · obtain ⟨i, s, h1, h2⟩ := top_at h0
    rw [← h2]
    exact h i s h1
theorem held_top {i : Nat} {s : S} (hw : Wf i s) {c : Int} (hc : c ∈ s.held) : c.toNat + 1 ≤ topS s := by
  unfold S.held at hc
  rw [List.mem_take_iff_getElem] at hc
  obtain ⟨j, hj, rfl⟩ := hc
  unfold topS
  rw [if_neg (by omega)]
  have hp := List.pairwise_iff_getElem.1 hw.up
  have hle := hw.le
  rw [List.getD_eq_getElem?_getD, List.getElem?_eq_getElem (show s.a - 1 < s.cs.length by omega), Option.getD_some]
  have h0 := (hw.rng s.cs[j] (List.getElem_mem _)).1
  by_cases e : j = s.a - 1
  · subst e; exact Nat.le_refl _
  · have := hp j (s.a - 1) (by omega) (by omega) (by omega)
    omega
theorem top_held {i : Nat} {s : S} (hw : Wf i s) (h : 0 < topS s) : ((topS s - 1 : Nat) : Int) ∈ s.held ∧ topS s ≤ 8 := by
  unfold topS at h ⊢
  by_cases ha : s.a = 0
  · rw [if_pos ha] at h; omega
  · rw [if_neg ha] at h ⊢
    have hle := hw.le
    have hl : s.a - 1 < s.cs.length := by omega
    rw [List.getD_eq_getElem?_getD, List.getElem?_eq_getElem hl, Option.getD_some] at h ⊢
    have hr := hw.rng s.cs[s.a - 1] (List.getElem_mem _)
    refine ⟨?_, by omega⟩
    rw [show ((s.cs[s.a - 1].toNat + 1 - 1 : Nat) : Int) = s.cs[s.a - 1] by omega]
    unfold S.held
    rw [List.mem_take_iff_getElem]
    exact ⟨s.a - 1, by omega, rfl⟩
/-- A lock has one holder. -/
theorem one_holder {v : List Int} {gs : List S} (h : Lk v gs) {i j : Nat} {x y : S} (hi : gs[i]? = some x) (hj : gs[j]? = some y) {c : Int} (hx : c ∈ x.held) (hy : c ∈ y.held) : i = j := by
  have h1 := h.own i x hi c hx
  have h2 := h.own j y hj c hy
  rw [h1, (h.wf i x hi).who, (h.wf j y hj).who] at h2
  have := Option.some.inj h2
  omega
theorem one_top {v : List Int} {gs : List S} (h : Lk v gs) {i j : Nat} {x y : S} (hi : gs[i]? = some x) (hj : gs[j]? = some y) (e : topS x = topS y) (h0 : 0 < topS x) : i = j := by
  have h1 := (top_held (h.wf i x hi) h0).1
  have h2 := (top_held (h.wf j y hj) (by omega)).1
  rw [e] at h1
  exact one_holder h hi hj h1 h2
/-- What a step of one of them does to it. -/
inductive St (v : List Int) (gs : List S) (s : S) : S → Prop where
  | take (h : s.ph = 1) (ha : s.a < s.cs.length) (hf : v[s.cs[s.a].toNat]? = some 0) (s' : S) (h1 : s'.cs = s.cs) (h2 : s'.a = s.a + 1) (h3 : (s.a + 1 = s.cs.length ∧ s'.ph = 2) ∨ (s.a + 1 < s.cs.length ∧ s'.ph = 1)) : St v gs s s'
  | fail (h : s.ph = 1) (ha : s.a < s.cs.length) (hf : v[s.cs[s.a].toNat]? ≠ some 0) (s' : S) (h1 : s'.cs = s.cs) (h2 : s'.a = s.a) (h3 : s'.ph = 1 ∨ (s'.ph = 3 ∧ 0 < s.a)) : St v gs s s'
  | free (h : s.ph = 2) (s' : S) (h1 : s'.cs = s.cs) (h2 : s'.a = s.a) (h3 : (s.a = 0 ∧ s'.ph = 5) ∨ (0 < s.a ∧ s'.ph = 4)) : St v gs s s'
  | back (h : s.ph = 3) (s' : S) (h1 : s'.cs = s.cs) (h2 : s.a = s'.a + 1) (h3 : (s'.a = 0 ∧ s'.ph = 1) ∨ (0 < s'.a ∧ s'.ph = 3)) : St v gs s s'
  | goes (h : s.ph = 4) (s' : S) (h1 : s'.cs = s.cs) (h2 : s.a = s'.a + 1) (h3 : (s'.a = 0 ∧ s'.ph = 5) ∨ (0 < s'.a ∧ s'.ph = 4)) : St v gs s s'
  | done (h : s.ph = 5) : St v gs s s
def fin (s : S) : Prop := s.ph = 2 ∨ s.ph = 4
def left (s : S) : Nat := if s.ph = 2 then s.a + 1 else s.a
/-- The greatest lock's holder takes. -/
def J (gs : List S) : Prop := ∀ (i : Nat) (s : S), gs[i]? = some s → 0 < top gs → topS s = top gs → s.ph = 1
theorem topS_le {i : Nat} {s s' : S} (hw : Wf i s) (h1 : s'.cs = s.cs) (h2 : s'.a ≤ s.a) : topS s' ≤ topS s := by
  by_cases h0 : s'.a = 0
  · unfold topS; rw [if_pos h0]; omega
  · have hm : s.cs.getD (s'.a - 1) 0 ∈ s.held := by
      have hle := hw.le
      rw [List.getD_eq_getElem?_getD, List.getElem?_eq_getElem (show s'.a - 1 < s.cs.length by omega), Option.getD_some]
      unfold S.held
      rw [List.mem_take_iff_getElem]
      exact ⟨s'.a - 1, by omega, rfl⟩
    have := held_top hw hm
    unfold topS at this ⊢
    rw [if_neg h0, h1]
    exact this
theorem getD_at {l : List Int} {j : Nat} (h : j < l.length) : l.getD j 0 = l[j] := by rw [List.getD_eq_getElem?_getD, List.getElem?_eq_getElem h, Option.getD_some]
theorem topS_lt {i : Nat} {s s' : S} (hw : Wf i s) (h1 : s'.cs = s.cs) (h2 : s.a = s'.a + 1) : topS s' < topS s := by
  have hle := hw.le
  have hp := List.pairwise_iff_getElem.1 hw.up
  unfold topS
  rw [if_neg (show ¬ s.a = 0 by omega), h1, getD_at (show s.a - 1 < s.cs.length by omega)]
  by_cases h0 : s'.a = 0
  · rw [if_pos h0]; omega
  · rw [if_neg h0, getD_at (show s'.a - 1 < s.cs.length by omega)]
    have := hp (s'.a - 1) (s.a - 1) (by omega) (by omega) (by omega)
    have := (hw.rng s.cs[s'.a - 1] (List.getElem_mem _)).1
    omega
theorem set_at {gs : List S} {k : Nat} (hk : k < gs.length) (s' : S) (i : Nat) : (gs.set k s')[i]? = if i = k then some s' else gs[i]? := by
  rw [List.getElem?_set]
  by_cases h : k = i
  · subst h; rw [if_pos rfl, if_pos rfl]; simp [hk]
  · rw [if_neg h, if_neg (fun e => h e.symm)]
section
variable {v : List Int} {gs : List S} {k : Nat} {s s' : S}
theorem top_set_le (hk : k < gs.length) (hs : gs[k]? = some s) (h : topS s' ≤ top gs) : top (gs.set k s') ≤ top gs := by
  refine top_lub fun i x hx => ?_
  rw [set_at hk] at hx
  split at hx
  · cases hx; exact h
  · exact top_le hx
theorem top_set_ge (hk : k < gs.length) (hs : gs[k]? = some s) (h : topS s < top gs ∨ topS s ≤ topS s') : top gs ≤ top (gs.set k s') := by
  rcases Nat.eq_zero_or_pos (top gs) with h0 | h0
  · omega
  · obtain ⟨i, x, h1, h2⟩ := top_at h0
    by_cases hi : i = k
    · subst hi
      rw [hs] at h1
      cases h1
      have : topS s' ≤ top (gs.set i s') := top_le (i := i) (by rw [set_at hk, if_pos rfl])
      omega
    · rw [← h2]
      exact top_le (i := i) (by rw [set_at hk, if_neg hi]; exact h1)
/-- A lock that is wanted and not free has a holder above. -/
theorem fail_top (hl : Lh v gs) (hs : gs[k]? = some s) (ha : s.a < s.cs.length) (hf : v[s.cs[s.a].toNat]? ≠ some 0) : topS s < top gs := by
  have hw := hl.lk.wf k s hs
  have hr := hw.rng s.cs[s.a] (List.getElem_mem ha)
  obtain ⟨j, y, h1, h2⟩ := hl.by_ s.cs[s.a].toNat (by omega) hf
  have h3 := held_top (hl.lk.wf j y h1) h2
  have h4 := top_le h1
  have h5 : topS s < s.cs[s.a].toNat + 1 := by
    unfold topS
    by_cases h0 : s.a = 0
    · rw [if_pos h0]; omega
    · rw [if_neg h0, List.getD_eq_getElem?_getD, List.getElem?_eq_getElem (show s.a - 1 < s.cs.length by omega), Option.getD_some]
      have := List.pairwise_iff_getElem.1 hw.up (s.a - 1) s.a (by omega) ha (by omega)
      have := (hw.rng s.cs[s.a - 1] (List.getElem_mem _)).1
      omega
  simp only [Int.toNat_natCast] at h3
  omega
theorem take_top (hl : Lh v gs) (hs : gs[k]? = some s) (ha : s.a < s.cs.length) (hf : v[s.cs[s.a].toNat]? = some 0) (h1 : s'.cs = s.cs) (h2 : s'.a = s.a + 1) : topS s < topS s' ∧ topS s' ≠ top gs := by
  have hw := hl.lk.wf k s hs
  have hr := hw.rng s.cs[s.a] (List.getElem_mem ha)
  have e : topS s' = s.cs[s.a].toNat + 1 := by
    unfold topS
    rw [if_neg (by omega), h1, h2, Nat.add_sub_cancel, List.getD_eq_getElem?_getD, List.getElem?_eq_getElem ha, Option.getD_some]
  refine ⟨?_, fun ht => ?_⟩
  · rw [e]
    unfold topS
    by_cases h0 : s.a = 0
    · rw [if_pos h0]; omega
    · rw [if_neg h0, List.getD_eq_getElem?_getD, List.getElem?_eq_getElem (show s.a - 1 < s.cs.length by omega), Option.getD_some]
      have := List.pairwise_iff_getElem.1 hw.up (s.a - 1) s.a (by omega) ha (by omega)
      have := (hw.rng s.cs[s.a - 1] (List.getElem_mem _)).1
      omega
  · obtain ⟨i, x, g1, g2⟩ := top_at (gs := gs) (by omega)
    have h3 := (top_held (hl.lk.wf i x g1) (by omega)).1
    have h4 := hl.lk.own i x g1 _ h3
    rw [show (((topS x - 1 : Nat) : Int)).toNat = s.cs[s.a].toNat by omega, hf, (hl.lk.wf i x g1).who] at h4
    have := Option.some.inj h4
    omega
theorem J_step (hl : Lh v gs) (hk : k < gs.length) (hs : gs[k]? = some s) (h : St v gs s s') (n1 : ¬ fin s) (n2 : ¬ fin s') (hj : J gs) : J (gs.set k s') ∧ top gs ≤ top (gs.set k s') := by
  have hw := hl.lk.wf k s hs
  have fromGe : top gs ≤ top (gs.set k s') → (s'.ph = 1 ∨ topS s' < top (gs.set k s')) → J (gs.set k s') ∧ top gs ≤ top (gs.set k s') := fun hge hme => by
    refine ⟨fun i x hx h0 ht => ?_, hge⟩
    rw [set_at hk] at hx
    split at hx
    · cases hx
      rcases hme with h | h
      · exact h
      · omega
    · have := top_le hx
      exact hj i x hx (by omega) (by omega)
  cases h with
  | take h ha hf _ h1 h2 h3 =>
    obtain ⟨t1, t2⟩ := take_top hl hs ha hf h1 h2
    refine fromGe (top_set_ge hk hs (.inr (by omega))) (.inl ?_)
    rcases h3 with ⟨_, h3⟩ | ⟨_, h3⟩
    · exact absurd (.inl h3) n2
    · exact h3
  | fail h ha hf _ h1 h2 h3 =>
    have ht := fail_top hl hs ha hf
    have e : topS s' = topS s := by unfold topS; rw [h1, h2]
    have hge := top_set_ge (s' := s') hk hs (.inl ht)
    exact fromGe hge (.inr (by omega))
  | free h => exact absurd (.inl h) n1
  | back h _ h1 h2 h3 =>
    have hlt := topS_lt hw h1 h2
    have h4 := top_le hs
    have h5 : topS s ≠ top gs := fun e => by
      have := hj k s hs (by omega) e
      omega
    have hge := top_set_ge (s' := s') hk hs (.inl (by omega))
    exact fromGe hge (.inr (by omega))
  | goes h => exact absurd (.inr h) n1
  | done h =>
    have e : gs.set k s = gs := by
      apply List.ext_getElem?
      intro i
      rw [set_at hk]
      split
      · rename_i e; subst e; exact hs.symm
      · rfl
    rw [e]
    exact ⟨hj, Nat.le_refl _⟩
theorem up_step (hl : Lh v gs) (hk : k < gs.length) (hs : gs[k]? = some s) (h : St v gs s s') (n1 : ¬ fin s) (hj : J gs) (hc : (0 < top gs ∧ topS s = top gs) ∨ (top gs = 0 ∧ s.ph ≠ 5)) : top gs < top (gs.set k s') := by
  have hw := hl.lk.wf k s hs
  have hle := top_le hs
  have me : topS s' ≤ top (gs.set k s') := top_le (i := k) (by rw [set_at hk, if_pos rfl])
  have hp : s.ph = 1 := by
    rcases hc with ⟨c1, c2⟩ | ⟨c1, c2⟩
    · exact hj k s hs c1 c2
    · rcases hw.ph with ⟨p, _⟩ | ⟨p, _⟩ | ⟨p, q⟩ | ⟨p, _⟩ | ⟨p, _⟩
      · exact p
      · exact absurd (.inl p) n1
      · exfalso
        unfold topS at hle
        rw [if_neg (by omega)] at hle
        omega
      · exact absurd (.inr p) n1
      · exact absurd p c2
  cases h with
  | take h ha hf _ h1 h2 h3 =>
    obtain ⟨t1, t2⟩ := take_top hl hs ha hf h1 h2
    rcases hc with ⟨c1, c2⟩ | ⟨c1, c2⟩ <;> omega
  | fail h ha hf _ h1 h2 h3 =>
    have ht := fail_top hl hs ha hf
    rcases hc with ⟨c1, c2⟩ | ⟨c1, c2⟩ <;> omega
  | free h => omega
  | back h => omega
  | goes h => omega
  | done h => omega
theorem N_step (hl : Lh v gs) (hk : k < gs.length) (hs : gs[k]? = some s) (h : St v gs s s') (n1 : ¬ fin s) (n2 : ¬ fin s') : J (gs.set k s') ∨ top (gs.set k s') ≤ top gs := by
  have hw := hl.lk.wf k s hs
  have hle := top_le hs
  cases h with
  | take h ha hf _ h1 h2 h3 =>
    obtain ⟨t1, t2⟩ := take_top hl hs ha hf h1 h2
    have hp : s'.ph = 1 := by
      rcases h3 with ⟨_, h3⟩ | ⟨_, h3⟩
      · exact absurd (.inl h3) n2
      · exact h3
    by_cases hb : topS s' < top gs
    · exact .inr (top_set_le hk hs (by omega))
    · refine .inl fun i x hx h0 ht => ?_
      rw [set_at hk] at hx
      split at hx
      · cases hx; exact hp
      · have := top_le hx
        have me : topS s' ≤ top (gs.set k s') := top_le (i := k) (by rw [set_at hk, if_pos rfl])
        omega
  | fail h ha hf _ h1 h2 h3 => exact .inr (top_set_le hk hs (Nat.le_trans (topS_le hw h1 (by omega)) hle))
  | free h => exact absurd (.inl h) n1
  | back h _ h1 h2 h3 => exact .inr (top_set_le hk hs (Nat.le_trans (topS_le hw h1 (by omega)) hle))
  | goes h => exact absurd (.inr h) n1
  | done h => exact .inr (top_set_le hk hs hle)
theorem down_step (hl : Lh v gs) (hk : k < gs.length) (hs : gs[k]? = some s) (h : St v gs s s') (hp : s.ph = 3) (ht : topS s = top gs) (h0 : 0 < top gs) : top (gs.set k s') < top gs := by
  have hw := hl.lk.wf k s hs
  cases h with
  | back h _ h1 h2 h3 =>
    have hlt := topS_lt hw h1 h2
    have : top (gs.set k s') ≤ top gs - 1 := by
      refine top_lub fun i x hx => ?_
      rw [set_at hk] at hx
      split at hx
      · cases hx; omega
      · rename_i hne
        have h4 := top_le hx
        have h5 : topS x ≠ top gs := fun e => hne (one_top hl.lk hx hs (by omega) (by omega))
        omega
    omega
  | take h => omega
  | fail h => omega
  | free h => omega
  | goes h => omega
  | done h => omega
end
/-- A round from the k-th on. -/
inductive Run : Nat → List Int → List S → List Int → List S → Prop where
  | nil {k : Nat} {v : List Int} {gs : List S} (h : k = gs.length) : Run k v gs v gs
  | cons {k : Nat} {v v' : List Int} {gs : List S} {s s' : S} {v2 : List Int} {gs2 : List S} (hk : k < gs.length) (hs : gs[k]? = some s) (h : St v gs s s') (hl : Lh v gs) (r : Run (k + 1) v' (gs.set k s') v2 gs2) : Run k v gs v2 gs2
theorem Run.len {k : Nat} {v v2 : List Int} {gs gs2 : List S} (r : Run k v gs v2 gs2) : gs2.length = gs.length := by
  induction r with
  | nil h => rfl
  | cons hk hs h hl r ih => rw [ih, List.length_set]
theorem Run.keep {k : Nat} {v v2 : List Int} {gs gs2 : List S} (r : Run k v gs v2 gs2) : ∀ i, i < k → gs2[i]? = gs[i]? := by
  induction r with
  | nil h => intro i _; rfl
  | cons hk hs h hl r ih =>
    intro i hi
    rw [ih i (by omega), set_at hk, if_neg (by omega)]
theorem Run.done {k : Nat} {v v2 : List Int} {gs gs2 : List S} (r : Run k v gs v2 gs2) : ∀ (i : Nat) (s : S), gs[i]? = some s → s.ph = 5 → gs2[i]? = some s := by
  induction r with
  | nil h => intro i s hs _; exact hs
  | cons hk hs h hl r ih =>
    intro i x hx hp
    refine ih i x ?_ hp
    rw [set_at hk]
    split
    · rename_i e
      subst e
      rw [hs] at hx
      cases hx
      cases h with
      | done h => rfl
      | take h => omega
      | fail h => omega
      | free h => omega
      | back h => omega
      | goes h => omega
    · exact hx
theorem Run.ends {k : Nat} {v v2 : List Int} {gs gs2 : List S} (r : Run k v gs v2 gs2) : ∀ (i : Nat) (s : S), k ≤ i → gs[i]? = some s → fin s → ∃ s2, gs2[i]? = some s2 ∧ (s2.ph = 5 ∨ (fin s2 ∧ left s2 + 1 = left s)) := by
  induction r with
  | nil h =>
    intro i s hi hs _
    have := (List.getElem?_eq_some_iff.1 hs).1
    omega
  | @cons k v v' gs s s' v2 gs2 hk hs h hl r ih =>
    intro i x hi hx hf
    by_cases e : i = k
    · subst e
      rw [hs] at hx
      cases hx
      refine ⟨s', by rw [r.keep i (by omega), set_at hk, if_pos rfl], ?_⟩
      rcases hf with hf | hf
      · cases h with
        | free h _ h1 h2 h3 =>
          rcases h3 with ⟨h3, h4⟩ | ⟨h3, h4⟩
          · exact .inl h4
          · refine .inr ⟨.inr h4, ?_⟩
            unfold left
            rw [if_neg (by omega), if_pos hf, h2]
        | take h => omega
        | fail h => omega
        | back h => omega
        | goes h => omega
        | done h => omega
      · cases h with
        | goes h _ h1 h2 h3 =>
          rcases h3 with ⟨h3, h4⟩ | ⟨h3, h4⟩
          · exact .inl h4
          · refine .inr ⟨.inr h4, ?_⟩
            unfold left
            rw [if_neg (by omega), if_neg (by omega), h2]
        | take h => omega
        | fail h => omega
        | free h => omega
        | back h => omega
        | done h => omega
    · exact ih i x (by omega) (by rw [set_at hk, if_neg e]; exact hx) hf
theorem Run.nofin {k : Nat} {v v2 : List Int} {gs gs2 : List S} (r : Run k v gs v2 gs2) (n2 : ∀ (i : Nat) (s : S), gs2[i]? = some s → ¬ fin s) (n1 : ∀ (i : Nat) (s : S), gs[i]? = some s → ¬ fin s) :
    (J gs → J gs2 ∧ top gs ≤ top gs2 ∧ ((∃ (p : Nat) (s : S), k ≤ p ∧ gs[p]? = some s ∧ ((0 < top gs ∧ topS s = top gs) ∨ (top gs = 0 ∧ s.ph ≠ 5))) → top gs < top gs2)) := by
  induction r with
  | nil h =>
    intro hj
    refine ⟨hj, Nat.le_refl _, fun ⟨p, s, h1, h2, _⟩ => ?_⟩
    have := (List.getElem?_eq_some_iff.1 h2).1
    omega
  | @cons k v v' gs s s' v2 gs2 hk hs h hl r ih =>
    intro hj
    have m1 := n1 k s hs
    have m2 : ¬ fin s' := n2 k s' (by rw [r.keep k (by omega), set_at hk, if_pos rfl])
    obtain ⟨j1, j2⟩ := J_step hl hk hs h m1 m2 hj
    have n3 : ∀ (i : Nat) (x : S), (gs.set k s')[i]? = some x → ¬ fin x := fun i x hx => by
      rw [set_at hk] at hx
      split at hx
      · cases hx; exact m2
      · exact n1 i x hx
    obtain ⟨i1, i2, i3⟩ := ih n2 n3 j1
    refine ⟨i1, by omega, fun ⟨p, x, p1, p2, p3⟩ => ?_⟩
    by_cases e : p = k
    · subst e
      rw [hs] at p2
      cases p2
      have := up_step hl hk hs h m1 hj p3
      omega
    · by_cases hup : top gs < top (gs.set k s')
      · omega
      · have heq : top (gs.set k s') = top gs := by omega
        have := i3 ⟨p, x, by omega, by rw [set_at hk, if_neg e]; exact p2, by rw [heq]; exact p3⟩
        omega
theorem Run.noJ {k : Nat} {v v2 : List Int} {gs gs2 : List S} (r : Run k v gs v2 gs2) (n2 : ∀ (i : Nat) (s : S), gs2[i]? = some s → ¬ fin s) (n1 : ∀ (i : Nat) (s : S), gs[i]? = some s → ¬ fin s) :
    (J gs2 ∨ (top gs2 ≤ top gs ∧ ((∃ (p : Nat) (s : S), k ≤ p ∧ gs[p]? = some s ∧ 0 < top gs ∧ topS s = top gs ∧ s.ph = 3) → top gs2 < top gs))) := by
  induction r with
  | nil h =>
    refine .inr ⟨Nat.le_refl _, fun ⟨p, s, h1, h2, _⟩ => ?_⟩
    have := (List.getElem?_eq_some_iff.1 h2).1
    omega
  | @cons k v v' gs s s' v2 gs2 hk hs h hl r ih =>
    have m1 := n1 k s hs
    have m2 : ¬ fin s' := n2 k s' (by rw [r.keep k (by omega), set_at hk, if_pos rfl])
    have n3 : ∀ (i : Nat) (x : S), (gs.set k s')[i]? = some x → ¬ fin x := fun i x hx => by
      rw [set_at hk] at hx
      split at hx
      · cases hx; exact m2
      · exact n1 i x hx
    rcases N_step hl hk hs h m1 m2 with hj | hle
    · exact .inl (r.nofin n2 n3 hj).1
    · rcases ih n2 n3 with hj | ⟨i1, i2⟩
      · exact .inl hj
      · refine .inr ⟨by omega, fun ⟨p, x, p1, p2, p3, p4, p5⟩ => ?_⟩
        by_cases e : p = k
        · subst e
          rw [hs] at p2
          cases p2
          have := down_step hl hk hs h p5 p4 p3
          omega
        · by_cases hdn : top (gs.set k s') < top gs
          · omega
          · have heq : top (gs.set k s') = top gs := by omega
            have := i2 ⟨p, x, by omega, by rw [set_at hk, if_neg e]; exact p2, by rw [heq]; exact p3, by rw [heq]; exact p4, p5⟩
            omega
end Grabs
end Go.AI
