/-
  Own work. grab's laws: in so many rounds all are done.
-/
import Derived.Test.YtcfglafjemagpaaGrab5
namespace Go.AI
open Go
set_option linter.unusedVariables false
set_option linter.unusedSimpArgs false
namespace Grabs
open Kit

def all5 (gs : List S) : Prop := ∀ (i : Nat) (s : S), gs[i]? = some s → s.ph = 5
def nd (gs : List S) : Nat := gs.countP fun s => s.ph != 5
theorem nd_le : ∀ {gs gs2 : List S}, gs2.length = gs.length → (∀ (i : Nat) (s s2 : S), gs[i]? = some s → gs2[i]? = some s2 → s.ph = 5 → s2.ph = 5) → nd gs2 ≤ nd gs ∧ ((∃ (i : Nat) (s s2 : S), gs[i]? = some s ∧ gs2[i]? = some s2 ∧ s.ph ≠ 5 ∧ s2.ph = 5) → nd gs2 < nd gs)
  | [], [], _, _ => ⟨Nat.le_refl _, fun ⟨i, s, _, h, _⟩ => by simp at h⟩
  | a :: gs, b :: gs2, hl, h => by
    obtain ⟨i1, i2⟩ := nd_le (gs := gs) (gs2 := gs2) (by simpa using hl) fun i s s2 h1 h2 => h (i + 1) s s2 (by simpa using h1) (by simpa using h2)
    have h0 := h 0 a b rfl rfl
    simp only [nd, List.countP_cons, bne_iff_ne, ne_eq] at i1 i2 ⊢
    constructor
    · by_cases ha : a.ph = 5
      · have := h0 ha; simp only [ha, this]; simp; omega
      · by_cases hb : b.ph = 5 <;> simp [ha, hb] <;> omega
    · rintro ⟨i, s, s2, h1, h2, h3, h4⟩
      cases i with
      | zero =>
        simp only [List.getElem?_cons_zero, Option.some.injEq] at h1 h2
        subst h1; subst h2
        simp [h3, h4]
        omega
      | succ i =>
        have := i2 ⟨i, s, s2, by simpa using h1, by simpa using h2, h3, h4⟩
        by_cases ha : a.ph = 5
        · have := h0 ha; simp only [ha, this]; simp; omega
        · by_cases hb : b.ph = 5 <;> simp [ha, hb] <;> omega
theorem nd_zero {gs : List S} (h : nd gs = 0) : all5 gs := by
  intro i s hs
  unfold nd at h
  rw [List.countP_eq_zero] at h
  have := h s (List.mem_of_getElem? hs)
  simpa using this
/-- In so many rounds all are done. -/
def W : Nat → List Int → List S → Prop
  | 0, _, gs => all5 gs
  | n + 1, v, gs => all5 gs ∨ ∀ v2 gs2, Run 0 v gs v2 gs2 → Lh v2 gs2 → W n v2 gs2
theorem W.succ : ∀ {n : Nat} {v : List Int} {gs : List S}, W n v gs → W (n + 1) v gs
  | 0, v, gs, h => .inl h
  | n + 1, v, gs, h => by
    rcases h with h | h
    · exact .inl h
    · exact .inr fun v2 gs2 r hl => (h v2 gs2 r hl).succ
theorem W.mono {n m : Nat} (h : n ≤ m) {v : List Int} {gs : List S} (hw : W n v gs) : W m v gs := by
  induction h with
  | refl => exact hw
  | step _ ih => exact ih.succ
theorem run_nd {v v2 : List Int} {gs gs2 : List S} (r : Run 0 v gs v2 gs2) : nd gs2 ≤ nd gs ∧ ((∃ (i : Nat) (s s2 : S), gs[i]? = some s ∧ gs2[i]? = some s2 ∧ s.ph ≠ 5 ∧ s2.ph = 5) → nd gs2 < nd gs) :=
  nd_le r.len fun i s s2 h1 h2 h5 => by
    have := r.done i s h1 h5
    rw [this] at h2
    cases h2
    exact h5
theorem left_le {i : Nat} {s : S} (hw : Wf i s) : left s ≤ 11 := by
  have := hw.le
  have := hw.few
  unfold left
  split <;> omega
theorem top_small {v : List Int} {gs : List S} (h : Lk v gs) : top gs ≤ 8 := by
  rcases Nat.eq_zero_or_pos (top gs) with h0 | h0
  · omega
  · obtain ⟨i, s, h1, h2⟩ := top_at h0
    have := (top_held (h.wf i s h1) (by omega)).2
    omega
theorem within_fin (D : Nat) (ih : ∀ v gs, Lh v gs → nd gs ≤ D → W (D * 30) v gs) : ∀ (r : Nat) (v : List Int) (gs : List S), Lh v gs → nd gs ≤ D + 1 → (∃ (i : Nat) (s : S), gs[i]? = some s ∧ fin s ∧ left s ≤ r) → W (D * 30 + r) v gs
  | 0, v, gs, hl, hn, ⟨i, s, h1, h2, h3⟩ => by
    exfalso
    have hw := hl.lk.wf i s h1
    unfold left at h3
    rcases h2 with h2 | h2
    · rw [if_pos h2] at h3; omega
    · rw [if_neg (by omega)] at h3
      rcases hw.ph with ⟨p, q⟩ | ⟨p, q⟩ | ⟨p, q⟩ | ⟨p, q⟩ | ⟨p, q⟩ <;> omega
  | r + 1, v, gs, hl, hn, ⟨i, s, h1, h2, h3⟩ => by
    refine .inr fun v2 gs2 run hl2 => ?_
    show W (D * 30 + r) v2 gs2
    obtain ⟨n1, n2⟩ := run_nd run
    obtain ⟨s2, g1, g2⟩ := run.ends i s (Nat.zero_le _) h1 h2
    rcases g2 with g2 | ⟨g2, g3⟩
    · have := n2 ⟨i, s, s2, h1, g1, by rcases h2 with h2 | h2 <;> omega, g2⟩
      exact (ih v2 gs2 hl2 (by omega)).mono (by omega)
    · exact within_fin D ih r v2 gs2 hl2 (by omega) ⟨i, s2, g1, g2, by omega⟩
theorem some_fin (gs : List S) : (∃ (i : Nat) (s : S), gs[i]? = some s ∧ fin s) ∨ ∀ (i : Nat) (s : S), gs[i]? = some s → ¬ fin s := by
  rcases Classical.em (∃ (i : Nat) (s : S), gs[i]? = some s ∧ fin s) with h | h
  · exact .inl h
  · exact .inr fun i s h1 h2 => h ⟨i, s, h1, h2⟩
theorem within_J (D : Nat) (ih : ∀ v gs, Lh v gs → nd gs ≤ D → W (D * 30) v gs) : ∀ (m : Nat) (v : List Int) (gs : List S), Lh v gs → nd gs ≤ D + 1 → (∀ (i : Nat) (s : S), gs[i]? = some s → ¬ fin s) → J gs → 8 - top gs ≤ m → W (D * 30 + 12 + m) v gs := by
  intro m
  induction m with
  | zero =>
    intro v gs hl hn hnf hj hm
    rcases Classical.em (all5 gs) with h5 | h5
    · exact .inl h5
    refine W.mono (n := D * 30 + 11 + 1) (by omega) (.inr fun v2 gs2 run hl2 => ?_)
    obtain ⟨n1, _⟩ := run_nd run
    rcases some_fin gs2 with ⟨i, s, f1, f2⟩ | hnf2
    · exact within_fin D ih 11 v2 gs2 hl2 (by omega) ⟨i, s, f1, f2, left_le (hl2.lk.wf i s f1)⟩
    · exfalso
      have ht := top_small hl.lk
      have ht2 := top_small hl2.lk
      obtain ⟨i, s, t1, t2⟩ := top_at (gs := gs) (by omega)
      have := (run.nofin hnf2 hnf hj).2.2 ⟨i, s, Nat.zero_le _, t1, .inl ⟨by omega, t2⟩⟩
      omega
  | succ m ihm =>
    intro v gs hl hn hnf hj hm
    rcases Classical.em (all5 gs) with h5 | h5
    · exact .inl h5
    refine .inr fun v2 gs2 run hl2 => ?_
    show W (D * 30 + 12 + m) v2 gs2
    obtain ⟨n1, _⟩ := run_nd run
    rcases some_fin gs2 with ⟨i, s, f1, f2⟩ | hnf2
    · exact (within_fin D ih 11 v2 gs2 hl2 (by omega) ⟨i, s, f1, f2, left_le (hl2.lk.wf i s f1)⟩).mono (by omega)
    · obtain ⟨j1, j2, j3⟩ := run.nofin hnf2 hnf hj
      have hup : top gs < top gs2 := by
        refine j3 ?_
        rcases Nat.eq_zero_or_pos (top gs) with h0 | h0
        · have : ∃ (i : Nat) (s : S), gs[i]? = some s ∧ s.ph ≠ 5 := by
            refine Classical.byContradiction fun hno => h5 fun i s hs => ?_
            refine Classical.byContradiction fun hp => hno ⟨i, s, hs, hp⟩
          obtain ⟨i, s, t1, t2⟩ := this
          exact ⟨i, s, Nat.zero_le _, t1, .inr ⟨h0, t2⟩⟩
        · obtain ⟨i, s, t1, t2⟩ := top_at h0
          exact ⟨i, s, Nat.zero_le _, t1, .inl ⟨h0, t2⟩⟩
      exact ihm v2 gs2 hl2 (by omega) hnf2 j1 (by omega)
theorem within_N (D : Nat) (ih : ∀ v gs, Lh v gs → nd gs ≤ D → W (D * 30) v gs) : ∀ (m : Nat) (v : List Int) (gs : List S), Lh v gs → nd gs ≤ D + 1 → (∀ (i : Nat) (s : S), gs[i]? = some s → ¬ fin s) → top gs ≤ m → W (D * 30 + 20 + m) v gs := by
  intro m
  induction m with
  | zero =>
    intro v gs hl hn hnf hm
    refine (within_J D ih 8 v gs hl hn hnf (fun i s hs h0 => by omega) (by omega)).mono (by omega)
  | succ m ihm =>
    intro v gs hl hn hnf hm
    rcases Classical.em (J gs) with hj | hj
    · exact (within_J D ih 8 v gs hl hn hnf hj (by omega)).mono (by omega)
    refine .inr fun v2 gs2 run hl2 => ?_
    show W (D * 30 + 20 + m) v2 gs2
    obtain ⟨n1, _⟩ := run_nd run
    rcases some_fin gs2 with ⟨i, s, f1, f2⟩ | hnf2
    · exact (within_fin D ih 11 v2 gs2 hl2 (by omega) ⟨i, s, f1, f2, left_le (hl2.lk.wf i s f1)⟩).mono (by omega)
    · rcases run.noJ hnf2 hnf with hj2 | ⟨q1, q2⟩
      · exact (within_J D ih 8 v2 gs2 hl2 (by omega) hnf2 hj2 (by omega)).mono (by omega)
      · have hdn : top gs2 < top gs := by
          refine q2 ?_
          refine Classical.byContradiction fun hno => hj fun i s hs h0 ht => ?_
          have hw := hl.lk.wf i s hs
          have hnfs := hnf i s hs
          rcases hw.ph with ⟨p, q⟩ | ⟨p, q⟩ | ⟨p, q⟩ | ⟨p, q⟩ | ⟨p, q⟩
          · exact p
          · exact absurd (.inl p) hnfs
          · exact absurd ⟨i, s, Nat.zero_le _, hs, h0, ht, p⟩ hno
          · exact absurd (.inr p) hnfs
          · unfold topS at ht
            rw [if_pos q] at ht
            omega
        exact ihm v2 gs2 hl2 (by omega) hnf2 (by omega)
theorem within : ∀ (D : Nat) (v : List Int) (gs : List S), Lh v gs → nd gs ≤ D → W (D * 30) v gs := by
  intro D
  induction D with
  | zero => intro v gs hl hn; exact nd_zero (by omega)
  | succ D ih =>
    intro v gs hl hn
    rcases some_fin gs with ⟨i, s, f1, f2⟩ | hnf
    · exact (within_fin D ih 11 v gs hl hn ⟨i, s, f1, f2, left_le (hl.lk.wf i s f1)⟩).mono (by omega)
    · exact (within_N D ih 8 v gs hl hn hnf (top_small hl.lk)).mono (by omega)
theorem enough {v : List Int} {gs : List S} (hl : Lh v gs) : W 180 v gs := by
  have : nd gs ≤ 6 := Nat.le_trans List.countP_le_length hl.lk.few
  exact within 6 v gs hl this
end Grabs
end Go.AI
