/-
  Own work. The ghosts' laws: GhostSteps, GhostRuns, GhostParts.
-/
import Derived.Test.YtjjchnnnchccgaaGhost4
namespace Go.AI
open Go
set_option linter.unusedVariables false
set_option linter.unusedSimpArgs false
namespace Ghost
open Kit
theorem born_err {g : G} {k : K} {u : Int} (h : (born g k u).2 ≠ 0) : (born g k u).1 = g := by
  unfold born at h ⊢
  split
  · rfl
  · rename_i h1; rw [if_neg h1] at h; exact absurd rfl h
theorem addS_err {g : G} {b : B} (h : (addS g b).2 ≠ 0) : (addS g b).1 = g := by
  by_cases hx : good g = false ∨ bad b
  · rw [add_bad hx]
  have hg : good g = true := by cases hg : good g with | false => exact absurd (.inl hg) hx | true => rfl
  have hb : ¬ bad b := fun e => hx (.inr e)
  rcases kinds hb with h1 | h1 | h1 | h1
  · rw [add_root hg hb h1] at h ⊢
    split at h
    · rename_i h2; rw [if_pos h2]
    · rename_i h2; rw [if_neg h2]; exact born_err h
  · rw [add_two hg hb (.inl h1)] at h ⊢
    split at h
    · rename_i h2; rw [if_pos h2]
    · rename_i h2; rw [if_neg h2]
      split at h
      · rename_i h3; rw [if_pos h3]
      · rename_i h3; rw [if_neg h3]
        split at h
        · exact absurd rfl h
        · rename_i h4; rw [if_neg h4]; exact born_err h
  · rw [add_two hg hb (.inr h1)] at h ⊢
    split at h
    · rename_i h2; rw [if_pos h2]
    · rename_i h2; rw [if_neg h2]
      split at h
      · rename_i h3; rw [if_pos h3]
      · rename_i h3; rw [if_neg h3]
        exact absurd rfl h
  · rw [add_die hg hb h1] at h ⊢
    split at h
    · rename_i h2; rw [if_pos h2]
    · exact absurd rfl h
theorem del_sub {α : Type} (l : List α) (i : Nat) : (del l i).Sublist l := by
  unfold del
  have h : (l.drop (i + 1)).Sublist (l.drop i) := by
    rw [← List.drop_drop]
    exact List.drop_sublist _ _
  have := List.Sublist.append (List.Sublist.refl (l.take i)) h
  rwa [List.take_append_drop] at this
theorem del_len {α : Type} (l : List α) (i : Nat) (h : i < l.length) : (del l i).length = l.length - 1 := by
  unfold del
  simp only [List.length_append, List.length_take, List.length_drop]
  omega
theorem nodup_set {α : Type} {l : List α} (h : l.Nodup) {a : α} (ha : a ∉ l) (i : Nat) : (l.set i a).Nodup := by
  refine List.pairwise_iff_getElem.2 fun j k hj hk hjk => ?_
  rw [List.length_set] at hj hk
  have hp := List.pairwise_iff_getElem.1 h j k hj hk hjk
  rw [List.getElem_set, List.getElem_set]
  split
  · split
    · omega
    · intro e; exact ha (e ▸ List.getElem_mem hk)
  · split
    · intro e; exact ha (e ▸ List.getElem_mem hj)
    · exact hp
theorem born_good {g : G} (h : GoodP g) {k : K} (hk : kOK k = true) (hn : k ∉ g.keys) {u : Int} (hu : -1 ≤ u ∧ u < (g.from_.length : Int)) : GoodP (born g k u).1 := by
  unfold born
  split
  · exact h
  · rename_i hm
    refine ⟨?_, ?_, ?_, ?_, ?_, ?_, ?_⟩
    · simp only [List.length_append, List.length_cons, List.length_nil, h.len]
    · simp only [List.length_append, List.length_cons, List.length_nil]; omega
    · intro j v hj
      simp only at hj
      rw [List.getElem?_append] at hj
      split at hj
      · exact h.up j v hj
      · rename_i hl
        have hv : v ∈ [u] := List.mem_of_getElem? hj
        have e : v = u := by simpa using hv
        rw [e]
        refine ⟨hu.1, ?_⟩
        omega
    · intro x hx
      rcases List.mem_append.1 hx with hx | hx
      · exact h.kok x hx
      · have e : x = k := by simpa using hx
        rw [e]; exact hk
    · exact List.nodup_append.2 ⟨h.knd, by simp, fun a ha b hb => by
        have e : b = k := by simpa using hb
        rw [e]; exact fun e2 => hn (e2 ▸ ha)⟩
    · intro d hd
      simp only [List.length_append, List.length_cons, List.length_nil]
      rcases List.mem_append.1 hd with hd | hd
      · have := h.dok d hd; omega
      · have e : d = (g.from_.length : Int) := by simpa using hd
        rw [e]; omega
    · exact List.nodup_append.2 ⟨h.dnd, by simp, fun a ha b hb => by
        have e : b = (g.from_.length : Int) := by simpa using hb
        have := h.dok a ha
        rw [e]; omega⟩
theorem bad_key {b : B} (h : ¬ bad b) : kOK b.key = true := by
  cases hk : kOK b.key with
  | true => rfl
  | false => exact absurd (.inr (.inr (.inl hk))) h
theorem addS_good {g : G} (hg : good g = true) (b : B) : good (addS g b).1 = true := by
  by_cases hb : bad b
  · rw [add_bad (.inr hb)]; exact hg
  have h := good_iff.1 hg
  refine good_iff.2 ?_
  have new : ¬ 0 ≤ idx g.keys b.key → b.key ∉ g.keys := fun hx => by
    rcases idx_cases g.keys b.key with ⟨_, h2⟩ | ⟨k, _, h2, _⟩
    · exact h2
    · omega
  have two : ¬ idx g.keys b.from_ < 0 → ∃ k, idx g.keys b.from_ = (k : Nat) ∧ k < g.keys.length := fun hx => by
    rcases idx_cases g.keys b.from_ with ⟨h2, _⟩ | ⟨k, hk, h2, _⟩
    · omega
    · exact ⟨k, h2, hk⟩
  have set_good : ∀ k, b.key ∉ g.keys → GoodP ⟨g.keys.set k b.key, g.ids, g.from_⟩ := fun k hn =>
    ⟨by show (g.keys.set k b.key).length = _; rw [List.length_set]; exact h.len, h.max, h.up, fun x hx => by
      rcases List.mem_or_eq_of_mem_set hx with hx | hx
      · exact h.kok x hx
      · rw [hx]; exact bad_key hb, nodup_set h.knd hn k, h.dok, h.dnd⟩
  rcases kinds hb with h1 | h1 | h1 | h1
  · rw [add_root hg hb h1]
    split
    · exact h
    · rename_i h3
      exact born_good h (bad_key hb) (new h3) ⟨Int.le_refl _, by omega⟩
  · rw [add_two hg hb (.inl h1)]
    split
    · exact h
    · rename_i h2
      obtain ⟨k, h4, h5⟩ := two h2
      split
      · exact h
      · rename_i h3
        rw [if_neg (by omega)]
        have hkd : k < g.ids.length := by rw [← h.len]; exact h5
        have := h.dok (g.ids[k]) (List.getElem_mem hkd)
        refine born_good h (bad_key hb) (new h3) ?_
        rw [h4, Int.toNat_natCast, show g.ids.getD k 0 = g.ids[k] by simp [List.getD, hkd]]
        omega
  · rw [add_two hg hb (.inr h1)]
    split
    · exact h
    · split
      · exact h
      · rename_i h3
        exact set_good _ (new h3)
  · rw [add_die hg hb h1]
    split
    · exact h
    · rename_i h2
      rcases idx_cases g.keys b.key with ⟨h5, _⟩ | ⟨k, hk, h5, _⟩
      · omega
      rw [h5, Int.toNat_natCast]
      exact ⟨by show (del g.keys k).length = (del g.ids k).length; rw [del_len _ _ hk, del_len _ _ (by rw [← h.len]; exact hk), h.len], h.max, h.up, fun x hx => h.kok x ((del_sub _ _).subset hx), (del_sub _ _).nodup h.knd, fun x hx => h.dok x ((del_sub _ _).subset hx), (del_sub _ _).nodup h.dnd⟩
theorem runF_good : ∀ (l : List B) (g : G) (n : Int), good g = true → good (runF g n l).1 = true
  | [], g, n, h => h
  | b :: l, g, n, h => by
    rw [runF]
    split
    · exact runF_good l _ _ (addS_good h b)
    · exact runF_good l _ _ h
theorem g0_good : good g0 = true := rfl
theorem run_good (l : List B) : good (runS l).1 = true := runF_good l g0 0 g0_good
theorem runF_append : ∀ (l m : List B) (g : G) (n : Int), runF g n (l ++ m) = runF (runF g n l).1 (runF g n l).2 m
  | [], m, g, n => rfl
  | b :: l, m, g, n => by
    rw [List.cons_append, runF, runF]
    split
    · exact runF_append l m _ _
    · exact runF_append l m _ _
theorem run_ok (l : List B) (hl : l.length < 1000000) : ghost_Run.R (l.map encB) = some (tA (runS l)) := by
  refine ghost_Run.start _ _ ?_
  have key : ∀ (m i : Nat) (g : G) (n : Int), i + m = l.length → good g = true → 0 ≤ n ∧ n ≤ i →
      ghost_Run.H3 n (l.map encB) l.length i (g.keys.map encK) (g.ids.map ei) (g.from_.map ei) (tA (runF g n (l.drop i))) := by
    intro m
    induction m with
    | zero =>
      intro i g n hi hg hn
      refine ghost_Run.H3_step _ _ _ _ _ _ _ _ ?_
      rw [decide_eq_false (by omega), List.drop_eq_nil_of_le (by omega)]
      rfl
    | succ m ih =>
      intro i g n hi hg hn
      refine ghost_Run.H3_step _ _ _ _ _ _ _ _ ?_
      have hil : i < l.length := by omega
      have hw : IntKind.i64.wrap (n + 1) = n + 1 := wrap_id (by omega) (by omega)
      rw [decide_eq_true (by omega), List.drop_eq_getElem_cons hil, runF]
      simp only [cT, needs_nat, Int.toNat_natCast, map_get _ _ _ hil, optAll_so, b0_, b1_, b2_, b3_, b4_, add_ok g l[i] (good_small hg), hw, wrap_succ (show i < 4611686018427387904 by omega), tA, tG]
      by_cases he : (addS g l[i]).2 = 0
      · rw [if_pos he, show ((addS g l[i]).2 != 0) = false by simpa using he]
        exact ih (i + 1) _ n (by omega) (addS_good hg _) (by omega)
      · rw [if_neg he, show ((addS g l[i]).2 != 0) = true by simpa using he]
        exact ih (i + 1) g (n + 1) (by omega) hg (by omega)
  rw [List.length_map]
  exact key l.length 0 g0 0 (by omega) g0_good (by omega)
theorem rrun_ok (l : List B) (hl : l.length < 1000000) : ref14_Run.R (l.map encB) = some (tA (runS l)) := by
  refine ref14_Run.start _ _ ?_
  have key : ∀ (m i : Nat) (g : G) (n : Int), i + m = l.length → good g = true → 0 ≤ n ∧ n ≤ i →
      ref14_Run.H5 (l.map encB) n i [] [] [] (g.keys.map encK) (g.ids.map ei) (g.from_.map ei) (tA (runF g n (l.drop i))) := by
    intro m
    induction m with
    | zero =>
      intro i g n hi hg hn
      refine ref14_Run.H5_step _ _ _ _ _ _ _ _ _ _ ?_
      rw [decide_eq_false (by simp; omega), List.drop_eq_nil_of_le (by omega)]
      rfl
    | succ m ih =>
      intro i g n hi hg hn
      refine ref14_Run.H5_step _ _ _ _ _ _ _ _ _ _ ?_
      have hil : i < l.length := by omega
      have hw : IntKind.i64.wrap (n + 1) = n + 1 := wrap_id (by omega) (by omega)
      rw [decide_eq_true (by simp; omega), List.drop_eq_getElem_cons hil, runF]
      simp only [cT, needs_nat, Int.toNat_natCast, map_get _ _ _ hil, optAll_so, b0_, b1_, b2_, b3_, b4_, radd_ok g l[i] (good_small hg), hw, wrap_succ (show i < 4611686018427387904 by omega), tA, tG]
      by_cases he : (addS g l[i]).2 = 0
      · rw [if_pos he, show ((addS g l[i]).2 != 0) = false by simpa using he]
        exact ih (i + 1) _ n (by omega) (addS_good hg _) (by omega)
      · rw [if_neg he, show ((addS g l[i]).2 != 0) = true by simpa using he, addS_err he]
        exact ih (i + 1) g (n + 1) (by omega) hg (by omega)
  exact key l.length 0 g0 0 (by omega) g0_good (by omega)
/-! Are two the same? -/
theorem equalK_ok (a b : List K) (ha : a.length < 1000000) : slices_Equal_api_Key_api_Key.R (a.map encK) (b.map encK) = some (decide (a = b), ()) := by
  refine slices_Equal_api_Key_api_Key.start _ _ _ ?_
  simp only [List.length_map, cond_ite, bne_iff_ne]
  by_cases hl : a.length = b.length
  · rw [if_neg (by omega)]
    refine eq_loop a b (fun i c => slices_Equal_api_Key_api_Key.H5 (a.map encK) (b.map encK) a.length i c) hl fun i c h1 h2 => ?_
    refine slices_Equal_api_Key_api_Key.H5_step _ _ _ _ _ ?_
    by_cases hi : i < a.length
    · obtain ⟨g1, g2⟩ := h1 hi
      simp only [List.length_map, cond_ite, decide_eq_true_eq, needs_nat, Int.toNat_natCast, map_get _ _ _ hi, map_get _ _ _ (hl ▸ hi), optAll_so, k0_, k1_, eqK, Bool.not_eq_true', decide_eq_false_iff_not, wrap_succ (show i < 4611686018427387904 by omega)]
      rw [if_pos (by omega)]
      split
      · rename_i h; exact g2 h
      · rename_i h; exact g1 (Decidable.not_not.1 h)
    · simp only [List.length_map, cond_ite, decide_eq_true_eq]
      rw [if_neg (by omega)]
      exact h2 (by omega)
  · rw [if_pos (by omega), decide_eq_false]
    intro e; subst e; exact hl rfl
theorem equalI_ok (a b : List Int) (ha : a.length < 1000000) : slices_Equal_int_int.R (a.map ei) (b.map ei) = some (decide (a = b), ()) := by
  refine slices_Equal_int_int.start _ _ _ ?_
  simp only [List.length_map, cond_ite, bne_iff_ne]
  by_cases hl : a.length = b.length
  · rw [if_neg (by omega)]
    refine eq_loop a b (fun i c => slices_Equal_int_int.H5 (a.map ei) (b.map ei) a.length i c) hl fun i c h1 h2 => ?_
    refine slices_Equal_int_int.H5_step _ _ _ _ _ ?_
    by_cases hi : i < a.length
    · obtain ⟨g1, g2⟩ := h1 hi
      simp only [List.length_map, cond_ite, decide_eq_true_eq, needs_nat, Int.toNat_natCast, map_get _ _ _ hi, map_get _ _ _ (hl ▸ hi), optAll_so, n0_, bne_iff_ne, wrap_succ (show i < 4611686018427387904 by omega)]
      rw [if_pos (by omega)]
      split
      · rename_i h; exact g2 h
      · rename_i h; exact g1 (Decidable.not_not.1 h)
    · simp only [List.length_map, cond_ite, decide_eq_true_eq]
      rw [if_neg (by omega)]
      exact h2 (by omega)
  · rw [if_pos (by omega), decide_eq_false]
    intro e; subst e; exact hl rfl
theorem rsameK_ok (a b : List K) (ha : a.length < 1000000) : ref06_Same.R (a.map encK) (b.map encK) = some (decide (a = b), ()) := by
  refine ref06_Same.start _ _ _ ?_
  simp only [List.length_map, cond_ite, bne_iff_ne]
  by_cases hl : a.length = b.length
  · rw [if_neg (by omega)]
    refine eq_loop a b (fun i c => ref06_Same.H5 (a.map encK) (b.map encK) i c) hl fun i c h1 h2 => ?_
    refine ref06_Same.H5_step _ _ _ _ ?_
    by_cases hi : i < a.length
    · obtain ⟨g1, g2⟩ := h1 hi
      simp only [List.length_map, cond_ite, decide_eq_true_eq, needs_nat, Int.toNat_natCast, map_get _ _ _ hi, map_get _ _ _ (hl ▸ hi), optAll_so, k0_, k1_, eqK, Bool.not_eq_true', decide_eq_false_iff_not, wrap_succ (show i < 4611686018427387904 by omega)]
      rw [if_pos (by omega)]
      split
      · rename_i h; exact g2 h
      · rename_i h; exact g1 (Decidable.not_not.1 h)
    · simp only [List.length_map, cond_ite, decide_eq_true_eq]
      rw [if_neg (by omega)]
      exact h2 (by omega)
  · rw [if_pos (by omega), decide_eq_false]
    intro e; subst e; exact hl rfl
theorem rsameI_ok (a b : List Int) (ha : a.length < 1000000) : ref07_Ints.R (a.map ei) (b.map ei) = some (decide (a = b), ()) := by
  refine ref07_Ints.start _ _ _ ?_
  simp only [List.length_map, cond_ite, bne_iff_ne]
  by_cases hl : a.length = b.length
  · rw [if_neg (by omega)]
    refine eq_loop a b (fun i c => ref07_Ints.H5 (a.map ei) (b.map ei) i c) hl fun i c h1 h2 => ?_
    refine ref07_Ints.H5_step _ _ _ _ ?_
    by_cases hi : i < a.length
    · obtain ⟨g1, g2⟩ := h1 hi
      simp only [List.length_map, cond_ite, decide_eq_true_eq, needs_nat, Int.toNat_natCast, map_get _ _ _ hi, map_get _ _ _ (hl ▸ hi), optAll_so, n0_, bne_iff_ne, wrap_succ (show i < 4611686018427387904 by omega)]
      rw [if_pos (by omega)]
      split
      · rename_i h; exact g2 h
      · rename_i h; exact g1 (Decidable.not_not.1 h)
    · simp only [List.length_map, cond_ite, decide_eq_true_eq]
      rw [if_neg (by omega)]
      exact h2 (by omega)
  · rw [if_pos (by omega), decide_eq_false]
    intro e; subst e; exact hl rfl
theorem eqG (a b : G) : decide (a = b) = (decide (a.keys = b.keys) && (decide (a.ids = b.ids) && decide (a.from_ = b.from_))) := by
  obtain ⟨a1, a2, a3⟩ := a
  obtain ⟨b1, b2, b3⟩ := b
  rw [Bool.eq_iff_iff]
  simp
theorem same_ok (a b : G) (hs : Small a) : ghost_Same.R (a.keys.map encK) (a.ids.map ei) (a.from_.map ei) (b.keys.map encK) (b.ids.map ei) (b.from_.map ei) = some (decide (a = b), ()) := by
  refine ghost_Same.start _ _ _ _ _ _ _ ?_
  simp only [equalK_ok _ _ hs.keys, equalI_ok _ _ hs.ids, equalI_ok _ _ hs.from_, optAll_so]
  rw [eqG]
  cases decide (a.keys = b.keys) <;> cases decide (a.ids = b.ids) <;> rfl
theorem rsame_ok (a b : G) (hs : Small a) : ref14_Same.R (a.keys.map encK) (a.ids.map ei) (a.from_.map ei) (b.keys.map encK) (b.ids.map ei) (b.from_.map ei) = some (decide (a = b), ()) := by
  refine ref14_Same.start _ _ _ _ _ _ _ ?_
  simp only [rsameK_ok _ _ hs.keys, rsameI_ok _ _ hs.ids, rsameI_ok _ _ hs.from_, optAll_so]
  rw [eqG]
  cases decide (a.keys = b.keys) <;> cases decide (a.ids = b.ids) <;> rfl
/-! Laws. -/
def smallB (g : G) : Bool := decide ((g.keys.length : Int) ≤ 80) && (decide ((g.ids.length : Int) ≤ 80) && decide ((g.from_.length : Int) ≤ 160))
theorem small_ok (g : G) : law14_small.R (g.keys.map encK) (g.ids.map ei) (g.from_.map ei) = some (smallB g, ()) := by
  refine law14_small.start _ _ _ _ ?_
  simp only [List.length_map]
  unfold smallB
  cases decide ((g.keys.length : Int) ≤ 80) <;> cases decide ((g.ids.length : Int) ≤ 80) <;> rfl
theorem smallB_small {g : G} (h : smallB g = true) : Small g := by
  unfold smallB at h
  simp only [Bool.and_eq_true, decide_eq_true_eq] at h
  exact ⟨by omega, by omega, by omega⟩
theorem addS_small {g : G} (hs : Small g) (b : B) : Small (addS g b).1 := by
  cases hg : good g
  · rw [add_bad (.inl hg)]; exact hs
  · exact good_small (addS_good hg b)
theorem steps_law (g h : G) (b : B) : law14_GhostSteps.R (g.keys.map encK) (g.ids.map ei) (g.from_.map ei) (h.keys.map encK) (h.ids.map ei) (h.from_.map ei) b.kind b.key.obj b.key.slot b.from_.obj b.from_.slot = some (true, ()) := by
  refine law14_GhostSteps.start _ _ _ _ _ _ _ _ _ _ _ _ ?_
  simp only [small_ok, optAll_so]
  cases h1 : smallB g
  · simp only [live_ok, optAll_so, Bool.not_false, cT]
  cases h2 : smallB h
  · simp only [live_ok, optAll_so, Bool.not_false, Bool.not_true, cT, cF]
  have hs := smallB_small h1
  have hsx := addS_small hs b
  simp only [Bool.not_true, cF, add_ok g b hs, radd_ok g b hs, optAll_so, tA, tG, rsame_ok _ _ hsx, decide_true, cT, num_ok, beq_self_eq_true, check_ok g hs, er_zero, ris_ok g hs, same_ok g h hs, rsame_ok g h hs, live_ok]
theorem runs_law (l : List B) : law14_GhostRuns.R (l.map encB) = some (true, ()) := by
  refine law14_GhostRuns.start _ _ ?_
  simp only [List.length_map]
  by_cases h : (l.length : Int) > 80
  · rw [decide_eq_true h]; simp only [live_ok, optAll_so, cT]
  rw [decide_eq_false h]
  have hg := run_good l
  have hs := good_small hg
  simp only [cF, take_map_len, run_ok l (by omega), rrun_ok l (by omega), optAll_so, tA, tG, rsame_ok _ _ hs, decide_true, cT, beq_self_eq_true, check_ok _ hs, hg, er, num_ok, live_ok, needs_iff]
  exact ⟨by omega, trivial⟩
theorem parts_loop (l m : List B) (hl : l.length ≤ 80) (hm : m.length ≤ 80) (n : Int) (hn : 0 ≤ n ∧ n ≤ 80) : ∀ (r i : Nat) (g : G) (k : Int), i + r = m.length → good g = true → 0 ≤ k ∧ k ≤ i → runF g (n + k) (m.drop i) = runS (l ++ m) →
    law14_GhostParts.H7 (l.map encB) (m.map encB) n k i (g.keys.map encK) (g.ids.map ei) (g.from_.map ei) (true, ()) := by
  intro r
  induction r with
  | zero =>
    intro i g k hi hg hk hr
    refine law14_GhostParts.H7_step _ _ _ _ _ _ _ _ _ ?_
    rw [decide_eq_false (by simp; omega)]
    rw [List.drop_eq_nil_of_le (by omega)] at hr
    have hw : IntKind.i64.wrap (n + k) = n + k := wrap_id (by omega) (by omega)
    have hap : (l.map encB ++ m.map encB).take (l.map encB ++ m.map encB).length = (l ++ m).map encB := by rw [List.take_length, List.map_append]
    have hg2 := good_iff.1 hg
    have h1 := hg2.le
    have h2 := hg2.len
    rw [hap, run_ok (l ++ m) (by rw [List.length_append]; omega), ← hr]
    simp only [runF, optAll_so, tA, tG, same_ok g g (good_small hg), decide_true, cT, cF, hw, beq_self_eq_true, List.length_map, List.length_append, needs_iff]
    rw [decide_eq_true (by omega)]
    simp only [live_ok, optAll_so]
    exact ⟨by omega, trivial, by omega, trivial⟩
  | succ r ih =>
    intro i g k hi hg hk hr
    refine law14_GhostParts.H7_step _ _ _ _ _ _ _ _ _ ?_
    have hil : i < m.length := by omega
    have hw : IntKind.i64.wrap (k + 1) = k + 1 := wrap_id (by omega) (by omega)
    rw [List.drop_eq_getElem_cons hil, runF] at hr
    rw [decide_eq_true (by simp; omega)]
    simp only [cT, needs_nat, Int.toNat_natCast, map_get _ _ _ hil, optAll_so, b0_, b1_, b2_, b3_, b4_, add_ok g m[i] (good_small hg), num_ok, tA, tG, hw, wrap_succ (show i < 4611686018427387904 by omega), same_ok g _ (good_small hg)]
    by_cases he : (addS g m[i]).2 = 0
    · rw [if_pos he] at hr
      rw [show ((addS g m[i]).2 != 0) = false by simpa using he]
      exact ih (i + 1) _ k (by omega) (addS_good hg _) (by omega) hr
    · rw [if_neg he] at hr
      rw [show ((addS g m[i]).2 != 0) = true by simpa using he, addS_err he]
      simp only [decide_true, Bool.not_true, cF, cT]
      exact ih (i + 1) g (k + 1) (by omega) hg (by omega) (by rw [← hr]; congr 1; omega)
theorem runF_n : ∀ (l : List B) (g : G) (n : Int), n ≤ (runF g n l).2 ∧ (runF g n l).2 ≤ n + l.length
  | [], g, n => by simp [runF]
  | b :: l, g, n => by
    rw [runF]
    split
    · have := runF_n l (addS g b).1 n
      simp only [List.length_cons]; omega
    · have := runF_n l g (n + 1)
      simp only [List.length_cons]; omega
theorem parts_law (l m : List B) : law14_GhostParts.R (l.map encB) (m.map encB) = some (true, ()) := by
  refine law14_GhostParts.start _ _ _ ?_
  simp only [List.length_map]
  by_cases h : (l.length : Int) > 80
  · rw [decide_eq_true h]; simp only [live_ok, optAll_so, cT]
  rw [decide_eq_false h]
  by_cases h2 : (m.length : Int) > 80
  · rw [decide_eq_true h2]; simp only [live_ok, optAll_so, cT, cF]
  rw [decide_eq_false h2]
  simp only [cF, run_ok l (by omega), optAll_so, tA, tG]
  have hn := runF_n l g0 0
  refine parts_loop l m (by omega) (by omega) _ ⟨hn.1, by have := hn.2; show (runF g0 0 l).2 ≤ 80; omega⟩ m.length 0 _ 0 (by omega) (run_good l) (by omega) ?_
  rw [List.drop_zero, Int.add_zero]
  exact (runF_append l m g0 0).symm
end Ghost
end Go.AI
