/-
  Own work. The ghosts' functions: Add, on both sides.
-/
import Derived.Test.YtjjchnnnchccgaaGhost2
namespace Go.AI
open Go
set_option linter.unusedVariables false
set_option linter.unusedSimpArgs false
namespace Ghost
open Kit
section
variable {L : List (List DV)} {n k : Nat} (hn : L.length = n) (hk : k < n)
include hn hk
theorem cut_take : (L.drop (k + 1)).take (n - (k + 1)) = L.drop (k + 1) := List.take_of_length_le (by rw [List.length_drop]; omega)
theorem cut_len : (L.drop (k + 1)).length = n - (k + 1) := by rw [List.length_drop]; omega
theorem cut_over : (overD L k (L.drop (k + 1))).length = n := by
  unfold overD
  simp only [List.length_append, List.length_take, List.length_drop]
  omega
theorem cut_fin (Z : List (List DV)) : (overD (overD L k (L.drop (k + 1))) (n - 1) Z).take (n - 1) = L.take k ++ L.drop (k + 1) :=
  over_two L (L.drop (k + 1)) Z k (n - 1) (by omega) (by rw [cut_len hn hk]; omega) (by omega)
end
theorem sum_cut {n k : Nat} (hk : k < n) : k + (n - (k + 1)) = n - 1 := by omega
theorem map_del {α : Type} (f : α → List DV) (l : List α) (k : Nat) : (del l k).map f = (l.map f).take k ++ (l.map f).drop (k + 1) := by
  unfold del
  rw [List.map_append, List.map_take, List.map_drop]
theorem add_bad {g : G} {b : B} (h : good g = false ∨ bad b) : addS g b = (g, 2) := by
  unfold addS
  rw [if_pos h]
theorem add_die {g : G} {b : B} (hg : good g = true) (hb : ¬ bad b) (h4 : b.kind = 4) : addS g b = if idx g.keys b.key < 0 then (g, 7) else (⟨del g.keys (idx g.keys b.key).toNat, del g.ids (idx g.keys b.key).toNat, g.from_⟩, 0) := by
  unfold addS
  rw [if_neg (fun h => h.elim (fun h => by rw [hg] at h; cases h) hb), if_pos h4]
theorem add_two {g : G} {b : B} (hg : good g = true) (hb : ¬ bad b) (h2 : b.kind = 2 ∨ b.kind = 3) : addS g b = if idx g.keys b.from_ < 0 then (g, 7) else if 0 ≤ idx g.keys b.key then (g, 8)
    else if b.kind = 3 then (⟨g.keys.set (idx g.keys b.from_).toNat b.key, g.ids, g.from_⟩, 0) else born g b.key (g.ids.getD (idx g.keys b.from_).toNat 0) := by
  unfold addS
  rw [if_neg (fun h => h.elim (fun h => by rw [hg] at h; cases h) hb), if_neg (by omega)]
  by_cases h1 : idx g.keys b.from_ < 0
  · rw [if_pos ⟨h2, h1⟩, if_pos h1]
  · rw [if_neg (fun h => h1 h.2), if_neg h1]
    by_cases h3 : 0 ≤ idx g.keys b.key
    · rw [if_pos h3, if_pos h3]
    · rw [if_neg h3, if_neg h3]
      by_cases h5 : b.kind = 3
      · rw [if_pos h5, if_pos h5]
      · rw [if_neg h5, if_neg h5, if_pos (by omega)]
theorem add_root {g : G} {b : B} (hg : good g = true) (hb : ¬ bad b) (h1 : b.kind = 1) : addS g b = if 0 ≤ idx g.keys b.key then (g, 8) else born g b.key (-1) := by
  unfold addS
  rw [if_neg (fun h => h.elim (fun h => by rw [hg] at h; cases h) hb), if_neg (by omega), if_neg (by omega)]
  by_cases h3 : 0 ≤ idx g.keys b.key
  · rw [if_pos h3, if_pos h3]
  · rw [if_neg h3, if_neg h3, if_neg (by omega), if_neg (by omega)]
theorem kinds {b : B} (h : ¬ bad b) : b.kind = 1 ∨ b.kind = 2 ∨ b.kind = 3 ∨ b.kind = 4 := by
  unfold bad at h
  omega
theorem add_ok (g : G) (b : B) (hs : Small g) : ghost_Add.R (g.keys.map encK) (g.ids.map ei) (g.from_.map ei) b.kind b.key.obj b.key.slot b.from_.obj b.from_.slot = some (tA (addS g b)) := by
  refine ghost_Add.start _ _ _ _ _ _ _ _ _ ?_
  simp only [birth_ok, check_ok g hs, index_ok g.keys b.key hs.keys, index_ok g.keys b.from_ hs.keys, optAll_so]
  have hbd : decide (b.kind < 1 ∨ b.kind > 4 ∨ kOK b.key = false ∨ ((b.kind = 2 ∨ b.kind = 3) ∧ kOK b.from_ = false)) = decide (bad b) := decide_eq_decide.2 Iff.rfl
  rw [hbd]
  by_cases hb : bad b
  · rw [decide_eq_true hb, add_bad (.inr hb)]; rfl
  rw [decide_eq_false hb]
  simp only [Bool.not_false, Bool.not_true, cF]
  cases hg : good g
  · rw [add_bad (.inl hg)]; rfl
  simp only [er, bne_self_eq_false, cF]
  have hl := (good_iff.1 hg).len
  have hsk := hs.keys
  rcases kinds hb with h | h | h | h
  · -- a root
    rw [add_root hg hb h, h]
    simp only [Int.reduceBEq, cF, cT]
    by_cases h3 : 0 ≤ idx g.keys b.key
    · rw [if_pos h3, decide_eq_true (show idx g.keys b.key ≥ 0 from h3)]; rfl
    · rw [if_neg h3, decide_eq_false (show ¬ idx g.keys b.key ≥ 0 from h3), born_ok g _ _ hs]; rfl
  · rw [add_two hg hb (.inl h), h]
    simp only [Int.reduceBEq, cF, cT]
    by_cases h1 : idx g.keys b.from_ < 0
    · rw [if_pos h1, decide_eq_true h1]; rfl
    rw [if_neg h1, decide_eq_false h1]
    by_cases h3 : 0 ≤ idx g.keys b.key
    · rw [if_pos h3, decide_eq_true (show idx g.keys b.key ≥ 0 from h3)]; rfl
    · rw [if_neg h3, decide_eq_false (show ¬ idx g.keys b.key ≥ 0 from h3)]
      rcases idx_cases g.keys b.from_ with ⟨h5, _⟩ | ⟨k, hk, h5, _⟩
      · omega
      rw [h5]
      have hkd : k < g.ids.length := by omega
      simp only [cF, needs_nat, Int.toNat_natCast, map_get _ _ _ hkd, optAll_so, n0_, born_ok g _ _ hs]
      rw [if_neg (by decide), show g.ids.getD k 0 = g.ids[k] by simp [List.getD, hkd]]
      first | rfl | done
  · rw [add_two hg hb (.inr h), h]
    simp only [Int.reduceBEq, cF, cT]
    by_cases h1 : idx g.keys b.from_ < 0
    · rw [if_pos h1, decide_eq_true h1]; rfl
    rw [if_neg h1, decide_eq_false h1]
    by_cases h3 : 0 ≤ idx g.keys b.key
    · rw [if_pos h3, decide_eq_true (show idx g.keys b.key ≥ 0 from h3)]; rfl
    · rw [if_neg h3, decide_eq_false (show ¬ idx g.keys b.key ≥ 0 from h3)]
      rcases idx_cases g.keys b.from_ with ⟨h5, _⟩ | ⟨k, hk, h5, _⟩
      · omega
      rw [h5]
      have e1 : (g.keys.map encK).set k (putD (encK g.keys[k]) 0 [.v (.int .i64 b.key.obj), .v (.int .i64 b.key.slot)]) = (g.keys.set k b.key).map encK := by rw [List.map_set]; rfl
      have e2 : ((g.keys.set k b.key).map encK).take g.keys.length = (g.keys.set k b.key).map encK := List.take_of_length_le (by simp)
      simp only [cF, Nat.zero_add, Int.toNat_natCast, List.length_map, map_get _ _ _ hk, optAll_so, e1, e2, needs_iff]
      exact ⟨by omega, ⟨by omega, by omega⟩, Nat.le_refl _, rfl⟩
  · rw [add_die hg hb h, h]
    simp only [Int.reduceBEq, cF, cT]
    by_cases h1 : idx g.keys b.key < 0
    · rw [if_pos h1, decide_eq_true h1]; rfl
    rw [if_neg h1, decide_eq_false h1]
    rcases idx_cases g.keys b.key with ⟨h5, _⟩ | ⟨k, hk, h5, h6⟩
    · omega
    clear h6
    rw [h5]
    have hw : IntKind.i64.wrap ((k : Int) + 1) = ((k + 1 : Nat) : Int) := wrap_succ (by omega)
    have e1 : ((k : Int) == ((k + 1 : Nat) : Int)) = false := by
      rw [Bool.eq_false_iff]; intro h; have := beq_iff_eq.1 h; omega
    have hfin : tA (⟨del g.keys k, del g.ids k, g.from_⟩, 0) = (((g.keys.map encK).take k ++ (g.keys.map encK).drop (k + 1), ((g.ids.map ei).take k ++ (g.ids.map ei).drop (k + 1), (g.from_.map ei, ()))), (0, ())) := by
      unfold tA tG
      simp only [map_del]
    rw [Int.toNat_natCast, hfin]
    have hLK : (g.keys.map encK).length = g.keys.length := List.length_map _
    have hLI : (g.ids.map ei).length = g.keys.length := by rw [List.length_map, hl]
    generalize g.keys.map encK = LK at hLK ⊢
    generalize g.ids.map ei = LI at hLI ⊢
    generalize g.keys.length = n at hLK hLI hk hsk
    have e2 : decide (k = n) = false := decide_eq_false (by omega)
    simp only [hw, Int.toNat_natCast, Nat.zero_add, Nat.sub_zero, hLK, hLI, cut_take hLK hk, cut_take hLI hk, cut_len hLK hk, cut_len hLI hk, cut_over hLK hk, cut_over hLI hk, sum_cut hk, cut_fin hLK hk, cut_fin hLI hk, e1, e2, cF, true_and, eq_self, needs_iff]
    repeat' apply And.intro
    all_goals first | omega | trivial | rfl
end Ghost
end Go.AI
