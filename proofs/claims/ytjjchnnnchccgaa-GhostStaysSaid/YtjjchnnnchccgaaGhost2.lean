/-
  Own work. The ghosts' functions: the document's side of whether a ghost may be; what is added.
-/
import Derived.Test.YtjjchnnnchccgaaGhost1
namespace Go.AI
open Go
set_option linter.unusedVariables false
set_option linter.unusedSimpArgs false
namespace Ghost
open Kit
theorem nodup_small : ∀ (n : Nat) (l : List Int), l.Nodup → (∀ x ∈ l, 0 ≤ x ∧ x < (n : Int)) → l.length ≤ n
  | 0, l, _, h => by
    cases l with
    | nil => exact Nat.le_refl _
    | cons x r => have := h x (by simp); omega
  | n + 1, l, hd, h => by
    have ih := nodup_small n (l.erase (n : Int)) (hd.erase _) fun x hx => by
      have h1 := (List.Nodup.mem_erase_iff hd).1 hx
      have h2 := h x h1.2
      omega
    have := List.length_erase (a := (n : Int)) (l := l)
    split at this <;> omega
theorem fromOK_iff : ∀ (l : List Int) (i : Nat), fromOK l i = true ↔ ∀ (j : Nat) u, l[j]? = some u → -1 ≤ u ∧ u < ((i + j : Nat) : Int)
  | [], i => by simp [fromOK]
  | u :: l, i => by
    simp only [fromOK, Bool.and_eq_true, decide_eq_true_eq, fromOK_iff l (i + 1)]
    constructor
    · rintro ⟨⟨h1, h2⟩, h3⟩ j v hj
      cases j with
      | zero =>
        have e : u = v := by simpa using hj
        subst e; exact ⟨h1, by simpa using h2⟩
      | succ j =>
        have := h3 j v (by simpa using hj)
        rw [show i + (j + 1) = i + 1 + j by omega]; exact this
    · intro h
      have h0 := h 0 u rfl
      refine ⟨⟨h0.1, by simpa using h0.2⟩, fun j v hj => ?_⟩
      have := h (j + 1) v (by simpa using hj)
      rw [show i + 1 + j = i + (j + 1) by omega]; exact this
theorem pairOK_iff {n : Nat} : ∀ {ks : List K} {ds : List Int} {sk : List K} {sd : List Int}, ks.length = ds.length → (pairOK n ks ds sk sd = true ↔
    (∀ k ∈ ks, kOK k = true ∧ k ∉ sk) ∧ ks.Nodup ∧ (∀ d ∈ ds, (0 ≤ d ∧ d < (n : Int)) ∧ d ∉ sd) ∧ ds.Nodup)
  | [], [], sk, sd, _ => by simp [pairOK]
  | [], d :: ds, _, _, h => by simp at h
  | k :: ks, [], _, _, h => by simp at h
  | k :: ks, d :: ds, sk, sd, h => by
    simp only [pairOK, Bool.and_eq_true, decide_eq_true_eq, Bool.not_eq_true', decide_eq_false_iff_not, pairOK_iff (ks := ks) (ds := ds) (by simpa using h), List.mem_cons, List.nodup_cons, forall_eq_or_imp, List.mem_append, List.not_mem_nil, or_false, not_or]
    constructor
    · rintro ⟨⟨⟨⟨⟨h1, h2⟩, h3⟩, h4⟩, h5⟩, h6, h7, h8, h9⟩
      exact ⟨⟨⟨h5, h1⟩, fun x hx => ⟨(h6 x hx).1, (h6 x hx).2.1⟩⟩, ⟨fun hk => (h6 k hk).2.2 rfl, h7⟩, ⟨⟨⟨h3, h4⟩, h2⟩, fun x hx => ⟨(h8 x hx).1, (h8 x hx).2.1⟩⟩, ⟨fun hd => (h8 d hd).2.2 rfl, h9⟩⟩
    · rintro ⟨⟨⟨h5, h1⟩, h6⟩, ⟨h7a, h7⟩, ⟨⟨⟨h3, h4⟩, h2⟩, h8⟩, h9a, h9⟩
      exact ⟨⟨⟨⟨⟨h1, h2⟩, h3⟩, h4⟩, h5⟩, fun x hx => ⟨(h6 x hx).1, (h6 x hx).2, fun e => h7a (e ▸ hx)⟩, h7, fun x hx => ⟨(h8 x hx).1, (h8 x hx).2, fun e => h9a (e ▸ hx)⟩, h9⟩
structure GoodP (g : G) : Prop where
  len : g.keys.length = g.ids.length
  max : g.from_.length ≤ 4096
  up : ∀ (j : Nat) u, g.from_[j]? = some u → -1 ≤ u ∧ u < (j : Int)
  kok : ∀ k ∈ g.keys, kOK k = true
  knd : g.keys.Nodup
  dok : ∀ d ∈ g.ids, 0 ≤ d ∧ d < (g.from_.length : Int)
  dnd : g.ids.Nodup
theorem good_iff {g : G} : good g = true ↔ GoodP g := by
  unfold good
  simp only [Bool.and_eq_true, decide_eq_true_eq]
  constructor
  · rintro ⟨⟨⟨h1, h2⟩, h3⟩, h4⟩
    obtain ⟨p1, p2, p3, p4⟩ := (pairOK_iff h1).1 h4
    exact ⟨h1, h2, fun j u hj => by have := (fromOK_iff _ 0).1 h3 j u hj; simpa using this, fun k hk => (p1 k hk).1, p2, fun d hd => (p3 d hd).1, p4⟩
  · intro h
    exact ⟨⟨⟨h.len, h.max⟩, (fromOK_iff _ 0).2 fun j u hj => by simpa using h.up j u hj⟩, (pairOK_iff h.len).2 ⟨fun k hk => ⟨h.kok k hk, by simp⟩, h.knd, fun d hd => ⟨h.dok d hd, by simp⟩, h.dnd⟩⟩
theorem GoodP.le {g : G} (h : GoodP g) : g.ids.length ≤ g.from_.length := nodup_small _ _ h.dnd h.dok
theorem good_small {g : G} (h : good g = true) : Small g := by
  have := good_iff.1 h
  have h1 := this.le
  have h2 := this.max
  have h3 := this.len
  exact ⟨by omega, by omega, by omega⟩
theorem ris_inner (g : G) (hs : Small g) (i : Nat) (hik : i < g.keys.length) (hid : i < g.ids.length) (rest : Bool) (nxt : ref14_Is.H10 ((i + 1 : Nat) : Int) (g.keys.map encK) (g.ids.map ei) (g.from_.map ei) (rest, ())) : ∀ m j : Nat, j + m = i →
    ref14_Is.H15 i j (g.keys.map encK) (g.ids.map ei) (g.from_.map ei) (!decide (g.keys[i] ∈ (g.keys.take i).drop j) && !decide (g.ids[i] ∈ (g.ids.take i).drop j) && rest, ()) := by
  have hsk := hs.keys
  intro m
  induction m with
  | zero =>
    intro j hj
    refine ref14_Is.H15_step _ _ _ _ _ _ ?_
    rw [decide_eq_false (by omega), List.drop_eq_nil_of_le (by simp; omega), List.drop_eq_nil_of_le (by simp; omega), wrap_succ (show i < 4611686018427387904 by omega)]
    simpa using nxt
  | succ m ih =>
    intro j hj
    refine ref14_Is.H15_step _ _ _ _ _ _ ?_
    have hjk : j < g.keys.length := by omega
    have hjd : j < g.ids.length := by omega
    have h1 : (g.keys.take i).drop j = g.keys[j] :: (g.keys.take i).drop (j + 1) := by
      rw [List.drop_eq_getElem_cons (by simp; omega), List.getElem_take]
    have h2 : (g.ids.take i).drop j = g.ids[j] :: (g.ids.take i).drop (j + 1) := by
      rw [List.drop_eq_getElem_cons (by simp; omega), List.getElem_take]
    have nx := ih (j + 1) (by omega)
    rw [decide_eq_true (by omega), h1, h2]
    simp only [cond_true, needs_nat, Int.toNat_natCast, map_get _ _ _ hjk, map_get _ _ _ hjd, map_get _ _ _ hik, map_get _ _ _ hid, optAll_so, k0_, k1_, n0_, eqK, wrap_succ (show j < 4611686018427387904 by omega), List.mem_cons]
    by_cases h3 : g.keys[j] = g.keys[i]
    · rw [decide_eq_true h3, decide_eq_true (.inl h3.symm)]; rfl
    · rw [decide_eq_false h3]
      by_cases h4 : g.ids[j] = g.ids[i]
      · rw [show (g.ids[j] == g.ids[i]) = true by simpa using h4, decide_eq_true (show g.ids[i] = g.ids[j] ∨ _ from .inl h4.symm)]
        simp
      · rw [show (g.ids[j] == g.ids[i]) = false by simpa using h4]
        have e1 : decide (g.keys[i] = g.keys[j] ∨ g.keys[i] ∈ (g.keys.take i).drop (j + 1)) = decide (g.keys[i] ∈ (g.keys.take i).drop (j + 1)) := decide_eq_decide.2 ⟨fun h => h.resolve_left (fun e => h3 e.symm), .inr⟩
        have e2 : decide (g.ids[i] = g.ids[j] ∨ g.ids[i] ∈ (g.ids.take i).drop (j + 1)) = decide (g.ids[i] ∈ (g.ids.take i).drop (j + 1)) := decide_eq_decide.2 ⟨fun h => h.resolve_left (fun e => h4 e.symm), .inr⟩
        rw [e1, e2]
        exact nx
theorem ris_pairs (g : G) (hs : Small g) (hl : g.keys.length = g.ids.length) : ∀ m i : Nat, i + m = g.keys.length →
    ref14_Is.H10 i (g.keys.map encK) (g.ids.map ei) (g.from_.map ei) (pairOK g.from_.length (g.keys.drop i) (g.ids.drop i) (g.keys.take i) (g.ids.take i), ()) := by
  have hsk := hs.keys
  intro m
  induction m with
  | zero =>
    intro i hi
    refine ref14_Is.H10_step _ _ _ _ _ ?_
    rw [decide_eq_false (by simp; omega), List.drop_eq_nil_of_le (by omega)]
    rfl
  | succ m ih =>
    intro i hi
    refine ref14_Is.H10_step _ _ _ _ _ ?_
    have hik : i < g.keys.length := by omega
    have hid : i < g.ids.length := by omega
    have nx := ih (i + 1) (by omega)
    rw [List.take_succ_eq_append_getElem hik, List.take_succ_eq_append_getElem hid] at nx
    have inner := ris_inner g hs i hik hid _ nx i 0 (by omega)
    rw [List.drop_zero, List.drop_zero] at inner
    rw [decide_eq_true (by simp; omega), List.drop_eq_getElem_cons hik, List.drop_eq_getElem_cons hid, pairOK]
    simp only [cond_true, needs_nat, Int.toNat_natCast, map_get _ _ _ hik, map_get _ _ _ hid, optAll_so, k0_, k1_, n0_, rkey_ok, List.length_map]
    generalize g.keys[i] = k at inner ⊢
    generalize g.ids[i] = d at inner ⊢
    cases h5 : kOK k
    · simp
    by_cases h3 : d < 0
    · rw [decide_eq_true h3, decide_eq_false (show ¬ 0 ≤ d by omega)]; simp
    rw [decide_eq_false h3, decide_eq_true (show 0 ≤ d by omega)]
    by_cases h4 : d ≥ g.from_.length
    · rw [decide_eq_true h4, decide_eq_false (show ¬ d < g.from_.length by omega)]; simp
    rw [decide_eq_false h4, decide_eq_true (show d < g.from_.length by omega)]
    simp only [Bool.not_true, cond_false, Bool.and_true]
    exact inner
theorem ris_ok (g : G) (hs : Small g) : ref14_Is.R (g.keys.map encK) (g.ids.map ei) (g.from_.map ei) = some (good g, ()) := by
  refine ref14_Is.start _ _ _ _ ?_
  simp only [List.length_map]
  have hle : good g = true → ¬ (g.keys.length : Int) > (g.from_.length : Int) := fun h => by
    have := good_iff.1 h
    have h1 := this.le
    have h2 := this.len
    omega
  by_cases h1 : g.keys.length = g.ids.length
  case neg =>
    rw [show ((g.keys.length : Int) != (g.ids.length : Int)) = true by simp; omega]
    unfold good
    rw [decide_eq_false h1]; rfl
  rw [show ((g.keys.length : Int) != (g.ids.length : Int)) = false by rw [h1]; simp]
  by_cases h2 : (g.from_.length : Int) > 4096
  · unfold good
    rw [decide_eq_true h2, decide_eq_false (show ¬ g.from_.length ≤ 4096 by omega)]; simp
  rw [decide_eq_false h2]
  by_cases h3 : (g.keys.length : Int) > (g.from_.length : Int)
  · have : good g = false := by cases hg : good g with | false => rfl | true => exact absurd h3 (hle hg)
    rw [decide_eq_true h3, this]; rfl
  rw [decide_eq_false h3]
  simp only [cond_false]
  have e : good g = (fromOK g.from_ 0 && pairOK g.from_.length g.keys g.ids [] []) := by
    unfold good
    rw [decide_eq_true h1, decide_eq_true (show g.from_.length ≤ 4096 by omega)]; simp
  rw [e]
  have key : ∀ m i : Nat, i + m = g.from_.length → ref14_Is.H5 i (g.keys.map encK) (g.ids.map ei) (g.from_.map ei) (fromOK (g.from_.drop i) i && pairOK g.from_.length g.keys g.ids [] [], ()) := by
    intro m
    induction m with
    | zero =>
      intro i hi
      refine ref14_Is.H5_step _ _ _ _ _ ?_
      rw [decide_eq_false (by simp; omega), List.drop_eq_nil_of_le (by omega)]
      have := ris_pairs g hs h1 g.keys.length 0 (by omega)
      simp only [cond_false, fromOK, Bool.true_and]
      exact this
    | succ m ih =>
      intro i hi
      refine ref14_Is.H5_step _ _ _ _ _ ?_
      have hif : i < g.from_.length := by omega
      have hsf := hs.from_
      rw [decide_eq_true (by simp; omega), List.drop_eq_getElem_cons hif, fromOK]
      simp only [cond_true, needs_nat, Int.toNat_natCast, map_get _ _ _ hif, optAll_so, n0_, wrap_succ (show i < 4611686018427387904 by omega)]
      have nxt := ih (i + 1) (by omega)
      generalize g.from_[i] = u
      by_cases h1 : u < -1
      · rw [decide_eq_true h1, decide_eq_false (show ¬ -1 ≤ u by omega)]; rfl
      rw [decide_eq_false h1, decide_eq_true (show -1 ≤ u by omega)]
      by_cases h2 : u ≥ i
      · rw [decide_eq_true h2, decide_eq_false (show ¬ u < i by omega)]; rfl
      rw [decide_eq_false h2, decide_eq_true (show u < i by omega)]
      exact nxt
  exact key g.from_.length 0 (by omega)
/-! What is added. -/
def del {α : Type} (l : List α) (i : Nat) : List α := l.take i ++ l.drop (i + 1)
def born (g : G) (k : K) (u : Int) : G × Int := if 4096 ≤ g.from_.length then (g, 6) else (⟨g.keys ++ [k], g.ids ++ [(g.from_.length : Int)], g.from_ ++ [u]⟩, 0)
def bad (b : B) : Prop := b.kind < 1 ∨ b.kind > 4 ∨ kOK b.key = false ∨ ((b.kind = 2 ∨ b.kind = 3) ∧ kOK b.from_ = false)
instance (b : B) : Decidable (bad b) := inferInstanceAs (Decidable (b.kind < 1 ∨ b.kind > 4 ∨ kOK b.key = false ∨ ((b.kind = 2 ∨ b.kind = 3) ∧ kOK b.from_ = false)))
def addS (g : G) (b : B) : G × Int :=
  if good g = false ∨ bad b then (g, 2)
  else if b.kind = 4 then (if idx g.keys b.key < 0 then (g, 7) else (⟨del g.keys (idx g.keys b.key).toNat, del g.ids (idx g.keys b.key).toNat, g.from_⟩, 0))
  else if (b.kind = 2 ∨ b.kind = 3) ∧ idx g.keys b.from_ < 0 then (g, 7)
  else if 0 ≤ idx g.keys b.key then (g, 8)
  else if b.kind = 3 then (⟨g.keys.set (idx g.keys b.from_).toNat b.key, g.ids, g.from_⟩, 0)
  else born g b.key (if b.kind = 2 then g.ids.getD (idx g.keys b.from_).toNat 0 else -1)
abbrev GT := List (List DV) × (List (List DV) × (List (List DV) × Unit))
def tG (g : G) : GT := (g.keys.map encK, (g.ids.map ei, (g.from_.map ei, ())))
def tA (r : G × Int) : GT × (Int × Unit) := (tG r.1, (r.2, ()))
theorem born_ok (g : G) (k : K) (u : Int) (hs : Small g) : ghost_born.R (g.keys.map encK) (g.ids.map ei) (g.from_.map ei) k.obj k.slot u = some (tA (born g k u)) := by
  refine ghost_born.start _ _ _ _ _ _ _ ?_
  have h1 := hs.keys
  have h2 := hs.ids
  have h3 := hs.from_
  unfold born
  simp only [List.length_map]
  by_cases h : 4096 ≤ g.from_.length
  · rw [if_pos h, decide_eq_true (by omega)]; rfl
  · rw [if_neg h, decide_eq_false (by omega)]
    simp only [cond_false, encK_is, List.take_succ_cons, List.take_zero, List.take_length, needs_iff, List.length_append, List.length_map, List.length_cons, List.length_nil]
    refine ⟨by omega, trivial, by omega, by omega, trivial, by omega, by omega, trivial, by omega, ?_⟩
    unfold tA tG
    simp only [List.map_append, List.map_cons, List.map_nil]
    rw [List.take_of_length_le (by simp), List.take_of_length_le (by simp), List.take_of_length_le (by simp)]
    rfl
theorem birth_ok (b : B) : ghost_isBirth.R b.kind b.key.obj b.key.slot b.from_.obj b.from_.slot = some (!decide (b.kind < 1 ∨ b.kind > 4 ∨ kOK b.key = false ∨ ((b.kind = 2 ∨ b.kind = 3) ∧ kOK b.from_ = false)), ()) := by
  refine ghost_isBirth.start _ _ _ _ _ _ ?_
  simp only [order_ok, optAll_so, er_zero]
  have two : ∀ k : Int, (k = 2 ∨ k = 3) → ((!decide (k < 1 ∨ k > 4 ∨ kOK b.key = false ∨ ((k = 2 ∨ k = 3) ∧ kOK b.from_ = false))) = (kOK b.key && kOK b.from_)) := by
    intro k hk
    cases kOK b.key <;> cases kOK b.from_ <;> simp [hk] <;> omega
  have one : ∀ k : Int, (k = 1 ∨ k = 4) → ((!decide (k < 1 ∨ k > 4 ∨ kOK b.key = false ∨ ((k = 2 ∨ k = 3) ∧ kOK b.from_ = false))) = kOK b.key) := by
    intro k hk
    have : ¬ (k = 2 ∨ k = 3) := by omega
    cases kOK b.key <;> simp [this] <;> omega
  by_cases h2 : b.kind = 2
  · rw [two _ (.inl h2), h2]
    simp only [beq_self_eq_true, cond_true]
    cases kOK b.key <;> rfl
  rw [show (b.kind == 2) = false by simpa using h2]
  by_cases h3 : b.kind = 3
  · rw [two _ (.inr h3), h3]
    simp only [beq_self_eq_true, cond_true, cond_false]
    cases kOK b.key <;> rfl
  rw [show (b.kind == 3) = false by simpa using h3]
  by_cases h1 : b.kind = 1
  · rw [one _ (.inl h1), h1]; rfl
  rw [show (b.kind == 1) = false by simpa using h1]
  by_cases h4 : b.kind = 4
  · rw [one _ (.inr h4), h4]; rfl
  rw [show (b.kind == 4) = false by simpa using h4, decide_eq_true (by omega)]
  rfl
theorem over_two (L T Z : List (List DV)) (i n : Nat) (hi : i ≤ L.length) (hn : n = i + T.length) (hT : n ≤ L.length) : (overD (overD L i T) n Z).take n = L.take i ++ T := by
  have h1 : (overD L i T).length = L.length := by
    unfold overD
    simp only [List.length_append, List.length_take, List.length_drop]
    omega
  have h2 : ((overD L i T).take n).length = n := by rw [List.length_take, h1]; omega
  rw [show overD (overD L i T) n Z = (overD L i T).take n ++ (Z ++ (overD L i T).drop (n + Z.length)) from rfl]
  rw [List.take_append_of_le_length (by omega), List.take_take, Nat.min_self]
  rw [show overD L i T = L.take i ++ (T ++ L.drop (i + T.length)) from rfl, ← List.append_assoc]
  rw [List.take_append_of_le_length (by simp only [List.length_append, List.length_take]; omega)]
  exact List.take_of_length_le (by simp only [List.length_append, List.length_take]; omega)
end Ghost
end Go.AI
