/-
  Own work. The ghosts' texts in one (printed by gen_gt.py).
-/
import Derived.Test.YtjjchnnnchccgaaToldG
import Derived.Test.YtjjchnnnchccgaaTreeA
namespace Go.AI
open Go
set_option linter.unusedVariables false
set_option linter.unusedSimpArgs false
namespace Ghost
open Kit

structure G where
  keys : List K
  ids : List Int
  from_ : List Int
  deriving DecidableEq
structure B where
  kind : Int
  key : K
  from_ : K
def encB (b : B) : List DV := [.v (.int .i64 b.kind), .v (.int .i64 b.key.obj), .v (.int .i64 b.key.slot), .v (.int .i64 b.from_.obj), .v (.int .i64 b.from_.slot)]
theorem b0_ (b : B) : dInt .i64 (encB b) 0 = some b.kind := rfl
theorem b1_ (b : B) : dInt .i64 (encB b) 1 = some b.key.obj := rfl
theorem b2_ (b : B) : dInt .i64 (encB b) 2 = some b.key.slot := rfl
theorem b3_ (b : B) : dInt .i64 (encB b) 3 = some b.from_.obj := rfl
theorem b4_ (b : B) : dInt .i64 (encB b) 4 = some b.from_.slot := rfl
theorem live_ok : law14_live.R = some (true, ()) := law14_live.closed
theorem num_ok (n : Int) : law14_num.R n = some (n, ()) := law14_num.start _ _ rfl
theorem contains_ok (q : List Int) (c : Int) (hl : q.length < 1000000) : slices_Contains_int_int.R (q.map ei) c = some (decide (c ∈ q), ()) := by
  refine slices_Contains_int_int.start _ _ _ ?_
  have h : slices_Index_int_int.R (q.map ei) c = some (idx q c, ()) := by
    refine slices_Index_int_int.start _ _ _ ?_
    have key : ∀ m i : Nat, i + m = q.length → slices_Index_int_int.H3 (q.map ei) c q.length i (idxTo q c i, ()) := by
      intro m
      induction m with
      | zero =>
        intro i hi
        refine slices_Index_int_int.H3_step _ _ _ _ _ ?_
        rw [decide_eq_false (by omega), idxTo_end q c i (by omega)]
        rfl
      | succ m ih =>
        intro i hi
        refine slices_Index_int_int.H3_step _ _ _ _ _ ?_
        have hil : i < q.length := by omega
        rw [decide_eq_true (by omega), idxTo_step q c i hil]
        simp only [cond_true, needs_nat, Int.toNat_natCast, map_get _ _ _ hil, optAll_so, n0_, cond_ite, beq_iff_eq, wrap_succ (show i < 4611686018427387904 by omega)]
        by_cases h : q[i] = c
        · rw [if_pos h, if_pos h.symm]
        · rw [if_neg h, if_neg (fun e => h e.symm)]
          exact ih (i + 1) (by omega)
    have := key q.length 0 (by omega)
    rw [idxTo_zero] at this
    rw [List.length_map]
    exact this
  rw [h]
  simp only [optAll_so]
  rcases idx_cases q c with ⟨h1, h2⟩ | ⟨k, hk, h1, h2, _⟩
  · rw [h1, decide_eq_false h2]; rfl
  · rw [h1, decide_eq_true (show c ∈ q from h2 ▸ List.getElem_mem hk), decide_eq_true (by omega)]
/-! May a ghost be? -/
def fromOK : List Int → Nat → Bool
  | [], _ => true
  | u :: l, i => decide (-1 ≤ u) && decide (u < i) && fromOK l (i + 1)
def pairOK (n : Nat) : List K → List Int → List K → List Int → Bool
  | k :: ks, d :: ds, sk, sd => !decide (k ∈ sk) && !decide (d ∈ sd) && decide (0 ≤ d) && decide (d < n) && kOK k && pairOK n ks ds (sk ++ [k]) (sd ++ [d])
  | _, _, _, _ => true
def good (g : G) : Bool := decide (g.keys.length = g.ids.length) && decide (g.from_.length ≤ 4096) && fromOK g.from_ 0 && pairOK g.from_.length g.keys g.ids [] []
structure Small (g : G) : Prop where
  keys : g.keys.length < 1000000
  ids : g.ids.length < 1000000
  from_ : g.from_.length < 1000000
theorem pair_loop (g : G) (hs : Small g) (hl : g.keys.length = g.ids.length) : ∀ (m i : Nat) (sk : List K) (sd : List Int), i + m = g.keys.length →
    ghost_Check.H12 (g.keys.map encK) g.keys.length i (g.keys.map encK) (g.ids.map ei) (g.from_.map ei) (sk.map (ent encK)) (sd.map (ent ei)) (er (pairOK g.from_.length (g.keys.drop i) (g.ids.drop i) sk sd), ()) := by
  intro m
  induction m with
  | zero =>
    intro i sk sd hi
    refine ghost_Check.H12_step _ _ _ _ _ _ _ _ _ ?_
    rw [decide_eq_false (by omega), List.drop_eq_nil_of_le (by omega)]
    rfl
  | succ m ih =>
    intro i sk sd hi
    refine ghost_Check.H12_step _ _ _ _ _ _ _ _ _ ?_
    have hik : i < g.keys.length := by omega
    have hid : i < g.ids.length := by omega
    have hsk := hs.keys
    rw [decide_eq_true (by omega), List.drop_eq_getElem_cons hik, List.drop_eq_getElem_cons hid, pairOK]
    simp only [cond_true, needs_nat, Int.toNat_natCast, map_get _ _ _ hik, map_get _ _ _ hid, optAll_so, k0_, k1_, n0_, hasK, hasI, order_ok, List.length_map, wrap_succ (show i < 4611686018427387904 by omega)]
    have nxt := ih (i + 1) (sk ++ [g.keys[i]]) (sd ++ [g.ids[i]]) (by omega)
    generalize g.keys[i] = k at nxt ⊢
    generalize g.ids[i] = d at nxt ⊢
    by_cases h1 : k ∈ sk
    · rw [decide_eq_true h1]; rfl
    rw [decide_eq_false h1]
    by_cases h2 : d ∈ sd
    · rw [decide_eq_true h2]; rfl
    rw [decide_eq_false h2]
    by_cases h3 : d < 0
    · rw [decide_eq_true h3, decide_eq_false (show ¬ 0 ≤ d by omega)]; rfl
    rw [decide_eq_false h3, decide_eq_true (show 0 ≤ d by omega)]
    by_cases h4 : d ≥ g.from_.length
    · rw [decide_eq_true h4, decide_eq_false (show ¬ d < g.from_.length by omega)]; rfl
    rw [decide_eq_false h4, decide_eq_true (show d < g.from_.length by omega)]
    cases h5 : kOK k
    · rfl
    · simp only [cond_false, er, bne_self_eq_false, putK h1, putI h2, optAll_so]
      exact nxt
theorem from_loop (g : G) (hs : Small g) (hl : g.keys.length = g.ids.length) : ∀ m i : Nat, i + m = g.from_.length →
    ghost_Check.H5 (g.from_.map ei) g.from_.length i (g.keys.map encK) (g.ids.map ei) (g.from_.map ei) (er (fromOK (g.from_.drop i) i && pairOK g.from_.length g.keys g.ids [] []), ()) := by
  intro m
  induction m with
  | zero =>
    intro i hi
    refine ghost_Check.H5_step _ _ _ _ _ _ _ ?_
    rw [decide_eq_false (by omega), List.drop_eq_nil_of_le (by omega)]
    have := pair_loop g hs hl g.keys.length 0 [] [] (by omega)
    simp only [cond_false, List.length_map, fromOK, Bool.true_and]
    exact this
  | succ m ih =>
    intro i hi
    refine ghost_Check.H5_step _ _ _ _ _ _ _ ?_
    have hif : i < g.from_.length := by omega
    have hsf := hs.from_
    rw [decide_eq_true (by omega), List.drop_eq_getElem_cons hif, fromOK]
    simp only [cond_true, needs_nat, Int.toNat_natCast, map_get _ _ _ hif, optAll_so, n0_, wrap_succ (show i < 4611686018427387904 by omega)]
    have nxt := ih (i + 1) (by omega)
    generalize g.from_[i] = u
    by_cases h1 : u < -1
    · rw [decide_eq_true h1, decide_eq_false (show ¬ -1 ≤ u by omega)]; rfl
    rw [decide_eq_false h1, decide_eq_true (show -1 ≤ u by omega)]
    by_cases h2 : u ≥ i
    · rw [decide_eq_true h2, decide_eq_false (show ¬ u < i by omega)]; rfl
    rw [decide_eq_false h2, decide_eq_true (show u < i by omega)]
    exact nxt
theorem check_ok (g : G) (hs : Small g) : ghost_Check.R (g.keys.map encK) (g.ids.map ei) (g.from_.map ei) = some (er (good g), ()) := by
  refine ghost_Check.start _ _ _ _ ?_
  unfold good
  simp only [List.length_map]
  by_cases h1 : g.keys.length = g.ids.length
  · rw [show ((g.keys.length : Int) != (g.ids.length : Int)) = false by rw [h1]; simp, decide_eq_true h1]
    by_cases h2 : (g.from_.length : Int) > 4096
    · rw [decide_eq_true h2, decide_eq_false (show ¬ g.from_.length ≤ 4096 by omega)]; rfl
    · rw [decide_eq_false h2, decide_eq_true (show g.from_.length ≤ 4096 by omega)]
      exact from_loop g hs h1 g.from_.length 0 (by omega)
  · rw [show ((g.keys.length : Int) != (g.ids.length : Int)) = true by simp; omega, decide_eq_false h1]; rfl
end Ghost
namespace Ghost
open Kit
theorem nodup_small : ∀ (n : Nat) (l : List Int), l.Nodup → (∀ x ∈ l, 0 ≤ x ∧ x < (n : Int)) → l.length ≤ n
  | 0, l, _, h => by
    cases l with
    | nil => exact Nat.le_refl _
    | cons x r => have := h x (by simp); omega
  | n + 1, l, hd, h => by
    have ih := nodup_small n (l.erase (n : Int)) (hd.erase _) fun x hx => by
      have h1 := (List.Nodup.mem_erase_iff hd).1 hx
      have h2 := h x h1.2
      omega
    have := List.length_erase (a := (n : Int)) (l := l)
    split at this <;> omega
theorem fromOK_iff : ∀ (l : List Int) (i : Nat), fromOK l i = true ↔ ∀ (j : Nat) u, l[j]? = some u → -1 ≤ u ∧ u < ((i + j : Nat) : Int)
  | [], i => by simp [fromOK]
  | u :: l, i => by
    simp only [fromOK, Bool.and_eq_true, decide_eq_true_eq, fromOK_iff l (i + 1)]
    constructor
    · rintro ⟨⟨h1, h2⟩, h3⟩ j v hj
      cases j with
      | zero =>
        have e : u = v := by simpa using hj
        subst e; exact ⟨h1, by simpa using h2⟩
      | succ j =>
        have := h3 j v (by simpa using hj)
        rw [show i + (j + 1) = i + 1 + j by omega]; exact this
    · intro h
      have h0 := h 0 u rfl
      refine ⟨⟨h0.1, by simpa using h0.2⟩, fun j v hj => ?_⟩
      have := h (j + 1) v (by simpa using hj)
      rw [show i + 1 + j = i + (j + 1) by omega]; exact this
theorem pairOK_iff {n : Nat} : ∀ {ks : List K} {ds : List Int} {sk : List K} {sd : List Int}, ks.length = ds.length → (pairOK n ks ds sk sd = true ↔
    (∀ k ∈ ks, kOK k = true ∧ k ∉ sk) ∧ ks.Nodup ∧ (∀ d ∈ ds, (0 ≤ d ∧ d < (n : Int)) ∧ d ∉ sd) ∧ ds.Nodup)
  | [], [], sk, sd, _ => by simp [pairOK]
  | [], d :: ds, _, _, h => by simp at h
  | k :: ks, [], _, _, h => by simp at h
  | k :: ks, d :: ds, sk, sd, h => by
    simp only [pairOK, Bool.and_eq_true, decide_eq_true_eq, Bool.not_eq_true', decide_eq_false_iff_not, pairOK_iff (ks := ks) (ds := ds) (by simpa using h), List.mem_cons, List.nodup_cons, forall_eq_or_imp, List.mem_append, List.not_mem_nil, or_false, not_or]
    constructor
    · rintro ⟨⟨⟨⟨⟨h1, h2⟩, h3⟩, h4⟩, h5⟩, h6, h7, h8, h9⟩
      exact ⟨⟨⟨h5, h1⟩, fun x hx => ⟨(h6 x hx).1, (h6 x hx).2.1⟩⟩, ⟨fun hk => (h6 k hk).2.2 rfl, h7⟩, ⟨⟨⟨h3, h4⟩, h2⟩, fun x hx => ⟨(h8 x hx).1, (h8 x hx).2.1⟩⟩, ⟨fun hd => (h8 d hd).2.2 rfl, h9⟩⟩
    · rintro ⟨⟨⟨h5, h1⟩, h6⟩, ⟨h7a, h7⟩, ⟨⟨⟨h3, h4⟩, h2⟩, h8⟩, h9a, h9⟩
      exact ⟨⟨⟨⟨⟨h1, h2⟩, h3⟩, h4⟩, h5⟩, fun x hx => ⟨(h6 x hx).1, (h6 x hx).2, fun e => h7a (e ▸ hx)⟩, h7, fun x hx => ⟨(h8 x hx).1, (h8 x hx).2, fun e => h9a (e ▸ hx)⟩, h9⟩
structure GoodP (g : G) : Prop where
  len : g.keys.length = g.ids.length
  max : g.from_.length ≤ 4096
  up : ∀ (j : Nat) u, g.from_[j]? = some u → -1 ≤ u ∧ u < (j : Int)
  kok : ∀ k ∈ g.keys, kOK k = true
  knd : g.keys.Nodup
  dok : ∀ d ∈ g.ids, 0 ≤ d ∧ d < (g.from_.length : Int)
  dnd : g.ids.Nodup
theorem good_iff {g : G} : good g = true ↔ GoodP g := by
  unfold good
  simp only [Bool.and_eq_true, decide_eq_true_eq]
  constructor
  · rintro ⟨⟨⟨h1, h2⟩, h3⟩, h4⟩
    obtain ⟨p1, p2, p3, p4⟩ := (pairOK_iff h1).1 h4
    exact ⟨h1, h2, fun j u hj => by have := (fromOK_iff _ 0).1 h3 j u hj; simpa using this, fun k hk => (p1 k hk).1, p2, fun d hd => (p3 d hd).1, p4⟩
  · intro h
    exact ⟨⟨⟨h.len, h.max⟩, (fromOK_iff _ 0).2 fun j u hj => by simpa using h.up j u hj⟩, (pairOK_iff h.len).2 ⟨fun k hk => ⟨h.kok k hk, by simp⟩, h.knd, fun d hd => ⟨h.dok d hd, by simp⟩, h.dnd⟩⟩
theorem GoodP.le {g : G} (h : GoodP g) : g.ids.length ≤ g.from_.length := nodup_small _ _ h.dnd h.dok
theorem good_small {g : G} (h : good g = true) : Small g := by
  have := good_iff.1 h
  have h1 := this.le
  have h2 := this.max
  have h3 := this.len
  exact ⟨by omega, by omega, by omega⟩
/-! What is added. -/
def del {α : Type} (l : List α) (i : Nat) : List α := l.take i ++ l.drop (i + 1)
def born (g : G) (k : K) (u : Int) : G × Int := if 4096 ≤ g.from_.length then (g, 6) else (⟨g.keys ++ [k], g.ids ++ [(g.from_.length : Int)], g.from_ ++ [u]⟩, 0)
def bad (b : B) : Prop := b.kind < 1 ∨ b.kind > 4 ∨ kOK b.key = false ∨ ((b.kind = 2 ∨ b.kind = 3) ∧ kOK b.from_ = false)
instance (b : B) : Decidable (bad b) := inferInstanceAs (Decidable (b.kind < 1 ∨ b.kind > 4 ∨ kOK b.key = false ∨ ((b.kind = 2 ∨ b.kind = 3) ∧ kOK b.from_ = false)))
def addS (g : G) (b : B) : G × Int :=
  if good g = false ∨ bad b then (g, 2)
  else if b.kind = 4 then (if idx g.keys b.key < 0 then (g, 7) else (⟨del g.keys (idx g.keys b.key).toNat, del g.ids (idx g.keys b.key).toNat, g.from_⟩, 0))
  else if (b.kind = 2 ∨ b.kind = 3) ∧ idx g.keys b.from_ < 0 then (g, 7)
  else if 0 ≤ idx g.keys b.key then (g, 8)
  else if b.kind = 3 then (⟨g.keys.set (idx g.keys b.from_).toNat b.key, g.ids, g.from_⟩, 0)
  else born g b.key (if b.kind = 2 then g.ids.getD (idx g.keys b.from_).toNat 0 else -1)
abbrev GT := List (List DV) × (List (List DV) × (List (List DV) × Unit))
def tG (g : G) : GT := (g.keys.map encK, (g.ids.map ei, (g.from_.map ei, ())))
def tA (r : G × Int) : GT × (Int × Unit) := (tG r.1, (r.2, ()))
theorem born_ok (g : G) (k : K) (u : Int) (hs : Small g) : ghost_born.R (g.keys.map encK) (g.ids.map ei) (g.from_.map ei) k.obj k.slot u = some (tA (born g k u)) := by
  refine ghost_born.start _ _ _ _ _ _ _ ?_
  have h1 := hs.keys
  have h2 := hs.ids
  have h3 := hs.from_
  unfold born
  simp only [List.length_map]
  by_cases h : 4096 ≤ g.from_.length
  · rw [if_pos h, decide_eq_true (by omega)]; rfl
  · rw [if_neg h, decide_eq_false (by omega)]
    simp only [cond_false, encK_is, List.take_succ_cons, List.take_zero, List.take_length, needs_iff, List.length_append, List.length_map, List.length_cons, List.length_nil]
    refine ⟨by omega, trivial, by omega, by omega, trivial, by omega, by omega, trivial, by omega, ?_⟩
    unfold tA tG
    simp only [List.map_append, List.map_cons, List.map_nil]
    rw [List.take_of_length_le (by simp), List.take_of_length_le (by simp), List.take_of_length_le (by simp)]
    rfl
theorem birth_ok (b : B) : ghost_isBirth.R b.kind b.key.obj b.key.slot b.from_.obj b.from_.slot = some (!decide (b.kind < 1 ∨ b.kind > 4 ∨ kOK b.key = false ∨ ((b.kind = 2 ∨ b.kind = 3) ∧ kOK b.from_ = false)), ()) := by
  refine ghost_isBirth.start _ _ _ _ _ _ ?_
  simp only [order_ok, optAll_so, er_zero]
  have two : ∀ k : Int, (k = 2 ∨ k = 3) → ((!decide (k < 1 ∨ k > 4 ∨ kOK b.key = false ∨ ((k = 2 ∨ k = 3) ∧ kOK b.from_ = false))) = (kOK b.key && kOK b.from_)) := by
    intro k hk
    cases kOK b.key <;> cases kOK b.from_ <;> simp [hk] <;> omega
  have one : ∀ k : Int, (k = 1 ∨ k = 4) → ((!decide (k < 1 ∨ k > 4 ∨ kOK b.key = false ∨ ((k = 2 ∨ k = 3) ∧ kOK b.from_ = false))) = kOK b.key) := by
    intro k hk
    have : ¬ (k = 2 ∨ k = 3) := by omega
    cases kOK b.key <;> simp [this] <;> omega
  by_cases h2 : b.kind = 2
  · rw [two _ (.inl h2), h2]
    simp only [beq_self_eq_true, cond_true]
    cases kOK b.key <;> rfl
  rw [show (b.kind == 2) = false by simpa using h2]
  by_cases h3 : b.kind = 3
  · rw [two _ (.inr h3), h3]
    simp only [beq_self_eq_true, cond_true, cond_false]
    cases kOK b.key <;> rfl
  rw [show (b.kind == 3) = false by simpa using h3]
  by_cases h1 : b.kind = 1
  · rw [one _ (.inl h1), h1]; rfl
  rw [show (b.kind == 1) = false by simpa using h1]
  by_cases h4 : b.kind = 4
  · rw [one _ (.inr h4), h4]; rfl
  rw [show (b.kind == 4) = false by simpa using h4, decide_eq_true (by omega)]
  rfl
theorem over_two (L T Z : List (List DV)) (i n : Nat) (hi : i ≤ L.length) (hn : n = i + T.length) (hT : n ≤ L.length) : (overD (overD L i T) n Z).take n = L.take i ++ T := by
  have h1 : (overD L i T).length = L.length := by
    unfold overD
    simp only [List.length_append, List.length_take, List.length_drop]
    omega
  have h2 : ((overD L i T).take n).length = n := by rw [List.length_take, h1]; omega
  rw [show overD (overD L i T) n Z = (overD L i T).take n ++ (Z ++ (overD L i T).drop (n + Z.length)) from rfl]
  rw [List.take_append_of_le_length (by omega), List.take_take, Nat.min_self]
  rw [show overD L i T = L.take i ++ (T ++ L.drop (i + T.length)) from rfl, ← List.append_assoc]
  rw [List.take_append_of_le_length (by simp only [List.length_append, List.length_take]; omega)]
  exact List.take_of_length_le (by simp only [List.length_append, List.length_take]; omega)
end Ghost
namespace Ghost
open Kit
section
variable {L : List (List DV)} {n k : Nat} (hn : L.length = n) (hk : k < n)
include hn hk
theorem cut_take : (L.drop (k + 1)).take (n - (k + 1)) = L.drop (k + 1) := List.take_of_length_le (by rw [List.length_drop]; omega)
theorem cut_len : (L.drop (k + 1)).length = n - (k + 1) := by rw [List.length_drop]; omega
theorem cut_over : (overD L k (L.drop (k + 1))).length = n := by
  unfold overD
  simp only [List.length_append, List.length_take, List.length_drop]
  omega
theorem cut_fin (Z : List (List DV)) : (overD (overD L k (L.drop (k + 1))) (n - 1) Z).take (n - 1) = L.take k ++ L.drop (k + 1) :=
  over_two L (L.drop (k + 1)) Z k (n - 1) (by omega) (by rw [cut_len hn hk]; omega) (by omega)
end
theorem sum_cut {n k : Nat} (hk : k < n) : k + (n - (k + 1)) = n - 1 := by omega
theorem map_del {α : Type} (f : α → List DV) (l : List α) (k : Nat) : (del l k).map f = (l.map f).take k ++ (l.map f).drop (k + 1) := by
  unfold del
  rw [List.map_append, List.map_take, List.map_drop]
theorem add_bad {g : G} {b : B} (h : good g = false ∨ bad b) : addS g b = (g, 2) := by
  unfold addS
  rw [if_pos h]
theorem add_die {g : G} {b : B} (hg : good g = true) (hb : ¬ bad b) (h4 : b.kind = 4) : addS g b = if idx g.keys b.key < 0 then (g, 7) else (⟨del g.keys (idx g.keys b.key).toNat, del g.ids (idx g.keys b.key).toNat, g.from_⟩, 0) := by
  unfold addS
  rw [if_neg (fun h => h.elim (fun h => by rw [hg] at h; cases h) hb), if_pos h4]
theorem add_two {g : G} {b : B} (hg : good g = true) (hb : ¬ bad b) (h2 : b.kind = 2 ∨ b.kind = 3) : addS g b = if idx g.keys b.from_ < 0 then (g, 7) else if 0 ≤ idx g.keys b.key then (g, 8)
    else if b.kind = 3 then (⟨g.keys.set (idx g.keys b.from_).toNat b.key, g.ids, g.from_⟩, 0) else born g b.key (g.ids.getD (idx g.keys b.from_).toNat 0) := by
  unfold addS
  rw [if_neg (fun h => h.elim (fun h => by rw [hg] at h; cases h) hb), if_neg (by omega)]
  by_cases h1 : idx g.keys b.from_ < 0
  · rw [if_pos ⟨h2, h1⟩, if_pos h1]
  · rw [if_neg (fun h => h1 h.2), if_neg h1]
    by_cases h3 : 0 ≤ idx g.keys b.key
    · rw [if_pos h3, if_pos h3]
    · rw [if_neg h3, if_neg h3]
      by_cases h5 : b.kind = 3
      · rw [if_pos h5, if_pos h5]
      · rw [if_neg h5, if_neg h5, if_pos (by omega)]
theorem add_root {g : G} {b : B} (hg : good g = true) (hb : ¬ bad b) (h1 : b.kind = 1) : addS g b = if 0 ≤ idx g.keys b.key then (g, 8) else born g b.key (-1) := by
  unfold addS
  rw [if_neg (fun h => h.elim (fun h => by rw [hg] at h; cases h) hb), if_neg (by omega), if_neg (by omega)]
  by_cases h3 : 0 ≤ idx g.keys b.key
  · rw [if_pos h3, if_pos h3]
  · rw [if_neg h3, if_neg h3, if_neg (by omega), if_neg (by omega)]
theorem kinds {b : B} (h : ¬ bad b) : b.kind = 1 ∨ b.kind = 2 ∨ b.kind = 3 ∨ b.kind = 4 := by
  unfold bad at h
  omega
theorem add_ok (g : G) (b : B) (hs : Small g) : ghost_Add.R (g.keys.map encK) (g.ids.map ei) (g.from_.map ei) b.kind b.key.obj b.key.slot b.from_.obj b.from_.slot = some (tA (addS g b)) := by
  refine ghost_Add.start _ _ _ _ _ _ _ _ _ ?_
  simp only [birth_ok, check_ok g hs, index_ok g.keys b.key hs.keys, index_ok g.keys b.from_ hs.keys, optAll_so]
  have hbd : decide (b.kind < 1 ∨ b.kind > 4 ∨ kOK b.key = false ∨ ((b.kind = 2 ∨ b.kind = 3) ∧ kOK b.from_ = false)) = decide (bad b) := decide_eq_decide.2 Iff.rfl
  rw [hbd]
  by_cases hb : bad b
  · rw [decide_eq_true hb, add_bad (.inr hb)]; rfl
  rw [decide_eq_false hb]
  simp only [Bool.not_false, Bool.not_true, cF]
  cases hg : good g
  · rw [add_bad (.inl hg)]; rfl
  simp only [er, bne_self_eq_false, cF]
  have hl := (good_iff.1 hg).len
  have hsk := hs.keys
  rcases kinds hb with h | h | h | h
  · -- a root
    rw [add_root hg hb h, h]
    simp only [Int.reduceBEq, cF, cT]
    by_cases h3 : 0 ≤ idx g.keys b.key
    · rw [if_pos h3, decide_eq_true (show idx g.keys b.key ≥ 0 from h3)]; rfl
    · rw [if_neg h3, decide_eq_false (show ¬ idx g.keys b.key ≥ 0 from h3), born_ok g _ _ hs]; rfl
  · rw [add_two hg hb (.inl h), h]
    simp only [Int.reduceBEq, cF, cT]
    by_cases h1 : idx g.keys b.from_ < 0
    · rw [if_pos h1, decide_eq_true h1]; rfl
    rw [if_neg h1, decide_eq_false h1]
    by_cases h3 : 0 ≤ idx g.keys b.key
    · rw [if_pos h3, decide_eq_true (show idx g.keys b.key ≥ 0 from h3)]; rfl
    · rw [if_neg h3, decide_eq_false (show ¬ idx g.keys b.key ≥ 0 from h3)]
      rcases idx_cases g.keys b.from_ with ⟨h5, _⟩ | ⟨k, hk, h5, _⟩
      · omega
      rw [h5]
      have hkd : k < g.ids.length := by omega
      simp only [cF, needs_nat, Int.toNat_natCast, map_get _ _ _ hkd, optAll_so, n0_, born_ok g _ _ hs]
      rw [if_neg (by decide), show g.ids.getD k 0 = g.ids[k] by simp [List.getD, hkd]]
      first | rfl | done
  · rw [add_two hg hb (.inr h), h]
    simp only [Int.reduceBEq, cF, cT]
    by_cases h1 : idx g.keys b.from_ < 0
    · rw [if_pos h1, decide_eq_true h1]; rfl
    rw [if_neg h1, decide_eq_false h1]
    by_cases h3 : 0 ≤ idx g.keys b.key
    · rw [if_pos h3, decide_eq_true (show idx g.keys b.key ≥ 0 from h3)]; rfl
    · rw [if_neg h3, decide_eq_false (show ¬ idx g.keys b.key ≥ 0 from h3)]
      rcases idx_cases g.keys b.from_ with ⟨h5, _⟩ | ⟨k, hk, h5, _⟩
      · omega
      rw [h5]
      have e1 : (g.keys.map encK).set k (putD (encK g.keys[k]) 0 [.v (.int .i64 b.key.obj), .v (.int .i64 b.key.slot)]) = (g.keys.set k b.key).map encK := by rw [List.map_set]; rfl
      have e2 : ((g.keys.set k b.key).map encK).take g.keys.length = (g.keys.set k b.key).map encK := List.take_of_length_le (by simp)
      simp only [cF, Nat.zero_add, Int.toNat_natCast, List.length_map, map_get _ _ _ hk, optAll_so, e1, e2, needs_iff]
      exact ⟨by omega, ⟨by omega, by omega⟩, Nat.le_refl _, rfl⟩
  · rw [add_die hg hb h, h]
    simp only [Int.reduceBEq, cF, cT]
    by_cases h1 : idx g.keys b.key < 0
    · rw [if_pos h1, decide_eq_true h1]; rfl
    rw [if_neg h1, decide_eq_false h1]
    rcases idx_cases g.keys b.key with ⟨h5, _⟩ | ⟨k, hk, h5, h6⟩
    · omega
    clear h6
    rw [h5]
    have hw : IntKind.i64.wrap ((k : Int) + 1) = ((k + 1 : Nat) : Int) := wrap_succ (by omega)
    have e1 : ((k : Int) == ((k + 1 : Nat) : Int)) = false := by
      rw [Bool.eq_false_iff]; intro h; have := beq_iff_eq.1 h; omega
    have hfin : tA (⟨del g.keys k, del g.ids k, g.from_⟩, 0) = (((g.keys.map encK).take k ++ (g.keys.map encK).drop (k + 1), ((g.ids.map ei).take k ++ (g.ids.map ei).drop (k + 1), (g.from_.map ei, ()))), (0, ())) := by
      unfold tA tG
      simp only [map_del]
    rw [Int.toNat_natCast, hfin]
    have hLK : (g.keys.map encK).length = g.keys.length := List.length_map _
    have hLI : (g.ids.map ei).length = g.keys.length := by rw [List.length_map, hl]
    generalize g.keys.map encK = LK at hLK ⊢
    generalize g.ids.map ei = LI at hLI ⊢
    generalize g.keys.length = n at hLK hLI hk hsk
    have e2 : decide (k = n) = false := decide_eq_false (by omega)
    simp only [hw, Int.toNat_natCast, Nat.zero_add, Nat.sub_zero, hLK, hLI, cut_take hLK hk, cut_take hLI hk, cut_len hLK hk, cut_len hLI hk, cut_over hLK hk, cut_over hLI hk, sum_cut hk, cut_fin hLK hk, cut_fin hLI hk, e1, e2, cF, true_and, eq_self, needs_iff]
    repeat' apply And.intro
    all_goals first | omega | trivial | rfl
end Ghost
namespace Ghost
open Kit
theorem take_len_map {α : Type} (f : α → List DV) (l : List α) (n : Nat) (h : n = l.length) : (l.map f).take n = l.map f := by rw [h]; exact take_map_len f l
/-! Who, and who is above. -/
def whoS (g : G) (k : K) : Option Int := if idx g.keys k < 0 then none else if (g.ids.length : Int) ≤ idx g.keys k then none else g.ids[(idx g.keys k).toNat]?
def tW (o : Option Int) : Int × (Bool × Unit) := (o.getD 0, (o.isSome, ()))
theorem who_ok (g : G) (k : K) (hs : Small g) : ghost_Who.R (g.keys.map encK) (g.ids.map ei) (g.from_.map ei) k.obj k.slot = some (tW (whoS g k)) := by
  refine ghost_Who.start _ _ _ _ _ _ ?_
  simp only [index_ok g.keys k hs.keys, optAll_so, List.length_map]
  unfold whoS
  rcases idx_cases g.keys k with ⟨h1, _⟩ | ⟨i, hi, h1, _⟩
  · rw [h1]; rfl
  · rw [h1, decide_eq_false (by omega), if_neg (by omega)]
    by_cases h2 : (g.ids.length : Int) ≤ i
    · rw [if_pos h2, decide_eq_true h2]; rfl
    · have hid : i < g.ids.length := by omega
      rw [if_neg h2, decide_eq_false h2]
      simp only [cF, needs_nat, Int.toNat_natCast, map_get _ _ _ hid, optAll_so, n0_]
      rw [List.getElem?_eq_getElem hid]
      rfl
def aboveF (f : List Int) : Nat → Int → List Int
  | 0, _ => []
  | n + 1, id => if id < 0 ∨ (f.length : Int) ≤ id then [] else if f.getD id.toNat 0 < 0 ∨ id ≤ f.getD id.toNat 0 then [] else f.getD id.toNat 0 :: aboveF f n (f.getD id.toNat 0)
def aboveS (g : G) (id : Int) : List Int := aboveF g.from_ (id.toNat + 1) id
theorem above_loop (g : G) (hs : Small g) : ∀ (n : Nat) (id : Int) (acc : List Int), id.toNat < n → (id < g.from_.length → acc.length + id.toNat < 2000000) → acc.length < 2000000 →
    ghost_Above.H2 id (acc.map ei) (g.keys.map encK) (g.ids.map ei) (g.from_.map ei) ((acc ++ aboveF g.from_ n id).map ei, ())
  | 0, id, acc, h, _, _ => absurd h (by omega)
  | n + 1, id, acc, h, ha, ha2 => by
    have hsf := hs.from_
    refine ghost_Above.H2_step _ _ _ _ _ _ ?_
    rw [aboveF]
    simp only [List.length_map, take_map_len]
    by_cases h1 : id ≥ 0
    · rw [decide_eq_true h1]
      by_cases h2 : id < g.from_.length
      · rw [decide_eq_true h2]
        obtain ⟨i, rfl⟩ : ∃ i : Nat, id = i := ⟨id.toNat, by omega⟩
        have hi : i < g.from_.length := by omega
        have hac := ha h2
        simp only [cT, needs_nat, Int.toNat_natCast, map_get _ _ _ hi, optAll_so, n0_]
        rw [if_neg (by omega), show g.from_.getD i 0 = g.from_[i] by simp [List.getD, hi]]
        by_cases h3 : g.from_[i] < 0
        · rw [decide_eq_true h3, if_pos (.inl h3), List.append_nil]; rfl
        rw [decide_eq_false h3]
        by_cases h4 : g.from_[i] ≥ i
        · rw [decide_eq_true h4, if_pos (.inr h4), List.append_nil]; rfl
        rw [decide_eq_false h4, if_neg (by omega)]
        simp only [Int.toNat_natCast] at hac
        have nxt := above_loop g hs n g.from_[i] (acc ++ [g.from_[i]]) (by omega) (fun _ => by simp only [List.length_append, List.length_cons, List.length_nil]; omega) (by simp only [List.length_append, List.length_cons, List.length_nil]; omega)
        rw [List.append_assoc, List.map_append] at nxt
        simp only [cF, List.take_succ_cons, List.take_zero, needs_iff, List.length_append, List.length_map, List.length_cons, List.length_nil]
        exact ⟨trivial, by omega, nxt⟩
      · rw [decide_eq_false h2, if_pos (.inr (by omega)), List.append_nil]; rfl
    · rw [decide_eq_false h1, if_pos (.inl (by omega)), List.append_nil]; rfl
theorem above_ok (g : G) (id : Int) (hs : Small g) : ghost_Above.R (g.keys.map encK) (g.ids.map ei) (g.from_.map ei) id = some ((aboveS g id).map ei, ()) := by
  refine ghost_Above.start _ _ _ _ _ ?_
  have hsf := hs.from_
  have := above_loop g hs (id.toNat + 1) id [] (by omega) (fun h => by simp only [List.length_nil]; omega) (by decide)
  rw [List.nil_append] at this
  exact this
theorem above_len (f : List Int) : ∀ (n : Nat) (id : Int), (aboveF f n id).length ≤ n
  | 0, _ => Nat.le_refl _
  | n + 1, id => by
    rw [aboveF]
    split
    · exact Nat.zero_le _
    · split
      · exact Nat.zero_le _
      · rw [List.length_cons]; exact Nat.succ_le_succ (above_len f n _)
def descS (g : G) (a b : K) : Bool := match whoS g a, whoS g b with
  | some x, some y => decide (y ∈ aboveS g x)
  | _, _ => false
theorem above_small (g : G) (id : Int) (hs : Small g) : (aboveS g id).length < 1000000 := by
  unfold aboveS
  have hsf := hs.from_
  by_cases h : id.toNat + 1 < 1000000
  · have := above_len g.from_ (id.toNat + 1) id; omega
  · rw [aboveF, if_pos (.inr (by omega))]; decide
theorem desc_ok (g : G) (a b : K) (hs : Small g) : ghost_Descends.R (g.keys.map encK) (g.ids.map ei) (g.from_.map ei) a.obj a.slot b.obj b.slot = some (descS g a b, ()) := by
  refine ghost_Descends.start _ _ _ _ _ _ _ _ ?_
  simp only [who_ok g _ hs, optAll_so, tW]
  unfold descS
  cases whoS g a with
  | none => rfl
  | some x =>
    cases whoS g b with
    | none => rfl
    | some y =>
      simp only [Option.isSome_some, cT, Option.getD_some, above_ok g x hs, optAll_so, contains_ok _ _ (above_small g x hs)]
/-! All that befell. -/
def runF : G → Int → List B → G × Int
  | g, n, [] => (g, n)
  | g, n, b :: l => if (addS g b).2 = 0 then runF (addS g b).1 n l else runF g (n + 1) l
def g0 : G := ⟨[], [], []⟩
def runS (l : List B) : G × Int := runF g0 0 l
end Ghost
namespace Ghost
open Kit
theorem born_err {g : G} {k : K} {u : Int} (h : (born g k u).2 ≠ 0) : (born g k u).1 = g := by
  unfold born at h ⊢
  split
  · rfl
  · rename_i h1; rw [if_neg h1] at h; exact absurd rfl h
theorem addS_err {g : G} {b : B} (h : (addS g b).2 ≠ 0) : (addS g b).1 = g := by
  by_cases hx : good g = false ∨ bad b
  · rw [add_bad hx]
  have hg : good g = true := by cases hg : good g with | false => exact absurd (.inl hg) hx | true => rfl
  have hb : ¬ bad b := fun e => hx (.inr e)
  rcases kinds hb with h1 | h1 | h1 | h1
  · rw [add_root hg hb h1] at h ⊢
    split at h
    · rename_i h2; rw [if_pos h2]
    · rename_i h2; rw [if_neg h2]; exact born_err h
  · rw [add_two hg hb (.inl h1)] at h ⊢
    split at h
    · rename_i h2; rw [if_pos h2]
    · rename_i h2; rw [if_neg h2]
      split at h
      · rename_i h3; rw [if_pos h3]
      · rename_i h3; rw [if_neg h3]
        split at h
        · exact absurd rfl h
        · rename_i h4; rw [if_neg h4]; exact born_err h
  · rw [add_two hg hb (.inr h1)] at h ⊢
    split at h
    · rename_i h2; rw [if_pos h2]
    · rename_i h2; rw [if_neg h2]
      split at h
      · rename_i h3; rw [if_pos h3]
      · rename_i h3; rw [if_neg h3]
        exact absurd rfl h
  · rw [add_die hg hb h1] at h ⊢
    split at h
    · rename_i h2; rw [if_pos h2]
    · exact absurd rfl h
theorem del_sub {α : Type} (l : List α) (i : Nat) : (del l i).Sublist l := by
  unfold del
  have h : (l.drop (i + 1)).Sublist (l.drop i) := by
    rw [← List.drop_drop]
    exact List.drop_sublist _ _
  have := List.Sublist.append (List.Sublist.refl (l.take i)) h
  rwa [List.take_append_drop] at this
theorem del_len {α : Type} (l : List α) (i : Nat) (h : i < l.length) : (del l i).length = l.length - 1 := by
  unfold del
  simp only [List.length_append, List.length_take, List.length_drop]
  omega
theorem nodup_set {α : Type} {l : List α} (h : l.Nodup) {a : α} (ha : a ∉ l) (i : Nat) : (l.set i a).Nodup := by
  refine List.pairwise_iff_getElem.2 fun j k hj hk hjk => ?_
  rw [List.length_set] at hj hk
  have hp := List.pairwise_iff_getElem.1 h j k hj hk hjk
  rw [List.getElem_set, List.getElem_set]
  split
  · split
    · omega
    · intro e; exact ha (e ▸ List.getElem_mem hk)
  · split
    · intro e; exact ha (e ▸ List.getElem_mem hj)
    · exact hp
theorem born_good {g : G} (h : GoodP g) {k : K} (hk : kOK k = true) (hn : k ∉ g.keys) {u : Int} (hu : -1 ≤ u ∧ u < (g.from_.length : Int)) : GoodP (born g k u).1 := by
  unfold born
  split
  · exact h
  · rename_i hm
    refine ⟨?_, ?_, ?_, ?_, ?_, ?_, ?_⟩
    · simp only [List.length_append, List.length_cons, List.length_nil, h.len]
    · simp only [List.length_append, List.length_cons, List.length_nil]; omega
    · intro j v hj
      simp only at hj
      rw [List.getElem?_append] at hj
      split at hj
      · exact h.up j v hj
      · rename_i hl
        have hv : v ∈ [u] := List.mem_of_getElem? hj
        have e : v = u := by simpa using hv
        rw [e]
        refine ⟨hu.1, ?_⟩
        omega
    · intro x hx
      rcases List.mem_append.1 hx with hx | hx
      · exact h.kok x hx
      · have e : x = k := by simpa using hx
        rw [e]; exact hk
    · exact List.nodup_append.2 ⟨h.knd, by simp, fun a ha b hb => by
        have e : b = k := by simpa using hb
        rw [e]; exact fun e2 => hn (e2 ▸ ha)⟩
    · intro d hd
      simp only [List.length_append, List.length_cons, List.length_nil]
      rcases List.mem_append.1 hd with hd | hd
      · have := h.dok d hd; omega
      · have e : d = (g.from_.length : Int) := by simpa using hd
        rw [e]; omega
    · exact List.nodup_append.2 ⟨h.dnd, by simp, fun a ha b hb => by
        have e : b = (g.from_.length : Int) := by simpa using hb
        have := h.dok a ha
        rw [e]; omega⟩
theorem bad_key {b : B} (h : ¬ bad b) : kOK b.key = true := by
  cases hk : kOK b.key with
  | true => rfl
  | false => exact absurd (.inr (.inr (.inl hk))) h
theorem addS_good {g : G} (hg : good g = true) (b : B) : good (addS g b).1 = true := by
  by_cases hb : bad b
  · rw [add_bad (.inr hb)]; exact hg
  have h := good_iff.1 hg
  refine good_iff.2 ?_
  have new : ¬ 0 ≤ idx g.keys b.key → b.key ∉ g.keys := fun hx => by
    rcases idx_cases g.keys b.key with ⟨_, h2⟩ | ⟨k, _, h2, _⟩
    · exact h2
    · omega
  have two : ¬ idx g.keys b.from_ < 0 → ∃ k, idx g.keys b.from_ = (k : Nat) ∧ k < g.keys.length := fun hx => by
    rcases idx_cases g.keys b.from_ with ⟨h2, _⟩ | ⟨k, hk, h2, _⟩
    · omega
    · exact ⟨k, h2, hk⟩
  have set_good : ∀ k, b.key ∉ g.keys → GoodP ⟨g.keys.set k b.key, g.ids, g.from_⟩ := fun k hn =>
    ⟨by show (g.keys.set k b.key).length = _; rw [List.length_set]; exact h.len, h.max, h.up, fun x hx => by
      rcases List.mem_or_eq_of_mem_set hx with hx | hx
      · exact h.kok x hx
      · rw [hx]; exact bad_key hb, nodup_set h.knd hn k, h.dok, h.dnd⟩
  rcases kinds hb with h1 | h1 | h1 | h1
  · rw [add_root hg hb h1]
    split
    · exact h
    · rename_i h3
      exact born_good h (bad_key hb) (new h3) ⟨Int.le_refl _, by omega⟩
  · rw [add_two hg hb (.inl h1)]
    split
    · exact h
    · rename_i h2
      obtain ⟨k, h4, h5⟩ := two h2
      split
      · exact h
      · rename_i h3
        rw [if_neg (by omega)]
        have hkd : k < g.ids.length := by rw [← h.len]; exact h5
        have := h.dok (g.ids[k]) (List.getElem_mem hkd)
        refine born_good h (bad_key hb) (new h3) ?_
        rw [h4, Int.toNat_natCast, show g.ids.getD k 0 = g.ids[k] by simp [List.getD, hkd]]
        omega
  · rw [add_two hg hb (.inr h1)]
    split
    · exact h
    · split
      · exact h
      · rename_i h3
        exact set_good _ (new h3)
  · rw [add_die hg hb h1]
    split
    · exact h
    · rename_i h2
      rcases idx_cases g.keys b.key with ⟨h5, _⟩ | ⟨k, hk, h5, _⟩
      · omega
      rw [h5, Int.toNat_natCast]
      exact ⟨by show (del g.keys k).length = (del g.ids k).length; rw [del_len _ _ hk, del_len _ _ (by rw [← h.len]; exact hk), h.len], h.max, h.up, fun x hx => h.kok x ((del_sub _ _).subset hx), (del_sub _ _).nodup h.knd, fun x hx => h.dok x ((del_sub _ _).subset hx), (del_sub _ _).nodup h.dnd⟩
theorem runF_good : ∀ (l : List B) (g : G) (n : Int), good g = true → good (runF g n l).1 = true
  | [], g, n, h => h
  | b :: l, g, n, h => by
    rw [runF]
    split
    · exact runF_good l _ _ (addS_good h b)
    · exact runF_good l _ _ h
theorem g0_good : good g0 = true := rfl
theorem run_good (l : List B) : good (runS l).1 = true := runF_good l g0 0 g0_good
theorem runF_append : ∀ (l m : List B) (g : G) (n : Int), runF g n (l ++ m) = runF (runF g n l).1 (runF g n l).2 m
  | [], m, g, n => rfl
  | b :: l, m, g, n => by
    rw [List.cons_append, runF, runF]
    split
    · exact runF_append l m _ _
    · exact runF_append l m _ _
theorem run_ok (l : List B) (hl : l.length < 1000000) : ghost_Run.R (l.map encB) = some (tA (runS l)) := by
  refine ghost_Run.start _ _ ?_
  have key : ∀ (m i : Nat) (g : G) (n : Int), i + m = l.length → good g = true → 0 ≤ n ∧ n ≤ i →
      ghost_Run.H3 n (l.map encB) l.length i (g.keys.map encK) (g.ids.map ei) (g.from_.map ei) (tA (runF g n (l.drop i))) := by
    intro m
    induction m with
    | zero =>
      intro i g n hi hg hn
      refine ghost_Run.H3_step _ _ _ _ _ _ _ _ ?_
      rw [decide_eq_false (by omega), List.drop_eq_nil_of_le (by omega)]
      rfl
    | succ m ih =>
      intro i g n hi hg hn
      refine ghost_Run.H3_step _ _ _ _ _ _ _ _ ?_
      have hil : i < l.length := by omega
      have hw : IntKind.i64.wrap (n + 1) = n + 1 := wrap_id (by omega) (by omega)
      rw [decide_eq_true (by omega), List.drop_eq_getElem_cons hil, runF]
      simp only [cT, needs_nat, Int.toNat_natCast, map_get _ _ _ hil, optAll_so, b0_, b1_, b2_, b3_, b4_, add_ok g l[i] (good_small hg), hw, wrap_succ (show i < 4611686018427387904 by omega), tA, tG]
      by_cases he : (addS g l[i]).2 = 0
      · rw [if_pos he, show ((addS g l[i]).2 != 0) = false by simpa using he]
        exact ih (i + 1) _ n (by omega) (addS_good hg _) (by omega)
      · rw [if_neg he, show ((addS g l[i]).2 != 0) = true by simpa using he]
        exact ih (i + 1) g (n + 1) (by omega) hg (by omega)
  rw [List.length_map]
  exact key l.length 0 g0 0 (by omega) g0_good (by omega)
/-! Are two the same? -/
/-! Laws. -/
theorem addS_small {g : G} (hs : Small g) (b : B) : Small (addS g b).1 := by
  cases hg : good g
  · rw [add_bad (.inl hg)]; exact hs
  · exact good_small (addS_good hg b)
theorem runF_n : ∀ (l : List B) (g : G) (n : Int), n ≤ (runF g n l).2 ∧ (runF g n l).2 ≤ n + l.length
  | [], g, n => by simp [runF]
  | b :: l, g, n => by
    rw [runF]
    split
    · have := runF_n l (addS g b).1 n
      simp only [List.length_cons]; omega
    · have := runF_n l g (n + 1)
      simp only [List.length_cons]; omega
end Ghost
namespace Ghost
open Kit
/-! Who is above. -/
theorem aboveF_fuel (f : List Int) : ∀ (n m : Nat) (id : Int), id.toNat < n → id.toNat < m → aboveF f n id = aboveF f m id
  | 0, _, _, h, _ => absurd h (by omega)
  | _, 0, _, _, h => absurd h (by omega)
  | n + 1, m + 1, id, h1, h2 => by
    rw [aboveF, aboveF]
    by_cases h : id < 0 ∨ (f.length : Int) ≤ id
    · rw [if_pos h, if_pos h]
    · rw [if_neg h, if_neg h]
      by_cases h3 : f.getD id.toNat 0 < 0 ∨ id ≤ f.getD id.toNat 0
      · rw [if_pos h3, if_pos h3]
      · rw [if_neg h3, if_neg h3, aboveF_fuel f n m _ (by omega) (by omega)]
def ab (f : List Int) (id : Int) : List Int := aboveF f (id.toNat + 1) id
theorem ab_eq (f : List Int) (id : Int) : ab f id = if id < 0 ∨ (f.length : Int) ≤ id then [] else if f.getD id.toNat 0 < 0 ∨ id ≤ f.getD id.toNat 0 then [] else f.getD id.toNat 0 :: ab f (f.getD id.toNat 0) := by
  unfold ab
  rw [aboveF]
  by_cases h : id < 0 ∨ (f.length : Int) ≤ id
  · rw [if_pos h, if_pos h]
  · rw [if_neg h, if_neg h]
    by_cases h3 : f.getD id.toNat 0 < 0 ∨ id ≤ f.getD id.toNat 0
    · rw [if_pos h3, if_pos h3]
    · rw [if_neg h3, if_neg h3, aboveF_fuel f id.toNat ((f.getD id.toNat 0).toNat + 1) _ (by omega) (by omega)]
theorem ab_cases (f : List Int) (id : Int) : ab f id = [] ∨ ∃ u, 0 ≤ u ∧ u < id ∧ u < f.length ∧ ab f id = u :: ab f u := by
  rw [ab_eq]
  by_cases h : id < 0 ∨ (f.length : Int) ≤ id
  · rw [if_pos h]; exact .inl rfl
  · rw [if_neg h]
    by_cases h3 : f.getD id.toNat 0 < 0 ∨ id ≤ f.getD id.toNat 0
    · rw [if_pos h3]; exact .inl rfl
    · rw [if_neg h3]; exact .inr ⟨_, by omega, by omega, by omega, rfl⟩
theorem ab_lt (f : List Int) : ∀ (n : Nat) (id z : Int), id.toNat < n → z ∈ ab f id → 0 ≤ z ∧ z < id
  | 0, _, _, h, _ => absurd h (by omega)
  | n + 1, id, z, h, hz => by
    rcases ab_cases f id with e | ⟨u, h1, h2, _, e⟩
    · rw [e] at hz; simp at hz
    · rw [e] at hz
      rcases List.mem_cons.1 hz with hz | hz
      · rw [hz]; omega
      · have := ab_lt f n u z (by omega) hz; omega
theorem ab_trans (f : List Int) : ∀ (n : Nat) (x y z : Int), x.toNat < n → y ∈ ab f x → z ∈ ab f y → z ∈ ab f x
  | 0, _, _, _, h, _, _ => absurd h (by omega)
  | n + 1, x, y, z, h, hy, hz => by
    rcases ab_cases f x with e | ⟨u, h1, h2, _, e⟩
    · rw [e] at hy; simp at hy
    · rw [e] at hy ⊢
      rcases List.mem_cons.1 hy with hy | hy
      · rw [hy] at hz; exact List.mem_cons_of_mem _ hz
      · exact List.mem_cons_of_mem _ (ab_trans f n u y z (by omega) hy hz)
theorem ab_append (f : List Int) (v : Int) : ∀ (n : Nat) (id : Int), id.toNat < n → id < f.length → ab (f ++ [v]) id = ab f id
  | 0, _, h, _ => absurd h (by omega)
  | n + 1, id, h, hl => by
    rw [ab_eq (f ++ [v]), ab_eq f]
    by_cases h0 : id < 0
    · rw [if_pos (.inl h0), if_pos (.inl h0)]
    · have hi : id.toNat < f.length := by omega
      have e : (f ++ [v]).getD id.toNat 0 = f.getD id.toNat 0 := by simp [List.getD, List.getElem?_append, hi]
      rw [if_neg (show ¬ (id < 0 ∨ ((f ++ [v]).length : Int) ≤ id) by simp only [List.length_append, List.length_cons, List.length_nil]; omega), if_neg (show ¬ (id < 0 ∨ (f.length : Int) ≤ id) by omega), e]
      by_cases h3 : f.getD id.toNat 0 < 0 ∨ id ≤ f.getD id.toNat 0
      · rw [if_pos h3, if_pos h3]
      · rw [if_neg h3, if_neg h3, ab_append f v n _ (by omega) (by omega)]
/-- Each one is older than the one before. -/
def Dec : Int → List Int → Prop
  | _, [] => True
  | x, u :: r => u < x ∧ Dec u r
theorem ab_dec (f : List Int) : ∀ (n : Nat) (id : Int), id.toNat < n → Dec id (ab f id)
  | 0, _, h => absurd h (by omega)
  | n + 1, id, h => by
    rcases ab_cases f id with e | ⟨u, h1, h2, _, e⟩
    · rw [e]; exact trivial
    · rw [e]; exact ⟨h2, ab_dec f n u (by omega)⟩
theorem descS_iff {g : G} {a b : K} : descS g a b = true ↔ ∃ x y, whoS g a = some x ∧ whoS g b = some y ∧ y ∈ ab g.from_ x := by
  unfold descS
  cases whoS g a with
  | none => simp
  | some x =>
    cases whoS g b with
    | none => simp
    | some y =>
      simp only [decide_eq_true_eq, Option.some.injEq]
      exact ⟨fun h => ⟨x, y, rfl, rfl, h⟩, fun ⟨x', y', h1, h2, h3⟩ => by subst h1; subst h2; exact h3⟩
/-! Who stays. -/
theorem who_iff {g : G} (hg : GoodP g) {k : K} {d : Int} : whoS g k = some d ↔ ∃ i : Nat, g.keys[i]? = some k ∧ g.ids[i]? = some d := by
  unfold whoS
  rcases idx_cases g.keys k with ⟨h1, h2⟩ | ⟨i, hi, h1, h2, h3⟩
  · rw [h1, if_pos (by omega)]
    constructor
    · intro h; cases h
    · rintro ⟨j, hj, _⟩; exact absurd (List.mem_of_getElem? hj) h2
  · have hl := hg.len
    rw [h1, if_neg (by omega), if_neg (by omega), Int.toNat_natCast]
    constructor
    · intro h; exact ⟨i, by rw [List.getElem?_eq_getElem hi, h2], h⟩
    · rintro ⟨j, hj, hd⟩
      have hjl := (List.getElem?_eq_some_iff.1 hj).1
      have hje := (List.getElem?_eq_some_iff.1 hj).2
      have : j = i := by
        have hp := List.pairwise_iff_getElem.1 hg.knd
        rcases Nat.lt_trichotomy j i with h | h | h
        · exact absurd (hje.trans h2.symm) (hp j i hjl hi h)
        · exact h
        · exact absurd (h2.trans hje.symm) (hp i j hi hjl h)
      rw [← this]; exact hd
theorem del_get {α : Type} (l : List α) (j i : Nat) (hj : j < l.length) : (del l j)[i]? = if i < j then l[i]? else l[i + 1]? := by
  unfold del
  rw [List.getElem?_append, List.length_take, Nat.min_eq_left (by omega)]
  by_cases h : i < j
  · rw [if_pos h, if_pos h, List.getElem?_take, if_pos h]
  · rw [if_neg h, if_neg h, List.getElem?_drop]
    congr 1; omega
theorem born_who {g : G} (hg : GoodP g) {k a : K} {u x : Int} (hb : (born g k u).2 = 0) (hg2 : GoodP (born g k u).1) (h : whoS g a = some x) : whoS (born g k u).1 a = some x ∧ (born g k u).1.from_ = g.from_ ++ [u] := by
  unfold born at hb hg2 ⊢
  split at hb
  · cases hb
  · rename_i hm
    rw [if_neg hm] at hg2 ⊢
    obtain ⟨i, h1, h2⟩ := (who_iff hg).1 h
    have hi1 := (List.getElem?_eq_some_iff.1 h1).1
    have hi2 := (List.getElem?_eq_some_iff.1 h2).1
    refine ⟨(who_iff hg2).2 ⟨i, ?_, ?_⟩, rfl⟩
    · show (g.keys ++ [k])[i]? = _; rw [List.getElem?_append_left hi1]; exact h1
    · show (g.ids ++ [(g.from_.length : Int)])[i]? = _; rw [List.getElem?_append_left hi2]; exact h2
/-- What a step that is done does to those who are there. -/
theorem step_who {g : G} (hg : good g = true) (b : B) (he : (addS g b).2 = 0) :
    (b.kind = 4 ∧ (addS g b).1.from_ = g.from_ ∧ whoS (addS g b).1 b.key = none ∧ ∀ a x, a ≠ b.key → whoS g a = some x → whoS (addS g b).1 a = some x) ∨
    (b.kind = 3 ∧ (addS g b).1.from_ = g.from_ ∧ (∀ x, whoS g b.from_ = some x → whoS (addS g b).1 b.key = some x) ∧ ∀ a x, a ≠ b.from_ → whoS g a = some x → whoS (addS g b).1 a = some x) ∨
    ((b.kind = 1 ∨ b.kind = 2) ∧ ∃ u, ∀ a x, whoS g a = some x → whoS (addS g b).1 a = some x ∧ (addS g b).1.from_ = g.from_ ++ [u]) := by
  have hgp := good_iff.1 hg
  have hg2 := good_iff.1 (addS_good hg b)
  by_cases hb : bad b
  · rw [add_bad (.inr hb)] at he; cases he
  rcases kinds hb with h1 | h1 | h1 | h1
  · refine .inr (.inr ⟨.inl h1, -1, fun a x ha => ?_⟩)
    rw [add_root hg hb h1] at he hg2 ⊢
    split at he
    · cases he
    · rename_i h3; rw [if_neg h3] at hg2 ⊢
      exact born_who hgp he hg2 ha
  · refine .inr (.inr ⟨.inr h1, g.ids.getD (idx g.keys b.from_).toNat 0, fun a x ha => ?_⟩)
    rw [add_two hg hb (.inl h1)] at he hg2 ⊢
    split at he
    · cases he
    · rename_i h2; rw [if_neg h2] at hg2 ⊢
      split at he
      · cases he
      · rename_i h3; rw [if_neg h3] at hg2 ⊢
        have h4 : ¬ b.kind = 3 := by omega
        rw [if_neg h4] at he hg2 ⊢
        exact born_who hgp he hg2 ha
  · refine .inr (.inl ⟨h1, ?_⟩)
    rw [add_two hg hb (.inr h1)] at he hg2 ⊢
    split at he
    · cases he
    · rename_i h2; rw [if_neg h2] at hg2 ⊢
      split at he
      · cases he
      · rename_i h3; rw [if_neg h3] at hg2 ⊢
        rw [if_pos h1] at hg2 ⊢
        rcases idx_cases g.keys b.from_ with ⟨h5, _⟩ | ⟨k, hk, h5, h6, _⟩
        · omega
        rw [h5, Int.toNat_natCast] at hg2 ⊢
        refine ⟨rfl, fun x hx => ?_, fun a x hne hx => ?_⟩
        · obtain ⟨i, g1, g2⟩ := (who_iff hgp).1 hx
          have hik : i = k := by
            have hjl := (List.getElem?_eq_some_iff.1 g1).1
            have hje := (List.getElem?_eq_some_iff.1 g1).2
            have hp := List.pairwise_iff_getElem.1 hgp.knd
            rcases Nat.lt_trichotomy i k with h | h | h
            · exact absurd (hje.trans h6.symm) (hp i k hjl hk h)
            · exact h
            · exact absurd (h6.trans hje.symm) (hp k i hk hjl h)
          refine (who_iff hg2).2 ⟨i, ?_, g2⟩
          show (g.keys.set k b.key)[i]? = _
          rw [hik, List.getElem?_set_self hk]
        · obtain ⟨i, g1, g2⟩ := (who_iff hgp).1 hx
          refine (who_iff hg2).2 ⟨i, ?_, g2⟩
          show (g.keys.set k b.key)[i]? = _
          rw [List.getElem?_set_ne (fun e => by
            subst e
            rw [List.getElem?_eq_getElem hk, h6] at g1
            exact hne (Option.some.inj g1).symm)]
          exact g1
  · refine .inl ⟨h1, ?_⟩
    rw [add_die hg hb h1] at he hg2 ⊢
    split at he
    · cases he
    · rename_i h2; rw [if_neg h2] at hg2 ⊢
      rcases idx_cases g.keys b.key with ⟨h5, _⟩ | ⟨k, hk, h5, h6, _⟩
      · omega
      rw [h5, Int.toNat_natCast] at hg2 ⊢
      have hkd : k < g.ids.length := by rw [← hgp.len]; exact hk
      refine ⟨rfl, ?_, fun a x hne hx => ?_⟩
      · cases hw : whoS ⟨del g.keys k, del g.ids k, g.from_⟩ b.key with
        | none => rfl
        | some d =>
          obtain ⟨i, g1, _⟩ := (who_iff hg2).1 hw
          have g1 : (del g.keys k)[i]? = some b.key := g1
          rw [del_get _ _ _ hk] at g1
          have hp := List.pairwise_iff_getElem.1 hgp.knd
          split at g1
          · rename_i hik
            have hjl := (List.getElem?_eq_some_iff.1 g1).1
            have hje := (List.getElem?_eq_some_iff.1 g1).2
            exact absurd (hje.trans h6.symm) (hp i k hjl hk hik)
          · rename_i hik
            have hjl := (List.getElem?_eq_some_iff.1 g1).1
            have hje := (List.getElem?_eq_some_iff.1 g1).2
            exact absurd (h6.trans hje.symm) (hp k (i + 1) hk hjl (by omega))
      · obtain ⟨i, g1, g2⟩ := (who_iff hgp).1 hx
        have hik : i ≠ k := fun e => by
          subst e
          rw [List.getElem?_eq_getElem hk, h6] at g1
          exact hne (Option.some.inj g1).symm
        by_cases hlt : i < k
        · refine (who_iff hg2).2 ⟨i, ?_, ?_⟩
          · show (del g.keys k)[i]? = _; rw [del_get _ _ _ hk, if_pos hlt]; exact g1
          · show (del g.ids k)[i]? = _; rw [del_get _ _ _ hkd, if_pos hlt]; exact g2
        · refine (who_iff hg2).2 ⟨i - 1, ?_, ?_⟩
          · show (del g.keys k)[i - 1]? = _; rw [del_get _ _ _ hk, if_neg (by omega), show i - 1 + 1 = i by omega]; exact g1
          · show (del g.ids k)[i - 1]? = _; rw [del_get _ _ _ hkd, if_neg (by omega), show i - 1 + 1 = i by omega]; exact g2
theorem descS_of {g : G} {a b : K} {x y : Int} (h1 : whoS g a = some x) (h2 : whoS g b = some y) : descS g a b = decide (y ∈ ab g.from_ x) := by
  unfold descS
  rw [h1, h2]
  rfl
theorem descS_none {g : G} {a b : K} (h : whoS g a = none ∨ whoS g b = none) : descS g a b = false := by
  unfold descS
  rcases h with h | h
  · rw [h]
  · rw [h]
    cases whoS g a <;> rfl
end Ghost
namespace Trees
open Kit Ghost

def inT (t : List TRow) (a : K) : Prop := ∃ j, j < t.length ∧ key t j = a
theorem put_key (t : List TRow) (p : Nat) (r : TRow) (hp : p ≤ t.length) (j : Nat) : key (putAt t p r) j = if j < p then key t j else if j = p then kk r else key t (j - 1) := by
  unfold key; rw [put_get t p r hp]; split
  · rfl
  · split <;> rfl
theorem put_dd (t : List TRow) (p : Nat) (r : TRow) (hp : p ≤ t.length) (j : Nat) : dd (putAt t p r) j = if j < p then dd t j else if j = p then r.depth else dd t (j - 1) := by
  unfold dd; rw [put_get t p r hp]; split
  · rfl
  · split <;> rfl
theorem put_in (t : List TRow) (p : Nat) (r : TRow) (hp : p ≤ t.length) (a : K) : inT (putAt t p r) a ↔ a = kk r ∨ inT t a := by
  have hk := put_key t p r hp
  have hl := put_len t p r hp
  constructor
  · rintro ⟨j, hj, e⟩
    rw [hk] at e
    rw [hl] at hj
    split at e
    · rename_i h; exact .inr ⟨j, by omega, e⟩
    · split at e
      · exact .inl e.symm
      · exact .inr ⟨j - 1, by omega, e⟩
  · rintro (e | ⟨j, hj, e⟩)
    · exact ⟨p, by omega, by rw [hk, if_neg (by omega), if_pos rfl, e]⟩
    · by_cases h : j < p
      · exact ⟨j, by omega, by rw [hk, if_pos h, e]⟩
      · exact ⟨j + 1, by omega, by rw [hk, if_neg (by omega), if_neg (by omega)]; exact e⟩
theorem leaf_des {t : List TRow} {p : Nat} {r : TRow} (hp : p ≤ t.length) (h : GT t) (hu : GT (putAt t p r)) (hn : p + 1 < (putAt t p r).length → dd (putAt t p r) (p + 1) ≤ dd (putAt t p r) p) {a b : K} (ha : a ≠ kk r) (hb : b ≠ kk r) : des (putAt t p r) a b = des t a b := by
  have hk := put_key t p r hp
  have hd := put_dd t p r hp
  have hl := put_len t p r hp
  generalize putAt t p r = u at *
  have k1 : ∀ m, m < p → key u m = key t m ∧ dd u m = dd t m := fun m hm => ⟨by rw [hk, if_pos hm], by rw [hd, if_pos hm]⟩
  have k2 : ∀ m, p ≤ m → key u (m + 1) = key t m ∧ dd u (m + 1) = dd t m := fun m hm => ⟨by rw [hk, if_neg (by omega), if_neg (by omega)]; rfl, by rw [hd, if_neg (by omega), if_neg (by omega)]; rfl⟩
  have k3 : key u p = kk r := by rw [hk, if_neg (by omega), if_pos rfl]
  have hsh : ∀ m, ∃ s, (m < p ∧ s = m ∨ p ≤ m ∧ s = m + 1) ∧ key u s = key t m ∧ dd u s = dd t m := fun m => by
    by_cases hm : m < p
    · exact ⟨m, .inl ⟨hm, rfl⟩, k1 m hm⟩
    · exact ⟨m + 1, .inr ⟨by omega, rfl⟩, k2 m (by omega)⟩
  rw [Bool.eq_iff_iff, des_iff hu, des_iff h]
  constructor
  · rintro ⟨i, j, h1, h2, h3⟩
    have hij := h1.1
    have hju := h1.2.1
    have hip : i ≠ p := fun e => hb (by rw [← h2, e, k3])
    have hjp : j ≠ p := fun e => ha (by rw [← h3, e, k3])
    obtain ⟨i', hi'⟩ : ∃ i', (i' < p ∧ i = i') ∨ (p ≤ i' ∧ i = i' + 1) := by
      by_cases h : i < p
      · exact ⟨i, .inl ⟨h, rfl⟩⟩
      · exact ⟨i - 1, .inr ⟨by omega, by omega⟩⟩
    obtain ⟨j', hj'⟩ : ∃ j', (j' < p ∧ j = j') ∨ (p ≤ j' ∧ j = j' + 1) := by
      by_cases h : j < p
      · exact ⟨j, .inl ⟨h, rfl⟩⟩
      · exact ⟨j - 1, .inr ⟨by omega, by omega⟩⟩
    obtain ⟨si, s1, s2, s3⟩ := hsh i'
    obtain ⟨sj, q1, q2, q3⟩ := hsh j'
    obtain rfl : si = i := by omega
    obtain rfl : sj = j := by omega
    refine ⟨i', j', ⟨by omega, by omega, fun m hm1 hm2 => ?_⟩, by rw [← s2, h2], by rw [← q2, h3]⟩
    obtain ⟨sm, m1, m2, m3⟩ := hsh m
    have := h1.2.2 sm (by omega) (by omega)
    omega
  · rintro ⟨i, j, h1, h2, h3⟩
    have hij := h1.1
    have hjt := h1.2.1
    obtain ⟨si, s1, s2, s3⟩ := hsh i
    obtain ⟨sj, q1, q2, q3⟩ := hsh j
    refine ⟨si, sj, ⟨by omega, by omega, fun m hm1 hm2 => ?_⟩, by rw [s2, h2], by rw [q2, h3]⟩
    by_cases hmp : m = p
    · subst hmp
      have e1 := hn (by omega)
      have e2 := (k2 m (Nat.le_refl _)).2
      have e3 := h1.2.2 m (by omega) (by omega)
      omega
    · obtain ⟨m', hm'⟩ : ∃ m', (m' < p ∧ m = m') ∨ (p ≤ m' ∧ m = m' + 1) := by
        by_cases h : m < p
        · exact ⟨m, .inl ⟨h, rfl⟩⟩
        · exact ⟨m - 1, .inr ⟨by omega, by omega⟩⟩
      obtain ⟨sm, m1, m2, m3⟩ := hsh m'
      obtain rfl : sm = m := by omega
      have := h1.2.2 m' (by omega) (by omega)
      omega
/-! Ghosts: who is who -/
theorem who_inj {g : G} (h : GoodP g) {a b : K} {x : Int} (h1 : whoS g a = some x) (h2 : whoS g b = some x) : a = b := by
  obtain ⟨i, p1, p2⟩ := (who_iff h).1 h1
  obtain ⟨j, q1, q2⟩ := (who_iff h).1 h2
  have hi := (List.getElem?_eq_some_iff.1 p2)
  have hj := (List.getElem?_eq_some_iff.1 q2)
  have hp := List.pairwise_iff_getElem.1 h.dnd
  have : i = j := by
    rcases Nat.lt_trichotomy i j with hlt | he | hgt
    · exact absurd (hi.2.trans hj.2.symm) (hp i j hi.1 hj.1 hlt)
    · exact he
    · exact absurd (hj.2.trans hi.2.symm) (hp j i hj.1 hi.1 hgt)
  subst this
  rw [p1] at q1
  exact Option.some.inj q1
theorem who_lt {g : G} (h : GoodP g) {a : K} {x : Int} (h1 : whoS g a = some x) : 0 ≤ x ∧ x < (g.from_.length : Int) := by
  obtain ⟨i, p1, p2⟩ := (who_iff h).1 h1
  exact h.dok x (List.mem_of_getElem? p2)
theorem idx_who {g : G} (h : GoodP g) (k : K) : idx g.keys k < 0 ↔ whoS g k = none := by
  rcases idx_cases g.keys k with ⟨h1, h2⟩ | ⟨i, hi, h1, h2, _⟩
  · constructor
    · intro _
      cases hw : whoS g k with
      | none => rfl
      | some d =>
        obtain ⟨i, p1, _⟩ := (who_iff h).1 hw
        exact absurd (List.mem_of_getElem? p1) h2
    · intro _; omega
  · constructor
    · intro _; omega
    · intro hw
      have : whoS g k = some (g.ids[i]'(by rw [← h.len]; exact hi)) := (who_iff h).2 ⟨i, by rw [List.getElem?_eq_getElem hi, h2], List.getElem?_eq_getElem _⟩
      rw [hw] at this
      cases this
/-- A ghost and a tree that tell the same. -/
structure Rel (g : G) (t : List TRow) (n : Nat) : Prop where
  gg : Ghost.good g = true
  tt : Trees.GT t
  len : g.keys.length = t.length
  fl : g.from_.length ≤ n
  has : ∀ a, (∃ x, whoS g a = some x) ↔ inT t a
  des : ∀ a b x y, whoS g a = some x → whoS g b = some y → (y ∈ ab g.from_ x ↔ des t a b = true)
/-- What a birth does to a tree. -/
def tstep (t : List TRow) (b : B) : List TRow × Int :=
  if b.kind = 1 then sRoot t b.key else if b.kind = 2 then sInsert t b.from_ b.key else if b.kind = 3 then sMove t b.from_ b.key else if b.kind = 4 then sRemove t b.key else (t, 2)
theorem tstep_same {t : List TRow} {b : B} (he : (tstep t b).2 ≠ 0) : (tstep t b).1 = t := by
  revert he
  unfold tstep
  split
  · unfold sRoot
    split
    · split
      · intro _; rfl
      · split
        · intro _; rfl
        · intro h; exact absurd rfl h
    · intro _; rfl
  · split
    · exact ins_same
    · split
      · unfold sMove
        split
        · split
          · intro _; rfl
          · split
            · intro _; rfl
            · intro h; exact absurd rfl h
        · intro _; rfl
      · split
        · unfold sRemove
          split
          · split
            · intro _; rfl
            · split
              · intro h; exact absurd rfl h
              · intro _; rfl
          · intro _; rfl
        · intro _; rfl
theorem fnd_out {t : List TRow} {a : K} (h : ¬ 0 ≤ fnd t a) : ¬ inT t a := by
  rcases fnd_key t a with ⟨_, h2⟩ | ⟨i, _, h1, _⟩
  · rintro ⟨j, hj, e⟩; exact h2 j hj e
  · omega
theorem fnd_in {t : List TRow} {a : K} (h : ¬ fnd t a < 0) : inT t a := by
  rcases fnd_key t a with ⟨h1, _⟩ | ⟨i, hi, _, h2, _⟩
  · omega
  · exact ⟨i, hi, h2⟩
theorem Rel.idxOff {g : G} {t : List TRow} {n : Nat} (h : Rel g t n) {a : K} (ha : ¬ inT t a) : idx g.keys a < 0 := by
  refine (idx_who (Ghost.good_iff.1 h.gg) a).2 ?_
  cases hw : whoS g a with
  | none => rfl
  | some x => exact absurd ((h.has a).1 ⟨x, hw⟩) ha
theorem Rel.idxOn {g : G} {t : List TRow} {n : Nat} (h : Rel g t n) {a : K} (ha : inT t a) : ¬ idx g.keys a < 0 := by
  intro hi
  obtain ⟨x, hx⟩ := (h.has a).2 ha
  rw [(idx_who (Ghost.good_iff.1 h.gg) a).1 hi] at hx
  cases hx
theorem none_of {g : G} {t : List TRow} {n : Nat} (h : Rel g t n) {a : K} (ha : ¬ inT t a) : whoS g a = none := by
  cases hw : whoS g a with
  | none => rfl
  | some x => exact absurd ((h.has a).1 ⟨x, hw⟩) ha
/-- One more, with nobody below it. -/
theorem add_leaf {g : G} {t u : List TRow} {n : Nat} (h : Rel g t n) {k : K} {v : Int} (hk : ¬ inT t k) (hg : Ghost.good ⟨g.keys ++ [k], g.ids ++ [(g.from_.length : Int)], g.from_ ++ [v]⟩ = true) (hu : Trees.GT u) (hl : u.length = t.length + 1)
    (hin : ∀ a, inT u a ↔ a = k ∨ inT t a)
    (hk1 : ∀ b y, whoS g b = some y → (des u k b = true ↔ (0 ≤ v ∧ v < (g.from_.length : Int) ∧ (y = v ∨ y ∈ ab g.from_ v))))
    (hk2 : ∀ a, des u a k = false) (hk3 : ∀ a b, a ≠ k → b ≠ k → des u a b = des t a b) :
    Rel ⟨g.keys ++ [k], g.ids ++ [(g.from_.length : Int)], g.from_ ++ [v]⟩ u (n + 1) := by
  have hgp := Ghost.good_iff.1 h.gg
  have hgp2 := Ghost.good_iff.1 hg
  have w1 : whoS ⟨g.keys ++ [k], g.ids ++ [(g.from_.length : Int)], g.from_ ++ [v]⟩ k = some (g.from_.length : Int) := by
    refine (who_iff hgp2).2 ⟨g.keys.length, by simp, ?_⟩
    show (g.ids ++ [(g.from_.length : Int)])[g.keys.length]? = _
    rw [hgp.len]; simp
  have w2 : ∀ a, a ≠ k → whoS ⟨g.keys ++ [k], g.ids ++ [(g.from_.length : Int)], g.from_ ++ [v]⟩ a = whoS g a := fun a ha => by
    apply Option.ext
    intro d
    rw [who_iff hgp2, who_iff hgp]
    constructor
    · rintro ⟨i, p1, p2⟩
      have p1 : (g.keys ++ [k])[i]? = some a := p1
      have p2 : (g.ids ++ [(g.from_.length : Int)])[i]? = some d := p2
      by_cases hi : i < g.keys.length
      · rw [List.getElem?_append_left hi] at p1
        rw [List.getElem?_append_left (by rw [← hgp.len]; exact hi)] at p2
        exact ⟨i, p1, p2⟩
      · have hle := (List.getElem?_eq_some_iff.1 p1).1
        rw [List.length_append, List.length_singleton] at hle
        obtain rfl : i = g.keys.length := by omega
        simp at p1
        exact absurd p1.symm ha
    · rintro ⟨i, p1, p2⟩
      refine ⟨i, ?_, ?_⟩
      · show (g.keys ++ [k])[i]? = _; rw [List.getElem?_append_left (List.getElem?_eq_some_iff.1 p1).1]; exact p1
      · show (g.ids ++ [(g.from_.length : Int)])[i]? = _; rw [List.getElem?_append_left (List.getElem?_eq_some_iff.1 p2).1]; exact p2
  have hab : ∀ x : Int, x < (g.from_.length : Int) → ab (g.from_ ++ [v]) x = ab g.from_ x := fun x hx => ab_append _ _ (x.toNat + 1) x (by omega) hx
  have hlt : ∀ (x z : Int), z ∈ ab g.from_ x → 0 ≤ z ∧ z < x := fun x z hz => ab_lt _ (x.toNat + 1) x z (by omega) hz
  refine ⟨hg, hu, ?_, ?_, fun a => ?_, fun a b x y ha hb => ?_⟩
  · show (g.keys ++ [k]).length = _
    rw [List.length_append, List.length_singleton, h.len, hl]
  · show (g.from_ ++ [v]).length ≤ _
    rw [List.length_append, List.length_singleton]
    have := h.fl
    omega
  · rw [hin]
    by_cases ha : a = k
    · subst ha; exact ⟨fun _ => .inl rfl, fun _ => ⟨_, w1⟩⟩
    · rw [w2 a ha, h.has a]
      exact ⟨.inr, fun e => e.resolve_left ha⟩
  · show y ∈ ab (g.from_ ++ [v]) x ↔ _
    by_cases ea : a = k
    · subst ea
      rw [w1] at ha
      obtain rfl := Option.some.inj ha
      have hz : y ∈ ab (g.from_ ++ [v]) (g.from_.length : Int) ↔ (0 ≤ v ∧ v < (g.from_.length : Int) ∧ (y = v ∨ y ∈ ab g.from_ v)) := by
        rw [ab_eq, if_neg (by rw [List.length_append, List.length_singleton]; omega)]
        have e : (g.from_ ++ [v]).getD (g.from_.length : Int).toNat 0 = v := by rw [Int.toNat_natCast]; simp [List.getD_eq_getElem?_getD]
        rw [e]
        split
        · rename_i hv
          constructor
          · intro hm; simp at hm
          · rintro ⟨q1, q2, _⟩; omega
        · rename_i hv
          rw [List.mem_cons, hab v (by omega)]
          exact ⟨fun hm => ⟨by omega, by omega, hm⟩, fun hm => hm.2.2⟩
      rw [hz]
      by_cases eb : b = a
      · subst eb
        rw [hk2 b]
        rw [w1] at hb
        obtain rfl := Option.some.inj hb
        constructor
        · rintro ⟨q1, q2, q3 | q3⟩
          · omega
          · have := hlt _ _ q3; omega
        · intro hm; cases hm
      · rw [w2 b eb] at hb
        exact (hk1 b y hb).symm
    · rw [w2 a ea] at ha
      rw [hab x (who_lt hgp ha).2]
      by_cases eb : b = k
      · subst eb
        rw [hk2 a]
        rw [w1] at hb
        obtain rfl := Option.some.inj hb
        constructor
        · intro hm
          have := hlt _ _ hm
          have := who_lt hgp ha
          omega
        · intro hm; cases hm
      · rw [w2 b eb] at hb
        rw [hk3 a b ea eb]
        exact h.des a b x y ha hb
theorem bad_not {b : B} (h1 : b.kind = 1 ∨ b.kind = 2 ∨ b.kind = 3 ∨ b.kind = 4) (h2 : kOK b.key = true) (h3 : b.kind = 2 ∨ b.kind = 3 → kOK b.from_ = true) : ¬ bad b := by
  unfold bad
  rintro (h | h | h | ⟨h, h'⟩)
  · omega
  · omega
  · rw [h2] at h; cases h
  · rw [h3 h] at h'; cases h'
theorem step_root {g : G} {t : List TRow} {n : Nat} (h : Rel g t n) (hn : n < 4096) {b : B} (hb : b.kind = 1) (he : (sRoot t b.key).2 = 0) : (addS g b).2 = 0 ∧ Rel (addS g b).1 (sRoot t b.key).1 (n + 1) := by
  revert he
  unfold sRoot
  split
  · rename_i hc
    split
    · intro he; cases he
    · rename_i hf
      split
      · intro he; cases he
      · rename_i hl
        intro _
        have hbad : ¬ bad b := bad_not (.inl hb) hc.2 (fun e => by omega)
        have hoff := fnd_out hf
        have hix := h.idxOff hoff
        have hgood := addS_good h.gg b
        have e := add_root h.gg hbad hb
        rw [if_neg (by omega)] at e
        unfold born at e
        rw [if_neg (by have := h.fl; omega)] at e
        rw [e] at hgood ⊢
        refine ⟨rfl, ?_⟩
        have hu : Trees.GT (putAt t t.length ⟨b.key.obj, b.key.slot, 0, false⟩) := by
          have := step_good h.tt ⟨0, b.key, b.key, false⟩
          unfold step sRoot at this
          rw [if_pos rfl, if_pos hc, if_neg hf, if_neg hl] at this
          exact this
        have hlen := put_len t t.length ⟨b.key.obj, b.key.slot, 0, false⟩ (Nat.le_refl _)
        have hkey := put_key t t.length ⟨b.key.obj, b.key.slot, 0, false⟩ (Nat.le_refl _)
        have hdd := put_dd t t.length ⟨b.key.obj, b.key.slot, 0, false⟩ (Nat.le_refl _)
        have hlast : key (putAt t t.length ⟨b.key.obj, b.key.slot, 0, false⟩) t.length = b.key := by rw [hkey, if_neg (by omega), if_pos rfl]; rfl
        refine add_leaf h hoff hgood hu hlen (fun a => put_in t t.length _ (Nat.le_refl _) a) (fun o y _ => ?_) (fun a => ?_) (fun a o ha ho => leaf_des (Nat.le_refl _) h.tt hu (fun hx => by omega) ha ho)
        · constructor
          · intro hd
            obtain ⟨i, j, d1, d2, d3⟩ := (des_iff hu _ _).1 hd
            obtain rfl := hu.inj d1.2.1 (by omega) (d3.trans hlast.symm)
            have q1 := d1.2.2 t.length d1.1 (Nat.le_refl _)
            have q2 := (hu.at_ i (by have := d1.1; omega)).nn
            have q3 := hdd t.length
            rw [if_neg (by omega), if_pos rfl] at q3
            have q3 : dd (putAt t t.length ⟨b.key.obj, b.key.slot, 0, false⟩) t.length = 0 := q3
            omega
          · rintro ⟨q1, _⟩; omega
        · rw [Bool.eq_false_iff]
          intro hd
          obtain ⟨i, j, d1, d2, d3⟩ := (des_iff hu _ _).1 hd
          obtain rfl := hu.inj (by have := d1.1; have := d1.2.1; omega) (by omega) (d2.trans hlast.symm)
          have := d1.1
          have := d1.2.1
          omega
  · intro he; cases he
theorem step_ins {g : G} {t : List TRow} {n : Nat} (h : Rel g t n) (hn : n < 4096) {b : B} (hb : b.kind = 2) (he : (sInsert t b.from_ b.key).2 = 0) : (addS g b).2 = 0 ∧ Rel (addS g b).1 (sInsert t b.from_ b.key).1 (n + 1) := by
  obtain ⟨i, q⟩ := ins_facts he
  have hok : kOK b.from_ = true := by rw [← q.at_]; exact (h.tt.at_ i q.lt).ok
  have hbad : ¬ bad b := bad_not (.inr (.inl hb)) q.ok (fun _ => hok)
  have hoff : ¬ inT t b.key := fun ⟨j, hj, e⟩ => q.off j hj e
  have hon : inT t b.from_ := ⟨i, q.lt, q.at_⟩
  have hgp := Ghost.good_iff.1 h.gg
  have hix := h.idxOff hoff
  have hgood := addS_good h.gg b
  have e := add_two h.gg hbad (.inl hb)
  rw [if_neg (h.idxOn hon), if_neg (by omega), if_neg (by omega)] at e
  unfold born at e
  rw [if_neg (by have := h.fl; omega)] at e
  obtain ⟨x, hx⟩ := (h.has _).2 hon
  have hv : g.ids.getD (idx g.keys b.from_).toNat 0 = x := by
    obtain ⟨j, p1, p2⟩ := (who_iff hgp).1 hx
    rcases idx_cases g.keys b.from_ with ⟨h1, h2⟩ | ⟨m, hm, h1, h2, _⟩
    · exact absurd (List.mem_of_getElem? p1) h2
    · rw [h1, Int.toNat_natCast]
      have hj := List.getElem?_eq_some_iff.1 p1
      have hp := List.pairwise_iff_getElem.1 hgp.knd
      have : m = j := by
        rcases Nat.lt_trichotomy m j with hlt | he | hgt
        · exact absurd (h2.trans hj.2.symm) (hp m j hm hj.1 hlt)
        · exact he
        · exact absurd (hj.2.trans h2.symm) (hp j m hj.1 hm hgt)
      rw [this, List.getD_eq_getElem?_getD, p2]
      rfl
  rw [hv] at e
  rw [e] at hgood ⊢
  refine ⟨rfl, ?_⟩
  have p := put_facts h.tt q
  have hpi : i + 1 ≤ t.length := q.lt
  rw [q.is_]
  refine add_leaf h hoff hgood p.good p.len (fun a => put_in t (i + 1) _ hpi a) (fun o y ho => ?_) (fun a => put_below q p a) (fun a o ha ho => leaf_des hpi h.tt p.good (fun hlt => ?_) ha ho)
  · rw [put_above h.tt q p o ((h.has o).1 ⟨y, ho⟩)]
    have hl := who_lt hgp hx
    by_cases eo : o = b.from_
    · rw [if_pos eo]
      subst eo
      rw [hx] at ho
      obtain rfl := Option.some.inj ho
      exact ⟨fun _ => ⟨hl.1, hl.2, .inl rfl⟩, fun _ => rfl⟩
    · rw [if_neg eo, ← h.des b.from_ o x y hx ho]
      refine ⟨fun hm => ⟨hl.1, hl.2, .inr hm⟩, fun hm => hm.2.2.resolve_left fun e => ?_⟩
      subst e
      exact eo (who_inj hgp ho hx)
  · rcases Int.lt_or_le (dd (putAt t (i + 1) ⟨b.key.obj, b.key.slot, dd t i + 1, false⟩) (i + 1)) (dd (putAt t (i + 1) ⟨b.key.obj, b.key.slot, dd t i + 1, false⟩) (i + 1 + 1)) with hx | hx
    · refine absurd (⟨by omega, hlt, fun m h1 h2 => ?_⟩ : Dn _ (i + 1) (i + 1 + 1)) (p.none _)
      obtain rfl : m = i + 1 + 1 := by omega
      exact hx
    · exact hx
theorem step_mov {g : G} {t : List TRow} {n : Nat} (h : Rel g t n) {b : B} (hb : b.kind = 3) (he : (sMove t b.from_ b.key).2 = 0) : (addS g b).2 = 0 ∧ Rel (addS g b).1 (sMove t b.from_ b.key).1 (n + 1) := by
  have hgp := Ghost.good_iff.1 h.gg
  obtain ⟨m1, m2, m3, m4⟩ := move_facts h.tt he
  have hfacts : kOK b.from_ = true ∧ kOK b.key = true ∧ inT t b.from_ ∧ ¬ inT t b.key ∧ ∀ j, j < t.length → key (sMove t b.from_ b.key).1 j = sub b.from_ b.key (key t j) := by
    revert he
    unfold sMove
    split
    · rename_i hc
      split
      · intro he; cases he
      · rename_i hf
        split
        · intro he; cases he
        · rename_i hk
          intro _
          refine ⟨hc.2.1, hc.2.2, fnd_in hf, fnd_out hk, fun j hj => ?_⟩
          rcases fnd_key t b.from_ with ⟨h1, _⟩ | ⟨i, hi, h1, h2, _⟩
          · omega
          · rw [h1, Int.toNat_natCast]
            unfold key sub
            rw [set_get t i _ hi]
            by_cases e : j = i
            · subst e
              rw [if_pos rfl, if_pos (show kk (t.getD j dr) = b.from_ from h2)]
              rfl
            · rw [if_neg e, if_neg (fun e2 => e (h.tt.inj hj hi (e2.trans h2.symm)))]
    · intro he; cases he
  obtain ⟨k1, k2, hon, hoff, hkey⟩ := hfacts
  have hbad : ¬ bad b := bad_not (.inr (.inr (.inl hb))) k2 (fun _ => k1)
  have hgood := addS_good h.gg b
  have e := add_two h.gg hbad (.inr hb)
  have hix := h.idxOff hoff
  rw [if_neg (h.idxOn hon), if_neg (by omega), if_pos hb] at e
  rw [e] at hgood ⊢
  have hgp2 := Ghost.good_iff.1 hgood
  refine ⟨rfl, ?_⟩
  generalize (sMove t b.from_ b.key).1 = u at *
  have hfk : b.from_ ≠ b.key := fun e => hoff (e ▸ hon)
  rcases idx_cases g.keys b.from_ with ⟨h1, h2⟩ | ⟨i, hi, h1, h2, _⟩
  · exact absurd h1 (by have := h.idxOn hon; omega)
  rw [h1, Int.toNat_natCast] at hgood hgp2 ⊢
  have hp := List.pairwise_iff_getElem.1 hgp.knd
  have huniq : ∀ j (hj : j < g.keys.length), g.keys[j] = b.from_ → j = i := fun j hj ej => by
    rcases Nat.lt_trichotomy j i with hlt | he | hgt
    · exact absurd (ej.trans h2.symm) (hp j i hj hi hlt)
    · exact he
    · exact absurd (h2.trans ej.symm) (hp i j hi hj hgt)
  -- who is who now
  have hw : ∀ a, a ≠ b.key → whoS ⟨g.keys.set i b.key, g.ids, g.from_⟩ (sub b.from_ b.key a) = whoS g a := fun a ha => by
    apply Option.ext
    intro d
    rw [who_iff hgp2, who_iff hgp]
    have hset : ∀ j, (g.keys.set i b.key)[j]? = some (sub b.from_ b.key a) ↔ g.keys[j]? = some a := fun j => by
      by_cases ej : j = i
      · subst ej
        rw [List.getElem?_set_self hi, List.getElem?_eq_getElem hi, h2]
        unfold sub
        by_cases ea : a = b.from_
        · rw [if_pos ea, ea]; exact ⟨fun _ => rfl, fun _ => rfl⟩
        · rw [if_neg ea]
          exact ⟨fun hx => absurd (Option.some.inj hx).symm ha, fun hx => absurd (Option.some.inj hx).symm ea⟩
      · rw [List.getElem?_set_ne (fun h => ej h.symm)]
        unfold sub
        by_cases ea : a = b.from_
        · rw [if_pos ea]
          constructor
          · intro hx
            have hm := List.mem_of_getElem? hx
            exact absurd ((h.has b.key).1 (by
              obtain ⟨q, hq, eq⟩ := List.mem_iff_getElem.1 hm
              exact ⟨g.ids[q]'(by rw [← hgp.len]; exact hq), (who_iff hgp).2 ⟨q, by rw [List.getElem?_eq_getElem hq, eq], List.getElem?_eq_getElem _⟩⟩)) hoff
          · intro hx
            rw [ea] at hx
            obtain ⟨hj, hx⟩ := List.getElem?_eq_some_iff.1 hx
            exact absurd (huniq j hj hx) ej
        · rw [if_neg ea]
    constructor
    · rintro ⟨j, p1, p2⟩; exact ⟨j, (hset j).1 p1, p2⟩
    · rintro ⟨j, p1, p2⟩; exact ⟨j, (hset j).2 p1, p2⟩
  have hback : ∀ a x, whoS ⟨g.keys.set i b.key, g.ids, g.from_⟩ a = some x → ∃ a0, a0 ≠ b.key ∧ sub b.from_ b.key a0 = a ∧ whoS g a0 = some x := fun a x ha => by
    by_cases ea : a = b.key
    · refine ⟨b.from_, hfk, by unfold sub; rw [if_pos rfl, ea], ?_⟩
      rw [← hw b.from_ hfk]
      unfold sub
      rw [if_pos rfl]
      rw [ea] at ha
      exact ha
    · by_cases ef : a = b.from_
      · exfalso
        obtain ⟨j, p1, p2⟩ := (who_iff hgp2).1 ha
        have p1 : (g.keys.set i b.key)[j]? = some a := p1
        by_cases ej : j = i
        · subst ej
          rw [List.getElem?_set_self hi] at p1
          exact ea (Option.some.inj p1).symm
        · rw [List.getElem?_set_ne (fun h => ej h.symm), ef] at p1
          obtain ⟨hj, hx⟩ := List.getElem?_eq_some_iff.1 p1
          exact ej (huniq j hj hx)
      · have es : sub b.from_ b.key a = a := by unfold sub; rw [if_neg ef]
        refine ⟨a, ea, es, ?_⟩
        rw [← hw a ea, es]
        exact ha
  refine ⟨hgood, m1, ?_, by have := h.fl; show g.from_.length ≤ _; omega, fun a => ?_, fun a c x y ha hc => ?_⟩
  · show (g.keys.set i b.key).length = _
    rw [List.length_set, m3]
    exact h.len
  · constructor
    · rintro ⟨x, hx⟩
      obtain ⟨a0, q1, q2, q3⟩ := hback a x hx
      obtain ⟨j, hj, ej⟩ := (h.has a0).1 ⟨x, q3⟩
      exact ⟨j, by omega, by rw [hkey j hj, ej, q2]⟩
    · rintro ⟨j, hj, ej⟩
      have hj' : j < t.length := by omega
      rw [hkey j hj'] at ej
      obtain ⟨x, hx⟩ := (h.has (key t j)).2 ⟨j, hj', rfl⟩
      have hne : key t j ≠ b.key := fun e => hoff ⟨j, hj', e⟩
      rw [← ej]
      exact ⟨x, by rw [hw _ hne]; exact hx⟩
  · obtain ⟨a0, q1, q2, q3⟩ := hback a x ha
    obtain ⟨c0, r1, r2, r3⟩ := hback c y hc
    rw [← q2, ← r2, m4 a0 c0 q1 r1]
    exact h.des a0 c0 x y q3 r3
theorem put_out (t : List TRow) (i : Nat) (hi : i < t.length) : putAt (outAt t i) i (t.getD i dr) = t := by
  rw [set_put t i _ hi, getD_lt t hi]
  simp
theorem step_rem {g : G} {t : List TRow} {n : Nat} (h : Rel g t n) {b : B} (hb : b.kind = 4) (he : (sRemove t b.key).2 = 0) : (addS g b).2 = 0 ∧ Rel (addS g b).1 (sRemove t b.key).1 (n + 1) := by
  have hgp := Ghost.good_iff.1 h.gg
  revert he
  unfold sRemove
  split
  · rename_i hc
    split
    · intro he; cases he
    · rename_i hf
      split
      · rename_i hu
        intro _
        rcases fnd_key t b.key with ⟨h1, _⟩ | ⟨i, hi, h1, h2, _⟩
        · omega
        rw [h1, Int.toNat_natCast] at hu ⊢
        have hon : inT t b.key := ⟨i, hi, h2⟩
        have hbad : ¬ bad b := bad_not (.inr (.inr (.inr hb))) hc.2 (fun e => by omega)
        have hgood := addS_good h.gg b
        have e := add_die h.gg hbad hb
        rw [if_neg (h.idxOn hon)] at e
        rw [e] at hgood ⊢
        have hgp2 := Ghost.good_iff.1 hgood
        refine ⟨rfl, ?_⟩
        rcases idx_cases g.keys b.key with ⟨g1, _⟩ | ⟨m, hm, g1, g2, _⟩
        · exact absurd g1 (by have := h.idxOn hon; omega)
        rw [g1, Int.toNat_natCast] at hgood hgp2 ⊢
        have hmd : m < g.ids.length := by rw [← hgp.len]; exact hm
        have hp := List.pairwise_iff_getElem.1 hgp.knd
        have huniq : ∀ j (hj : j < g.keys.length), g.keys[j] = b.key → j = m := fun j hj ej => by
          rcases Nat.lt_trichotomy j m with hlt | he | hgt
          · exact absurd (ej.trans g2.symm) (hp j m hj hm hlt)
          · exact he
          · exact absurd (g2.trans ej.symm) (hp m j hm hj hgt)
        have hw : ∀ a, a ≠ b.key → whoS ⟨del g.keys m, del g.ids m, g.from_⟩ a = whoS g a := fun a ha => by
          apply Option.ext
          intro d
          rw [who_iff hgp2, who_iff hgp]
          constructor
          · rintro ⟨j, p1, p2⟩
            have p1 : (del g.keys m)[j]? = some a := p1
            have p2 : (del g.ids m)[j]? = some d := p2
            rw [del_get _ _ _ hm] at p1
            rw [del_get _ _ _ hmd] at p2
            by_cases hj : j < m
            · rw [if_pos hj] at p1 p2; exact ⟨j, p1, p2⟩
            · rw [if_neg hj] at p1 p2; exact ⟨j + 1, p1, p2⟩
          · rintro ⟨j, p1, p2⟩
            have hjm : j ≠ m := fun e => by
              subst e
              rw [List.getElem?_eq_getElem hm, g2] at p1
              exact ha (Option.some.inj p1).symm
            by_cases hj : j < m
            · refine ⟨j, ?_, ?_⟩
              · show (del g.keys m)[j]? = _; rw [del_get _ _ _ hm, if_pos hj]; exact p1
              · show (del g.ids m)[j]? = _; rw [del_get _ _ _ hmd, if_pos hj]; exact p2
            · refine ⟨j - 1, ?_, ?_⟩
              · show (del g.keys m)[j - 1]? = _; rw [del_get _ _ _ hm, if_neg (by omega), show j - 1 + 1 = j by omega]; exact p1
              · show (del g.ids m)[j - 1]? = _; rw [del_get _ _ _ hmd, if_neg (by omega), show j - 1 + 1 = j by omega]; exact p2
        have hw0 : whoS ⟨del g.keys m, del g.ids m, g.from_⟩ b.key = none := by
          cases hx : whoS ⟨del g.keys m, del g.ids m, g.from_⟩ b.key with
          | none => rfl
          | some d =>
            obtain ⟨j, p1, _⟩ := (who_iff hgp2).1 hx
            have p1 : (del g.keys m)[j]? = some b.key := p1
            rw [del_get _ _ _ hm] at p1
            by_cases hj : j < m
            · rw [if_pos hj] at p1
              obtain ⟨q1, q2⟩ := List.getElem?_eq_some_iff.1 p1
              have := huniq j q1 q2
              omega
            · rw [if_neg hj] at p1
              obtain ⟨q1, q2⟩ := List.getElem?_eq_some_iff.1 p1
              have := huniq (j + 1) q1 q2
              omega
        have hg2 := out_good h.tt hi hu
        have hol := out_len t i hi
        have hpt := put_out t i hi
        have hkk : kk (t.getD i dr) = b.key := h2
        have hin : ∀ a, inT (outAt t i) a ↔ a ≠ b.key ∧ inT t a := fun a => by
          have hput := put_in (outAt t i) i (t.getD i dr) (by omega) a
          rw [hpt, hkk] at hput
          rw [hput]
          constructor
          · intro ha
            refine ⟨fun e => ?_, .inr ha⟩
            subst e
            obtain ⟨j, hj, ej⟩ := ha
            unfold key at ej
            rw [out_get t i hi] at ej
            by_cases hji : j < i
            · rw [if_pos hji] at ej
              have := h.tt.inj (by omega) hi ((show key t j = b.key from ej).trans h2.symm)
              omega
            · rw [if_neg hji] at ej
              have := h.tt.inj (by omega) hi ((show key t (j + 1) = b.key from ej).trans h2.symm)
              omega
          · rintro ⟨q1, q2 | q2⟩
            · exact absurd q2 q1
            · exact q2
        have hne : ∀ a x, whoS ⟨del g.keys m, del g.ids m, g.from_⟩ a = some x → a ≠ b.key := fun a x hx e => by
          subst e; rw [hw0] at hx; cases hx
        refine ⟨hgood, hg2, ?_, by have := h.fl; show g.from_.length ≤ _; omega, fun a => ?_, fun a c x y ha hc => ?_⟩
        · show (del g.keys m).length = _
          rw [del_len _ _ hm, hol, h.len]
        · rw [hin]
          constructor
          · rintro ⟨x, hx⟩
            have hx2 := hne a x hx
            rw [hw a hx2] at hx
            exact ⟨hx2, (h.has a).1 ⟨x, hx⟩⟩
          · rintro ⟨q1, q2⟩
            rw [hw a q1]
            exact (h.has a).2 q2
        · have a1 := hne a x ha
          have c1 := hne c y hc
          rw [hw a a1] at ha
          rw [hw c c1] at hc
          have hld := leaf_des (t := outAt t i) (p := i) (r := t.getD i dr) (by omega) hg2 (by rw [hpt]; exact h.tt) (fun hlt => by
            rw [hpt] at hlt ⊢
            obtain ⟨_, _, u3, _⟩ := under_spec hi
            rw [hu] at u3
            rcases u3 with u3 | u3
            · omega
            · exact u3) (a := a) (b := c) (by rw [hkk]; exact a1) (by rw [hkk]; exact c1)
          rw [hpt] at hld
          rw [← hld]
          exact h.des a c x y ha hc
      · intro he; cases he
  · intro he; cases he
theorem step_rel {g : G} {t : List TRow} {n : Nat} (h : Rel g t n) (hn : n < 4096) {b : B} (he : (tstep t b).2 = 0) : (addS g b).2 = 0 ∧ Rel (addS g b).1 (tstep t b).1 (n + 1) := by
  revert he
  unfold tstep
  split
  · rename_i hb; exact step_root h hn hb
  · split
    · rename_i hb; exact step_ins h hn hb
    · split
      · rename_i hb; exact step_mov h hb
      · split
        · rename_i hb; exact step_rem h hb
        · intro he; cases he
theorem Rel.more {g : G} {t : List TRow} {n : Nat} (h : Rel g t n) : Rel g t (n + 1) := ⟨h.gg, h.tt, h.len, by have := h.fl; omega, h.has, h.des⟩
theorem rel0 : Rel g0 [] 0 := ⟨g0_good, nil_good, rfl, Nat.le_refl _, fun a => ⟨fun ⟨x, hx⟩ => (by cases hx), fun ⟨j, hj, _⟩ => absurd hj (by simp)⟩, fun a b x y ha => (by cases ha)⟩
theorem Rel.descS {g : G} {t : List TRow} {n : Nat} (h : Rel g t n) (a b : K) : Ghost.descS g a b = Trees.des t a b := by
  cases ha : whoS g a with
  | none =>
    rw [descS_none (.inl ha)]
    symm
    rw [Bool.eq_false_iff]
    intro hd
    obtain ⟨i, j, d1, d2, d3⟩ := (des_iff h.tt a b).1 hd
    obtain ⟨x, hx⟩ := (h.has a).2 ⟨j, d1.2.1, d3⟩
    rw [ha] at hx
    cases hx
  | some x =>
    cases hb : whoS g b with
    | none =>
      rw [descS_none (.inr hb)]
      symm
      rw [Bool.eq_false_iff]
      intro hd
      obtain ⟨i, j, d1, d2, d3⟩ := (des_iff h.tt a b).1 hd
      obtain ⟨x, hx⟩ := (h.has b).2 ⟨i, by have := d1.1; have := d1.2.1; omega, d2⟩
      rw [hb] at hx
      cases hx
    | some y =>
      rw [descS_of ha hb, Bool.eq_iff_iff, decide_eq_true_eq]
      exact h.des a b x y ha hb
theorem run_snoc (l : List B) (b : B) {g : G} (h : runS l = (g, 0)) : runS (l ++ [b]) = if (addS g b).2 = 0 then ((addS g b).1, 0) else (g, 1) := by
  unfold runS at h ⊢
  rw [runF_append, h]
  simp only [runF]
  split <;> rfl
theorem tree_law (l : List B) (a c : K) : law14_GhostTree.R (l.map encB) a.obj a.slot c.obj c.slot = some (true, ()) := by
  refine law14_GhostTree.start _ _ _ _ _ _ ?_
  rw [List.length_map]
  by_cases h1 : l.length > 80
  · rw [decide_eq_true (by omega)]
    simp only [cond_true, Ghost.live_ok, optAll_so]
  rw [decide_eq_false (by omega)]
  simp only [cond_false]
  have main : ∀ (m i : Nat) (t : List TRow) (done : List B) (g : G), i + m = l.length → done.length ≤ i → runS done = (g, 0) → Rel g t i →
      law14_GhostTree.H7 (l.map encB) (enc t) (done.map encB) i a.obj a.slot c.obj c.slot (true, ()) := by
    intro m
    induction m with
    | zero =>
      intro i t done g hi hd hr h
      refine law14_GhostTree.H7_step _ _ _ _ _ _ _ _ _ ?_
      have hs := good_small h.gg
      have ht : t.length < 1000000 := by have := h.tt.len; omega
      rw [List.length_map, decide_eq_false (by omega), List.take_length, run_ok done (by omega), hr]
      simp only [cond_false, optAll_so, tA, tG]
      rw [who_ok g a hs, find_ok t a ht]
      simp only [optAll_so, beq_self_eq_true, cond_true, tW, ftup, List.length_map, enc_len]
      rw [show ((whoS g a).isSome == decide (fnd t a ≥ 0)) = true by
        rw [beq_iff_eq]
        cases hw : whoS g a with
        | none =>
          symm
          rw [Option.isSome_none, decide_eq_false_iff_not]
          intro hf
          obtain ⟨x, hx⟩ := (h.has a).2 (fnd_in (by omega))
          rw [hw] at hx
          cases hx
        | some x =>
          symm
          rw [Option.isSome_some, decide_eq_true_eq]
          exact Classical.byContradiction fun hf => fnd_out hf ((h.has a).1 ⟨x, hw⟩)]
      rw [h.len]
      simp only [cond_true, beq_self_eq_true]
      rw [desc_ok g a c hs, descends_ok t a c ht]
      simp only [optAll_so, h.descS a c, beq_self_eq_true, cond_true, Ghost.live_ok]
    | succ m ih =>
      intro i t done g hi hd hr h
      refine law14_GhostTree.H7_step _ _ _ _ _ _ _ _ _ ?_
      have hil : i < l.length := by omega
      have ht : t.length < 1000000 := by have := h.tt.len; omega
      rw [List.length_map, decide_eq_true (by omega)]
      simp only [cond_true, needs_nat, Int.toNat_natCast, map_get _ _ _ hil, optAll_so, b0_, b1_, b2_, b3_, b4_]
      rw [wrap_succ (show i < 4611686018427387904 by omega)]
      have happ : done.map encB ++ (([[(DV.v (Value.int IntKind.i64 l[i].kind)), (DV.v (Value.int IntKind.i64 l[i].key.obj)), (DV.v (Value.int IntKind.i64 l[i].key.slot)), (DV.v (Value.int IntKind.i64 l[i].from_.obj)), (DV.v (Value.int IntKind.i64 l[i].from_.slot))]]).take (1)) = (done ++ [l[i]]).map encB := by simp [encB]
      have hbig : (((done ++ [l[i]]).map encB).length * 40 ≤ 140737488355328) ∧ (((done ++ [l[i]]).map encB).length * 5 ≤ 140737488355328) := by
        rw [List.length_map, List.length_append, List.length_singleton]
        omega
      have go : ∀ u e, tstep t l[i] = (u, e) → cond (e == (0 : Int))
          (law14_GhostTree.H7 (l.map encB) (enc u) ((done ++ [l[i]]).map encB) ((i + 1 : Nat) : Int) a.obj a.slot c.obj c.slot (true, ()))
          (law14_GhostTree.H7 (l.map encB) (enc u) (done.map encB) ((i + 1 : Nat) : Int) a.obj a.slot c.obj c.slot (true, ())) := fun u e hue => by
        by_cases he : e = 0
        · subst he
          rw [show ((0 : Int) == 0) = true from rfl, cond_true]
          have hz : (tstep t l[i]).2 = 0 := by rw [hue]
          obtain ⟨q1, q2⟩ := step_rel h (by omega) hz
          rw [hue] at q2
          refine ih (i + 1) u (done ++ [l[i]]) (addS g l[i]).1 (by omega) (by rw [List.length_append, List.length_singleton]; omega) ?_ q2
          rw [run_snoc done l[i] hr, if_pos q1]
        · rw [beq_eq_false_iff_ne.2 he, cond_false]
          have hz := tstep_same (t := t) (b := l[i]) (by rw [hue]; exact he)
          rw [hue] at hz
          have hz : u = t := hz
          rw [hz]
          exact ih (i + 1) t done g (by omega) (by omega) hr h.more
      rw [happ]
      unfold tstep at go
      simp only [root_ok t l[i].key ht, insert_ok t l[i].from_ l[i].key ht, move_ok t l[i].from_ l[i].key ht, remove_ok t l[i].key ht, optAll_so, rtup, Ghost.num_ok]
      simp only [needs_iff, true_and, hbig, and_self]
      by_cases k1 : l[i].kind = 1
      · rw [if_pos k1] at go
        rw [beq_iff_eq.2 k1, cond_true]
        exact go _ _ rfl
      rw [if_neg k1] at go
      rw [beq_eq_false_iff_ne.2 k1, cond_false]
      by_cases k2 : l[i].kind = 2
      · rw [if_pos k2] at go
        rw [beq_iff_eq.2 k2, cond_true]
        exact go _ _ rfl
      rw [if_neg k2] at go
      rw [beq_eq_false_iff_ne.2 k2, cond_false]
      by_cases k3 : l[i].kind = 3
      · rw [if_pos k3] at go
        rw [beq_iff_eq.2 k3, cond_true]
        exact go _ _ rfl
      rw [if_neg k3] at go
      rw [beq_eq_false_iff_ne.2 k3, cond_false]
      by_cases k4 : l[i].kind = 4
      · rw [if_pos k4] at go
        rw [beq_iff_eq.2 k4, cond_true]
        exact go _ _ rfl
      rw [if_neg k4] at go
      rw [beq_eq_false_iff_ne.2 k4, cond_false]
      exact go _ _ rfl
  exact main l.length 0 [] [] g0 (by omega) (by simp) rfl rel0
end Trees
end Go.AI
