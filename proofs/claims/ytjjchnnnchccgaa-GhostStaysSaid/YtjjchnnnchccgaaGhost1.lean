/-
  Own work. The ghosts' functions: keys, maps as sets, whether a ghost may be.
-/
import Derived.Test.YtjjchnnnchccgaaToldG
import Derived.Test.YtjjchnnnchccgaaAiKit2
namespace Go.AI
open Go
set_option linter.unusedVariables false
set_option linter.unusedSimpArgs false
namespace Ghost
open Kit

structure K where
  obj : Int
  slot : Int
  deriving DecidableEq
structure G where
  keys : List K
  ids : List Int
  from_ : List Int
  deriving DecidableEq
structure B where
  kind : Int
  key : K
  from_ : K
def encK (k : K) : List DV := [.v (.int .i64 k.obj), .v (.int .i64 k.slot)]
def encB (b : B) : List DV := [.v (.int .i64 b.kind), .v (.int .i64 b.key.obj), .v (.int .i64 b.key.slot), .v (.int .i64 b.from_.obj), .v (.int .i64 b.from_.slot)]
theorem k0_ (k : K) : dInt .i64 (encK k) 0 = some k.obj := rfl
theorem k1_ (k : K) : dInt .i64 (encK k) 1 = some k.slot := rfl
theorem n0_ (n : Int) : dInt .i64 (ei n) 0 = some n := rfl
theorem b0_ (b : B) : dInt .i64 (encB b) 0 = some b.kind := rfl
theorem b1_ (b : B) : dInt .i64 (encB b) 1 = some b.key.obj := rfl
theorem b2_ (b : B) : dInt .i64 (encB b) 2 = some b.key.slot := rfl
theorem b3_ (b : B) : dInt .i64 (encB b) 3 = some b.from_.obj := rfl
theorem b4_ (b : B) : dInt .i64 (encB b) 4 = some b.from_.slot := rfl
theorem encK_is (k : K) : [.v (.int .i64 k.obj), .v (.int .i64 k.slot)] = encK k := rfl
theorem ei_is (n : Int) : [.v (.int .i64 n)] = ei n := rfl
theorem eqK (a b : K) : (a.obj == b.obj && (a.slot == b.slot && true)) = decide (a = b) := by
  obtain ⟨a1, a2⟩ := a
  obtain ⟨b1, b2⟩ := b
  rw [Bool.eq_iff_iff]
  simp
theorem needs_nat (k : Nat) (p : Prop) : needs ((0 : Int) ≤ (k : Int)) p = p := by
  rw [needs_iff]; exact propext ⟨fun h => h.2, fun h => ⟨Int.natCast_nonneg k, h⟩⟩
theorem live_ok : law14_live.R = some (true, ()) := law14_live.closed
theorem num_ok (n : Int) : law14_num.R n = some (n, ()) := law14_num.start _ _ rfl
def er (b : Bool) : Int := match b with
  | true => 0
  | false => 2
theorem er_zero (b : Bool) : (er b == 0) = b := by cases b <;> rfl

/-! Maps as sets -/
def ent {α : Type} (kd : α → List DV) (a : α) : List DV × DV := (kd a, .v (.bool true))
theorem mapHas_set {α : Type} [DecidableEq α] {ks : Option (List Bool)} {kd : α → List DV} (heq : ∀ a b, keyEq ks (keyAV ks.isSome (kd a)) (keyAV ks.isSome (kd b)) = some (decide (a = b))) (a : α) (l : List α) :
    mapHas ks (kd a) (l.map (ent kd)) = some (decide (a ∈ l)) := by
  unfold mapHas
  have hk : keyOk ks (keyAV ks.isSome (kd a)) = true := by unfold keyOk; rw [heq]; rfl
  rw [hk]
  simp only
  have key : ∀ l : List α, findA ks (keyAV ks.isSome (kd a)) ((l.map (ent kd)).map (entAV ks.isSome)) = some (if a ∈ l then some (.d (.v (.bool true))) else none) := by
    intro l
    induction l with
    | nil => rfl
    | cons b l ih =>
      simp only [List.map_cons, findA]
      rw [show (entAV ks.isSome (ent kd b)).1 = keyAV ks.isSome (kd b) from rfl, heq]
      by_cases h : a = b
      · rw [decide_eq_true h, if_pos (by rw [h]; exact List.mem_cons_self ..)]
        rfl
      · rw [decide_eq_false h]
        simp only
        rw [ih]
        by_cases h2 : a ∈ l
        · rw [if_pos h2, if_pos (List.mem_cons_of_mem _ h2)]
        · rw [if_neg h2, if_neg (by simp [h, h2])]
  rw [key]
  by_cases h : a ∈ l
  · rw [if_pos h, decide_eq_true h]
  · rw [if_neg h, decide_eq_false h]
theorem mapPut_set {α : Type} [DecidableEq α] {ks : Option (List Bool)} {kd : α → List DV} (heq : ∀ a b, keyEq ks (keyAV ks.isSome (kd a)) (keyAV ks.isSome (kd b)) = some (decide (a = b))) {a : α} {l : List α} (h : a ∉ l) :
    mapPut ks (kd a) (.v (.bool true)) (l.map (ent kd)) = some ((l ++ [a]).map (ent kd)) := by
  unfold mapPut
  have hk : keyOk ks (keyAV ks.isSome (kd a)) = true := by unfold keyOk; rw [heq]; rfl
  rw [hk]
  simp only
  induction l with
  | nil => rfl
  | cons b l ih =>
    simp only [List.map_cons, mapPutD]
    rw [show (ent kd b).1 = kd b from rfl, heq, decide_eq_false (fun e => h (by rw [e]; exact List.mem_cons_self ..))]
    simp only
    rw [ih (fun e => h (List.mem_cons_of_mem _ e))]
    rfl
theorem keyK (a b : K) : keyEq (some [false, false]) (keyAV (some [false, false]).isSome (encK a)) (keyAV (some [false, false]).isSome (encK b)) = some (decide (a = b)) := by
  rw [← eqK]; rfl
theorem keyI (a b : Int) : keyEq none (keyAV (none : Option (List Bool)).isSome (ei a)) (keyAV (none : Option (List Bool)).isSome (ei b)) = some (decide (a = b)) := by
  rw [show decide (a = b) = (a == b) by rw [Bool.eq_iff_iff]; simp]; rfl

theorem hasI (a : Int) (l : List Int) : mapHas none [.v (.int .i64 a)] (l.map (ent ei)) = some (decide (a ∈ l)) := mapHas_set keyI a l
theorem putI {a : Int} {l : List Int} (h : a ∉ l) : mapPut none [.v (.int .i64 a)] (.v (.bool true)) (l.map (ent ei)) = some ((l ++ [a]).map (ent ei)) := mapPut_set keyI h
theorem hasK (a : K) (l : List K) : mapHas (some [false, false]) [.v (.int .i64 a.obj), .v (.int .i64 a.slot)] (l.map (ent encK)) = some (decide (a ∈ l)) := mapHas_set keyK a l
theorem putK {a : K} {l : List K} (h : a ∉ l) : mapPut (some [false, false]) [.v (.int .i64 a.obj), .v (.int .i64 a.slot)] (.v (.bool true)) (l.map (ent encK)) = some ((l ++ [a]).map (ent encK)) := mapPut_set keyK h
/-! Keys -/
def kOK (k : K) : Bool := decide (0 ≤ k.obj) && decide (k.obj ≤ 1023) && decide (-1 ≤ k.slot) && decide (k.slot < 8)
theorem order_ok (k : K) : order_Check.R k.obj k.slot = some (er (kOK k), ()) := by
  refine order_Check.start _ _ _ ?_
  unfold kOK
  by_cases h1 : k.obj < 0
  · rw [decide_eq_true h1, decide_eq_false (show ¬ 0 ≤ k.obj by omega)]; rfl
  rw [decide_eq_false h1, decide_eq_true (show 0 ≤ k.obj by omega)]
  by_cases h2 : k.obj > 1023
  · rw [decide_eq_true h2, decide_eq_false (show ¬ k.obj ≤ 1023 by omega)]; rfl
  rw [decide_eq_false h2, decide_eq_true (show k.obj ≤ 1023 by omega)]
  by_cases h3 : k.slot < -1
  · rw [decide_eq_true h3, decide_eq_false (show ¬ -1 ≤ k.slot by omega)]; rfl
  rw [decide_eq_false h3, decide_eq_true (show -1 ≤ k.slot by omega)]
  by_cases h4 : k.slot ≥ 8
  · rw [decide_eq_true h4, decide_eq_false (show ¬ k.slot < 8 by omega)]; rfl
  rw [decide_eq_false h4, decide_eq_true (show k.slot < 8 by omega)]; rfl
theorem rkey_ok (k : K) : ref06_Is.R k.obj k.slot = some (kOK k, ()) := by
  refine ref06_Is.start _ _ _ ?_
  unfold kOK
  by_cases h1 : k.obj ≥ 0
  · rw [decide_eq_true h1]
    by_cases h2 : k.obj ≤ 1023
    · rw [decide_eq_true h2]
      by_cases h3 : k.slot ≥ -1
      · rw [decide_eq_true h3]
        simp only [cond_true, Bool.true_and]
        congr 1
        exact decide_eq_decide.2 (by omega)
      · rw [decide_eq_false h3]; rfl
    · rw [decide_eq_false h2]; rfl
  · rw [decide_eq_false h1]; rfl
/-! The place of a thing in a list; -1: it is not there. -/
def idx {α : Type} [DecidableEq α] : List α → α → Int
  | [], _ => -1
  | w :: q, c => if w = c then 0 else if idx q c < 0 then -1 else idx q c + 1
theorem idx_cases {α : Type} [DecidableEq α] : ∀ (q : List α) (c : α), (idx q c = -1 ∧ c ∉ q) ∨ ∃ k : Nat, ∃ h : k < q.length, idx q c = k ∧ q[k] = c ∧ ∀ j, ∀ hj : j < k, q[j]'(by omega) ≠ c
  | [], c => .inl ⟨rfl, by simp⟩
  | w :: q, c => by
    by_cases h : w = c
    · exact .inr ⟨0, by simp, by simp [idx, h], by simpa using h, fun j hj => absurd hj (by omega)⟩
    · rcases idx_cases q c with ⟨h1, h2⟩ | ⟨k, hk, h1, h2, h3⟩
      · refine .inl ⟨by simp [idx, h, h1], fun hx => ?_⟩
        rcases List.mem_cons.1 hx with e | hx
        · exact h e.symm
        · exact h2 hx
      · refine .inr ⟨k + 1, by simp; omega, ?_, by simpa using h2, fun j hj => ?_⟩
        · rw [idx, if_neg h, h1, if_neg (by omega)]; omega
        · cases j with
          | zero => simpa using h
          | succ j => simpa using h3 j (by omega)
def idxTo {α : Type} [DecidableEq α] (q : List α) (c : α) (i : Nat) : Int := if idx (q.drop i) c < 0 then -1 else (i : Int) + idx (q.drop i) c
theorem idxTo_zero {α : Type} [DecidableEq α] (q : List α) (c : α) : idxTo q c 0 = idx q c := by
  unfold idxTo
  rw [List.drop_zero]
  rcases idx_cases q c with ⟨h1, _⟩ | ⟨k, hk, h1, _⟩ <;> rw [h1]
  · rfl
  · rw [if_neg (by omega)]; omega
theorem idxTo_step {α : Type} [DecidableEq α] (q : List α) (c : α) (i : Nat) (hi : i < q.length) : idxTo q c i = if q[i] = c then (i : Int) else idxTo q c (i + 1) := by
  unfold idxTo
  rw [List.drop_eq_getElem_cons hi, idx]
  by_cases h : q[i] = c
  · rw [if_pos h, if_pos h]; simp
  · rw [if_neg h, if_neg h]
    rcases idx_cases (q.drop (i + 1)) c with ⟨h1, _⟩ | ⟨k, hk, h1, _⟩ <;> rw [h1]
    · rfl
    · rw [if_neg (by omega), if_neg (by omega), if_neg (by omega)]; omega
theorem idxTo_end {α : Type} [DecidableEq α] (q : List α) (c : α) (i : Nat) (hi : q.length ≤ i) : idxTo q c i = -1 := by
  unfold idxTo
  rw [List.drop_eq_nil_of_le hi]; rfl
theorem index_ok (q : List K) (c : K) (hl : q.length < 1000000) : slices_Index_api_Key_api_Key.R (q.map encK) c.obj c.slot = some (idx q c, ()) := by
  refine slices_Index_api_Key_api_Key.start _ _ _ _ ?_
  have key : ∀ m i : Nat, i + m = q.length → slices_Index_api_Key_api_Key.H3 (q.map encK) q.length i c.obj c.slot (idxTo q c i, ()) := by
    intro m
    induction m with
    | zero =>
      intro i hi
      refine slices_Index_api_Key_api_Key.H3_step _ _ _ _ _ _ ?_
      rw [decide_eq_false (by omega), idxTo_end q c i (by omega)]
      rfl
    | succ m ih =>
      intro i hi
      refine slices_Index_api_Key_api_Key.H3_step _ _ _ _ _ _ ?_
      have hil : i < q.length := by omega
      rw [decide_eq_true (by omega), idxTo_step q c i hil]
      simp only [cond_true, needs_nat, Int.toNat_natCast, map_get _ _ _ hil, optAll_so, k0_, k1_, eqK, cond_ite, decide_eq_true_eq, wrap_succ (show i < 4611686018427387904 by omega)]
      by_cases h : q[i] = c
      · rw [if_pos h, if_pos h.symm]
      · rw [if_neg h, if_neg (fun e => h e.symm)]
        exact ih (i + 1) (by omega)
  have := key q.length 0 (by omega)
  rw [idxTo_zero] at this
  rw [List.length_map]
  exact this
theorem rfind_ok (g : G) (c : K) (hl : g.keys.length < 1000000) : ref14_find.R (g.keys.map encK) (g.ids.map ei) (g.from_.map ei) c.obj c.slot = some (idx g.keys c, ()) := by
  refine ref14_find.start _ _ _ _ _ _ ?_
  have key : ∀ m i : Nat, i + m = g.keys.length → ref14_find.H3 i (g.keys.map encK) (g.ids.map ei) (g.from_.map ei) c.obj c.slot (idxTo g.keys c i, ()) := by
    intro m
    induction m with
    | zero =>
      intro i hi
      refine ref14_find.H3_step _ _ _ _ _ _ _ ?_
      rw [decide_eq_false (by simp; omega), idxTo_end g.keys c i (by omega)]
      rfl
    | succ m ih =>
      intro i hi
      refine ref14_find.H3_step _ _ _ _ _ _ _ ?_
      have hil : i < g.keys.length := by omega
      rw [decide_eq_true (by simp; omega), idxTo_step g.keys c i hil]
      simp only [cond_true, needs_nat, Int.toNat_natCast, map_get _ _ _ hil, optAll_so, k0_, k1_, eqK, cond_ite, decide_eq_true_eq, wrap_succ (show i < 4611686018427387904 by omega)]
      by_cases h : g.keys[i] = c
      · rw [if_pos h, if_pos h]
      · rw [if_neg h, if_neg h]
        exact ih (i + 1) (by omega)
  have := key g.keys.length 0 (by omega)
  rw [idxTo_zero] at this
  exact this
theorem contains_ok (q : List Int) (c : Int) (hl : q.length < 1000000) : slices_Contains_int_int.R (q.map ei) c = some (decide (c ∈ q), ()) := by
  refine slices_Contains_int_int.start _ _ _ ?_
  have h : slices_Index_int_int.R (q.map ei) c = some (idx q c, ()) := by
    refine slices_Index_int_int.start _ _ _ ?_
    have key : ∀ m i : Nat, i + m = q.length → slices_Index_int_int.H3 (q.map ei) c q.length i (idxTo q c i, ()) := by
      intro m
      induction m with
      | zero =>
        intro i hi
        refine slices_Index_int_int.H3_step _ _ _ _ _ ?_
        rw [decide_eq_false (by omega), idxTo_end q c i (by omega)]
        rfl
      | succ m ih =>
        intro i hi
        refine slices_Index_int_int.H3_step _ _ _ _ _ ?_
        have hil : i < q.length := by omega
        rw [decide_eq_true (by omega), idxTo_step q c i hil]
        simp only [cond_true, needs_nat, Int.toNat_natCast, map_get _ _ _ hil, optAll_so, n0_, cond_ite, beq_iff_eq, wrap_succ (show i < 4611686018427387904 by omega)]
        by_cases h : q[i] = c
        · rw [if_pos h, if_pos h.symm]
        · rw [if_neg h, if_neg (fun e => h e.symm)]
          exact ih (i + 1) (by omega)
    have := key q.length 0 (by omega)
    rw [idxTo_zero] at this
    rw [List.length_map]
    exact this
  rw [h]
  simp only [optAll_so]
  rcases idx_cases q c with ⟨h1, h2⟩ | ⟨k, hk, h1, h2, _⟩
  · rw [h1, decide_eq_false h2]; rfl
  · rw [h1, decide_eq_true (show c ∈ q from h2 ▸ List.getElem_mem hk), decide_eq_true (by omega)]
/-! May a ghost be? -/
def fromOK : List Int → Nat → Bool
  | [], _ => true
  | u :: l, i => decide (-1 ≤ u) && decide (u < i) && fromOK l (i + 1)
def pairOK (n : Nat) : List K → List Int → List K → List Int → Bool
  | k :: ks, d :: ds, sk, sd => !decide (k ∈ sk) && !decide (d ∈ sd) && decide (0 ≤ d) && decide (d < n) && kOK k && pairOK n ks ds (sk ++ [k]) (sd ++ [d])
  | _, _, _, _ => true
def good (g : G) : Bool := decide (g.keys.length = g.ids.length) && decide (g.from_.length ≤ 4096) && fromOK g.from_ 0 && pairOK g.from_.length g.keys g.ids [] []
structure Small (g : G) : Prop where
  keys : g.keys.length < 1000000
  ids : g.ids.length < 1000000
  from_ : g.from_.length < 1000000
theorem pair_loop (g : G) (hs : Small g) (hl : g.keys.length = g.ids.length) : ∀ (m i : Nat) (sk : List K) (sd : List Int), i + m = g.keys.length →
    ghost_Check.H12 (g.keys.map encK) g.keys.length i (g.keys.map encK) (g.ids.map ei) (g.from_.map ei) (sk.map (ent encK)) (sd.map (ent ei)) (er (pairOK g.from_.length (g.keys.drop i) (g.ids.drop i) sk sd), ()) := by
  intro m
  induction m with
  | zero =>
    intro i sk sd hi
    refine ghost_Check.H12_step _ _ _ _ _ _ _ _ _ ?_
    rw [decide_eq_false (by omega), List.drop_eq_nil_of_le (by omega)]
    rfl
  | succ m ih =>
    intro i sk sd hi
    refine ghost_Check.H12_step _ _ _ _ _ _ _ _ _ ?_
    have hik : i < g.keys.length := by omega
    have hid : i < g.ids.length := by omega
    have hsk := hs.keys
    rw [decide_eq_true (by omega), List.drop_eq_getElem_cons hik, List.drop_eq_getElem_cons hid, pairOK]
    simp only [cond_true, needs_nat, Int.toNat_natCast, map_get _ _ _ hik, map_get _ _ _ hid, optAll_so, k0_, k1_, n0_, hasK, hasI, order_ok, List.length_map, wrap_succ (show i < 4611686018427387904 by omega)]
    have nxt := ih (i + 1) (sk ++ [g.keys[i]]) (sd ++ [g.ids[i]]) (by omega)
    generalize g.keys[i] = k at nxt ⊢
    generalize g.ids[i] = d at nxt ⊢
    by_cases h1 : k ∈ sk
    · rw [decide_eq_true h1]; rfl
    rw [decide_eq_false h1]
    by_cases h2 : d ∈ sd
    · rw [decide_eq_true h2]; rfl
    rw [decide_eq_false h2]
    by_cases h3 : d < 0
    · rw [decide_eq_true h3, decide_eq_false (show ¬ 0 ≤ d by omega)]; rfl
    rw [decide_eq_false h3, decide_eq_true (show 0 ≤ d by omega)]
    by_cases h4 : d ≥ g.from_.length
    · rw [decide_eq_true h4, decide_eq_false (show ¬ d < g.from_.length by omega)]; rfl
    rw [decide_eq_false h4, decide_eq_true (show d < g.from_.length by omega)]
    cases h5 : kOK k
    · rfl
    · simp only [cond_false, er, bne_self_eq_false, putK h1, putI h2, optAll_so]
      exact nxt
theorem from_loop (g : G) (hs : Small g) (hl : g.keys.length = g.ids.length) : ∀ m i : Nat, i + m = g.from_.length →
    ghost_Check.H5 (g.from_.map ei) g.from_.length i (g.keys.map encK) (g.ids.map ei) (g.from_.map ei) (er (fromOK (g.from_.drop i) i && pairOK g.from_.length g.keys g.ids [] []), ()) := by
  intro m
  induction m with
  | zero =>
    intro i hi
    refine ghost_Check.H5_step _ _ _ _ _ _ _ ?_
    rw [decide_eq_false (by omega), List.drop_eq_nil_of_le (by omega)]
    have := pair_loop g hs hl g.keys.length 0 [] [] (by omega)
    simp only [cond_false, List.length_map, fromOK, Bool.true_and]
    exact this
  | succ m ih =>
    intro i hi
    refine ghost_Check.H5_step _ _ _ _ _ _ _ ?_
    have hif : i < g.from_.length := by omega
    have hsf := hs.from_
    rw [decide_eq_true (by omega), List.drop_eq_getElem_cons hif, fromOK]
    simp only [cond_true, needs_nat, Int.toNat_natCast, map_get _ _ _ hif, optAll_so, n0_, wrap_succ (show i < 4611686018427387904 by omega)]
    have nxt := ih (i + 1) (by omega)
    generalize g.from_[i] = u
    by_cases h1 : u < -1
    · rw [decide_eq_true h1, decide_eq_false (show ¬ -1 ≤ u by omega)]; rfl
    rw [decide_eq_false h1, decide_eq_true (show -1 ≤ u by omega)]
    by_cases h2 : u ≥ i
    · rw [decide_eq_true h2, decide_eq_false (show ¬ u < i by omega)]; rfl
    rw [decide_eq_false h2, decide_eq_true (show u < i by omega)]
    exact nxt
theorem check_ok (g : G) (hs : Small g) : ghost_Check.R (g.keys.map encK) (g.ids.map ei) (g.from_.map ei) = some (er (good g), ()) := by
  refine ghost_Check.start _ _ _ _ ?_
  unfold good
  simp only [List.length_map]
  by_cases h1 : g.keys.length = g.ids.length
  · rw [show ((g.keys.length : Int) != (g.ids.length : Int)) = false by rw [h1]; simp, decide_eq_true h1]
    by_cases h2 : (g.from_.length : Int) > 4096
    · rw [decide_eq_true h2, decide_eq_false (show ¬ g.from_.length ≤ 4096 by omega)]; rfl
    · rw [decide_eq_false h2, decide_eq_true (show g.from_.length ≤ 4096 by omega)]
      exact from_loop g hs h1 g.from_.length 0 (by omega)
  · rw [show ((g.keys.length : Int) != (g.ids.length : Int)) = true by simp; omega, decide_eq_false h1]; rfl
end Ghost
end Go.AI
