/-
  Own work. Keys: their order's check, maps as sets, the place of a thing in a list.
-/
import Derived.Test.YtjjchnnnchccgaaToldT
import Derived.Test.YtjjchnnnchccgaaAiKit2
namespace Go.AI
open Go
set_option linter.unusedVariables false
set_option linter.unusedSimpArgs false
namespace Ghost
open Kit

structure K where
  obj : Int
  slot : Int
  deriving DecidableEq
def encK (k : K) : List DV := [.v (.int .i64 k.obj), .v (.int .i64 k.slot)]
theorem k0_ (k : K) : dInt .i64 (encK k) 0 = some k.obj := rfl
theorem k1_ (k : K) : dInt .i64 (encK k) 1 = some k.slot := rfl
theorem n0_ (n : Int) : dInt .i64 (ei n) 0 = some n := rfl
theorem encK_is (k : K) : [.v (.int .i64 k.obj), .v (.int .i64 k.slot)] = encK k := rfl
theorem ei_is (n : Int) : [.v (.int .i64 n)] = ei n := rfl
theorem eqK (a b : K) : (a.obj == b.obj && (a.slot == b.slot && true)) = decide (a = b) := by
  obtain ⟨a1, a2⟩ := a
  obtain ⟨b1, b2⟩ := b
  rw [Bool.eq_iff_iff]
  simp
theorem needs_nat (k : Nat) (p : Prop) : needs ((0 : Int) ≤ (k : Int)) p = p := by
  rw [needs_iff]; exact propext ⟨fun h => h.2, fun h => ⟨Int.natCast_nonneg k, h⟩⟩
def er (b : Bool) : Int := match b with
  | true => 0
  | false => 2
theorem er_zero (b : Bool) : (er b == 0) = b := by cases b <;> rfl

/-! Maps as sets -/
def ent {α : Type} (kd : α → List DV) (a : α) : List DV × DV := (kd a, .v (.bool true))
theorem mapHas_set {α : Type} [DecidableEq α] {ks : Option (List Bool)} {kd : α → List DV} (heq : ∀ a b, keyEq ks (keyAV ks.isSome (kd a)) (keyAV ks.isSome (kd b)) = some (decide (a = b))) (a : α) (l : List α) :
    mapHas ks (kd a) (l.map (ent kd)) = some (decide (a ∈ l)) := by
  unfold mapHas
  have hk : keyOk ks (keyAV ks.isSome (kd a)) = true := by unfold keyOk; rw [heq]; rfl
  rw [hk]
  simp only
  have key : ∀ l : List α, findA ks (keyAV ks.isSome (kd a)) ((l.map (ent kd)).map (entAV ks.isSome)) = some (if a ∈ l then some (.d (.v (.bool true))) else none) := by
    intro l
    induction l with
    | nil => rfl
    | cons b l ih =>
      simp only [List.map_cons, findA]
      rw [show (entAV ks.isSome (ent kd b)).1 = keyAV ks.isSome (kd b) from rfl, heq]
      by_cases h : a = b
      · rw [decide_eq_true h, if_pos (by rw [h]; exact List.mem_cons_self ..)]
        rfl
      · rw [decide_eq_false h]
        simp only
        rw [ih]
        by_cases h2 : a ∈ l
        · rw [if_pos h2, if_pos (List.mem_cons_of_mem _ h2)]
        · rw [if_neg h2, if_neg (by simp [h, h2])]
  rw [key]
  by_cases h : a ∈ l
  · rw [if_pos h, decide_eq_true h]
  · rw [if_neg h, decide_eq_false h]
theorem mapPut_set {α : Type} [DecidableEq α] {ks : Option (List Bool)} {kd : α → List DV} (heq : ∀ a b, keyEq ks (keyAV ks.isSome (kd a)) (keyAV ks.isSome (kd b)) = some (decide (a = b))) {a : α} {l : List α} (h : a ∉ l) :
    mapPut ks (kd a) (.v (.bool true)) (l.map (ent kd)) = some ((l ++ [a]).map (ent kd)) := by
  unfold mapPut
  have hk : keyOk ks (keyAV ks.isSome (kd a)) = true := by unfold keyOk; rw [heq]; rfl
  rw [hk]
  simp only
  induction l with
  | nil => rfl
  | cons b l ih =>
    simp only [List.map_cons, mapPutD]
    rw [show (ent kd b).1 = kd b from rfl, heq, decide_eq_false (fun e => h (by rw [e]; exact List.mem_cons_self ..))]
    simp only
    rw [ih (fun e => h (List.mem_cons_of_mem _ e))]
    rfl
theorem keyK (a b : K) : keyEq (some [false, false]) (keyAV (some [false, false]).isSome (encK a)) (keyAV (some [false, false]).isSome (encK b)) = some (decide (a = b)) := by
  rw [← eqK]; rfl
theorem keyI (a b : Int) : keyEq none (keyAV (none : Option (List Bool)).isSome (ei a)) (keyAV (none : Option (List Bool)).isSome (ei b)) = some (decide (a = b)) := by
  rw [show decide (a = b) = (a == b) by rw [Bool.eq_iff_iff]; simp]; rfl

theorem hasI (a : Int) (l : List Int) : mapHas none [.v (.int .i64 a)] (l.map (ent ei)) = some (decide (a ∈ l)) := mapHas_set keyI a l
theorem putI {a : Int} {l : List Int} (h : a ∉ l) : mapPut none [.v (.int .i64 a)] (.v (.bool true)) (l.map (ent ei)) = some ((l ++ [a]).map (ent ei)) := mapPut_set keyI h
theorem hasK (a : K) (l : List K) : mapHas (some [false, false]) [.v (.int .i64 a.obj), .v (.int .i64 a.slot)] (l.map (ent encK)) = some (decide (a ∈ l)) := mapHas_set keyK a l
theorem putK {a : K} {l : List K} (h : a ∉ l) : mapPut (some [false, false]) [.v (.int .i64 a.obj), .v (.int .i64 a.slot)] (.v (.bool true)) (l.map (ent encK)) = some ((l ++ [a]).map (ent encK)) := mapPut_set keyK h
/-! Keys -/
def kOK (k : K) : Bool := decide (0 ≤ k.obj) && decide (k.obj ≤ 1023) && decide (-1 ≤ k.slot) && decide (k.slot < 8)
theorem order_ok (k : K) : order_Check.R k.obj k.slot = some (er (kOK k), ()) := by
  refine order_Check.start _ _ _ ?_
  unfold kOK
  by_cases h1 : k.obj < 0
  · rw [decide_eq_true h1, decide_eq_false (show ¬ 0 ≤ k.obj by omega)]; rfl
  rw [decide_eq_false h1, decide_eq_true (show 0 ≤ k.obj by omega)]
  by_cases h2 : k.obj > 1023
  · rw [decide_eq_true h2, decide_eq_false (show ¬ k.obj ≤ 1023 by omega)]; rfl
  rw [decide_eq_false h2, decide_eq_true (show k.obj ≤ 1023 by omega)]
  by_cases h3 : k.slot < -1
  · rw [decide_eq_true h3, decide_eq_false (show ¬ -1 ≤ k.slot by omega)]; rfl
  rw [decide_eq_false h3, decide_eq_true (show -1 ≤ k.slot by omega)]
  by_cases h4 : k.slot ≥ 8
  · rw [decide_eq_true h4, decide_eq_false (show ¬ k.slot < 8 by omega)]; rfl
  rw [decide_eq_false h4, decide_eq_true (show k.slot < 8 by omega)]; rfl
theorem rkey_ok (k : K) : ref06_Is.R k.obj k.slot = some (kOK k, ()) := by
  refine ref06_Is.start _ _ _ ?_
  unfold kOK
  by_cases h1 : k.obj ≥ 0
  · rw [decide_eq_true h1]
    by_cases h2 : k.obj ≤ 1023
    · rw [decide_eq_true h2]
      by_cases h3 : k.slot ≥ -1
      · rw [decide_eq_true h3]
        simp only [cond_true, Bool.true_and]
        congr 1
        exact decide_eq_decide.2 (by omega)
      · rw [decide_eq_false h3]; rfl
    · rw [decide_eq_false h2]; rfl
  · rw [decide_eq_false h1]; rfl
/-! The place of a thing in a list; -1: it is not there. -/
def idx {α : Type} [DecidableEq α] : List α → α → Int
  | [], _ => -1
  | w :: q, c => if w = c then 0 else if idx q c < 0 then -1 else idx q c + 1
theorem idx_cases {α : Type} [DecidableEq α] : ∀ (q : List α) (c : α), (idx q c = -1 ∧ c ∉ q) ∨ ∃ k : Nat, ∃ h : k < q.length, idx q c = k ∧ q[k] = c ∧ ∀ j, ∀ hj : j < k, q[j]'(by omega) ≠ c
  | [], c => .inl ⟨rfl, by simp⟩
  | w :: q, c => by
    by_cases h : w = c
    · exact .inr ⟨0, by simp, by simp [idx, h], by simpa using h, fun j hj => absurd hj (by omega)⟩
    · rcases idx_cases q c with ⟨h1, h2⟩ | ⟨k, hk, h1, h2, h3⟩
      · refine .inl ⟨by simp [idx, h, h1], fun hx => ?_⟩
        rcases List.mem_cons.1 hx with e | hx
        · exact h e.symm
        · exact h2 hx
      · refine .inr ⟨k + 1, by simp; omega, ?_, by simpa using h2, fun j hj => ?_⟩
        · rw [idx, if_neg h, h1, if_neg (by omega)]; omega
        · cases j with
          | zero => simpa using h
          | succ j => simpa using h3 j (by omega)
def idxTo {α : Type} [DecidableEq α] (q : List α) (c : α) (i : Nat) : Int := if idx (q.drop i) c < 0 then -1 else (i : Int) + idx (q.drop i) c
theorem idxTo_zero {α : Type} [DecidableEq α] (q : List α) (c : α) : idxTo q c 0 = idx q c := by
  unfold idxTo
  rw [List.drop_zero]
  rcases idx_cases q c with ⟨h1, _⟩ | ⟨k, hk, h1, _⟩ <;> rw [h1]
  · rfl
  · rw [if_neg (by omega)]; omega
theorem idxTo_step {α : Type} [DecidableEq α] (q : List α) (c : α) (i : Nat) (hi : i < q.length) : idxTo q c i = if q[i] = c then (i : Int) else idxTo q c (i + 1) := by
  unfold idxTo
  rw [List.drop_eq_getElem_cons hi, idx]
  by_cases h : q[i] = c
  · rw [if_pos h, if_pos h]; simp
  · rw [if_neg h, if_neg h]
    rcases idx_cases (q.drop (i + 1)) c with ⟨h1, _⟩ | ⟨k, hk, h1, _⟩ <;> rw [h1]
    · rfl
    · rw [if_neg (by omega), if_neg (by omega), if_neg (by omega)]; omega
theorem idxTo_end {α : Type} [DecidableEq α] (q : List α) (c : α) (i : Nat) (hi : q.length ≤ i) : idxTo q c i = -1 := by
  unfold idxTo
  rw [List.drop_eq_nil_of_le hi]; rfl
theorem index_ok (q : List K) (c : K) (hl : q.length < 1000000) : slices_Index_api_Key_api_Key.R (q.map encK) c.obj c.slot = some (idx q c, ()) := by
  refine slices_Index_api_Key_api_Key.start _ _ _ _ ?_
  have key : ∀ m i : Nat, i + m = q.length → slices_Index_api_Key_api_Key.H3 (q.map encK) q.length i c.obj c.slot (idxTo q c i, ()) := by
    intro m
    induction m with
    | zero =>
      intro i hi
      refine slices_Index_api_Key_api_Key.H3_step _ _ _ _ _ _ ?_
      rw [decide_eq_false (by omega), idxTo_end q c i (by omega)]
      rfl
    | succ m ih =>
      intro i hi
      refine slices_Index_api_Key_api_Key.H3_step _ _ _ _ _ _ ?_
      have hil : i < q.length := by omega
      rw [decide_eq_true (by omega), idxTo_step q c i hil]
      simp only [cond_true, needs_nat, Int.toNat_natCast, map_get _ _ _ hil, optAll_so, k0_, k1_, eqK, cond_ite, decide_eq_true_eq, wrap_succ (show i < 4611686018427387904 by omega)]
      by_cases h : q[i] = c
      · rw [if_pos h, if_pos h.symm]
      · rw [if_neg h, if_neg (fun e => h e.symm)]
        exact ih (i + 1) (by omega)
  have := key q.length 0 (by omega)
  rw [idxTo_zero] at this
  rw [List.length_map]
  exact this
end Ghost
end Go.AI
