/-
  Own work. tree's functions, for the seat links: of the texts XKeys, XTree1 to XTree4.
-/
import Derived.Test.YtjmpflgdmnoinaaToldT
import Derived.Test.YtjmpflgdmnoinaaToldL
import Derived.Test.YtjmpflgdmnoinaaAiKit2
namespace Go.AI
open Go
set_option linter.unusedVariables false
set_option linter.unusedSimpArgs false
namespace Ghost
open Kit

structure K where
  obj : Int
  slot : Int
  deriving DecidableEq
def encK (k : K) : List DV := [.v (.int .i64 k.obj), .v (.int .i64 k.slot)]
theorem k0_ (k : K) : dInt .i64 (encK k) 0 = some k.obj := rfl
theorem k1_ (k : K) : dInt .i64 (encK k) 1 = some k.slot := rfl
theorem n0_ (n : Int) : dInt .i64 (ei n) 0 = some n := rfl
theorem encK_is (k : K) : [.v (.int .i64 k.obj), .v (.int .i64 k.slot)] = encK k := rfl
theorem ei_is (n : Int) : [.v (.int .i64 n)] = ei n := rfl
theorem eqK (a b : K) : (a.obj == b.obj && (a.slot == b.slot && true)) = decide (a = b) := by
  obtain ⟨a1, a2⟩ := a
  obtain ⟨b1, b2⟩ := b
  rw [Bool.eq_iff_iff]
  simp
theorem needs_nat (k : Nat) (p : Prop) : needs ((0 : Int) ≤ (k : Int)) p = p := by
  rw [needs_iff]; exact propext ⟨fun h => h.2, fun h => ⟨Int.natCast_nonneg k, h⟩⟩
def er (b : Bool) : Int := match b with
  | true => 0
  | false => 2
theorem er_zero (b : Bool) : (er b == 0) = b := by cases b <;> rfl

/-! Maps as sets -/
def ent {α : Type} (kd : α → List DV) (a : α) : List DV × DV := (kd a, .v (.bool true))
theorem mapHas_set {α : Type} [DecidableEq α] {ks : Option (List Bool)} {kd : α → List DV} (heq : ∀ a b, keyEq ks (keyAV ks.isSome (kd a)) (keyAV ks.isSome (kd b)) = some (decide (a = b))) (a : α) (l : List α) :
    mapHas ks (kd a) (l.map (ent kd)) = some (decide (a ∈ l)) := by
  unfold mapHas
  have hk : keyOk ks (keyAV ks.isSome (kd a)) = true := by unfold keyOk; rw [heq]; rfl
  rw [hk]
  simp only
  have key : ∀ l : List α, findA ks (keyAV ks.isSome (kd a)) ((l.map (ent kd)).map (entAV ks.isSome)) = some (if a ∈ l then some (.d (.v (.bool true))) else none) := by
    intro l
    induction l with
    | nil => rfl
    | cons b l ih =>
      simp only [List.map_cons, findA]
      rw [show (entAV ks.isSome (ent kd b)).1 = keyAV ks.isSome (kd b) from rfl, heq]
      by_cases h : a = b
      · rw [decide_eq_true h, if_pos (by rw [h]; exact List.mem_cons_self ..)]
        rfl
      · rw [decide_eq_false h]
        simp only
        rw [ih]
        by_cases h2 : a ∈ l
        · rw [if_pos h2, if_pos (List.mem_cons_of_mem _ h2)]
        · rw [if_neg h2, if_neg (by simp [h, h2])]
  rw [key]
  by_cases h : a ∈ l
  · rw [if_pos h, decide_eq_true h]
  · rw [if_neg h, decide_eq_false h]
theorem mapPut_set {α : Type} [DecidableEq α] {ks : Option (List Bool)} {kd : α → List DV} (heq : ∀ a b, keyEq ks (keyAV ks.isSome (kd a)) (keyAV ks.isSome (kd b)) = some (decide (a = b))) {a : α} {l : List α} (h : a ∉ l) :
    mapPut ks (kd a) (.v (.bool true)) (l.map (ent kd)) = some ((l ++ [a]).map (ent kd)) := by
  unfold mapPut
  have hk : keyOk ks (keyAV ks.isSome (kd a)) = true := by unfold keyOk; rw [heq]; rfl
  rw [hk]
  simp only
  induction l with
  | nil => rfl
  | cons b l ih =>
    simp only [List.map_cons, mapPutD]
    rw [show (ent kd b).1 = kd b from rfl, heq, decide_eq_false (fun e => h (by rw [e]; exact List.mem_cons_self ..))]
    simp only
    rw [ih (fun e => h (List.mem_cons_of_mem _ e))]
    rfl
theorem keyK (a b : K) : keyEq (some [false, false]) (keyAV (some [false, false]).isSome (encK a)) (keyAV (some [false, false]).isSome (encK b)) = some (decide (a = b)) := by
  rw [← eqK]; rfl
theorem keyI (a b : Int) : keyEq none (keyAV (none : Option (List Bool)).isSome (ei a)) (keyAV (none : Option (List Bool)).isSome (ei b)) = some (decide (a = b)) := by
  rw [show decide (a = b) = (a == b) by rw [Bool.eq_iff_iff]; simp]; rfl

theorem hasI (a : Int) (l : List Int) : mapHas none [.v (.int .i64 a)] (l.map (ent ei)) = some (decide (a ∈ l)) := mapHas_set keyI a l
theorem putI {a : Int} {l : List Int} (h : a ∉ l) : mapPut none [.v (.int .i64 a)] (.v (.bool true)) (l.map (ent ei)) = some ((l ++ [a]).map (ent ei)) := mapPut_set keyI h
theorem hasK (a : K) (l : List K) : mapHas (some [false, false]) [.v (.int .i64 a.obj), .v (.int .i64 a.slot)] (l.map (ent encK)) = some (decide (a ∈ l)) := mapHas_set keyK a l
theorem putK {a : K} {l : List K} (h : a ∉ l) : mapPut (some [false, false]) [.v (.int .i64 a.obj), .v (.int .i64 a.slot)] (.v (.bool true)) (l.map (ent encK)) = some ((l ++ [a]).map (ent encK)) := mapPut_set keyK h
/-! Keys -/
def kOK (k : K) : Bool := decide (0 ≤ k.obj) && decide (k.obj ≤ 1023) && decide (-1 ≤ k.slot) && decide (k.slot < 8)
theorem order_ok (k : K) : order_Check.R k.obj k.slot = some (er (kOK k), ()) := by
  refine order_Check.start _ _ _ ?_
  unfold kOK
  by_cases h1 : k.obj < 0
  · rw [decide_eq_true h1, decide_eq_false (show ¬ 0 ≤ k.obj by omega)]; rfl
  rw [decide_eq_false h1, decide_eq_true (show 0 ≤ k.obj by omega)]
  by_cases h2 : k.obj > 1023
  · rw [decide_eq_true h2, decide_eq_false (show ¬ k.obj ≤ 1023 by omega)]; rfl
  rw [decide_eq_false h2, decide_eq_true (show k.obj ≤ 1023 by omega)]
  by_cases h3 : k.slot < -1
  · rw [decide_eq_true h3, decide_eq_false (show ¬ -1 ≤ k.slot by omega)]; rfl
  rw [decide_eq_false h3, decide_eq_true (show -1 ≤ k.slot by omega)]
  by_cases h4 : k.slot ≥ 8
  · rw [decide_eq_true h4, decide_eq_false (show ¬ k.slot < 8 by omega)]; rfl
  rw [decide_eq_false h4, decide_eq_true (show k.slot < 8 by omega)]; rfl
/-! The place of a thing in a list; -1: it is not there. -/
def idx {α : Type} [DecidableEq α] : List α → α → Int
  | [], _ => -1
  | w :: q, c => if w = c then 0 else if idx q c < 0 then -1 else idx q c + 1
theorem idx_cases {α : Type} [DecidableEq α] : ∀ (q : List α) (c : α), (idx q c = -1 ∧ c ∉ q) ∨ ∃ k : Nat, ∃ h : k < q.length, idx q c = k ∧ q[k] = c ∧ ∀ j, ∀ hj : j < k, q[j]'(by omega) ≠ c
  | [], c => .inl ⟨rfl, by simp⟩
  | w :: q, c => by
    by_cases h : w = c
    · exact .inr ⟨0, by simp, by simp [idx, h], by simpa using h, fun j hj => absurd hj (by omega)⟩
    · rcases idx_cases q c with ⟨h1, h2⟩ | ⟨k, hk, h1, h2, h3⟩
      · refine .inl ⟨by simp [idx, h, h1], fun hx => ?_⟩
        rcases List.mem_cons.1 hx with e | hx
        · exact h e.symm
        · exact h2 hx
      · refine .inr ⟨k + 1, by simp; omega, ?_, by simpa using h2, fun j hj => ?_⟩
        · rw [idx, if_neg h, h1, if_neg (by omega)]; omega
        · cases j with
          | zero => simpa using h
          | succ j => simpa using h3 j (by omega)
def idxTo {α : Type} [DecidableEq α] (q : List α) (c : α) (i : Nat) : Int := if idx (q.drop i) c < 0 then -1 else (i : Int) + idx (q.drop i) c
theorem idxTo_zero {α : Type} [DecidableEq α] (q : List α) (c : α) : idxTo q c 0 = idx q c := by
  unfold idxTo
  rw [List.drop_zero]
  rcases idx_cases q c with ⟨h1, _⟩ | ⟨k, hk, h1, _⟩ <;> rw [h1]
  · rfl
  · rw [if_neg (by omega)]; omega
theorem idxTo_step {α : Type} [DecidableEq α] (q : List α) (c : α) (i : Nat) (hi : i < q.length) : idxTo q c i = if q[i] = c then (i : Int) else idxTo q c (i + 1) := by
  unfold idxTo
  rw [List.drop_eq_getElem_cons hi, idx]
  by_cases h : q[i] = c
  · rw [if_pos h, if_pos h]; simp
  · rw [if_neg h, if_neg h]
    rcases idx_cases (q.drop (i + 1)) c with ⟨h1, _⟩ | ⟨k, hk, h1, _⟩ <;> rw [h1]
    · rfl
    · rw [if_neg (by omega), if_neg (by omega), if_neg (by omega)]; omega
theorem idxTo_end {α : Type} [DecidableEq α] (q : List α) (c : α) (i : Nat) (hi : q.length ≤ i) : idxTo q c i = -1 := by
  unfold idxTo
  rw [List.drop_eq_nil_of_le hi]; rfl
end Ghost
namespace Trees
open Kit Ghost

def kk (r : TRow) : K := ⟨r.obj, r.slot⟩
def enc (t : List TRow) : List (List DV) := t.map TRow.row
def dr : TRow := ⟨0, 0, 0, false⟩
theorem t0_ (r : TRow) : dInt .i64 r.row 0 = some r.obj := rfl
theorem t1_ (r : TRow) : dInt .i64 r.row 1 = some r.slot := rfl
theorem t2_ (r : TRow) : dInt .i64 r.row 2 = some r.depth := rfl
theorem t3_ (r : TRow) : dBool r.row 3 = some r.mark := rfl
theorem enc_len (t : List TRow) : (enc t).length = t.length := List.length_map _
theorem enc_get (t : List TRow) (i : Nat) (h : i < t.length) : (enc t)[i]? = some t[i].row := by simp [enc, h]
theorem eqT (a b : TRow) : (a.obj == b.obj && (a.slot == b.slot && (a.depth == b.depth && (a.mark == b.mark && true)))) = decide (a = b) := by
  obtain ⟨a1, a2, a3, a4⟩ := a
  obtain ⟨b1, b2, b3, b4⟩ := b
  rw [Bool.eq_iff_iff]
  simp
theorem eqR (r : TRow) (k : K) : (r.obj == k.obj && (r.slot == k.slot && true)) = decide (kk r = k) := eqK (kk r) k
/-- Where a key is; -1: nowhere. -/
def fnd (t : List TRow) (k : K) : Int := idx (t.map kk) k
def ftup (i : Int) : Int × (Bool × Unit) := (if (0 : Int) > i then 0 else i, (decide (i ≥ 0), ()))
theorem ftup_nat (i : Nat) : ftup i = ((i : Int), (true, ())) := by
  unfold ftup
  rw [if_neg (by omega), decide_eq_true (by omega)]
theorem ftup_neg : ftup (-1) = (0, (false, ())) := rfl
theorem fnd_cases (t : List TRow) (k : K) : (fnd t k = -1 ∧ ∀ r ∈ t, kk r ≠ k) ∨ ∃ i : Nat, ∃ h : i < t.length, fnd t k = i ∧ kk t[i] = k ∧ ∀ j, ∀ hj : j < i, kk (t[j]'(by omega)) ≠ k := by
  rcases idx_cases (t.map kk) k with ⟨h1, h2⟩ | ⟨i, hi, h1, h2, h3⟩
  · exact .inl ⟨h1, fun r hr e => h2 (e ▸ List.mem_map_of_mem hr)⟩
  · refine .inr ⟨i, by simpa using hi, h1, by simpa using h2, fun j hj => by simpa using h3 j hj⟩
theorem idxTo_kk (t : List TRow) (k : K) (i : Nat) (hi : i < t.length) : idxTo (t.map kk) k i = if kk t[i] = k then (i : Int) else idxTo (t.map kk) k (i + 1) := by
  rw [idxTo_step _ _ _ (by simpa using hi)]
  simp
theorem rfind_ok (t : List TRow) (k : K) (hl : t.length < 1000000) : ref13_Find.R (enc t) k.obj k.slot = some (ftup (fnd t k)) := by
  refine ref13_Find.start _ _ _ _ ?_
  have key : ∀ m i : Nat, i + m = t.length → ref13_Find.H3 (enc t) i k.obj k.slot (ftup (idxTo (t.map kk) k i)) := by
    intro m
    induction m with
    | zero =>
      intro i hi
      refine ref13_Find.H3_step _ _ _ _ _ ?_
      rw [enc_len, decide_eq_false (by omega), idxTo_end _ _ _ (by simp; omega)]
      rfl
    | succ m ih =>
      intro i hi
      refine ref13_Find.H3_step _ _ _ _ _ ?_
      have hil : i < t.length := by omega
      rw [enc_len, decide_eq_true (by omega), idxTo_kk t k i hil]
      simp only [cond_true, needs_nat, Int.toNat_natCast, enc_get _ _ hil, optAll_so, t0_, t1_, eqR, cond_ite, decide_eq_true_eq, wrap_succ (show i < 4611686018427387904 by omega)]
      by_cases h : kk t[i] = k
      · rw [if_pos h, if_pos h, ftup_nat]
      · rw [if_neg h, if_neg h]
        exact ih (i + 1) (by omega)
  have := key t.length 0 (by omega)
  rw [idxTo_zero] at this
  exact this
theorem rfindR (t : List TRow) (r : TRow) (hl : t.length < 1000000) : ref13_Find.R (enc t) r.obj r.slot = some (ftup (fnd t (kk r))) := rfind_ok t (kk r) hl
theorem find_ok (t : List TRow) (k : K) (hl : t.length < 1000000) : tree_Find.R (enc t) k.obj k.slot = some (ftup (fnd t k)) := by
  refine tree_Find.start _ _ _ _ ?_
  have h : slices_IndexFunc_api_Branch_api_Branch__tree_Find_1.R (enc t) k.obj k.slot = some (fnd t k, ()) := by
    refine slices_IndexFunc_api_Branch_api_Branch__tree_Find_1.start _ _ _ _ ?_
    have key : ∀ m i : Nat, i + m = t.length → slices_IndexFunc_api_Branch_api_Branch__tree_Find_1.H3 (enc t) t.length i k.obj k.slot (idxTo (t.map kk) k i, ()) := by
      intro m
      induction m with
      | zero =>
        intro i hi
        refine slices_IndexFunc_api_Branch_api_Branch__tree_Find_1.H3_step _ _ _ _ _ _ ?_
        rw [decide_eq_false (by omega), idxTo_end _ _ _ (by simp; omega)]
        rfl
      | succ m ih =>
        intro i hi
        refine slices_IndexFunc_api_Branch_api_Branch__tree_Find_1.H3_step _ _ _ _ _ _ ?_
        have hil : i < t.length := by omega
        rw [decide_eq_true (by omega), idxTo_kk t k i hil]
        simp only [cond_true, needs_nat, Int.toNat_natCast, enc_get _ _ hil, optAll_so, t0_, t1_, t2_, t3_, eqR, cond_ite, decide_eq_true_eq, wrap_succ (show i < 4611686018427387904 by omega)]
        by_cases h : kk t[i] = k
        · rw [if_pos h, if_pos h]
        · rw [if_neg h, if_neg h]
          exact ih (i + 1) (by omega)
    have := key t.length 0 (by omega)
    rw [idxTo_zero] at this
    rw [enc_len]
    exact this
  rw [h]
  exact rfl
/-! Sameness -/
/-! Is a list a tree? -/
def dd (t : List TRow) (i : Nat) : Int := (t.getD i dr).depth
def lim (t : List TRow) : Nat → Int
  | 0 => 0
  | i + 1 => dd t i + 1
def goodAt (t : List TRow) (i : Nat) : Bool := !decide (kk (t.getD i dr) ∈ (t.take i).map kk) && kOK (kk (t.getD i dr)) && decide (0 ≤ dd t i) && decide (dd t i ≤ lim t i)
def gF (t : List TRow) : Nat → Nat → Bool
  | 0, _ => true
  | n + 1, i => goodAt t i && gF t n (i + 1)
def good (t : List TRow) : Bool := gF t t.length 0
def tOK (t : List TRow) : Bool := decide (t.length ≤ 512) && good t
theorem gF_iff (t : List TRow) : ∀ n i : Nat, gF t n i = true ↔ ∀ j, i ≤ j → j < i + n → goodAt t j = true
  | 0, i => by simp [gF]; intro j h1 h2; omega
  | n + 1, i => by
    simp only [gF, Bool.and_eq_true, gF_iff t n (i + 1)]
    constructor
    · rintro ⟨h1, h2⟩ j h3 h4
      by_cases hj : j = i
      · subst hj; exact h1
      · exact h2 j (by omega) (by omega)
    · intro h
      exact ⟨h i (Nat.le_refl _) (by omega), fun j h1 h2 => h j (by omega) (by omega)⟩
theorem good_iff (t : List TRow) : good t = true ↔ ∀ j, j < t.length → goodAt t j = true := by
  unfold good
  rw [gF_iff]
  exact ⟨fun h j hj => h j (Nat.zero_le _) (by omega), fun h j _ hj => h j (by omega)⟩
theorem getD_lt (t : List TRow) {i : Nat} (h : i < t.length) : t.getD i dr = t[i] := by simp [List.getD_eq_getElem?_getD, h]
theorem depth_le {t : List TRow} : ∀ {i : Nat}, (∀ j, j < i → goodAt t j = true) → (lim t i ≤ i) ∧ ∀ j, j < i → dd t j ≤ j ∧ 0 ≤ dd t j
  | 0, _ => ⟨Int.le_refl _, fun j hj => absurd hj (by omega)⟩
  | i + 1, h => by
    obtain ⟨h1, h2⟩ := depth_le (i := i) fun j hj => h j (by omega)
    have h3 := h i (by omega)
    unfold goodAt at h3
    simp only [Bool.and_eq_true, decide_eq_true_eq] at h3
    obtain ⟨⟨_, h4⟩, h5⟩ := h3
    refine ⟨by simp only [lim]; omega, fun j hj => ?_⟩
    by_cases hj' : j = i
    · subst hj'; exact ⟨by omega, h4⟩
    · exact h2 j (by omega)
theorem hasR (r : TRow) (l : List K) : mapHas (some [false, false]) [.v (.int .i64 r.obj), .v (.int .i64 r.slot)] (l.map (ent encK)) = some (decide (kk r ∈ l)) := hasK (kk r) l
theorem putR {r : TRow} {l : List K} (h : kk r ∉ l) : mapPut (some [false, false]) [.v (.int .i64 r.obj), .v (.int .i64 r.slot)] (.v (.bool true)) (l.map (ent encK)) = some ((l ++ [kk r]).map (ent encK)) := putK h
theorem orderR (r : TRow) : order_Check.R r.obj r.slot = some (er (kOK (kk r)), ()) := order_ok (kk r)
theorem check_ok (t : List TRow) (hl : t.length < 1000000) : tree_Check.R (enc t) = some (er (tOK t), ()) := by
  refine tree_Check.start _ _ ?_
  rw [enc_len]
  unfold tOK
  by_cases h5 : t.length ≤ 512
  · rw [decide_eq_false (by omega), decide_eq_true h5, Bool.true_and]
    have key : ∀ m i : Nat, i + m = t.length → (∀ j, j < i → goodAt t j = true) → tree_Check.H7 (lim t i) (enc t) t.length i (((t.take i).map kk).map (ent encK)) (er (gF t m i), ()) := by
      intro m
      induction m with
      | zero =>
        intro i hi _
        refine tree_Check.H7_step _ _ _ _ _ _ ?_
        rw [decide_eq_false (by omega)]
        rfl
      | succ m ih =>
        intro i hi hg
        refine tree_Check.H7_step _ _ _ _ _ _ ?_
        have hil : i < t.length := by omega
        obtain ⟨hlim, _⟩ := depth_le hg
        rw [decide_eq_true (by omega)]
        simp only [cond_true, needs_nat, Int.toNat_natCast, enc_get _ _ hil, optAll_so, t0_, t1_, t2_, t3_, hasR]
        have hgA : goodAt t i = (!decide (kk t[i] ∈ (t.take i).map kk) && kOK (kk t[i]) && decide (0 ≤ t[i].depth) && decide (t[i].depth ≤ lim t i)) := by
          unfold goodAt dd
          rw [getD_lt t hil]
        by_cases hmem : kk t[i] ∈ (t.take i).map kk
        · rw [decide_eq_true hmem]
          simp only [gF, hgA, decide_eq_true hmem, Bool.not_true, Bool.false_and]
          rfl
        rw [decide_eq_false hmem]
        simp only [cond_false, orderR, optAll_so]
        cases hk : kOK (kk t[i]) with
        | false =>
          simp only [gF, hgA, hk, Bool.and_false, Bool.false_and]
          rfl
        | true =>
          rw [show ((er true != 0) : Bool) = false from rfl]
          simp only [cond_false]
          by_cases hd0 : t[i].depth < 0
          · rw [decide_eq_true hd0]
            simp only [gF, hgA, decide_eq_false (show ¬ 0 ≤ t[i].depth by omega), Bool.and_false, Bool.false_and]
            rfl
          rw [decide_eq_false hd0]
          simp only [cond_false]
          by_cases hd1 : t[i].depth > lim t i
          · rw [decide_eq_true hd1]
            simp only [gF, hgA, decide_eq_false (show ¬ t[i].depth ≤ lim t i by omega), Bool.and_false, Bool.false_and]
            rfl
          rw [decide_eq_false hd1]
          simp only [cond_false, putR hmem, optAll_so]
          have hgi : goodAt t i = true := by
            rw [hgA, decide_eq_false hmem, hk, decide_eq_true (show 0 ≤ t[i].depth by omega), decide_eq_true (show t[i].depth ≤ lim t i by omega)]
            rfl
          have hnext := ih (i + 1) (by omega) fun j hj => by
            by_cases h : j = i
            · subst h; exact hgi
            · exact hg j (by omega)
          simp only [gF, hgi, Bool.true_and]
          rw [wrap_succ (show i < 4611686018427387904 by omega), wrap_id (by omega) (by omega)]
          have e1 : lim t (i + 1) = t[i].depth + 1 := by
            simp only [lim, dd]
            rw [getD_lt t hil]
          have e2 : (t.take (i + 1)).map kk = (t.take i).map kk ++ [kk t[i]] := by
            rw [List.take_succ_eq_append_getElem hil, List.map_append]
            rfl
          rw [e1, e2] at hnext
          exact hnext
    exact key t.length 0 (by omega) fun j hj => absurd hj (by omega)
  · rw [decide_eq_true (by omega), decide_eq_false h5]
    rfl
end Trees
namespace Trees
open Kit Ghost

theorem right_1_ok (k : K) : tree_right_1.R k.obj k.slot = some (!kOK k, ()) := by
  refine tree_right_1.start _ _ _ ?_
  rw [order_ok]
  simp only [optAll_so]
  cases kOK k <;> rfl
theorem ek0 (k : K) : dInt .i64 (encK k) 0 = some k.obj := rfl
theorem ek1 (k : K) : dInt .i64 (encK k) 1 = some k.slot := rfl
theorem indexf_step (l : List K) (i : Nat) (hi : i < l.length) (hl : l.length < 1000000) (c : Int × Unit)
    (h1 : kOK l[i] = false → c = ((i : Int), ())) (h2 : kOK l[i] = true → slices_IndexFunc_api_Key_api_Key__tree_right_1.H3 (l.map encK) l.length ((i + 1 : Nat) : Int) c) :
    slices_IndexFunc_api_Key_api_Key__tree_right_1.H3 (l.map encK) l.length i c := by
  refine slices_IndexFunc_api_Key_api_Key__tree_right_1.H3_step _ _ _ _ ?_
  rw [decide_eq_true (by omega)]
  simp only [cond_true, needs_nat, Int.toNat_natCast, map_get _ _ _ hi, optAll_so, ek0, ek1, right_1_ok, wrap_succ (show i < 4611686018427387904 by omega)]
  cases hk : kOK l[i] with
  | false => exact h1 hk
  | true => exact h2 hk
theorem indexf_end (l : List K) (c : Int × Unit) (h : c = (-1, ())) : slices_IndexFunc_api_Key_api_Key__tree_right_1.H3 (l.map encK) l.length (l.length : Int) c := by
  refine slices_IndexFunc_api_Key_api_Key__tree_right_1.H3_step _ _ _ _ ?_
  rw [decide_eq_false (by omega)]
  exact h
theorem anybad (l : List K) (hl : l.length < 1000000) : ∃ r : Int, slices_IndexFunc_api_Key_api_Key__tree_right_1.R (l.map encK) = some (r, ()) ∧ decide (r ≥ 0) = !l.all kOK := by
  have key : ∀ m i : Nat, i + m = l.length → ∃ r : Int, slices_IndexFunc_api_Key_api_Key__tree_right_1.H3 (l.map encK) l.length i (r, ()) ∧ decide (r ≥ 0) = !(l.drop i).all kOK := by
    intro m
    induction m with
    | zero =>
      intro i hi
      obtain rfl : i = l.length := by omega
      exact ⟨-1, indexf_end l _ rfl, by simp⟩
    | succ m ih =>
      intro i hi
      have hil : i < l.length := by omega
      obtain ⟨r, h1, h2⟩ := ih (i + 1) (by omega)
      rw [List.drop_eq_getElem_cons hil]
      simp only [List.all_cons]
      cases hk : kOK l[i] with
      | false => exact ⟨i, indexf_step l i hil hl _ (fun _ => rfl) (fun h => by rw [hk] at h; cases h), by simp⟩
      | true => exact ⟨r, indexf_step l i hil hl _ (fun h => by rw [hk] at h; cases h) (fun _ => h1), by simpa using h2⟩
  obtain ⟨r, h1, h2⟩ := key l.length 0 (by omega)
  refine ⟨r, slices_IndexFunc_api_Key_api_Key__tree_right_1.start _ _ ?_, by simpa using h2⟩
  rw [List.length_map]
  exact h1
theorem right_ok (t : List TRow) (l : List K) (ht : t.length < 1000000) (hl : l.length < 1000000) : tree_right.R (enc t) (l.map encK) = some (tOK t && l.all kOK, ()) := by
  refine tree_right.start _ _ _ ?_
  rw [check_ok t ht]
  simp only [optAll_so, er_zero]
  cases tOK t with
  | false => rfl
  | true =>
    obtain ⟨r, h1, h2⟩ := anybad l hl
    have : slices_ContainsFunc_api_Key_api_Key__tree_right_1.R (l.map encK) = some (!l.all kOK, ()) := by
      refine slices_ContainsFunc_api_Key_api_Key__tree_right_1.start _ _ ?_
      rw [h1]
      simp only [optAll_so, h2]
    simp only [cond_true, this, optAll_so, Bool.not_not, Bool.true_and]
theorem right1_ok (t : List TRow) (k : K) (ht : t.length < 1000000) : tree_right.R (enc t) (([[(DV.v (Value.int IntKind.i64 k.obj)), (DV.v (Value.int IntKind.i64 k.slot))]]).take (1)) = some (tOK t && kOK k, ()) := by
  have := right_ok t [k] ht (by simp)
  simp only [List.all_cons, List.all_nil, Bool.and_true] at this
  exact this
theorem right2_ok (t : List TRow) (a b : K) (ht : t.length < 1000000) : tree_right.R (enc t) (([[(DV.v (Value.int IntKind.i64 a.obj)), (DV.v (Value.int IntKind.i64 a.slot))], [(DV.v (Value.int IntKind.i64 b.obj)), (DV.v (Value.int IntKind.i64 b.slot))]]).take (2)) = some (tOK t && (kOK a && kOK b), ()) := by
  have := right_ok t [a, b] ht (by simp)
  simp only [List.all_cons, List.all_nil, Bool.and_true] at this
  exact this
theorem row_is (o s d : Int) (m : Bool) : [DV.v (Value.int IntKind.i64 o), DV.v (Value.int IntKind.i64 s), DV.v (Value.int IntKind.i64 d), DV.v (Value.bool m)] = TRow.row ⟨o, s, d, m⟩ := rfl
theorem enc_take (t : List TRow) (n : Nat) : (enc t).take n = enc (t.take n) := by simp [enc, List.map_take]
theorem enc_drop (t : List TRow) (n : Nat) : (enc t).drop n = enc (t.drop n) := by simp [enc, List.map_drop]
theorem enc_app (a b : List TRow) : enc a ++ enc b = enc (a ++ b) := by simp [enc]
theorem enc_one (r : TRow) : [r.row] = enc [r] := rfl
theorem take1 {α : Type} (x : α) : [x].take 1 = [x] := rfl
theorem take_len {α : Type} (l : List α) : l.take l.length = l := List.take_length
def putAt (t : List TRow) (i : Nat) (r : TRow) : List TRow := t.take i ++ [r] ++ t.drop i
theorem put_ok (t : List TRow) (i : Nat) (r : TRow) (ht : t.length < 1000000) (hi : i ≤ t.length) : tree_put.R (enc t) i r.obj r.slot r.depth r.mark = some (enc (putAt t i r), ()) := by
  refine tree_put.start _ _ _ _ _ _ _ ?_
  simp only [Int.toNat_natCast, row_is, enc_len, take1, enc_one, enc_take, enc_drop, enc_app, take_len, needs_iff, List.take_length]
  simp only [List.length_append, List.length_take, List.length_drop, List.length_cons, List.length_nil]
  exact ⟨trivial, by omega, by omega, by omega, trivial, by omega, rfl⟩
theorem with_ok (t : List TRow) (i : Nat) (r : TRow) (ht : t.length < 1000000) (hi : i < t.length) : tree_with.R (enc t) i r.obj r.slot r.depth r.mark = some (enc (t.set i r), ()) := by
  refine tree_with.start _ _ _ _ _ _ _ ?_
  simp only [Int.toNat_natCast, row_is, enc_len, take1, Nat.zero_add, enc_get _ _ hi, optAll_so, needs_iff]
  refine ⟨by omega, by omega, by simp [TRow.row], ?_⟩
  rw [List.take_of_length_le (by simp [enc])]
  have : putD t[i].row 0 (TRow.row ⟨r.obj, r.slot, r.depth, r.mark⟩) = r.row := rfl
  rw [this]
  simp [enc, List.map_set]

/-! Those below a place -/
theorem map_rows (t : List TRow) : mapO rowOf (enc t) = some t := by
  induction t with
  | nil => rfl
  | cons r t ih =>
    simp only [enc, List.map_cons, mapO] at ih ⊢
    rw [ih]
    rfl
theorem belowOf_ok (t : List TRow) (i : Nat) (ht : t.length < 1000000) (hi : i < t.length) : belowOf 70 70 (enc t) i = some ((underOf t i).map TRow.krow) := by
  unfold belowOf
  rw [if_pos ⟨rfl, by omega, by rw [enc_len]; omega, by rw [enc_len]; omega⟩, map_rows]
  simp
theorem gather_ok (t : List TRow) (i : Nat) (ht : t.length < 1000000) (hi : i < t.length) : gather cfg 70 [DV.ptr [DV.lst 4 (enc t)] 0, DV.ptr [DV.v (Value.int IntKind.i64 (i : Int))] 0] = some ((underOf t i).map TRow.krow) := by
  show (match (if 999999 = 999999 then collOf 70 [AV.d (DV.fn 70 [DV.ptr [DV.lst 4 (enc t)] 0, DV.ptr [DV.v (Value.int IntKind.i64 (i : Int))] 0])] else none) with | some (.d (.lst _ xs)) => some xs | _ => none) = _
  rw [if_pos rfl]
  unfold collOf
  simp only [belowOf_ok t i ht hi]
/-- Those below a key. -/
def bel (t : List TRow) (k : K) : List TRow := if fnd t k < 0 then [] else underOf t (fnd t k).toNat
theorem tw_cases {α : Type} (p : α → Bool) (w : List α) (x0 : α) : (∀ j, j < (w.takeWhile p).length → j < w.length ∧ p (w.getD j x0) = true) ∧ ((w.takeWhile p).length = w.length ∨ ((w.takeWhile p).length < w.length ∧ p (w.getD (w.takeWhile p).length x0) = false)) := by
  induction w with
  | nil => exact ⟨fun j hj => absurd hj (by simp), .inl rfl⟩
  | cons a w ih =>
    obtain ⟨h1, h2⟩ := ih
    cases hp : p a with
    | false =>
      rw [List.takeWhile_cons, hp]
      exact ⟨fun j hj => absurd hj (by simp), .inr ⟨by simp, by simpa using hp⟩⟩
    | true =>
      rw [List.takeWhile_cons, hp]
      simp only [if_true, List.length_cons]
      refine ⟨fun j hj => ?_, h2.imp (fun h => by omega) (fun h => ⟨by omega, by simpa using h.2⟩)⟩
      cases j with
      | zero => exact ⟨by omega, by simpa using hp⟩
      | succ j => exact ⟨by have := h1 j (by omega); omega, by simpa using (h1 j (by omega)).2⟩
/-- The rows below a place: which they are. -/
theorem under_spec {t : List TRow} {i : Nat} (hi : i < t.length) : i + 1 + (underOf t i).length ≤ t.length ∧ (∀ j, i < j → j < i + 1 + (underOf t i).length → dd t i < dd t j) ∧ (i + 1 + (underOf t i).length = t.length ∨ dd t (i + 1 + (underOf t i).length) ≤ dd t i) ∧
    underOf t i = (t.drop (i + 1)).take (underOf t i).length := by
  have hu : underOf t i = (t.drop (i + 1)).takeWhile fun r => decide (dd t i < r.depth) := by
    unfold underOf dd
    rw [getD_lt t hi, List.getElem?_eq_getElem hi]
  obtain ⟨h1, h2⟩ := tw_cases (fun r => decide (dd t i < r.depth)) (t.drop (i + 1)) dr
  rw [← hu] at h1 h2
  have hl : (t.drop (i + 1)).length = t.length - (i + 1) := List.length_drop
  have hg : ∀ j, (t.drop (i + 1)).getD j dr = t.getD (i + 1 + j) dr := fun j => by simp [List.getD_eq_getElem?_getD, List.getElem?_drop]
  rw [hl] at h2
  refine ⟨?_, fun j h3 h4 => ?_, ?_, ?_⟩
  · rcases h2 with h2 | h2 <;> omega
  · have := (h1 (j - (i + 1)) (by omega)).2
    rw [hg, show i + 1 + (j - (i + 1)) = j by omega] at this
    simpa [dd] using this
  · rcases h2 with h2 | ⟨_, h2⟩
    · exact .inl (by omega)
    · rw [hg] at h2
      exact .inr (by simpa [dd] using h2)
  · rw [hu]
    have : ∀ (p : TRow → Bool) (w : List TRow), w.takeWhile p = w.take (w.takeWhile p).length := by
      intro p w
      induction w with
      | nil => rfl
      | cons a w ih =>
        rw [List.takeWhile_cons]
        split
        · rw [List.length_cons, List.take_succ_cons, ← ih]
        · rfl
    exact this _ _
theorem under_get {t : List TRow} {i : Nat} (hi : i < t.length) {n : Nat} (hn : n < (underOf t i).length) : (underOf t i)[n] = t[i + 1 + n]'(by have := (under_spec hi).1; omega) := by
  have h := (under_spec hi).2.2.2
  have h2 : (underOf t i)[n]? = ((t.drop (i + 1)).take (underOf t i).length)[n]? := by rw [← h]
  rw [List.getElem?_take_of_lt hn, List.getElem?_drop, List.getElem?_eq_getElem hn, List.getElem?_eq_getElem (by have := (under_spec hi).1; omega)] at h2
  exact Option.some.inj h2
theorem count_ok (t : List TRow) (i : Nat) (ht : t.length < 1000000) (hi : i < t.length) : ref13_count.R (enc t) i = some (((underOf t i).length : Int), ()) := by
  refine ref13_count.start _ _ _ ?_
  obtain ⟨u1, u2, u3, _⟩ := under_spec hi
  have hdi : t[i].depth = dd t i := by unfold dd; rw [getD_lt t hi]
  have key : ∀ m n : Nat, n + m = (underOf t i).length → ref13_count.H3 (enc t) i n (((underOf t i).length : Int), ()) := by
    intro m
    have hw : ∀ n : Nat, n ≤ (underOf t i).length → IntKind.i64.wrap (IntKind.i64.wrap ((i : Int) + 1) + (n : Int)) = ((i + 1 + n : Nat) : Int) := fun n hn => by
      rw [wrap_succ (show i < 4611686018427387904 by omega), wrap_id (by omega) (by omega)]; omega
    induction m with
    | zero =>
      intro n hn
      refine ref13_count.H3_step _ _ _ _ ?_
      rw [hw n (by omega), enc_len]
      rcases u3 with u3 | u3
      · rw [decide_eq_false (by omega)]
        show (_, ()) = (_, ())
        rw [show n = (underOf t i).length by omega]
      · by_cases hlt : i + 1 + n < t.length
        · rw [decide_eq_true (by omega)]
          simp only [cond_true, needs_nat, Int.toNat_natCast, enc_get _ _ hlt, enc_get _ _ hi, optAll_so, t2_]
          have hdn : t[i + 1 + n].depth = dd t (i + 1 + n) := by unfold dd; rw [getD_lt t hlt]
          rw [decide_eq_false (by rw [hdn, hdi]; rw [show i + 1 + n = i + 1 + (underOf t i).length by omega]; omega)]
          show (_, ()) = (_, ())
          rw [show n = (underOf t i).length by omega]
        · rw [decide_eq_false (by omega)]
          show (_, ()) = (_, ())
          rw [show n = (underOf t i).length by omega]
    | succ m ih =>
      intro n hn
      refine ref13_count.H3_step _ _ _ _ ?_
      have hlt : i + 1 + n < t.length := by omega
      rw [hw n (by omega), enc_len, decide_eq_true (by omega)]
      simp only [cond_true, needs_nat, Int.toNat_natCast, enc_get _ _ hlt, enc_get _ _ hi, optAll_so, t2_]
      have hdn : t[i + 1 + n].depth = dd t (i + 1 + n) := by unfold dd; rw [getD_lt t hlt]
      have := u2 (i + 1 + n) (by omega) (by omega)
      rw [decide_eq_true (by rw [hdn, hdi]; omega), wrap_succ (show n < 4611686018427387904 by omega)]
      exact ih (n + 1) (by omega)
  exact key (underOf t i).length 0 (by omega)
theorem rbelow_ok (t : List TRow) (k : K) (ht : t.length < 1000000) : ref13_Below.R (enc t) k.obj k.slot = some ((bel t k).map TRow.krow, ()) := by
  refine ref13_Below.start _ _ _ _ ?_
  rw [rfind_ok t k ht]
  simp only [optAll_so]
  unfold bel
  rcases fnd_cases t k with ⟨h1, _⟩ | ⟨i, hi, h1, _, _⟩
  · rw [h1, ftup_neg]; rfl
  · rw [h1, ftup_nat, if_neg (by omega)]
    simp only [cond_true, Int.toNat_natCast]
    obtain ⟨u1, u2, u3, u4⟩ := under_spec hi
    have key : ∀ m n : Nat, n + m = (underOf t i).length → ref13_Below.H6 (enc t) i (((underOf t i).take n).map TRow.krow) n ((underOf t i).map TRow.krow, ()) := by
      intro m
      induction m with
      | zero =>
        intro n hn
        refine ref13_Below.H6_step _ _ _ _ _ ?_
        rw [count_ok t i ht hi]
        simp only [optAll_so]
        rw [decide_eq_false (by omega)]
        show (_, ()) = (_, ())
        rw [List.take_length, List.take_of_length_le (by omega)]
      | succ m ih =>
        intro n hn
        refine ref13_Below.H6_step _ _ _ _ _ ?_
        rw [count_ok t i ht hi]
        simp only [optAll_so]
        have hlt : i + 1 + n < t.length := by omega
        rw [decide_eq_true (by omega), wrap_succ (show i < 4611686018427387904 by omega), wrap_succ (show n < 4611686018427387904 by omega), wrap_id (n := ((i + 1 : Nat) : Int) + (n : Int)) (by omega) (by omega), show ((i + 1 : Nat) : Int) + (n : Int) = ((i + 1 + n : Nat) : Int) by omega]
        simp only [cond_true, needs_nat, Int.toNat_natCast, enc_get _ _ hlt, optAll_so, t0_, t1_, needs_iff, take1]
        refine ⟨by omega, trivial, needs_iff.2 ⟨?_, ?_⟩⟩
        · simp only [List.length_append, List.length_map, List.length_take, List.length_cons, List.length_nil]
          omega
        · have e : ((underOf t i).take (n + 1)).map TRow.krow = ((underOf t i).take n).map TRow.krow ++ [[DV.v (Value.int IntKind.i64 t[i + 1 + n].obj), DV.v (Value.int IntKind.i64 t[i + 1 + n].slot)]] := by
            rw [List.take_succ_eq_append_getElem (by omega), List.map_append, under_get hi (by omega)]
            rfl
          have := ih (n + 1) (by omega)
          rw [e] at this
          exact this
    exact key (underOf t i).length 0 (by omega)
/-! Who is right above -/
def parI (t : List TRow) (d : Int) : Nat → Option Nat
  | 0 => none
  | n + 1 => if dd t n < d then some n else parI t d n
def par (t : List TRow) (k : K) : Option TRow := if fnd t k < 0 then none else (parI t (dd t (fnd t k).toNat) (fnd t k).toNat).map fun n => t.getD n dr
def ptup : Option TRow → (Int × (Int × Unit)) × (Bool × Unit)
  | some r => ((r.obj, (r.slot, ())), (true, ()))
  | none => ((0, (0, ())), (false, ()))
theorem ge_nat (n : Nat) : decide (((n : Nat) : Int) ≥ 0) = true := decide_eq_true (by omega)
/-! Does one descend from another one -/
def des (t : List TRow) (a b : K) : Bool := decide (a ∈ (bel t b).map kk)
theorem krow_map (l : List TRow) : l.map TRow.krow = (l.map kk).map encK := by
  rw [List.map_map]
  exact List.map_congr_left fun r _ => rfl
theorem under_len (t : List TRow) (k : K) : (bel t k).length ≤ t.length := by
  unfold bel
  split
  · simp
  · rcases fnd_cases t k with ⟨h1, _⟩ | ⟨i, hi, h1, _, _⟩
    · omega
    · rw [h1, Int.toNat_natCast]
      have := (under_spec hi).1
      omega
theorem keys_same_ok (a b : List K) (ha : a.length < 1000000) (hb : b.length < 1000000) : ref06_Same.R (a.map encK) (b.map encK) = some (decide (a = b), ()) := by
  refine ref06_Same.start _ _ _ ?_
  rw [List.length_map, List.length_map]
  by_cases hl : a.length = b.length
  · rw [show (((a.length : Nat) : Int) != ((b.length : Nat) : Int)) = false by simp [hl]]
    refine eq_loop a b (fun i c => ref06_Same.H5 (a.map encK) (b.map encK) i c) hl fun i c h1 h2 => ?_
    refine ref06_Same.H5_step _ _ _ _ ?_
    rw [List.length_map]
    by_cases hi : i < a.length
    · rw [decide_eq_true (by omega)]
      simp only [cond_true, needs_nat, Int.toNat_natCast, map_get _ _ _ hi, map_get _ b i (by omega), optAll_so, ek0, ek1, eqK, wrap_succ (show i < 4611686018427387904 by omega)]
      by_cases he : a[i] = b[i]'(by omega)
      · rw [decide_eq_true he]; exact (h1 hi).1 he
      · rw [decide_eq_false he]; exact (h1 hi).2 he
    · rw [decide_eq_false (by omega)]
      exact h2 (by omega)
  · rw [show (((a.length : Nat) : Int) != ((b.length : Nat) : Int)) = true by simp; omega, decide_eq_false (fun e => hl (by rw [e]))]
    rfl
end Trees
namespace Trees
open Kit Ghost

def rtup (x : List TRow × Int) : List (List DV) × (Int × Unit) := (enc x.1, (x.2, ()))
def outAt (t : List TRow) (i : Nat) : List TRow := t.take i ++ t.drop (i + 1)
def sRoot (t : List TRow) (k : K) : List TRow × Int :=
  if tOK t = true ∧ kOK k = true then (if 0 ≤ fnd t k then (t, 8) else if 512 ≤ t.length then (t, 6) else (putAt t t.length ⟨k.obj, k.slot, 0, false⟩, 0)) else (t, 2)
def sInsert (t : List TRow) (f k : K) : List TRow × Int :=
  if tOK t = true ∧ kOK f = true ∧ kOK k = true then (if fnd t f < 0 then (t, 7) else if 0 ≤ fnd t k then (t, 8) else if 512 ≤ t.length then (t, 6) else (putAt t ((fnd t f).toNat + 1) ⟨k.obj, k.slot, dd t (fnd t f).toNat + 1, false⟩, 0)) else (t, 2)
def sRemove (t : List TRow) (k : K) : List TRow × Int :=
  if tOK t = true ∧ kOK k = true then (if fnd t k < 0 then (t, 7) else if (underOf t (fnd t k).toNat).length = 0 then (outAt t (fnd t k).toNat, 0) else (t, 130)) else (t, 2)
def sMove (t : List TRow) (f k : K) : List TRow × Int :=
  if tOK t = true ∧ kOK f = true ∧ kOK k = true then (if fnd t f < 0 then (t, 7) else if 0 ≤ fnd t k then (t, 8) else (t.set (fnd t f).toNat ⟨k.obj, k.slot, dd t (fnd t f).toNat, (t.getD (fnd t f).toNat dr).mark⟩, 0)) else (t, 2)
def sMark (t : List TRow) (k : K) (on : Bool) : List TRow × Int :=
  if tOK t = true ∧ kOK k = true then (if fnd t k < 0 then (t, 7) else (t.set (fnd t k).toNat ⟨(t.getD (fnd t k).toNat dr).obj, (t.getD (fnd t k).toNat dr).slot, dd t (fnd t k).toNat, on⟩, 0)) else (t, 2)
theorem good_of {t : List TRow} (h : tOK t = true) : t.length ≤ 512 ∧ ∀ j, j < t.length → goodAt t j = true := by
  unfold tOK at h
  rw [Bool.and_eq_true, decide_eq_true_eq, good_iff] at h
  exact h
theorem dd_small {t : List TRow} (h : tOK t = true) {i : Nat} (hi : i < t.length) : 0 ≤ dd t i ∧ dd t i < 512 := by
  obtain ⟨h1, h2⟩ := good_of h
  have := (depth_le h2).2 i hi
  omega
theorem kob (k : K) : (K.mk k.obj k.slot) = k := rfl
theorem add_ok (t : List TRow) (i : Nat) (r : TRow) (ht : t.length < 1000000) (hi : i ≤ t.length) : tree_add.R (enc t) i r.obj r.slot r.depth r.mark = some (rtup (if 0 ≤ fnd t (kk r) then (t, 8) else if 512 ≤ t.length then (t, 6) else (putAt t i r, 0))) := by
  refine tree_add.start _ _ _ _ _ _ _ ?_
  rw [show tree_Find.R (enc t) r.obj r.slot = some (ftup (fnd t (kk r))) from find_ok t (kk r) ht]
  simp only [optAll_so]
  rcases fnd_cases t (kk r) with ⟨h1, _⟩ | ⟨j, hj, h1, _, _⟩
  · rw [h1, ftup_neg, if_neg (by omega)]
    simp only [cond_false, enc_len]
    by_cases h : 512 ≤ t.length
    · rw [if_pos h, decide_eq_true (by omega)]; rfl
    · rw [if_neg h, decide_eq_false (by omega)]
      simp only [cond_false, put_ok t i r ht hi, optAll_so]
      rfl
  · rw [h1, ftup_nat, if_pos (by omega)]
    rfl
theorem root_ok (t : List TRow) (k : K) (ht : t.length < 1000000) : tree_Root.R (enc t) k.obj k.slot = some (rtup (sRoot t k)) := by
  refine tree_Root.start _ _ _ _ ?_
  rw [right1_ok t k ht]
  simp only [optAll_so]
  unfold sRoot
  cases h1 : tOK t with
  | false => rw [if_neg (by simp)]; rfl
  | true =>
    cases h2 : kOK k with
    | false => rw [if_neg (by simp)]; rfl
    | true =>
      rw [if_pos (by simp)]
      simp only [Bool.and_true, Bool.not_true, cond_false, enc_len]
      rw [show tree_add.R (enc t) (t.length : Int) k.obj k.slot (0 : Int) false = _ from add_ok t t.length ⟨k.obj, k.slot, 0, false⟩ ht (Nat.le_refl _)]
      exact rfl
theorem insert_ok (t : List TRow) (f k : K) (ht : t.length < 1000000) : tree_Insert.R (enc t) f.obj f.slot k.obj k.slot = some (rtup (sInsert t f k)) := by
  refine tree_Insert.start _ _ _ _ _ _ ?_
  rw [right2_ok t f k ht]
  simp only [optAll_so]
  unfold sInsert
  cases h1 : tOK t with
  | false => rw [if_neg (by simp)]; rfl
  | true =>
    cases h2 : kOK f with
    | false => rw [if_neg (by simp)]; rfl
    | true =>
      cases h3 : kOK k with
      | false => rw [if_neg (by simp)]; rfl
      | true =>
        rw [if_pos (by simp)]
        simp only [Bool.and_true, Bool.not_true, cond_false]
        rw [find_ok t f ht]
        simp only [optAll_so]
        rcases fnd_cases t f with ⟨g1, _⟩ | ⟨i, hi, g1, _, _⟩
        · rw [g1, ftup_neg, if_pos (by omega)]
          rfl
        · rw [g1, ftup_nat, if_neg (by omega)]
          have hd := dd_small h1 hi
          have hdi : t[i].depth = dd t i := by unfold dd; rw [getD_lt t hi]
          simp only [Bool.not_true, cond_false, needs_nat, Int.toNat_natCast, enc_get _ _ hi, optAll_so, t2_]
          rw [wrap_succ (show i < 4611686018427387904 by omega), hdi, wrap_id (n := dd t i + 1) (by omega) (by omega)]
          rw [show tree_add.R (enc t) ((i + 1 : Nat) : Int) k.obj k.slot (dd t i + 1) false = _ from add_ok t (i + 1) ⟨k.obj, k.slot, dd t i + 1, false⟩ ht (by omega)]
          exact rfl
theorem remove_ok (t : List TRow) (k : K) (ht : t.length < 1000000) : tree_Remove.R (enc t) k.obj k.slot = some (rtup (sRemove t k)) := by
  refine tree_Remove.start _ _ _ _ ?_
  rw [right1_ok t k ht]
  simp only [optAll_so]
  unfold sRemove
  cases h1 : tOK t with
  | false => rw [if_neg (by simp)]; rfl
  | true =>
    cases h2 : kOK k with
    | false => rw [if_neg (by simp)]; rfl
    | true =>
      rw [if_pos (by simp)]
      simp only [Bool.and_true, Bool.not_true, cond_false]
      rw [find_ok t k ht]
      simp only [optAll_so]
      rcases fnd_cases t k with ⟨g1, _⟩ | ⟨i, hi, g1, _, _⟩
      · rw [g1, ftup_neg, if_pos (by omega)]
        rfl
      · rw [g1, ftup_nat, if_neg (by omega)]
        simp only [Bool.not_true, cond_false, Int.toNat_natCast]
        rw [gather_ok t i ht hi]
        simp only [optAll_so]
        by_cases hu : (underOf t i).length = 0
        · rw [if_pos hu, show List.isEmpty ((underOf t i).map TRow.krow) = true by rw [List.eq_nil_of_length_eq_zero hu]; rfl]
          simp only [cond_true]
          rw [wrap_succ (show i < 4611686018427387904 by omega)]
          simp only [Int.toNat_natCast, enc_len, enc_take, enc_drop, enc_app, take_len, needs_iff, List.take_length]
          refine ⟨trivial, by omega, by omega, ?_⟩
          by_cases hd : i + 1 < t.length
          · rw [show List.isEmpty (enc (t.drop (i + 1))) = false by
              rw [List.drop_eq_getElem_cons hd]; rfl]
            simp only [cond_false, needs_iff]
            refine ⟨?_, rfl⟩
            simp only [List.length_append, List.length_take, List.length_drop]
            omega
          · rw [show List.isEmpty (enc (t.drop (i + 1))) = true by rw [List.drop_eq_nil_of_le (by omega)]; rfl]
            show (_, _) = (_, _)
            unfold outAt
            rw [List.drop_eq_nil_of_le (by omega), List.append_nil]
        · rw [if_neg hu, show List.isEmpty ((underOf t i).map TRow.krow) = false by
            cases h : underOf t i with
            | nil => rw [h] at hu; exact absurd rfl hu
            | cons a l => rfl]
          rfl
theorem set_put (t : List TRow) (i : Nat) (r : TRow) (hi : i < t.length) : putAt (outAt t i) i r = t.set i r := by
  unfold putAt outAt
  rw [List.take_append_of_le_length (by simp; omega), List.drop_append_of_le_length (by simp; omega), List.take_take, Nat.min_self, List.drop_take_self, List.nil_append, List.set_eq_take_append_cons_drop, if_pos hi]
  simp
theorem move_ok (t : List TRow) (f k : K) (ht : t.length < 1000000) : tree_Move.R (enc t) f.obj f.slot k.obj k.slot = some (rtup (sMove t f k)) := by
  refine tree_Move.start _ _ _ _ _ _ ?_
  rw [right2_ok t f k ht]
  simp only [optAll_so]
  unfold sMove
  cases h1 : tOK t with
  | false => rw [if_neg (by simp)]; rfl
  | true =>
    cases h2 : kOK f with
    | false => rw [if_neg (by simp)]; rfl
    | true =>
      cases h3 : kOK k with
      | false => rw [if_neg (by simp)]; rfl
      | true =>
        rw [if_pos (by simp)]
        simp only [Bool.and_true, Bool.not_true, cond_false]
        rw [find_ok t f ht]
        simp only [optAll_so]
        rcases fnd_cases t f with ⟨g1, _⟩ | ⟨i, hi, g1, _, _⟩
        · rw [g1, ftup_neg, if_pos (by omega)]
          rfl
        · rw [g1, ftup_nat, if_neg (by omega)]
          simp only [Bool.not_true, cond_false, Int.toNat_natCast]
          rw [find_ok t k ht]
          simp only [optAll_so]
          rcases fnd_cases t k with ⟨g2, _⟩ | ⟨j, hj, g2, _, _⟩
          · rw [g2, ftup_neg, if_neg (by omega)]
            have hdi : t[i].depth = dd t i := by unfold dd; rw [getD_lt t hi]
            simp only [cond_false, needs_nat, enc_get _ _ hi, optAll_so, t0_, t1_, t2_, t3_]
            rw [hdi, getD_lt t hi]
            rw [show tree_with.R (enc t) (i : Int) k.obj k.slot (dd t i) t[i].mark = _ from with_ok t i ⟨k.obj, k.slot, dd t i, t[i].mark⟩ ht hi]
            exact rfl
          · rw [g2, ftup_nat, if_pos (by omega)]
            rfl
theorem mark_ok (t : List TRow) (k : K) (on : Bool) (ht : t.length < 1000000) : tree_Mark.R (enc t) k.obj k.slot on = some (rtup (sMark t k on)) := by
  refine tree_Mark.start _ _ _ _ _ ?_
  rw [right1_ok t k ht]
  simp only [optAll_so]
  unfold sMark
  cases h1 : tOK t with
  | false => rw [if_neg (by simp)]; rfl
  | true =>
    cases h2 : kOK k with
    | false => rw [if_neg (by simp)]; rfl
    | true =>
      rw [if_pos (by simp)]
      simp only [Bool.and_true, Bool.not_true, cond_false]
      rw [find_ok t k ht]
      simp only [optAll_so]
      rcases fnd_cases t k with ⟨g1, _⟩ | ⟨i, hi, g1, _, _⟩
      · rw [g1, ftup_neg, if_pos (by omega)]
        rfl
      · rw [g1, ftup_nat, if_neg (by omega)]
        have hdi : t[i].depth = dd t i := by unfold dd; rw [getD_lt t hi]
        simp only [Bool.not_true, cond_false, needs_nat, Int.toNat_natCast, enc_get _ _ hi, optAll_so, t0_, t1_, t2_, t3_]
        rw [hdi, getD_lt t hi]
        rw [show tree_with.R (enc t) (i : Int) t[i].obj t[i].slot (dd t i) on = _ from with_ok t i ⟨t[i].obj, t[i].slot, dd t i, on⟩ ht hi]
        exact rfl
/-! Acts -/
structure Act where
  kind : Int
  a : K
  b : K
  on : Bool
def encA (x : Act) : List DV := [.v (.int .i64 x.kind), .v (.int .i64 x.a.obj), .v (.int .i64 x.a.slot), .v (.int .i64 x.b.obj), .v (.int .i64 x.b.slot), .v (.bool x.on)]
def step (t : List TRow) (x : Act) : List TRow × Int :=
  if x.kind = 0 then sRoot t x.a else if x.kind = 1 then sInsert t x.a x.b else if x.kind = 2 then sRemove t x.a else if x.kind = 3 then sMove t x.a x.b else sMark t x.a x.on
end Trees
namespace Trees
open Kit Ghost

def key (t : List TRow) (i : Nat) : K := kk (t.getD i dr)
/-- A list of rows is a tree. -/
structure GA (t : List TRow) (i : Nat) : Prop where
  uniq : ∀ j, j < i → key t j ≠ key t i
  ok : kOK (key t i) = true
  nn : 0 ≤ dd t i
  le : dd t i ≤ lim t i
structure GT (t : List TRow) : Prop where
  len : t.length ≤ 512
  at_ : ∀ i, i < t.length → GA t i
theorem mem_take_key (t : List TRow) (i : Nat) (hi : i ≤ t.length) (k : K) : k ∈ (t.take i).map kk ↔ ∃ j, j < i ∧ key t j = k := by
  constructor
  · intro h
    rw [List.mem_map] at h
    obtain ⟨r, hr, h⟩ := h
    rw [List.mem_take_iff_getElem] at hr
    obtain ⟨j, hj, rfl⟩ := hr
    exact ⟨j, by omega, by unfold key; rw [getD_lt t (by omega)]; exact h⟩
  · rintro ⟨j, hj, rfl⟩
    rw [List.mem_map]
    refine ⟨t[j]'(by omega), ?_, by unfold key; rw [getD_lt t (by omega)]⟩
    rw [List.mem_take_iff_getElem]
    exact ⟨j, by omega, rfl⟩
theorem goodAt_iff (t : List TRow) (i : Nat) (hi : i < t.length) : goodAt t i = true ↔ GA t i := by
  unfold goodAt
  simp only [Bool.and_eq_true, Bool.not_eq_true', decide_eq_true_eq, decide_eq_false_iff_not]
  constructor
  · rintro ⟨⟨⟨h1, h2⟩, h3⟩, h4⟩
    exact ⟨fun j hj e => h1 ((mem_take_key t i (by omega) _).2 ⟨j, hj, e⟩), h2, h3, h4⟩
  · rintro ⟨h1, h2, h3, h4⟩
    refine ⟨⟨⟨fun h => ?_, h2⟩, h3⟩, h4⟩
    obtain ⟨j, hj, e⟩ := (mem_take_key t i (by omega) _).1 h
    exact h1 j hj e
theorem tOK_iff (t : List TRow) : tOK t = true ↔ GT t := by
  unfold tOK
  rw [Bool.and_eq_true, decide_eq_true_eq, good_iff]
  exact ⟨fun h => ⟨h.1, fun i hi => (goodAt_iff t i hi).1 (h.2 i hi)⟩, fun h => ⟨h.len, fun i hi => (goodAt_iff t i hi).2 (h.at_ i hi)⟩⟩
theorem GT.inj {t : List TRow} (h : GT t) {i j : Nat} (hi : i < t.length) (hj : j < t.length) (e : key t i = key t j) : i = j := by
  rcases Nat.lt_trichotomy i j with hlt | heq | hgt
  · exact absurd e ((h.at_ j hj).uniq i hlt)
  · exact heq
  · exact absurd e.symm ((h.at_ i hi).uniq j hgt)
theorem fnd_key (t : List TRow) (k : K) : (fnd t k = -1 ∧ ∀ j, j < t.length → key t j ≠ k) ∨ ∃ i : Nat, i < t.length ∧ fnd t k = i ∧ key t i = k ∧ ∀ j, j < i → key t j ≠ k := by
  rcases fnd_cases t k with ⟨h1, h2⟩ | ⟨i, hi, h1, h2, h3⟩
  · exact .inl ⟨h1, fun j hj => by unfold key; rw [getD_lt t hj]; exact h2 _ (List.getElem_mem hj)⟩
  · exact .inr ⟨i, hi, h1, by unfold key; rw [getD_lt t hi]; exact h2, fun j hj => by unfold key; rw [getD_lt t (by omega)]; exact h3 j hj⟩
theorem GT.fnd {t : List TRow} (h : GT t) {i : Nat} (hi : i < t.length) {k : K} (hk : key t i = k) : fnd t k = i := by
  rcases fnd_key t k with ⟨_, h2⟩ | ⟨j, hj, h1, h2, _⟩
  · exact absurd hk (h2 i hi)
  · rw [h1, h.inj hj hi (h2.trans hk.symm)]
/-! Places of changed lists -/
theorem put_len (t : List TRow) (i : Nat) (r : TRow) (hi : i ≤ t.length) : (putAt t i r).length = t.length + 1 := by
  unfold putAt
  simp
  omega
theorem put_get (t : List TRow) (i : Nat) (r : TRow) (hi : i ≤ t.length) (j : Nat) : (putAt t i r).getD j dr = if j < i then t.getD j dr else if j = i then r else t.getD (j - 1) dr := by
  unfold putAt
  simp only [List.getD_eq_getElem?_getD]
  rw [List.append_assoc]
  by_cases h1 : j < i
  · rw [if_pos h1, List.getElem?_append_left (by simp; omega), List.getElem?_take_of_lt h1]
  · rw [if_neg h1, List.getElem?_append_right (by simp; omega)]
    have e : (t.take i).length = i := by simp; omega
    rw [e]
    by_cases h2 : j = i
    · subst h2; rw [if_pos rfl]; simp
    · rw [if_neg h2]
      obtain ⟨m, rfl⟩ : ∃ m, j = i + m + 1 := ⟨j - i - 1, by omega⟩
      rw [show i + m + 1 - i = m + 1 by omega]
      simp only [List.singleton_append, List.getElem?_cons_succ, List.getElem?_drop]
      rfl
theorem out_len (t : List TRow) (i : Nat) (hi : i < t.length) : (outAt t i).length = t.length - 1 := by
  unfold outAt
  simp
  omega
theorem out_get (t : List TRow) (i : Nat) (hi : i < t.length) (j : Nat) : (outAt t i).getD j dr = if j < i then t.getD j dr else t.getD (j + 1) dr := by
  unfold outAt
  simp only [List.getD_eq_getElem?_getD]
  by_cases h1 : j < i
  · rw [if_pos h1, List.getElem?_append_left (by simp; omega), List.getElem?_take_of_lt h1]
  · rw [if_neg h1, List.getElem?_append_right (by simp; omega), List.getElem?_drop]
    have e : (t.take i).length = i := by simp; omega
    rw [e, show i + 1 + (j - i) = j + 1 by omega]
theorem set_get (t : List TRow) (i : Nat) (r : TRow) (hi : i < t.length) (j : Nat) : (t.set i r).getD j dr = if j = i then r else t.getD j dr := by
  simp only [List.getD_eq_getElem?_getD, List.getElem?_set]
  by_cases h : i = j
  · subst h; simp [hi]
  · rw [if_neg h, if_neg (fun e => h e.symm)]
/-! What stays a tree -/
theorem put_good {t : List TRow} (h : GT t) {i : Nat} (hi : i ≤ t.length) {r : TRow} (hl : t.length < 512) (hk : kOK (kk r) = true) (hf : ∀ j, j < t.length → key t j ≠ kk r) (h0 : 0 ≤ r.depth) (h1 : r.depth ≤ lim t i)
    (h2 : i < t.length → dd t i ≤ r.depth + 1) : GT (putAt t i r) := by
  have hlen := put_len t i r hi
  have hg := put_get t i r hi
  refine ⟨by omega, fun j hj => ?_⟩
  rw [hlen] at hj
  have hkey : ∀ j, key (putAt t i r) j = if j < i then key t j else if j = i then kk r else key t (j - 1) := fun j => by
    unfold key
    rw [hg]
    split
    · rfl
    · split <;> rfl
  have hdd : ∀ j, dd (putAt t i r) j = if j < i then dd t j else if j = i then r.depth else dd t (j - 1) := fun j => by
    unfold dd
    rw [hg]
    split
    · rfl
    · split <;> rfl
  by_cases h3 : j < i
  · have ha := h.at_ j (by omega)
    refine ⟨fun m hm => ?_, ?_, ?_, ?_⟩
    · rw [hkey, hkey, if_pos (by omega), if_pos h3]; exact ha.uniq m hm
    · rw [hkey, if_pos h3]; exact ha.ok
    · rw [hdd, if_pos h3]; exact ha.nn
    · rw [hdd, if_pos h3]
      cases j with
      | zero => exact ha.le
      | succ j => simp only [lim]; rw [hdd, if_pos (by omega)]; exact ha.le
  · by_cases h4 : j = i
    · subst h4
      refine ⟨fun m hm => ?_, ?_, ?_, ?_⟩
      · rw [hkey, hkey, if_pos hm, if_neg h3, if_pos rfl]; exact hf m (by omega)
      · rw [hkey, if_neg h3, if_pos rfl]; exact hk
      · rw [hdd, if_neg h3, if_pos rfl]; exact h0
      · rw [hdd, if_neg h3, if_pos rfl]
        cases j with
        | zero => exact h1
        | succ j => simp only [lim]; rw [hdd, if_pos (by omega)]; exact h1
    · obtain ⟨q, rfl⟩ : ∃ q, j = q + 1 := ⟨j - 1, by omega⟩
      have ha := h.at_ q (by omega)
      have e1 : key (putAt t i r) (q + 1) = key t q := by rw [hkey, if_neg h3, if_neg h4]; rfl
      have e2 : dd (putAt t i r) (q + 1) = dd t q := by rw [hdd, if_neg h3, if_neg h4]; rfl
      refine ⟨fun m hm => ?_, by rw [e1]; exact ha.ok, by rw [e2]; exact ha.nn, ?_⟩
      · rw [e1, hkey]
        split
        · exact ha.uniq m (by omega)
        · split
          · exact fun e => hf q (by omega) e.symm
          · exact ha.uniq (m - 1) (by omega)
      · rw [e2]
        simp only [lim]
        rw [hdd]
        by_cases h5 : q = i
        · subst h5
          rw [if_neg (by omega), if_pos rfl]
          exact h2 (by omega)
        · rw [if_neg (by omega), if_neg h5]
          have := ha.le
          obtain ⟨p, rfl⟩ : ∃ p, q = p + 1 := ⟨q - 1, by omega⟩
          simpa [lim] using this
theorem set_good {t : List TRow} (h : GT t) {i : Nat} (hi : i < t.length) {r : TRow} (hk : kOK (kk r) = true) (hf : ∀ j, j < t.length → j ≠ i → key t j ≠ kk r) (hd : r.depth = dd t i) : GT (t.set i r) := by
  have hg := set_get t i r hi
  have hkey : ∀ j, key (t.set i r) j = if j = i then kk r else key t j := fun j => by
    unfold key; rw [hg]; split <;> rfl
  have hdd : ∀ j, dd (t.set i r) j = dd t j := fun j => by
    unfold dd; rw [hg]
    split
    · rename_i e; subst e; exact hd
    · rfl
  have hlim : ∀ j, lim (t.set i r) j = lim t j := fun j => by
    cases j with
    | zero => rfl
    | succ j => simp only [lim, hdd]
  refine ⟨by rw [List.length_set]; exact h.len, fun j hj => ?_⟩
  rw [List.length_set] at hj
  have ha := h.at_ j hj
  refine ⟨fun m hm => ?_, ?_, by rw [hdd]; exact ha.nn, by rw [hdd, hlim]; exact ha.le⟩
  · rw [hkey, hkey]
    by_cases h1 : m = i
    · rw [if_pos h1, if_neg (by omega)]; exact fun e => hf j hj (by omega) e.symm
    · rw [if_neg h1]
      by_cases h2 : j = i
      · rw [if_pos h2]; exact hf m (by omega) h1
      · rw [if_neg h2]; exact ha.uniq m hm
  · rw [hkey]
    split
    · exact hk
    · exact ha.ok
theorem out_good {t : List TRow} (h : GT t) {i : Nat} (hi : i < t.length) (hn : (underOf t i).length = 0) : GT (outAt t i) := by
  have hlen := out_len t i hi
  have hg := out_get t i hi
  have hkey : ∀ j, key (outAt t i) j = if j < i then key t j else key t (j + 1) := fun j => by
    unfold key; rw [hg]; split <;> rfl
  have hdd : ∀ j, dd (outAt t i) j = if j < i then dd t j else dd t (j + 1) := fun j => by
    unfold dd; rw [hg]; split <;> rfl
  refine ⟨by have := h.len; omega, fun j hj => ?_⟩
  rw [hlen] at hj
  by_cases h3 : j < i
  · have ha := h.at_ j (by omega)
    refine ⟨fun m hm => ?_, ?_, ?_, ?_⟩
    · rw [hkey, hkey, if_pos (by omega), if_pos h3]; exact ha.uniq m hm
    · rw [hkey, if_pos h3]; exact ha.ok
    · rw [hdd, if_pos h3]; exact ha.nn
    · rw [hdd, if_pos h3]
      cases j with
      | zero => exact ha.le
      | succ j => simp only [lim]; rw [hdd, if_pos (by omega)]; exact ha.le
  · have ha := h.at_ (j + 1) (by omega)
    refine ⟨fun m hm => ?_, ?_, ?_, ?_⟩
    · rw [hkey, hkey, if_neg h3]
      split
      · exact ha.uniq m (by omega)
      · exact ha.uniq (m + 1) (by omega)
    · rw [hkey, if_neg h3]; exact ha.ok
    · rw [hdd, if_neg h3]; exact ha.nn
    · rw [hdd, if_neg h3]
      by_cases h4 : j = i
      · subst h4
        obtain ⟨_, _, u3, _⟩ := under_spec hi
        rw [hn] at u3
        have h5 : dd t (j + 1) ≤ dd t j := by
          rcases u3 with u3 | u3
          · omega
          · exact u3
        have h6 := (h.at_ j hi).le
        cases j with
        | zero => simp only [lim] at h6 ⊢; omega
        | succ j => simp only [lim] at h6 ⊢; rw [hdd, if_pos (by omega)]; omega
      · have := ha.le
        obtain ⟨q, rfl⟩ : ∃ q, j = q + 1 := ⟨j - 1, by omega⟩
        simp only [lim] at this ⊢
        rw [hdd, if_neg (by omega)]
        exact this
theorem nil_good : GT [] := ⟨by simp, fun i hi => absurd hi (by simp)⟩
/-- What an act does to a tree. -/
theorem step_good {t : List TRow} (h : GT t) (x : Act) : GT (step t x).1 := by
  have hroot : ∀ k, GT (sRoot t k).1 := fun k => by
    unfold sRoot
    split
    · rename_i hc
      split
      · exact h
      · rename_i hf
        split
        · exact h
        · rename_i hl
          rcases fnd_key t k with ⟨_, h2⟩ | ⟨i, _, h1, _⟩
          · refine put_good h (Nat.le_refl _) (by omega) hc.2 h2 (Int.le_refl _) ?_ (fun h => absurd h (by omega))
            show 0 ≤ lim t t.length
            cases hn : t.length with
            | zero => exact Int.le_refl _
            | succ n => simp only [lim]; have := (h.at_ n (by omega)).nn; omega
          · omega
    · exact h
  have hins : ∀ f k, GT (sInsert t f k).1 := fun f k => by
    unfold sInsert
    split
    · rename_i hc
      split
      · exact h
      · rename_i hf
        split
        · exact h
        · rename_i hk
          split
          · exact h
          · rename_i hl
            rcases fnd_key t f with ⟨h1, _⟩ | ⟨i, hi, h1, h2, _⟩
            · omega
            · rcases fnd_key t k with ⟨_, g2⟩ | ⟨j, _, g1, _⟩
              · rw [h1, Int.toNat_natCast]
                refine put_good h (by omega) (by omega) hc.2.2 g2 ?_ (by simp only [lim]; exact Int.le_refl _) (fun hlt => ?_)
                · show 0 ≤ dd t i + 1
                  have := (h.at_ i hi).nn
                  omega
                · show dd t (i + 1) ≤ dd t i + 1 + 1
                  have := (h.at_ (i + 1) hlt).le
                  simp only [lim] at this
                  omega
              · omega
    · exact h
  have hrem : ∀ k, GT (sRemove t k).1 := fun k => by
    unfold sRemove
    split
    · split
      · exact h
      · rename_i hf
        split
        · rename_i hu
          rcases fnd_key t k with ⟨h1, _⟩ | ⟨i, hi, h1, _, _⟩
          · omega
          · rw [h1, Int.toNat_natCast] at hu ⊢
            exact out_good h hi hu
        · exact h
    · exact h
  have hmov : ∀ f k, GT (sMove t f k).1 := fun f k => by
    unfold sMove
    split
    · rename_i hc
      split
      · exact h
      · rename_i hf
        split
        · exact h
        · rename_i hk
          rcases fnd_key t f with ⟨h1, _⟩ | ⟨i, hi, h1, h2, _⟩
          · omega
          · rcases fnd_key t k with ⟨_, g2⟩ | ⟨j, _, g1, _⟩
            · rw [h1, Int.toNat_natCast]
              exact set_good h hi hc.2.2 (fun j hj _ => g2 j hj) rfl
            · omega
    · exact h
  have hmark : ∀ k on, GT (sMark t k on).1 := fun k on => by
    unfold sMark
    split
    · split
      · exact h
      · rename_i hf
        rcases fnd_key t k with ⟨h1, _⟩ | ⟨i, hi, h1, h2, _⟩
        · omega
        · rw [h1, Int.toNat_natCast]
          exact set_good h hi (h.at_ i hi).ok (fun j hj hne e => hne (h.inj hj hi e)) rfl
    · exact h
  unfold step
  split
  · exact hroot _
  · split
    · exact hins _ _
    · split
      · exact hrem _
      · split
        · exact hmov _ _
        · exact hmark _ _
/-! Who is below whom -/
def Dn (t : List TRow) (i j : Nat) : Prop := i < j ∧ j < t.length ∧ ∀ m, i < m → m ≤ j → dd t i < dd t m
theorem under_iff {t : List TRow} {i j : Nat} (hi : i < t.length) : (i < j ∧ j < i + 1 + (underOf t i).length) ↔ Dn t i j := by
  obtain ⟨u1, u2, u3, _⟩ := under_spec hi
  constructor
  · rintro ⟨h1, h2⟩
    exact ⟨h1, by omega, fun m h3 h4 => u2 m h3 (by omega)⟩
  · rintro ⟨h1, h2, h3⟩
    refine ⟨h1, ?_⟩
    rcases Nat.lt_or_ge j (i + 1 + (underOf t i).length) with h | h
    · exact h
    · rcases u3 with u3 | u3
      · omega
      · have := h3 _ (by omega) h
        omega
theorem Dn.trans {t : List TRow} {i j m : Nat} (h : Dn t i j) (k : Dn t j m) : Dn t i m :=
  ⟨Nat.lt_trans h.1 k.1, k.2.1, fun q h1 h2 => by
    by_cases hq : q ≤ j
    · exact h.2.2 q h1 hq
    · have h3 := k.2.2 q (by omega) h2
      have h4 := h.2.2 j h.1 (Nat.le_refl _)
      omega⟩
end Trees
end Go.AI
