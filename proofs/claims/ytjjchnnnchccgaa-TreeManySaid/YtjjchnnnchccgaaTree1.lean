/-
  Own work. tree's functions: finding, sameness, whether a list is a tree.
-/
import Derived.Test.YtjjchnnnchccgaaKeys
namespace Go.AI
open Go
set_option linter.unusedVariables false
set_option linter.unusedSimpArgs false
namespace Trees
open Kit Ghost

def kk (r : TRow) : K := ⟨r.obj, r.slot⟩
def enc (t : List TRow) : List (List DV) := t.map TRow.row
def dr : TRow := ⟨0, 0, 0, false⟩
theorem t0_ (r : TRow) : dInt .i64 r.row 0 = some r.obj := rfl
theorem t1_ (r : TRow) : dInt .i64 r.row 1 = some r.slot := rfl
theorem t2_ (r : TRow) : dInt .i64 r.row 2 = some r.depth := rfl
theorem t3_ (r : TRow) : dBool r.row 3 = some r.mark := rfl
theorem enc_len (t : List TRow) : (enc t).length = t.length := List.length_map _
theorem enc_get (t : List TRow) (i : Nat) (h : i < t.length) : (enc t)[i]? = some t[i].row := by simp [enc, h]
theorem eqT (a b : TRow) : (a.obj == b.obj && (a.slot == b.slot && (a.depth == b.depth && (a.mark == b.mark && true)))) = decide (a = b) := by
  obtain ⟨a1, a2, a3, a4⟩ := a
  obtain ⟨b1, b2, b3, b4⟩ := b
  rw [Bool.eq_iff_iff]
  simp
theorem eqR (r : TRow) (k : K) : (r.obj == k.obj && (r.slot == k.slot && true)) = decide (kk r = k) := eqK (kk r) k
theorem num_ok (n : Int) : law13_num.R n = some (n, ()) := law13_num.start _ _ rfl
theorem live_ok : law13_live.R = some (true, ()) := law13_live.closed
/-- Where a key is; -1: nowhere. -/
def fnd (t : List TRow) (k : K) : Int := idx (t.map kk) k
def ftup (i : Int) : Int × (Bool × Unit) := (if (0 : Int) > i then 0 else i, (decide (i ≥ 0), ()))
theorem ftup_nat (i : Nat) : ftup i = ((i : Int), (true, ())) := by
  unfold ftup
  rw [if_neg (by omega), decide_eq_true (by omega)]
theorem ftup_neg : ftup (-1) = (0, (false, ())) := rfl
theorem fnd_cases (t : List TRow) (k : K) : (fnd t k = -1 ∧ ∀ r ∈ t, kk r ≠ k) ∨ ∃ i : Nat, ∃ h : i < t.length, fnd t k = i ∧ kk t[i] = k ∧ ∀ j, ∀ hj : j < i, kk (t[j]'(by omega)) ≠ k := by
  rcases idx_cases (t.map kk) k with ⟨h1, h2⟩ | ⟨i, hi, h1, h2, h3⟩
  · exact .inl ⟨h1, fun r hr e => h2 (e ▸ List.mem_map_of_mem hr)⟩
  · refine .inr ⟨i, by simpa using hi, h1, by simpa using h2, fun j hj => by simpa using h3 j hj⟩
theorem idxTo_kk (t : List TRow) (k : K) (i : Nat) (hi : i < t.length) : idxTo (t.map kk) k i = if kk t[i] = k then (i : Int) else idxTo (t.map kk) k (i + 1) := by
  rw [idxTo_step _ _ _ (by simpa using hi)]
  simp
theorem rfind_ok (t : List TRow) (k : K) (hl : t.length < 1000000) : ref13_Find.R (enc t) k.obj k.slot = some (ftup (fnd t k)) := by
  refine ref13_Find.start _ _ _ _ ?_
  have key : ∀ m i : Nat, i + m = t.length → ref13_Find.H3 (enc t) i k.obj k.slot (ftup (idxTo (t.map kk) k i)) := by
    intro m
    induction m with
    | zero =>
      intro i hi
      refine ref13_Find.H3_step _ _ _ _ _ ?_
      rw [enc_len, decide_eq_false (by omega), idxTo_end _ _ _ (by simp; omega)]
      rfl
    | succ m ih =>
      intro i hi
      refine ref13_Find.H3_step _ _ _ _ _ ?_
      have hil : i < t.length := by omega
      rw [enc_len, decide_eq_true (by omega), idxTo_kk t k i hil]
      simp only [cond_true, needs_nat, Int.toNat_natCast, enc_get _ _ hil, optAll_so, t0_, t1_, eqR, cond_ite, decide_eq_true_eq, wrap_succ (show i < 4611686018427387904 by omega)]
      by_cases h : kk t[i] = k
      · rw [if_pos h, if_pos h, ftup_nat]
      · rw [if_neg h, if_neg h]
        exact ih (i + 1) (by omega)
  have := key t.length 0 (by omega)
  rw [idxTo_zero] at this
  exact this
theorem rfindR (t : List TRow) (r : TRow) (hl : t.length < 1000000) : ref13_Find.R (enc t) r.obj r.slot = some (ftup (fnd t (kk r))) := rfind_ok t (kk r) hl
theorem find_ok (t : List TRow) (k : K) (hl : t.length < 1000000) : tree_Find.R (enc t) k.obj k.slot = some (ftup (fnd t k)) := by
  refine tree_Find.start _ _ _ _ ?_
  have h : slices_IndexFunc_api_Branch_api_Branch__tree_Find_1.R (enc t) k.obj k.slot = some (fnd t k, ()) := by
    refine slices_IndexFunc_api_Branch_api_Branch__tree_Find_1.start _ _ _ _ ?_
    have key : ∀ m i : Nat, i + m = t.length → slices_IndexFunc_api_Branch_api_Branch__tree_Find_1.H3 (enc t) t.length i k.obj k.slot (idxTo (t.map kk) k i, ()) := by
      intro m
      induction m with
      | zero =>
        intro i hi
        refine slices_IndexFunc_api_Branch_api_Branch__tree_Find_1.H3_step _ _ _ _ _ _ ?_
        rw [decide_eq_false (by omega), idxTo_end _ _ _ (by simp; omega)]
        rfl
      | succ m ih =>
        intro i hi
        refine slices_IndexFunc_api_Branch_api_Branch__tree_Find_1.H3_step _ _ _ _ _ _ ?_
        have hil : i < t.length := by omega
        rw [decide_eq_true (by omega), idxTo_kk t k i hil]
        simp only [cond_true, needs_nat, Int.toNat_natCast, enc_get _ _ hil, optAll_so, t0_, t1_, t2_, t3_, eqR, cond_ite, decide_eq_true_eq, wrap_succ (show i < 4611686018427387904 by omega)]
        by_cases h : kk t[i] = k
        · rw [if_pos h, if_pos h]
        · rw [if_neg h, if_neg h]
          exact ih (i + 1) (by omega)
    have := key t.length 0 (by omega)
    rw [idxTo_zero] at this
    rw [enc_len]
    exact this
  rw [h]
  exact rfl
/-! Sameness -/
theorem rsame_ok (a b : List TRow) (ha : a.length < 1000000) (hb : b.length < 1000000) : ref13_Same.R (enc a) (enc b) = some (decide (a = b), ()) := by
  refine ref13_Same.start _ _ _ ?_
  rw [enc_len, enc_len]
  by_cases hl : a.length = b.length
  · rw [show (((a.length : Nat) : Int) != ((b.length : Nat) : Int)) = false by simp [hl]]
    refine eq_loop a b (fun i c => ref13_Same.H5 (enc a) (enc b) i c) hl fun i c h1 h2 => ?_
    refine ref13_Same.H5_step _ _ _ _ ?_
    rw [enc_len]
    by_cases hi : i < a.length
    · rw [decide_eq_true (by omega)]
      simp only [cond_true, needs_nat, Int.toNat_natCast, enc_get _ _ hi, enc_get b i (by omega), optAll_so, t0_, t1_, t2_, t3_, eqT, wrap_succ (show i < 4611686018427387904 by omega)]
      by_cases he : a[i] = b[i]'(by omega)
      · rw [decide_eq_true he]; exact (h1 hi).1 he
      · rw [decide_eq_false he]; exact (h1 hi).2 he
    · rw [decide_eq_false (by omega)]
      exact h2 (by omega)
  · rw [show (((a.length : Nat) : Int) != ((b.length : Nat) : Int)) = true by simp; omega, decide_eq_false (fun e => hl (by rw [e]))]
    rfl
theorem equal_ok (a b : List TRow) (ha : a.length < 1000000) (hb : b.length < 1000000) : slices_Equal_api_Branch_api_Branch.R (enc a) (enc b) = some (decide (a = b), ()) := by
  refine slices_Equal_api_Branch_api_Branch.start _ _ _ ?_
  rw [enc_len, enc_len]
  by_cases hl : a.length = b.length
  · rw [show (((a.length : Nat) : Int) != ((b.length : Nat) : Int)) = false by simp [hl]]
    refine eq_loop a b (fun i c => slices_Equal_api_Branch_api_Branch.H5 (enc a) (enc b) a.length i c) hl fun i c h1 h2 => ?_
    refine slices_Equal_api_Branch_api_Branch.H5_step _ _ _ _ _ ?_
    by_cases hi : i < a.length
    · rw [decide_eq_true (by omega)]
      simp only [cond_true, needs_nat, Int.toNat_natCast, enc_get _ _ hi, enc_get b i (by omega), optAll_so, t0_, t1_, t2_, t3_, eqT, wrap_succ (show i < 4611686018427387904 by omega)]
      by_cases he : a[i] = b[i]'(by omega)
      · rw [decide_eq_true he]; exact (h1 hi).1 he
      · rw [decide_eq_false he]; exact (h1 hi).2 he
    · rw [decide_eq_false (by omega)]
      exact h2 (by omega)
  · rw [show (((a.length : Nat) : Int) != ((b.length : Nat) : Int)) = true by simp; omega, decide_eq_false (fun e => hl (by rw [e]))]
    rfl
theorem same_ok (a b : List TRow) (ha : a.length < 1000000) (hb : b.length < 1000000) : tree_Same.R (enc a) (enc b) = some (decide (a = b), ()) := by
  refine tree_Same.start _ _ _ ?_
  rw [equal_ok a b ha hb]
  exact rfl
/-! Is a list a tree? -/
def dd (t : List TRow) (i : Nat) : Int := (t.getD i dr).depth
def lim (t : List TRow) : Nat → Int
  | 0 => 0
  | i + 1 => dd t i + 1
def goodAt (t : List TRow) (i : Nat) : Bool := !decide (kk (t.getD i dr) ∈ (t.take i).map kk) && kOK (kk (t.getD i dr)) && decide (0 ≤ dd t i) && decide (dd t i ≤ lim t i)
def gF (t : List TRow) : Nat → Nat → Bool
  | 0, _ => true
  | n + 1, i => goodAt t i && gF t n (i + 1)
def good (t : List TRow) : Bool := gF t t.length 0
def tOK (t : List TRow) : Bool := decide (t.length ≤ 512) && good t
theorem gF_iff (t : List TRow) : ∀ n i : Nat, gF t n i = true ↔ ∀ j, i ≤ j → j < i + n → goodAt t j = true
  | 0, i => by simp [gF]; intro j h1 h2; omega
  | n + 1, i => by
    simp only [gF, Bool.and_eq_true, gF_iff t n (i + 1)]
    constructor
    · rintro ⟨h1, h2⟩ j h3 h4
      by_cases hj : j = i
      · subst hj; exact h1
      · exact h2 j (by omega) (by omega)
    · intro h
      exact ⟨h i (Nat.le_refl _) (by omega), fun j h1 h2 => h j (by omega) (by omega)⟩
theorem good_iff (t : List TRow) : good t = true ↔ ∀ j, j < t.length → goodAt t j = true := by
  unfold good
  rw [gF_iff]
  exact ⟨fun h j hj => h j (Nat.zero_le _) (by omega), fun h j _ hj => h j (by omega)⟩
theorem getD_lt (t : List TRow) {i : Nat} (h : i < t.length) : t.getD i dr = t[i] := by simp [List.getD_eq_getElem?_getD, h]
theorem depth_le {t : List TRow} : ∀ {i : Nat}, (∀ j, j < i → goodAt t j = true) → (lim t i ≤ i) ∧ ∀ j, j < i → dd t j ≤ j ∧ 0 ≤ dd t j
  | 0, _ => ⟨Int.le_refl _, fun j hj => absurd hj (by omega)⟩
  | i + 1, h => by
    obtain ⟨h1, h2⟩ := depth_le (i := i) fun j hj => h j (by omega)
    have h3 := h i (by omega)
    unfold goodAt at h3
    simp only [Bool.and_eq_true, decide_eq_true_eq] at h3
    obtain ⟨⟨_, h4⟩, h5⟩ := h3
    refine ⟨by simp only [lim]; omega, fun j hj => ?_⟩
    by_cases hj' : j = i
    · subst hj'; exact ⟨by omega, h4⟩
    · exact h2 j (by omega)
theorem hasR (r : TRow) (l : List K) : mapHas (some [false, false]) [.v (.int .i64 r.obj), .v (.int .i64 r.slot)] (l.map (ent encK)) = some (decide (kk r ∈ l)) := hasK (kk r) l
theorem putR {r : TRow} {l : List K} (h : kk r ∉ l) : mapPut (some [false, false]) [.v (.int .i64 r.obj), .v (.int .i64 r.slot)] (.v (.bool true)) (l.map (ent encK)) = some ((l ++ [kk r]).map (ent encK)) := putK h
theorem orderR (r : TRow) : order_Check.R r.obj r.slot = some (er (kOK (kk r)), ()) := order_ok (kk r)
theorem rkeyR (r : TRow) : ref06_Is.R r.obj r.slot = some (kOK (kk r), ()) := rkey_ok (kk r)
theorem check_ok (t : List TRow) (hl : t.length < 1000000) : tree_Check.R (enc t) = some (er (tOK t), ()) := by
  refine tree_Check.start _ _ ?_
  rw [enc_len]
  unfold tOK
  by_cases h5 : t.length ≤ 512
  · rw [decide_eq_false (by omega), decide_eq_true h5, Bool.true_and]
    have key : ∀ m i : Nat, i + m = t.length → (∀ j, j < i → goodAt t j = true) → tree_Check.H7 (lim t i) (enc t) t.length i (((t.take i).map kk).map (ent encK)) (er (gF t m i), ()) := by
      intro m
      induction m with
      | zero =>
        intro i hi _
        refine tree_Check.H7_step _ _ _ _ _ _ ?_
        rw [decide_eq_false (by omega)]
        rfl
      | succ m ih =>
        intro i hi hg
        refine tree_Check.H7_step _ _ _ _ _ _ ?_
        have hil : i < t.length := by omega
        obtain ⟨hlim, _⟩ := depth_le hg
        rw [decide_eq_true (by omega)]
        simp only [cond_true, needs_nat, Int.toNat_natCast, enc_get _ _ hil, optAll_so, t0_, t1_, t2_, t3_, hasR]
        have hgA : goodAt t i = (!decide (kk t[i] ∈ (t.take i).map kk) && kOK (kk t[i]) && decide (0 ≤ t[i].depth) && decide (t[i].depth ≤ lim t i)) := by
          unfold goodAt dd
          rw [getD_lt t hil]
        by_cases hmem : kk t[i] ∈ (t.take i).map kk
        · rw [decide_eq_true hmem]
          simp only [gF, hgA, decide_eq_true hmem, Bool.not_true, Bool.false_and]
          rfl
        rw [decide_eq_false hmem]
        simp only [cond_false, orderR, optAll_so]
        cases hk : kOK (kk t[i]) with
        | false =>
          simp only [gF, hgA, hk, Bool.and_false, Bool.false_and]
          rfl
        | true =>
          rw [show ((er true != 0) : Bool) = false from rfl]
          simp only [cond_false]
          by_cases hd0 : t[i].depth < 0
          · rw [decide_eq_true hd0]
            simp only [gF, hgA, decide_eq_false (show ¬ 0 ≤ t[i].depth by omega), Bool.and_false, Bool.false_and]
            rfl
          rw [decide_eq_false hd0]
          simp only [cond_false]
          by_cases hd1 : t[i].depth > lim t i
          · rw [decide_eq_true hd1]
            simp only [gF, hgA, decide_eq_false (show ¬ t[i].depth ≤ lim t i by omega), Bool.and_false, Bool.false_and]
            rfl
          rw [decide_eq_false hd1]
          simp only [cond_false, putR hmem, optAll_so]
          have hgi : goodAt t i = true := by
            rw [hgA, decide_eq_false hmem, hk, decide_eq_true (show 0 ≤ t[i].depth by omega), decide_eq_true (show t[i].depth ≤ lim t i by omega)]
            rfl
          have hnext := ih (i + 1) (by omega) fun j hj => by
            by_cases h : j = i
            · subst h; exact hgi
            · exact hg j (by omega)
          simp only [gF, hgi, Bool.true_and]
          rw [wrap_succ (show i < 4611686018427387904 by omega), wrap_id (by omega) (by omega)]
          have e1 : lim t (i + 1) = t[i].depth + 1 := by
            simp only [lim, dd]
            rw [getD_lt t hil]
          have e2 : (t.take (i + 1)).map kk = (t.take i).map kk ++ [kk t[i]] := by
            rw [List.take_succ_eq_append_getElem hil, List.map_append]
            rfl
          rw [e1, e2] at hnext
          exact hnext
    exact key t.length 0 (by omega) fun j hj => absurd hj (by omega)
  · rw [decide_eq_true (by omega), decide_eq_false h5]
    rfl
theorem is_ok (t : List TRow) (hl : t.length < 1000000) : ref13_Is.R (enc t) = some (tOK t, ()) := by
  refine ref13_Is.start _ _ ?_
  rw [enc_len]
  unfold tOK
  by_cases h5 : t.length ≤ 512
  · rw [decide_eq_false (by omega), decide_eq_true h5, Bool.true_and]
    have key : ∀ m i : Nat, i + m = t.length → (∀ j, j < i → goodAt t j = true) → ref13_Is.H5 (enc t) i (gF t m i, ()) := by
      intro m
      induction m with
      | zero =>
        intro i hi _
        refine ref13_Is.H5_step _ _ _ ?_
        rw [enc_len, decide_eq_false (by omega)]
        rfl
      | succ m ih =>
        intro i hi hg
        refine ref13_Is.H5_step _ _ _ ?_
        have hil : i < t.length := by omega
        obtain ⟨hlim, hdep⟩ := depth_le hg
        rw [enc_len, decide_eq_true (by omega)]
        simp only [cond_true, needs_nat, Int.toNat_natCast, enc_get _ _ hil, optAll_so, t0_, t1_, t2_, t3_]
        rw [rfindR t t[i] hl]
        simp only [optAll_so]
        have hgA : goodAt t i = (!decide (kk t[i] ∈ (t.take i).map kk) && kOK (kk t[i]) && decide (0 ≤ t[i].depth) && decide (t[i].depth ≤ lim t i)) := by
          unfold goodAt dd
          rw [getD_lt t hil]
        have hidx : (((ftup (fnd t (kk t[i]))).1 != (i : Int)) : Bool) = decide (kk t[i] ∈ (t.take i).map kk) := by
          rcases fnd_cases t (kk t[i]) with ⟨_, h2⟩ | ⟨j, hj, h1, h2, h3⟩
          · exact absurd rfl (h2 t[i] (List.getElem_mem hil))
          · rw [h1, ftup_nat]
            by_cases hji : j < i
            · rw [decide_eq_true (by rw [List.mem_map]; exact ⟨t[j], by rw [List.mem_take_iff_getElem]; exact ⟨j, by omega, rfl⟩, h2⟩)]
              simp; omega
            · have hji' : j = i := by
                rcases Nat.lt_trichotomy j i with h | h | h
                · omega
                · exact h
                · exact absurd rfl (h3 i h)
              subst hji'
              rw [decide_eq_false]
              · simp
              · intro hm
                rw [List.mem_map] at hm
                obtain ⟨r, hr, hrk⟩ := hm
                rw [List.mem_take_iff_getElem] at hr
                obtain ⟨q, hq, rfl⟩ := hr
                exact h3 q (by omega) hrk
        rw [hidx]
        by_cases hmem : kk t[i] ∈ (t.take i).map kk
        · rw [decide_eq_true hmem]
          simp only [gF, hgA, decide_eq_true hmem, Bool.not_true, Bool.false_and]
          exact True.intro
        rw [decide_eq_false hmem]
        simp only [cond_false, rkeyR, optAll_so]
        cases hk : kOK (kk t[i]) with
        | false =>
          simp only [gF, hgA, hk, Bool.and_false, Bool.false_and]
          exact True.intro
        | true =>
          simp only [Bool.not_true, cond_false]
          by_cases hd0 : t[i].depth < 0
          · rw [decide_eq_true hd0]
            simp only [gF, hgA, decide_eq_false (show ¬ 0 ≤ t[i].depth by omega), Bool.and_false, Bool.false_and]
            exact True.intro
          rw [decide_eq_false hd0]
          simp only [cond_false]
          have hnext : goodAt t i = true → ref13_Is.H5 (enc t) (IntKind.i64.wrap ((i : Int) + 1)) (gF t (m + 1) i, ()) := fun hgi => by
            rw [wrap_succ (show i < 4611686018427387904 by omega)]
            simp only [gF, hgi, Bool.true_and]
            exact ih (i + 1) (by omega) fun j hj => by
              by_cases h : j = i
              · subst h; exact hgi
              · exact hg j (by omega)
          have hgi : t[i].depth ≤ lim t i → goodAt t i = true := fun h => by
            rw [hgA, decide_eq_false hmem, hk, decide_eq_true (show 0 ≤ t[i].depth by omega), decide_eq_true h]
            rfl
          have hbad : ¬ t[i].depth ≤ lim t i → gF t (m + 1) i = false := fun h => by
            simp only [gF, hgA, decide_eq_false h, Bool.and_false, Bool.false_and]
          cases i with
          | zero =>
            rw [show ((((0 : Nat) : Int) == (0 : Int)) : Bool) = true from rfl, show (decide (((0 : Nat) : Int) > (0 : Int)) : Bool) = false from rfl]
            simp only [cond_true, cond_false]
            by_cases hz : t[0].depth = 0
            · rw [show ((t[0].depth != 0) : Bool) = false by simp [hz]]
              exact hnext (hgi (by simp only [lim]; omega))
            · rw [show ((t[0].depth != 0) : Bool) = true by simp [hz], hbad (by simp only [lim]; omega)]
              rfl
          | succ i =>
            rw [show ((((i + 1 : Nat) : Int) == (0 : Int)) : Bool) = false by simp; omega, show (decide (((i + 1 : Nat) : Int) > (0 : Int)) : Bool) = true from decide_eq_true (by omega)]
            simp only [cond_true, cond_false]
            have hw : IntKind.i64.wrap (((i + 1 : Nat) : Int) - 1) = (i : Int) := by rw [wrap_id (by omega) (by omega)]; omega
            have hd := hdep i (by omega)
            have hdi : dd t i = (t[i]'(by omega)).depth := by unfold dd; rw [getD_lt t (by omega)]
            rw [hw]
            simp only [needs_nat, Int.toNat_natCast, enc_get t i (by omega), optAll_so, t2_]
            rw [wrap_id (n := (t[i]'(by omega)).depth + 1) (by omega) (by omega)]
            by_cases hlm : t[i + 1].depth ≤ lim t (i + 1)
            · rw [decide_eq_false (by simp only [lim] at hlm; omega)]
              exact hnext (hgi hlm)
            · rw [decide_eq_true (by simp only [lim] at hlm; omega), hbad hlm]
              rfl
    exact key t.length 0 (by omega) fun j hj => absurd hj (by omega)
  · rw [decide_eq_true (by omega), decide_eq_false h5]
    rfl
end Trees
end Go.AI
