/-
  Own work. The trees' texts in one (printed by gen_gt.py).
-/
import Derived.Test.YtjjchnnnchccgaaToldT
import Derived.Test.YtjjchnnnchccgaaKeys
namespace Go.AI
open Go
set_option linter.unusedVariables false
set_option linter.unusedSimpArgs false
namespace Trees
open Kit Ghost

def kk (r : TRow) : K := ⟨r.obj, r.slot⟩
def enc (t : List TRow) : List (List DV) := t.map TRow.row
def dr : TRow := ⟨0, 0, 0, false⟩
theorem t0_ (r : TRow) : dInt .i64 r.row 0 = some r.obj := rfl
theorem t1_ (r : TRow) : dInt .i64 r.row 1 = some r.slot := rfl
theorem t2_ (r : TRow) : dInt .i64 r.row 2 = some r.depth := rfl
theorem t3_ (r : TRow) : dBool r.row 3 = some r.mark := rfl
theorem enc_len (t : List TRow) : (enc t).length = t.length := List.length_map _
theorem enc_get (t : List TRow) (i : Nat) (h : i < t.length) : (enc t)[i]? = some t[i].row := by simp [enc, h]
theorem eqT (a b : TRow) : (a.obj == b.obj && (a.slot == b.slot && (a.depth == b.depth && (a.mark == b.mark && true)))) = decide (a = b) := by
  obtain ⟨a1, a2, a3, a4⟩ := a
  obtain ⟨b1, b2, b3, b4⟩ := b
  rw [Bool.eq_iff_iff]
  simp
theorem eqR (r : TRow) (k : K) : (r.obj == k.obj && (r.slot == k.slot && true)) = decide (kk r = k) := eqK (kk r) k
theorem num_ok (n : Int) : law13_num.R n = some (n, ()) := law13_num.start _ _ rfl
theorem live_ok : law13_live.R = some (true, ()) := law13_live.closed
/-- Where a key is; -1: nowhere. -/
def fnd (t : List TRow) (k : K) : Int := idx (t.map kk) k
def ftup (i : Int) : Int × (Bool × Unit) := (if (0 : Int) > i then 0 else i, (decide (i ≥ 0), ()))
theorem ftup_nat (i : Nat) : ftup i = ((i : Int), (true, ())) := by
  unfold ftup
  rw [if_neg (by omega), decide_eq_true (by omega)]
theorem ftup_neg : ftup (-1) = (0, (false, ())) := rfl
theorem fnd_cases (t : List TRow) (k : K) : (fnd t k = -1 ∧ ∀ r ∈ t, kk r ≠ k) ∨ ∃ i : Nat, ∃ h : i < t.length, fnd t k = i ∧ kk t[i] = k ∧ ∀ j, ∀ hj : j < i, kk (t[j]'(by omega)) ≠ k := by
  rcases idx_cases (t.map kk) k with ⟨h1, h2⟩ | ⟨i, hi, h1, h2, h3⟩
  · exact .inl ⟨h1, fun r hr e => h2 (e ▸ List.mem_map_of_mem hr)⟩
  · refine .inr ⟨i, by simpa using hi, h1, by simpa using h2, fun j hj => by simpa using h3 j hj⟩
theorem idxTo_kk (t : List TRow) (k : K) (i : Nat) (hi : i < t.length) : idxTo (t.map kk) k i = if kk t[i] = k then (i : Int) else idxTo (t.map kk) k (i + 1) := by
  rw [idxTo_step _ _ _ (by simpa using hi)]
  simp
theorem rfind_ok (t : List TRow) (k : K) (hl : t.length < 1000000) : ref13_Find.R (enc t) k.obj k.slot = some (ftup (fnd t k)) := by
  refine ref13_Find.start _ _ _ _ ?_
  have key : ∀ m i : Nat, i + m = t.length → ref13_Find.H3 (enc t) i k.obj k.slot (ftup (idxTo (t.map kk) k i)) := by
    intro m
    induction m with
    | zero =>
      intro i hi
      refine ref13_Find.H3_step _ _ _ _ _ ?_
      rw [enc_len, decide_eq_false (by omega), idxTo_end _ _ _ (by simp; omega)]
      rfl
    | succ m ih =>
      intro i hi
      refine ref13_Find.H3_step _ _ _ _ _ ?_
      have hil : i < t.length := by omega
      rw [enc_len, decide_eq_true (by omega), idxTo_kk t k i hil]
      simp only [cond_true, needs_nat, Int.toNat_natCast, enc_get _ _ hil, optAll_so, t0_, t1_, eqR, cond_ite, decide_eq_true_eq, wrap_succ (show i < 4611686018427387904 by omega)]
      by_cases h : kk t[i] = k
      · rw [if_pos h, if_pos h, ftup_nat]
      · rw [if_neg h, if_neg h]
        exact ih (i + 1) (by omega)
  have := key t.length 0 (by omega)
  rw [idxTo_zero] at this
  exact this
theorem rfindR (t : List TRow) (r : TRow) (hl : t.length < 1000000) : ref13_Find.R (enc t) r.obj r.slot = some (ftup (fnd t (kk r))) := rfind_ok t (kk r) hl
theorem find_ok (t : List TRow) (k : K) (hl : t.length < 1000000) : tree_Find.R (enc t) k.obj k.slot = some (ftup (fnd t k)) := by
  refine tree_Find.start _ _ _ _ ?_
  have h : slices_IndexFunc_api_Branch_api_Branch__tree_Find_1.R (enc t) k.obj k.slot = some (fnd t k, ()) := by
    refine slices_IndexFunc_api_Branch_api_Branch__tree_Find_1.start _ _ _ _ ?_
    have key : ∀ m i : Nat, i + m = t.length → slices_IndexFunc_api_Branch_api_Branch__tree_Find_1.H3 (enc t) t.length i k.obj k.slot (idxTo (t.map kk) k i, ()) := by
      intro m
      induction m with
      | zero =>
        intro i hi
        refine slices_IndexFunc_api_Branch_api_Branch__tree_Find_1.H3_step _ _ _ _ _ _ ?_
        rw [decide_eq_false (by omega), idxTo_end _ _ _ (by simp; omega)]
        rfl
      | succ m ih =>
        intro i hi
        refine slices_IndexFunc_api_Branch_api_Branch__tree_Find_1.H3_step _ _ _ _ _ _ ?_
        have hil : i < t.length := by omega
        rw [decide_eq_true (by omega), idxTo_kk t k i hil]
        simp only [cond_true, needs_nat, Int.toNat_natCast, enc_get _ _ hil, optAll_so, t0_, t1_, t2_, t3_, eqR, cond_ite, decide_eq_true_eq, wrap_succ (show i < 4611686018427387904 by omega)]
        by_cases h : kk t[i] = k
        · rw [if_pos h, if_pos h]
        · rw [if_neg h, if_neg h]
          exact ih (i + 1) (by omega)
    have := key t.length 0 (by omega)
    rw [idxTo_zero] at this
    rw [enc_len]
    exact this
  rw [h]
  exact rfl
/-! Sameness -/
theorem rsame_ok (a b : List TRow) (ha : a.length < 1000000) (hb : b.length < 1000000) : ref13_Same.R (enc a) (enc b) = some (decide (a = b), ()) := by
  refine ref13_Same.start _ _ _ ?_
  rw [enc_len, enc_len]
  by_cases hl : a.length = b.length
  · rw [show (((a.length : Nat) : Int) != ((b.length : Nat) : Int)) = false by simp [hl]]
    refine eq_loop a b (fun i c => ref13_Same.H5 (enc a) (enc b) i c) hl fun i c h1 h2 => ?_
    refine ref13_Same.H5_step _ _ _ _ ?_
    rw [enc_len]
    by_cases hi : i < a.length
    · rw [decide_eq_true (by omega)]
      simp only [cond_true, needs_nat, Int.toNat_natCast, enc_get _ _ hi, enc_get b i (by omega), optAll_so, t0_, t1_, t2_, t3_, eqT, wrap_succ (show i < 4611686018427387904 by omega)]
      by_cases he : a[i] = b[i]'(by omega)
      · rw [decide_eq_true he]; exact (h1 hi).1 he
      · rw [decide_eq_false he]; exact (h1 hi).2 he
    · rw [decide_eq_false (by omega)]
      exact h2 (by omega)
  · rw [show (((a.length : Nat) : Int) != ((b.length : Nat) : Int)) = true by simp; omega, decide_eq_false (fun e => hl (by rw [e]))]
    rfl
theorem equal_ok (a b : List TRow) (ha : a.length < 1000000) (hb : b.length < 1000000) : slices_Equal_api_Branch_api_Branch.R (enc a) (enc b) = some (decide (a = b), ()) := by
  refine slices_Equal_api_Branch_api_Branch.start _ _ _ ?_
  rw [enc_len, enc_len]
  by_cases hl : a.length = b.length
  · rw [show (((a.length : Nat) : Int) != ((b.length : Nat) : Int)) = false by simp [hl]]
    refine eq_loop a b (fun i c => slices_Equal_api_Branch_api_Branch.H5 (enc a) (enc b) a.length i c) hl fun i c h1 h2 => ?_
    refine slices_Equal_api_Branch_api_Branch.H5_step _ _ _ _ _ ?_
    by_cases hi : i < a.length
    · rw [decide_eq_true (by omega)]
      simp only [cond_true, needs_nat, Int.toNat_natCast, enc_get _ _ hi, enc_get b i (by omega), optAll_so, t0_, t1_, t2_, t3_, eqT, wrap_succ (show i < 4611686018427387904 by omega)]
      by_cases he : a[i] = b[i]'(by omega)
      · rw [decide_eq_true he]; exact (h1 hi).1 he
      · rw [decide_eq_false he]; exact (h1 hi).2 he
    · rw [decide_eq_false (by omega)]
      exact h2 (by omega)
  · rw [show (((a.length : Nat) : Int) != ((b.length : Nat) : Int)) = true by simp; omega, decide_eq_false (fun e => hl (by rw [e]))]
    rfl
theorem same_ok (a b : List TRow) (ha : a.length < 1000000) (hb : b.length < 1000000) : tree_Same.R (enc a) (enc b) = some (decide (a = b), ()) := by
  refine tree_Same.start _ _ _ ?_
  rw [equal_ok a b ha hb]
  exact rfl
/-! Is a list a tree? -/
def dd (t : List TRow) (i : Nat) : Int := (t.getD i dr).depth
def lim (t : List TRow) : Nat → Int
  | 0 => 0
  | i + 1 => dd t i + 1
def goodAt (t : List TRow) (i : Nat) : Bool := !decide (kk (t.getD i dr) ∈ (t.take i).map kk) && kOK (kk (t.getD i dr)) && decide (0 ≤ dd t i) && decide (dd t i ≤ lim t i)
def gF (t : List TRow) : Nat → Nat → Bool
  | 0, _ => true
  | n + 1, i => goodAt t i && gF t n (i + 1)
def good (t : List TRow) : Bool := gF t t.length 0
def tOK (t : List TRow) : Bool := decide (t.length ≤ 512) && good t
theorem gF_iff (t : List TRow) : ∀ n i : Nat, gF t n i = true ↔ ∀ j, i ≤ j → j < i + n → goodAt t j = true
  | 0, i => by simp [gF]; intro j h1 h2; omega
  | n + 1, i => by
    simp only [gF, Bool.and_eq_true, gF_iff t n (i + 1)]
    constructor
    · rintro ⟨h1, h2⟩ j h3 h4
      by_cases hj : j = i
      · subst hj; exact h1
      · exact h2 j (by omega) (by omega)
    · intro h
      exact ⟨h i (Nat.le_refl _) (by omega), fun j h1 h2 => h j (by omega) (by omega)⟩
theorem good_iff (t : List TRow) : good t = true ↔ ∀ j, j < t.length → goodAt t j = true := by
  unfold good
  rw [gF_iff]
  exact ⟨fun h j hj => h j (Nat.zero_le _) (by omega), fun h j _ hj => h j (by omega)⟩
theorem getD_lt (t : List TRow) {i : Nat} (h : i < t.length) : t.getD i dr = t[i] := by simp [List.getD_eq_getElem?_getD, h]
theorem depth_le {t : List TRow} : ∀ {i : Nat}, (∀ j, j < i → goodAt t j = true) → (lim t i ≤ i) ∧ ∀ j, j < i → dd t j ≤ j ∧ 0 ≤ dd t j
  | 0, _ => ⟨Int.le_refl _, fun j hj => absurd hj (by omega)⟩
  | i + 1, h => by
    obtain ⟨h1, h2⟩ := depth_le (i := i) fun j hj => h j (by omega)
    have h3 := h i (by omega)
    unfold goodAt at h3
    simp only [Bool.and_eq_true, decide_eq_true_eq] at h3
    obtain ⟨⟨_, h4⟩, h5⟩ := h3
    refine ⟨by simp only [lim]; omega, fun j hj => ?_⟩
    by_cases hj' : j = i
    · subst hj'; exact ⟨by omega, h4⟩
    · exact h2 j (by omega)
theorem hasR (r : TRow) (l : List K) : mapHas (some [false, false]) [.v (.int .i64 r.obj), .v (.int .i64 r.slot)] (l.map (ent encK)) = some (decide (kk r ∈ l)) := hasK (kk r) l
theorem putR {r : TRow} {l : List K} (h : kk r ∉ l) : mapPut (some [false, false]) [.v (.int .i64 r.obj), .v (.int .i64 r.slot)] (.v (.bool true)) (l.map (ent encK)) = some ((l ++ [kk r]).map (ent encK)) := putK h
theorem orderR (r : TRow) : order_Check.R r.obj r.slot = some (er (kOK (kk r)), ()) := order_ok (kk r)
theorem rkeyR (r : TRow) : ref06_Is.R r.obj r.slot = some (kOK (kk r), ()) := rkey_ok (kk r)
theorem check_ok (t : List TRow) (hl : t.length < 1000000) : tree_Check.R (enc t) = some (er (tOK t), ()) := by
  refine tree_Check.start _ _ ?_
  rw [enc_len]
  unfold tOK
  by_cases h5 : t.length ≤ 512
  · rw [decide_eq_false (by omega), decide_eq_true h5, Bool.true_and]
    have key : ∀ m i : Nat, i + m = t.length → (∀ j, j < i → goodAt t j = true) → tree_Check.H7 (lim t i) (enc t) t.length i (((t.take i).map kk).map (ent encK)) (er (gF t m i), ()) := by
      intro m
      induction m with
      | zero =>
        intro i hi _
        refine tree_Check.H7_step _ _ _ _ _ _ ?_
        rw [decide_eq_false (by omega)]
        rfl
      | succ m ih =>
        intro i hi hg
        refine tree_Check.H7_step _ _ _ _ _ _ ?_
        have hil : i < t.length := by omega
        obtain ⟨hlim, _⟩ := depth_le hg
        rw [decide_eq_true (by omega)]
        simp only [cond_true, needs_nat, Int.toNat_natCast, enc_get _ _ hil, optAll_so, t0_, t1_, t2_, t3_, hasR]
        have hgA : goodAt t i = (!decide (kk t[i] ∈ (t.take i).map kk) && kOK (kk t[i]) && decide (0 ≤ t[i].depth) && decide (t[i].depth ≤ lim t i)) := by
          unfold goodAt dd
          rw [getD_lt t hil]
        by_cases hmem : kk t[i] ∈ (t.take i).map kk
        · rw [decide_eq_true hmem]
          simp only [gF, hgA, decide_eq_true hmem, Bool.not_true, Bool.false_and]
          rfl
        rw [decide_eq_false hmem]
        simp only [cond_false, orderR, optAll_so]
        cases hk : kOK (kk t[i]) with
        | false =>
          simp only [gF, hgA, hk, Bool.and_false, Bool.false_and]
          rfl
        | true =>
          rw [show ((er true != 0) : Bool) = false from rfl]
          simp only [cond_false]
          by_cases hd0 : t[i].depth < 0
          · rw [decide_eq_true hd0]
            simp only [gF, hgA, decide_eq_false (show ¬ 0 ≤ t[i].depth by omega), Bool.and_false, Bool.false_and]
            rfl
          rw [decide_eq_false hd0]
          simp only [cond_false]
          by_cases hd1 : t[i].depth > lim t i
          · rw [decide_eq_true hd1]
            simp only [gF, hgA, decide_eq_false (show ¬ t[i].depth ≤ lim t i by omega), Bool.and_false, Bool.false_and]
            rfl
          rw [decide_eq_false hd1]
          simp only [cond_false, putR hmem, optAll_so]
          have hgi : goodAt t i = true := by
            rw [hgA, decide_eq_false hmem, hk, decide_eq_true (show 0 ≤ t[i].depth by omega), decide_eq_true (show t[i].depth ≤ lim t i by omega)]
            rfl
          have hnext := ih (i + 1) (by omega) fun j hj => by
            by_cases h : j = i
            · subst h; exact hgi
            · exact hg j (by omega)
          simp only [gF, hgi, Bool.true_and]
          rw [wrap_succ (show i < 4611686018427387904 by omega), wrap_id (by omega) (by omega)]
          have e1 : lim t (i + 1) = t[i].depth + 1 := by
            simp only [lim, dd]
            rw [getD_lt t hil]
          have e2 : (t.take (i + 1)).map kk = (t.take i).map kk ++ [kk t[i]] := by
            rw [List.take_succ_eq_append_getElem hil, List.map_append]
            rfl
          rw [e1, e2] at hnext
          exact hnext
    exact key t.length 0 (by omega) fun j hj => absurd hj (by omega)
  · rw [decide_eq_true (by omega), decide_eq_false h5]
    rfl
theorem is_ok (t : List TRow) (hl : t.length < 1000000) : ref13_Is.R (enc t) = some (tOK t, ()) := by
  refine ref13_Is.start _ _ ?_
  rw [enc_len]
  unfold tOK
  by_cases h5 : t.length ≤ 512
  · rw [decide_eq_false (by omega), decide_eq_true h5, Bool.true_and]
    have key : ∀ m i : Nat, i + m = t.length → (∀ j, j < i → goodAt t j = true) → ref13_Is.H5 (enc t) i (gF t m i, ()) := by
      intro m
      induction m with
      | zero =>
        intro i hi _
        refine ref13_Is.H5_step _ _ _ ?_
        rw [enc_len, decide_eq_false (by omega)]
        rfl
      | succ m ih =>
        intro i hi hg
        refine ref13_Is.H5_step _ _ _ ?_
        have hil : i < t.length := by omega
        obtain ⟨hlim, hdep⟩ := depth_le hg
        rw [enc_len, decide_eq_true (by omega)]
        simp only [cond_true, needs_nat, Int.toNat_natCast, enc_get _ _ hil, optAll_so, t0_, t1_, t2_, t3_]
        rw [rfindR t t[i] hl]
        simp only [optAll_so]
        have hgA : goodAt t i = (!decide (kk t[i] ∈ (t.take i).map kk) && kOK (kk t[i]) && decide (0 ≤ t[i].depth) && decide (t[i].depth ≤ lim t i)) := by
          unfold goodAt dd
          rw [getD_lt t hil]
        have hidx : (((ftup (fnd t (kk t[i]))).1 != (i : Int)) : Bool) = decide (kk t[i] ∈ (t.take i).map kk) := by
          rcases fnd_cases t (kk t[i]) with ⟨_, h2⟩ | ⟨j, hj, h1, h2, h3⟩
          · exact absurd rfl (h2 t[i] (List.getElem_mem hil))
          · rw [h1, ftup_nat]
            by_cases hji : j < i
            · rw [decide_eq_true (by rw [List.mem_map]; exact ⟨t[j], by rw [List.mem_take_iff_getElem]; exact ⟨j, by omega, rfl⟩, h2⟩)]
              simp; omega
            · have hji' : j = i := by
                rcases Nat.lt_trichotomy j i with h | h | h
                · omega
                · exact h
                · exact absurd rfl (h3 i h)
              subst hji'
              rw [decide_eq_false]
              · simp
              · intro hm
                rw [List.mem_map] at hm
                obtain ⟨r, hr, hrk⟩ := hm
                rw [List.mem_take_iff_getElem] at hr
                obtain ⟨q, hq, rfl⟩ := hr
                exact h3 q (by omega) hrk
        rw [hidx]
        by_cases hmem : kk t[i] ∈ (t.take i).map kk
        · rw [decide_eq_true hmem]
          simp only [gF, hgA, decide_eq_true hmem, Bool.not_true, Bool.false_and]
          exact True.intro
        rw [decide_eq_false hmem]
        simp only [cond_false, rkeyR, optAll_so]
        cases hk : kOK (kk t[i]) with
        | false =>
          simp only [gF, hgA, hk, Bool.and_false, Bool.false_and]
          exact True.intro
        | true =>
          simp only [Bool.not_true, cond_false]
          by_cases hd0 : t[i].depth < 0
          · rw [decide_eq_true hd0]
            simp only [gF, hgA, decide_eq_false (show ¬ 0 ≤ t[i].depth by omega), Bool.and_false, Bool.false_and]
            exact True.intro
          rw [decide_eq_false hd0]
          simp only [cond_false]
          have hnext : goodAt t i = true → ref13_Is.H5 (enc t) (IntKind.i64.wrap ((i : Int) + 1)) (gF t (m + 1) i, ()) := fun hgi => by
            rw [wrap_succ (show i < 4611686018427387904 by omega)]
            simp only [gF, hgi, Bool.true_and]
            exact ih (i + 1) (by omega) fun j hj => by
              by_cases h : j = i
              · subst h; exact hgi
              · exact hg j (by omega)
          have hgi : t[i].depth ≤ lim t i → goodAt t i = true := fun h => by
            rw [hgA, decide_eq_false hmem, hk, decide_eq_true (show 0 ≤ t[i].depth by omega), decide_eq_true h]
            rfl
          have hbad : ¬ t[i].depth ≤ lim t i → gF t (m + 1) i = false := fun h => by
            simp only [gF, hgA, decide_eq_false h, Bool.and_false, Bool.false_and]
          cases i with
          | zero =>
            rw [show ((((0 : Nat) : Int) == (0 : Int)) : Bool) = true from rfl, show (decide (((0 : Nat) : Int) > (0 : Int)) : Bool) = false from rfl]
            simp only [cond_true, cond_false]
            by_cases hz : t[0].depth = 0
            · rw [show ((t[0].depth != 0) : Bool) = false by simp [hz]]
              exact hnext (hgi (by simp only [lim]; omega))
            · rw [show ((t[0].depth != 0) : Bool) = true by simp [hz], hbad (by simp only [lim]; omega)]
              rfl
          | succ i =>
            rw [show ((((i + 1 : Nat) : Int) == (0 : Int)) : Bool) = false by simp; omega, show (decide (((i + 1 : Nat) : Int) > (0 : Int)) : Bool) = true from decide_eq_true (by omega)]
            simp only [cond_true, cond_false]
            have hw : IntKind.i64.wrap (((i + 1 : Nat) : Int) - 1) = (i : Int) := by rw [wrap_id (by omega) (by omega)]; omega
            have hd := hdep i (by omega)
            have hdi : dd t i = (t[i]'(by omega)).depth := by unfold dd; rw [getD_lt t (by omega)]
            rw [hw]
            simp only [needs_nat, Int.toNat_natCast, enc_get t i (by omega), optAll_so, t2_]
            rw [wrap_id (n := (t[i]'(by omega)).depth + 1) (by omega) (by omega)]
            by_cases hlm : t[i + 1].depth ≤ lim t (i + 1)
            · rw [decide_eq_false (by simp only [lim] at hlm; omega)]
              exact hnext (hgi hlm)
            · rw [decide_eq_true (by simp only [lim] at hlm; omega), hbad hlm]
              rfl
    exact key t.length 0 (by omega) fun j hj => absurd hj (by omega)
  · rw [decide_eq_true (by omega), decide_eq_false h5]
    rfl
end Trees
namespace Trees
open Kit Ghost

theorem right_1_ok (k : K) : tree_right_1.R k.obj k.slot = some (!kOK k, ()) := by
  refine tree_right_1.start _ _ _ ?_
  rw [order_ok]
  simp only [optAll_so]
  cases kOK k <;> rfl
theorem ek0 (k : K) : dInt .i64 (encK k) 0 = some k.obj := rfl
theorem ek1 (k : K) : dInt .i64 (encK k) 1 = some k.slot := rfl
theorem indexf_step (l : List K) (i : Nat) (hi : i < l.length) (hl : l.length < 1000000) (c : Int × Unit)
    (h1 : kOK l[i] = false → c = ((i : Int), ())) (h2 : kOK l[i] = true → slices_IndexFunc_api_Key_api_Key__tree_right_1.H3 (l.map encK) l.length ((i + 1 : Nat) : Int) c) :
    slices_IndexFunc_api_Key_api_Key__tree_right_1.H3 (l.map encK) l.length i c := by
  refine slices_IndexFunc_api_Key_api_Key__tree_right_1.H3_step _ _ _ _ ?_
  rw [decide_eq_true (by omega)]
  simp only [cond_true, needs_nat, Int.toNat_natCast, map_get _ _ _ hi, optAll_so, ek0, ek1, right_1_ok, wrap_succ (show i < 4611686018427387904 by omega)]
  cases hk : kOK l[i] with
  | false => exact h1 hk
  | true => exact h2 hk
theorem indexf_end (l : List K) (c : Int × Unit) (h : c = (-1, ())) : slices_IndexFunc_api_Key_api_Key__tree_right_1.H3 (l.map encK) l.length (l.length : Int) c := by
  refine slices_IndexFunc_api_Key_api_Key__tree_right_1.H3_step _ _ _ _ ?_
  rw [decide_eq_false (by omega)]
  exact h
theorem anybad (l : List K) (hl : l.length < 1000000) : ∃ r : Int, slices_IndexFunc_api_Key_api_Key__tree_right_1.R (l.map encK) = some (r, ()) ∧ decide (r ≥ 0) = !l.all kOK := by
  have key : ∀ m i : Nat, i + m = l.length → ∃ r : Int, slices_IndexFunc_api_Key_api_Key__tree_right_1.H3 (l.map encK) l.length i (r, ()) ∧ decide (r ≥ 0) = !(l.drop i).all kOK := by
    intro m
    induction m with
    | zero =>
      intro i hi
      obtain rfl : i = l.length := by omega
      exact ⟨-1, indexf_end l _ rfl, by simp⟩
    | succ m ih =>
      intro i hi
      have hil : i < l.length := by omega
      obtain ⟨r, h1, h2⟩ := ih (i + 1) (by omega)
      rw [List.drop_eq_getElem_cons hil]
      simp only [List.all_cons]
      cases hk : kOK l[i] with
      | false => exact ⟨i, indexf_step l i hil hl _ (fun _ => rfl) (fun h => by rw [hk] at h; cases h), by simp⟩
      | true => exact ⟨r, indexf_step l i hil hl _ (fun h => by rw [hk] at h; cases h) (fun _ => h1), by simpa using h2⟩
  obtain ⟨r, h1, h2⟩ := key l.length 0 (by omega)
  refine ⟨r, slices_IndexFunc_api_Key_api_Key__tree_right_1.start _ _ ?_, by simpa using h2⟩
  rw [List.length_map]
  exact h1
theorem right_ok (t : List TRow) (l : List K) (ht : t.length < 1000000) (hl : l.length < 1000000) : tree_right.R (enc t) (l.map encK) = some (tOK t && l.all kOK, ()) := by
  refine tree_right.start _ _ _ ?_
  rw [check_ok t ht]
  simp only [optAll_so, er_zero]
  cases tOK t with
  | false => rfl
  | true =>
    obtain ⟨r, h1, h2⟩ := anybad l hl
    have : slices_ContainsFunc_api_Key_api_Key__tree_right_1.R (l.map encK) = some (!l.all kOK, ()) := by
      refine slices_ContainsFunc_api_Key_api_Key__tree_right_1.start _ _ ?_
      rw [h1]
      simp only [optAll_so, h2]
    simp only [cond_true, this, optAll_so, Bool.not_not, Bool.true_and]
theorem right1_ok (t : List TRow) (k : K) (ht : t.length < 1000000) : tree_right.R (enc t) (([[(DV.v (Value.int IntKind.i64 k.obj)), (DV.v (Value.int IntKind.i64 k.slot))]]).take (1)) = some (tOK t && kOK k, ()) := by
  have := right_ok t [k] ht (by simp)
  simp only [List.all_cons, List.all_nil, Bool.and_true] at this
  exact this
theorem right2_ok (t : List TRow) (a b : K) (ht : t.length < 1000000) : tree_right.R (enc t) (([[(DV.v (Value.int IntKind.i64 a.obj)), (DV.v (Value.int IntKind.i64 a.slot))], [(DV.v (Value.int IntKind.i64 b.obj)), (DV.v (Value.int IntKind.i64 b.slot))]]).take (2)) = some (tOK t && (kOK a && kOK b), ()) := by
  have := right_ok t [a, b] ht (by simp)
  simp only [List.all_cons, List.all_nil, Bool.and_true] at this
  exact this
theorem row_is (o s d : Int) (m : Bool) : [DV.v (Value.int IntKind.i64 o), DV.v (Value.int IntKind.i64 s), DV.v (Value.int IntKind.i64 d), DV.v (Value.bool m)] = TRow.row ⟨o, s, d, m⟩ := rfl
theorem enc_take (t : List TRow) (n : Nat) : (enc t).take n = enc (t.take n) := by simp [enc, List.map_take]
theorem enc_drop (t : List TRow) (n : Nat) : (enc t).drop n = enc (t.drop n) := by simp [enc, List.map_drop]
theorem enc_app (a b : List TRow) : enc a ++ enc b = enc (a ++ b) := by simp [enc]
theorem enc_one (r : TRow) : [r.row] = enc [r] := rfl
theorem take1 {α : Type} (x : α) : [x].take 1 = [x] := rfl
theorem take_len {α : Type} (l : List α) : l.take l.length = l := List.take_length
def putAt (t : List TRow) (i : Nat) (r : TRow) : List TRow := t.take i ++ [r] ++ t.drop i
theorem put_ok (t : List TRow) (i : Nat) (r : TRow) (ht : t.length < 1000000) (hi : i ≤ t.length) : tree_put.R (enc t) i r.obj r.slot r.depth r.mark = some (enc (putAt t i r), ()) := by
  refine tree_put.start _ _ _ _ _ _ _ ?_
  simp only [Int.toNat_natCast, row_is, enc_len, take1, enc_one, enc_take, enc_drop, enc_app, take_len, needs_iff, List.take_length]
  simp only [List.length_append, List.length_take, List.length_drop, List.length_cons, List.length_nil]
  exact ⟨trivial, by omega, by omega, by omega, trivial, by omega, rfl⟩
theorem rput_ok (t : List TRow) (i : Nat) (r : TRow) (ht : t.length < 1000000) (hi : i ≤ t.length) : ref13_put.R (enc t) i r.obj r.slot r.depth r.mark = some (enc (putAt t i r), ()) := by
  refine ref13_put.start _ _ _ _ _ _ _ ?_
  simp only [Int.toNat_natCast, row_is, enc_len, take1, enc_one, enc_take, enc_drop, enc_app, take_len, needs_iff, List.take_length]
  simp only [List.length_append, List.length_take, List.length_drop, List.length_cons, List.length_nil]
  exact ⟨by omega, by omega, trivial, by omega, by omega, trivial, by omega, rfl⟩
theorem rout_ok (t : List TRow) (i : Nat) (ht : t.length < 1000000) (hi : i < t.length) : ref13_out.R (enc t) i = some (enc (t.take i ++ t.drop (i + 1)), ()) := by
  refine ref13_out.start _ _ _ ?_
  rw [wrap_succ (show i < 4611686018427387904 by omega)]
  simp only [Int.toNat_natCast, row_is, enc_len, take1, enc_one, enc_take, enc_drop, enc_app, take_len, needs_iff, List.take_length]
  simp only [List.length_append, List.length_take, List.length_drop, List.length_cons, List.length_nil]
  exact ⟨by omega, by omega, by omega, trivial, by omega, trivial⟩
theorem with_ok (t : List TRow) (i : Nat) (r : TRow) (ht : t.length < 1000000) (hi : i < t.length) : tree_with.R (enc t) i r.obj r.slot r.depth r.mark = some (enc (t.set i r), ()) := by
  refine tree_with.start _ _ _ _ _ _ _ ?_
  simp only [Int.toNat_natCast, row_is, enc_len, take1, Nat.zero_add, enc_get _ _ hi, optAll_so, needs_iff]
  refine ⟨by omega, by omega, by simp [TRow.row], ?_⟩
  rw [List.take_of_length_le (by simp [enc])]
  have : putD t[i].row 0 (TRow.row ⟨r.obj, r.slot, r.depth, r.mark⟩) = r.row := rfl
  rw [this]
  simp [enc, List.map_set]

/-! Those below a place -/
theorem map_rows (t : List TRow) : mapO rowOf (enc t) = some t := by
  induction t with
  | nil => rfl
  | cons r t ih =>
    simp only [enc, List.map_cons, mapO] at ih ⊢
    rw [ih]
    rfl
theorem belowOf_ok (t : List TRow) (i : Nat) (ht : t.length < 1000000) (hi : i < t.length) : belowOf 90 90 (enc t) i = some ((underOf t i).map TRow.krow) := by
  unfold belowOf
  rw [if_pos ⟨rfl, by omega, by rw [enc_len]; omega, by rw [enc_len]; omega⟩, map_rows]
  simp
theorem gather_ok (t : List TRow) (i : Nat) (ht : t.length < 1000000) (hi : i < t.length) : gather cfg 90 [DV.ptr [DV.lst 4 (enc t)] 0, DV.ptr [DV.v (Value.int IntKind.i64 (i : Int))] 0] = some ((underOf t i).map TRow.krow) := by
  show (match (if 78 = 78 then collOf 90 [AV.d (DV.fn 90 [DV.ptr [DV.lst 4 (enc t)] 0, DV.ptr [DV.v (Value.int IntKind.i64 (i : Int))] 0])] else none) with | some (.d (.lst _ xs)) => some xs | _ => none) = _
  rw [if_pos rfl]
  unfold collOf
  simp only [belowOf_ok t i ht hi]
theorem coll_ok (t : List TRow) (i : Nat) (ht : t.length < 1000000) (hi : i < t.length) : retOf cfg.prim [.one (.lst 2)] 78 [AV.d (DV.fn 90 [DV.ptr [DV.lst 4 (enc t)] 0, DV.ptr [DV.v (Value.int IntKind.i64 (i : Int))] 0])] = some ((underOf t i).map TRow.krow, ()) := by
  show (match (if 78 = 78 then collOf 90 [AV.d (DV.fn 90 [DV.ptr [DV.lst 4 (enc t)] 0, DV.ptr [DV.v (Value.int IntKind.i64 (i : Int))] 0])] else none) with | some v => decS [.one (.lst 2)] v | none => none) = _
  rw [if_pos rfl]
  unfold collOf
  simp only [belowOf_ok t i ht hi]
  rfl
/-- Those below a key. -/
def bel (t : List TRow) (k : K) : List TRow := if fnd t k < 0 then [] else underOf t (fnd t k).toNat
theorem below_ok (t : List TRow) (k : K) (ht : t.length < 1000000) : tree_Below.R (enc t) k.obj k.slot = some ((bel t k).map TRow.krow, ()) := by
  refine tree_Below.start _ _ _ _ ?_
  rw [find_ok t k ht]
  simp only [optAll_so]
  unfold bel
  rcases fnd_cases t k with ⟨h1, _⟩ | ⟨i, hi, h1, _, _⟩
  · rw [h1, ftup_neg]; rfl
  · rw [h1, ftup_nat, if_neg (by omega)]
    simp only [Bool.not_true, cond_false, Int.toNat_natCast]
    rw [coll_ok t i ht hi]
    exact rfl
theorem tw_cases {α : Type} (p : α → Bool) (w : List α) (x0 : α) : (∀ j, j < (w.takeWhile p).length → j < w.length ∧ p (w.getD j x0) = true) ∧ ((w.takeWhile p).length = w.length ∨ ((w.takeWhile p).length < w.length ∧ p (w.getD (w.takeWhile p).length x0) = false)) := by
  induction w with
  | nil => exact ⟨fun j hj => absurd hj (by simp), .inl rfl⟩
  | cons a w ih =>
    obtain ⟨h1, h2⟩ := ih
    cases hp : p a with
    | false =>
      rw [List.takeWhile_cons, hp]
      exact ⟨fun j hj => absurd hj (by simp), .inr ⟨by simp, by simpa using hp⟩⟩
    | true =>
      rw [List.takeWhile_cons, hp]
      simp only [if_true, List.length_cons]
      refine ⟨fun j hj => ?_, h2.imp (fun h => by omega) (fun h => ⟨by omega, by simpa using h.2⟩)⟩
      cases j with
      | zero => exact ⟨by omega, by simpa using hp⟩
      | succ j => exact ⟨by have := h1 j (by omega); omega, by simpa using (h1 j (by omega)).2⟩
/-- The rows below a place: which they are. -/
theorem under_spec {t : List TRow} {i : Nat} (hi : i < t.length) : i + 1 + (underOf t i).length ≤ t.length ∧ (∀ j, i < j → j < i + 1 + (underOf t i).length → dd t i < dd t j) ∧ (i + 1 + (underOf t i).length = t.length ∨ dd t (i + 1 + (underOf t i).length) ≤ dd t i) ∧
    underOf t i = (t.drop (i + 1)).take (underOf t i).length := by
  have hu : underOf t i = (t.drop (i + 1)).takeWhile fun r => decide (dd t i < r.depth) := by
    unfold underOf dd
    rw [getD_lt t hi, List.getElem?_eq_getElem hi]
  obtain ⟨h1, h2⟩ := tw_cases (fun r => decide (dd t i < r.depth)) (t.drop (i + 1)) dr
  rw [← hu] at h1 h2
  have hl : (t.drop (i + 1)).length = t.length - (i + 1) := List.length_drop
  have hg : ∀ j, (t.drop (i + 1)).getD j dr = t.getD (i + 1 + j) dr := fun j => by simp [List.getD_eq_getElem?_getD, List.getElem?_drop]
  rw [hl] at h2
  refine ⟨?_, fun j h3 h4 => ?_, ?_, ?_⟩
  · rcases h2 with h2 | h2 <;> omega
  · have := (h1 (j - (i + 1)) (by omega)).2
    rw [hg, show i + 1 + (j - (i + 1)) = j by omega] at this
    simpa [dd] using this
  · rcases h2 with h2 | ⟨_, h2⟩
    · exact .inl (by omega)
    · rw [hg] at h2
      exact .inr (by simpa [dd] using h2)
  · rw [hu]
    have : ∀ (p : TRow → Bool) (w : List TRow), w.takeWhile p = w.take (w.takeWhile p).length := by
      intro p w
      induction w with
      | nil => rfl
      | cons a w ih =>
        rw [List.takeWhile_cons]
        split
        · rw [List.length_cons, List.take_succ_cons, ← ih]
        · rfl
    exact this _ _
theorem under_get {t : List TRow} {i : Nat} (hi : i < t.length) {n : Nat} (hn : n < (underOf t i).length) : (underOf t i)[n] = t[i + 1 + n]'(by have := (under_spec hi).1; omega) := by
  have h := (under_spec hi).2.2.2
  have h2 : (underOf t i)[n]? = ((t.drop (i + 1)).take (underOf t i).length)[n]? := by rw [← h]
  rw [List.getElem?_take_of_lt hn, List.getElem?_drop, List.getElem?_eq_getElem hn, List.getElem?_eq_getElem (by have := (under_spec hi).1; omega)] at h2
  exact Option.some.inj h2
theorem count_ok (t : List TRow) (i : Nat) (ht : t.length < 1000000) (hi : i < t.length) : ref13_count.R (enc t) i = some (((underOf t i).length : Int), ()) := by
  refine ref13_count.start _ _ _ ?_
  obtain ⟨u1, u2, u3, _⟩ := under_spec hi
  have hdi : t[i].depth = dd t i := by unfold dd; rw [getD_lt t hi]
  have key : ∀ m n : Nat, n + m = (underOf t i).length → ref13_count.H3 (enc t) i n (((underOf t i).length : Int), ()) := by
    intro m
    have hw : ∀ n : Nat, n ≤ (underOf t i).length → IntKind.i64.wrap (IntKind.i64.wrap ((i : Int) + 1) + (n : Int)) = ((i + 1 + n : Nat) : Int) := fun n hn => by
      rw [wrap_succ (show i < 4611686018427387904 by omega), wrap_id (by omega) (by omega)]; omega
    induction m with
    | zero =>
      intro n hn
      refine ref13_count.H3_step _ _ _ _ ?_
      rw [hw n (by omega), enc_len]
      rcases u3 with u3 | u3
      · rw [decide_eq_false (by omega)]
        show (_, ()) = (_, ())
        rw [show n = (underOf t i).length by omega]
      · by_cases hlt : i + 1 + n < t.length
        · rw [decide_eq_true (by omega)]
          simp only [cond_true, needs_nat, Int.toNat_natCast, enc_get _ _ hlt, enc_get _ _ hi, optAll_so, t2_]
          have hdn : t[i + 1 + n].depth = dd t (i + 1 + n) := by unfold dd; rw [getD_lt t hlt]
          rw [decide_eq_false (by rw [hdn, hdi]; rw [show i + 1 + n = i + 1 + (underOf t i).length by omega]; omega)]
          show (_, ()) = (_, ())
          rw [show n = (underOf t i).length by omega]
        · rw [decide_eq_false (by omega)]
          show (_, ()) = (_, ())
          rw [show n = (underOf t i).length by omega]
    | succ m ih =>
      intro n hn
      refine ref13_count.H3_step _ _ _ _ ?_
      have hlt : i + 1 + n < t.length := by omega
      rw [hw n (by omega), enc_len, decide_eq_true (by omega)]
      simp only [cond_true, needs_nat, Int.toNat_natCast, enc_get _ _ hlt, enc_get _ _ hi, optAll_so, t2_]
      have hdn : t[i + 1 + n].depth = dd t (i + 1 + n) := by unfold dd; rw [getD_lt t hlt]
      have := u2 (i + 1 + n) (by omega) (by omega)
      rw [decide_eq_true (by rw [hdn, hdi]; omega), wrap_succ (show n < 4611686018427387904 by omega)]
      exact ih (n + 1) (by omega)
  exact key (underOf t i).length 0 (by omega)
theorem rbelow_ok (t : List TRow) (k : K) (ht : t.length < 1000000) : ref13_Below.R (enc t) k.obj k.slot = some ((bel t k).map TRow.krow, ()) := by
  refine ref13_Below.start _ _ _ _ ?_
  rw [rfind_ok t k ht]
  simp only [optAll_so]
  unfold bel
  rcases fnd_cases t k with ⟨h1, _⟩ | ⟨i, hi, h1, _, _⟩
  · rw [h1, ftup_neg]; rfl
  · rw [h1, ftup_nat, if_neg (by omega)]
    simp only [cond_true, Int.toNat_natCast]
    obtain ⟨u1, u2, u3, u4⟩ := under_spec hi
    have key : ∀ m n : Nat, n + m = (underOf t i).length → ref13_Below.H6 (enc t) i (((underOf t i).take n).map TRow.krow) n ((underOf t i).map TRow.krow, ()) := by
      intro m
      induction m with
      | zero =>
        intro n hn
        refine ref13_Below.H6_step _ _ _ _ _ ?_
        rw [count_ok t i ht hi]
        simp only [optAll_so]
        rw [decide_eq_false (by omega)]
        show (_, ()) = (_, ())
        rw [List.take_length, List.take_of_length_le (by omega)]
      | succ m ih =>
        intro n hn
        refine ref13_Below.H6_step _ _ _ _ _ ?_
        rw [count_ok t i ht hi]
        simp only [optAll_so]
        have hlt : i + 1 + n < t.length := by omega
        rw [decide_eq_true (by omega), wrap_succ (show i < 4611686018427387904 by omega), wrap_succ (show n < 4611686018427387904 by omega), wrap_id (n := ((i + 1 : Nat) : Int) + (n : Int)) (by omega) (by omega), show ((i + 1 : Nat) : Int) + (n : Int) = ((i + 1 + n : Nat) : Int) by omega]
        simp only [cond_true, needs_nat, Int.toNat_natCast, enc_get _ _ hlt, optAll_so, t0_, t1_, needs_iff, take1]
        refine ⟨by omega, trivial, needs_iff.2 ⟨?_, ?_⟩⟩
        · simp only [List.length_append, List.length_map, List.length_take, List.length_cons, List.length_nil]
          omega
        · have e : ((underOf t i).take (n + 1)).map TRow.krow = ((underOf t i).take n).map TRow.krow ++ [[DV.v (Value.int IntKind.i64 t[i + 1 + n].obj), DV.v (Value.int IntKind.i64 t[i + 1 + n].slot)]] := by
            rw [List.take_succ_eq_append_getElem (by omega), List.map_append, under_get hi (by omega)]
            rfl
          have := ih (n + 1) (by omega)
          rw [e] at this
          exact this
    exact key (underOf t i).length 0 (by omega)
/-! Who is right above -/
def parI (t : List TRow) (d : Int) : Nat → Option Nat
  | 0 => none
  | n + 1 => if dd t n < d then some n else parI t d n
def par (t : List TRow) (k : K) : Option TRow := if fnd t k < 0 then none else (parI t (dd t (fnd t k).toNat) (fnd t k).toNat).map fun n => t.getD n dr
def ptup : Option TRow → (Int × (Int × Unit)) × (Bool × Unit)
  | some r => ((r.obj, (r.slot, ())), (true, ()))
  | none => ((0, (0, ())), (false, ()))
theorem ge_nat (n : Nat) : decide (((n : Nat) : Int) ≥ 0) = true := decide_eq_true (by omega)
theorem parent_ok (t : List TRow) (k : K) (ht : t.length < 1000000) : tree_Parent.R (enc t) k.obj k.slot = some (ptup (par t k)) := by
  refine tree_Parent.start _ _ _ _ ?_
  rw [find_ok t k ht]
  simp only [optAll_so]
  unfold par
  rcases fnd_cases t k with ⟨h1, _⟩ | ⟨i, hi, h1, _, _⟩
  · rw [h1, ftup_neg]
    refine tree_Parent.H4_step _ _ _ _ _ _ _ ?_
    rfl
  · rw [h1, ftup_nat, if_neg (by omega)]
    simp only [Int.toNat_natCast]
    have hdi : t[i].depth = dd t i := by unfold dd; rw [getD_lt t hi]
    have key : ∀ n : Nat, n ≤ i → tree_Parent.H4 (enc t) i true (IntKind.i64.wrap ((n : Int) - 1)) 0 0 (ptup ((parI t (dd t i) n).map fun n => t.getD n dr)) := by
      intro n
      induction n with
      | zero =>
        intro _
        refine tree_Parent.H4_step _ _ _ _ _ _ _ ?_
        rfl
      | succ n ih =>
        intro hn
        refine tree_Parent.H4_step _ _ _ _ _ _ _ ?_
        have hw : IntKind.i64.wrap (((n + 1 : Nat) : Int) - 1) = (n : Int) := by rw [wrap_id (by omega) (by omega)]; omega
        have hnl : n < t.length := by omega
        rw [hw, ge_nat]
        simp only [cond_true, needs_nat, Int.toNat_natCast, enc_get _ _ hnl, enc_get _ _ hi, optAll_so, t0_, t1_, t2_]
        have hdn : t[n].depth = dd t n := by unfold dd; rw [getD_lt t hnl]
        rw [hdn, hdi]
        simp only [parI]
        by_cases h : dd t n < dd t i
        · rw [decide_eq_true h, if_pos h]
          simp only [cond_true, Option.map_some, ptup]
          rw [getD_lt t hnl]
        · rw [decide_eq_false h, if_neg h]
          exact ih (by omega)
    exact key i (Nat.le_refl _)
theorem rparent_ok (t : List TRow) (k : K) (ht : t.length < 1000000) : ref13_Parent.R (enc t) k.obj k.slot = some (ptup (par t k)) := by
  refine ref13_Parent.start _ _ _ _ ?_
  rw [rfind_ok t k ht]
  simp only [optAll_so]
  unfold par
  rcases fnd_cases t k with ⟨h1, _⟩ | ⟨i, hi, h1, _, _⟩
  · rw [h1, ftup_neg]
    rfl
  · rw [h1, ftup_nat, if_neg (by omega)]
    simp only [Bool.not_true, cond_false, Int.toNat_natCast]
    have hdi : t[i].depth = dd t i := by unfold dd; rw [getD_lt t hi]
    have key : ∀ n : Nat, n ≤ i → ref13_Parent.H6 (enc t) i (IntKind.i64.wrap ((n : Int) - 1)) 0 0 (ptup ((parI t (dd t i) n).map fun n => t.getD n dr)) := by
      intro n
      induction n with
      | zero =>
        intro _
        refine ref13_Parent.H6_step _ _ _ _ _ _ ?_
        rfl
      | succ n ih =>
        intro hn
        refine ref13_Parent.H6_step _ _ _ _ _ _ ?_
        have hw : IntKind.i64.wrap (((n + 1 : Nat) : Int) - 1) = (n : Int) := by rw [wrap_id (by omega) (by omega)]; omega
        have hnl : n < t.length := by omega
        rw [hw, ge_nat]
        simp only [cond_true, needs_nat, Int.toNat_natCast, enc_get _ _ hnl, enc_get _ _ hi, optAll_so, t0_, t1_, t2_]
        have hdn : t[n].depth = dd t n := by unfold dd; rw [getD_lt t hnl]
        rw [hdn, hdi]
        simp only [parI]
        by_cases h : dd t n < dd t i
        · rw [decide_eq_true h, if_pos h]
          simp only [cond_true, Option.map_some, ptup]
          rw [getD_lt t hnl]
        · rw [decide_eq_false h, if_neg h]
          exact ih (by omega)
    exact key i (Nat.le_refl _)
/-! Does one descend from another one -/
def des (t : List TRow) (a b : K) : Bool := decide (a ∈ (bel t b).map kk)
theorem krow_map (l : List TRow) : l.map TRow.krow = (l.map kk).map encK := by
  rw [List.map_map]
  exact List.map_congr_left fun r _ => rfl
theorem under_len (t : List TRow) (k : K) : (bel t k).length ≤ t.length := by
  unfold bel
  split
  · simp
  · rcases fnd_cases t k with ⟨h1, _⟩ | ⟨i, hi, h1, _, _⟩
    · omega
    · rw [h1, Int.toNat_natCast]
      have := (under_spec hi).1
      omega
theorem descends_ok (t : List TRow) (a b : K) (ht : t.length < 1000000) : tree_Descends.R (enc t) a.obj a.slot b.obj b.slot = some (des t a b, ()) := by
  refine tree_Descends.start _ _ _ _ _ _ ?_
  rw [below_ok t b ht]
  simp only [optAll_so]
  have hc : slices_Contains_api_Key_api_Key.R ((bel t b).map TRow.krow) a.obj a.slot = some (des t a b, ()) := by
    refine slices_Contains_api_Key_api_Key.start _ _ _ _ ?_
    rw [krow_map, index_ok _ _ (by have := under_len t b; simp; omega)]
    simp only [optAll_so]
    unfold des
    rcases idx_cases ((bel t b).map kk) a with ⟨h1, h2⟩ | ⟨k, hk, h1, h2, _⟩
    · rw [h1, decide_eq_false h2]; rfl
    · rw [h1, decide_eq_true (h2 ▸ List.getElem_mem hk), decide_eq_true (by omega)]
  rw [hc]
  exact rfl
theorem has_ok (q : List K) (c : K) (hl : q.length < 1000000) : ref06_Has.R (q.map encK) c.obj c.slot = some (decide (c ∈ q), ()) := by
  refine ref06_Has.start _ _ _ _ ?_
  have key : ∀ m i : Nat, i + m = q.length → ref06_Has.H3 (q.map encK) i c.obj c.slot (decide (c ∈ q.drop i), ()) := by
    intro m
    induction m with
    | zero =>
      intro i hi
      refine ref06_Has.H3_step _ _ _ _ _ ?_
      rw [List.length_map, decide_eq_false (by omega), List.drop_eq_nil_of_le (by omega)]
      rfl
    | succ m ih =>
      intro i hi
      refine ref06_Has.H3_step _ _ _ _ _ ?_
      have hil : i < q.length := by omega
      rw [List.length_map, decide_eq_true (by omega), List.drop_eq_getElem_cons hil]
      simp only [cond_true, needs_nat, Int.toNat_natCast, map_get _ _ _ hil, optAll_so, ek0, ek1, eqK, cond_ite, decide_eq_true_eq, wrap_succ (show i < 4611686018427387904 by omega)]
      by_cases h : q[i] = c
      · rw [if_pos h, decide_eq_true (by rw [h]; exact List.mem_cons_self ..)]
      · rw [if_neg h]
        have e : decide (c ∈ q[i] :: q.drop (i + 1)) = decide (c ∈ q.drop (i + 1)) := by
          rw [decide_eq_decide, List.mem_cons]
          exact ⟨fun hx => hx.elim (fun e => absurd e.symm h) id, .inr⟩
        rw [e]
        exact ih (i + 1) (by omega)
  exact key q.length 0 (by omega)
theorem rdescends_ok (t : List TRow) (a b : K) (ht : t.length < 1000000) : ref13_Descends.R (enc t) a.obj a.slot b.obj b.slot = some (des t a b, ()) := by
  refine ref13_Descends.start _ _ _ _ _ _ ?_
  rw [rbelow_ok t b ht]
  simp only [optAll_so]
  rw [krow_map, has_ok _ _ (by have := under_len t b; simp; omega)]
  exact rfl
theorem keys_same_ok (a b : List K) (ha : a.length < 1000000) (hb : b.length < 1000000) : ref06_Same.R (a.map encK) (b.map encK) = some (decide (a = b), ()) := by
  refine ref06_Same.start _ _ _ ?_
  rw [List.length_map, List.length_map]
  by_cases hl : a.length = b.length
  · rw [show (((a.length : Nat) : Int) != ((b.length : Nat) : Int)) = false by simp [hl]]
    refine eq_loop a b (fun i c => ref06_Same.H5 (a.map encK) (b.map encK) i c) hl fun i c h1 h2 => ?_
    refine ref06_Same.H5_step _ _ _ _ ?_
    rw [List.length_map]
    by_cases hi : i < a.length
    · rw [decide_eq_true (by omega)]
      simp only [cond_true, needs_nat, Int.toNat_natCast, map_get _ _ _ hi, map_get _ b i (by omega), optAll_so, ek0, ek1, eqK, wrap_succ (show i < 4611686018427387904 by omega)]
      by_cases he : a[i] = b[i]'(by omega)
      · rw [decide_eq_true he]; exact (h1 hi).1 he
      · rw [decide_eq_false he]; exact (h1 hi).2 he
    · rw [decide_eq_false (by omega)]
      exact h2 (by omega)
  · rw [show (((a.length : Nat) : Int) != ((b.length : Nat) : Int)) = true by simp; omega, decide_eq_false (fun e => hl (by rw [e]))]
    rfl
end Trees
namespace Trees
open Kit Ghost

def rtup (x : List TRow × Int) : List (List DV) × (Int × Unit) := (enc x.1, (x.2, ()))
def outAt (t : List TRow) (i : Nat) : List TRow := t.take i ++ t.drop (i + 1)
def sRoot (t : List TRow) (k : K) : List TRow × Int :=
  if tOK t = true ∧ kOK k = true then (if 0 ≤ fnd t k then (t, 8) else if 512 ≤ t.length then (t, 6) else (putAt t t.length ⟨k.obj, k.slot, 0, false⟩, 0)) else (t, 2)
def sInsert (t : List TRow) (f k : K) : List TRow × Int :=
  if tOK t = true ∧ kOK f = true ∧ kOK k = true then (if fnd t f < 0 then (t, 7) else if 0 ≤ fnd t k then (t, 8) else if 512 ≤ t.length then (t, 6) else (putAt t ((fnd t f).toNat + 1) ⟨k.obj, k.slot, dd t (fnd t f).toNat + 1, false⟩, 0)) else (t, 2)
def sRemove (t : List TRow) (k : K) : List TRow × Int :=
  if tOK t = true ∧ kOK k = true then (if fnd t k < 0 then (t, 7) else if (underOf t (fnd t k).toNat).length = 0 then (outAt t (fnd t k).toNat, 0) else (t, 130)) else (t, 2)
def sMove (t : List TRow) (f k : K) : List TRow × Int :=
  if tOK t = true ∧ kOK f = true ∧ kOK k = true then (if fnd t f < 0 then (t, 7) else if 0 ≤ fnd t k then (t, 8) else (t.set (fnd t f).toNat ⟨k.obj, k.slot, dd t (fnd t f).toNat, (t.getD (fnd t f).toNat dr).mark⟩, 0)) else (t, 2)
def sMark (t : List TRow) (k : K) (on : Bool) : List TRow × Int :=
  if tOK t = true ∧ kOK k = true then (if fnd t k < 0 then (t, 7) else (t.set (fnd t k).toNat ⟨(t.getD (fnd t k).toNat dr).obj, (t.getD (fnd t k).toNat dr).slot, dd t (fnd t k).toNat, on⟩, 0)) else (t, 2)
theorem good_of {t : List TRow} (h : tOK t = true) : t.length ≤ 512 ∧ ∀ j, j < t.length → goodAt t j = true := by
  unfold tOK at h
  rw [Bool.and_eq_true, decide_eq_true_eq, good_iff] at h
  exact h
theorem dd_small {t : List TRow} (h : tOK t = true) {i : Nat} (hi : i < t.length) : 0 ≤ dd t i ∧ dd t i < 512 := by
  obtain ⟨h1, h2⟩ := good_of h
  have := (depth_le h2).2 i hi
  omega
theorem kob (k : K) : (K.mk k.obj k.slot) = k := rfl
theorem add_ok (t : List TRow) (i : Nat) (r : TRow) (ht : t.length < 1000000) (hi : i ≤ t.length) : tree_add.R (enc t) i r.obj r.slot r.depth r.mark = some (rtup (if 0 ≤ fnd t (kk r) then (t, 8) else if 512 ≤ t.length then (t, 6) else (putAt t i r, 0))) := by
  refine tree_add.start _ _ _ _ _ _ _ ?_
  rw [show tree_Find.R (enc t) r.obj r.slot = some (ftup (fnd t (kk r))) from find_ok t (kk r) ht]
  simp only [optAll_so]
  rcases fnd_cases t (kk r) with ⟨h1, _⟩ | ⟨j, hj, h1, _, _⟩
  · rw [h1, ftup_neg, if_neg (by omega)]
    simp only [cond_false, enc_len]
    by_cases h : 512 ≤ t.length
    · rw [if_pos h, decide_eq_true (by omega)]; rfl
    · rw [if_neg h, decide_eq_false (by omega)]
      simp only [cond_false, put_ok t i r ht hi, optAll_so]
      rfl
  · rw [h1, ftup_nat, if_pos (by omega)]
    rfl
theorem root_ok (t : List TRow) (k : K) (ht : t.length < 1000000) : tree_Root.R (enc t) k.obj k.slot = some (rtup (sRoot t k)) := by
  refine tree_Root.start _ _ _ _ ?_
  rw [right1_ok t k ht]
  simp only [optAll_so]
  unfold sRoot
  cases h1 : tOK t with
  | false => rw [if_neg (by simp)]; rfl
  | true =>
    cases h2 : kOK k with
    | false => rw [if_neg (by simp)]; rfl
    | true =>
      rw [if_pos (by simp)]
      simp only [Bool.and_true, Bool.not_true, cond_false, enc_len]
      rw [show tree_add.R (enc t) (t.length : Int) k.obj k.slot (0 : Int) false = _ from add_ok t t.length ⟨k.obj, k.slot, 0, false⟩ ht (Nat.le_refl _)]
      exact rfl
theorem rroot_ok (t : List TRow) (k : K) (ht : t.length < 1000000) : ref13_Root.R (enc t) k.obj k.slot = some (rtup (sRoot t k)) := by
  refine ref13_Root.start _ _ _ _ ?_
  rw [rfind_ok t k ht]
  simp only [optAll_so]
  rw [is_ok t ht]
  simp only [optAll_so]
  unfold sRoot
  cases h1 : tOK t with
  | false => rw [if_neg (by simp)]; rfl
  | true =>
    simp only [Bool.not_true, cond_false]
    rw [rkey_ok]
    simp only [optAll_so]
    cases h2 : kOK k with
    | false => rw [if_neg (by simp)]; rfl
    | true =>
      rw [if_pos (by simp)]
      simp only [Bool.not_true, cond_false, enc_len]
      rcases fnd_cases t k with ⟨h1, _⟩ | ⟨j, hj, h1, _, _⟩
      · rw [h1, ftup_neg, if_neg (by omega)]
        simp only [cond_false]
        by_cases h : 512 ≤ t.length
        · rw [if_pos h, decide_eq_true (by omega)]; rfl
        · rw [if_neg h, decide_eq_false (by omega)]
          simp only [cond_false]
          rw [show ref13_put.R (enc t) (t.length : Int) k.obj k.slot (0 : Int) false = _ from rput_ok t t.length ⟨k.obj, k.slot, 0, false⟩ ht (Nat.le_refl _)]
          exact rfl
      · rw [h1, ftup_nat, if_pos (by omega)]
        rfl
theorem insert_ok (t : List TRow) (f k : K) (ht : t.length < 1000000) : tree_Insert.R (enc t) f.obj f.slot k.obj k.slot = some (rtup (sInsert t f k)) := by
  refine tree_Insert.start _ _ _ _ _ _ ?_
  rw [right2_ok t f k ht]
  simp only [optAll_so]
  unfold sInsert
  cases h1 : tOK t with
  | false => rw [if_neg (by simp)]; rfl
  | true =>
    cases h2 : kOK f with
    | false => rw [if_neg (by simp)]; rfl
    | true =>
      cases h3 : kOK k with
      | false => rw [if_neg (by simp)]; rfl
      | true =>
        rw [if_pos (by simp)]
        simp only [Bool.and_true, Bool.not_true, cond_false]
        rw [find_ok t f ht]
        simp only [optAll_so]
        rcases fnd_cases t f with ⟨g1, _⟩ | ⟨i, hi, g1, _, _⟩
        · rw [g1, ftup_neg, if_pos (by omega)]
          rfl
        · rw [g1, ftup_nat, if_neg (by omega)]
          have hd := dd_small h1 hi
          have hdi : t[i].depth = dd t i := by unfold dd; rw [getD_lt t hi]
          simp only [Bool.not_true, cond_false, needs_nat, Int.toNat_natCast, enc_get _ _ hi, optAll_so, t2_]
          rw [wrap_succ (show i < 4611686018427387904 by omega), hdi, wrap_id (n := dd t i + 1) (by omega) (by omega)]
          rw [show tree_add.R (enc t) ((i + 1 : Nat) : Int) k.obj k.slot (dd t i + 1) false = _ from add_ok t (i + 1) ⟨k.obj, k.slot, dd t i + 1, false⟩ ht (by omega)]
          exact rfl
theorem rinsert_ok (t : List TRow) (f k : K) (ht : t.length < 1000000) : ref13_Insert.R (enc t) f.obj f.slot k.obj k.slot = some (rtup (sInsert t f k)) := by
  refine ref13_Insert.start _ _ _ _ _ _ ?_
  rw [rfind_ok t f ht]
  simp only [optAll_so]
  rw [rfind_ok t k ht]
  simp only [optAll_so]
  rw [is_ok t ht]
  simp only [optAll_so]
  unfold sInsert
  cases h1 : tOK t with
  | false => rw [if_neg (by simp)]; rfl
  | true =>
    simp only [Bool.not_true, cond_false]
    rw [rkey_ok]
    simp only [optAll_so]
    cases h2 : kOK f with
    | false => rw [if_neg (by simp)]; rfl
    | true =>
      simp only [Bool.not_true, cond_false]
      rw [rkey_ok]
      simp only [optAll_so]
      cases h3 : kOK k with
      | false => rw [if_neg (by simp)]; rfl
      | true =>
        rw [if_pos (by simp)]
        simp only [Bool.not_true, cond_false]
        rcases fnd_cases t f with ⟨g1, _⟩ | ⟨i, hi, g1, _, _⟩
        · rw [g1, ftup_neg, if_pos (by omega)]
          rfl
        · rw [g1, ftup_nat, if_neg (by omega)]
          simp only [Bool.not_true, cond_false, Int.toNat_natCast]
          have hd := dd_small h1 hi
          have hdi : t[i].depth = dd t i := by unfold dd; rw [getD_lt t hi]
          rcases fnd_cases t k with ⟨g2, _⟩ | ⟨j, hj, g2, _, _⟩
          · rw [g2, ftup_neg, if_neg (by omega)]
            simp only [cond_false, enc_len]
            by_cases h : 512 ≤ t.length
            · rw [if_pos h, decide_eq_true (by omega)]; rfl
            · rw [if_neg h, decide_eq_false (by omega)]
              simp only [cond_false, needs_nat, enc_get _ _ hi, optAll_so, t0_, t1_, t2_, t3_]
              rw [wrap_succ (show i < 4611686018427387904 by omega), hdi, wrap_id (n := dd t i + 1) (by omega) (by omega)]
              rw [show ref13_put.R (enc t) ((i + 1 : Nat) : Int) k.obj k.slot (dd t i + 1) false = _ from rput_ok t (i + 1) ⟨k.obj, k.slot, dd t i + 1, false⟩ ht (by omega)]
              exact rfl
          · rw [g2, ftup_nat, if_pos (by omega)]
            rfl
theorem remove_ok (t : List TRow) (k : K) (ht : t.length < 1000000) : tree_Remove.R (enc t) k.obj k.slot = some (rtup (sRemove t k)) := by
  refine tree_Remove.start _ _ _ _ ?_
  rw [right1_ok t k ht]
  simp only [optAll_so]
  unfold sRemove
  cases h1 : tOK t with
  | false => rw [if_neg (by simp)]; rfl
  | true =>
    cases h2 : kOK k with
    | false => rw [if_neg (by simp)]; rfl
    | true =>
      rw [if_pos (by simp)]
      simp only [Bool.and_true, Bool.not_true, cond_false]
      rw [find_ok t k ht]
      simp only [optAll_so]
      rcases fnd_cases t k with ⟨g1, _⟩ | ⟨i, hi, g1, _, _⟩
      · rw [g1, ftup_neg, if_pos (by omega)]
        rfl
      · rw [g1, ftup_nat, if_neg (by omega)]
        simp only [Bool.not_true, cond_false, Int.toNat_natCast]
        rw [gather_ok t i ht hi]
        simp only [optAll_so]
        by_cases hu : (underOf t i).length = 0
        · rw [if_pos hu, show List.isEmpty ((underOf t i).map TRow.krow) = true by rw [List.eq_nil_of_length_eq_zero hu]; rfl]
          simp only [cond_true]
          rw [wrap_succ (show i < 4611686018427387904 by omega)]
          simp only [Int.toNat_natCast, enc_len, enc_take, enc_drop, enc_app, take_len, needs_iff, List.take_length]
          refine ⟨trivial, by omega, by omega, ?_⟩
          by_cases hd : i + 1 < t.length
          · rw [show List.isEmpty (enc (t.drop (i + 1))) = false by
              rw [List.drop_eq_getElem_cons hd]; rfl]
            simp only [cond_false, needs_iff]
            refine ⟨?_, rfl⟩
            simp only [List.length_append, List.length_take, List.length_drop]
            omega
          · rw [show List.isEmpty (enc (t.drop (i + 1))) = true by rw [List.drop_eq_nil_of_le (by omega)]; rfl]
            show (_, _) = (_, _)
            unfold outAt
            rw [List.drop_eq_nil_of_le (by omega), List.append_nil]
        · rw [if_neg hu, show List.isEmpty ((underOf t i).map TRow.krow) = false by
            cases h : underOf t i with
            | nil => rw [h] at hu; exact absurd rfl hu
            | cons a l => rfl]
          rfl
theorem rremove_ok (t : List TRow) (k : K) (ht : t.length < 1000000) : ref13_Remove.R (enc t) k.obj k.slot = some (rtup (sRemove t k)) := by
  refine ref13_Remove.start _ _ _ _ ?_
  rw [rfind_ok t k ht]
  simp only [optAll_so]
  rw [is_ok t ht]
  simp only [optAll_so]
  unfold sRemove
  cases h1 : tOK t with
  | false => rw [if_neg (by simp)]; rfl
  | true =>
    simp only [Bool.not_true, cond_false]
    rw [rkey_ok]
    simp only [optAll_so]
    cases h2 : kOK k with
    | false => rw [if_neg (by simp)]; rfl
    | true =>
      rw [if_pos (by simp)]
      simp only [Bool.not_true, cond_false]
      rcases fnd_cases t k with ⟨g1, _⟩ | ⟨i, hi, g1, _, _⟩
      · rw [g1, ftup_neg, if_pos (by omega)]
        rfl
      · rw [g1, ftup_nat, if_neg (by omega)]
        simp only [Bool.not_true, cond_false, Int.toNat_natCast]
        rw [count_ok t i ht hi]
        simp only [optAll_so]
        by_cases hu : (underOf t i).length = 0
        · rw [if_pos hu, decide_eq_false (by omega)]
          simp only [cond_false]
          rw [rout_ok t i ht hi]
          exact rfl
        · rw [if_neg hu, decide_eq_true (by omega)]
          rfl
theorem set_put (t : List TRow) (i : Nat) (r : TRow) (hi : i < t.length) : putAt (outAt t i) i r = t.set i r := by
  unfold putAt outAt
  rw [List.take_append_of_le_length (by simp; omega), List.drop_append_of_le_length (by simp; omega), List.take_take, Nat.min_self, List.drop_take_self, List.nil_append, List.set_eq_take_append_cons_drop, if_pos hi]
  simp
theorem move_ok (t : List TRow) (f k : K) (ht : t.length < 1000000) : tree_Move.R (enc t) f.obj f.slot k.obj k.slot = some (rtup (sMove t f k)) := by
  refine tree_Move.start _ _ _ _ _ _ ?_
  rw [right2_ok t f k ht]
  simp only [optAll_so]
  unfold sMove
  cases h1 : tOK t with
  | false => rw [if_neg (by simp)]; rfl
  | true =>
    cases h2 : kOK f with
    | false => rw [if_neg (by simp)]; rfl
    | true =>
      cases h3 : kOK k with
      | false => rw [if_neg (by simp)]; rfl
      | true =>
        rw [if_pos (by simp)]
        simp only [Bool.and_true, Bool.not_true, cond_false]
        rw [find_ok t f ht]
        simp only [optAll_so]
        rcases fnd_cases t f with ⟨g1, _⟩ | ⟨i, hi, g1, _, _⟩
        · rw [g1, ftup_neg, if_pos (by omega)]
          rfl
        · rw [g1, ftup_nat, if_neg (by omega)]
          simp only [Bool.not_true, cond_false, Int.toNat_natCast]
          rw [find_ok t k ht]
          simp only [optAll_so]
          rcases fnd_cases t k with ⟨g2, _⟩ | ⟨j, hj, g2, _, _⟩
          · rw [g2, ftup_neg, if_neg (by omega)]
            have hdi : t[i].depth = dd t i := by unfold dd; rw [getD_lt t hi]
            simp only [cond_false, needs_nat, enc_get _ _ hi, optAll_so, t0_, t1_, t2_, t3_]
            rw [hdi, getD_lt t hi]
            rw [show tree_with.R (enc t) (i : Int) k.obj k.slot (dd t i) t[i].mark = _ from with_ok t i ⟨k.obj, k.slot, dd t i, t[i].mark⟩ ht hi]
            exact rfl
          · rw [g2, ftup_nat, if_pos (by omega)]
            rfl
theorem rmove_ok (t : List TRow) (f k : K) (ht : t.length < 1000000) : ref13_Move.R (enc t) f.obj f.slot k.obj k.slot = some (rtup (sMove t f k)) := by
  refine ref13_Move.start _ _ _ _ _ _ ?_
  rw [rfind_ok t f ht]
  simp only [optAll_so]
  rw [rfind_ok t k ht]
  simp only [optAll_so]
  rw [is_ok t ht]
  simp only [optAll_so]
  unfold sMove
  cases h1 : tOK t with
  | false => rw [if_neg (by simp)]; rfl
  | true =>
    simp only [Bool.not_true, cond_false]
    rw [rkey_ok]
    simp only [optAll_so]
    cases h2 : kOK f with
    | false => rw [if_neg (by simp)]; rfl
    | true =>
      simp only [Bool.not_true, cond_false]
      rw [rkey_ok]
      simp only [optAll_so]
      cases h3 : kOK k with
      | false => rw [if_neg (by simp)]; rfl
      | true =>
        rw [if_pos (by simp)]
        simp only [Bool.not_true, cond_false]
        rcases fnd_cases t f with ⟨g1, _⟩ | ⟨i, hi, g1, _, _⟩
        · rw [g1, ftup_neg, if_pos (by omega)]
          rfl
        · rw [g1, ftup_nat, if_neg (by omega)]
          simp only [Bool.not_true, cond_false, Int.toNat_natCast]
          have hdi : t[i].depth = dd t i := by unfold dd; rw [getD_lt t hi]
          rcases fnd_cases t k with ⟨g2, _⟩ | ⟨j, hj, g2, _, _⟩
          · rw [g2, ftup_neg, if_neg (by omega)]
            simp only [cond_false, needs_nat, enc_get _ _ hi, optAll_so, t0_, t1_, t2_, t3_]
            rw [rout_ok t i ht hi, hdi, getD_lt t hi]
            simp only [optAll_so]
            rw [show ref13_put.R (enc (t.take i ++ t.drop (i + 1))) (i : Int) k.obj k.slot (dd t i) t[i].mark = _ from rput_ok (outAt t i) i ⟨k.obj, k.slot, dd t i, t[i].mark⟩ (by unfold outAt; simp; omega) (by unfold outAt; simp; omega)]
            rw [set_put t i _ hi]
            exact rfl
          · rw [g2, ftup_nat, if_pos (by omega)]
            rfl
theorem mark_ok (t : List TRow) (k : K) (on : Bool) (ht : t.length < 1000000) : tree_Mark.R (enc t) k.obj k.slot on = some (rtup (sMark t k on)) := by
  refine tree_Mark.start _ _ _ _ _ ?_
  rw [right1_ok t k ht]
  simp only [optAll_so]
  unfold sMark
  cases h1 : tOK t with
  | false => rw [if_neg (by simp)]; rfl
  | true =>
    cases h2 : kOK k with
    | false => rw [if_neg (by simp)]; rfl
    | true =>
      rw [if_pos (by simp)]
      simp only [Bool.and_true, Bool.not_true, cond_false]
      rw [find_ok t k ht]
      simp only [optAll_so]
      rcases fnd_cases t k with ⟨g1, _⟩ | ⟨i, hi, g1, _, _⟩
      · rw [g1, ftup_neg, if_pos (by omega)]
        rfl
      · rw [g1, ftup_nat, if_neg (by omega)]
        have hdi : t[i].depth = dd t i := by unfold dd; rw [getD_lt t hi]
        simp only [Bool.not_true, cond_false, needs_nat, Int.toNat_natCast, enc_get _ _ hi, optAll_so, t0_, t1_, t2_, t3_]
        rw [hdi, getD_lt t hi]
        rw [show tree_with.R (enc t) (i : Int) t[i].obj t[i].slot (dd t i) on = _ from with_ok t i ⟨t[i].obj, t[i].slot, dd t i, on⟩ ht hi]
        exact rfl
theorem rmark_ok (t : List TRow) (k : K) (on : Bool) (ht : t.length < 1000000) : ref13_Mark.R (enc t) k.obj k.slot on = some (rtup (sMark t k on)) := by
  refine ref13_Mark.start _ _ _ _ _ ?_
  rw [rfind_ok t k ht]
  simp only [optAll_so]
  rw [is_ok t ht]
  simp only [optAll_so]
  unfold sMark
  cases h1 : tOK t with
  | false => rw [if_neg (by simp)]; rfl
  | true =>
    simp only [Bool.not_true, cond_false]
    rw [rkey_ok]
    simp only [optAll_so]
    cases h2 : kOK k with
    | false => rw [if_neg (by simp)]; rfl
    | true =>
      rw [if_pos (by simp)]
      simp only [Bool.not_true, cond_false]
      rcases fnd_cases t k with ⟨g1, _⟩ | ⟨i, hi, g1, _, _⟩
      · rw [g1, ftup_neg, if_pos (by omega)]
        rfl
      · rw [g1, ftup_nat, if_neg (by omega)]
        have hdi : t[i].depth = dd t i := by unfold dd; rw [getD_lt t hi]
        simp only [Bool.not_true, cond_false, needs_nat, Int.toNat_natCast, enc_get _ _ hi, optAll_so, t0_, t1_, t2_, t3_]
        rw [rout_ok t i ht hi, hdi, getD_lt t hi]
        simp only [optAll_so]
        rw [show ref13_put.R (enc (t.take i ++ t.drop (i + 1))) (i : Int) t[i].obj t[i].slot (dd t i) on = _ from rput_ok (outAt t i) i ⟨t[i].obj, t[i].slot, dd t i, on⟩ (by unfold outAt; simp; omega) (by unfold outAt; simp; omega)]
        rw [set_put t i _ hi]
        exact rfl
/-! Acts -/
structure Act where
  kind : Int
  a : K
  b : K
  on : Bool
def encA (x : Act) : List DV := [.v (.int .i64 x.kind), .v (.int .i64 x.a.obj), .v (.int .i64 x.a.slot), .v (.int .i64 x.b.obj), .v (.int .i64 x.b.slot), .v (.bool x.on)]
def step (t : List TRow) (x : Act) : List TRow × Int :=
  if x.kind = 0 then sRoot t x.a else if x.kind = 1 then sInsert t x.a x.b else if x.kind = 2 then sRemove t x.a else if x.kind = 3 then sMove t x.a x.b else sMark t x.a x.on
theorem does_ok (t : List TRow) (x : Act) (ht : t.length < 1000000) : law13_does.R (enc t) x.kind x.a.obj x.a.slot x.b.obj x.b.slot x.on = some (rtup (step t x)) := by
  refine law13_does.start _ _ _ _ _ _ _ _ ?_
  unfold step
  simp only [cond_ite, beq_iff_eq]
  by_cases h0 : x.kind = 0
  · rw [if_pos h0, if_pos h0, root_ok t x.a ht]
    simp only [optAll_so, num_ok, rtup]
  rw [if_neg h0, if_neg h0]
  by_cases h1 : x.kind = 1
  · rw [if_pos h1, if_pos h1, insert_ok t x.a x.b ht]
    simp only [optAll_so, num_ok, rtup]
  rw [if_neg h1, if_neg h1]
  by_cases h2 : x.kind = 2
  · rw [if_pos h2, if_pos h2, remove_ok t x.a ht]
    simp only [optAll_so, num_ok, rtup]
  rw [if_neg h2, if_neg h2]
  by_cases h3 : x.kind = 3
  · rw [if_pos h3, if_pos h3, move_ok t x.a x.b ht]
    simp only [optAll_so, num_ok, rtup]
  rw [if_neg h3, if_neg h3, mark_ok t x.a x.on ht]
  simp only [optAll_so, num_ok, rtup]
theorem model_ok (t : List TRow) (x : Act) (ht : t.length < 1000000) : law13_model.R (enc t) x.kind x.a.obj x.a.slot x.b.obj x.b.slot x.on = some (rtup (step t x)) := by
  refine law13_model.start _ _ _ _ _ _ _ _ ?_
  unfold step
  simp only [cond_ite, beq_iff_eq]
  by_cases h0 : x.kind = 0
  · rw [if_pos h0, if_pos h0, rroot_ok t x.a ht]
    exact rfl
  rw [if_neg h0, if_neg h0]
  by_cases h1 : x.kind = 1
  · rw [if_pos h1, if_pos h1, rinsert_ok t x.a x.b ht]
    exact rfl
  rw [if_neg h1, if_neg h1]
  by_cases h2 : x.kind = 2
  · rw [if_pos h2, if_pos h2, rremove_ok t x.a ht]
    exact rfl
  rw [if_neg h2, if_neg h2]
  by_cases h3 : x.kind = 3
  · rw [if_pos h3, if_pos h3, rmove_ok t x.a x.b ht]
    exact rfl
  rw [if_neg h3, if_neg h3, rmark_ok t x.a x.on ht]
  exact rfl
theorem step_len (t : List TRow) (x : Act) : (step t x).1.length ≤ t.length + 1 := by
  unfold step sRoot sInsert sRemove sMove sMark putAt outAt
  repeat' split
  all_goals simp
  all_goals omega
theorem steps_law (t u : List TRow) (x : Act) : law13_TreeSteps.R (enc t) (enc u) x.kind x.a.obj x.a.slot x.b.obj x.b.slot x.on = some (true, ()) := by
  refine law13_TreeSteps.start _ _ _ _ _ _ _ _ _ ?_
  simp only [enc_len]
  by_cases h1 : t.length > 60
  · rw [decide_eq_true (by omega)]
    simp only [cond_true, live_ok, optAll_so]
  rw [decide_eq_false (by omega)]
  by_cases h2 : u.length > 60
  · rw [decide_eq_true (by omega)]
    simp only [cond_true, cond_false, live_ok, optAll_so]
  rw [decide_eq_false (by omega)]
  simp only [cond_false, needs_iff, enc_take, List.take_length]
  refine ⟨by omega, ?_⟩
  have hs := step_len t x
  rw [does_ok t x (by omega)]
  simp only [optAll_so]
  rw [model_ok t x (by omega)]
  simp only [optAll_so, rtup]
  rw [rsame_ok _ _ (by omega) (by omega)]
  simp only [optAll_so, decide_true, cond_true, beq_self_eq_true]
  rw [check_ok t (by omega)]
  simp only [optAll_so, num_ok]
  rw [is_ok t (by omega)]
  simp only [optAll_so, er_zero, beq_self_eq_true, cond_true]
  rw [same_ok t u (by omega) (by omega)]
  simp only [optAll_so]
  rw [rsame_ok t u (by omega) (by omega)]
  simp only [optAll_so, beq_self_eq_true, cond_true]
  rw [rsame_ok t t (by omega) (by omega)]
  simp only [optAll_so, decide_true, cond_true, live_ok]
theorem tells_law (t : List TRow) (a b : K) : law13_TreeTells.R (enc t) a.obj a.slot b.obj b.slot = some (true, ()) := by
  refine law13_TreeTells.start _ _ _ _ _ _ ?_
  simp only [enc_len]
  by_cases h1 : t.length > 60
  · rw [decide_eq_true (by omega)]
    simp only [cond_true, live_ok, optAll_so]
  rw [decide_eq_false (by omega)]
  simp only [cond_false]
  rw [find_ok t a (by omega)]
  simp only [optAll_so]
  rw [rfind_ok t a (by omega)]
  simp only [optAll_so]
  rw [parent_ok t a (by omega)]
  simp only [optAll_so]
  rw [rparent_ok t a (by omega)]
  simp only [optAll_so, beq_self_eq_true, cond_true, Bool.and_true]
  rw [below_ok t a (by omega)]
  simp only [optAll_so]
  rw [rbelow_ok t a (by omega)]
  simp only [optAll_so]
  rw [krow_map, keys_same_ok _ _ (by have := under_len t a; simp; omega) (by have := under_len t a; simp; omega)]
  simp only [optAll_so, decide_true, cond_true]
  rw [descends_ok t a b (by omega)]
  simp only [optAll_so]
  rw [rdescends_ok t a b (by omega)]
  simp only [optAll_so, beq_self_eq_true, cond_true, live_ok]
end Trees
namespace Trees
open Kit Ghost

def key (t : List TRow) (i : Nat) : K := kk (t.getD i dr)
/-- A list of rows is a tree. -/
structure GA (t : List TRow) (i : Nat) : Prop where
  uniq : ∀ j, j < i → key t j ≠ key t i
  ok : kOK (key t i) = true
  nn : 0 ≤ dd t i
  le : dd t i ≤ lim t i
structure GT (t : List TRow) : Prop where
  len : t.length ≤ 512
  at_ : ∀ i, i < t.length → GA t i
theorem mem_take_key (t : List TRow) (i : Nat) (hi : i ≤ t.length) (k : K) : k ∈ (t.take i).map kk ↔ ∃ j, j < i ∧ key t j = k := by
  constructor
  · intro h
    rw [List.mem_map] at h
    obtain ⟨r, hr, h⟩ := h
    rw [List.mem_take_iff_getElem] at hr
    obtain ⟨j, hj, rfl⟩ := hr
    exact ⟨j, by omega, by unfold key; rw [getD_lt t (by omega)]; exact h⟩
  · rintro ⟨j, hj, rfl⟩
    rw [List.mem_map]
    refine ⟨t[j]'(by omega), ?_, by unfold key; rw [getD_lt t (by omega)]⟩
    rw [List.mem_take_iff_getElem]
    exact ⟨j, by omega, rfl⟩
theorem goodAt_iff (t : List TRow) (i : Nat) (hi : i < t.length) : goodAt t i = true ↔ GA t i := by
  unfold goodAt
  simp only [Bool.and_eq_true, Bool.not_eq_true', decide_eq_true_eq, decide_eq_false_iff_not]
  constructor
  · rintro ⟨⟨⟨h1, h2⟩, h3⟩, h4⟩
    exact ⟨fun j hj e => h1 ((mem_take_key t i (by omega) _).2 ⟨j, hj, e⟩), h2, h3, h4⟩
  · rintro ⟨h1, h2, h3, h4⟩
    refine ⟨⟨⟨fun h => ?_, h2⟩, h3⟩, h4⟩
    obtain ⟨j, hj, e⟩ := (mem_take_key t i (by omega) _).1 h
    exact h1 j hj e
theorem tOK_iff (t : List TRow) : tOK t = true ↔ GT t := by
  unfold tOK
  rw [Bool.and_eq_true, decide_eq_true_eq, good_iff]
  exact ⟨fun h => ⟨h.1, fun i hi => (goodAt_iff t i hi).1 (h.2 i hi)⟩, fun h => ⟨h.len, fun i hi => (goodAt_iff t i hi).2 (h.at_ i hi)⟩⟩
theorem GT.inj {t : List TRow} (h : GT t) {i j : Nat} (hi : i < t.length) (hj : j < t.length) (e : key t i = key t j) : i = j := by
  rcases Nat.lt_trichotomy i j with hlt | heq | hgt
  · exact absurd e ((h.at_ j hj).uniq i hlt)
  · exact heq
  · exact absurd e.symm ((h.at_ i hi).uniq j hgt)
theorem fnd_key (t : List TRow) (k : K) : (fnd t k = -1 ∧ ∀ j, j < t.length → key t j ≠ k) ∨ ∃ i : Nat, i < t.length ∧ fnd t k = i ∧ key t i = k ∧ ∀ j, j < i → key t j ≠ k := by
  rcases fnd_cases t k with ⟨h1, h2⟩ | ⟨i, hi, h1, h2, h3⟩
  · exact .inl ⟨h1, fun j hj => by unfold key; rw [getD_lt t hj]; exact h2 _ (List.getElem_mem hj)⟩
  · exact .inr ⟨i, hi, h1, by unfold key; rw [getD_lt t hi]; exact h2, fun j hj => by unfold key; rw [getD_lt t (by omega)]; exact h3 j hj⟩
theorem GT.fnd {t : List TRow} (h : GT t) {i : Nat} (hi : i < t.length) {k : K} (hk : key t i = k) : fnd t k = i := by
  rcases fnd_key t k with ⟨_, h2⟩ | ⟨j, hj, h1, h2, _⟩
  · exact absurd hk (h2 i hi)
  · rw [h1, h.inj hj hi (h2.trans hk.symm)]
/-! Places of changed lists -/
theorem put_len (t : List TRow) (i : Nat) (r : TRow) (hi : i ≤ t.length) : (putAt t i r).length = t.length + 1 := by
  unfold putAt
  simp
  omega
theorem put_get (t : List TRow) (i : Nat) (r : TRow) (hi : i ≤ t.length) (j : Nat) : (putAt t i r).getD j dr = if j < i then t.getD j dr else if j = i then r else t.getD (j - 1) dr := by
  unfold putAt
  simp only [List.getD_eq_getElem?_getD]
  rw [List.append_assoc]
  by_cases h1 : j < i
  · rw [if_pos h1, List.getElem?_append_left (by simp; omega), List.getElem?_take_of_lt h1]
  · rw [if_neg h1, List.getElem?_append_right (by simp; omega)]
    have e : (t.take i).length = i := by simp; omega
    rw [e]
    by_cases h2 : j = i
    · subst h2; rw [if_pos rfl]; simp
    · rw [if_neg h2]
      obtain ⟨m, rfl⟩ : ∃ m, j = i + m + 1 := ⟨j - i - 1, by omega⟩
      rw [show i + m + 1 - i = m + 1 by omega]
      simp only [List.singleton_append, List.getElem?_cons_succ, List.getElem?_drop]
      rfl
theorem out_len (t : List TRow) (i : Nat) (hi : i < t.length) : (outAt t i).length = t.length - 1 := by
  unfold outAt
  simp
  omega
theorem out_get (t : List TRow) (i : Nat) (hi : i < t.length) (j : Nat) : (outAt t i).getD j dr = if j < i then t.getD j dr else t.getD (j + 1) dr := by
  unfold outAt
  simp only [List.getD_eq_getElem?_getD]
  by_cases h1 : j < i
  · rw [if_pos h1, List.getElem?_append_left (by simp; omega), List.getElem?_take_of_lt h1]
  · rw [if_neg h1, List.getElem?_append_right (by simp; omega), List.getElem?_drop]
    have e : (t.take i).length = i := by simp; omega
    rw [e, show i + 1 + (j - i) = j + 1 by omega]
theorem set_get (t : List TRow) (i : Nat) (r : TRow) (hi : i < t.length) (j : Nat) : (t.set i r).getD j dr = if j = i then r else t.getD j dr := by
  simp only [List.getD_eq_getElem?_getD, List.getElem?_set]
  by_cases h : i = j
  · subst h; simp [hi]
  · rw [if_neg h, if_neg (fun e => h e.symm)]
/-! What stays a tree -/
theorem put_good {t : List TRow} (h : GT t) {i : Nat} (hi : i ≤ t.length) {r : TRow} (hl : t.length < 512) (hk : kOK (kk r) = true) (hf : ∀ j, j < t.length → key t j ≠ kk r) (h0 : 0 ≤ r.depth) (h1 : r.depth ≤ lim t i)
    (h2 : i < t.length → dd t i ≤ r.depth + 1) : GT (putAt t i r) := by
  have hlen := put_len t i r hi
  have hg := put_get t i r hi
  refine ⟨by omega, fun j hj => ?_⟩
  rw [hlen] at hj
  have hkey : ∀ j, key (putAt t i r) j = if j < i then key t j else if j = i then kk r else key t (j - 1) := fun j => by
    unfold key
    rw [hg]
    split
    · rfl
    · split <;> rfl
  have hdd : ∀ j, dd (putAt t i r) j = if j < i then dd t j else if j = i then r.depth else dd t (j - 1) := fun j => by
    unfold dd
    rw [hg]
    split
    · rfl
    · split <;> rfl
  by_cases h3 : j < i
  · have ha := h.at_ j (by omega)
    refine ⟨fun m hm => ?_, ?_, ?_, ?_⟩
    · rw [hkey, hkey, if_pos (by omega), if_pos h3]; exact ha.uniq m hm
    · rw [hkey, if_pos h3]; exact ha.ok
    · rw [hdd, if_pos h3]; exact ha.nn
    · rw [hdd, if_pos h3]
      cases j with
      | zero => exact ha.le
      | succ j => simp only [lim]; rw [hdd, if_pos (by omega)]; exact ha.le
  · by_cases h4 : j = i
    · subst h4
      refine ⟨fun m hm => ?_, ?_, ?_, ?_⟩
      · rw [hkey, hkey, if_pos hm, if_neg h3, if_pos rfl]; exact hf m (by omega)
      · rw [hkey, if_neg h3, if_pos rfl]; exact hk
      · rw [hdd, if_neg h3, if_pos rfl]; exact h0
      · rw [hdd, if_neg h3, if_pos rfl]
        cases j with
        | zero => exact h1
        | succ j => simp only [lim]; rw [hdd, if_pos (by omega)]; exact h1
    · obtain ⟨q, rfl⟩ : ∃ q, j = q + 1 := ⟨j - 1, by omega⟩
      have ha := h.at_ q (by omega)
      have e1 : key (putAt t i r) (q + 1) = key t q := by rw [hkey, if_neg h3, if_neg h4]; rfl
      have e2 : dd (putAt t i r) (q + 1) = dd t q := by rw [hdd, if_neg h3, if_neg h4]; rfl
      refine ⟨fun m hm => ?_, by rw [e1]; exact ha.ok, by rw [e2]; exact ha.nn, ?_⟩
      · rw [e1, hkey]
        split
        · exact ha.uniq m (by omega)
        · split
          · exact fun e => hf q (by omega) e.symm
          · exact ha.uniq (m - 1) (by omega)
      · rw [e2]
        simp only [lim]
        rw [hdd]
        by_cases h5 : q = i
        · subst h5
          rw [if_neg (by omega), if_pos rfl]
          exact h2 (by omega)
        · rw [if_neg (by omega), if_neg h5]
          have := ha.le
          obtain ⟨p, rfl⟩ : ∃ p, q = p + 1 := ⟨q - 1, by omega⟩
          simpa [lim] using this
theorem set_good {t : List TRow} (h : GT t) {i : Nat} (hi : i < t.length) {r : TRow} (hk : kOK (kk r) = true) (hf : ∀ j, j < t.length → j ≠ i → key t j ≠ kk r) (hd : r.depth = dd t i) : GT (t.set i r) := by
  have hg := set_get t i r hi
  have hkey : ∀ j, key (t.set i r) j = if j = i then kk r else key t j := fun j => by
    unfold key; rw [hg]; split <;> rfl
  have hdd : ∀ j, dd (t.set i r) j = dd t j := fun j => by
    unfold dd; rw [hg]
    split
    · rename_i e; subst e; exact hd
    · rfl
  have hlim : ∀ j, lim (t.set i r) j = lim t j := fun j => by
    cases j with
    | zero => rfl
    | succ j => simp only [lim, hdd]
  refine ⟨by rw [List.length_set]; exact h.len, fun j hj => ?_⟩
  rw [List.length_set] at hj
  have ha := h.at_ j hj
  refine ⟨fun m hm => ?_, ?_, by rw [hdd]; exact ha.nn, by rw [hdd, hlim]; exact ha.le⟩
  · rw [hkey, hkey]
    by_cases h1 : m = i
    · rw [if_pos h1, if_neg (by omega)]; exact fun e => hf j hj (by omega) e.symm
    · rw [if_neg h1]
      by_cases h2 : j = i
      · rw [if_pos h2]; exact hf m (by omega) h1
      · rw [if_neg h2]; exact ha.uniq m hm
  · rw [hkey]
    split
    · exact hk
    · exact ha.ok
theorem out_good {t : List TRow} (h : GT t) {i : Nat} (hi : i < t.length) (hn : (underOf t i).length = 0) : GT (outAt t i) := by
  have hlen := out_len t i hi
  have hg := out_get t i hi
  have hkey : ∀ j, key (outAt t i) j = if j < i then key t j else key t (j + 1) := fun j => by
    unfold key; rw [hg]; split <;> rfl
  have hdd : ∀ j, dd (outAt t i) j = if j < i then dd t j else dd t (j + 1) := fun j => by
    unfold dd; rw [hg]; split <;> rfl
  refine ⟨by have := h.len; omega, fun j hj => ?_⟩
  rw [hlen] at hj
  by_cases h3 : j < i
  · have ha := h.at_ j (by omega)
    refine ⟨fun m hm => ?_, ?_, ?_, ?_⟩
    · rw [hkey, hkey, if_pos (by omega), if_pos h3]; exact ha.uniq m hm
    · rw [hkey, if_pos h3]; exact ha.ok
    · rw [hdd, if_pos h3]; exact ha.nn
    · rw [hdd, if_pos h3]
      cases j with
      | zero => exact ha.le
      | succ j => simp only [lim]; rw [hdd, if_pos (by omega)]; exact ha.le
  · have ha := h.at_ (j + 1) (by omega)
    refine ⟨fun m hm => ?_, ?_, ?_, ?_⟩
    · rw [hkey, hkey, if_neg h3]
      split
      · exact ha.uniq m (by omega)
      · exact ha.uniq (m + 1) (by omega)
    · rw [hkey, if_neg h3]; exact ha.ok
    · rw [hdd, if_neg h3]; exact ha.nn
    · rw [hdd, if_neg h3]
      by_cases h4 : j = i
      · subst h4
        obtain ⟨_, _, u3, _⟩ := under_spec hi
        rw [hn] at u3
        have h5 : dd t (j + 1) ≤ dd t j := by
          rcases u3 with u3 | u3
          · omega
          · exact u3
        have h6 := (h.at_ j hi).le
        cases j with
        | zero => simp only [lim] at h6 ⊢; omega
        | succ j => simp only [lim] at h6 ⊢; rw [hdd, if_pos (by omega)]; omega
      · have := ha.le
        obtain ⟨q, rfl⟩ : ∃ q, j = q + 1 := ⟨j - 1, by omega⟩
        simp only [lim] at this ⊢
        rw [hdd, if_neg (by omega)]
        exact this
theorem nil_good : GT [] := ⟨by simp, fun i hi => absurd hi (by simp)⟩
/-- What an act does to a tree. -/
theorem step_good {t : List TRow} (h : GT t) (x : Act) : GT (step t x).1 := by
  have hroot : ∀ k, GT (sRoot t k).1 := fun k => by
    unfold sRoot
    split
    · rename_i hc
      split
      · exact h
      · rename_i hf
        split
        · exact h
        · rename_i hl
          rcases fnd_key t k with ⟨_, h2⟩ | ⟨i, _, h1, _⟩
          · refine put_good h (Nat.le_refl _) (by omega) hc.2 h2 (Int.le_refl _) ?_ (fun h => absurd h (by omega))
            show 0 ≤ lim t t.length
            cases hn : t.length with
            | zero => exact Int.le_refl _
            | succ n => simp only [lim]; have := (h.at_ n (by omega)).nn; omega
          · omega
    · exact h
  have hins : ∀ f k, GT (sInsert t f k).1 := fun f k => by
    unfold sInsert
    split
    · rename_i hc
      split
      · exact h
      · rename_i hf
        split
        · exact h
        · rename_i hk
          split
          · exact h
          · rename_i hl
            rcases fnd_key t f with ⟨h1, _⟩ | ⟨i, hi, h1, h2, _⟩
            · omega
            · rcases fnd_key t k with ⟨_, g2⟩ | ⟨j, _, g1, _⟩
              · rw [h1, Int.toNat_natCast]
                refine put_good h (by omega) (by omega) hc.2.2 g2 ?_ (by simp only [lim]; exact Int.le_refl _) (fun hlt => ?_)
                · show 0 ≤ dd t i + 1
                  have := (h.at_ i hi).nn
                  omega
                · show dd t (i + 1) ≤ dd t i + 1 + 1
                  have := (h.at_ (i + 1) hlt).le
                  simp only [lim] at this
                  omega
              · omega
    · exact h
  have hrem : ∀ k, GT (sRemove t k).1 := fun k => by
    unfold sRemove
    split
    · split
      · exact h
      · rename_i hf
        split
        · rename_i hu
          rcases fnd_key t k with ⟨h1, _⟩ | ⟨i, hi, h1, _, _⟩
          · omega
          · rw [h1, Int.toNat_natCast] at hu ⊢
            exact out_good h hi hu
        · exact h
    · exact h
  have hmov : ∀ f k, GT (sMove t f k).1 := fun f k => by
    unfold sMove
    split
    · rename_i hc
      split
      · exact h
      · rename_i hf
        split
        · exact h
        · rename_i hk
          rcases fnd_key t f with ⟨h1, _⟩ | ⟨i, hi, h1, h2, _⟩
          · omega
          · rcases fnd_key t k with ⟨_, g2⟩ | ⟨j, _, g1, _⟩
            · rw [h1, Int.toNat_natCast]
              exact set_good h hi hc.2.2 (fun j hj _ => g2 j hj) rfl
            · omega
    · exact h
  have hmark : ∀ k on, GT (sMark t k on).1 := fun k on => by
    unfold sMark
    split
    · split
      · exact h
      · rename_i hf
        rcases fnd_key t k with ⟨h1, _⟩ | ⟨i, hi, h1, h2, _⟩
        · omega
        · rw [h1, Int.toNat_natCast]
          exact set_good h hi (h.at_ i hi).ok (fun j hj hne e => hne (h.inj hj hi e)) rfl
    · exact h
  unfold step
  split
  · exact hroot _
  · split
    · exact hins _ _
    · split
      · exact hrem _
      · split
        · exact hmov _ _
        · exact hmark _ _
/-! Who is below whom -/
def Dn (t : List TRow) (i j : Nat) : Prop := i < j ∧ j < t.length ∧ ∀ m, i < m → m ≤ j → dd t i < dd t m
theorem under_iff {t : List TRow} {i j : Nat} (hi : i < t.length) : (i < j ∧ j < i + 1 + (underOf t i).length) ↔ Dn t i j := by
  obtain ⟨u1, u2, u3, _⟩ := under_spec hi
  constructor
  · rintro ⟨h1, h2⟩
    exact ⟨h1, by omega, fun m h3 h4 => u2 m h3 (by omega)⟩
  · rintro ⟨h1, h2, h3⟩
    refine ⟨h1, ?_⟩
    rcases Nat.lt_or_ge j (i + 1 + (underOf t i).length) with h | h
    · exact h
    · rcases u3 with u3 | u3
      · omega
      · have := h3 _ (by omega) h
        omega
theorem des_iff {t : List TRow} (h : GT t) (a b : K) : des t a b = true ↔ ∃ i j, Dn t i j ∧ key t i = b ∧ key t j = a := by
  unfold des bel
  rw [decide_eq_true_eq]
  rcases fnd_key t b with ⟨h1, h2⟩ | ⟨i, hi, h1, h2, _⟩
  · rw [h1, if_pos (by omega)]
    constructor
    · intro hx; simp at hx
    · rintro ⟨i, j, ⟨g1, g2, _⟩, g3, _⟩
      exact absurd g3 (h2 i (by omega))
  · rw [h1, if_neg (by omega), Int.toNat_natCast]
    constructor
    · intro hx
      rw [List.mem_map] at hx
      obtain ⟨r, hr, he⟩ := hx
      obtain ⟨n, hn, rfl⟩ := List.mem_iff_getElem.1 hr
      rw [under_get hi hn] at he
      have hlt : i + 1 + n < t.length := by have := (under_spec hi).1; omega
      exact ⟨i, i + 1 + n, (under_iff hi).1 ⟨by omega, by omega⟩, h2, by unfold key; rw [getD_lt t hlt]; exact he⟩
    · rintro ⟨i', j, hd, g3, g4⟩
      obtain rfl : i' = i := h.inj (by have := hd.1; have := hd.2.1; omega) hi (g3.trans h2.symm)
      obtain ⟨q1, q2⟩ := (under_iff hi).2 hd
      rw [List.mem_map]
      have hn : j - (i' + 1) < (underOf t i').length := by omega
      refine ⟨(underOf t i')[j - (i' + 1)], List.getElem_mem hn, ?_⟩
      rw [under_get hi hn, ← g4]
      unfold key
      rw [getD_lt t hd.2.1]
      congr 2
      omega
theorem Dn.trans {t : List TRow} {i j m : Nat} (h : Dn t i j) (k : Dn t j m) : Dn t i m :=
  ⟨Nat.lt_trans h.1 k.1, k.2.1, fun q h1 h2 => by
    by_cases hq : q ≤ j
    · exact h.2.2 q h1 hq
    · have h3 := k.2.2 q (by omega) h2
      have h4 := h.2.2 j h.1 (Nat.le_refl _)
      omega⟩
theorem parI_some {t : List TRow} {d : Int} : ∀ {n p : Nat}, parI t d n = some p → p < n ∧ dd t p < d ∧ ∀ q, p < q → q < n → d ≤ dd t q
  | 0, p, h => by simp [parI] at h
  | n + 1, p, h => by
    simp only [parI] at h
    split at h
    · rename_i hlt
      simp only [Option.some.injEq] at h
      subst h
      exact ⟨by omega, hlt, fun q h1 h2 => absurd h1 (by omega)⟩
    · rename_i hge
      obtain ⟨h1, h2, h3⟩ := parI_some h
      refine ⟨by omega, h2, fun q h4 h5 => ?_⟩
      by_cases hq : q = n
      · subst hq; omega
      · exact h3 q h4 (by omega)
theorem parI_none {t : List TRow} {d : Int} : ∀ {n : Nat}, parI t d n = none → ∀ q, q < n → d ≤ dd t q
  | 0, h, q, hq => absurd hq (by omega)
  | n + 1, h, q, hq => by
    simp only [parI] at h
    split at h
    · cases h
    · rename_i hge
      by_cases hqn : q = n
      · subst hqn; omega
      · exact parI_none h q (by omega)
theorem par_dn {t : List TRow} {j p : Nat} (hj : j < t.length) (h : parI t (dd t j) j = some p) : Dn t p j := by
  obtain ⟨h1, h2, h3⟩ := parI_some h
  refine ⟨h1, hj, fun m h4 h5 => ?_⟩
  by_cases hm : m = j
  · subst hm; exact h2
  · have := h3 m h4 (by omega); omega
end Trees
namespace Trees
open Kit Ghost

def gr (l : List Act) : List TRow := l.foldl (fun t x => (step t x).1) []
theorem gr_snoc (l : List Act) (x : Act) : gr (l ++ [x]) = (step (gr l) x).1 := by simp [gr]
theorem gr_take (l : List Act) (i : Nat) (hi : i < l.length) : gr (l.take (i + 1)) = (step (gr (l.take i)) l[i]).1 := by
  rw [List.take_succ_eq_append_getElem hi, gr_snoc]
theorem gr_fold_good : ∀ (l : List Act) (t : List TRow), GT t → GT (l.foldl (fun t x => (step t x).1) t)
  | [], t, h => h
  | x :: l, t, h => gr_fold_good l _ (step_good h x)
theorem gr_good (l : List Act) : GT (gr l) := gr_fold_good l [] nil_good
theorem gr_small (l : List Act) : (gr l).length < 1000000 := by have := (gr_good l).len; omega
theorem a0_ (x : Act) : dInt .i64 (encA x) 0 = some x.kind := rfl
theorem a1_ (x : Act) : dInt .i64 (encA x) 1 = some x.a.obj := rfl
theorem a2_ (x : Act) : dInt .i64 (encA x) 2 = some x.a.slot := rfl
theorem a3_ (x : Act) : dInt .i64 (encA x) 3 = some x.b.obj := rfl
theorem a4_ (x : Act) : dInt .i64 (encA x) 4 = some x.b.slot := rfl
theorem a5_ (x : Act) : dBool (encA x) 5 = some x.on := rfl
theorem grown_ok (l : List Act) (hl : l.length < 1000000) : law13_grown.R (l.map encA) = some (enc (gr l), ()) := by
  refine law13_grown.start _ _ ?_
  have key : ∀ m i : Nat, i + m = l.length → law13_grown.H4 (l.map encA) (enc (gr (l.take i))) i (enc (gr l), ()) := by
    intro m
    induction m with
    | zero =>
      intro i hi
      refine law13_grown.H4_step _ _ _ _ ?_
      rw [List.length_map, decide_eq_false (by omega), List.take_of_length_le (by omega)]
      exact rfl
    | succ m ih =>
      intro i hi
      refine law13_grown.H4_step _ _ _ _ ?_
      have hil : i < l.length := by omega
      rw [List.length_map, decide_eq_true (by omega)]
      simp only [cond_true, needs_nat, Int.toNat_natCast, map_get _ _ _ hil, optAll_so, a0_, a1_, a2_, a3_, a4_, a5_]
      rw [does_ok _ _ (gr_small _), wrap_succ (show i < 4611686018427387904 by omega)]
      simp only [optAll_so, rtup]
      rw [← gr_take l i hil]
      exact ih (i + 1) (by omega)
  exact key l.length 0 (by omega)
theorem er_good {t : List TRow} (h : GT t) : tree_Check.R (enc t) = some (0, ()) := by
  rw [check_ok t (by have := h.len; omega), (tOK_iff t).2 h]
  rfl
theorem runs_law (l : List Act) : law13_TreeRuns.R (l.map encA) = some (true, ()) := by
  refine law13_TreeRuns.start _ _ ?_
  rw [List.length_map]
  by_cases h1 : l.length > 60
  · rw [decide_eq_true (by omega)]
    simp only [cond_true, live_ok, optAll_so]
  rw [decide_eq_false (by omega)]
  have key : ∀ m i : Nat, i + m = l.length → law13_TreeRuns.H6 (l.map encA) (enc (gr (l.take i))) (enc (gr (l.take i))) i (true, ()) := by
    intro m
    induction m with
    | zero =>
      intro i hi
      refine law13_TreeRuns.H6_step _ _ _ _ _ ?_
      rw [List.length_map, decide_eq_false (by omega)]
      simp only [cond_false, live_ok, optAll_so]
    | succ m ih =>
      intro i hi
      refine law13_TreeRuns.H6_step _ _ _ _ _ ?_
      have hil : i < l.length := by omega
      rw [List.length_map, decide_eq_true (by omega)]
      simp only [cond_true, needs_nat, Int.toNat_natCast, map_get _ _ _ hil, optAll_so, a0_, a1_, a2_, a3_, a4_, a5_]
      rw [does_ok _ _ (gr_small _), model_ok _ _ (gr_small _), wrap_succ (show i < 4611686018427387904 by omega)]
      simp only [optAll_so, rtup]
      rw [← gr_take l i hil, rsame_ok _ _ (gr_small _) (gr_small _)]
      simp only [optAll_so, decide_true, Bool.not_true, cond_false, bne_self_eq_false]
      rw [er_good (gr_good _)]
      simp only [optAll_so, num_ok, bne_self_eq_false, cond_false]
      exact ih (i + 1) (by omega)
  exact key l.length 0 (by omega)
/-! Order -/
theorem des_self {t : List TRow} (h : GT t) (a : K) : des t a a = false := by
  rw [Bool.eq_false_iff]
  intro hd
  obtain ⟨i, j, h1, h2, h3⟩ := (des_iff h a a).1 hd
  have := h.inj (by have := h1.1; have := h1.2.1; omega) h1.2.1 (h2.trans h3.symm)
  have := h1.1
  omega
theorem des_asym {t : List TRow} (h : GT t) {a b : K} (hd : des t a b = true) : des t b a = false := by
  rw [Bool.eq_false_iff]
  intro hd2
  obtain ⟨i, j, h1, h2, h3⟩ := (des_iff h a b).1 hd
  obtain ⟨i', j', g1, g2, g3⟩ := (des_iff h b a).1 hd2
  have e1 := h.inj (by have := h1.1; have := h1.2.1; omega) g1.2.1 (h2.trans g3.symm)
  have e2 := h.inj h1.2.1 (by have := g1.1; have := g1.2.1; omega) (h3.trans g2.symm)
  have := h1.1
  have := g1.1
  omega
theorem des_trans {t : List TRow} (h : GT t) {a b c : K} (hd : des t a b = true) (hd2 : des t b c = true) : des t a c = true := by
  obtain ⟨i, j, h1, h2, h3⟩ := (des_iff h a b).1 hd
  obtain ⟨i', j', g1, g2, g3⟩ := (des_iff h b c).1 hd2
  obtain rfl := h.inj (by have := h1.1; have := h1.2.1; omega) g1.2.1 (h2.trans g3.symm)
  exact (des_iff h a c).2 ⟨i', j, g1.trans h1, g2, h3⟩
theorem par_none {t : List TRow} (h : GT t) {a : K} (hp : par t a = none) (b : K) : des t a b = false := by
  rw [Bool.eq_false_iff]
  intro hd
  obtain ⟨i, j, h1, h2, h3⟩ := (des_iff h a b).1 hd
  unfold par at hp
  rw [h.fnd h1.2.1 h3, if_neg (by omega), Int.toNat_natCast] at hp
  have := parI_none (by simpa using hp) i h1.1
  have := h1.2.2 j h1.1 (Nat.le_refl _)
  omega
theorem par_some {t : List TRow} (h : GT t) {a : K} {r : TRow} (hp : par t a = some r) : des t a (kk r) = true ∧ ∀ b, des t a b = true → b = kk r ∨ des t (kk r) b = true := by
  unfold par at hp
  rcases fnd_key t a with ⟨h1, _⟩ | ⟨j, hj, h1, h2, _⟩
  · rw [h1, if_pos (by omega)] at hp; cases hp
  · rw [h1, if_neg (by omega), Int.toNat_natCast] at hp
    cases hq : parI t (dd t j) j with
    | none => rw [hq] at hp; cases hp
    | some p =>
      rw [hq] at hp
      simp only [Option.map_some, Option.some.injEq] at hp
      subst hp
      have hd := par_dn hj hq
      obtain ⟨q1, q2, q3⟩ := parI_some hq
      refine ⟨(des_iff h _ _).2 ⟨p, j, hd, rfl, h2⟩, fun b hb => ?_⟩
      obtain ⟨i, j', g1, g2, g3⟩ := (des_iff h a b).1 hb
      obtain rfl := h.inj g1.2.1 hj (g3.trans h2.symm)
      rcases Nat.lt_trichotomy i p with hlt | heq | hgt
      · refine .inr ((des_iff h _ _).2 ⟨i, p, ⟨hlt, by omega, fun m h3 h4 => g1.2.2 m h3 (by omega)⟩, g2, rfl⟩)
      · subst heq; exact .inl g2.symm
      · have := q3 i hgt g1.1
        have := g1.2.2 j' g1.1 (Nat.le_refl _)
        omega
theorem eqP (b : K) (r : TRow) : (b.obj == r.obj && (b.slot == r.slot && true)) = decide (b = kk r) := eqK b (kk r)
theorem desR {t : List TRow} (ht : t.length < 1000000) (a : K) (r : TRow) : tree_Descends.R (enc t) a.obj a.slot r.obj r.slot = some (des t a (kk r), ()) := descends_ok t a (kk r) ht
theorem desL {t : List TRow} (ht : t.length < 1000000) (r : TRow) (b : K) : tree_Descends.R (enc t) r.obj r.slot b.obj b.slot = some (des t (kk r) b, ()) := descends_ok t (kk r) b ht
theorem order_tail {t : List TRow} (h : GT t) (ht : t.length < 1000000) (a b : K) :
    optAll (tree_Parent.R (enc t) a.obj a.slot) fun (c7 : ((Int × (Int × Unit)) × (Bool × Unit))) =>
      cond ((!((c7).2).1)) (
        optAll (tree_Descends.R (enc t) a.obj a.slot b.obj b.slot) fun (c8 : (Bool × Unit)) =>
        cond ((!(c8).1)) (
          optAll (law13_live.R) fun (c9 : (Bool × Unit)) =>
          ((true, ()) : Bool × Unit) = ((c9).1, ())) (
          ((true, ()) : Bool × Unit) = (false, ()))) (
        optAll (tree_Descends.R (enc t) a.obj a.slot ((c7).1).1 (((c7).1).2).1) fun (c10 : (Bool × Unit)) =>
        cond ((c10).1) (
          optAll (tree_Descends.R (enc t) a.obj a.slot b.obj b.slot) fun (c11 : (Bool × Unit)) =>
          cond ((!(c11).1)) (
            optAll (law13_live.R) fun (c12 : (Bool × Unit)) =>
            ((true, ()) : Bool × Unit) = ((c12).1, ())) (
            cond (((b.obj == ((c7).1).1) && ((b.slot == (((c7).1).2).1) && true))) (
              optAll (law13_live.R) fun (c13 : (Bool × Unit)) =>
              ((true, ()) : Bool × Unit) = ((c13).1, ())) (
              optAll (tree_Descends.R (enc t) ((c7).1).1 (((c7).1).2).1 b.obj b.slot) fun (c14 : (Bool × Unit)) =>
              cond ((c14).1) (
                optAll (law13_live.R) fun (c15 : (Bool × Unit)) =>
                ((true, ()) : Bool × Unit) = ((c15).1, ())) (
                ((true, ()) : Bool × Unit) = (false, ()))))) (
          ((true, ()) : Bool × Unit) = (false, ()))) := by
  rw [parent_ok t a ht]
  simp only [optAll_so]
  cases hp : par t a with
  | none =>
    simp only [ptup, Bool.not_false, cond_true]
    rw [descends_ok t a b ht, par_none h hp b]
    simp only [optAll_so, Bool.not_false, cond_true, live_ok]
  | some r =>
    obtain ⟨h1, h2⟩ := par_some h hp
    simp only [ptup, Bool.not_true, cond_false]
    rw [desR ht a r, h1]
    simp only [optAll_so, cond_true]
    rw [descends_ok t a b ht]
    simp only [optAll_so, eqP]
    cases hb : des t a b with
    | false => simp only [Bool.not_false, cond_true, live_ok, optAll_so]
    | true =>
      simp only [Bool.not_true, cond_false]
      rcases h2 b hb with e | e
      · rw [decide_eq_true e]
        simp only [cond_true, live_ok, optAll_so]
      · cases hd : decide (b = kk r) with
        | true => simp only [cond_true, live_ok, optAll_so]
        | false =>
          simp only [cond_false]
          rw [desL ht r b, e]
          simp only [optAll_so, cond_true, live_ok]
theorem order_law (l : List Act) (a b c : K) : law13_TreeOrder.R (l.map encA) a.obj a.slot b.obj b.slot c.obj c.slot = some (true, ()) := by
  refine law13_TreeOrder.start _ _ _ _ _ _ _ _ ?_
  rw [List.length_map]
  by_cases h1 : l.length > 60
  · rw [decide_eq_true (by omega)]
    simp only [cond_true, live_ok, optAll_so]
  rw [decide_eq_false (by omega), grown_ok l (by omega)]
  simp only [cond_false, optAll_so]
  have h := gr_good l
  have ht := gr_small l
  have tl := order_tail h ht a b
  rw [descends_ok _ a a ht, des_self h a]
  simp only [optAll_so, cond_false]
  rw [descends_ok _ a b ht] at tl ⊢
  simp only [optAll_so] at tl ⊢
  cases hab : des (gr l) a b with
  | false => rw [hab] at tl; exact tl
  | true =>
    rw [hab] at tl
    simp only [cond_true]
    rw [descends_ok _ b a ht, des_asym h hab]
    simp only [optAll_so, cond_false]
    rw [descends_ok _ b c ht]
    simp only [optAll_so]
    cases hbc : des (gr l) b c with
    | false => exact tl
    | true =>
      simp only [cond_true]
      rw [descends_ok _ a c ht, des_trans h hab hbc]
      simp only [optAll_so, Bool.not_true, cond_false]
      exact tl
/-! Moves -/
theorem des_same {t u : List TRow} (h : GT t) (hu : GT u) (hl : u.length = t.length) (hk : ∀ j, key u j = key t j) (hd : ∀ j, dd u j = dd t j) (a b : K) : des u a b = des t a b := by
  rw [Bool.eq_iff_iff, des_iff hu, des_iff h]
  have hdn : ∀ i j, Dn u i j ↔ Dn t i j := fun i j => by unfold Dn; simp only [hl, hd]
  simp only [hdn, hk]
theorem mark_des {t : List TRow} (h : GT t) {k : K} {on : Bool} (he : (sMark t k on).2 = 0) (a b : K) : des (sMark t k on).1 a b = des t a b := by
  revert he
  unfold sMark
  split
  · split
    · intro he; cases he
    · rename_i hf
      intro _
      rcases fnd_key t k with ⟨h1, _⟩ | ⟨i, hi, h1, h2, _⟩
      · omega
      · rw [h1, Int.toNat_natCast]
        refine des_same h ?_ (by simp) (fun j => ?_) (fun j => ?_) a b
        · exact set_good h hi (h.at_ i hi).ok (fun j hj hne e => hne (h.inj hj hi e)) rfl
        · unfold key; rw [set_get t i _ hi]; split
          · rename_i e; subst e; rfl
          · rfl
        · unfold dd; rw [set_get t i _ hi]; split
          · rename_i e; subst e; rfl
          · rfl
  · intro he; cases he
def sub (f k x : K) : K := if x = f then k else x
theorem move_facts {t : List TRow} (h : GT t) {f k : K} (he : (sMove t f k).2 = 0) : GT (sMove t f k).1 ∧ fnd (sMove t f k).1 f = -1 ∧ (sMove t f k).1.length = t.length ∧ ∀ a b, a ≠ k → b ≠ k → des (sMove t f k).1 (sub f k a) (sub f k b) = des t a b := by
  revert he
  unfold sMove
  split
  · rename_i hc
    split
    · intro he; cases he
    · rename_i hf
      split
      · intro he; cases he
      · rename_i hk
        intro _
        rcases fnd_key t f with ⟨h1, _⟩ | ⟨i, hi, h1, h2, _⟩
        · omega
        · rcases fnd_key t k with ⟨_, g2⟩ | ⟨j, _, g1, _⟩
          · rw [h1, Int.toNat_natCast]
            have hu := set_good h hi (r := ⟨k.obj, k.slot, dd t i, (t.getD i dr).mark⟩) hc.2.2 (fun j hj _ => g2 j hj) rfl
            have hkey : ∀ j, key (t.set i ⟨k.obj, k.slot, dd t i, (t.getD i dr).mark⟩) j = if j = i then k else key t j := fun j => by
              unfold key; rw [set_get t i _ hi]; split <;> rfl
            have hdd : ∀ j, dd (t.set i ⟨k.obj, k.slot, dd t i, (t.getD i dr).mark⟩) j = dd t j := fun j => by
              unfold dd; rw [set_get t i _ hi]; split
              · rename_i e; subst e; rfl
              · rfl
            have hlen : (t.set i ⟨k.obj, k.slot, dd t i, (t.getD i dr).mark⟩).length = t.length := List.length_set
            have hsub : ∀ j, j < t.length → key (t.set i ⟨k.obj, k.slot, dd t i, (t.getD i dr).mark⟩) j = sub f k (key t j) := fun j hj => by
              rw [hkey]
              unfold sub
              by_cases e : j = i
              · subst e; rw [if_pos rfl, if_pos h2]
              · rw [if_neg e, if_neg (fun e2 => e (h.inj hj hi (e2.trans h2.symm)))]
            have hfk : f ≠ k := fun e => g2 i hi (h2.trans e)
            refine ⟨hu, ?_, hlen, fun a b ha hb => ?_⟩
            · rcases fnd_key (t.set i ⟨k.obj, k.slot, dd t i, (t.getD i dr).mark⟩) f with ⟨q1, _⟩ | ⟨j, hj, _, q2, _⟩
              · exact q1
              · rw [hlen] at hj
                rw [hsub j hj] at q2
                unfold sub at q2
                split at q2
                · exact absurd q2.symm hfk
                · rename_i e; exact absurd q2 e
            · rw [Bool.eq_iff_iff, des_iff hu, des_iff h]
              have hinj : ∀ j x, j < t.length → x ≠ k → (sub f k (key t j) = sub f k x ↔ key t j = x) := fun j x hj hx => by
                unfold sub
                constructor
                · intro e
                  by_cases e1 : key t j = f
                  · rw [if_pos e1] at e
                    by_cases e2 : x = f
                    · rw [e1, e2]
                    · rw [if_neg e2] at e; exact absurd e.symm hx
                  · rw [if_neg e1] at e
                    by_cases e2 : x = f
                    · rw [if_pos e2] at e; exact absurd e (g2 j hj)
                    · rw [if_neg e2] at e; exact e
                · intro e; rw [e]
              have hdn : ∀ i' j, Dn (t.set i ⟨k.obj, k.slot, dd t i, (t.getD i dr).mark⟩) i' j ↔ Dn t i' j := fun i' j => by unfold Dn; simp only [hlen, hdd]
              constructor
              · rintro ⟨i', j, q1, q2, q3⟩
                rw [hdn] at q1
                have hj := q1.2.1
                have hi' : i' < t.length := by have := q1.1; omega
                rw [hsub i' hi'] at q2
                rw [hsub j hj] at q3
                exact ⟨i', j, q1, (hinj i' b hi' hb).1 q2, (hinj j a hj ha).1 q3⟩
              · rintro ⟨i', j, q1, q2, q3⟩
                have hj := q1.2.1
                have hi' : i' < t.length := by have := q1.1; omega
                exact ⟨i', j, (hdn i' j).2 q1, by rw [hsub i' hi', q2], by rw [hsub j hj, q3]⟩
          · omega
  · intro he; cases he
theorem move_tail {t : List TRow} (h : GT t) (f k a b : K) :
    optAll (law13_num.R (sMove t f k).2) fun (c7 : (Int × Unit)) =>
      cond (((c7).1 != (0 : Int))) (
        optAll (law13_live.R) fun (c8 : (Bool × Unit)) =>
        ((true, ()) : Bool × Unit) = ((c8).1, ())) (
        cond (((a.obj == k.obj) && ((a.slot == k.slot) && true))) (
          optAll (law13_live.R) fun (c9 : (Bool × Unit)) =>
          ((true, ()) : Bool × Unit) = ((c9).1, ())) (
          cond (((b.obj == k.obj) && ((b.slot == k.slot) && true))) (
            optAll (law13_live.R) fun (c10 : (Bool × Unit)) =>
            ((true, ()) : Bool × Unit) = ((c10).1, ())) (
            cond (((a.obj == f.obj) && ((a.slot == f.slot) && true))) (
              cond (((b.obj == f.obj) && ((b.slot == f.slot) && true))) (
                optAll (tree_Find.R (enc (sMove t f k).1) f.obj f.slot) fun (c11 : (Int × (Bool × Unit))) =>
                cond ((!((c11).2).1)) (
                  optAll (tree_Descends.R (enc (sMove t f k).1) k.obj k.slot k.obj k.slot) fun (c12 : (Bool × Unit)) =>
                  optAll (tree_Descends.R (enc t) a.obj a.slot b.obj b.slot) fun (c13 : (Bool × Unit)) =>
                  cond (((c12).1 == (c13).1)) (
                    cond (((((enc (sMove t f k).1).length : Nat) : Int) == (((enc t).length : Nat) : Int))) (
                      optAll (law13_live.R) fun (c14 : (Bool × Unit)) =>
                      ((true, ()) : Bool × Unit) = ((c14).1, ())) (
                      ((true, ()) : Bool × Unit) = (false, ()))) (
                    ((true, ()) : Bool × Unit) = (false, ()))) (
                  ((true, ()) : Bool × Unit) = (false, ()))) (
                optAll (tree_Find.R (enc (sMove t f k).1) f.obj f.slot) fun (c15 : (Int × (Bool × Unit))) =>
                cond ((!((c15).2).1)) (
                  optAll (tree_Descends.R (enc (sMove t f k).1) k.obj k.slot b.obj b.slot) fun (c16 : (Bool × Unit)) =>
                  optAll (tree_Descends.R (enc t) a.obj a.slot b.obj b.slot) fun (c17 : (Bool × Unit)) =>
                  cond (((c16).1 == (c17).1)) (
                    cond (((((enc (sMove t f k).1).length : Nat) : Int) == (((enc t).length : Nat) : Int))) (
                      optAll (law13_live.R) fun (c18 : (Bool × Unit)) =>
                      ((true, ()) : Bool × Unit) = ((c18).1, ())) (
                      ((true, ()) : Bool × Unit) = (false, ()))) (
                    ((true, ()) : Bool × Unit) = (false, ()))) (
                  ((true, ()) : Bool × Unit) = (false, ())))) (
              cond (((b.obj == f.obj) && ((b.slot == f.slot) && true))) (
                optAll (tree_Find.R (enc (sMove t f k).1) f.obj f.slot) fun (c19 : (Int × (Bool × Unit))) =>
                cond ((!((c19).2).1)) (
                  optAll (tree_Descends.R (enc (sMove t f k).1) a.obj a.slot k.obj k.slot) fun (c20 : (Bool × Unit)) =>
                  optAll (tree_Descends.R (enc t) a.obj a.slot b.obj b.slot) fun (c21 : (Bool × Unit)) =>
                  cond (((c20).1 == (c21).1)) (
                    cond (((((enc (sMove t f k).1).length : Nat) : Int) == (((enc t).length : Nat) : Int))) (
                      optAll (law13_live.R) fun (c22 : (Bool × Unit)) =>
                      ((true, ()) : Bool × Unit) = ((c22).1, ())) (
                      ((true, ()) : Bool × Unit) = (false, ()))) (
                    ((true, ()) : Bool × Unit) = (false, ()))) (
                  ((true, ()) : Bool × Unit) = (false, ()))) (
                optAll (tree_Find.R (enc (sMove t f k).1) f.obj f.slot) fun (c23 : (Int × (Bool × Unit))) =>
                cond ((!((c23).2).1)) (
                  optAll (tree_Descends.R (enc (sMove t f k).1) a.obj a.slot b.obj b.slot) fun (c24 : (Bool × Unit)) =>
                  optAll (tree_Descends.R (enc t) a.obj a.slot b.obj b.slot) fun (c25 : (Bool × Unit)) =>
                  cond (((c24).1 == (c25).1)) (
                    cond (((((enc (sMove t f k).1).length : Nat) : Int) == (((enc t).length : Nat) : Int))) (
                      optAll (law13_live.R) fun (c26 : (Bool × Unit)) =>
                      ((true, ()) : Bool × Unit) = ((c26).1, ())) (
                      ((true, ()) : Bool × Unit) = (false, ()))) (
                    ((true, ()) : Bool × Unit) = (false, ()))) (
                  ((true, ()) : Bool × Unit) = (false, ()))))))) := by
  have ht : t.length < 1000000 := by have := h.len; omega
  rw [num_ok]
  simp only [optAll_so, eqK]
  by_cases he : (sMove t f k).2 = 0
  · rw [show (((sMove t f k).2 != 0) : Bool) = false by simp [he]]
    simp only [cond_false]
    obtain ⟨m1, m2, m3, m4⟩ := move_facts h he
    have hu : (sMove t f k).1.length < 1000000 := by omega
    by_cases ha : a = k
    · rw [decide_eq_true ha]
      simp only [cond_true, live_ok, optAll_so]
    by_cases hb : b = k
    · rw [decide_eq_false ha, decide_eq_true hb]
      simp only [cond_true, cond_false, live_ok, optAll_so]
    rw [decide_eq_false ha, decide_eq_false hb]
    simp only [cond_false]
    have hm := m4 a b ha hb
    have hfind := find_ok (sMove t f k).1 f hu
    rw [m2, ftup_neg] at hfind
    rw [hfind, descends_ok t a b ht]
    simp only [optAll_so, Bool.not_false, cond_true, enc_len, m3, beq_self_eq_true, live_ok]
    unfold sub at hm
    by_cases ea : a = f
    · rw [decide_eq_true ea]
      rw [if_pos ea] at hm
      by_cases eb : b = f
      · rw [decide_eq_true eb]
        rw [if_pos eb] at hm
        simp only [cond_true]
        rw [descends_ok _ k k hu, hm]
        simp only [optAll_so, beq_self_eq_true, cond_true]
      · rw [decide_eq_false eb]
        rw [if_neg eb] at hm
        simp only [cond_true, cond_false]
        rw [descends_ok _ k b hu, hm]
        simp only [optAll_so, beq_self_eq_true, cond_true]
    · rw [decide_eq_false ea]
      rw [if_neg ea] at hm
      by_cases eb : b = f
      · rw [decide_eq_true eb]
        rw [if_pos eb] at hm
        simp only [cond_true, cond_false]
        rw [descends_ok _ a k hu, hm]
        simp only [optAll_so, beq_self_eq_true, cond_true]
      · rw [decide_eq_false eb]
        rw [if_neg eb] at hm
        simp only [cond_false]
        rw [descends_ok _ a b hu, hm]
        simp only [optAll_so, beq_self_eq_true, cond_true]
  · rw [show (((sMove t f k).2 != 0) : Bool) = true by simp [he]]
    simp only [cond_true, live_ok, optAll_so]
theorem sMark_len (t : List TRow) (k : K) (on : Bool) : (sMark t k on).1.length = t.length := by
  unfold sMark
  split
  · split <;> simp
  · rfl
theorem moves_law (l : List Act) (f k a b : K) : law13_TreeMoves.R (l.map encA) f.obj f.slot k.obj k.slot a.obj a.slot b.obj b.slot = some (true, ()) := by
  refine law13_TreeMoves.start _ _ _ _ _ _ _ _ _ _ ?_
  rw [List.length_map]
  by_cases h1 : l.length > 60
  · rw [decide_eq_true (by omega)]
    simp only [cond_true, live_ok, optAll_so]
  rw [decide_eq_false (by omega), grown_ok l (by omega)]
  simp only [cond_false, optAll_so]
  have h := gr_good l
  have ht := gr_small l
  rw [move_ok _ f k ht]
  simp only [optAll_so, rtup]
  rw [mark_ok _ a true ht]
  simp only [optAll_so, rtup, num_ok]
  by_cases he : (sMark (gr l) a true).2 = 0
  · rw [show (((sMark (gr l) a true).2 == 0) : Bool) = true by simp [he]]
    simp only [cond_true]
    rw [descends_ok _ a b (by rw [sMark_len]; exact ht), mark_des h he]
    simp only [optAll_so]
    rw [descends_ok _ a b ht]
    simp only [optAll_so, beq_self_eq_true, Bool.not_true, cond_false]
    have := move_tail h f k a b
    rw [num_ok] at this
    rw [descends_ok _ a b ht] at this
    exact this
  · rw [show (((sMark (gr l) a true).2 == 0) : Bool) = false by simp [he]]
    have := move_tail h f k a b
    rw [num_ok] at this
    exact this
/-! Back -/
structure Ins (t : List TRow) (f k : K) (i : Nat) : Prop where
  lt : i < t.length
  at_ : key t i = f
  off : ∀ j, j < t.length → key t j ≠ k
  ok : kOK k = true
  room : t.length < 512
  is_ : sInsert t f k = (putAt t (i + 1) ⟨k.obj, k.slot, dd t i + 1, false⟩, 0)
theorem ins_facts {t : List TRow} {f k : K} (he : (sInsert t f k).2 = 0) : ∃ i, Ins t f k i := by
  revert he
  unfold sInsert
  split
  · rename_i hc
    split
    · intro he; cases he
    · rename_i hf
      split
      · intro he; cases he
      · rename_i hk
        split
        · intro he; cases he
        · rename_i hl
          intro _
          rcases fnd_key t f with ⟨h1, _⟩ | ⟨i, hi, h1, h2, _⟩
          · omega
          · rcases fnd_key t k with ⟨_, g2⟩ | ⟨j, _, g1, _⟩
            · refine ⟨i, hi, h2, g2, hc.2.2, by omega, ?_⟩
              unfold sInsert
              rw [if_pos hc, if_neg hf, if_neg hk, if_neg hl, h1, Int.toNat_natCast]
            · omega
  · intro he; cases he
theorem ins_same {t : List TRow} {f k : K} (he : (sInsert t f k).2 ≠ 0) : (sInsert t f k).1 = t := by
  revert he
  unfold sInsert
  split
  · split
    · intro _; rfl
    · split
      · intro _; rfl
      · split
        · intro _; rfl
        · intro h; exact absurd rfl h
  · intro _; rfl
theorem out_put (t : List TRow) (i : Nat) (r : TRow) (hi : i ≤ t.length) : outAt (putAt t i r) i = t := by
  unfold outAt putAt
  have e : (t.take i).length = i := by simp; omega
  rw [List.append_assoc, List.take_append_of_le_length (by omega), List.take_of_length_le (by omega)]
  have e2 : i + 1 = (t.take i ++ [r]).length := by simp; omega
  rw [← List.append_assoc, e2, List.drop_left, List.take_append_drop]
structure Put (t : List TRow) (f k : K) (i : Nat) (u : List TRow) : Prop where
  good : GT u
  len : u.length = t.length + 1
  key : ∀ j, key u j = if j < i + 1 then key t j else if j = i + 1 then k else key t (j - 1)
  dd : ∀ j, dd u j = if j < i + 1 then dd t j else if j = i + 1 then dd t i + 1 else dd t (j - 1)
  none : ∀ j, ¬ Dn u (i + 1) j
theorem put_facts {t : List TRow} (h : GT t) {f k : K} {i : Nat} (q : Ins t f k i) : Put t f k i (putAt t (i + 1) ⟨k.obj, k.slot, dd t i + 1, false⟩) := by
  have hl := q.lt
  have hg := put_get t (i + 1) ⟨k.obj, k.slot, dd t i + 1, false⟩ (by omega)
  have hlen := put_len t (i + 1) ⟨k.obj, k.slot, dd t i + 1, false⟩ (by omega)
  have hdd : ∀ j, dd (putAt t (i + 1) ⟨k.obj, k.slot, dd t i + 1, false⟩) j = if j < i + 1 then dd t j else if j = i + 1 then dd t i + 1 else dd t (j - 1) := fun j => by
    rw [show dd (putAt t (i + 1) ⟨k.obj, k.slot, dd t i + 1, false⟩) j = ((putAt t (i + 1) ⟨k.obj, k.slot, dd t i + 1, false⟩).getD j dr).depth from rfl, hg]; split
    · rfl
    · split <;> rfl
  refine ⟨?_, hlen, fun j => ?_, hdd, fun j hj => ?_⟩
  · refine put_good h (by omega) (by have := q.room; omega) q.ok q.off ?_ (by simp only [lim]; exact Int.le_refl _) (fun hlt => ?_)
    · show 0 ≤ dd t i + 1
      have := (h.at_ i hl).nn
      omega
    · show dd t (i + 1) ≤ dd t i + 1 + 1
      have := (h.at_ (i + 1) hlt).le
      simp only [lim] at this
      omega
  · unfold key; rw [hg]; split
    · rfl
    · split <;> rfl
  · have h1 := hj.1
    have h2 := hj.2.1
    have h3 := hj.2.2 (i + 2) (by omega) (by omega)
    rw [hdd, hdd, if_neg (by omega), if_pos rfl, if_neg (by omega), if_neg (by omega)] at h3
    rw [hlen] at h2
    have h4 := (h.at_ (i + 1) (by omega)).le
    simp only [lim] at h4
    rw [show i + 2 - 1 = i + 1 by omega] at h3
    omega
theorem put_par {t u : List TRow} {f k : K} {i : Nat} (q : Ins t f k i) (p : Put t f k i u) : ∃ r, par u k = some r ∧ kk r = f := by
  have hlt : i + 1 < u.length := by rw [p.len]; have := q.lt; omega
  have hf := p.good.fnd hlt (k := k) (by rw [p.key, if_neg (by omega), if_pos rfl])
  have e1 : dd u (i + 1) = dd t i + 1 := by rw [p.dd, if_neg (by omega), if_pos rfl]
  have e2 : dd u i = dd t i := by rw [p.dd, if_pos (by omega)]
  refine ⟨u.getD i dr, ?_, ?_⟩
  · unfold par
    rw [hf, if_neg (by omega), Int.toNat_natCast]
    simp only [parI]
    rw [if_pos (by omega)]
    rfl
  · show key u i = f
    rw [p.key, if_pos (by omega)]
    exact q.at_
theorem put_rem {t : List TRow} {f k : K} {i : Nat} (q : Ins t f k i) (p : Put t f k i (putAt t (i + 1) ⟨k.obj, k.slot, dd t i + 1, false⟩)) : sRemove (putAt t (i + 1) ⟨k.obj, k.slot, dd t i + 1, false⟩) k = (t, 0) := by
  have hlt : i + 1 < (putAt t (i + 1) ⟨k.obj, k.slot, dd t i + 1, false⟩).length := by rw [p.len]; have := q.lt; omega
  have hf := p.good.fnd hlt (k := k) (by rw [p.key, if_neg (by omega), if_pos rfl])
  have h0 : (underOf (putAt t (i + 1) ⟨k.obj, k.slot, dd t i + 1, false⟩) (i + 1)).length = 0 := by
    rcases Nat.eq_zero_or_pos (underOf (putAt t (i + 1) ⟨k.obj, k.slot, dd t i + 1, false⟩) (i + 1)).length with h | h
    · exact h
    · exact absurd ((under_iff hlt).1 ⟨Nat.lt_succ_self (i + 1), by omega⟩) (p.none _)
  unfold sRemove
  rw [if_pos ⟨(tOK_iff _).2 p.good, q.ok⟩, hf, if_neg (by omega), Int.toNat_natCast, if_pos h0, out_put _ _ _ (by have := q.lt; omega)]
theorem put_below {t u : List TRow} {f k : K} {i : Nat} (q : Ins t f k i) (p : Put t f k i u) (o : K) : des u o k = false := by
  rw [Bool.eq_false_iff]
  intro hd
  obtain ⟨a, b, h1, h2, _⟩ := (des_iff p.good o k).1 hd
  have hlt : i + 1 < u.length := by rw [p.len]; have := q.lt; omega
  obtain rfl := p.good.inj (by have := h1.1; have := h1.2.1; omega) hlt (h2.trans (by rw [p.key, if_neg (by omega), if_pos rfl] : k = key u (i + 1)))
  exact p.none _ h1
theorem put_above {t u : List TRow} (h : GT t) {f k : K} {i : Nat} (q : Ins t f k i) (p : Put t f k i u) (o : K) (ho : ∃ j, j < t.length ∧ key t j = o) : des u k o = if o = f then true else des t f o := by
  have hlt : i + 1 < u.length := by rw [p.len]; have := q.lt; omega
  have hk : key u (i + 1) = k := by rw [p.key, if_neg (by omega), if_pos rfl]
  have e1 : dd u (i + 1) = dd t i + 1 := by rw [p.dd, if_neg (by omega), if_pos rfl]
  have e2 : ∀ j, j < i + 1 → dd u j = dd t j := fun j hj => by rw [p.dd, if_pos hj]
  have e3 : ∀ j, j < i + 1 → key u j = key t j := fun j hj => by rw [p.key, if_pos hj]
  rw [Bool.eq_iff_iff, des_iff p.good]
  constructor
  · rintro ⟨a, b, h1, h2, h3⟩
    obtain rfl := p.good.inj h1.2.1 hlt (h3.trans hk.symm)
    have ha := h1.1
    rw [e3 a ha] at h2
    split
    · rfl
    · rename_i hne
      have hai : a ≠ i := fun e => by subst e; exact hne (h2.symm.trans q.at_)
      refine (des_iff h f o).2 ⟨a, i, ⟨by omega, q.lt, fun m h4 h5 => ?_⟩, h2, q.at_⟩
      have := h1.2.2 m h4 (by omega)
      rw [e2 a ha, e2 m (by omega)] at this
      exact this
  · intro hd
    split at hd
    · rename_i he
      refine ⟨i, i + 1, ⟨by omega, hlt, fun m h4 h5 => ?_⟩, by rw [e3 i (by omega), q.at_, he], hk⟩
      obtain rfl : m = i + 1 := by omega
      rw [e2 i (by omega), e1]
      omega
    · obtain ⟨a, b, h1, h2, h3⟩ := (des_iff h f o).1 hd
      obtain rfl := h.inj h1.2.1 q.lt (h3.trans q.at_.symm)
      have ha := h1.1
      refine ⟨a, b + 1, ⟨by omega, hlt, fun m h4 h5 => ?_⟩, by rw [e3 a (by omega), h2], hk⟩
      rw [e2 a (by omega)]
      by_cases hm : m = b + 1
      · subst hm
        rw [e1]
        have := h1.2.2 b ha (Nat.le_refl _)
        omega
      · rw [e2 m (by omega)]
        exact h1.2.2 m h4 (by omega)
theorem eqKK (a b : K) : (a.obj == b.obj && (a.slot == b.slot && true)) = decide (a = b) := eqK a b
theorem back_law (l : List Act) (f k o : K) : law13_TreeBack.R (l.map encA) f.obj f.slot k.obj k.slot o.obj o.slot = some (true, ()) := by
  refine law13_TreeBack.start _ _ _ _ _ _ _ _ ?_
  rw [List.length_map]
  by_cases h1 : l.length > 60
  · rw [decide_eq_true (by omega)]
    simp only [cond_true, live_ok, optAll_so]
  rw [decide_eq_false (by omega), grown_ok l (by omega)]
  simp only [cond_false, optAll_so]
  have h := gr_good l
  have ht := gr_small l
  rw [insert_ok _ f k ht]
  simp only [optAll_so, rtup, num_ok]
  by_cases he : (sInsert (gr l) f k).2 = 0
  · obtain ⟨i, q⟩ := ins_facts he
    have p := put_facts h q
    rw [q.is_]
    simp only [bne_self_eq_false, cond_false]
    generalize hu : putAt (gr l) (i + 1) ⟨k.obj, k.slot, dd (gr l) i + 1, false⟩ = u
    have pr := put_rem q p
    rw [hu] at p pr
    have hul : u.length < 1000000 := by rw [p.len]; have := q.room; omega
    obtain ⟨r, r1, r2⟩ := put_par q p
    rw [parent_ok _ k hul, r1, remove_ok _ k hul, pr]
    simp only [optAll_so, rtup, ptup, Bool.not_true, cond_false]
    rw [show (r.obj == f.obj && (r.slot == f.slot && true)) = decide (kk r = f) from eqK (kk r) f, decide_eq_true r2]
    simp only [Bool.not_true, cond_false, bne_self_eq_false]
    rw [same_ok _ _ ht ht]
    simp only [optAll_so, decide_true, Bool.not_true, cond_false, enc_len]
    rw [p.len, wrap_succ (by omega)]
    simp only [bne_self_eq_false, cond_false]
    rw [find_ok _ o ht]
    simp only [optAll_so]
    rcases fnd_key (gr l) o with ⟨g1, _⟩ | ⟨j, hj, g1, g2, _⟩
    · rw [g1, ftup_neg]
      simp only [cond_false, live_ok, optAll_so]
    · rw [g1, ftup_nat]
      simp only [cond_true]
      have hab := put_above h q p o ⟨j, hj, g2⟩
      have hbe := put_below q p o
      rw [descends_ok _ k o hul, hab]
      simp only [optAll_so, eqKK]
      by_cases ho : o = f
      · rw [if_pos ho, decide_eq_true ho]
        simp only [cond_true, beq_self_eq_true, Bool.not_true, cond_false]
        rw [descends_ok _ o k hul, hbe]
        simp only [optAll_so, cond_false, live_ok]
      · rw [if_neg ho, decide_eq_false ho]
        simp only [cond_false]
        rw [descends_ok _ f o ht]
        simp only [optAll_so, beq_self_eq_true, Bool.not_true, cond_false]
        rw [descends_ok _ o k hul, hbe]
        simp only [optAll_so, cond_false, live_ok]
  · rw [show (((sInsert (gr l) f k).2 != 0) : Bool) = true by simp [he], ins_same he]
    simp only [cond_true]
    rw [same_ok _ _ ht ht]
    simp only [optAll_so, decide_true, cond_true, live_ok]
/-! Counts -/
def chi (t : List TRow) (a j : Nat) : Prop := parI t (dd t j) j = some a
structure Cnt (t : List TRow) (a q kids sum : Nat) : Prop where
  few : kids ≤ q
  ex : ∃ c, (q ≤ c ∨ a + 1 + (underOf t a).length ≤ c) ∧ c ≤ a + 1 + (underOf t a).length ∧ a + 1 ≤ c ∧ sum = c - (a + 1) ∧ (kids = 0 ↔ c = a + 1) ∧ (c = a + 1 ∨ ∃ p, p < q ∧ chi t a p ∧ c = p + 1 + (underOf t p).length)
theorem chi_lt {t : List TRow} {a j : Nat} (h : chi t a j) : a < j := (parI_some h).1
theorem chi_in {t : List TRow} {a j : Nat} (hj : j < t.length) (h : chi t a j) : Dn t a j := par_dn hj h
theorem cnt_kid {t : List TRow} {a q kids sum : Nat} (ha : a < t.length) (hq : q < t.length) (h : Cnt t a q kids sum) (hc : chi t a q) : Cnt t a (q + 1) (kids + 1) (sum + 1 + (underOf t q).length) := by
  obtain ⟨c, h1, h2, h3, h4, h5, h6⟩ := h.ex
  have hd := chi_in hq hc
  have hE := (under_iff ha).2 hd
  obtain ⟨c1, c2, c3⟩ := parI_some hc
  have hqc : q = c := by
    rcases Nat.lt_or_ge q c with hlt | hge
    · exfalso
      rcases h6 with h6 | ⟨p, p1, p2, p3⟩
      · omega
      · have hp := (under_iff (t := t) (i := p) (j := q) (by omega)).1 ⟨p1, by omega⟩
        have e1 := c3 p (chi_lt p2) p1
        have e2 := hp.2.2 q p1 (Nat.le_refl _)
        omega
    · rcases h1 with h1 | h1 <;> omega
  have hin : q + 1 + (underOf t q).length ≤ a + 1 + (underOf t a).length := by
    rcases Nat.eq_zero_or_pos (underOf t q).length with h0 | h0
    · omega
    · have hd2 := (under_iff hq).1 (⟨by omega, by omega⟩ : q < q + (underOf t q).length ∧ q + (underOf t q).length < q + 1 + (underOf t q).length)
      have := (under_iff ha).2 (hd.trans hd2)
      omega
  have hfew := h.few
  clear h6 h
  refine ⟨by omega, q + 1 + (underOf t q).length, .inl (by omega), hin, by omega, by omega, by omega, .inr ⟨q, by omega, hc, rfl⟩⟩
theorem cnt_skip {t : List TRow} (hg : GT t) {a q kids sum : Nat} (ha : a < t.length) (hq : q < t.length) (h : Cnt t a q kids sum) (hc : ¬ chi t a q) : Cnt t a (q + 1) kids sum := by
  obtain ⟨c, h1, h2, h3, h4, h5, h6⟩ := h.ex
  refine ⟨by have := h.few; omega, c, ?_, h2, h3, h4, h5, h6.imp id fun ⟨p, p1, p2, p3⟩ => ⟨p, by omega, p2, p3⟩⟩
  rcases h1 with h1 | h1
  · rcases Nat.lt_or_ge q c with hlt | hge
    · exact .inl (by omega)
    · rcases Nat.lt_or_ge c (a + 1 + (underOf t a).length) with hlt2 | hge2
      · exfalso
        have hqc : q = c := by omega
        have hd := (under_iff ha).1 (⟨by omega, by omega⟩ : a < q ∧ q < a + 1 + (underOf t a).length)
        apply hc
        -- nothing between a and q is higher
        have hbt : ∀ r, a < r → r < q → dd t q ≤ dd t r := by
          intro r r1 r2
          rcases h6 with h6 | ⟨p, p1, p2, p3⟩
          · omega
          · obtain ⟨_, _, g3⟩ := parI_some p2
            have hpl : p < t.length := by omega
            obtain ⟨_, u2, u3, _⟩ := under_spec hpl
            have hqp : dd t q ≤ dd t p := by
              rcases u3 with u3 | u3
              · omega
              · rw [← p3, ← hqc] at u3; exact u3
            rcases Nat.lt_trichotomy r p with hlt | heq | hgt
            · have := g3 r r1 hlt; omega
            · subst heq; exact hqp
            · have := u2 r hgt (by omega); omega
        have key : ∀ n, a < n → n ≤ q → parI t (dd t q) n = some a := by
          intro n
          induction n with
          | zero => intro h _; omega
          | succ n ih =>
            intro hn hn2
            simp only [parI]
            by_cases hna : n = a
            · subst hna
              rw [if_pos (hd.2.2 q hd.1 (Nat.le_refl _))]
            · rw [if_neg (by have := hbt n (by omega) (by omega); omega)]
              exact ih (by omega) (by omega)
        exact key q hd.1 (Nat.le_refl _)
      · exact .inr hge2
  · exact .inr h1
theorem cnt_end {t : List TRow} {a q kids sum : Nat} (ha : a < t.length) (hq : t.length ≤ q) (h : Cnt t a q kids sum) : sum = (underOf t a).length ∧ (kids = 0 ↔ (underOf t a).length = 0) := by
  obtain ⟨c, h1, h2, h3, h4, h5, -⟩ := h.ex
  have := (under_spec ha).1
  have hc : c = a + 1 + (underOf t a).length := by omega
  refine ⟨by omega, ?_⟩
  rw [h5]
  omega
theorem top_iff {t : List TRow} (hg : GT t) {j : Nat} (hj : j < t.length) : parI t (dd t j) j = none ↔ dd t j = 0 := by
  constructor
  · intro h
    have h2 := parI_none h
    have h3 := (hg.at_ j hj).nn
    have h0 : dd t j ≤ 0 := by
      cases j with
      | zero => exact (hg.at_ 0 hj).le
      | succ j =>
        have := h2 0 (by omega)
        have := (hg.at_ 0 (by omega)).le
        simp only [lim] at this
        omega
    omega
  · intro h
    cases hp : parI t (dd t j) j with
    | none => rfl
    | some p =>
      obtain ⟨h1, h2, _⟩ := parI_some hp
      have := (hg.at_ p (by omega)).nn
      omega
theorem bel_at {t : List TRow} (h : GT t) {j : Nat} (hj : j < t.length) : bel t (key t j) = underOf t j := by
  unfold bel
  rw [h.fnd hj rfl, if_neg (by omega), Int.toNat_natCast]
theorem par_at {t : List TRow} (h : GT t) {j : Nat} (hj : j < t.length) : par t (key t j) = (parI t (dd t j) j).map fun n => t.getD n dr := by
  unfold par
  rw [h.fnd hj rfl, if_neg (by omega), Int.toNat_natCast]
theorem key_get (t : List TRow) {j : Nat} (hj : j < t.length) : kk t[j] = key t j := by unfold key; rw [getD_lt t hj]
theorem dd_get (t : List TRow) {j : Nat} (hj : j < t.length) : t[j].depth = dd t j := by unfold dd; rw [getD_lt t hj]
theorem kr0 (r : TRow) : dInt .i64 r.krow 0 = some r.obj := rfl
theorem kr1 (r : TRow) : dInt .i64 r.krow 1 = some r.slot := rfl
theorem h21_ok {t : List TRow} (hg : GT t) {a kids : Nat} (ha : a < t.length) (hk : kids = 0 ↔ (underOf t a).length = 0) : ∀ m i : Nat, i + m = (underOf t a).length →
    law13_TreeCounts.H21 (enc t) a ((underOf t a).map TRow.krow) kids ((underOf t a).length : Int) i (true, ()) := by
  have hl := hg.len
  have hu := (under_spec ha).1
  intro m
  induction m with
  | zero =>
    intro i hi
    refine law13_TreeCounts.H21_step _ _ _ _ _ _ _ ?_
    rw [List.length_map, decide_eq_false (by omega)]
    simp only [cond_false, beq_self_eq_true, cond_true]
    rw [show ((((kids : Nat) : Int) == 0) == ((((underOf t a).length : Nat) : Int) == 0)) = true by
      by_cases h : kids = 0
      · rw [h, hk.1 h]; rfl
      · have h2 : ¬ (underOf t a).length = 0 := fun e => h (hk.2 e)
        rw [beq_eq_false_iff_ne.2 (show ((kids : Nat) : Int) ≠ 0 by omega), beq_eq_false_iff_ne.2 (show (((underOf t a).length : Nat) : Int) ≠ 0 by omega)]
        rfl]
    simp only [cond_true, live_ok, optAll_so]
  | succ m ih =>
    intro i hi
    refine law13_TreeCounts.H21_step _ _ _ _ _ _ _ ?_
    have e1 : IntKind.i64.wrap (IntKind.i64.wrap ((a : Int) + 1) + (i : Int)) = ((a + 1 + i : Nat) : Int) := by
      rw [wrap_succ (by omega), wrap_id (by omega) (by omega)]
      omega
    rw [List.length_map, decide_eq_true (by omega), e1, enc_len]
    simp only [cond_true]
    rw [decide_eq_false (by omega)]
    have hi2 : i < (underOf t a).length := by omega
    simp only [cond_false, needs_nat, Int.toNat_natCast, enc_get t (a + 1 + i) (by omega), map_get TRow.krow (underOf t a) i hi2, optAll_so, t0_, t1_, kr0, kr1, under_get ha hi2, beq_self_eq_true, Bool.and_self, Bool.not_true]
    rw [wrap_succ (by omega)]
    exact ih (i + 1) (by omega)
theorem counts_law (l : List Act) (k : K) : law13_TreeCounts.R (l.map encA) k.obj k.slot = some (true, ()) := by
  refine law13_TreeCounts.start _ _ _ _ ?_
  rw [List.length_map]
  by_cases h1 : l.length > 60
  · rw [decide_eq_true (by omega)]
    simp only [cond_true, live_ok, optAll_so]
  rw [decide_eq_false (by omega), grown_ok l (by omega)]
  simp only [cond_false, optAll_so]
  have h := gr_good l
  have ht := gr_small l
  generalize gr l = t at h ht
  have hl := h.len
  rw [find_ok t k ht, below_ok t k ht]
  simp only [optAll_so]
  rcases fnd_key t k with ⟨g1, _⟩ | ⟨a, ha, g1, g2, _⟩
  · rw [show bel t k = [] by unfold bel; rw [g1, if_pos (by omega)]]
    rw [g1, ftup_neg]
    simp only [Bool.not_false, cond_true, List.map_nil, List.length_nil]
    rw [show (((0 : Nat) : Int) == 0) = true from rfl]
    simp only [cond_true, live_ok, optAll_so]
  · subst g2
    rw [bel_at h ha, g1, ftup_nat]
    simp only [Bool.not_true, cond_false]
    have hu := (under_spec ha).1
    have main : ∀ m i kids sum : Nat, i + m = t.length → Cnt t a i kids sum → law13_TreeCounts.H12 (enc t) a ((underOf t a).map TRow.krow) kids sum i (key t a).obj (key t a).slot (true, ()) := by
      intro m
      induction m with
      | zero =>
        intro i kids sum hi hc
        refine law13_TreeCounts.H12_step _ _ _ _ _ _ _ _ _ ?_
        obtain ⟨e1, e2⟩ := cnt_end ha (by omega) hc
        rw [enc_len, decide_eq_false (by omega), e1]
        exact h21_ok h ha e2 (underOf t a).length 0 (by omega)
      | succ m ih =>
        intro i kids sum hi hc
        refine law13_TreeCounts.H12_step _ _ _ _ _ _ _ _ _ ?_
        have hil : i < t.length := by omega
        have hui := (under_spec hil).1
        rw [enc_len, decide_eq_true (by omega)]
        simp only [cond_true, needs_nat, Int.toNat_natCast, enc_get t i hil, optAll_so, t0_, t1_, t2_]
        have hp : tree_Parent.R (enc t) t[i].obj t[i].slot = some (ptup (par t (kk t[i]))) := parent_ok t (kk t[i]) ht
        have hb : tree_Below.R (enc t) t[i].obj t[i].slot = some ((bel t (kk t[i])).map TRow.krow, ()) := below_ok t (kk t[i]) ht
        rw [key_get t hil, par_at h hil] at hp
        rw [key_get t hil, bel_at h hil] at hb
        have hsum : sum ≤ (underOf t a).length := by obtain ⟨c, q1, q2, q3, q4, -⟩ := hc.ex; omega
        rw [hp]
        simp only [optAll_so]
        cases hq : parI t (dd t i) i with
        | none =>
          have hz : t[i].depth = 0 := by rw [dd_get t hil]; exact (top_iff h hil).1 hq
          simp only [Option.map_none, ptup, cond_false, hz, beq_self_eq_true]
          rw [wrap_succ (by omega)]
          exact ih (i + 1) kids sum (by omega) (cnt_skip h ha hil hc (by unfold chi; rw [hq]; intro e; cases e))
        | some p =>
          have hz : (t[i].depth == 0) = false := by
            rw [beq_eq_false_iff_ne, dd_get t hil]
            intro e
            rw [(top_iff h hil).2 e] at hq
            cases hq
          obtain ⟨p1, _, _⟩ := parI_some hq
          simp only [Option.map_some, ptup, cond_true, hz]
          rw [show ((t.getD p dr).obj == (key t a).obj && ((t.getD p dr).slot == (key t a).slot && true)) = decide (key t p = key t a) from eqK (key t p) (key t a)]
          by_cases hpa : p = a
          · subst hpa
            rw [decide_eq_true rfl]
            simp only [cond_true]
            rw [hb]
            simp only [optAll_so, List.length_map]
            have hc2 := cnt_kid ha hil hc hq
            have hs2 : sum + 1 + (underOf t i).length ≤ (underOf t p).length := by obtain ⟨c, q1, q2, q3, q4, -⟩ := hc2.ex; omega
            have hf := hc.few
            rw [wrap_succ (by omega), wrap_succ (show sum < 4611686018427387904 by omega), wrap_succ (show i < 4611686018427387904 by omega), wrap_id (n := ((sum + 1 : Nat) : Int) + ((underOf t i).length : Int)) (by omega) (by omega), show ((sum + 1 : Nat) : Int) + ((underOf t i).length : Int) = ((sum + 1 + (underOf t i).length : Nat) : Int) by omega]
            exact ih (i + 1) (kids + 1) (sum + 1 + (underOf t i).length) (by omega) hc2
          · rw [decide_eq_false (fun e => hpa (h.inj (by omega) ha e))]
            simp only [cond_false]
            rw [wrap_succ (by omega)]
            exact ih (i + 1) kids sum (by omega) (cnt_skip h ha hil hc (by unfold chi; rw [hq]; intro e; simp only [Option.some.injEq] at e; exact hpa e))
    exact main t.length 0 0 0 (by omega) ⟨by omega, a + 1, .inl (by omega), by omega, by omega, by omega, by simp, .inl rfl⟩
/-! Many -/
def mk (j : Nat) : TRow := ⟨((j / 8 : Nat) : Int), ((j % 8 : Nat) : Int), ((j % 2 : Nat) : Int), false⟩
def T (n : Nat) : List TRow := (List.range n).map mk
theorem T_len (n : Nat) : (T n).length = n := by simp [T]
theorem T_get (n j : Nat) (h : j < n) : (T n).getD j dr = mk j := by
  rw [getD_lt _ (by rw [T_len]; exact h)]
  simp [T]
theorem T_succ (n : Nat) : T (n + 1) = T n ++ [mk n] := by simp [T, List.range_succ]
theorem T_key (n j : Nat) (h : j < n) : key (T n) j = ⟨((j / 8 : Nat) : Int), ((j % 8 : Nat) : Int)⟩ := by unfold key; rw [T_get n j h]; rfl
theorem T_dd (n j : Nat) (h : j < n) : dd (T n) j = ((j % 2 : Nat) : Int) := by unfold dd; rw [T_get n j h]; rfl
theorem mk_ne {i j : Nat} (h : i ≠ j) : (K.mk ((i / 8 : Nat) : Int) ((i % 8 : Nat) : Int)) ≠ ⟨((j / 8 : Nat) : Int), ((j % 8 : Nat) : Int)⟩ := by
  intro e
  simp only [K.mk.injEq] at e
  omega
theorem T_kok {j : Nat} (h : j < 1024) : kOK ⟨((j / 8 : Nat) : Int), ((j % 8 : Nat) : Int)⟩ = true := by
  unfold kOK
  simp only [Bool.and_eq_true, decide_eq_true_eq]
  omega
theorem T_good {n : Nat} (h : n ≤ 512) : GT (T n) := by
  refine ⟨by rw [T_len]; exact h, fun i hi => ?_⟩
  rw [T_len] at hi
  refine ⟨fun j hj => ?_, by rw [T_key n i hi]; exact T_kok (by omega), by rw [T_dd n i hi]; omega, ?_⟩
  · rw [T_key n j (by omega), T_key n i hi]
    exact mk_ne (by omega)
  · rw [T_dd n i hi]
    cases i with
    | zero => simp [lim]
    | succ i => simp only [lim]; rw [T_dd n i (by omega)]; omega
theorem T_off (n : Nat) (h : n ≤ 512) : fnd (T n) ⟨((n / 8 : Nat) : Int), ((n % 8 : Nat) : Int)⟩ = -1 := by
  rcases fnd_key (T n) ⟨((n / 8 : Nat) : Int), ((n % 8 : Nat) : Int)⟩ with ⟨h1, _⟩ | ⟨j, hj, _, h2, _⟩
  · exact h1
  · rw [T_len] at hj
    rw [T_key n j hj] at h2
    exact absurd h2 (mk_ne (by omega))
theorem put_end (t : List TRow) (r : TRow) : putAt t t.length r = t ++ [r] := by
  unfold putAt
  rw [List.take_length, List.drop_length, List.append_nil]
theorem T_root {n : Nat} (h : n < 512) (he : n % 2 = 0) : sRoot (T n) ⟨((n / 8 : Nat) : Int), ((n % 8 : Nat) : Int)⟩ = (T (n + 1), 0) := by
  unfold sRoot
  rw [if_pos ⟨(tOK_iff _).2 (T_good (by omega)), T_kok (by omega)⟩, T_off n (by omega), if_neg (by omega), if_neg (by rw [T_len]; omega), put_end, T_succ]
  unfold mk
  rw [he]
  rfl
theorem T_ins {n : Nat} (h : n < 512) (he : n % 2 = 1) : sInsert (T n) ⟨((n / 8 : Nat) : Int), ((n % 8 - 1 : Nat) : Int)⟩ ⟨((n / 8 : Nat) : Int), ((n % 8 : Nat) : Int)⟩ = (T (n + 1), 0) := by
  obtain ⟨m, rfl⟩ : ∃ m, n = m + 1 := ⟨n - 1, by omega⟩
  have hk : key (T (m + 1)) m = ⟨(((m + 1) / 8 : Nat) : Int), (((m + 1) % 8 - 1 : Nat) : Int)⟩ := by
    rw [T_key (m + 1) m (by omega)]
    congr 2 <;> omega
  have hf := (T_good (n := m + 1) (by omega)).fnd (i := m) (by rw [T_len]; omega) hk
  have hd := T_dd (m + 1) m (by omega)
  unfold sInsert
  rw [if_pos ⟨(tOK_iff _).2 (T_good (by omega)), by rw [← hk, T_key (m + 1) m (by omega)]; exact T_kok (by omega), T_kok (by omega)⟩, hf, if_neg (by omega), T_off (m + 1) (by omega), if_neg (by omega), if_neg (by rw [T_len]; omega), Int.toNat_natCast, hd]
  have := put_end (T (m + 1)) ⟨(((m + 1) / 8 : Nat) : Int), (((m + 1) % 8 : Nat) : Int), ((m % 2 : Nat) : Int) + 1, false⟩
  rw [T_len] at this
  rw [this, T_succ (m + 1)]
  unfold mk
  rw [show ((m % 2 : Nat) : Int) + 1 = (((m + 1) % 2 : Nat) : Int) by omega]
theorem full_root {t : List TRow} (h : 512 ≤ t.length) (k : K) : (sRoot t k).1 = t ∧ (sRoot t k).2 ≠ 0 := by
  unfold sRoot
  split
  · split
    · exact ⟨rfl, by simp⟩
    · exact ⟨rfl, by simp⟩
  · exact ⟨rfl, by simp⟩
theorem full_ins {t : List TRow} (h : 512 ≤ t.length) (f k : K) : (sInsert t f k).1 = t ∧ (sInsert t f k).2 ≠ 0 := by
  unfold sInsert
  split
  · split
    · exact ⟨rfl, by simp⟩
    · split
      · exact ⟨rfl, by simp⟩
      · exact ⟨rfl, by simp⟩
  · exact ⟨rfl, by simp⟩
theorem tdiv8 (m : Nat) : Int.tdiv (m : Int) 8 = ((m / 8 : Nat) : Int) := (Int.ofNat_tdiv m 8).symm
theorem tmod8 (m : Nat) : Int.tmod (m : Int) 8 = ((m % 8 : Nat) : Int) := (Int.ofNat_tmod m 8).symm
theorem tmod2 (m : Nat) : Int.tmod (m : Int) 2 = ((m % 2 : Nat) : Int) := (Int.ofNat_tmod m 2).symm
theorem many_law (n : Int) : law13_TreeMany.R n = some (true, ()) := by
  refine law13_TreeMany.start _ _ ?_
  by_cases h1 : n < 500
  · rw [decide_eq_true h1]
    simp only [cond_true, live_ok, optAll_so]
  rw [decide_eq_false h1]
  by_cases h2 : n > 520
  · rw [decide_eq_true h2]
    simp only [cond_true, cond_false, live_ok, optAll_so]
  rw [decide_eq_false h2]
  simp only [cond_false]
  obtain ⟨n, rfl⟩ : ∃ k : Nat, n = k := ⟨n.toNat, by omega⟩
  have main : ∀ m i : Nat, i + m = n → law13_TreeMany.H7 n (enc (T (min i 512))) i (true, ()) := by
    intro m
    induction m with
    | zero =>
      intro i hi
      refine law13_TreeMany.H7_step _ _ _ _ ?_
      rw [decide_eq_false (by omega), enc_len, T_len]
      simp only [cond_false]
      rw [show ((((min i 512 : Nat) : Nat) : Int) == if (512 : Int) < (n : Int) then 512 else (n : Int)) = true by
        rw [beq_iff_eq]
        split <;> omega]
      simp only [cond_true]
      rw [er_good (T_good (by omega))]
      simp only [optAll_so, num_ok, beq_self_eq_true, cond_true, live_ok]
    | succ m ih =>
      intro i hi
      refine law13_TreeMany.H7_step _ _ _ _ ?_
      rw [decide_eq_true (by omega)]
      simp only [cond_true, tdiv8, tmod8, tmod2]
      rw [wrap_id (n := ((i / 8 : Nat) : Int)) (by omega) (by omega)]
      have hT : (T (min i 512)).length < 1000000 := by rw [T_len]; omega
      have ih := ih (i + 1) (by omega)
      by_cases he : i % 2 = 0
      · rw [he]
        simp only [show (((0 : Nat) : Int) == 0) = true from rfl, cond_true]
        rw [show tree_Root.R (enc (T (min i 512))) ((i / 8 : Nat) : Int) ((i % 8 : Nat) : Int) = _ from root_ok (T (min i 512)) ⟨((i / 8 : Nat) : Int), ((i % 8 : Nat) : Int)⟩ hT]
        simp only [optAll_so, rtup, num_ok]
        by_cases hs : i < 512
        · rw [show min i 512 = i by omega, T_root hs he]
          rw [show min (i + 1) 512 = i + 1 by omega] at ih
          rw [decide_eq_true (by omega), wrap_succ (by omega)]
          exact ih
        · obtain ⟨q1, q2⟩ := full_root (t := T (min i 512)) (by rw [T_len]; omega) ⟨((i / 8 : Nat) : Int), ((i % 8 : Nat) : Int)⟩
          rw [q1, decide_eq_false (by omega), beq_eq_false_iff_ne.2 q2, wrap_succ (by omega)]
          rw [show min (i + 1) 512 = min i 512 by omega] at ih
          exact ih
      · rw [show i % 2 = 1 by omega]
        simp only [show (((1 : Nat) : Int) == 0) = false from rfl, cond_false]
        rw [wrap_id (n := ((i % 8 : Nat) : Int) - 1) (by omega) (by omega), show ((i % 8 : Nat) : Int) - 1 = ((i % 8 - 1 : Nat) : Int) by omega]
        rw [show tree_Insert.R (enc (T (min i 512))) ((i / 8 : Nat) : Int) ((i % 8 - 1 : Nat) : Int) ((i / 8 : Nat) : Int) ((i % 8 : Nat) : Int) = _ from insert_ok (T (min i 512)) ⟨((i / 8 : Nat) : Int), ((i % 8 - 1 : Nat) : Int)⟩ ⟨((i / 8 : Nat) : Int), ((i % 8 : Nat) : Int)⟩ hT]
        simp only [optAll_so, rtup, num_ok]
        by_cases hs : i < 512
        · rw [show min i 512 = i by omega, T_ins hs (by omega)]
          rw [show min (i + 1) 512 = i + 1 by omega] at ih
          rw [decide_eq_true (by omega), wrap_succ (by omega)]
          exact ih
        · obtain ⟨q1, q2⟩ := full_ins (t := T (min i 512)) (by rw [T_len]; omega) ⟨((i / 8 : Nat) : Int), ((i % 8 - 1 : Nat) : Int)⟩ ⟨((i / 8 : Nat) : Int), ((i % 8 : Nat) : Int)⟩
          rw [q1, decide_eq_false (by omega), beq_eq_false_iff_ne.2 q2, wrap_succ (by omega)]
          rw [show min (i + 1) 512 = min i 512 by omega] at ih
          exact ih
  exact main n 0 (by omega)
end Trees
end Go.AI
