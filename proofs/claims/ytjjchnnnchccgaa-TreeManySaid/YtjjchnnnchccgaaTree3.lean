/-
  Own work. tree's laws: what is done to a list, what is told of it.
-/
import Derived.Test.YtjjchnnnchccgaaTree2
namespace Go.AI
open Go
set_option linter.unusedVariables false
set_option linter.unusedSimpArgs false
namespace Trees
open Kit Ghost

def rtup (x : List TRow × Int) : List (List DV) × (Int × Unit) := (enc x.1, (x.2, ()))
def outAt (t : List TRow) (i : Nat) : List TRow := t.take i ++ t.drop (i + 1)
def sRoot (t : List TRow) (k : K) : List TRow × Int :=
  if tOK t = true ∧ kOK k = true then (if 0 ≤ fnd t k then (t, 8) else if 512 ≤ t.length then (t, 6) else (putAt t t.length ⟨k.obj, k.slot, 0, false⟩, 0)) else (t, 2)
def sInsert (t : List TRow) (f k : K) : List TRow × Int :=
  if tOK t = true ∧ kOK f = true ∧ kOK k = true then (if fnd t f < 0 then (t, 7) else if 0 ≤ fnd t k then (t, 8) else if 512 ≤ t.length then (t, 6) else (putAt t ((fnd t f).toNat + 1) ⟨k.obj, k.slot, dd t (fnd t f).toNat + 1, false⟩, 0)) else (t, 2)
def sRemove (t : List TRow) (k : K) : List TRow × Int :=
  if tOK t = true ∧ kOK k = true then (if fnd t k < 0 then (t, 7) else if (underOf t (fnd t k).toNat).length = 0 then (outAt t (fnd t k).toNat, 0) else (t, 130)) else (t, 2)
def sMove (t : List TRow) (f k : K) : List TRow × Int :=
  if tOK t = true ∧ kOK f = true ∧ kOK k = true then (if fnd t f < 0 then (t, 7) else if 0 ≤ fnd t k then (t, 8) else (t.set (fnd t f).toNat ⟨k.obj, k.slot, dd t (fnd t f).toNat, (t.getD (fnd t f).toNat dr).mark⟩, 0)) else (t, 2)
def sMark (t : List TRow) (k : K) (on : Bool) : List TRow × Int :=
  if tOK t = true ∧ kOK k = true then (if fnd t k < 0 then (t, 7) else (t.set (fnd t k).toNat ⟨(t.getD (fnd t k).toNat dr).obj, (t.getD (fnd t k).toNat dr).slot, dd t (fnd t k).toNat, on⟩, 0)) else (t, 2)
theorem good_of {t : List TRow} (h : tOK t = true) : t.length ≤ 512 ∧ ∀ j, j < t.length → goodAt t j = true := by
  unfold tOK at h
  rw [Bool.and_eq_true, decide_eq_true_eq, good_iff] at h
  exact h
theorem dd_small {t : List TRow} (h : tOK t = true) {i : Nat} (hi : i < t.length) : 0 ≤ dd t i ∧ dd t i < 512 := by
  obtain ⟨h1, h2⟩ := good_of h
  have := (depth_le h2).2 i hi
  omega
theorem kob (k : K) : (K.mk k.obj k.slot) = k := rfl
theorem add_ok (t : List TRow) (i : Nat) (r : TRow) (ht : t.length < 1000000) (hi : i ≤ t.length) : tree_add.R (enc t) i r.obj r.slot r.depth r.mark = some (rtup (if 0 ≤ fnd t (kk r) then (t, 8) else if 512 ≤ t.length then (t, 6) else (putAt t i r, 0))) := by
  refine tree_add.start _ _ _ _ _ _ _ ?_
  rw [show tree_Find.R (enc t) r.obj r.slot = some (ftup (fnd t (kk r))) from find_ok t (kk r) ht]
  simp only [optAll_so]
  rcases fnd_cases t (kk r) with ⟨h1, _⟩ | ⟨j, hj, h1, _, _⟩
  · rw [h1, ftup_neg, if_neg (by omega)]
    simp only [cond_false, enc_len]
    by_cases h : 512 ≤ t.length
    · rw [if_pos h, decide_eq_true (by omega)]; rfl
    · rw [if_neg h, decide_eq_false (by omega)]
      simp only [cond_false, put_ok t i r ht hi, optAll_so]
      rfl
  · rw [h1, ftup_nat, if_pos (by omega)]
    rfl
theorem root_ok (t : List TRow) (k : K) (ht : t.length < 1000000) : tree_Root.R (enc t) k.obj k.slot = some (rtup (sRoot t k)) := by
  refine tree_Root.start _ _ _ _ ?_
  rw [right1_ok t k ht]
  simp only [optAll_so]
  unfold sRoot
  cases h1 : tOK t with
  | false => rw [if_neg (by simp)]; rfl
  | true =>
    cases h2 : kOK k with
    | false => rw [if_neg (by simp)]; rfl
    | true =>
      rw [if_pos (by simp)]
      simp only [Bool.and_true, Bool.not_true, cond_false, enc_len]
      rw [show tree_add.R (enc t) (t.length : Int) k.obj k.slot (0 : Int) false = _ from add_ok t t.length ⟨k.obj, k.slot, 0, false⟩ ht (Nat.le_refl _)]
      exact rfl
theorem rroot_ok (t : List TRow) (k : K) (ht : t.length < 1000000) : ref13_Root.R (enc t) k.obj k.slot = some (rtup (sRoot t k)) := by
  refine ref13_Root.start _ _ _ _ ?_
  rw [rfind_ok t k ht]
  simp only [optAll_so]
  rw [is_ok t ht]
  simp only [optAll_so]
  unfold sRoot
  cases h1 : tOK t with
  | false => rw [if_neg (by simp)]; rfl
  | true =>
    simp only [Bool.not_true, cond_false]
    rw [rkey_ok]
    simp only [optAll_so]
    cases h2 : kOK k with
    | false => rw [if_neg (by simp)]; rfl
    | true =>
      rw [if_pos (by simp)]
      simp only [Bool.not_true, cond_false, enc_len]
      rcases fnd_cases t k with ⟨h1, _⟩ | ⟨j, hj, h1, _, _⟩
      · rw [h1, ftup_neg, if_neg (by omega)]
        simp only [cond_false]
        by_cases h : 512 ≤ t.length
        · rw [if_pos h, decide_eq_true (by omega)]; rfl
        · rw [if_neg h, decide_eq_false (by omega)]
          simp only [cond_false]
          rw [show ref13_put.R (enc t) (t.length : Int) k.obj k.slot (0 : Int) false = _ from rput_ok t t.length ⟨k.obj, k.slot, 0, false⟩ ht (Nat.le_refl _)]
          exact rfl
      · rw [h1, ftup_nat, if_pos (by omega)]
        rfl
theorem insert_ok (t : List TRow) (f k : K) (ht : t.length < 1000000) : tree_Insert.R (enc t) f.obj f.slot k.obj k.slot = some (rtup (sInsert t f k)) := by
  refine tree_Insert.start _ _ _ _ _ _ ?_
  rw [right2_ok t f k ht]
  simp only [optAll_so]
  unfold sInsert
  cases h1 : tOK t with
  | false => rw [if_neg (by simp)]; rfl
  | true =>
    cases h2 : kOK f with
    | false => rw [if_neg (by simp)]; rfl
    | true =>
      cases h3 : kOK k with
      | false => rw [if_neg (by simp)]; rfl
      | true =>
        rw [if_pos (by simp)]
        simp only [Bool.and_true, Bool.not_true, cond_false]
        rw [find_ok t f ht]
        simp only [optAll_so]
        rcases fnd_cases t f with ⟨g1, _⟩ | ⟨i, hi, g1, _, _⟩
        · rw [g1, ftup_neg, if_pos (by omega)]
          rfl
        · rw [g1, ftup_nat, if_neg (by omega)]
          have hd := dd_small h1 hi
          have hdi : t[i].depth = dd t i := by unfold dd; rw [getD_lt t hi]
          simp only [Bool.not_true, cond_false, needs_nat, Int.toNat_natCast, enc_get _ _ hi, optAll_so, t2_]
          rw [wrap_succ (show i < 4611686018427387904 by omega), hdi, wrap_id (n := dd t i + 1) (by omega) (by omega)]
          rw [show tree_add.R (enc t) ((i + 1 : Nat) : Int) k.obj k.slot (dd t i + 1) false = _ from add_ok t (i + 1) ⟨k.obj, k.slot, dd t i + 1, false⟩ ht (by omega)]
          exact rfl
theorem rinsert_ok (t : List TRow) (f k : K) (ht : t.length < 1000000) : ref13_Insert.R (enc t) f.obj f.slot k.obj k.slot = some (rtup (sInsert t f k)) := by
  refine ref13_Insert.start _ _ _ _ _ _ ?_
  rw [rfind_ok t f ht]
  simp only [optAll_so]
  rw [rfind_ok t k ht]
  simp only [optAll_so]
  rw [is_ok t ht]
  simp only [optAll_so]
  unfold sInsert
  cases h1 : tOK t with
  | false => rw [if_neg (by simp)]; rfl
  | true =>
    simp only [Bool.not_true, cond_false]
    rw [rkey_ok]
    simp only [optAll_so]
    cases h2 : kOK f with
    | false => rw [if_neg (by simp)]; rfl
    | true =>
      simp only [Bool.not_true, cond_false]
      rw [rkey_ok]
      simp only [optAll_so]
      cases h3 : kOK k with
      | false => rw [if_neg (by simp)]; rfl
      | true =>
        rw [if_pos (by simp)]
        simp only [Bool.not_true, cond_false]
        rcases fnd_cases t f with ⟨g1, _⟩ | ⟨i, hi, g1, _, _⟩
        · rw [g1, ftup_neg, if_pos (by omega)]
          rfl
        · rw [g1, ftup_nat, if_neg (by omega)]
          simp only [Bool.not_true, cond_false, Int.toNat_natCast]
          have hd := dd_small h1 hi
          have hdi : t[i].depth = dd t i := by unfold dd; rw [getD_lt t hi]
          rcases fnd_cases t k with ⟨g2, _⟩ | ⟨j, hj, g2, _, _⟩
          · rw [g2, ftup_neg, if_neg (by omega)]
            simp only [cond_false, enc_len]
            by_cases h : 512 ≤ t.length
            · rw [if_pos h, decide_eq_true (by omega)]; rfl
            · rw [if_neg h, decide_eq_false (by omega)]
              simp only [cond_false, needs_nat, enc_get _ _ hi, optAll_so, t0_, t1_, t2_, t3_]
              rw [wrap_succ (show i < 4611686018427387904 by omega), hdi, wrap_id (n := dd t i + 1) (by omega) (by omega)]
              rw [show ref13_put.R (enc t) ((i + 1 : Nat) : Int) k.obj k.slot (dd t i + 1) false = _ from rput_ok t (i + 1) ⟨k.obj, k.slot, dd t i + 1, false⟩ ht (by omega)]
              exact rfl
          · rw [g2, ftup_nat, if_pos (by omega)]
            rfl
theorem remove_ok (t : List TRow) (k : K) (ht : t.length < 1000000) : tree_Remove.R (enc t) k.obj k.slot = some (rtup (sRemove t k)) := by
  refine tree_Remove.start _ _ _ _ ?_
  rw [right1_ok t k ht]
  simp only [optAll_so]
  unfold sRemove
  cases h1 : tOK t with
  | false => rw [if_neg (by simp)]; rfl
  | true =>
    cases h2 : kOK k with
    | false => rw [if_neg (by simp)]; rfl
    | true =>
      rw [if_pos (by simp)]
      simp only [Bool.and_true, Bool.not_true, cond_false]
      rw [find_ok t k ht]
      simp only [optAll_so]
      rcases fnd_cases t k with ⟨g1, _⟩ | ⟨i, hi, g1, _, _⟩
      · rw [g1, ftup_neg, if_pos (by omega)]
        rfl
      · rw [g1, ftup_nat, if_neg (by omega)]
        simp only [Bool.not_true, cond_false, Int.toNat_natCast]
        rw [gather_ok t i ht hi]
        simp only [optAll_so]
        by_cases hu : (underOf t i).length = 0
        · rw [if_pos hu, show List.isEmpty ((underOf t i).map TRow.krow) = true by rw [List.eq_nil_of_length_eq_zero hu]; rfl]
          simp only [cond_true]
          rw [wrap_succ (show i < 4611686018427387904 by omega)]
          simp only [Int.toNat_natCast, enc_len, enc_take, enc_drop, enc_app, take_len, needs_iff, List.take_length]
          refine ⟨trivial, by omega, by omega, ?_⟩
          by_cases hd : i + 1 < t.length
          · rw [show List.isEmpty (enc (t.drop (i + 1))) = false by
              rw [List.drop_eq_getElem_cons hd]; rfl]
            simp only [cond_false, needs_iff]
            refine ⟨?_, rfl⟩
            simp only [List.length_append, List.length_take, List.length_drop]
            omega
          · rw [show List.isEmpty (enc (t.drop (i + 1))) = true by rw [List.drop_eq_nil_of_le (by omega)]; rfl]
            show (_, _) = (_, _)
            unfold outAt
            rw [List.drop_eq_nil_of_le (by omega), List.append_nil]
        · rw [if_neg hu, show List.isEmpty ((underOf t i).map TRow.krow) = false by
            cases h : underOf t i with
            | nil => rw [h] at hu; exact absurd rfl hu
            | cons a l => rfl]
          rfl
theorem rremove_ok (t : List TRow) (k : K) (ht : t.length < 1000000) : ref13_Remove.R (enc t) k.obj k.slot = some (rtup (sRemove t k)) := by
  refine ref13_Remove.start _ _ _ _ ?_
  rw [rfind_ok t k ht]
  simp only [optAll_so]
  rw [is_ok t ht]
  simp only [optAll_so]
  unfold sRemove
  cases h1 : tOK t with
  | false => rw [if_neg (by simp)]; rfl
  | true =>
    simp only [Bool.not_true, cond_false]
    rw [rkey_ok]
    simp only [optAll_so]
    cases h2 : kOK k with
    | false => rw [if_neg (by simp)]; rfl
    | true =>
      rw [if_pos (by simp)]
      simp only [Bool.not_true, cond_false]
      rcases fnd_cases t k with ⟨g1, _⟩ | ⟨i, hi, g1, _, _⟩
      · rw [g1, ftup_neg, if_pos (by omega)]
        rfl
      · rw [g1, ftup_nat, if_neg (by omega)]
        simp only [Bool.not_true, cond_false, Int.toNat_natCast]
        rw [count_ok t i ht hi]
        simp only [optAll_so]
        by_cases hu : (underOf t i).length = 0
        · rw [if_pos hu, decide_eq_false (by omega)]
          simp only [cond_false]
          rw [rout_ok t i ht hi]
          exact rfl
        · rw [if_neg hu, decide_eq_true (by omega)]
          rfl
theorem set_put (t : List TRow) (i : Nat) (r : TRow) (hi : i < t.length) : putAt (outAt t i) i r = t.set i r := by
  unfold putAt outAt
  rw [List.take_append_of_le_length (by simp; omega), List.drop_append_of_le_length (by simp; omega), List.take_take, Nat.min_self, List.drop_take_self, List.nil_append, List.set_eq_take_append_cons_drop, if_pos hi]
  simp
theorem move_ok (t : List TRow) (f k : K) (ht : t.length < 1000000) : tree_Move.R (enc t) f.obj f.slot k.obj k.slot = some (rtup (sMove t f k)) := by
  refine tree_Move.start _ _ _ _ _ _ ?_
  rw [right2_ok t f k ht]
  simp only [optAll_so]
  unfold sMove
  cases h1 : tOK t with
  | false => rw [if_neg (by simp)]; rfl
  | true =>
    cases h2 : kOK f with
    | false => rw [if_neg (by simp)]; rfl
    | true =>
      cases h3 : kOK k with
      | false => rw [if_neg (by simp)]; rfl
      | true =>
        rw [if_pos (by simp)]
        simp only [Bool.and_true, Bool.not_true, cond_false]
        rw [find_ok t f ht]
        simp only [optAll_so]
        rcases fnd_cases t f with ⟨g1, _⟩ | ⟨i, hi, g1, _, _⟩
        · rw [g1, ftup_neg, if_pos (by omega)]
          rfl
        · rw [g1, ftup_nat, if_neg (by omega)]
          simp only [Bool.not_true, cond_false, Int.toNat_natCast]
          rw [find_ok t k ht]
          simp only [optAll_so]
          rcases fnd_cases t k with ⟨g2, _⟩ | ⟨j, hj, g2, _, _⟩
          · rw [g2, ftup_neg, if_neg (by omega)]
            have hdi : t[i].depth = dd t i := by unfold dd; rw [getD_lt t hi]
            simp only [cond_false, needs_nat, enc_get _ _ hi, optAll_so, t0_, t1_, t2_, t3_]
            rw [hdi, getD_lt t hi]
            rw [show tree_with.R (enc t) (i : Int) k.obj k.slot (dd t i) t[i].mark = _ from with_ok t i ⟨k.obj, k.slot, dd t i, t[i].mark⟩ ht hi]
            exact rfl
          · rw [g2, ftup_nat, if_pos (by omega)]
            rfl
theorem rmove_ok (t : List TRow) (f k : K) (ht : t.length < 1000000) : ref13_Move.R (enc t) f.obj f.slot k.obj k.slot = some (rtup (sMove t f k)) := by
  refine ref13_Move.start _ _ _ _ _ _ ?_
  rw [rfind_ok t f ht]
  simp only [optAll_so]
  rw [rfind_ok t k ht]
  simp only [optAll_so]
  rw [is_ok t ht]
  simp only [optAll_so]
  unfold sMove
  cases h1 : tOK t with
  | false => rw [if_neg (by simp)]; rfl
  | true =>
    simp only [Bool.not_true, cond_false]
    rw [rkey_ok]
    simp only [optAll_so]
    cases h2 : kOK f with
    | false => rw [if_neg (by simp)]; rfl
    | true =>
      simp only [Bool.not_true, cond_false]
      rw [rkey_ok]
      simp only [optAll_so]
      cases h3 : kOK k with
      | false => rw [if_neg (by simp)]; rfl
      | true =>
        rw [if_pos (by simp)]
        simp only [Bool.not_true, cond_false]
        rcases fnd_cases t f with ⟨g1, _⟩ | ⟨i, hi, g1, _, _⟩
        · rw [g1, ftup_neg, if_pos (by omega)]
          rfl
        · rw [g1, ftup_nat, if_neg (by omega)]
          simp only [Bool.not_true, cond_false, Int.toNat_natCast]
          have hdi : t[i].depth = dd t i := by unfold dd; rw [getD_lt t hi]
          rcases fnd_cases t k with ⟨g2, _⟩ | ⟨j, hj, g2, _, _⟩
          · rw [g2, ftup_neg, if_neg (by omega)]
            simp only [cond_false, needs_nat, enc_get _ _ hi, optAll_so, t0_, t1_, t2_, t3_]
            rw [rout_ok t i ht hi, hdi, getD_lt t hi]
            simp only [optAll_so]
            rw [show ref13_put.R (enc (t.take i ++ t.drop (i + 1))) (i : Int) k.obj k.slot (dd t i) t[i].mark = _ from rput_ok (outAt t i) i ⟨k.obj, k.slot, dd t i, t[i].mark⟩ (by unfold outAt; simp; omega) (by unfold outAt; simp; omega)]
            rw [set_put t i _ hi]
            exact rfl
          · rw [g2, ftup_nat, if_pos (by omega)]
            rfl
theorem mark_ok (t : List TRow) (k : K) (on : Bool) (ht : t.length < 1000000) : tree_Mark.R (enc t) k.obj k.slot on = some (rtup (sMark t k on)) := by
  refine tree_Mark.start _ _ _ _ _ ?_
  rw [right1_ok t k ht]
  simp only [optAll_so]
  unfold sMark
  cases h1 : tOK t with
  | false => rw [if_neg (by simp)]; rfl
  | true =>
    cases h2 : kOK k with
    | false => rw [if_neg (by simp)]; rfl
    | true =>
      rw [if_pos (by simp)]
      simp only [Bool.and_true, Bool.not_true, cond_false]
      rw [find_ok t k ht]
      simp only [optAll_so]
      rcases fnd_cases t k with ⟨g1, _⟩ | ⟨i, hi, g1, _, _⟩
      · rw [g1, ftup_neg, if_pos (by omega)]
        rfl
      · rw [g1, ftup_nat, if_neg (by omega)]
        have hdi : t[i].depth = dd t i := by unfold dd; rw [getD_lt t hi]
        simp only [Bool.not_true, cond_false, needs_nat, Int.toNat_natCast, enc_get _ _ hi, optAll_so, t0_, t1_, t2_, t3_]
        rw [hdi, getD_lt t hi]
        rw [show tree_with.R (enc t) (i : Int) t[i].obj t[i].slot (dd t i) on = _ from with_ok t i ⟨t[i].obj, t[i].slot, dd t i, on⟩ ht hi]
        exact rfl
theorem rmark_ok (t : List TRow) (k : K) (on : Bool) (ht : t.length < 1000000) : ref13_Mark.R (enc t) k.obj k.slot on = some (rtup (sMark t k on)) := by
  refine ref13_Mark.start _ _ _ _ _ ?_
  rw [rfind_ok t k ht]
  simp only [optAll_so]
  rw [is_ok t ht]
  simp only [optAll_so]
  unfold sMark
  cases h1 : tOK t with
  | false => rw [if_neg (by simp)]; rfl
  | true =>
    simp only [Bool.not_true, cond_false]
    rw [rkey_ok]
    simp only [optAll_so]
    cases h2 : kOK k with
    | false => rw [if_neg (by simp)]; rfl
    | true =>
      rw [if_pos (by simp)]
      simp only [Bool.not_true, cond_false]
      rcases fnd_cases t k with ⟨g1, _⟩ | ⟨i, hi, g1, _, _⟩
      · rw [g1, ftup_neg, if_pos (by omega)]
        rfl
      · rw [g1, ftup_nat, if_neg (by omega)]
        have hdi : t[i].depth = dd t i := by unfold dd; rw [getD_lt t hi]
        simp only [Bool.not_true, cond_false, needs_nat, Int.toNat_natCast, enc_get _ _ hi, optAll_so, t0_, t1_, t2_, t3_]
        rw [rout_ok t i ht hi, hdi, getD_lt t hi]
        simp only [optAll_so]
        rw [show ref13_put.R (enc (t.take i ++ t.drop (i + 1))) (i : Int) t[i].obj t[i].slot (dd t i) on = _ from rput_ok (outAt t i) i ⟨t[i].obj, t[i].slot, dd t i, on⟩ (by unfold outAt; simp; omega) (by unfold outAt; simp; omega)]
        rw [set_put t i _ hi]
        exact rfl
/-! Acts -/
structure Act where
  kind : Int
  a : K
  b : K
  on : Bool
def encA (x : Act) : List DV := [.v (.int .i64 x.kind), .v (.int .i64 x.a.obj), .v (.int .i64 x.a.slot), .v (.int .i64 x.b.obj), .v (.int .i64 x.b.slot), .v (.bool x.on)]
def step (t : List TRow) (x : Act) : List TRow × Int :=
  if x.kind = 0 then sRoot t x.a else if x.kind = 1 then sInsert t x.a x.b else if x.kind = 2 then sRemove t x.a else if x.kind = 3 then sMove t x.a x.b else sMark t x.a x.on
theorem does_ok (t : List TRow) (x : Act) (ht : t.length < 1000000) : law13_does.R (enc t) x.kind x.a.obj x.a.slot x.b.obj x.b.slot x.on = some (rtup (step t x)) := by
  refine law13_does.start _ _ _ _ _ _ _ _ ?_
  unfold step
  simp only [cond_ite, beq_iff_eq]
  by_cases h0 : x.kind = 0
  · rw [if_pos h0, if_pos h0, root_ok t x.a ht]
    simp only [optAll_so, num_ok, rtup]
  rw [if_neg h0, if_neg h0]
  by_cases h1 : x.kind = 1
  · rw [if_pos h1, if_pos h1, insert_ok t x.a x.b ht]
    simp only [optAll_so, num_ok, rtup]
  rw [if_neg h1, if_neg h1]
  by_cases h2 : x.kind = 2
  · rw [if_pos h2, if_pos h2, remove_ok t x.a ht]
    simp only [optAll_so, num_ok, rtup]
  rw [if_neg h2, if_neg h2]
  by_cases h3 : x.kind = 3
  · rw [if_pos h3, if_pos h3, move_ok t x.a x.b ht]
    simp only [optAll_so, num_ok, rtup]
  rw [if_neg h3, if_neg h3, mark_ok t x.a x.on ht]
  simp only [optAll_so, num_ok, rtup]
theorem model_ok (t : List TRow) (x : Act) (ht : t.length < 1000000) : law13_model.R (enc t) x.kind x.a.obj x.a.slot x.b.obj x.b.slot x.on = some (rtup (step t x)) := by
  refine law13_model.start _ _ _ _ _ _ _ _ ?_
  unfold step
  simp only [cond_ite, beq_iff_eq]
  by_cases h0 : x.kind = 0
  · rw [if_pos h0, if_pos h0, rroot_ok t x.a ht]
    exact rfl
  rw [if_neg h0, if_neg h0]
  by_cases h1 : x.kind = 1
  · rw [if_pos h1, if_pos h1, rinsert_ok t x.a x.b ht]
    exact rfl
  rw [if_neg h1, if_neg h1]
  by_cases h2 : x.kind = 2
  · rw [if_pos h2, if_pos h2, rremove_ok t x.a ht]
    exact rfl
  rw [if_neg h2, if_neg h2]
  by_cases h3 : x.kind = 3
  · rw [if_pos h3, if_pos h3, rmove_ok t x.a x.b ht]
    exact rfl
  rw [if_neg h3, if_neg h3, rmark_ok t x.a x.on ht]
  exact rfl
theorem step_len (t : List TRow) (x : Act) : (step t x).1.length ≤ t.length + 1 := by
  unfold step sRoot sInsert sRemove sMove sMark putAt outAt
  repeat' split
  all_goals simp
  all_goals omega
theorem steps_law (t u : List TRow) (x : Act) : law13_TreeSteps.R (enc t) (enc u) x.kind x.a.obj x.a.slot x.b.obj x.b.slot x.on = some (true, ()) := by
  refine law13_TreeSteps.start _ _ _ _ _ _ _ _ _ ?_
  simp only [enc_len]
  by_cases h1 : t.length > 60
  · rw [decide_eq_true (by omega)]
    simp only [cond_true, live_ok, optAll_so]
  rw [decide_eq_false (by omega)]
  by_cases h2 : u.length > 60
  · rw [decide_eq_true (by omega)]
    simp only [cond_true, cond_false, live_ok, optAll_so]
  rw [decide_eq_false (by omega)]
  simp only [cond_false, needs_iff, enc_take, List.take_length]
  refine ⟨by omega, ?_⟩
  have hs := step_len t x
  rw [does_ok t x (by omega)]
  simp only [optAll_so]
  rw [model_ok t x (by omega)]
  simp only [optAll_so, rtup]
  rw [rsame_ok _ _ (by omega) (by omega)]
  simp only [optAll_so, decide_true, cond_true, beq_self_eq_true]
  rw [check_ok t (by omega)]
  simp only [optAll_so, num_ok]
  rw [is_ok t (by omega)]
  simp only [optAll_so, er_zero, beq_self_eq_true, cond_true]
  rw [same_ok t u (by omega) (by omega)]
  simp only [optAll_so]
  rw [rsame_ok t u (by omega) (by omega)]
  simp only [optAll_so, beq_self_eq_true, cond_true]
  rw [rsame_ok t t (by omega) (by omega)]
  simp only [optAll_so, decide_true, cond_true, live_ok]
theorem tells_law (t : List TRow) (a b : K) : law13_TreeTells.R (enc t) a.obj a.slot b.obj b.slot = some (true, ()) := by
  refine law13_TreeTells.start _ _ _ _ _ _ ?_
  simp only [enc_len]
  by_cases h1 : t.length > 60
  · rw [decide_eq_true (by omega)]
    simp only [cond_true, live_ok, optAll_so]
  rw [decide_eq_false (by omega)]
  simp only [cond_false]
  rw [find_ok t a (by omega)]
  simp only [optAll_so]
  rw [rfind_ok t a (by omega)]
  simp only [optAll_so]
  rw [parent_ok t a (by omega)]
  simp only [optAll_so]
  rw [rparent_ok t a (by omega)]
  simp only [optAll_so, beq_self_eq_true, cond_true, Bool.and_true]
  rw [below_ok t a (by omega)]
  simp only [optAll_so]
  rw [rbelow_ok t a (by omega)]
  simp only [optAll_so]
  rw [krow_map, keys_same_ok _ _ (by have := under_len t a; simp; omega) (by have := under_len t a; simp; omega)]
  simp only [optAll_so, decide_true, cond_true]
  rw [descends_ok t a b (by omega)]
  simp only [optAll_so]
  rw [rdescends_ok t a b (by omega)]
  simp only [optAll_so, beq_self_eq_true, cond_true, live_ok]
end Trees
end Go.AI
