/-
  Own work. tree's functions: what is done to a list; who is below, above.
-/
import Derived.Test.YtjjchnnnchccgaaTree1
namespace Go.AI
open Go
set_option linter.unusedVariables false
set_option linter.unusedSimpArgs false
namespace Trees
open Kit Ghost

theorem right_1_ok (k : K) : tree_right_1.R k.obj k.slot = some (!kOK k, ()) := by
  refine tree_right_1.start _ _ _ ?_
  rw [order_ok]
  simp only [optAll_so]
  cases kOK k <;> rfl
theorem ek0 (k : K) : dInt .i64 (encK k) 0 = some k.obj := rfl
theorem ek1 (k : K) : dInt .i64 (encK k) 1 = some k.slot := rfl
theorem indexf_step (l : List K) (i : Nat) (hi : i < l.length) (hl : l.length < 1000000) (c : Int × Unit)
    (h1 : kOK l[i] = false → c = ((i : Int), ())) (h2 : kOK l[i] = true → slices_IndexFunc_api_Key_api_Key__tree_right_1.H3 (l.map encK) l.length ((i + 1 : Nat) : Int) c) :
    slices_IndexFunc_api_Key_api_Key__tree_right_1.H3 (l.map encK) l.length i c := by
  refine slices_IndexFunc_api_Key_api_Key__tree_right_1.H3_step _ _ _ _ ?_
  rw [decide_eq_true (by omega)]
  simp only [cond_true, needs_nat, Int.toNat_natCast, map_get _ _ _ hi, optAll_so, ek0, ek1, right_1_ok, wrap_succ (show i < 4611686018427387904 by omega)]
  cases hk : kOK l[i] with
  | false => exact h1 hk
  | true => exact h2 hk
theorem indexf_end (l : List K) (c : Int × Unit) (h : c = (-1, ())) : slices_IndexFunc_api_Key_api_Key__tree_right_1.H3 (l.map encK) l.length (l.length : Int) c := by
  refine slices_IndexFunc_api_Key_api_Key__tree_right_1.H3_step _ _ _ _ ?_
  rw [decide_eq_false (by omega)]
  exact h
theorem anybad (l : List K) (hl : l.length < 1000000) : ∃ r : Int, slices_IndexFunc_api_Key_api_Key__tree_right_1.R (l.map encK) = some (r, ()) ∧ decide (r ≥ 0) = !l.all kOK := by
  have key : ∀ m i : Nat, i + m = l.length → ∃ r : Int, slices_IndexFunc_api_Key_api_Key__tree_right_1.H3 (l.map encK) l.length i (r, ()) ∧ decide (r ≥ 0) = !(l.drop i).all kOK := by
    intro m
    induction m with
    | zero =>
      intro i hi
      obtain rfl : i = l.length := by omega
      exact ⟨-1, indexf_end l _ rfl, by simp⟩
    | succ m ih =>
      intro i hi
      have hil : i < l.length := by omega
      obtain ⟨r, h1, h2⟩ := ih (i + 1) (by omega)
      rw [List.drop_eq_getElem_cons hil]
      simp only [List.all_cons]
      cases hk : kOK l[i] with
      | false => exact ⟨i, indexf_step l i hil hl _ (fun _ => rfl) (fun h => by rw [hk] at h; cases h), by simp⟩
      | true => exact ⟨r, indexf_step l i hil hl _ (fun h => by rw [hk] at h; cases h) (fun _ => h1), by simpa using h2⟩
  obtain ⟨r, h1, h2⟩ := key l.length 0 (by omega)
  refine ⟨r, slices_IndexFunc_api_Key_api_Key__tree_right_1.start _ _ ?_, by simpa using h2⟩
  rw [List.length_map]
  exact h1
theorem right_ok (t : List TRow) (l : List K) (ht : t.length < 1000000) (hl : l.length < 1000000) : tree_right.R (enc t) (l.map encK) = some (tOK t && l.all kOK, ()) := by
  refine tree_right.start _ _ _ ?_
  rw [check_ok t ht]
  simp only [optAll_so, er_zero]
  cases tOK t with
  | false => rfl
  | true =>
    obtain ⟨r, h1, h2⟩ := anybad l hl
    have : slices_ContainsFunc_api_Key_api_Key__tree_right_1.R (l.map encK) = some (!l.all kOK, ()) := by
      refine slices_ContainsFunc_api_Key_api_Key__tree_right_1.start _ _ ?_
      rw [h1]
      simp only [optAll_so, h2]
    simp only [cond_true, this, optAll_so, Bool.not_not, Bool.true_and]
theorem right1_ok (t : List TRow) (k : K) (ht : t.length < 1000000) : tree_right.R (enc t) (([[(DV.v (Value.int IntKind.i64 k.obj)), (DV.v (Value.int IntKind.i64 k.slot))]]).take (1)) = some (tOK t && kOK k, ()) := by
  have := right_ok t [k] ht (by simp)
  simp only [List.all_cons, List.all_nil, Bool.and_true] at this
  exact this
theorem right2_ok (t : List TRow) (a b : K) (ht : t.length < 1000000) : tree_right.R (enc t) (([[(DV.v (Value.int IntKind.i64 a.obj)), (DV.v (Value.int IntKind.i64 a.slot))], [(DV.v (Value.int IntKind.i64 b.obj)), (DV.v (Value.int IntKind.i64 b.slot))]]).take (2)) = some (tOK t && (kOK a && kOK b), ()) := by
  have := right_ok t [a, b] ht (by simp)
  simp only [List.all_cons, List.all_nil, Bool.and_true] at this
  exact this
theorem row_is (o s d : Int) (m : Bool) : [DV.v (Value.int IntKind.i64 o), DV.v (Value.int IntKind.i64 s), DV.v (Value.int IntKind.i64 d), DV.v (Value.bool m)] = TRow.row ⟨o, s, d, m⟩ := rfl
theorem enc_take (t : List TRow) (n : Nat) : (enc t).take n = enc (t.take n) := by simp [enc, List.map_take]
theorem enc_drop (t : List TRow) (n : Nat) : (enc t).drop n = enc (t.drop n) := by simp [enc, List.map_drop]
theorem enc_app (a b : List TRow) : enc a ++ enc b = enc (a ++ b) := by simp [enc]
theorem enc_one (r : TRow) : [r.row] = enc [r] := rfl
theorem take1 {α : Type} (x : α) : [x].take 1 = [x] := rfl
theorem take_len {α : Type} (l : List α) : l.take l.length = l := List.take_length
def putAt (t : List TRow) (i : Nat) (r : TRow) : List TRow := t.take i ++ [r] ++ t.drop i
theorem put_ok (t : List TRow) (i : Nat) (r : TRow) (ht : t.length < 1000000) (hi : i ≤ t.length) : tree_put.R (enc t) i r.obj r.slot r.depth r.mark = some (enc (putAt t i r), ()) := by
  refine tree_put.start _ _ _ _ _ _ _ ?_
  simp only [Int.toNat_natCast, row_is, enc_len, take1, enc_one, enc_take, enc_drop, enc_app, take_len, needs_iff, List.take_length]
  simp only [List.length_append, List.length_take, List.length_drop, List.length_cons, List.length_nil]
  exact ⟨trivial, by omega, by omega, by omega, trivial, by omega, rfl⟩
theorem rput_ok (t : List TRow) (i : Nat) (r : TRow) (ht : t.length < 1000000) (hi : i ≤ t.length) : ref13_put.R (enc t) i r.obj r.slot r.depth r.mark = some (enc (putAt t i r), ()) := by
  refine ref13_put.start _ _ _ _ _ _ _ ?_
  simp only [Int.toNat_natCast, row_is, enc_len, take1, enc_one, enc_take, enc_drop, enc_app, take_len, needs_iff, List.take_length]
  simp only [List.length_append, List.length_take, List.length_drop, List.length_cons, List.length_nil]
  exact ⟨by omega, by omega, trivial, by omega, by omega, trivial, by omega, rfl⟩
theorem rout_ok (t : List TRow) (i : Nat) (ht : t.length < 1000000) (hi : i < t.length) : ref13_out.R (enc t) i = some (enc (t.take i ++ t.drop (i + 1)), ()) := by
  refine ref13_out.start _ _ _ ?_
  rw [wrap_succ (show i < 4611686018427387904 by omega)]
  simp only [Int.toNat_natCast, row_is, enc_len, take1, enc_one, enc_take, enc_drop, enc_app, take_len, needs_iff, List.take_length]
  simp only [List.length_append, List.length_take, List.length_drop, List.length_cons, List.length_nil]
  exact ⟨by omega, by omega, by omega, trivial, by omega, trivial⟩
theorem with_ok (t : List TRow) (i : Nat) (r : TRow) (ht : t.length < 1000000) (hi : i < t.length) : tree_with.R (enc t) i r.obj r.slot r.depth r.mark = some (enc (t.set i r), ()) := by
  refine tree_with.start _ _ _ _ _ _ _ ?_
  simp only [Int.toNat_natCast, row_is, enc_len, take1, Nat.zero_add, enc_get _ _ hi, optAll_so, needs_iff]
  refine ⟨by omega, by omega, by simp [TRow.row], ?_⟩
  rw [List.take_of_length_le (by simp [enc])]
  have : putD t[i].row 0 (TRow.row ⟨r.obj, r.slot, r.depth, r.mark⟩) = r.row := rfl
  rw [this]
  simp [enc, List.map_set]

/-! Those below a place -/
theorem map_rows (t : List TRow) : mapO rowOf (enc t) = some t := by
  induction t with
  | nil => rfl
  | cons r t ih =>
    simp only [enc, List.map_cons, mapO] at ih ⊢
    rw [ih]
    rfl
theorem belowOf_ok (t : List TRow) (i : Nat) (ht : t.length < 1000000) (hi : i < t.length) : belowOf 90 90 (enc t) i = some ((underOf t i).map TRow.krow) := by
  unfold belowOf
  rw [if_pos ⟨rfl, by omega, by rw [enc_len]; omega, by rw [enc_len]; omega⟩, map_rows]
  simp
theorem gather_ok (t : List TRow) (i : Nat) (ht : t.length < 1000000) (hi : i < t.length) : gather cfg 90 [DV.ptr [DV.lst 4 (enc t)] 0, DV.ptr [DV.v (Value.int IntKind.i64 (i : Int))] 0] = some ((underOf t i).map TRow.krow) := by
  show (match (if 78 = 78 then collOf 90 [AV.d (DV.fn 90 [DV.ptr [DV.lst 4 (enc t)] 0, DV.ptr [DV.v (Value.int IntKind.i64 (i : Int))] 0])] else none) with | some (.d (.lst _ xs)) => some xs | _ => none) = _
  rw [if_pos rfl]
  unfold collOf
  simp only [belowOf_ok t i ht hi]
theorem coll_ok (t : List TRow) (i : Nat) (ht : t.length < 1000000) (hi : i < t.length) : retOf cfg.prim [.one (.lst 2)] 78 [AV.d (DV.fn 90 [DV.ptr [DV.lst 4 (enc t)] 0, DV.ptr [DV.v (Value.int IntKind.i64 (i : Int))] 0])] = some ((underOf t i).map TRow.krow, ()) := by
  show (match (if 78 = 78 then collOf 90 [AV.d (DV.fn 90 [DV.ptr [DV.lst 4 (enc t)] 0, DV.ptr [DV.v (Value.int IntKind.i64 (i : Int))] 0])] else none) with | some v => decS [.one (.lst 2)] v | none => none) = _
  rw [if_pos rfl]
  unfold collOf
  simp only [belowOf_ok t i ht hi]
  rfl
/-- Those below a key. -/
def bel (t : List TRow) (k : K) : List TRow := if fnd t k < 0 then [] else underOf t (fnd t k).toNat
theorem below_ok (t : List TRow) (k : K) (ht : t.length < 1000000) : tree_Below.R (enc t) k.obj k.slot = some ((bel t k).map TRow.krow, ()) := by
  refine tree_Below.start _ _ _ _ ?_
  rw [find_ok t k ht]
  simp only [optAll_so]
  unfold bel
  rcases fnd_cases t k with ⟨h1, _⟩ | ⟨i, hi, h1, _, _⟩
  · rw [h1, ftup_neg]; rfl
  · rw [h1, ftup_nat, if_neg (by omega)]
    simp only [Bool.not_true, cond_false, Int.toNat_natCast]
    rw [coll_ok t i ht hi]
    exact rfl
theorem tw_cases {α : Type} (p : α → Bool) (w : List α) (x0 : α) : (∀ j, j < (w.takeWhile p).length → j < w.length ∧ p (w.getD j x0) = true) ∧ ((w.takeWhile p).length = w.length ∨ ((w.takeWhile p).length < w.length ∧ p (w.getD (w.takeWhile p).length x0) = false)) := by
  induction w with
  | nil => exact ⟨fun j hj => absurd hj (by simp), .inl rfl⟩
  | cons a w ih =>
    obtain ⟨h1, h2⟩ := ih
    cases hp : p a with
    | false =>
      rw [List.takeWhile_cons, hp]
      exact ⟨fun j hj => absurd hj (by simp), .inr ⟨by simp, by simpa using hp⟩⟩
    | true =>
      rw [List.takeWhile_cons, hp]
      simp only [if_true, List.length_cons]
      refine ⟨fun j hj => ?_, h2.imp (fun h => by omega) (fun h => ⟨by omega, by simpa using h.2⟩)⟩
      cases j with
      | zero => exact ⟨by omega, by simpa using hp⟩
      | succ j => exact ⟨by have := h1 j (by omega); omega, by simpa using (h1 j (by omega)).2⟩
/-- The rows below a place: which they are. -/
theorem under_spec {t : List TRow} {i : Nat} (hi : i < t.length) : i + 1 + (underOf t i).length ≤ t.length ∧ (∀ j, i < j → j < i + 1 + (underOf t i).length → dd t i < dd t j) ∧ (i + 1 + (underOf t i).length = t.length ∨ dd t (i + 1 + (underOf t i).length) ≤ dd t i) ∧
    underOf t i = (t.drop (i + 1)).take (underOf t i).length := by
  have hu : underOf t i = (t.drop (i + 1)).takeWhile fun r => decide (dd t i < r.depth) := by
    unfold underOf dd
    rw [getD_lt t hi, List.getElem?_eq_getElem hi]
  obtain ⟨h1, h2⟩ := tw_cases (fun r => decide (dd t i < r.depth)) (t.drop (i + 1)) dr
  rw [← hu] at h1 h2
  have hl : (t.drop (i + 1)).length = t.length - (i + 1) := List.length_drop
  have hg : ∀ j, (t.drop (i + 1)).getD j dr = t.getD (i + 1 + j) dr := fun j => by simp [List.getD_eq_getElem?_getD, List.getElem?_drop]
  rw [hl] at h2
  refine ⟨?_, fun j h3 h4 => ?_, ?_, ?_⟩
  · rcases h2 with h2 | h2 <;> omega
  · have := (h1 (j - (i + 1)) (by omega)).2
    rw [hg, show i + 1 + (j - (i + 1)) = j by omega] at this
    simpa [dd] using this
  · rcases h2 with h2 | ⟨_, h2⟩
    · exact .inl (by omega)
    · rw [hg] at h2
      exact .inr (by simpa [dd] using h2)
  · rw [hu]
    have : ∀ (p : TRow → Bool) (w : List TRow), w.takeWhile p = w.take (w.takeWhile p).length := by
      intro p w
      induction w with
      | nil => rfl
      | cons a w ih =>
        rw [List.takeWhile_cons]
        split
        · rw [List.length_cons, List.take_succ_cons, ← ih]
        · rfl
    exact this _ _
theorem under_get {t : List TRow} {i : Nat} (hi : i < t.length) {n : Nat} (hn : n < (underOf t i).length) : (underOf t i)[n] = t[i + 1 + n]'(by have := (under_spec hi).1; omega) := by
  have h := (under_spec hi).2.2.2
  have h2 : (underOf t i)[n]? = ((t.drop (i + 1)).take (underOf t i).length)[n]? := by rw [← h]
  rw [List.getElem?_take_of_lt hn, List.getElem?_drop, List.getElem?_eq_getElem hn, List.getElem?_eq_getElem (by have := (under_spec hi).1; omega)] at h2
  exact Option.some.inj h2
theorem count_ok (t : List TRow) (i : Nat) (ht : t.length < 1000000) (hi : i < t.length) : ref13_count.R (enc t) i = some (((underOf t i).length : Int), ()) := by
  refine ref13_count.start _ _ _ ?_
  obtain ⟨u1, u2, u3, _⟩ := under_spec hi
  have hdi : t[i].depth = dd t i := by unfold dd; rw [getD_lt t hi]
  have key : ∀ m n : Nat, n + m = (underOf t i).length → ref13_count.H3 (enc t) i n (((underOf t i).length : Int), ()) := by
    intro m
    have hw : ∀ n : Nat, n ≤ (underOf t i).length → IntKind.i64.wrap (IntKind.i64.wrap ((i : Int) + 1) + (n : Int)) = ((i + 1 + n : Nat) : Int) := fun n hn => by
      rw [wrap_succ (show i < 4611686018427387904 by omega), wrap_id (by omega) (by omega)]; omega
    induction m with
    | zero =>
      intro n hn
      refine ref13_count.H3_step _ _ _ _ ?_
      rw [hw n (by omega), enc_len]
      rcases u3 with u3 | u3
      · rw [decide_eq_false (by omega)]
        show (_, ()) = (_, ())
        rw [show n = (underOf t i).length by omega]
      · by_cases hlt : i + 1 + n < t.length
        · rw [decide_eq_true (by omega)]
          simp only [cond_true, needs_nat, Int.toNat_natCast, enc_get _ _ hlt, enc_get _ _ hi, optAll_so, t2_]
          have hdn : t[i + 1 + n].depth = dd t (i + 1 + n) := by unfold dd; rw [getD_lt t hlt]
          rw [decide_eq_false (by rw [hdn, hdi]; rw [show i + 1 + n = i + 1 + (underOf t i).length by omega]; omega)]
          show (_, ()) = (_, ())
          rw [show n = (underOf t i).length by omega]
        · rw [decide_eq_false (by omega)]
          show (_, ()) = (_, ())
          rw [show n = (underOf t i).length by omega]
    | succ m ih =>
      intro n hn
      refine ref13_count.H3_step _ _ _ _ ?_
      have hlt : i + 1 + n < t.length := by omega
      rw [hw n (by omega), enc_len, decide_eq_true (by omega)]
      simp only [cond_true, needs_nat, Int.toNat_natCast, enc_get _ _ hlt, enc_get _ _ hi, optAll_so, t2_]
      have hdn : t[i + 1 + n].depth = dd t (i + 1 + n) := by unfold dd; rw [getD_lt t hlt]
      have := u2 (i + 1 + n) (by omega) (by omega)
      rw [decide_eq_true (by rw [hdn, hdi]; omega), wrap_succ (show n < 4611686018427387904 by omega)]
      exact ih (n + 1) (by omega)
  exact key (underOf t i).length 0 (by omega)
theorem rbelow_ok (t : List TRow) (k : K) (ht : t.length < 1000000) : ref13_Below.R (enc t) k.obj k.slot = some ((bel t k).map TRow.krow, ()) := by
  refine ref13_Below.start _ _ _ _ ?_
  rw [rfind_ok t k ht]
  simp only [optAll_so]
  unfold bel
  rcases fnd_cases t k with ⟨h1, _⟩ | ⟨i, hi, h1, _, _⟩
  · rw [h1, ftup_neg]; rfl
  · rw [h1, ftup_nat, if_neg (by omega)]
    simp only [cond_true, Int.toNat_natCast]
    obtain ⟨u1, u2, u3, u4⟩ := under_spec hi
    have key : ∀ m n : Nat, n + m = (underOf t i).length → ref13_Below.H6 (enc t) i (((underOf t i).take n).map TRow.krow) n ((underOf t i).map TRow.krow, ()) := by
      intro m
      induction m with
      | zero =>
        intro n hn
        refine ref13_Below.H6_step _ _ _ _ _ ?_
        rw [count_ok t i ht hi]
        simp only [optAll_so]
        rw [decide_eq_false (by omega)]
        show (_, ()) = (_, ())
        rw [List.take_length, List.take_of_length_le (by omega)]
      | succ m ih =>
        intro n hn
        refine ref13_Below.H6_step _ _ _ _ _ ?_
        rw [count_ok t i ht hi]
        simp only [optAll_so]
        have hlt : i + 1 + n < t.length := by omega
        rw [decide_eq_true (by omega), wrap_succ (show i < 4611686018427387904 by omega), wrap_succ (show n < 4611686018427387904 by omega), wrap_id (n := ((i + 1 : Nat) : Int) + (n : Int)) (by omega) (by omega), show ((i + 1 : Nat) : Int) + (n : Int) = ((i + 1 + n : Nat) : Int) by omega]
        simp only [cond_true, needs_nat, Int.toNat_natCast, enc_get _ _ hlt, optAll_so, t0_, t1_, needs_iff, take1]
        refine ⟨by omega, trivial, needs_iff.2 ⟨?_, ?_⟩⟩
        · simp only [List.length_append, List.length_map, List.length_take, List.length_cons, List.length_nil]
          omega
        · have e : ((underOf t i).take (n + 1)).map TRow.krow = ((underOf t i).take n).map TRow.krow ++ [[DV.v (Value.int IntKind.i64 t[i + 1 + n].obj), DV.v (Value.int IntKind.i64 t[i + 1 + n].slot)]] := by
            rw [List.take_succ_eq_append_getElem (by omega), List.map_append, under_get hi (by omega)]
            rfl
          have := ih (n + 1) (by omega)
          rw [e] at this
          exact this
    exact key (underOf t i).length 0 (by omega)
/-! Who is right above -/
def parI (t : List TRow) (d : Int) : Nat → Option Nat
  | 0 => none
  | n + 1 => if dd t n < d then some n else parI t d n
def par (t : List TRow) (k : K) : Option TRow := if fnd t k < 0 then none else (parI t (dd t (fnd t k).toNat) (fnd t k).toNat).map fun n => t.getD n dr
def ptup : Option TRow → (Int × (Int × Unit)) × (Bool × Unit)
  | some r => ((r.obj, (r.slot, ())), (true, ()))
  | none => ((0, (0, ())), (false, ()))
theorem ge_nat (n : Nat) : decide (((n : Nat) : Int) ≥ 0) = true := decide_eq_true (by omega)
theorem parent_ok (t : List TRow) (k : K) (ht : t.length < 1000000) : tree_Parent.R (enc t) k.obj k.slot = some (ptup (par t k)) := by
  refine tree_Parent.start _ _ _ _ ?_
  rw [find_ok t k ht]
  simp only [optAll_so]
  unfold par
  rcases fnd_cases t k with ⟨h1, _⟩ | ⟨i, hi, h1, _, _⟩
  · rw [h1, ftup_neg]
    refine tree_Parent.H4_step _ _ _ _ _ _ _ ?_
    rfl
  · rw [h1, ftup_nat, if_neg (by omega)]
    simp only [Int.toNat_natCast]
    have hdi : t[i].depth = dd t i := by unfold dd; rw [getD_lt t hi]
    have key : ∀ n : Nat, n ≤ i → tree_Parent.H4 (enc t) i true (IntKind.i64.wrap ((n : Int) - 1)) 0 0 (ptup ((parI t (dd t i) n).map fun n => t.getD n dr)) := by
      intro n
      induction n with
      | zero =>
        intro _
        refine tree_Parent.H4_step _ _ _ _ _ _ _ ?_
        rfl
      | succ n ih =>
        intro hn
        refine tree_Parent.H4_step _ _ _ _ _ _ _ ?_
        have hw : IntKind.i64.wrap (((n + 1 : Nat) : Int) - 1) = (n : Int) := by rw [wrap_id (by omega) (by omega)]; omega
        have hnl : n < t.length := by omega
        rw [hw, ge_nat]
        simp only [cond_true, needs_nat, Int.toNat_natCast, enc_get _ _ hnl, enc_get _ _ hi, optAll_so, t0_, t1_, t2_]
        have hdn : t[n].depth = dd t n := by unfold dd; rw [getD_lt t hnl]
        rw [hdn, hdi]
        simp only [parI]
        by_cases h : dd t n < dd t i
        · rw [decide_eq_true h, if_pos h]
          simp only [cond_true, Option.map_some, ptup]
          rw [getD_lt t hnl]
        · rw [decide_eq_false h, if_neg h]
          exact ih (by omega)
    exact key i (Nat.le_refl _)
theorem rparent_ok (t : List TRow) (k : K) (ht : t.length < 1000000) : ref13_Parent.R (enc t) k.obj k.slot = some (ptup (par t k)) := by
  refine ref13_Parent.start _ _ _ _ ?_
  rw [rfind_ok t k ht]
  simp only [optAll_so]
  unfold par
  rcases fnd_cases t k with ⟨h1, _⟩ | ⟨i, hi, h1, _, _⟩
  · rw [h1, ftup_neg]
    rfl
  · rw [h1, ftup_nat, if_neg (by omega)]
    simp only [Bool.not_true, cond_false, Int.toNat_natCast]
    have hdi : t[i].depth = dd t i := by unfold dd; rw [getD_lt t hi]
    have key : ∀ n : Nat, n ≤ i → ref13_Parent.H6 (enc t) i (IntKind.i64.wrap ((n : Int) - 1)) 0 0 (ptup ((parI t (dd t i) n).map fun n => t.getD n dr)) := by
      intro n
      induction n with
      | zero =>
        intro _
        refine ref13_Parent.H6_step _ _ _ _ _ _ ?_
        rfl
      | succ n ih =>
        intro hn
        refine ref13_Parent.H6_step _ _ _ _ _ _ ?_
        have hw : IntKind.i64.wrap (((n + 1 : Nat) : Int) - 1) = (n : Int) := by rw [wrap_id (by omega) (by omega)]; omega
        have hnl : n < t.length := by omega
        rw [hw, ge_nat]
        simp only [cond_true, needs_nat, Int.toNat_natCast, enc_get _ _ hnl, enc_get _ _ hi, optAll_so, t0_, t1_, t2_]
        have hdn : t[n].depth = dd t n := by unfold dd; rw [getD_lt t hnl]
        rw [hdn, hdi]
        simp only [parI]
        by_cases h : dd t n < dd t i
        · rw [decide_eq_true h, if_pos h]
          simp only [cond_true, Option.map_some, ptup]
          rw [getD_lt t hnl]
        · rw [decide_eq_false h, if_neg h]
          exact ih (by omega)
    exact key i (Nat.le_refl _)
/-! Does one descend from another one -/
def des (t : List TRow) (a b : K) : Bool := decide (a ∈ (bel t b).map kk)
theorem krow_map (l : List TRow) : l.map TRow.krow = (l.map kk).map encK := by
  rw [List.map_map]
  exact List.map_congr_left fun r _ => rfl
theorem under_len (t : List TRow) (k : K) : (bel t k).length ≤ t.length := by
  unfold bel
  split
  · simp
  · rcases fnd_cases t k with ⟨h1, _⟩ | ⟨i, hi, h1, _, _⟩
    · omega
    · rw [h1, Int.toNat_natCast]
      have := (under_spec hi).1
      omega
theorem descends_ok (t : List TRow) (a b : K) (ht : t.length < 1000000) : tree_Descends.R (enc t) a.obj a.slot b.obj b.slot = some (des t a b, ()) := by
  refine tree_Descends.start _ _ _ _ _ _ ?_
  rw [below_ok t b ht]
  simp only [optAll_so]
  have hc : slices_Contains_api_Key_api_Key.R ((bel t b).map TRow.krow) a.obj a.slot = some (des t a b, ()) := by
    refine slices_Contains_api_Key_api_Key.start _ _ _ _ ?_
    rw [krow_map, index_ok _ _ (by have := under_len t b; simp; omega)]
    simp only [optAll_so]
    unfold des
    rcases idx_cases ((bel t b).map kk) a with ⟨h1, h2⟩ | ⟨k, hk, h1, h2, _⟩
    · rw [h1, decide_eq_false h2]; rfl
    · rw [h1, decide_eq_true (h2 ▸ List.getElem_mem hk), decide_eq_true (by omega)]
  rw [hc]
  exact rfl
theorem has_ok (q : List K) (c : K) (hl : q.length < 1000000) : ref06_Has.R (q.map encK) c.obj c.slot = some (decide (c ∈ q), ()) := by
  refine ref06_Has.start _ _ _ _ ?_
  have key : ∀ m i : Nat, i + m = q.length → ref06_Has.H3 (q.map encK) i c.obj c.slot (decide (c ∈ q.drop i), ()) := by
    intro m
    induction m with
    | zero =>
      intro i hi
      refine ref06_Has.H3_step _ _ _ _ _ ?_
      rw [List.length_map, decide_eq_false (by omega), List.drop_eq_nil_of_le (by omega)]
      rfl
    | succ m ih =>
      intro i hi
      refine ref06_Has.H3_step _ _ _ _ _ ?_
      have hil : i < q.length := by omega
      rw [List.length_map, decide_eq_true (by omega), List.drop_eq_getElem_cons hil]
      simp only [cond_true, needs_nat, Int.toNat_natCast, map_get _ _ _ hil, optAll_so, ek0, ek1, eqK, cond_ite, decide_eq_true_eq, wrap_succ (show i < 4611686018427387904 by omega)]
      by_cases h : q[i] = c
      · rw [if_pos h, decide_eq_true (by rw [h]; exact List.mem_cons_self ..)]
      · rw [if_neg h]
        have e : decide (c ∈ q[i] :: q.drop (i + 1)) = decide (c ∈ q.drop (i + 1)) := by
          rw [decide_eq_decide, List.mem_cons]
          exact ⟨fun hx => hx.elim (fun e => absurd e.symm h) id, .inr⟩
        rw [e]
        exact ih (i + 1) (by omega)
  exact key q.length 0 (by omega)
theorem rdescends_ok (t : List TRow) (a b : K) (ht : t.length < 1000000) : ref13_Descends.R (enc t) a.obj a.slot b.obj b.slot = some (des t a b, ()) := by
  refine ref13_Descends.start _ _ _ _ _ _ ?_
  rw [rbelow_ok t b ht]
  simp only [optAll_so]
  rw [krow_map, has_ok _ _ (by have := under_len t b; simp; omega)]
  exact rfl
theorem keys_same_ok (a b : List K) (ha : a.length < 1000000) (hb : b.length < 1000000) : ref06_Same.R (a.map encK) (b.map encK) = some (decide (a = b), ()) := by
  refine ref06_Same.start _ _ _ ?_
  rw [List.length_map, List.length_map]
  by_cases hl : a.length = b.length
  · rw [show (((a.length : Nat) : Int) != ((b.length : Nat) : Int)) = false by simp [hl]]
    refine eq_loop a b (fun i c => ref06_Same.H5 (a.map encK) (b.map encK) i c) hl fun i c h1 h2 => ?_
    refine ref06_Same.H5_step _ _ _ _ ?_
    rw [List.length_map]
    by_cases hi : i < a.length
    · rw [decide_eq_true (by omega)]
      simp only [cond_true, needs_nat, Int.toNat_natCast, map_get _ _ _ hi, map_get _ b i (by omega), optAll_so, ek0, ek1, eqK, wrap_succ (show i < 4611686018427387904 by omega)]
      by_cases he : a[i] = b[i]'(by omega)
      · rw [decide_eq_true he]; exact (h1 hi).1 he
      · rw [decide_eq_false he]; exact (h1 hi).2 he
    · rw [decide_eq_false (by omega)]
      exact h2 (by omega)
  · rw [show (((a.length : Nat) : Int) != ((b.length : Nat) : Int)) = true by simp; omega, decide_eq_false (fun e => hl (by rw [e]))]
    rfl
end Trees
end Go.AI
