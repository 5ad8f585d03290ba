/-
  Own work. The epochs' functions: what each answers, in plain lists.
-/
import Derived.Test.YtljhobohpnpedaaTold
import Derived.Test.YtljhobohpnpedaaAiKit2
namespace Go.AI
open Go
set_option linter.unusedVariables false
set_option linter.unusedSimpArgs false
namespace Epoch
open Kit

structure Ws where
  obj : Int
  epoch : Int
  deriving DecidableEq
structure E where
  now : Int
  pins : List Int
  limbo : List (List Ws)
  deriving DecidableEq
def encW (w : Ws) : List DV := [.v (.int .i64 w.obj), .v (.int .i64 w.epoch)]
def encL (l : List Ws) : List DV := [.lst 2 (l.map encW)]
theorem w0_ (w : Ws) : dInt .i64 (encW w) 0 = some w.obj := rfl
theorem w1_ (w : Ws) : dInt .i64 (encW w) 1 = some w.epoch := rfl
theorem l0_ (l : List Ws) : dLst 2 (encL l) 0 = some (l.map encW) := rfl
theorem n0_ (n : Int) : dInt .i64 (ei n) 0 = some n := rfl
theorem encW_is (w : Ws) : [.v (.int .i64 w.obj), .v (.int .i64 w.epoch)] = encW w := rfl
theorem encL_is (l : List Ws) : [.lst 2 (l.map encW)] = encL l := rfl
theorem eqW (a b : Ws) : (a.obj == b.obj && (a.epoch == b.epoch && true)) = decide (a = b) := by
  obtain ⟨a1, a2⟩ := a
  obtain ⟨b1, b2⟩ := b
  rw [Bool.eq_iff_iff]
  simp
theorem needs_nat (k : Nat) (p : Prop) : needs ((0 : Int) ≤ (k : Int)) p = p := by
  rw [needs_iff]; exact propext ⟨fun h => h.2, fun h => ⟨Int.natCast_nonneg k, h⟩⟩
theorem live_ok : law11_live.R = some (true, ()) := law11_live.closed
theorem num_ok (n : Int) : law11_num.R n = some (n, ()) := law11_num.start _ _ rfl

/-! May a list be? -/
def limOK : List Ws → Int → Int → Bool
  | [], _, _ => true
  | w :: r, last, now => decide (0 ≤ w.obj) && decide (w.obj < 64) && decide (last ≤ w.epoch) && decide (w.epoch ≤ now) && limOK r w.epoch now
def limbo? (l : List Ws) (now : Int) : Bool := limOK l 1 now && decide (l.length ≤ 8)
theorem isLimbo_loop (l : List Ws) (now : Int) (hl : l.length < 1000000) : ∀ (m i : Nat) (last : Int), i + m = l.length →
    epoch_isLimbo.H4 (l.map encW) now last (l.map encW) l.length i (limOK (l.drop i) last now && decide (l.length ≤ 8), ()) := by
  intro m
  induction m with
  | zero =>
    intro i last hi
    refine epoch_isLimbo.H4_step _ _ _ _ _ _ _ ?_
    rw [decide_eq_false (by omega), List.drop_eq_nil_of_le (by omega)]
    simp only [cond_false, limOK, Bool.true_and, List.length_map]
    congr 1
    exact decide_eq_decide.2 (by omega)
  | succ m ih =>
    intro i last hi
    refine epoch_isLimbo.H4_step _ _ _ _ _ _ _ ?_
    have hil : i < l.length := by omega
    rw [decide_eq_true (by omega), List.drop_eq_getElem_cons hil]
    simp only [cond_true, needs_nat, Int.toNat_natCast, map_get _ _ _ hil, optAll_so, w0_, w1_, wrap_succ (show i < 4611686018427387904 by omega), limOK]
    generalize l[i] = w
    by_cases h1 : w.obj < 0
    · rw [decide_eq_true h1, decide_eq_false (show ¬ 0 ≤ w.obj by omega)]; simp
    rw [decide_eq_false h1, decide_eq_true (show 0 ≤ w.obj by omega)]
    by_cases h2 : w.obj ≥ 64
    · rw [decide_eq_true h2, decide_eq_false (show ¬ w.obj < 64 by omega)]; simp
    rw [decide_eq_false h2, decide_eq_true (show w.obj < 64 by omega)]
    by_cases h3 : w.epoch < last
    · rw [decide_eq_true h3, decide_eq_false (show ¬ last ≤ w.epoch by omega)]; simp
    rw [decide_eq_false h3, decide_eq_true (show last ≤ w.epoch by omega)]
    by_cases h4 : w.epoch > now
    · rw [decide_eq_true h4, decide_eq_false (show ¬ w.epoch ≤ now by omega)]; simp
    rw [decide_eq_false h4, decide_eq_true (show w.epoch ≤ now by omega)]
    simp only [cond_false, Bool.true_and]
    exact ih (i + 1) w.epoch (by omega)
theorem isLimbo_ok (l : List Ws) (now : Int) (hl : l.length < 1000000) : epoch_isLimbo.R (l.map encW) now = some (limbo? l now, ()) := by
  refine epoch_isLimbo.start _ _ _ ?_
  rw [List.length_map]
  exact isLimbo_loop l now hl l.length 0 1 (by omega)
/-- An error's number. -/
def er (b : Bool) : Int := match b with
  | true => 0
  | false => 2
/-! May epochs be? -/
def pinOK (now p : Int) : Bool := p == 0 || p == now || p == now + 1
def allOK (now : Int) : List Int → List (List Ws) → Bool
  | p :: ps, l :: ls => pinOK now p && limbo? l now && allOK now ps ls
  | _, _ => true
def good (e : E) : Bool := decide (1 ≤ e.pins.length) && decide (e.pins.length ≤ 64) && decide (e.limbo.length = e.pins.length) && decide (1 ≤ e.now) && decide (e.now ≤ 1099511627776) && allOK e.now e.pins e.limbo
/-- Sizes of what is looked at. -/
structure Small (e : E) : Prop where
  pins : e.pins.length < 1000000
  limbo : e.limbo.length < 1000000
  lists : ∀ l ∈ e.limbo, l.length < 1000000
  range : ∀ p ∈ e.pins, -9223372036854775808 ≤ p ∧ p < 9223372036854775808
theorem check_loop (e : E) (hs : Small e) (hn : 1 ≤ e.now ∧ e.now ≤ 1099511627776) (hl : e.limbo.length = e.pins.length) : ∀ m i : Nat, i + m = e.pins.length →
    epoch_Check.H6 (e.pins.map ei) e.pins.length i e.now (e.pins.map ei) (e.limbo.map encL) (er (allOK e.now (e.pins.drop i) (e.limbo.drop i)), ()) := by
  intro m
  induction m with
  | zero =>
    intro i hi
    refine epoch_Check.H6_step _ _ _ _ _ _ _ ?_
    rw [decide_eq_false (by omega), List.drop_eq_nil_of_le (by omega)]
    rfl
  | succ m ih =>
    intro i hi
    refine epoch_Check.H6_step _ _ _ _ _ _ _ ?_
    have hip : i < e.pins.length := by omega
    have hil : i < e.limbo.length := by omega
    have hr := hs.range _ (List.getElem_mem hip)
    have hll := hs.lists _ (List.getElem_mem hil)
    rw [decide_eq_true (by omega), List.drop_eq_getElem_cons hip, List.drop_eq_getElem_cons hil]
    simp only [cond_true, needs_nat, Int.toNat_natCast, map_get _ _ _ hip, map_get _ _ _ hil, optAll_so, n0_, l0_, isLimbo_ok _ _ hll, wrap_succ (show i < 4611686018427387904 by have := hs.pins; omega), allOK]
    have nxt := ih (i + 1) (by omega)
    generalize e.pins[i] = p at hr ⊢
    generalize e.limbo[i] = l
    have fin : cond (!limbo? l e.now) ((er (true && limbo? l e.now && allOK e.now (e.pins.drop (i + 1)) (e.limbo.drop (i + 1))), ()) = ((2 : Int), ()))
        (epoch_Check.H6 (e.pins.map ei) e.pins.length ((i + 1 : Nat) : Int) e.now (e.pins.map ei) (e.limbo.map encL) (er (true && limbo? l e.now && allOK e.now (e.pins.drop (i + 1)) (e.limbo.drop (i + 1))), ())) := by
      cases limbo? l e.now
      · rfl
      · simpa using nxt
    by_cases h0 : p = 0
    · have hp : pinOK e.now p = true := by unfold pinOK; simp [h0]
      rw [hp, show (p != 0) = false by simpa using h0]
      exact fin
    rw [show (p != 0) = true by simpa using h0]
    by_cases h1 : p = e.now
    · have hp : pinOK e.now p = true := by unfold pinOK; simp [h1]
      rw [hp, show (p != e.now) = false by simpa using h1]
      exact fin
    rw [show (p != e.now) = true by simpa using h1]
    by_cases h2 : p = e.now + 1
    · have hp : pinOK e.now p = true := by unfold pinOK; simp [h2]
      have hw : IntKind.i64.wrap (p - 1) = e.now := by rw [wrap_id (by omega) (by omega)]; omega
      rw [hp, hw, show (e.now != e.now) = false by simp]
      exact fin
    · have hp : pinOK e.now p = false := by unfold pinOK; simp [h0, h1, h2]
      have hw : IntKind.i64.wrap (p - 1) ≠ e.now := by rw [wrap_eq]; split <;> omega
      rw [hp, show (IntKind.i64.wrap (p - 1) != e.now) = true by simpa using hw]
      rfl
theorem check_ok (e : E) (hs : Small e) : epoch_Check.R e.now (e.pins.map ei) (e.limbo.map encL) = some (er (good e), ()) := by
  refine epoch_Check.start _ _ _ _ ?_
  simp only [List.length_map]
  unfold good
  by_cases h1 : (e.pins.length : Int) < 1
  · rw [decide_eq_true h1, decide_eq_false (show ¬ 1 ≤ e.pins.length by omega)]; simp [er]
  rw [decide_eq_false h1, decide_eq_true (show 1 ≤ e.pins.length by omega)]
  by_cases h2 : (e.pins.length : Int) > 64
  · rw [decide_eq_true h2, decide_eq_false (show ¬ e.pins.length ≤ 64 by omega)]; simp [er]
  rw [decide_eq_false h2, decide_eq_true (show e.pins.length ≤ 64 by omega)]
  by_cases h3 : e.limbo.length = e.pins.length
  · rw [decide_eq_true h3, show ((e.limbo.length : Int) != (e.pins.length : Int)) = false by rw [h3]; simp]
    by_cases h4 : e.now < 1
    · rw [decide_eq_true h4, decide_eq_false (show ¬ 1 ≤ e.now by omega)]; simp [er]
    rw [decide_eq_false h4, decide_eq_true (show 1 ≤ e.now by omega)]
    by_cases h5 : e.now > 1099511627776
    · rw [decide_eq_true h5, decide_eq_false (show ¬ e.now ≤ 1099511627776 by omega)]; simp [er]
    rw [decide_eq_false h5, decide_eq_true (show e.now ≤ 1099511627776 by omega)]
    simp only [cond_false, Bool.true_and]
    exact check_loop e hs ⟨by omega, by omega⟩ h3 e.pins.length 0 (by omega)
  · rw [decide_eq_false h3, show ((e.limbo.length : Int) != (e.pins.length : Int)) = true by simp; omega]; simp [er]
/-! Are two the same? -/
theorem equalI_ok (a b : List Int) (ha : a.length < 1000000) : slices_Equal_int64_int64.R (a.map ei) (b.map ei) = some (decide (a = b), ()) := by
  refine slices_Equal_int64_int64.start _ _ _ ?_
  simp only [List.length_map, cond_ite, bne_iff_ne]
  by_cases hl : a.length = b.length
  · rw [if_neg (by omega)]
    refine eq_loop a b (fun i c => slices_Equal_int64_int64.H5 (a.map ei) (b.map ei) a.length i c) hl fun i c h1 h2 => ?_
    refine slices_Equal_int64_int64.H5_step _ _ _ _ _ ?_
    by_cases hi : i < a.length
    · obtain ⟨g1, g2⟩ := h1 hi
      simp only [List.length_map, cond_ite, decide_eq_true_eq, needs_nat, Int.toNat_natCast, map_get _ _ _ hi, map_get _ _ _ (hl ▸ hi), optAll_so, n0_, bne_iff_ne, wrap_succ (show i < 4611686018427387904 by omega)]
      rw [if_pos (by omega)]
      split
      · rename_i h; exact g2 h
      · rename_i h; exact g1 (Decidable.not_not.1 h)
    · simp only [List.length_map, cond_ite, decide_eq_true_eq]
      rw [if_neg (by omega)]
      exact h2 (by omega)
  · rw [if_pos (by omega), decide_eq_false]
    intro e; subst e; exact hl rfl
theorem equalW_ok (a b : List Ws) (ha : a.length < 1000000) : slices_Equal_api_Waste_api_Waste.R (a.map encW) (b.map encW) = some (decide (a = b), ()) := by
  refine slices_Equal_api_Waste_api_Waste.start _ _ _ ?_
  simp only [List.length_map, cond_ite, bne_iff_ne]
  by_cases hl : a.length = b.length
  · rw [if_neg (by omega)]
    refine eq_loop a b (fun i c => slices_Equal_api_Waste_api_Waste.H5 (a.map encW) (b.map encW) a.length i c) hl fun i c h1 h2 => ?_
    refine slices_Equal_api_Waste_api_Waste.H5_step _ _ _ _ _ ?_
    by_cases hi : i < a.length
    · obtain ⟨g1, g2⟩ := h1 hi
      simp only [List.length_map, cond_ite, decide_eq_true_eq, needs_nat, Int.toNat_natCast, map_get _ _ _ hi, map_get _ _ _ (hl ▸ hi), optAll_so, w0_, w1_, eqW, Bool.not_eq_true', decide_eq_false_iff_not, wrap_succ (show i < 4611686018427387904 by omega)]
      rw [if_pos (by omega)]
      split
      · rename_i h; exact g2 h
      · rename_i h; exact g1 (Decidable.not_not.1 h)
    · simp only [List.length_map, cond_ite, decide_eq_true_eq]
      rw [if_neg (by omega)]
      exact h2 (by omega)
  · rw [if_pos (by omega), decide_eq_false]
    intro e; subst e; exact hl rfl
theorem equalL_ok (a b : List (List Ws)) (ha : a.length < 1000000) (hla : ∀ l ∈ a, l.length < 1000000) : slices_EqualFunc_api_Waste_api_Waste_api_Waste_api_Waste__slices_Equal_api_Waste_api_Waste.R (a.map encL) (b.map encL) = some (decide (a = b), ()) := by
  refine slices_EqualFunc_api_Waste_api_Waste_api_Waste_api_Waste__slices_Equal_api_Waste_api_Waste.start _ _ _ ?_
  simp only [List.length_map, cond_ite, bne_iff_ne]
  by_cases hl : a.length = b.length
  · rw [if_neg (by omega)]
    refine eq_loop a b (fun i c => slices_EqualFunc_api_Waste_api_Waste_api_Waste_api_Waste__slices_Equal_api_Waste_api_Waste.H5 (b.map encL) (a.map encL) a.length i c) hl fun i c h1 h2 => ?_
    refine slices_EqualFunc_api_Waste_api_Waste_api_Waste_api_Waste__slices_Equal_api_Waste_api_Waste.H5_step _ _ _ _ _ ?_
    by_cases hi : i < a.length
    · obtain ⟨g1, g2⟩ := h1 hi
      simp only [List.length_map, cond_ite, decide_eq_true_eq, needs_nat, Int.toNat_natCast, map_get _ _ _ hi, map_get _ _ _ (hl ▸ hi), optAll_so, l0_, equalW_ok _ _ (hla _ (List.getElem_mem hi)), Bool.not_eq_true', decide_eq_false_iff_not, wrap_succ (show i < 4611686018427387904 by omega)]
      rw [if_pos (by omega)]
      split
      · rename_i h; exact g2 h
      · rename_i h; exact g1 (Decidable.not_not.1 h)
    · simp only [List.length_map, cond_ite, decide_eq_true_eq]
      rw [if_neg (by omega)]
      exact h2 (by omega)
  · rw [if_pos (by omega), decide_eq_false]
    intro e; subst e; exact hl rfl
theorem eqE (a b : E) : (a.now = b.now ∧ a.pins = b.pins ∧ a.limbo = b.limbo) ↔ a = b := by cases a; cases b; simp
theorem same_ok (a b : E) (hs : Small a) : epoch_Same.R a.now (a.pins.map ei) (a.limbo.map encL) b.now (b.pins.map ei) (b.limbo.map encL) = some (decide (a = b), ()) := by
  refine epoch_Same.start _ _ _ _ _ _ _ ?_
  simp only [equalI_ok _ _ hs.pins, equalL_ok _ _ hs.limbo hs.lists, optAll_so, cond_ite, beq_iff_eq]
  rw [show decide (a = b) = decide (a.now = b.now ∧ a.pins = b.pins ∧ a.limbo = b.limbo) from decide_eq_decide.2 (eqE a b).symm]
  repeat' split
  all_goals simp_all
/-! Steps. -/
def has (e : E) (c : Int) : Bool := decide (0 ≤ c) && decide (c < e.pins.length) && good e
theorem has_ok (e : E) (c : Int) (hs : Small e) : epoch_has.R e.now (e.pins.map ei) (e.limbo.map encL) c = some (has e c, ()) := by
  refine epoch_has.start _ _ _ _ _ ?_
  simp only [check_ok e hs, optAll_so, List.length_map]
  unfold has
  by_cases h1 : c ≥ 0
  · rw [decide_eq_true h1]
    by_cases h2 : c < e.pins.length
    · rw [decide_eq_true h2]
      cases good e <;> rfl
    · rw [decide_eq_false h2]; rfl
  · rw [decide_eq_false h1]; rfl
abbrev ET := Int × (List (List DV) × (List (List DV) × Unit))
def tE (e : E) : ET := (e.now, (e.pins.map ei, (e.limbo.map encL, ())))
def pinE (e : E) (c p : Int) : E := { e with pins := e.pins.set c.toNat p }
def limE (e : E) (c : Int) (l : List Ws) : E := { e with limbo := e.limbo.set c.toNat l }
theorem pin_ok (e : E) (c p : Int) (hs : Small e) (hc : 0 ≤ c ∧ c < e.pins.length) : epoch_pin.R e.now (e.pins.map ei) (e.limbo.map encL) c p = some (tE (pinE e c p), ()) := by
  refine epoch_pin.start _ _ _ _ _ _ ?_
  have hi : c.toNat < e.pins.length := by omega
  have h1 := hs.pins
  simp only [List.length_map, Nat.zero_add, map_get _ _ _ hi, optAll_so, needs_iff]
  refine ⟨by omega, hc, Nat.le_refl _, ?_⟩
  have e1 : (e.pins.map ei).set c.toNat (putD (ei e.pins[c.toNat]) 0 [.v (.int .i64 p)]) = (e.pins.set c.toNat p).map ei := by rw [List.map_set]; rfl
  rw [e1, show e.pins.length = (e.pins.set c.toNat p).length by simp, take_map_len]
  rfl
theorem limbo_ok (e : E) (c : Int) (l : List Ws) (hs : Small e) (hc : 0 ≤ c ∧ c < e.limbo.length) : epoch_limbo.R e.now (e.pins.map ei) (e.limbo.map encL) c (l.map encW) = some (tE (limE e c l), ()) := by
  refine epoch_limbo.start _ _ _ _ _ _ ?_
  have hi : c.toNat < e.limbo.length := by omega
  have h1 := hs.limbo
  simp only [List.length_map, Nat.zero_add, map_get _ _ _ hi, optAll_so, needs_iff]
  refine ⟨by omega, hc, Nat.le_refl _, ?_⟩
  have e1 : (e.limbo.map encL).set c.toNat (putD (encL e.limbo[c.toNat]) 0 [.lst 2 (l.map encW)]) = (e.limbo.set c.toNat l).map encL := by rw [List.map_set]; rfl
  rw [e1, show e.limbo.length = (e.limbo.set c.toNat l).length by simp, take_map_len]
  rfl
theorem good_parts {e : E} (h : good e = true) : 1 ≤ e.pins.length ∧ e.pins.length ≤ 64 ∧ e.limbo.length = e.pins.length ∧ 1 ≤ e.now ∧ e.now ≤ 1099511627776 ∧ allOK e.now e.pins e.limbo = true := by
  unfold good at h
  simp only [Bool.and_eq_true, decide_eq_true_eq] at h
  obtain ⟨⟨⟨⟨⟨h1, h2⟩, h3⟩, h4⟩, h5⟩, h6⟩ := h
  exact ⟨h1, h2, h3, h4, h5, h6⟩
theorem has_parts {e : E} {c : Int} (h : has e c = true) : 0 ≤ c ∧ c < e.pins.length ∧ good e = true := by
  unfold has at h
  simp only [Bool.and_eq_true, decide_eq_true_eq] at h
  exact ⟨h.1.1, h.1.2, h.2⟩
def at' (l : List Int) (c : Int) : Int := l.getD c.toNat 0
def atL (l : List (List Ws)) (c : Int) : List Ws := l.getD c.toNat []
def pinS (e : E) (c : Int) : E × Int := if has e c = false then (e, 2) else if at' e.pins c ≠ 0 then (e, 8) else (pinE e c (e.now + 1), 0)
def unpinS (e : E) (c : Int) : E × Int := if has e c = false then (e, 2) else if at' e.pins c = 0 then (e, 7) else (pinE e c 0, 0)
def retS (e : E) (c o : Int) : E × Int :=
  if o < 0 ∨ o ≥ 64 ∨ has e c = false then (e, 2) else if 8 ≤ (atL e.limbo c).length then (e, 5) else (limE e c (atL e.limbo c ++ [⟨o, e.now⟩]), 0)
def tS (r : E × Int) : ET × (Int × Unit) := (tE r.1, (r.2, ()))
theorem pinS_ok (e : E) (c : Int) (hs : Small e) : epoch_Pin.R e.now (e.pins.map ei) (e.limbo.map encL) c = some (tS (pinS e c)) := by
  refine epoch_Pin.start _ _ _ _ _ ?_
  simp only [has_ok e c hs, optAll_so]
  unfold pinS
  cases hh : has e c
  · rfl
  · obtain ⟨h1, h2, h3⟩ := has_parts hh
    have hi : c.toNat < e.pins.length := by omega
    have hp := good_parts h3
    have hw : IntKind.i64.wrap (e.now + 1) = e.now + 1 := wrap_id (by omega) (by omega)
    have ha : at' e.pins c = e.pins[c.toNat] := by unfold at'; simp [List.getD, hi]
    simp only [Bool.not_true, cond_false, map_get _ _ _ hi, optAll_so, n0_, hw, pin_ok e c _ hs ⟨h1, h2⟩, needs_iff]
    refine ⟨h1, ?_⟩
    rw [if_neg (by decide), ha]
    by_cases h4 : e.pins[c.toNat] = 0
    · rw [if_neg (fun e => e h4), show (e.pins[c.toNat] != 0) = false by simpa using h4]; rfl
    · rw [if_pos h4, show (e.pins[c.toNat] != 0) = true by simpa using h4]; rfl
theorem unpinS_ok (e : E) (c : Int) (hs : Small e) : epoch_Unpin.R e.now (e.pins.map ei) (e.limbo.map encL) c = some (tS (unpinS e c)) := by
  refine epoch_Unpin.start _ _ _ _ _ ?_
  simp only [has_ok e c hs, optAll_so]
  unfold unpinS
  cases hh : has e c
  · rfl
  · obtain ⟨h1, h2, h3⟩ := has_parts hh
    have hi : c.toNat < e.pins.length := by omega
    have ha : at' e.pins c = e.pins[c.toNat] := by unfold at'; simp [List.getD, hi]
    simp only [Bool.not_true, cond_false, map_get _ _ _ hi, optAll_so, n0_, pin_ok e c _ hs ⟨h1, h2⟩, needs_iff]
    refine ⟨h1, ?_⟩
    rw [if_neg (by decide), ha]
    by_cases h4 : e.pins[c.toNat] = 0
    · rw [if_pos h4, show (e.pins[c.toNat] == 0) = true by simpa using h4]; rfl
    · rw [if_neg h4, show (e.pins[c.toNat] == 0) = false by simpa using h4]; rfl
theorem retS_ok (e : E) (c o : Int) (hs : Small e) : epoch_Retire.R e.now (e.pins.map ei) (e.limbo.map encL) c o = some (tS (retS e c o)) := by
  refine epoch_Retire.start _ _ _ _ _ _ ?_
  simp only [has_ok e c hs, optAll_so]
  unfold retS
  by_cases h1 : o < 0
  · rw [decide_eq_true h1, if_pos (.inl h1)]; rfl
  rw [decide_eq_false h1]
  by_cases h2 : o ≥ 64
  · rw [decide_eq_true h2, if_pos (.inr (.inl h2))]; rfl
  rw [decide_eq_false h2]
  cases hh : has e c
  · rw [if_pos (.inr (.inr rfl))]; rfl
  · rw [if_neg (show ¬ (o < 0 ∨ o ≥ 64 ∨ true = false) from fun h => by rcases h with h | h | h <;> first | exact h1 h | exact h2 h | cases h)]
    obtain ⟨h3, h4, h5⟩ := has_parts hh
    have hp := good_parts h5
    have hi : c.toNat < e.limbo.length := by omega
    have ha : atL e.limbo c = e.limbo[c.toNat] := by unfold atL; simp [List.getD, hi]
    have hll := hs.lists _ (List.getElem_mem hi)
    have hT : ∀ l : List Ws, (l.map encW ++ [encW ⟨o, e.now⟩]).take (l.map encW ++ [encW ⟨o, e.now⟩]).length = (l ++ [(⟨o, e.now⟩ : Ws)]).map encW := fun l => by rw [List.take_length, List.map_append]; rfl
    have e0 : ([.v (.int .i64 o), .v (.int .i64 e.now)] : List DV) = encW ⟨o, e.now⟩ := rfl
    simp only [Bool.not_true, cond_false, map_get _ _ _ hi, optAll_so, l0_, List.length_map, List.take_succ_cons, List.take_zero, e0, hT, limbo_ok e c _ hs ⟨h3, by omega⟩, needs_iff, ha]
    refine ⟨h3, ?_⟩
    by_cases h6 : 8 ≤ (e.limbo[c.toNat]).length
    · rw [if_pos h6, decide_eq_true (by omega)]; rfl
    · rw [if_neg h6, decide_eq_false (by omega)]
      simp only [cond_false, List.length_append, List.length_map, List.length_cons, List.length_nil]
      exact ⟨h3, by omega, trivial, by omega, rfl⟩
/-! Advance. -/
def blkOf (e : E) : Option ABlk := some (ABlk.row 3 0 [[.d (.v (.int .i64 e.now)), .d (.lst 1 (e.pins.map ei)), .d (.lst 1 (e.limbo.map encL))]])
theorem behind_loop (e : E) (hs : Small e) : ∀ m i : Nat, i + m = e.pins.length →
    ∃ r : Int, slices_IndexFunc_int64_int64__epoch_Advance_1.H3 (e.pins.map ei) e.pins.length i e.now (e.pins.map ei) (e.limbo.map encL) ((r, ()), blkOf e) ∧ decide (r ≥ 0) = (e.pins.drop i).any (· == e.now) := by
  intro m
  induction m with
  | zero =>
    intro i hi
    refine ⟨-1, slices_IndexFunc_int64_int64__epoch_Advance_1.H3_step _ _ _ _ _ _ _ ?_, ?_⟩
    · rw [decide_eq_false (by omega)]
      rfl
    · rw [List.drop_eq_nil_of_le (by omega)]; rfl
  | succ m ih =>
    intro i hi
    have hip : i < e.pins.length := by omega
    obtain ⟨r, h1, h2⟩ := ih (i + 1) (by omega)
    rw [List.drop_eq_getElem_cons hip, List.any_cons]
    by_cases h : e.pins[i] = e.now
    · refine ⟨i, slices_IndexFunc_int64_int64__epoch_Advance_1.H3_step _ _ _ _ _ _ _ ?_, ?_⟩
      · rw [decide_eq_true (by omega)]
        simp only [cond_true, needs_nat, Int.toNat_natCast, map_get _ _ _ hip, optAll_so, n0_, show (e.pins[i] == e.now) = true by simpa using h]
        rfl
      · rw [show (e.pins[i] == e.now) = true by simpa using h, decide_eq_true (by omega)]; rfl
    · refine ⟨r, slices_IndexFunc_int64_int64__epoch_Advance_1.H3_step _ _ _ _ _ _ _ ?_, ?_⟩
      · rw [decide_eq_true (by omega)]
        simp only [cond_true, needs_nat, Int.toNat_natCast, map_get _ _ _ hip, optAll_so, n0_, show (e.pins[i] == e.now) = false by simpa using h, cond_false, wrap_succ (show i < 4611686018427387904 by have := hs.pins; omega)]
        exact h1
      · rw [show (e.pins[i] == e.now) = false by simpa using h, h2]; rfl
theorem behind_ok (e : E) (hs : Small e) : slices_ContainsFunc_int64_int64__epoch_Advance_1.R (e.pins.map ei) e.now (e.pins.map ei) (e.limbo.map encL) = some ((e.pins.any (· == e.now), ()), blkOf e) := by
  refine slices_ContainsFunc_int64_int64__epoch_Advance_1.start _ _ _ _ _ ?_
  obtain ⟨r, h1, h2⟩ := behind_loop e hs e.pins.length 0 (by omega)
  have h3 : slices_IndexFunc_int64_int64__epoch_Advance_1.R (e.pins.map ei) e.now (e.pins.map ei) (e.limbo.map encL) = some ((r, ()), blkOf e) := by
    refine slices_IndexFunc_int64_int64__epoch_Advance_1.start _ _ _ _ _ ?_
    rw [List.length_map]
    exact h1
  rw [h3]
  simp only [optAll_so]
  refine needs_iff.2 ⟨rfl, ?_⟩
  rw [h2]; rfl
def advS (e : E) : E × Bool := if good e = false then (e, false) else if e.now = 1099511627776 then (e, false) else if e.pins.any (· == e.now) then (e, false) else ({ e with now := e.now + 1 }, true)
def tV (r : E × Bool) : ET × (Bool × Unit) := (tE r.1, (r.2, ()))
theorem advS_ok (e : E) (hs : Small e) : epoch_Advance.R e.now (e.pins.map ei) (e.limbo.map encL) = some (tV (advS e)) := by
  refine epoch_Advance.start _ _ _ _ ?_
  simp only [check_ok e hs, behind_ok e hs, optAll_so]
  unfold advS
  cases hg : good e
  · rfl
  · have hp := good_parts hg
    have hw : IntKind.i64.wrap (e.now + 1) = e.now + 1 := wrap_id (by omega) (by omega)
    simp only [if_true, bne_self_eq_false, cond_false, hw]
    rw [if_neg (by decide)]
    by_cases h1 : e.now = 1099511627776
    · rw [if_pos h1, show (e.now == 1099511627776) = true by simpa using h1]; rfl
    · rw [if_neg h1, show (e.now == 1099511627776) = false by simpa using h1]
      simp only [cond_false]
      refine needs_iff.2 ⟨rfl, ?_⟩
      cases e.pins.any (· == e.now) <;> rfl
end Epoch
end Go.AI
