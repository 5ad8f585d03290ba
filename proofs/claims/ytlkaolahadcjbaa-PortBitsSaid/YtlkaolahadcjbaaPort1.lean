/-
  Own work. The ports' functions: what each answers, in plain lists.
-/
import Derived.Test.YtlkaolahadcjbaaTold
import Derived.Test.YtlkaolahadcjbaaAiKit2
namespace Go.AI
open Go
set_option linter.unusedVariables false
set_option linter.unusedSimpArgs false
namespace Port
open Kit

structure W where
  core : Int
  value : Int
  badge : Int
  has : Bool
  ko : Int
  ks : Int
  gen : Int
  grant : Bool
  deriving DecidableEq
def w0 : W := ⟨0, 0, 0, false, 0, 0, 0, false⟩
structure P where
  kind : Int
  word : Int
  q : List W
  deriving DecidableEq
def encW (w : W) : List DV := [.v (.int .i64 w.core), .v (.int .i64 w.value), .v (.int .i64 w.badge), .v (.bool w.has), .v (.int .i64 w.ko), .v (.int .i64 w.ks), .v (.int .i64 w.gen), .v (.bool w.grant)]
section cells
variable (w : W)
theorem w0_ : dInt .i64 (encW w) 0 = some w.core := rfl
theorem w1_ : dInt .i64 (encW w) 1 = some w.value := rfl
theorem w2_ : dInt .i64 (encW w) 2 = some w.badge := rfl
theorem w3_ : dBool (encW w) 3 = some w.has := rfl
theorem w4_ : dInt .i64 (encW w) 4 = some w.ko := rfl
theorem w5_ : dInt .i64 (encW w) 5 = some w.ks := rfl
theorem w6_ : dInt .i64 (encW w) 6 = some w.gen := rfl
theorem w7_ : dBool (encW w) 7 = some w.grant := rfl
end cells
theorem eqW (a b : W) : (a.core == b.core && (a.value == b.value && (a.badge == b.badge && (a.has == b.has && (a.ko == b.ko && (a.ks == b.ks && (a.gen == b.gen && (a.grant == b.grant && true)))))))) = decide (a = b) := by
  obtain ⟨a1, a2, a3, a4, a5, a6, a7, a8⟩ := a
  obtain ⟨b1, b2, b3, b4, b5, b6, b7, b8⟩ := b
  rw [Bool.eq_iff_iff]
  simp
theorem needs_nat (k : Nat) (p : Prop) : needs ((0 : Int) ≤ (k : Int)) p = p := by
  rw [needs_iff]; exact propext ⟨fun h => h.2, fun h => ⟨Int.natCast_nonneg k, h⟩⟩
theorem live_ok : law16_live.R = some (true, ()) := law16_live.closed
theorem num_ok (n : Int) : law16_num.R n = some (n, ()) := law16_num.start _ _ rfl
def isCore (c : Int) : Prop := 0 ≤ c ∧ c < 64
instance (c : Int) : Decidable (isCore c) := inferInstanceAs (Decidable (0 ≤ c ∧ c < 64))
theorem isCore_dec (c : Int) : decide (isCore c) = (decide (0 ≤ c) && decide (c < 64)) := by
  rw [Bool.eq_iff_iff, Bool.and_eq_true, decide_eq_true_iff, decide_eq_true_iff, decide_eq_true_iff]; exact Iff.rfl
theorem core_ok (c : Int) : port_isCore.R c = some (decide (isCore c), ()) := by
  refine port_isCore.start _ _ ?_
  simp only [cond_ite, decide_eq_true_eq]
  rw [isCore_dec]
  split
  · simp_all
  · rw [decide_eq_false (by omega)]; rfl
/-- The place of a core; -1: it does not wait. -/
def idx : List W → Int → Int
  | [], _ => -1
  | w :: q, c => if w.core = c then 0 else if idx q c < 0 then -1 else idx q c + 1
theorem idx_cases : ∀ (q : List W) (c : Int), (idx q c = -1 ∧ ∀ w ∈ q, w.core ≠ c) ∨ ∃ k : Nat, ∃ h : k < q.length, idx q c = k ∧ q[k].core = c ∧ ∀ j, ∀ hj : j < k, (q[j]'(by omega)).core ≠ c
  | [], c => .inl ⟨rfl, fun w h => by simp at h⟩
  | w :: q, c => by
    by_cases h : w.core = c
    · exact .inr ⟨0, by simp, by simp [idx, h], by simpa using h, fun j hj => absurd hj (by omega)⟩
    · rcases idx_cases q c with ⟨h1, h2⟩ | ⟨k, hk, h1, h2, h3⟩
      · refine .inl ⟨by simp [idx, h, h1], fun x hx => ?_⟩
        rcases List.mem_cons.1 hx with e | hx
        · rw [e]; exact h
        · exact h2 x hx
      · refine .inr ⟨k + 1, by simp; omega, ?_, by simpa using h2, fun j hj => ?_⟩
        · rw [idx, if_neg h, h1, if_neg (by omega)]; omega
        · cases j with
          | zero => simpa using h
          | succ j => simpa using h3 j (by omega)
def idxTo (q : List W) (c : Int) (i : Nat) : Int := if idx (q.drop i) c < 0 then -1 else (i : Int) + idx (q.drop i) c
theorem idxTo_zero (q : List W) (c : Int) : idxTo q c 0 = idx q c := by
  unfold idxTo
  rw [List.drop_zero]
  rcases idx_cases q c with ⟨h1, _⟩ | ⟨k, hk, h1, _⟩ <;> rw [h1]
  · rfl
  · rw [if_neg (by omega)]; omega
theorem idxTo_step (q : List W) (c : Int) (i : Nat) (hi : i < q.length) : idxTo q c i = if q[i].core = c then (i : Int) else idxTo q c (i + 1) := by
  unfold idxTo
  rw [List.drop_eq_getElem_cons hi, idx]
  by_cases h : q[i].core = c
  · rw [if_pos h, if_pos h]; simp
  · rw [if_neg h, if_neg h]
    rcases idx_cases (q.drop (i + 1)) c with ⟨h1, _⟩ | ⟨k, hk, h1, _⟩ <;> rw [h1]
    · rfl
    · rw [if_neg (by omega), if_neg (by omega), if_neg (by omega)]; omega
theorem idxTo_end (q : List W) (c : Int) (i : Nat) (hi : q.length ≤ i) : idxTo q c i = -1 := by
  unfold idxTo
  rw [List.drop_eq_nil_of_le hi]; rfl
theorem at_loop (q : List W) (c : Int) (hl : q.length < 1000000) : ∀ m i : Nat, i + m = q.length → slices_IndexFunc_api_Waiter_api_Waiter__port_at_1.H3 (q.map encW) q.length i c (idxTo q c i, ()) := by
  intro m
  induction m with
  | zero =>
    intro i hi
    refine slices_IndexFunc_api_Waiter_api_Waiter__port_at_1.H3_step _ _ _ _ _ ?_
    rw [decide_eq_false (by omega), idxTo_end q c i (by omega)]
    rfl
  | succ m ih =>
    intro i hi
    refine slices_IndexFunc_api_Waiter_api_Waiter__port_at_1.H3_step _ _ _ _ _ ?_
    have hil : i < q.length := by omega
    rw [decide_eq_true (by omega), idxTo_step q c i hil]
    simp only [cond_true, needs_nat, Int.toNat_natCast, map_get _ _ _ hil, optAll_so, w0_, w1_, w2_, w3_, w4_, w5_, w6_, w7_, cond_ite, beq_iff_eq, wrap_succ (show i < 4611686018427387904 by omega)]
    split
    · rfl
    · exact ih (i + 1) (by omega)
theorem at_ok (p : P) (c : Int) (hl : p.q.length < 1000000) : port_at.R p.kind p.word (p.q.map encW) c = some (idx p.q c, ()) := by
  refine port_at.start _ _ _ _ _ ?_
  have h : slices_IndexFunc_api_Waiter_api_Waiter__port_at_1.R (p.q.map encW) c = some (idx p.q c, ()) := by
    refine slices_IndexFunc_api_Waiter_api_Waiter__port_at_1.start _ _ _ ?_
    have := at_loop p.q c hl p.q.length 0 (by omega)
    rw [idxTo_zero] at this
    rw [List.length_map]
    exact this
  rw [h]
  rfl
/-! Whether a port may be. -/
def encB (l : List Bool) : List DV := l.map fun b => .v (.bool b)
theorem encB_get {l : List Bool} {i : Nat} (h : i < l.length) : dBool (encB l) (0 + i * 1) = some l[i] := by
  unfold dBool encB
  rw [Nat.zero_add, Nat.mul_one, List.getElem?_map, List.getElem?_eq_getElem h]; rfl
theorem encB_put {l : List Bool} {i : Nat} (h : i < l.length) (b : Bool) : putD (encB l) (0 + i * 1) [.v (.bool b)] = encB (l.set i b) := by
  unfold putD encB
  rw [Nat.zero_add, Nat.mul_one, List.map_set, List.set_eq_take_append_cons_drop, if_pos (by simpa using h)]
  rfl
/-- All may be, and none is there twice. -/
def good : List W → List Int → Bool
  | [], _ => true
  | w :: q, seen => decide (isCore w.core) && !seen.contains w.core && good q (w.core :: seen)
def SeenIs (sn : List Bool) (seen : List Int) : Prop := sn.length = 64 ∧ ∀ c : Nat, ∀ h : c < sn.length, sn[c] = seen.contains (c : Int)
theorem check_loop (q : List W) (hl : q.length < 1000000) : ∀ (m i : Nat) (sn : List Bool) (seen : List Int), i + m = q.length → SeenIs sn seen →
    ∃ r : Int, slices_IndexFunc_api_Waiter_api_Waiter__port_Check_1.H3 (q.map encW) q.length i [encB sn] (r, ()) ∧ (decide (r ≥ 0) = !good (q.drop i) seen) := by
  intro m
  induction m with
  | zero =>
    intro i sn seen hi hs
    refine ⟨-1, ?_, ?_⟩
    · refine slices_IndexFunc_api_Waiter_api_Waiter__port_Check_1.H3_step _ _ _ _ _ ?_
      rw [decide_eq_false (by omega)]; rfl
    · rw [List.drop_eq_nil_of_le (by omega)]; rfl
  | succ m ih =>
    intro i sn seen hi hs
    have hil : i < q.length := by omega
    generalize hw : q[i] = w
    have hg : (q.map encW)[i]? = some (encW w) := by rw [map_get _ _ _ hil, hw]
    have hin : decide ((i : Int) < (q.length : Int)) = true := decide_eq_true (by omega)
    rw [List.drop_eq_getElem_cons hil, hw, good]
    by_cases h1 : ¬ isCore w.core
    · refine ⟨i, ?_, ?_⟩
      · refine slices_IndexFunc_api_Waiter_api_Waiter__port_Check_1.H3_step _ _ _ _ _ ?_
        simp only [hin, cond_true, needs_nat, Int.toNat_natCast, hg, optAll_so, w0_, w1_, w2_, w3_, w4_, w5_, w6_, w7_, core_ok, decide_eq_false h1]
        exact True.intro
      · rw [decide_eq_false h1, decide_eq_true (by omega)]; rfl
    have h1' : isCore w.core := Decidable.not_not.1 h1
    have hc : w.core.toNat < sn.length := by have := h1'.1; have := h1'.2; have := hs.1; omega
    have hcc : ((w.core.toNat : Nat) : Int) = w.core := by have := h1'.1; omega
    have hsc := hs.2 w.core.toNat hc
    rw [hcc] at hsc
    by_cases h2 : seen.contains w.core = true
    · refine ⟨i, ?_, ?_⟩
      · refine slices_IndexFunc_api_Waiter_api_Waiter__port_Check_1.H3_step _ _ _ _ _ ?_
        simp only [hin, cond_true, needs_nat, Int.toNat_natCast, hg, optAll_so, w0_, w1_, w2_, w3_, w4_, w5_, w6_, w7_, core_ok, decide_eq_true h1', Bool.not_true, cond_false, needs_iff, List.getElem?_cons_zero, encB_get hc, hsc, h2]
        exact ⟨by omega, h1', True.intro⟩
      · rw [h2, decide_eq_true (by omega)]; simp
    · have h2' : seen.contains w.core = false := by simpa using h2
      have hs' : SeenIs (sn.set w.core.toNat true) (w.core :: seen) := by
        refine ⟨by simp [hs.1], fun c h => ?_⟩
        rw [List.getElem_set]
        split
        · rename_i e
          subst e
          rw [hcc]; simp
        · rename_i e
          rw [hs.2 c (by simpa using h)]
          have : (c : Int) ≠ w.core := by omega
          simp [this]
      obtain ⟨r, hr, hr2⟩ := ih (i + 1) _ _ (by omega) hs'
      refine ⟨r, ?_, ?_⟩
      · refine slices_IndexFunc_api_Waiter_api_Waiter__port_Check_1.H3_step _ _ _ _ _ ?_
        simp only [hin, cond_true, needs_nat, Int.toNat_natCast, hg, optAll_so, w0_, w1_, w2_, w3_, w4_, w5_, w6_, w7_, core_ok, decide_eq_true h1', Bool.not_true, cond_false, needs_iff, List.getElem?_cons_zero, encB_get hc, hsc, h2', encB_put hc, List.set_cons_zero, wrap_succ (show i < 4611686018427387904 by omega)]
        refine ⟨by omega, h1', h1', ?_, hr⟩
        simp only [encB, List.length_map]; omega
      · rw [hr2, decide_eq_true h1', h2']; simp
def goodP (p : P) : Bool := !decide (p.kind < 0) && !decide (p.kind > 2) && ((p.kind == 0) == ((p.q.length : Int) == 0)) && (p.kind == 0 || p.word == 0) && good p.q []
theorem contains_ok (q : List W) (hl : q.length < 1000000) : slices_ContainsFunc_api_Waiter_api_Waiter__port_Check_1.R (q.map encW) [encB (List.replicate 64 false)] = some (!good q [], ()) := by
  refine slices_ContainsFunc_api_Waiter_api_Waiter__port_Check_1.start _ _ _ ?_
  have hs : SeenIs (List.replicate 64 false) [] := ⟨List.length_replicate, fun c h => by rw [List.getElem_replicate]; rfl⟩
  obtain ⟨r, hr, hr2⟩ := check_loop q hl q.length 0 _ _ (by omega) hs
  have h : slices_IndexFunc_api_Waiter_api_Waiter__port_Check_1.R (q.map encW) [encB (List.replicate 64 false)] = some (r, ()) := by
    refine slices_IndexFunc_api_Waiter_api_Waiter__port_Check_1.start _ _ _ ?_
    rw [List.length_map]
    exact hr
  rw [h]
  simp only [optAll_so]
  rw [hr2, List.drop_zero]
theorem check_ok (p : P) (hl : p.q.length < 1000000) : port_Check.R p.kind p.word (p.q.map encW) = some (if goodP p then 0 else 2, ()) := by
  refine port_Check.start _ _ _ _ ?_
  have hc := contains_ok p.q hl
  have he : ([encB (List.replicate 64 false)] : List (List DV)) = [[.v (.bool false), .v (.bool false), .v (.bool false), .v (.bool false), .v (.bool false), .v (.bool false), .v (.bool false), .v (.bool false), .v (.bool false), .v (.bool false), .v (.bool false), .v (.bool false), .v (.bool false), .v (.bool false), .v (.bool false), .v (.bool false), .v (.bool false), .v (.bool false), .v (.bool false), .v (.bool false), .v (.bool false), .v (.bool false), .v (.bool false), .v (.bool false), .v (.bool false), .v (.bool false), .v (.bool false), .v (.bool false), .v (.bool false), .v (.bool false), .v (.bool false), .v (.bool false), .v (.bool false), .v (.bool false), .v (.bool false), .v (.bool false), .v (.bool false), .v (.bool false), .v (.bool false), .v (.bool false), .v (.bool false), .v (.bool false), .v (.bool false), .v (.bool false), .v (.bool false), .v (.bool false), .v (.bool false), .v (.bool false), .v (.bool false), .v (.bool false), .v (.bool false), .v (.bool false), .v (.bool false), .v (.bool false), .v (.bool false), .v (.bool false), .v (.bool false), .v (.bool false), .v (.bool false), .v (.bool false), .v (.bool false), .v (.bool false), .v (.bool false), .v (.bool false)]] := rfl
  rw [he] at hc
  simp only [hc, optAll_so, List.length_map, bne]
  unfold goodP
  generalize decide (p.kind < 0) = b1
  generalize decide (p.kind > 2) = b2
  generalize ((p.q.length : Int) == 0) = b3
  generalize (p.kind == 0) = b4
  generalize (p.word == 0) = b5
  generalize good p.q [] = b6
  cases b1 <;> cases b2 <;> cases b3 <;> cases b4 <;> cases b5 <;> cases b6 <;> rfl
end Port
end Go.AI
