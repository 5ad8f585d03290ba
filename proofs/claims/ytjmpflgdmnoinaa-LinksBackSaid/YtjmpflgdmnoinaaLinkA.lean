/-
  Own work. links: codes, cells, what is written (XLink1, XLink2).
-/
import Derived.Test.YtjmpflgdmnoinaaLinkT
namespace Go.AI
open Go
set_option linter.unusedVariables false
set_option linter.unusedSimpArgs false
namespace Links
open Kit Ghost Trees

/-- A key's code. -/
def cd (k : K) : Int := if 0 ≤ k.obj ∧ k.obj < 56 ∧ 0 ≤ k.slot ∧ k.slot < 8 then 8 * k.obj + k.slot + 1 else 0
theorem cd_pos {k : K} (h : cd k ≠ 0) : 0 ≤ k.obj ∧ k.obj < 56 ∧ 0 ≤ k.slot ∧ k.slot < 8 := by
  unfold cd at h
  split at h
  · assumption
  · exact absurd rfl h
theorem cd_eq {k : K} (h : 0 ≤ k.obj ∧ k.obj < 56 ∧ 0 ≤ k.slot ∧ k.slot < 8) : cd k = 8 * k.obj + k.slot + 1 := by unfold cd; rw [if_pos h]
theorem w64 {n : Int} (h0 : -9223372036854775808 ≤ n) (h1 : n < 9223372036854775808) : IntKind.i64.wrap n = n := wrap_id h0 h1
theorem rcode_ok (k : K) : ref23_Code.R k.obj k.slot = some (cd k, ()) := by
  refine ref23_Code.start _ _ _ ?_
  simp only [cond_ite, decide_eq_true_eq]
  unfold cd
  split
  · rw [if_neg (by omega)]
  · split
    · rw [if_neg (by omega)]
    · split
      · rw [if_neg (by omega)]
      · split
        · rw [if_neg (by omega)]
        · rw [if_pos (by omega), w64 (n := 8 * k.obj) (by omega) (by omega), w64 (n := 8 * k.obj + k.slot) (by omega) (by omega), w64 (by omega) (by omega)]
theorem lcode_ok (k : K) : layout_Code.R k.obj k.slot = some (cd k, ()) := by
  refine layout_Code.start _ _ _ ?_
  simp only [cond_ite, decide_eq_true_eq]
  unfold cd
  split
  · rw [if_neg (by omega)]
  · split
    · rw [if_neg (by omega)]
    · split
      · rw [if_neg (by omega)]
      · split
        · rw [if_neg (by omega)]
        · rw [if_pos (by omega), w64 (n := 8 * k.obj) (by omega) (by omega), w64 (n := 8 * k.obj + k.slot) (by omega) (by omega), w64 (by omega) (by omega)]
theorem code_ok (k : K) : links_code.R k.obj k.slot = some (cd k, ()) := links_code.start _ _ _ (by rw [lcode_ok]; exact rfl)
/-- A slot's cell. -/
def sl (k : K) (f : Int) : Int := if cd k = 0 ∨ f < 0 ∨ 5 < f then -1 else 64 * k.obj + 16 + 6 * k.slot + f
theorem sl_eq {k : K} {f : Int} (h : cd k ≠ 0) (h0 : 0 ≤ f) (h1 : f ≤ 5) : sl k f = 64 * k.obj + 16 + 6 * k.slot + f := by
  unfold sl
  rw [if_neg (by omega)]
theorem sl_range {k : K} {f : Int} (h : cd k ≠ 0) (h0 : 0 ≤ f) (h1 : f ≤ 5) : 16 ≤ sl k f ∧ sl k f < 3584 := by
  rw [sl_eq h h0 h1]
  have := cd_pos h
  omega
theorem sl_inj {k j : K} {f g : Int} (hk : cd k ≠ 0) (hj : cd j ≠ 0) (hf : 0 ≤ f ∧ f ≤ 5) (hg : 0 ≤ g ∧ g ≤ 5) (h : sl k f = sl j g) : k = j ∧ f = g := by
  rw [sl_eq hk hf.1 hf.2, sl_eq hj hg.1 hg.2] at h
  have h1 := cd_pos hk
  have h2 := cd_pos hj
  have e1 : k.obj = j.obj := by omega
  have e2 : k.slot = j.slot := by omega
  refine ⟨?_, by omega⟩
  obtain ⟨a, b⟩ := k
  obtain ⟨a', b'⟩ := j
  simp only at e1 e2
  subst e1 e2
  rfl
theorem cd_inj {k j : K} (hk : cd k ≠ 0) (h : cd k = cd j) : k = j := by
  have hj : cd j ≠ 0 := by rw [← h]; exact hk
  have h1 := cd_pos hk
  have h2 := cd_pos hj
  rw [cd_eq h1, cd_eq h2] at h
  have e1 : k.obj = j.obj := by omega
  have e2 : k.slot = j.slot := by omega
  obtain ⟨a, b⟩ := k
  obtain ⟨a', b'⟩ := j
  simp only at e1 e2
  subst e1 e2
  rfl
theorem lslot_ok (k : K) (f : Int) : layout_Slot.R k.obj k.slot f = some (sl k f, ()) := by
  refine layout_Slot.start _ _ _ _ ?_
  rw [lcode_ok]
  simp only [optAll_so, cond_ite, decide_eq_true_eq, beq_iff_eq]
  unfold sl
  split
  · rename_i h; rw [if_pos (.inl h)]
  · rename_i h
    split
    · rw [if_pos (by omega)]
    · split
      · rw [if_pos (by omega)]
      · rw [if_neg (by omega)]
        have := cd_pos h
        rw [w64 (n := 64 * k.obj) (by omega) (by omega), w64 (n := 64 * k.obj + 16) (by omega) (by omega), w64 (n := 6 * k.slot) (by omega) (by omega), w64 (n := 64 * k.obj + 16 + 6 * k.slot) (by omega) (by omega), w64 (by omega) (by omega)]
theorem rslot_ok (k : K) (f : Int) : ref23_Slot.R k.obj k.slot f = some (sl k f, ()) := by
  refine ref23_Slot.start _ _ _ _ ?_
  rw [rcode_ok]
  simp only [optAll_so, cond_ite, decide_eq_true_eq, beq_iff_eq]
  unfold sl
  split
  · rename_i h; rw [if_pos (.inl h)]
  · rename_i h
    split
    · rw [if_pos (by omega)]
    · split
      · rw [if_pos (by omega)]
      · rw [if_neg (by omega)]
        have := cd_pos h
        rw [w64 (n := 64 * k.obj) (by omega) (by omega), w64 (n := 64 * k.obj + 16) (by omega) (by omega), w64 (n := 6 * k.slot) (by omega) (by omega), w64 (n := 64 * k.obj + 16 + 6 * k.slot) (by omega) (by omega), w64 (by omega) (by omega)]
/-- A code's key. -/
def dk (n : Int) : K := ⟨(n - 1) / 8, (n - 1) % 8⟩
def ktup : Option K → (Int × (Int × Unit)) × (Bool × Unit)
  | some k => ((k.obj, (k.slot, ())), (true, ()))
  | none => ((0, (0, ())), (false, ()))
def kof (n : Int) : Option K := if 1 ≤ n ∧ n ≤ 448 then some (dk n) else none
theorem kof_cd {k : K} (h : cd k ≠ 0) : kof (cd k) = some k := by
  have hp := cd_pos h
  unfold kof dk
  rw [cd_eq hp, if_pos (by omega)]
  obtain ⟨a, b⟩ := k
  simp only at hp ⊢
  congr 2 <;> omega
theorem kof_zero : kof 0 = none := by unfold kof; rw [if_neg (by omega)]
/-- What stands in a slot's field. -/
def at_ (L : List Int) (k : K) (f : Int) : Int := if sl k f < 0 ∨ L.length ≠ 4096 then 0 else L.getD (sl k f).toNat 0
theorem ei0 (n : Int) : dInt .i64 (ei n) 0 = some n := rfl
theorem at_ok (L : List Int) (k : K) (f : Int) : links_at.R (L.map ei) k.obj k.slot f = some (at_ L k f, ()) := by
  refine links_at.start _ _ _ _ _ ?_
  rw [lslot_ok]
  simp only [optAll_so, cond_ite, decide_eq_true_eq, bne_iff_ne, List.length_map, ne_eq]
  unfold at_
  split
  · rename_i h; rw [if_pos (.inl h)]
  · rename_i h
    split
    · rename_i h2
      rw [if_pos (.inr (by omega))]
    · rename_i h2
      have hl : L.length = 4096 := by omega
      rw [if_neg (by omega)]
      have hlt : (sl k f).toNat < L.length := by
        unfold sl at h ⊢
        split at h
        · omega
        · rename_i hc
          rw [if_neg hc]
          have := cd_pos (k := k) (by omega)
          omega
      rw [map_get _ _ _ hlt]
      simp only [optAll_so, ei0, needs_iff]
      refine ⟨by omega, ?_⟩
      rw [List.getD_eq_getElem?_getD, List.getElem?_eq_getElem hlt]
      rfl
/-- Who a field links to. -/
def lk (L : List Int) (k : K) (f : Int) : Option K := kof (at_ L k f)
theorem linked_ok (L : List Int) (k : K) (f : Int) : links_linked.R (L.map ei) k.obj k.slot f = some (ktup (lk L k f)) := by
  refine links_linked.start _ _ _ _ _ ?_
  rw [at_ok]
  have hk : ∀ n : Int, layout_Key.R n = some (if 1 ≤ n ∧ n ≤ 448 then (((dk n).obj, ((dk n).slot, ())), (0, ())) else ((0, (0, ())), (2, ()))) := by
    intro n
    refine layout_Key.start _ _ ?_
    simp only [cond_ite, decide_eq_true_eq]
    split
    · rw [if_neg (by omega)]
    · split
      · rw [if_neg (by omega)]
      · rw [if_pos (by omega), w64 (n := n - 1) (by omega) (by omega)]
        unfold dk
        rw [show (n - 1).tdiv 8 = (n - 1) / 8 from Int.tdiv_eq_ediv_of_nonneg (by omega), show (n - 1).tmod 8 = (n - 1) % 8 from Int.tmod_eq_emod_of_nonneg (by omega), w64 (by omega) (by omega)]
  simp only [optAll_so, hk]
  unfold lk kof
  by_cases h : 1 ≤ at_ L k f ∧ at_ L k f ≤ 448
  · rw [if_pos h, if_pos h]; rfl
  · rw [if_neg h, if_neg h]; rfl
theorem next_ok (L : List Int) (k : K) : links_Next.R (L.map ei) k.obj k.slot = some (ktup (lk L k 3)) := by
  refine links_Next.start _ _ _ _ ?_
  rw [linked_ok]
  cases lk L k 3 <;> exact rfl
theorem prev_ok (L : List Int) (k : K) : links_Prev.R (L.map ei) k.obj k.slot = some (ktup (lk L k 2)) := by
  refine links_Prev.start _ _ _ _ ?_
  rw [linked_ok]
  cases lk L k 2 <;> exact rfl
def leafS (L : List Int) (k : K) : Bool := match lk L k 3 with
  | some x => decide (at_ L x 4 ≤ at_ L k 4)
  | none => true
theorem leaf_ok (L : List Int) (k : K) : links_Leaf.R (L.map ei) k.obj k.slot = some (leafS L k, ()) := by
  refine links_Leaf.start _ _ _ _ ?_
  rw [next_ok]
  unfold leafS
  cases h : lk L k 3 with
  | none => exact rfl
  | some x =>
    simp only [ktup, optAll_so, Bool.not_true, cF, at_ok]
/-! Do keys have codes? -/
theorem are1_ok (k : K) : links_are_1.R k.obj k.slot = some (decide (cd k = 0), ()) := by
  refine links_are_1.start _ _ _ ?_
  rw [code_ok]
  simp only [optAll_so]
  congr 1
theorem indexa_step (l : List K) (i : Nat) (hi : i < l.length) (hl : l.length < 1000000) (c : Int × Unit)
    (h : if cd l[i] = 0 then c = ((i : Int), ()) else slices_IndexFunc_api_Key_api_Key__links_are_1.H3 (l.map encK) l.length ((i + 1 : Nat) : Int) c) : slices_IndexFunc_api_Key_api_Key__links_are_1.H3 (l.map encK) l.length (i : Int) c := by
  refine slices_IndexFunc_api_Key_api_Key__links_are_1.H3_step _ _ _ _ ?_
  rw [decide_eq_true (show (i : Int) < (l.length : Int) by omega)]
  simp only [cT, needs_nat, Int.toNat_natCast, map_get _ _ _ hi, optAll_so, k0_, k1_, are1_ok, wrap_succ (show i < 4611686018427387904 by omega)]
  rw [cond_ite]
  simpa using h
theorem indexa_end (l : List K) (c : Int × Unit) (h : c = (-1, ())) : slices_IndexFunc_api_Key_api_Key__links_are_1.H3 (l.map encK) l.length (l.length : Int) c := by
  refine slices_IndexFunc_api_Key_api_Key__links_are_1.H3_step _ _ _ _ ?_
  rw [decide_eq_false (show ¬ (l.length : Int) < (l.length : Int) by omega)]
  exact h
theorem anyzero (l : List K) (hl : l.length < 1000000) : slices_ContainsFunc_api_Key_api_Key__links_are_1.R (l.map encK) = some (!l.all fun k => decide (cd k ≠ 0), ()) := by
  have key : ∀ n i : Nat, i + n = l.length → ∃ r : Int, slices_IndexFunc_api_Key_api_Key__links_are_1.H3 (l.map encK) l.length (i : Int) (r, ()) ∧ decide (r ≥ 0) = !(l.drop i).all fun k => decide (cd k ≠ 0) := by
    intro n
    induction n with
    | zero =>
      intro i hi
      refine ⟨-1, ?_, ?_⟩
      · rw [show i = l.length by omega]
        exact indexa_end l _ rfl
      · rw [List.drop_of_length_le (by omega)]; rfl
    | succ n ih =>
      intro i hi
      have hil : i < l.length := by omega
      rw [List.drop_eq_getElem_cons hil]
      by_cases hc : cd l[i] = 0
      · refine ⟨i, indexa_step l i hil hl _ (by rw [if_pos hc]), ?_⟩
        rw [List.all_cons, decide_eq_false (show ¬ cd l[i] ≠ 0 from fun h => h hc), Bool.false_and]
        exact decide_eq_true (by omega)
      · obtain ⟨r, h1, h2⟩ := ih (i + 1) (by omega)
        refine ⟨r, indexa_step l i hil hl _ (by rw [if_neg hc]; exact h1), ?_⟩
        rw [h2, List.all_cons, decide_eq_true (show cd l[i] ≠ 0 from hc), Bool.true_and]
  obtain ⟨r, h1, h2⟩ := key l.length 0 (by omega)
  refine slices_ContainsFunc_api_Key_api_Key__links_are_1.start _ _ ?_
  have h3 : slices_IndexFunc_api_Key_api_Key__links_are_1.R (l.map encK) = some (r, ()) := by
    refine slices_IndexFunc_api_Key_api_Key__links_are_1.start _ _ ?_
    rw [List.length_map]
    exact h1
  rw [h3]
  simp only [optAll_so, h2, List.drop_zero]
theorem are2_ok (L : List Int) (a b : K) (hl : L.length = 4096) (ha : cd a ≠ 0) (hb : cd b ≠ 0) (hab : a ≠ b) : links_are.R (L.map ei) (([[(DV.v (Value.int IntKind.i64 a.obj)), (DV.v (Value.int IntKind.i64 a.slot))], [(DV.v (Value.int IntKind.i64 b.obj)), (DV.v (Value.int IntKind.i64 b.slot))]]).take (2)) = some (true, ()) := by
  have e : (([[(DV.v (Value.int IntKind.i64 a.obj)), (DV.v (Value.int IntKind.i64 a.slot))], [(DV.v (Value.int IntKind.i64 b.obj)), (DV.v (Value.int IntKind.i64 b.slot))]]).take (2)) = [a, b].map encK := rfl
  rw [e]
  refine links_are.start _ _ _ ?_
  rw [List.length_map, hl, anyzero _ (by simp)]
  have h : ([a, b].all fun k => decide (cd k ≠ 0)) = true := by simp [ha, hb]
  rw [h]
  show cond _ _ _
  rw [show (((4096 : Nat) : Int) == 4096) = true from rfl]
  simp only [cT, optAll_so, Bool.not_true, Bool.not_false]
  rw [show decide ((([a, b].map encK).length : Int) < 2) = false from rfl]
  simp only [cF, List.map_cons, List.map_nil, List.getElem?_cons_zero, List.getElem?_cons_succ, optAll_so, k0_, k1_, eqK]
  rw [decide_eq_false hab]
  rfl
theorem are1k_ok (L : List Int) (a : K) (hl : L.length = 4096) (ha : cd a ≠ 0) : links_are.R (L.map ei) (([[(DV.v (Value.int IntKind.i64 a.obj)), (DV.v (Value.int IntKind.i64 a.slot))]]).take (1)) = some (true, ()) := by
  have e : (([[(DV.v (Value.int IntKind.i64 a.obj)), (DV.v (Value.int IntKind.i64 a.slot))]]).take (1)) = [a].map encK := rfl
  rw [e]
  refine links_are.start _ _ _ ?_
  rw [List.length_map, hl, anyzero _ (by simp)]
  have h : ([a].all fun k => decide (cd k ≠ 0)) = true := by simp [ha]
  rw [h]
  rw [show (((4096 : Nat) : Int) == 4096) = true from rfl]
  simp only [cT, optAll_so, Bool.not_true, Bool.not_false]
  rw [show decide ((([a].map encK).length : Int) < 2) = true from rfl]
  exact True.intro
end Links
namespace Links
open Kit Ghost Trees

def encW (w : Int × Int) : List DV := [.v (.int .i64 w.1), .v (.int .i64 w.2)]
theorem w0_ (w : Int × Int) : dInt .i64 (encW w) 0 = some w.1 := rfl
theorem w1_ (w : Int × Int) : dInt .i64 (encW w) 1 = some w.2 := rfl
def up (n : Int) : Int := if n < 9223372036854775807 then IntKind.i64.wrap (n + 1) else n
def insW (L : List Int) (a b : K) : List (Int × Int) :=
  [(sl b 2, cd a), (sl b 3, at_ L a 3), (sl b 4, up (at_ L a 4)), (sl b 5, 0), (sl a 3, cd b)] ++ match lk L a 3 with
    | some n => [(sl n 2, cd b)]
    | none => []
theorem insert_ok (L : List Int) (a b : K) (hl : L.length = 4096) (ha : cd a ≠ 0) (hb : cd b ≠ 0) (hab : a ≠ b) :
    links_Insert.R (L.map ei) a.obj a.slot b.obj b.slot = some ((insW L a b).map encW, ()) := by
  refine links_Insert.start _ _ _ _ _ _ ?_
  rw [are2_ok L a b hl ha hb hab]
  simp only [optAll_so, at_ok, code_ok, lslot_ok, next_ok, Bool.not_true, cF]
  unfold insW up
  by_cases h : at_ L a 4 < 9223372036854775807
  · rw [decide_eq_true h, if_pos h]
    simp only [cT]
    cases lk L a 3 with
    | none => exact rfl
    | some n =>
      simp only [ktup, cT, code_ok, lslot_ok, optAll_so]
      exact rfl
  · rw [decide_eq_false h, if_neg h]
    simp only [cF]
    cases lk L a 3 with
    | none => exact rfl
    | some n =>
      simp only [ktup, cT, code_ok, lslot_ok, optAll_so]
      exact rfl
theorem insert_nil (a b : K) : links_Insert.R [] a.obj a.slot b.obj b.slot = some ([], ()) := by
  refine links_Insert.start _ _ _ _ _ _ ?_
  have h : links_are.R [] (([[(DV.v (Value.int IntKind.i64 a.obj)), (DV.v (Value.int IntKind.i64 a.slot))], [(DV.v (Value.int IntKind.i64 b.obj)), (DV.v (Value.int IntKind.i64 b.slot))]]).take (2)) = some (false, ()) := links_are.start _ _ _ (by exact rfl)
  rw [h]
  exact rfl
def wipeW (k : K) : List (Int × Int) := [(sl k 2, 0), (sl k 3, 0), (sl k 4, 0), (sl k 5, 0)]
def remW (L : List Int) (k : K) : List (Int × Int) :=
  (match lk L k 2 with
    | some p => [(sl p 3, at_ L k 3)]
    | none => []) ++ (match lk L k 3 with
    | some n => [(sl n 2, at_ L k 2)]
    | none => []) ++ wipeW k
theorem remove_w (L : List Int) (k : K) (hl : L.length = 4096) (hk : cd k ≠ 0) : links_Remove.R (L.map ei) k.obj k.slot = some ((remW L k).map encW, ()) := by
  refine links_Remove.start _ _ _ _ ?_
  rw [are1k_ok L k hl hk]
  simp only [optAll_so, at_ok, lslot_ok, next_ok, prev_ok, Bool.not_true, cF]
  unfold remW wipeW
  cases lk L k 2 with
  | none =>
    simp only [ktup, cF]
    cases lk L k 3 with
    | none => exact rfl
    | some n =>
      simp only [ktup, cT, lslot_ok, optAll_so]
      exact rfl
  | some p =>
    simp only [ktup, cT, lslot_ok, optAll_so]
    cases lk L k 3 with
    | none => exact rfl
    | some n =>
      simp only [ktup, cT, lslot_ok, optAll_so]
      exact rfl
def movW (L : List Int) (a b : K) : List (Int × Int) :=
  [(sl b 2, at_ L a 2), (sl b 3, at_ L a 3), (sl b 4, at_ L a 4), (sl b 5, at_ L a 5)] ++ (match lk L a 2 with
    | some p => [(sl p 3, cd b)]
    | none => []) ++ (match lk L a 3 with
    | some n => [(sl n 2, cd b)]
    | none => []) ++ wipeW a
theorem mov_step (L : List Int) (a b : K) (i : Int) (hi : 2 ≤ i ∧ i ≤ 5) (W : List (Int × Int)) (hW : W.length ≤ 100) (c : List (List DV) × Unit)
    (h : links_Move.H6 (L.map ei) (i + 1) a.obj a.slot b.obj b.slot ((W ++ [(sl b i, at_ L a i)]).map encW) c) : links_Move.H6 (L.map ei) i a.obj a.slot b.obj b.slot (W.map encW) c := by
  refine links_Move.H6_step _ _ _ _ _ _ _ _ ?_
  rw [decide_eq_true (show i ≤ 5 by omega)]
  simp only [cT, at_ok, lslot_ok, optAll_so]
  rw [needs_iff, needs_iff]
  refine ⟨trivial, ?_, ?_⟩
  · simp only [List.length_append, List.length_map]
    have : ([[(DV.v (Value.int IntKind.i64 (sl b i))), (DV.v (Value.int IntKind.i64 (at_ L a i)))]].take 1).length = 1 := rfl
    rw [this]
    omega
  · rw [w64 (by omega) (by omega)]
    rw [List.map_append] at h
    exact h
theorem mov_end (L : List Int) (a b : K) (W : List (Int × Int)) (hW : W.length ≤ 100) :
    links_Move.H6 (L.map ei) 6 a.obj a.slot b.obj b.slot (W.map encW) ((W ++ ((match lk L a 2 with
    | some p => [(sl p 3, cd b)]
    | none => []) ++ (match lk L a 3 with
    | some n => [(sl n 2, cd b)]
    | none => []) ++ wipeW a)).map encW, ()) := by
  refine links_Move.H6_step _ _ _ _ _ _ _ _ ?_
  rw [decide_eq_false (show ¬ ((6 : Int) ≤ 5) by omega)]
  simp only [cF, at_ok, lslot_ok, prev_ok, next_ok, optAll_so]
  have hlen : ∀ x : List DV, ([x].take 1).length = 1 := fun _ => rfl
  cases lk L a 2 with
  | none =>
    simp only [ktup, cF]
    cases lk L a 3 with
    | none =>
      simp only [ktup, cF, needs_iff, List.length_append, List.length_map, hlen]
      refine ⟨trivial, by omega, trivial, by omega, trivial, by omega, trivial, by omega, ?_⟩
      simp only [List.map_append, List.nil_append, wipeW]
      rw [List.take_of_length_le (by simp)]
      simp only [List.append_assoc]
      exact rfl
    | some n =>
      simp only [ktup, cT, code_ok, lslot_ok, optAll_so, needs_iff, List.length_append, List.length_map, hlen]
      refine ⟨trivial, by omega, trivial, by omega, trivial, by omega, trivial, by omega, trivial, by omega, ?_⟩
      simp only [List.map_append, List.nil_append, wipeW]
      rw [List.take_of_length_le (by simp)]
      simp only [List.append_assoc]
      exact rfl
  | some p =>
    simp only [ktup, cT, code_ok, lslot_ok, optAll_so]
    cases lk L a 3 with
    | none =>
      simp only [ktup, cF, needs_iff, List.length_append, List.length_map, hlen]
      refine ⟨trivial, by omega, trivial, by omega, trivial, by omega, trivial, by omega, trivial, by omega, ?_⟩
      simp only [List.map_append, List.nil_append, wipeW]
      rw [List.take_of_length_le (by simp)]
      simp only [List.append_assoc]
      exact rfl
    | some n =>
      simp only [ktup, cT, code_ok, lslot_ok, optAll_so, needs_iff, List.length_append, List.length_map, hlen]
      refine ⟨trivial, by omega, trivial, by omega, trivial, by omega, trivial, by omega, trivial, by omega, trivial, by omega, ?_⟩
      simp only [List.map_append, List.nil_append, wipeW]
      rw [List.take_of_length_le (by simp)]
      simp only [List.append_assoc]
      exact rfl
theorem move_w (L : List Int) (a b : K) (hl : L.length = 4096) (ha : cd a ≠ 0) (hb : cd b ≠ 0) (hab : a ≠ b) :
    links_Move.R (L.map ei) a.obj a.slot b.obj b.slot = some ((movW L a b).map encW, ()) := by
  refine links_Move.start _ _ _ _ _ _ ?_
  rw [are2_ok L a b hl ha hb hab]
  simp only [optAll_so, Bool.not_true, cF]
  refine mov_step L a b 2 (by omega) [] (by simp) _ ?_
  refine mov_step L a b 3 (by omega) _ (by simp) _ ?_
  refine mov_step L a b 4 (by omega) _ (by simp) _ ?_
  refine mov_step L a b 5 (by omega) _ (by simp) _ ?_
  have := mov_end L a b ([] ++ [(sl b 2, at_ L a 2)] ++ [(sl b 3, at_ L a 3)] ++ [(sl b 4, at_ L a 4)] ++ [(sl b 5, at_ L a 5)]) (by simp)
  unfold movW
  simp only [List.nil_append, List.append_assoc, List.cons_append] at this ⊢
  exact this
/-! Cells with other values -/
def put1 (L : List Int) (w : Int × Int) : List Int := if 0 ≤ w.1 ∧ w.1 < L.length then L.set w.1.toNat w.2 else L
def app (L : List Int) (W : List (Int × Int)) : List Int := W.foldl put1 L
theorem put1_len (L : List Int) (w : Int × Int) : (put1 L w).length = L.length := by
  unfold put1; split <;> simp
theorem app_len (W : List (Int × Int)) : ∀ L : List Int, (app L W).length = L.length := by
  induction W with
  | nil => intro L; rfl
  | cons w W ih => intro L; unfold app at ih ⊢; rw [List.foldl_cons, ih, put1_len]
theorem putD_ei (y v : Int) : putD (ei y) 0 [.v (.int .i64 v)] = ei v := rfl
theorem app_loop (W : List (Int × Int)) (hW : W.length < 1000000) : ∀ (n i : Nat) (L : List Int), i + n = W.length →
    layout_Apply.H4 L.length (W.map encW) W.length i (L.map ei) ((app L (W.drop i)).map ei, ()) := by
  intro n
  induction n with
  | zero =>
    intro i L hi
    refine layout_Apply.H4_step _ _ _ _ _ _ ?_
    rw [decide_eq_false (by omega), List.drop_of_length_le (by omega)]
    show _ = _
    rw [List.take_of_length_le (by simp)]
    rfl
  | succ n ih =>
    intro i L hi
    have hil : i < W.length := by omega
    refine layout_Apply.H4_step _ _ _ _ _ _ ?_
    rw [decide_eq_true (show (i : Int) < (W.length : Int) by omega), List.drop_eq_getElem_cons hil]
    simp only [cT, needs_nat, Int.toNat_natCast, map_get _ _ _ hil, optAll_so, w0_, w1_, wrap_succ (show i < 4611686018427387904 by omega)]
    have hnext : ∀ L' : List Int, L'.length = L.length → put1 L W[i] = L' → layout_Apply.H4 L.length (W.map encW) W.length ((i + 1 : Nat) : Int) (L'.map ei) ((app L (W[i] :: W.drop (i + 1))).map ei, ()) := by
      intro L' hL' hp
      have := ih (i + 1) L' (by omega)
      rw [hL'] at this
      unfold app at this ⊢
      rw [List.foldl_cons, hp]
      exact this
    by_cases h0 : 0 ≤ W[i].1
    · rw [decide_eq_true (show W[i].1 ≥ 0 from h0)]
      by_cases h1 : W[i].1 < (L.length : Int)
      · rw [decide_eq_true h1]
        have hlt : W[i].1.toNat < L.length := by omega
        simp only [cT, needs_iff, Nat.zero_add, map_get _ _ _ hlt, optAll_so, putD_ei, ← List.map_set]
        refine ⟨⟨h0, h1⟩, Nat.le_refl _, ?_⟩
        exact hnext _ (by simp) (by unfold put1; rw [if_pos ⟨h0, h1⟩])
      · rw [decide_eq_false h1]
        simp only [cT, cF]
        exact hnext L rfl (by unfold put1; rw [if_neg (by omega)])
    · rw [decide_eq_false (show ¬ W[i].1 ≥ 0 from h0)]
      simp only [cF]
      exact hnext L rfl (by unfold put1; rw [if_neg (by omega)])
theorem apply_ok (L : List Int) (W : List (Int × Int)) (hL : L.length < 1000000) (hW : W.length < 1000000) : layout_Apply.R (L.map ei) (W.map encW) = some ((app L W).map ei, ()) := by
  refine layout_Apply.start _ _ _ ?_
  simp only [needs_iff, List.length_map]
  refine ⟨by omega, trivial, ?_⟩
  exact app_loop W hW W.length 0 L (by omega)
/-! Below -/
def blw (L : List Int) (deep : Int) : Nat → Option K → List K
  | 0, _ => []
  | _ + 1, none => []
  | n + 1, some x => if deep < at_ L x 4 then x :: blw L deep n (lk L x 3) else []
def kor : Option K → K
  | some k => k
  | none => ⟨0, 0⟩
theorem ktup_is (o : Option K) : ktup o = (((kor o).obj, ((kor o).slot, ())), (o.isSome, ())) := by cases o <;> rfl
theorem blw_loop (L : List Int) (deep : Int) (p q : Int) : ∀ (n : Nat) (o : Option K) (out : List K), out.length + n = 448 →
    links_Below.H4_1048576 (L.map ei) (out.map encK) deep [(DV.v (Value.int IntKind.i64 (kor o).obj)), (DV.v (Value.int IntKind.i64 (kor o).slot))] o.isSome p q ((out ++ blw L deep n o).map encK, ()) := by
  intro n
  induction n with
  | zero =>
    intro o out ho
    refine links_Below.H4_1048576_step _ _ _ _ _ _ _ _ ?_
    have hend : (((out.map encK).take (out.map encK).length), ()) = ((out ++ blw L deep 0 o).map encK, ()) := by
      rw [List.take_length]; simp [blw]
    cases o with
    | none => exact hend.symm
    | some x =>
      simp only [Option.isSome_some, cT, kor, optAll_so]
      rw [show dInt IntKind.i64 [(DV.v (Value.int IntKind.i64 x.obj)), (DV.v (Value.int IntKind.i64 x.slot))] 0 = some x.obj from rfl, show dInt IntKind.i64 [(DV.v (Value.int IntKind.i64 x.obj)), (DV.v (Value.int IntKind.i64 x.slot))] 1 = some x.slot from rfl]
      simp only [optAll_so, at_ok, List.length_map]
      rw [decide_eq_false (show ¬ ((out.length : Int) < 448) by omega)]
      simp only [cF]
      rw [List.length_map] at hend
      cases decide (at_ L x 4 > deep) with
      | true => exact hend.symm
      | false => exact hend.symm
  | succ n ih =>
    intro o out ho
    refine links_Below.H4_1048576_step _ _ _ _ _ _ _ _ ?_
    cases o with
    | none =>
      show _ = _
      rw [List.take_length]; simp [blw]
    | some x =>
      simp only [Option.isSome_some, cT, kor, optAll_so]
      rw [show dInt IntKind.i64 [(DV.v (Value.int IntKind.i64 x.obj)), (DV.v (Value.int IntKind.i64 x.slot))] 0 = some x.obj from rfl, show dInt IntKind.i64 [(DV.v (Value.int IntKind.i64 x.obj)), (DV.v (Value.int IntKind.i64 x.slot))] 1 = some x.slot from rfl]
      simp only [optAll_so, at_ok, List.length_map, next_ok, ktup_is]
      by_cases hd : at_ L x 4 > deep
      · rw [decide_eq_true hd, decide_eq_true (show ((out.length : Int) < 448) by omega)]
        simp only [cT, needs_iff, List.length_append, List.length_map]
        have hlen : ([[(DV.v (Value.int IntKind.i64 x.obj)), (DV.v (Value.int IntKind.i64 x.slot))]].take 1).length = 1 := rfl
        rw [hlen]
        refine ⟨trivial, by omega, ?_⟩
        have := ih (lk L x 3) (out ++ [x]) (by simp; omega)
        have e : out ++ blw L deep (n + 1) (some x) = (out ++ [x]) ++ blw L deep n (lk L x 3) := by
          simp only [blw]
          rw [if_pos hd]; simp
        rw [e]
        rw [List.map_append] at this
        exact this
      · rw [decide_eq_false hd]
        show _ = _
        rw [List.take_of_length_le (by simp)]
        simp only [blw]
        rw [if_neg hd]; simp
theorem below_w (L : List Int) (k : K) : links_Below.R (L.map ei) k.obj k.slot = some ((blw L (at_ L k 4) 448 (lk L k 3)).map encK, ()) := by
  refine links_Below.start _ _ _ _ ?_
  rw [at_ok, next_ok, ktup_is]
  simp only [optAll_so]
  refine links_Below.H4_step _ _ _ _ _ _ _ ?_
  cases ho : lk L k 3 with
  | none => exact rfl
  | some x =>
    simp only [Option.isSome_some, cT, kor, optAll_so, at_ok, next_ok, ktup_is]
    simp only [blw]
    by_cases hd : at_ L x 4 > at_ L k 4
    · rw [decide_eq_true hd, if_pos hd]
      rw [show decide ((([] : List (List DV)).length : Int) < 448) = true from rfl]
      simp only [cT, needs_iff]
      refine ⟨trivial, ⟨show 1 * 16 ≤ 140737488355328 by omega, show 1 * 2 ≤ 140737488355328 by omega⟩, ?_⟩
      have := blw_loop L (at_ L k 4) x.obj x.slot 447 (lk L x 3) [x] (by simp)
      exact this
    · rw [decide_eq_false hd, if_neg hd]
      exact rfl
/-! Are cells the same? -/
theorem same_refl (X : List Int) (hl : X.length < 1000000) : law24_same.R (X.map ei) (X.map ei) = some (true, ()) := by
  refine law24_same.start _ _ _ ?_
  rw [show ((((X.map ei).length : Nat) : Int) != (((X.map ei).length : Nat) : Int)) = false by simp]
  simp only [cF]
  have key : ∀ n i : Nat, i + n = X.length → law24_same.H5 (X.map ei) (X.map ei) (i : Int) (true, ()) := by
    intro n
    induction n with
    | zero =>
      intro i hi
      refine law24_same.H5_step _ _ _ _ ?_
      rw [List.length_map, decide_eq_false (by omega)]
      exact rfl
    | succ n ih =>
      intro i hi
      have hil : i < X.length := by omega
      refine law24_same.H5_step _ _ _ _ ?_
      rw [List.length_map, decide_eq_true (by omega)]
      simp only [cT, needs_nat, Int.toNat_natCast, map_get _ _ _ hil, optAll_so, ei0, wrap_succ (show i < 4611686018427387904 by omega)]
      rw [show (X[i] != X[i]) = false by simp]
      exact ih (i + 1) (by omega)
  exact key X.length 0 (by omega)
theorem rkey_ok (o i : Int) : law24_key.R o i = some ((o, (i, ())), ()) := law24_key.start _ _ _ rfl
/-- Are a tree's fields in cells? (if they are) -/
theorem alike_ok (X Y : List Int) (u : List (List DV)) (hc : law24_cells.R u = some (Y.map ei, ())) (hX : X.length = 4096) (hY : Y.length = 4096) (h : ∀ k, cd k ≠ 0 → ∀ f, 2 ≤ f → f ≤ 5 → at_ X k f = at_ Y k f) :
    law24_alike.R (X.map ei) u = some (true, ()) := by
  refine law24_alike.start _ _ _ ?_
  rw [hc]
  simp only [optAll_so, List.length_map]
  rw [show (((X.length : Nat) : Int) != ((Y.length : Nat) : Int)) = false by simp [hX, hY]]
  simp only [cF]
  have fin : law24_alike.H6 (X.map ei) (Y.map ei) 4 (true, ()) := law24_alike.H6_step _ _ _ _ (by exact rfl)
  have row : ∀ (n : Nat) (o i : Int), (0 ≤ o ∧ o < 4) → i + n = 8 → (0 ≤ i) → law24_alike.H6 (X.map ei) (Y.map ei) (o + 1) (true, ()) → law24_alike.H9 (X.map ei) (Y.map ei) o i (true, ()) := by
    intro n
    induction n with
    | zero =>
      intro o i ho hi h0 hn
      refine law24_alike.H9_step _ _ _ _ _ ?_
      rw [decide_eq_false (show ¬ (i < 8) by omega), w64 (by omega) (by omega)]
      simp only [cF]
      exact hn
    | succ n ih =>
      intro o i ho hi h0 hn
      refine law24_alike.H9_step _ _ _ _ _ ?_
      rw [decide_eq_true (show i < 8 by omega)]
      simp only [cT]
      have hk : cd ⟨o, i⟩ ≠ 0 := by rw [cd_eq ⟨ho.1, by simp only; omega, h0, by simp only; omega⟩]; simp only; omega
      have cell : ∀ (m : Nat) (f : Int), f + m = 6 → 2 ≤ f → law24_alike.H12 (X.map ei) (Y.map ei) o i f (true, ()) := by
        intro m
        induction m with
        | zero =>
          intro f hf h2
          refine law24_alike.H12_step _ _ _ _ _ _ ?_
          rw [decide_eq_false (show ¬ (f ≤ 5) by omega)]
          simp only [cF]
          rw [w64 (n := i + 1) (by omega) (by omega)]
          exact ih o (i + 1) ho (by omega) (by omega) hn
        | succ m ihm =>
          intro f hf h2
          refine law24_alike.H12_step _ _ _ _ _ _ ?_
          rw [decide_eq_true (show f ≤ 5 by omega)]
          have hr := sl_range hk (show 0 ≤ f by omega) (show f ≤ 5 by omega)
          have hs := rslot_ok ⟨o, i⟩ f
          simp only [cT, rkey_ok, optAll_so] at hs ⊢
          rw [hs]
          have hx : (sl ⟨o, i⟩ f).toNat < X.length := by omega
          have hy : (sl ⟨o, i⟩ f).toNat < Y.length := by omega
          simp only [optAll_so, needs_iff, map_get _ _ _ hx, map_get _ _ _ hy, ei0]
          refine ⟨by omega, by omega, ?_⟩
          have he := h ⟨o, i⟩ hk f h2 (by omega)
          unfold at_ at he
          rw [if_neg (by omega), if_neg (by omega), List.getD_eq_getElem?_getD, List.getD_eq_getElem?_getD, List.getElem?_eq_getElem hx, List.getElem?_eq_getElem hy] at he
          simp only [Option.getD_some] at he
          rw [he, w64 (by omega) (by omega)]
          rw [show (Y[(sl ⟨o, i⟩ f).toNat] != Y[(sl ⟨o, i⟩ f).toNat]) = false by simp]
          exact ihm (f + 1) (by omega) (by omega)
      exact cell 4 2 (by omega) (by omega)
  have outer : ∀ (n : Nat) (o : Int), o + n = 4 → 0 ≤ o → law24_alike.H6 (X.map ei) (Y.map ei) o (true, ()) := by
    intro n
    induction n with
    | zero => intro o ho h0; rw [show o = 4 by omega]; exact fin
    | succ n ih =>
      intro o ho h0
      refine law24_alike.H6_step _ _ _ _ ?_
      rw [decide_eq_true (show o < 4 by omega)]
      exact row 8 o 0 (by omega) (by omega) (by omega) (ih (o + 1) (by omega) (by omega))
  exact outer 4 0 (by omega) (by omega)
end Links
end Go.AI
