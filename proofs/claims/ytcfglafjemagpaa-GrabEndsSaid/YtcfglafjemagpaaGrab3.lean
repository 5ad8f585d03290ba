/-
  Own work. grab's laws: many who take locks.
-/
import Derived.Test.YtcfglafjemagpaaGrab1
import Derived.Test.YtcfglafjemagpaaToldL
namespace Go.AI
open Go
set_option linter.unusedVariables false
set_option linter.unusedSimpArgs false
namespace Grabs
open Kit

/-- One who takes locks. -/
structure S where
  who : Int
  cs : List Int
  ph : Int
  a : Nat
  t : Int
  w : Bool
def S.row (s : S) : List DV := [.v (.int .i64 s.who), .lst 1 (s.cs.map ei), .v (.int .i64 s.ph), .v (.int .i64 s.a), .v (.int .i64 s.t), .v (.bool s.w)]
def S.held (s : S) : List Int := s.cs.take s.a
theorem s0_ (s : S) : dInt .i64 s.row 0 = some s.who := rfl
theorem s1_ (s : S) : dLst 1 s.row 1 = some (s.cs.map ei) := rfl
theorem s2_ (s : S) : dInt .i64 s.row 2 = some s.ph := rfl
theorem s3_ (s : S) : dInt .i64 s.row 3 = some (s.a : Int) := rfl
theorem s4_ (s : S) : dInt .i64 s.row 4 = some s.t := rfl
theorem s5_ (s : S) : dBool s.row 5 = some s.w := rfl
structure Wf (i : Nat) (s : S) : Prop where
  who : s.who = i + 1
  up : s.cs.Pairwise (· < ·)
  rng : ∀ c ∈ s.cs, 0 ≤ c ∧ c < 8
  le : s.a ≤ s.cs.length
  few : s.cs.length ≤ 10
  ph : (s.ph = 1 ∧ s.a < s.cs.length) ∨ (s.ph = 2 ∧ s.a = s.cs.length) ∨ (s.ph = 3 ∧ 1 ≤ s.a) ∨ (s.ph = 4 ∧ 1 ≤ s.a) ∨ (s.ph = 5 ∧ s.a = 0)
theorem held_len {i : Nat} {s : S} (h : Wf i s) : s.held.length = s.a := by
  unfold S.held
  rw [List.length_take]
  have := h.le
  omega
def nz (v : List Int) : Nat := v.countP fun x => x != 0
def tot (gs : List S) : Nat := (gs.map fun s => s.held.length).sum
structure Lk (v : List Int) (gs : List S) : Prop where
  len : v.length = 8
  few : gs.length ≤ 6
  wf : ∀ (i : Nat) (s : S), gs[i]? = some s → Wf i s
  own : ∀ (i : Nat) (s : S), gs[i]? = some s → ∀ c ∈ s.held, v[c.toNat]? = some s.who
  cnt : nz v = tot gs
theorem nz_le (v : List Int) : nz v ≤ v.length := List.countP_le_length
theorem nz_set : ∀ (v : List Int) (j : Nat) (h : j < v.length) (x : Int), nz (v.set j x) + (if v[j] = 0 then 0 else 1) = nz v + (if x = 0 then 0 else 1)
  | y :: v, 0, _, x => by
    simp only [List.set_cons_zero, List.getElem_cons_zero, nz, List.countP_cons, bne_iff_ne, ne_eq]
    by_cases h1 : y = 0 <;> by_cases h2 : x = 0 <;> simp [h1, h2]
  | y :: v, j + 1, h, x => by
    have ih := nz_set v j (by simpa using h) x
    simp only [List.set_cons_succ, List.getElem_cons_succ, nz, List.countP_cons] at ih ⊢
    omega
theorem tot_set : ∀ (gs : List S) (i : Nat) (h : i < gs.length) (s : S), tot (gs.set i s) + gs[i].held.length = tot gs + s.held.length
  | g :: gs, 0, _, s => by
    simp only [List.set_cons_zero, List.getElem_cons_zero, tot, List.map_cons, List.sum_cons]
    omega
  | g :: gs, i + 1, h, s => by
    have ih := tot_set gs i (by simpa using h) s
    simp only [List.set_cons_succ, List.getElem_cons_succ, tot, List.map_cons, List.sum_cons] at ih ⊢
    omega
theorem tot_app (a b : List S) : tot (a ++ b) = tot a + tot b := by simp [tot]
theorem nz_app (a b : List Int) : nz (a ++ b) = nz a + nz b := List.countP_append
theorem tot_take (gs : List S) (i : Nat) (h : i < gs.length) : tot (gs.take (i + 1)) = tot (gs.take i) + gs[i].held.length := by
  rw [List.take_succ_eq_append_getElem h, tot_app]
  simp [tot]
theorem tot_mono (gs : List S) (i : Nat) : tot (gs.take i) ≤ tot gs := by
  have := tot_app (gs.take i) (gs.drop i)
  rw [List.take_append_drop] at this
  omega
theorem nz_take (v : List Int) (i : Nat) (h : i < v.length) : nz (v.take (i + 1)) = nz (v.take i) + (if v[i] = 0 then 0 else 1) := by
  rw [List.take_succ_eq_append_getElem h, nz_app]
  congr 1
  by_cases h0 : v[i] = 0 <;> simp [nz, h0]
theorem nz_mono (v : List Int) (i : Nat) : nz (v.take i) ≤ nz v := by
  have := nz_app (v.take i) (v.drop i)
  rw [List.take_append_drop] at this
  omega
/-! The locks are held by whom they should be. -/
theorem alone_ok {v : List Int} {gs : List S} (h : Lk v gs) (x y : DV) : law07_alone.R [.lst 1 (v.map ei), x, y] (gs.map S.row) = some (true, ()) := by
  have hv := h.len
  have hnz := nz_le v
  refine law07_alone.start _ _ _ ?_
  show needs _ _
  simp only [needs_iff, List.length_map]
  refine ⟨by omega, ?_⟩
  have last : ∀ m j : Nat, j + m = v.length → law07_alone.H17 (v.map ei) ((nz v : Int) - nz (v.take j)) j (true, ()) := by
    intro m
    induction m with
    | zero =>
      intro j hj
      refine law07_alone.H17_step _ _ _ _ ?_
      rw [List.length_map, decide_eq_false (by omega), List.take_of_length_le (by omega), Int.sub_self]
      exact rfl
    | succ m ih =>
      intro j hj
      have hjl : j < v.length := by omega
      refine law07_alone.H17_step _ _ _ _ ?_
      rw [List.length_map, decide_eq_true (by omega)]
      simp only [cond_true, Int.toNat_natCast, Nat.zero_add, map_get _ _ _ hjl, optAll_so, ei0, needs_iff]
      refine ⟨by omega, ?_⟩
      have ih := ih (j + 1) (by omega)
      have ht := nz_take v j hjl
      have hm := nz_mono v (j + 1)
      rw [wrap_succ (by omega)]
      by_cases h0 : v[j] = 0
      · rw [h0]
        rw [if_pos h0] at ht
        simp only [bne_self_eq_false, cond_false]
        rw [ht, Nat.add_zero] at ih
        exact ih
      · rw [if_neg h0] at ht
        rw [show ((v[j] != 0) : Bool) = true by simp [h0], cond_true, wrap_id (by omega) (by omega)]
        rw [ht] at ih
        rw [show (nz v : Int) - ((nz (v.take j) + 1 : Nat) : Int) = (nz v : Int) - nz (v.take j) - 1 by omega] at ih
        exact ih
  have main : ∀ m i : Nat, i + m = gs.length → law07_alone.H5 (gs.map S.row) (v.map ei) (tot (gs.take i)) i (true, ()) := by
    intro m
    induction m with
    | zero =>
      intro i hi
      refine law07_alone.H5_step _ _ _ _ _ ?_
      rw [List.length_map, decide_eq_false (by omega), List.take_of_length_le (by omega), ← h.cnt]
      have := last v.length 0 (by omega)
      simp only [List.take_zero] at this
      rw [show ((nz ([] : List Int) : Nat) : Int) = 0 from rfl, Int.sub_zero] at this
      exact this
    | succ m ih =>
      intro i hi
      have hil : i < gs.length := by omega
      have hw := h.wf i gs[i] (List.getElem?_eq_getElem hil)
      have ho := h.own i gs[i] (List.getElem?_eq_getElem hil)
      have hhl := held_len hw
      have htt := tot_take gs i hil
      have htm := tot_mono gs (i + 1)
      have hcnt := h.cnt
      refine law07_alone.H5_step _ _ _ _ _ ?_
      rw [List.length_map, decide_eq_true (by omega)]
      simp only [cond_true, needs_nat, Int.toNat_natCast, map_get _ _ _ hil, optAll_so, s0_, s1_, s2_, s3_, s4_, s5_]
      rw [held_ok hw.le (by have := hw.few; omega)]
      simp only [optAll_so]
      have ih := ih (i + 1) (by omega)
      generalize hsi : gs[i] = s at *
      have inner : ∀ m2 k : Nat, k + m2 = s.held.length → law07_alone.H9 (gs.map S.row) (v.map ei) ((tot (gs.take i) + k : Nat) : Int) i (s.held.map ei) k (true, ()) := by
        intro m2
        induction m2 with
        | zero =>
          intro k hk
          refine law07_alone.H9_step _ _ _ _ _ _ _ ?_
          rw [List.length_map, decide_eq_false (by omega)]
          simp only [cond_false, needs_nat, Int.toNat_natCast, map_get _ _ _ hil, optAll_so, hsi, s1_, s2_, List.length_map]
          have hnext : law07_alone.H5 (gs.map S.row) (v.map ei) ((tot (gs.take i) + k : Nat) : Int) (IntKind.i64.wrap ((i : Int) + 1)) (true, ()) := by
            rw [wrap_succ (by have := h.few; omega), show tot (gs.take i) + k = tot (gs.take (i + 1)) by omega]
            exact ih
          rw [hhl]
          rcases hw.ph with ⟨p1, p2⟩ | ⟨p1, p2⟩ | ⟨p1, p2⟩ | ⟨p1, p2⟩ | ⟨p1, p2⟩
          · rw [p1]; exact hnext
          · rw [p1, p2]
            simp only [beq_self_eq_true, cond_true, bne_self_eq_false, cond_false]
            exact hnext
          · rw [p1]; exact hnext
          · rw [p1]; exact hnext
          · rw [p1, p2]
            exact hnext
        | succ m2 ih2 =>
          intro k hk
          have hkl : k < s.held.length := by omega
          refine law07_alone.H9_step _ _ _ _ _ _ _ ?_
          have hmem : s.held[k] ∈ s.held := List.getElem_mem hkl
          have hc := ho _ hmem
          have hr := hw.rng s.held[k] (List.mem_of_mem_take hmem)
          have hcl : s.held[k].toNat < v.length := by omega
          have hcv : v[s.held[k].toNat] = s.who := by
            rw [List.getElem?_eq_getElem hcl] at hc
            exact Option.some.inj hc
          rw [List.length_map, decide_eq_true (by omega)]
          simp only [cond_true, needs_nat, Int.toNat_natCast, map_get _ _ _ hkl, optAll_so, ei0, List.length_map]
          rw [decide_eq_false (by omega), decide_eq_false (by omega), needs_iff]
          simp only [cond_false, Nat.zero_add, map_get _ _ _ hcl, map_get _ _ _ hil, optAll_so, ei0, needs_nat, Int.toNat_natCast, hsi, s0_, hcv, bne_self_eq_false]
          refine ⟨by omega, ?_⟩
          rw [wrap_succ (by omega), wrap_succ (by omega)]
          exact ih2 (k + 1) (by omega)
      have := inner s.held.length 0 (by omega)
      exact this
  exact main gs.length 0 (by omega)
/-! All who begin. -/
structure Want where
  w : Bool
  cs : List Int
def encW (x : Want) : List DV := [.v (.bool x.w), .lst 1 (x.cs.map ei)]
theorem w0_ (x : Want) : dBool (encW x) 0 = some x.w := rfl
theorem w1_ (x : Want) : dLst 1 (encW x) 1 = some (x.cs.map ei) := rfl
theorem has_no (l : List Int) (hl : l.length < 1000000) (hn : ∀ n ∈ l, 0 ≤ n) : slices_ContainsFunc_int_int__grab_Start_1.R (l.map ei) = some (false, ()) := by
  have key : ∀ m i : Nat, i + m = l.length → slices_IndexFunc_int_int__grab_Start_1.H3 (l.map ei) l.length i (-1, ()) := by
    intro m
    induction m with
    | zero =>
      intro i hi
      refine slices_IndexFunc_int_int__grab_Start_1.H3_step _ _ _ _ ?_
      rw [decide_eq_false (by omega)]
      exact rfl
    | succ m ih =>
      intro i hi
      have hil : i < l.length := by omega
      have := hn l[i] (List.getElem_mem hil)
      refine slices_IndexFunc_int_int__grab_Start_1.H3_step _ _ _ _ ?_
      rw [decide_eq_true (by omega)]
      simp only [cond_true, needs_nat, Int.toNat_natCast, map_get _ _ _ hil, optAll_so, ei0, neg_ok]
      rw [decide_eq_false (by omega), wrap_succ (show i < 4611686018427387904 by omega)]
      exact ih (i + 1) (by omega)
  have e1 : slices_IndexFunc_int_int__grab_Start_1.R (l.map ei) = some (-1, ()) := by
    refine slices_IndexFunc_int_int__grab_Start_1.start _ _ ?_
    rw [List.length_map]
    exact key l.length 0 (by omega)
  refine slices_ContainsFunc_int_int__grab_Start_1.start _ _ ?_
  rw [e1]
  exact rfl
theorem start_fine (who : Int) (wait : Bool) (l : List Int) (hl : l.length ≤ 64) (hw : 1 ≤ who) (hn : ∀ n ∈ l, 0 ≤ n) : grab_Start.R who wait (l.map ei) = some (gt who (cut l) (if (cut l).length = 0 then 2 else 1) 0 0 wait, (0, ())) := by
  refine (grab_Start.start _ _ _ _ ?_)
  rw [decide_eq_false (by omega), has_no l (by omega) hn]
  simp only [cond_false, optAll_so, List.length_map]
  rw [decide_eq_false (by omega)]
  have hlen := isort_len l
  simp only [cond_false, cellsEi, mapO_ei, optAll_so, List.length_map, needs_iff, true_and, hlen]
  refine ⟨by omega, by omega, by omega, ?_⟩
  have e : ((Lib.compact (isort l) ++ List.replicate (l.length - (Lib.compact (isort l)).length) 0).map ei).take (Lib.compact (isort l)).length = (cut l).map ei := by
    rw [List.map_append, List.take_left' (by simp)]
    rfl
  rw [e]
  show cond ((((cut l).length : Nat) : Int) == 0) _ _
  by_cases h0 : (cut l).length = 0
  · rw [if_pos h0, h0]; exact rfl
  · rw [if_neg h0, beq_eq_false_iff_ne.2 (by omega)]; exact rfl
theorem cut_mem {l : List Int} {c : Int} (h : c ∈ cut l) : c ∈ l := by
  unfold cut Lib.compact Lib.compactUpTo at h
  rw [List.mem_map] at h
  obtain ⟨i, hi, rfl⟩ := h
  rw [List.mem_filter, List.mem_range] at hi
  refine (isort_perm l).mem_iff.1 ?_
  rw [getElem!_pos _ i (by simpa using hi.1)]
  simp
/-- Those who begin. -/
structure Fr (gs : List S) : Prop where
  few : gs.length ≤ 6
  at_ : ∀ (i : Nat) (s : S), gs[i]? = some s → Wf i s ∧ s.a = 0
def first (i : Nat) (x : Want) : S := ⟨((i + 1 : Nat) : Int), cut x.cs, if (cut x.cs).length = 0 then 2 else 1, 0, 0, x.w⟩
theorem first_wf (i : Nat) (x : Want) (h1 : x.cs.length ≤ 10) (h2 : ∀ c ∈ x.cs, 0 ≤ c ∧ c < 8) : Wf i (first i x) := by
  have hl := cut_len x.cs
  refine ⟨by show ((i + 1 : Nat) : Int) = _; omega, cut_up _, fun c hc => h2 c (cut_mem hc), Nat.zero_le _, by show (cut x.cs).length ≤ 10; omega, ?_⟩
  show ((if (cut x.cs).length = 0 then (2 : Int) else 1) = 1 ∧ 0 < (cut x.cs).length) ∨ ((if (cut x.cs).length = 0 then (2 : Int) else 1) = 2 ∧ 0 = (cut x.cs).length) ∨ _
  by_cases h0 : (cut x.cs).length = 0
  · rw [if_pos h0]; exact .inr (.inl ⟨rfl, h0.symm⟩)
  · rw [if_neg h0]; exact .inl ⟨rfl, by omega⟩
def Ok (c : List (List DV) × (Bool × Unit)) : Prop := c = ([], (false, ())) ∨ ∃ gs, c = (gs.map S.row, (true, ())) ∧ Fr gs
theorem begins_ok (l : List Want) : ∃ c, Ok c ∧ law07_begins.R (l.map encW) = some c := by
  by_cases h6 : l.length > 6
  · refine ⟨_, .inl rfl, law07_begins.start _ _ ?_⟩
    rw [List.length_map, decide_eq_true (by omega)]
    exact rfl
  have main : ∀ (m i : Nat) (gs : List S), i + m = l.length → gs.length = i → Fr gs → ∃ c, Ok c ∧ law07_begins.H6 (l.map encW) (gs.map S.row) i c ∧ law07_begins.H6_1048576 (l.map encW) (gs.map S.row) i [] c := by
    intro m
    induction m with
    | zero =>
      intro i gs hi hg hf
      refine ⟨_, .inr ⟨gs, rfl, hf⟩, law07_begins.H6_step _ _ _ _ ?_, law07_begins.H6_1048576_step _ _ _ _ _ ?_⟩ <;>
      · rw [List.length_map, decide_eq_false (by omega), cond_false, needs_iff, List.take_length]
        exact ⟨⟨rfl, rfl⟩, rfl⟩
    | succ m ih =>
      intro i gs hi hg hf
      have hil : i < l.length := by omega
      by_cases h10 : l[i].cs.length > 10
      · refine ⟨_, .inl rfl, law07_begins.H6_step _ _ _ _ ?_, law07_begins.H6_1048576_step _ _ _ _ _ ?_⟩ <;>
        · rw [List.length_map, decide_eq_true (by omega)]
          simp only [cond_true, needs_nat, Int.toNat_natCast, map_get _ _ _ hil, optAll_so, w1_, List.length_map]
          rw [decide_eq_true (by omega)]
          exact True.intro
      have inner : ∀ m2 k : Nat, k + m2 = l[i].cs.length → (∀ c ∈ l[i].cs.take k, 0 ≤ c ∧ c < 8) → ∃ c, Ok c ∧ law07_begins.H12 (l.map encW) (gs.map S.row) i ((l[i].cs.take k).map ei) k c := by
        intro m2
        induction m2 with
        | zero =>
          intro k hk hc
          have htk : l[i].cs.take k = l[i].cs := List.take_of_length_le (by omega)
          rw [htk] at hc ⊢
          have hwf := first_wf i l[i] (by omega) hc
          obtain ⟨c, hc1, _, hc2⟩ := ih (i + 1) (gs ++ [first i l[i]]) (by omega) (by simp [hg]) ⟨by rw [List.length_append, List.length_singleton]; omega, fun j s hj => by
            by_cases hji : j < gs.length
            · rw [List.getElem?_append_left hji] at hj; exact hf.at_ j s hj
            · rw [List.getElem?_append_right (by omega)] at hj
              have hj0 : j - gs.length = 0 := by
                have := (List.getElem?_eq_some_iff.1 hj).1
                simp at this
                omega
              rw [hj0] at hj
              simp only [List.getElem?_cons_zero, Option.some.injEq] at hj
              subst hj
              have : j = i := by omega
              subst this
              exact ⟨hwf, rfl⟩⟩
          refine ⟨c, hc1, law07_begins.H12_step _ _ _ _ _ _ ?_⟩
          simp only [needs_nat, Int.toNat_natCast, map_get _ _ _ hil, optAll_so, w1_, w0_, List.length_map]
          rw [decide_eq_false (by omega), wrap_succ (show i < 4611686018427387904 by omega), List.take_of_length_le (by simp), start_fine ((i + 1 : Nat) : Int) l[i].w l[i].cs (by omega) (by omega) (fun n hn => (hc n hn).1)]
          simp only [cond_false, optAll_so, needs_iff, true_and, gt]
          have e : gs.map S.row ++ (([(first i l[i]).row]).take 1) = (gs ++ [first i l[i]]).map S.row := by simp
          have e2 : ((gs ++ [first i l[i]]).map S.row).length ≤ 7 := by rw [List.length_map, List.length_append, List.length_singleton]; omega
          change ((gs.map S.row ++ (([(first i l[i]).row]).take 1)).length * 64 ≤ 140737488355328 ∧ (gs.map S.row ++ (([(first i l[i]).row]).take 1)).length * 6 ≤ 140737488355328) ∧ law07_begins.H6_1048576 (l.map encW) (gs.map S.row ++ (([(first i l[i]).row]).take 1)) ((i + 1 : Nat) : Int) [] c
          rw [e]
          exact ⟨by omega, hc2⟩
        | succ m2 ih2 =>
          intro k hk hc
          have hkl : k < l[i].cs.length := by omega
          by_cases hneg : l[i].cs[k] < 0
          · refine ⟨_, .inl rfl, law07_begins.H12_step _ _ _ _ _ _ ?_⟩
            simp only [needs_nat, Int.toNat_natCast, map_get _ _ _ hil, optAll_so, w1_, w0_, List.length_map]
            rw [decide_eq_true (by omega)]
            simp only [cond_true, map_get _ _ _ hkl, optAll_so, ei0]
            rw [decide_eq_true hneg]
            first | exact rfl | exact True.intro
          by_cases hbig : l[i].cs[k] ≥ 8
          · refine ⟨_, .inl rfl, law07_begins.H12_step _ _ _ _ _ _ ?_⟩
            simp only [needs_nat, Int.toNat_natCast, map_get _ _ _ hil, optAll_so, w1_, w0_, List.length_map]
            rw [decide_eq_true (by omega)]
            simp only [cond_true, map_get _ _ _ hkl, optAll_so, ei0]
            rw [decide_eq_false hneg, decide_eq_true hbig]
            first | exact rfl | exact True.intro
          have htk : l[i].cs.take (k + 1) = l[i].cs.take k ++ [l[i].cs[k]] := List.take_succ_eq_append_getElem hkl
          obtain ⟨c, hc1, hc2⟩ := ih2 (k + 1) (by omega) (by
            rw [htk]
            intro c hm
            rw [List.mem_append, List.mem_singleton] at hm
            rcases hm with hm | rfl
            · exact hc c hm
            · omega)
          refine ⟨c, hc1, law07_begins.H12_step _ _ _ _ _ _ ?_⟩
          simp only [needs_nat, Int.toNat_natCast, map_get _ _ _ hil, optAll_so, w1_, w0_, List.length_map]
          rw [decide_eq_true (by omega)]
          simp only [cond_true, map_get _ _ _ hkl, optAll_so, ei0]
          rw [decide_eq_false hneg, decide_eq_false hbig]
          have e : (l[i].cs.take k).map ei ++ (([ei l[i].cs[k]]).take 1) = (l[i].cs.take (k + 1)).map ei := by rw [htk, List.map_append]; rfl
          have e2 : ((l[i].cs.take (k + 1)).map ei).length ≤ 11 := by rw [List.length_map, List.length_take]; omega
          simp only [cond_false, needs_iff, true_and]
          rw [wrap_succ (show k < 4611686018427387904 by omega)]
          change (((l[i].cs.take k).map ei ++ (([ei l[i].cs[k]]).take 1)).length * 8 ≤ 140737488355328 ∧ ((l[i].cs.take k).map ei ++ (([ei l[i].cs[k]]).take 1)).length * 1 ≤ 140737488355328) ∧ law07_begins.H12 (l.map encW) (gs.map S.row) i ((l[i].cs.take k).map ei ++ (([ei l[i].cs[k]]).take 1)) ((k + 1 : Nat) : Int) c
          rw [e]
          exact ⟨by omega, hc2⟩
      obtain ⟨c, hc1, hc2⟩ := inner l[i].cs.length 0 (by omega) (by simp)
      refine ⟨c, hc1, law07_begins.H6_step _ _ _ _ ?_, law07_begins.H6_1048576_step _ _ _ _ _ ?_⟩ <;>
      · rw [List.length_map, decide_eq_true (by omega)]
        simp only [cond_true, needs_nat, Int.toNat_natCast, map_get _ _ _ hil, optAll_so, w1_, List.length_map]
        rw [decide_eq_false (by omega)]
        exact hc2
  obtain ⟨c, hc1, hc2, _⟩ := main l.length 0 [] (by omega) rfl ⟨by simp, fun i s h => by simp at h⟩
  refine ⟨c, hc1, law07_begins.start _ _ ?_⟩
  rw [List.length_map, decide_eq_false (by omega)]
  exact hc2
end Grabs
end Go.AI
