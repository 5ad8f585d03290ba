/-
  Own work. grab's laws: GrabEnds.
-/
import Derived.Test.YtcfglafjemagpaaGrab7
import Derived.Test.YtcfglafjemagpaaToldE
namespace Go.AI
open Go
set_option linter.unusedVariables false
set_option linter.unusedSimpArgs false
namespace Grabs
open Kit

theorem all5_tot {v : List Int} {gs : List S} (h : Lk v gs) (h5 : all5 gs) : tot gs = 0 := by
  unfold tot
  rw [List.sum_eq_zero_iff_forall_eq_nat]
  intro x hx
  rw [List.mem_map] at hx
  obtain ⟨s, hs, rfl⟩ := hx
  obtain ⟨i, hi, rfl⟩ := List.mem_iff_getElem.1 hs
  have hg := List.getElem?_eq_getElem hi
  have h1 := h5 i _ hg
  have h2 := h.wf i _ hg
  rw [held_len h2]
  rcases h2.ph with ⟨p, q⟩ | ⟨p, q⟩ | ⟨p, q⟩ | ⟨p, q⟩ | ⟨p, q⟩ <;> omega
theorem free_all {v : List Int} {gs : List S} (h : Lk v gs) (h5 : all5 gs) (j : Nat) (hj : j < v.length) : v[j] = 0 := by
  have h0 : nz v = 0 := by rw [h.cnt]; exact all5_tot h h5
  unfold nz at h0
  rw [List.countP_eq_zero] at h0
  have := h0 v[j] (List.getElem_mem hj)
  simpa using this
theorem last_ok {v : List Int} {gs : List S} (h : Lk v gs) (h5 : all5 gs) : ∀ m j : Nat, j + m = v.length → law07_GrabEnds.H31_5242880 (v.map ei) j (true, ()) := by
  have hl := h.len
  intro m
  induction m with
  | zero =>
    intro j hj
    refine law07_GrabEnds.H31_5242880_step _ _ _ ?_
    rw [List.length_map, decide_eq_false (by omega)]
    simp only [cond_false, live_ok, optAll_so]
  | succ m ih =>
    intro j hj
    have hjl : j < v.length := by omega
    refine law07_GrabEnds.H31_5242880_step _ _ _ ?_
    rw [List.length_map, decide_eq_true (by omega)]
    simp only [cond_true, needs_iff, Nat.zero_add, Int.toNat_natCast, map_get _ _ _ hjl, optAll_so, ei0, free_all h h5 j hjl, bne_self_eq_false, cond_false]
    refine ⟨by omega, ?_⟩
    rw [wrap_succ (by omega)]
    exact ih (j + 1) (by omega)
theorem ended {v : List Int} {gs : List S} {n : Int} {tr : List (List DV)} (h : Lk v gs) (h5 : all5 gs) : ∀ m j : Nat, j + m = gs.length → law07_GrabEnds.H25_4194304 gs.length j (gs.map S.row) 8 n tr (v.map ei) (true, ()) := by
  have hl := h.len
  have hf := h.few
  intro m
  induction m with
  | zero =>
    intro j hj
    refine law07_GrabEnds.H25_4194304_step _ _ _ _ _ _ _ _ ?_
    rw [decide_eq_false (by omega), List.take_of_length_le (l := v.map ei) (by rw [List.length_map]; omega)]
    simp only [cond_false, needs_iff, List.length_map]
    exact ⟨by omega, last_ok h h5 v.length 0 (by omega)⟩
  | succ m ih =>
    intro j hj
    have hjl : j < gs.length := by omega
    refine law07_GrabEnds.H25_4194304_step _ _ _ _ _ _ _ _ ?_
    have h1 := h5 j gs[j] (List.getElem?_eq_getElem hjl)
    rw [decide_eq_true (by omega)]
    simp only [cond_true, needs_iff, Nat.zero_add, Int.toNat_natCast, map_get _ _ _ hjl, optAll_so, s2_, h1, bne_self_eq_false, cond_false]
    refine ⟨by omega, ?_⟩
    rw [wrap_succ (by omega)]
    exact ih (j + 1) (by omega)
theorem set_rows {gs : List S} {k : Nat} (s' : S) : (gs.map S.row).set k s'.row = (gs.set k s').map S.row := List.map_set.symm
/-- Are all before the k-th done? -/
def flag (gs : List S) (k : Nat) : Bool := (gs.take k).all fun s => s.ph == 5
theorem flag_all {gs : List S} (h : flag gs gs.length = true) : all5 gs := by
  intro i s hs
  unfold flag at h
  rw [List.take_length] at h
  have := List.all_eq_true.1 h s (List.mem_of_getElem? hs)
  simpa using this
theorem flag_of {gs : List S} (h : all5 gs) : flag gs gs.length = true := by
  unfold flag
  rw [List.take_length]
  refine List.all_eq_true.2 fun s hs => ?_
  obtain ⟨i, hi, rfl⟩ := List.mem_iff_getElem.1 hs
  have := h i _ (List.getElem?_eq_getElem hi)
  simpa using this
theorem flag_set {gs : List S} {k : Nat} (hk : k < gs.length) (s' : S) : flag (gs.set k s') (k + 1) = (flag gs k && (s'.ph == 5)) := by
  have hk2 : k < (gs.set k s').length := by rw [List.length_set]; exact hk
  unfold flag
  rw [List.take_succ_eq_append_getElem hk2, List.take_set_of_le (Nat.le_refl k)]
  simp
set_option maxRecDepth 100000 in
set_option maxHeartbeats 8000000 in
theorem round_ok {M r : Nat} (hr : r < 1000) (next : ∀ (v : List Int) (gs : List S) (n : Int) (tr : List (List DV)), Lh v gs → W M v gs → ¬ all5 gs → tr.length ≤ 2000 → law07_GrabEnds.H15 gs.length ((r + 1 : Nat) : Int) (gs.map S.row) 8 n tr (v.map ei) (true, ())) :
    ∀ (m k : Nat) (v : List Int) (gs : List S) (n : Int) (tr : List (List DV)), k + m = gs.length → Lh v gs → tr.length ≤ 2000 → (∀ v2 gs2, Run k v gs v2 gs2 → Lh v2 gs2 → W M v2 gs2) →
      law07_GrabEnds.H19 gs.length r (flag gs k) k (gs.map S.row) 8 n tr (v.map ei) (true, ()) := by
  intro m
  induction m with
  | zero =>
    intro k v gs n tr hk hl htr hW
    refine law07_GrabEnds.H19_step _ _ _ _ _ _ _ _ _ _ ?_
    have e : k = gs.length := by omega
    have hw := hW v gs (.nil e) hl
    rw [decide_eq_false (by omega)]
    simp only [cond_false]
    rw [e]
    cases hf : flag gs gs.length with
    | true => exact ended hl.lk (flag_all hf) gs.length 0 (by omega)
    | false =>
      rw [wrap_succ (show r < 4611686018427387904 by omega)]
      refine next v gs n tr hl hw (fun h5 => ?_) htr
      rw [flag_of h5] at hf
      cases hf
  | succ m ih =>
    intro k v gs n tr hkm hl htr hW
    refine law07_GrabEnds.H19_step _ _ _ _ _ _ _ _ _ _ ?_
    have hk : k < gs.length := by omega
    have hf := hl.lk.few
    have hget : (gs.map S.row)[0 + Int.toNat (k : Int)]? = some gs[k].row := by rw [Nat.zero_add, Int.toNat_natCast, map_get _ _ _ hk]
    rw [decide_eq_true (by omega), cond_true]
    refine needs_iff.2 ⟨by omega, optAll_some hget (optAll_some (s0_ _) (optAll_some (s1_ _) (optAll_some (s2_ _) (optAll_some (s3_ _) (optAll_some (s4_ _) (optAll_some (s5_ _) ?_))))))⟩
    have key := @does_ok v gs k gs[k] n tr hl hk rfl htr (fun row V N TR => needs (((0 : Int) ≤ (k : Int)) ∧ ((k : Int) < ((gs.length : Nat) : Int))) (
      optAll ((gs.map S.row)[(0 + (Int.toNat (k : Int)))]?) fun (r35 : List DV) =>
      needs (6 ≤ (r35).length) (
      cond (flag gs k) (
        needs (((0 : Int) ≤ (k : Int)) ∧ ((k : Int) < ((gs.length : Nat) : Int))) (
        optAll ((((gs.map S.row).set ((0 + (Int.toNat (k : Int)))) (putD r35 0 row)))[(0 + (Int.toNat (k : Int)))]?) fun (r36 : List DV) =>
        optAll ((dInt IntKind.i64 r36 2)) fun (z37 : Int) =>
        law07_GrabEnds.H19 gs.length r (z37 == (5 : Int)) (IntKind.i64.wrap ((k : Int) + (1 : Int))) ((gs.map S.row).set ((0 + (Int.toNat (k : Int)))) (putD r35 0 row)) 8 N TR V (true, ()))) (
        law07_GrabEnds.H19 gs.length r false (IntKind.i64.wrap ((k : Int) + (1 : Int))) ((gs.map S.row).set ((0 + (Int.toNat (k : Int)))) (putD r35 0 row)) 8 N TR V (true, ())))))
    refine key (fun s' v' n' tr' hst hl' htr' => ?_)
    clear key
    have hlen : (gs.set k s').length = gs.length := List.length_set
    have nxt := ih (k + 1) v' (gs.set k s') n' tr' (by rw [hlen]; omega) hl' htr' fun v2 gs2 run hl2 => hW v2 gs2 (.cons hk (List.getElem?_eq_getElem hk) hst hl run) hl2
    rw [hlen, flag_set hk] at nxt
    refine needs_iff.2 ⟨by omega, optAll_some hget ?_⟩
    refine needs_iff.2 ⟨by show 6 ≤ 6; omega, ?_⟩
    rw [putRow, Nat.zero_add, Int.toNat_natCast, set_rows, wrap_succ (show k < 4611686018427387904 by omega)]
    have hg2 : ((gs.set k s').map S.row)[k]? = some s'.row := by rw [map_get _ _ _ (by rw [hlen]; exact hk)]; simp
    rw [hg2]
    simp only [optAll_so, s2_, needs_iff]
    cases hfl : flag gs k with
    | true =>
      rw [hfl, Bool.true_and] at nxt
      exact ⟨by omega, nxt⟩
    | false =>
      rw [hfl, Bool.false_and] at nxt
      exact nxt
theorem rounds_ok : ∀ (N r : Nat) (v : List Int) (gs : List S) (n : Int) (tr : List (List DV)), r + N ≤ 999 → Lh v gs → W N v gs → tr.length ≤ 2000 → law07_GrabEnds.H15 gs.length r (gs.map S.row) 8 n tr (v.map ei) (true, ()) := by
  intro N
  induction N with
  | zero =>
    intro r v gs n tr hr hl hw htr
    refine law07_GrabEnds.H15_step _ _ _ _ _ _ _ _ ?_
    rw [decide_eq_true (by omega)]
    have hw : all5 gs := hw
    exact round_ok (M := 0) (r := r) (by omega) (fun v gs n tr _ h1 h2 _ => absurd h1 h2) gs.length 0 v gs n tr (by omega) hl htr fun v2 gs2 run hl2 i s hs => by
      have hi := (List.getElem?_eq_some_iff.1 hs).1
      rw [run.len] at hi
      have := run.done i gs[i] (List.getElem?_eq_getElem hi) (hw i _ (List.getElem?_eq_getElem hi))
      rw [hs] at this
      cases this
      exact hw i _ (List.getElem?_eq_getElem hi)
  | succ N ih =>
    intro r v gs n tr hr hl hw htr
    refine law07_GrabEnds.H15_step _ _ _ _ _ _ _ _ ?_
    rw [decide_eq_true (by omega)]
    refine round_ok (M := N) (r := r) (by omega) (fun v gs n tr h0 h1 _ h3 => ih (r + 1) v gs n tr (by omega) h0 h1 h3) gs.length 0 v gs n tr (by omega) hl htr fun v2 gs2 run hl2 => ?_
    rcases hw with hw | hw
    · refine W.mono (Nat.zero_le N) (v := v2) (gs := gs2) (?_ : all5 gs2)
      intro i s hs
      have hi := (List.getElem?_eq_some_iff.1 hs).1
      rw [run.len] at hi
      have := run.done i gs[i] (List.getElem?_eq_getElem hi) (hw i _ (List.getElem?_eq_getElem hi))
      rw [hs] at this
      cases this
      exact hw i _ (List.getElem?_eq_getElem hi)
    · exact hw v2 gs2 run hl2
set_option maxRecDepth 100000 in
set_option maxHeartbeats 8000000 in
theorem ends_law (l : List Want) (picks : List Int) : law07_GrabEnds.R (l.map encW) (picks.map ei) = some (true, ()) := by
  refine law07_GrabEnds.start _ _ _ ?_
  obtain ⟨c, hc, hb⟩ := begins_ok l
  rw [hb]
  simp only [optAll_so]
  rcases hc with rfl | ⟨gs0, rfl, hf⟩
  · simp only [Bool.not_false, cond_true, live_ok, optAll_so]
  simp only [Bool.not_true, cond_false, List.length_map]
  by_cases h3 : picks.length > 300
  · rw [decide_eq_true (by omega)]
    simp only [cond_true, live_ok, optAll_so]
  rw [decide_eq_false (by omega)]
  simp only [cond_false, num_ok, optAll_so, bne_self_eq_false]
  have main : ∀ (m i : Nat) (gs : List S) (v : List Int) (n : Int) (tr : List (List DV)), i + m = picks.length → Lh v gs → tr.length ≤ 2000 →
      law07_GrabEnds.H9 (picks.map ei) gs.length i (gs.map S.row) 8 n tr (v.map ei) (true, ()) := by
    intro m
    induction m with
    | zero =>
      intro i gs v n tr hi hl htr
      refine law07_GrabEnds.H9_step _ _ _ _ _ _ _ _ _ ?_
      rw [List.length_map, decide_eq_false (by omega)]
      exact rounds_ok 180 0 v gs n tr (by omega) hl (enough hl) htr
    | succ m ih =>
      intro i gs v n tr hi hl htr
      refine law07_GrabEnds.H9_step _ _ _ _ _ _ _ _ _ ?_
      have hil : i < picks.length := by omega
      rw [List.length_map, decide_eq_true (by omega), cond_true]
      refine needs_iff.2 ⟨by omega, optAll_some (a := ei picks[i]) (by rw [Int.toNat_natCast, map_get _ _ _ hil]) (optAll_some (ei0 _) ?_)⟩
      by_cases hneg : picks[i] < 0
      · rw [decide_eq_false (show ¬ picks[i] ≥ 0 by omega), wrap_succ (show i < 4611686018427387904 by omega)]
        exact ih (i + 1) gs v n tr (by omega) hl htr
      rw [decide_eq_true (show picks[i] ≥ 0 by omega), cond_true]
      by_cases hbig : picks[i] ≥ ((gs.length : Nat) : Int)
      · rw [decide_eq_false (show ¬ picks[i] < ((gs.length : Nat) : Int) by omega), wrap_succ (show i < 4611686018427387904 by omega)]
        exact ih (i + 1) gs v n tr (by omega) hl htr
      rw [decide_eq_true (show picks[i] < ((gs.length : Nat) : Int) by omega), cond_true]
      obtain ⟨k, hkk⟩ : ∃ k : Nat, picks[i] = k := ⟨picks[i].toNat, by omega⟩
      rw [hkk] at hneg hbig ⊢
      have hk : k < gs.length := by omega
      have hget : (gs.map S.row)[0 + Int.toNat (k : Int)]? = some gs[k].row := by rw [Nat.zero_add, Int.toNat_natCast, map_get _ _ _ hk]
      refine needs_iff.2 ⟨by omega, optAll_some hget (optAll_some (s0_ _) (optAll_some (s1_ _) (optAll_some (s2_ _) (optAll_some (s3_ _) (optAll_some (s4_ _) (optAll_some (s5_ _) ?_))))))⟩
      have key := @does_ok v gs k gs[k] n tr hl hk rfl htr (fun row V N TR => needs (((0 : Int) ≤ (k : Int)) ∧ ((k : Int) < ((gs.length : Nat) : Int))) (
        optAll ((gs.map S.row)[(0 + (Int.toNat (k : Int)))]?) fun (r14 : List DV) =>
        needs (6 ≤ (r14).length) (
        law07_GrabEnds.H9 (picks.map ei) gs.length (IntKind.i64.wrap ((i : Int) + (1 : Int))) ((gs.map S.row).set ((0 + (Int.toNat (k : Int)))) (putD r14 0 row)) 8 N TR V (true, ()))))
      refine key (fun s' v' n' tr' hst hl' htr' => ?_)
      clear key
      have hlen : (gs.set k s').length = gs.length := List.length_set
      have nxt := ih (i + 1) (gs.set k s') v' n' tr' (by omega) hl' htr'
      rw [hlen] at nxt
      refine needs_iff.2 ⟨by omega, optAll_some hget ?_⟩
      refine needs_iff.2 ⟨by show 6 ≤ 6; omega, ?_⟩
      rw [putRow, Nat.zero_add, Int.toNat_natCast, set_rows, wrap_succ (show i < 4611686018427387904 by omega)]
      exact nxt
  have zero : Lh (List.replicate 8 (0 : Int)) gs0 := by
    refine ⟨⟨by simp, hf.few, fun i s h => (hf.at_ i s h).1, fun i s h c hc => ?_, ?_⟩, fun c hc hv => ?_⟩
    · unfold S.held at hc
      rw [(hf.at_ i s h).2] at hc
      simp at hc
    · have : tot gs0 = 0 := by
        unfold tot
        rw [List.sum_eq_zero_iff_forall_eq_nat]
        intro x hx
        rw [List.mem_map] at hx
        obtain ⟨s, hs, rfl⟩ := hx
        obtain ⟨i, hi, rfl⟩ := List.mem_iff_getElem.1 hs
        have := (hf.at_ i _ (List.getElem?_eq_getElem hi)).2
        unfold S.held
        rw [this]
        rfl
      rw [this]
      rfl
    · exact absurd (by rw [List.getElem?_replicate, if_pos hc]) hv
  exact main picks.length 0 gs0 (List.replicate 8 0) 0 [] (by omega) zero (by simp)
end Grabs
end Go.AI
