/-
  Own work. grab's laws: GrabAlone.
-/
import Derived.Test.YtcfglafjemagpaaGrab3
namespace Go.AI
open Go
set_option linter.unusedVariables false
set_option linter.unusedSimpArgs false
namespace Grabs
open Kit

/-- What a step does to one and to the cells. -/
theorem lk_same {v : List Int} {gs : List S} (h : Lk v gs) {k : Nat} (hk : k < gs.length) (s : S) (hw : Wf k s) (hh : s.held = gs[k].held) : Lk v (gs.set k s) := by
  have hw0 := h.wf k gs[k] (List.getElem?_eq_getElem hk)
  refine ⟨h.len, by rw [List.length_set]; exact h.few, fun i x hx => ?_, fun i x hx c hc => ?_, ?_⟩
  · rw [List.getElem?_set] at hx
    split at hx
    · rename_i e
      subst e
      cases hx
      exact hw
    · exact h.wf i x hx
  · rw [List.getElem?_set] at hx
    split at hx
    · rename_i e
      subst e
      cases hx
      rw [hh] at hc
      rw [h.own k gs[k] (List.getElem?_eq_getElem hk) c hc, hw0.who, hw.who]
    · exact h.own i x hx c hc
  · have := tot_set gs k hk s
    rw [hh] at this
    rw [h.cnt]
    omega
theorem lk_more {v : List Int} {gs : List S} (h : Lk v gs) {k : Nat} (hk : k < gs.length) (s : S) (hw : Wf k s) {c : Int} (hc : 0 ≤ c ∧ c < 8) (hh : s.held = gs[k].held ++ [c]) (hv : v[c.toNat]? = some 0) : Lk (v.set c.toNat ((k : Int) + 1)) (gs.set k s) := by
  have hw0 := h.wf k gs[k] (List.getElem?_eq_getElem hk)
  have hl := h.len
  have hcl : c.toNat < v.length := by omega
  have keep : ∀ (i : Nat) (x : S), gs[i]? = some x → ∀ d ∈ x.held, (v.set c.toNat ((k : Int) + 1))[d.toNat]? = some x.who := fun i x hx d hd => by
    have h1 := h.own i x hx d hd
    have h2 := (h.wf i x hx).who
    rw [List.getElem?_set, if_neg]
    · exact h1
    · intro e
      rw [e] at hv
      rw [h1, h2] at hv
      have := Option.some.inj hv
      omega
  refine ⟨by rw [List.length_set]; exact hl, by rw [List.length_set]; exact h.few, fun i x hx => ?_, fun i x hx d hd => ?_, ?_⟩
  · rw [List.getElem?_set] at hx
    split at hx
    · rename_i e
      subst e
      cases hx
      exact hw
    · exact h.wf i x hx
  · rw [List.getElem?_set] at hx
    split at hx
    · rename_i e
      subst e
      cases hx
      rw [hh, List.mem_append, List.mem_singleton] at hd
      rcases hd with hd | rfl
      · rw [keep k gs[k] (List.getElem?_eq_getElem hk) d hd, hw0.who, hw.who]
      · rw [List.getElem?_set, if_pos rfl, if_pos hcl, hw.who]
    · exact keep i x hx d hd
  · have h1 := tot_set gs k hk s
    have h2 := nz_set v c.toNat hcl ((k : Int) + 1)
    have h3 : v[c.toNat] = 0 := by
      rw [List.getElem?_eq_getElem hcl] at hv
      exact Option.some.inj hv
    rw [h3, if_pos rfl, if_neg (by omega)] at h2
    rw [hh, List.length_append, List.length_singleton] at h1
    have := h.cnt
    omega
theorem lk_less {v : List Int} {gs : List S} (h : Lk v gs) {k : Nat} (hk : k < gs.length) (s : S) (hw : Wf k s) {c : Int} (hh : gs[k].held = s.held ++ [c]) (hn : c ∉ s.held) (hr : ∀ d ∈ s.held, 0 ≤ d) (hc : 0 ≤ c ∧ c < 8) : Lk (v.set c.toNat 0) (gs.set k s) := by
  have hw0 := h.wf k gs[k] (List.getElem?_eq_getElem hk)
  have hl := h.len
  have hcl : c.toNat < v.length := by omega
  have hv := h.own k gs[k] (List.getElem?_eq_getElem hk) c (by rw [hh]; simp)
  refine ⟨by rw [List.length_set]; exact hl, by rw [List.length_set]; exact h.few, fun i x hx => ?_, fun i x hx d hd => ?_, ?_⟩
  · rw [List.getElem?_set] at hx
    split at hx
    · rename_i e
      subst e
      cases hx
      exact hw
    · exact h.wf i x hx
  · rw [List.getElem?_set] at hx
    split at hx
    · rename_i e
      subst e
      cases hx
      have h1 := h.own k gs[k] (List.getElem?_eq_getElem hk) d (by rw [hh, List.mem_append]; exact .inl hd)
      rw [List.getElem?_set, if_neg, h1, hw0.who, hw.who]
      intro e
      have := hr d hd
      have : d = c := by omega
      subst this
      exact hn hd
    · rename_i hne
      have h1 := h.own i x hx d hd
      have h2 := (h.wf i x hx).who
      rw [List.getElem?_set, if_neg]
      · exact h1
      · intro e
        rw [e] at hv
        rw [h1, h2, hw0.who] at hv
        have := Option.some.inj hv
        omega
  · have h1 := tot_set gs k hk s
    have h2 := nz_set v c.toNat hcl 0
    have h3 : v[c.toNat] = (k : Int) + 1 := by
      rw [List.getElem?_eq_getElem hcl, hw0.who] at hv
      exact Option.some.inj hv
    rw [h3, if_pos rfl, if_neg (by omega)] at h2
    rw [hh, List.length_append, List.length_singleton] at h1
    have := h.cnt
    omega
theorem check_ok {c who : Int} {k : Int} (hk : k = 4 ∨ k = 5) (h1 : 1 ≤ who) (h2 : 0 ≤ c ∧ c < 8) : cells_Check.R k c 0 0 who ((8 : Nat) : Int) = some (0, ()) := by
  refine cells_Check.start _ _ _ _ _ _ _ ?_
  rcases hk with rfl | rfl
  · simp only [beq_self_eq_true, cond_true]
    rw [decide_eq_false (by omega), decide_eq_true (by omega), decide_eq_true (by omega)]
    exact True.intro
  · simp only [show ((5 : Int) == 4) = false from rfl, beq_self_eq_true, cond_true, cond_false]
    rw [decide_eq_false (by omega), decide_eq_true (by omega), decide_eq_true (by omega)]
    exact True.intro
def told (k c who n : Int) (ok : Bool) : (Int × (Int × (Int × (Int × (Int × (Int × (Bool × Unit))))))) := (k, (c, (0, (0, (who, (n, (ok, ())))))))
theorem try_free {c who : Int} : cells_step.R 0 4 c 0 0 who = some ((told 4 c who 0 true, ()), who) := by
  refine cells_step.start _ _ _ _ _ _ _ ?_
  exact rfl
theorem try_held {c who n : Int} (h : n ≠ 0) : cells_step.R n 4 c 0 0 who = some ((told 4 c who n false, ()), n) := by
  refine cells_step.start _ _ _ _ _ _ _ ?_
  simp only [show ((4 : Int) == 1) = false from rfl, show ((4 : Int) == 2) = false from rfl, beq_self_eq_true, cond_true, cond_false, beq_eq_false_iff_ne.2 h]
  exact rfl
theorem let_go {c who : Int} : cells_step.R who 5 c 0 0 who = some ((told 5 c who who true, ()), 0) := by
  refine cells_step.start _ _ _ _ _ _ _ ?_
  simp only [show ((5 : Int) == 1) = false from rfl, show ((5 : Int) == 2) = false from rfl, show ((5 : Int) == 4) = false from rfl, beq_self_eq_true, cond_true, cond_false]
  exact rfl
theorem putRow (s s' : S) : putD s.row 0 s'.row = s'.row := rfl
/-- What a round ends with. -/
def Fin (x1 : List (List DV)) (gs : List S) (k i : Nat) (s' : S) (v' : List Int) (n' : Int) (tr' : List (List DV)) : Prop :=
  needs (((0 : Int) ≤ (k : Int)) ∧ ((k : Int) < ((gs.length : Nat) : Int))) (
    optAll ((gs.map S.row)[(0 + (Int.toNat (k : Int)))]?) fun (r14 : List DV) =>
    needs (6 ≤ (r14).length) (
    optAll (law07_alone.R [(DV.lst 1 ((v'.map ei).take 8)), (DV.v (Value.int IntKind.i64 n')), (DV.lst 7 ((tr').take ((tr').length)))] ((((gs.map S.row).set ((0 + (Int.toNat (k : Int)))) (putD r14 0 s'.row))).take (gs.length))) fun (c15 : (Bool × Unit)) =>
    cond ((!(c15).1)) (
      ((true, ()) : Bool × Unit) = (false, ())) (
      law07_GrabAlone.H9 x1 gs.length (IntKind.i64.wrap ((i : Int) + (1 : Int))) (((gs.map S.row)).set ((0 + (Int.toNat (k : Int)))) (putD r14 0 s'.row)) 8 n' tr' (v'.map ei) (true, ()))))
theorem fin_ok {x1 : List (List DV)} {gs : List S} {k i : Nat} {s' : S} {v' : List Int} {n' : Int} {tr' : List (List DV)} (hk : k < gs.length) (hi : i < 1000000) (hl : Lk v' (gs.set k s'))
    (next : law07_GrabAlone.H9 x1 gs.length ((i + 1 : Nat) : Int) ((gs.set k s').map S.row) 8 n' tr' (v'.map ei) (true, ())) : Fin x1 gs k i s' v' n' tr' := by
  unfold Fin
  have e : ((gs.map S.row)).set k s'.row = (gs.set k s').map S.row := List.map_set.symm
  simp only [Nat.zero_add, Int.toNat_natCast, map_get _ _ _ hk, optAll_so, putRow, needs_iff, e]
  refine ⟨⟨by omega, by omega⟩, by show 6 ≤ 6; omega, ?_⟩
  rw [List.take_of_length_le (l := (gs.set k s').map S.row) (by simp), List.take_of_length_le (l := v'.map ei) (by rw [List.length_map, hl.len]; omega), alone_ok hl]
  simp only [optAll_so, Bool.not_true, cond_false]
  rw [wrap_succ (by omega)]
  exact next
theorem held_succ {s : S} (h : s.a < s.cs.length) : s.cs.take (s.a + 1) = s.cs.take s.a ++ [s.cs[s.a]] := List.take_succ_eq_append_getElem h
theorem up_notin {l : List Int} (h : l.Pairwise (· < ·)) {a : Nat} (ha : a < l.length) : l[a] ∉ l.take a := by
  intro hm
  rw [List.mem_take_iff_getElem] at hm
  obtain ⟨j, hj, e⟩ := hm
  have := List.pairwise_iff_getElem.1 h j a (by omega) ha (by omega)
  omega
set_option maxRecDepth 100000 in
set_option maxHeartbeats 8000000 in
theorem alone_law (l : List Want) (picks : List Int) : law07_GrabAlone.R (l.map encW) (picks.map ei) = some (true, ()) := by
  refine law07_GrabAlone.start _ _ _ ?_
  obtain ⟨c, hc, hb⟩ := begins_ok l
  rw [hb]
  simp only [optAll_so]
  rcases hc with rfl | ⟨gs0, rfl, hf⟩
  · simp only [Bool.not_false, cond_true, live_ok, optAll_so]
  simp only [Bool.not_true, cond_false, List.length_map]
  by_cases h3 : picks.length > 300
  · rw [decide_eq_true (by omega)]
    simp only [cond_true, live_ok, optAll_so]
  rw [decide_eq_false (by omega)]
  simp only [cond_false, num_ok, optAll_so, bne_self_eq_false]
  have main : ∀ (m i : Nat) (gs : List S) (v : List Int) (n : Int) (tr : List (List DV)), i + m = picks.length → Lk v gs → tr.length ≤ 2000 →
      law07_GrabAlone.H9 (picks.map ei) gs.length i (gs.map S.row) 8 n tr (v.map ei) (true, ()) := by
    intro m
    induction m with
    | zero =>
      intro i gs v n tr hi hl htr
      refine law07_GrabAlone.H9_step _ _ _ _ _ _ _ _ _ ?_
      rw [List.length_map, decide_eq_false (by omega)]
      simp only [cond_false, live_ok, optAll_so]
    | succ m ih =>
      intro i gs v n tr hi hl htr
      refine law07_GrabAlone.H9_step _ _ _ _ _ _ _ _ _ ?_
      have hil : i < picks.length := by omega
      have hsmall : i < 1000000 := by omega
      rw [List.length_map, decide_eq_true (by omega)]
      simp only [cond_true, needs_nat, Int.toNat_natCast, map_get _ _ _ hil, optAll_so, ei0]
      by_cases hneg : picks[i] < 0
      · rw [decide_eq_true hneg, wrap_succ (by omega)]
        exact ih (i + 1) gs v n tr (by omega) hl htr
      rw [decide_eq_false hneg]
      by_cases hbig : picks[i] ≥ ((gs.length : Nat) : Int)
      · rw [decide_eq_true hbig, wrap_succ (by omega)]
        exact ih (i + 1) gs v n tr (by omega) hl htr
      rw [decide_eq_false hbig]
      obtain ⟨k, hkk⟩ : ∃ k : Nat, picks[i] = k := ⟨picks[i].toNat, by omega⟩
      rw [hkk] at hneg hbig ⊢
      have hk : k < gs.length := by omega
      have hw := hl.wf k gs[k] (List.getElem?_eq_getElem hk)
      have ho := hl.own k gs[k] (List.getElem?_eq_getElem hk)
      have hsame := fun s h1 h2 => lk_same hl hk s h1 h2
      have hmore := fun s h1 c h2 h3 h4 => lk_more hl hk s h1 (c := c) h2 h3 h4
      have hless := fun s h1 c h2 h3 h4 h5 => lk_less hl hk s h1 (c := c) h2 h3 h4 h5
      have hnext : ∀ s' v' n' tr', Lk v' (gs.set k s') → tr'.length ≤ 2000 → Fin (picks.map ei) gs k i s' v' n' tr' := fun s' v' n' tr' h1 h2 => by
        refine fin_ok hk hsmall h1 ?_
        have := ih (i + 1) (gs.set k s') v' n' tr' (by omega) h1 h2
        rw [List.length_set] at this
        exact this
      simp only [cond_false]
      rw [needs_iff]
      refine ⟨by omega, ?_⟩
      have hget : (gs.map S.row)[0 + Int.toNat (k : Int)]? = some gs[k].row := by rw [Nat.zero_add, Int.toNat_natCast, map_get _ _ _ hk]
      rw [hget]
      simp only [optAll_so, s0_, s1_, s2_, s3_, s4_, s5_]
      have hfin : ∀ s' v' n' tr', Fin (picks.map ei) gs k i s' v' n' tr' = Fin (picks.map ei) gs k i s' v' n' tr' := fun _ _ _ _ => rfl
      unfold Fin at hnext
      rw [hget] at hnext
      simp only [optAll_so, needs_iff, Nat.zero_add, Int.toNat_natCast] at hnext
      have hfew := hw.few
      have hle := hw.le
      generalize hs : gs[k] = s at *
      have hwho := hw.who
      have h1w : 1 ≤ s.who := by omega
      have hcsl : s.cs.length < 1000000 := by omega
      have hv8 := hl.len
      have hset : ∀ (c x : Int) (hc : c.toNat < v.length), (v.map ei).set (0 + Int.toNat c) (putD (ei v[c.toNat]) 0 [(DV.v (Value.int IntKind.i64 x))]) = (v.set c.toNat x).map ei := fun c x hc => by
        rw [Nat.zero_add, List.map_set]; rfl
      have hbnd : ∀ r : List DV, tr.length < 2000 → ((tr ++ ([r]).take 1).length * 56 ≤ 140737488355328 ∧ (tr ++ ([r]).take 1).length * 7 ≤ 140737488355328) ∧ (tr ++ ([r]).take 1).length ≤ 2000 := fun r hr => by
        simp only [List.length_append, List.length_take, List.length_cons, List.length_nil]
        omega
      rcases hw.ph with ⟨p1, p2⟩ | ⟨p1, p2⟩ | ⟨p1, p2⟩ | ⟨p1, p2⟩ | ⟨p1, p2⟩
      · -- takes
        have hc := hw.rng s.cs[s.a] (List.getElem_mem p2)
        rw [p1]
        simp only [show ((1 : Int) == 2) = false from rfl, cond_false]
        rw [next1 p2]
        simp only [optAll_so, op, Bool.not_true, cond_false]
        generalize hce : s.cs[s.a] = c at hc
        have hcl : c.toNat < v.length := by omega
        rw [check_ok (.inl rfl) h1w hc]
        simp only [optAll_so, bne_self_eq_false, cond_false, needs_iff, true_and, Nat.zero_add, Int.toNat_natCast, map_get _ _ _ hcl, ei0] at hset ⊢
        refine ⟨by omega, ?_⟩
        by_cases h0 : v[c.toNat] = 0
        · have hlk := hmore ⟨s.who, s.cs, if s.a + 1 = s.cs.length then 2 else 1, s.a + 1, s.t, s.w⟩ ⟨hwho, hw.up, hw.rng, p2, hfew, by
            show ((if s.a + 1 = s.cs.length then (2 : Int) else 1) = 1 ∧ s.a + 1 < s.cs.length) ∨ ((if s.a + 1 = s.cs.length then (2 : Int) else 1) = 2 ∧ s.a + 1 = s.cs.length) ∨ _
            by_cases e : s.a + 1 = s.cs.length
            · rw [if_pos e]; exact .inr (.inl ⟨rfl, e⟩)
            · rw [if_neg e]; exact .inl ⟨rfl, by omega⟩⟩ c hc (by show s.cs.take (s.a + 1) = _; rw [held_succ p2, hce]; rfl) (by rw [List.getElem?_eq_getElem hcl, h0])
          rw [← hwho] at hlk
          have hs1 := hset c s.who hcl
          rw [h0] at hs1
          rw [h0, try_free]
          simp only [optAll_so, told]
          rw [hs1, take_ok1 p2 hcsl]
          simp only [optAll_so]
          by_cases ht : tr.length < 2000
          · rw [decide_eq_true (by omega)]
            exact ⟨(hbnd _ ht).1, hnext _ _ _ _ hlk (hbnd _ ht).2⟩
          · rw [decide_eq_false (by omega)]
            exact hnext _ _ _ _ hlk htr
        · have hset0 : v.set c.toNat v[c.toNat] = v := List.set_getElem_self hcl
          have hs1 := hset c v[c.toNat] hcl
          rw [hset0] at hs1
          rw [try_held h0]
          simp only [optAll_so, told]
          rw [hs1]
          cases hwt : s.w with
          | true =>
            have hlk := hsame ⟨s.who, s.cs, 1, s.a, s.t, true⟩ ⟨hwho, hw.up, hw.rng, hle, hfew, .inl ⟨rfl, p2⟩⟩ rfl
            rw [take_ok2 p2]
            simp only [optAll_so]
            by_cases ht : tr.length < 2000
            · rw [decide_eq_true (by omega)]
              exact ⟨(hbnd _ ht).1, hnext _ _ _ _ hlk (hbnd _ ht).2⟩
            · rw [decide_eq_false (by omega)]
              exact hnext _ _ _ _ hlk htr
          | false =>
            have hlk := hsame ⟨s.who, s.cs, if 0 < s.a then 3 else 1, s.a, IntKind.i64.wrap (s.t + 1), false⟩ ⟨hwho, hw.up, hw.rng, hle, hfew, by
              show ((if 0 < s.a then (3 : Int) else 1) = 1 ∧ s.a < s.cs.length) ∨ _ ∨ ((if 0 < s.a then (3 : Int) else 1) = 3 ∧ 1 ≤ s.a) ∨ _
              by_cases e : 0 < s.a
              · rw [if_pos e]; exact .inr (.inr (.inl ⟨rfl, e⟩))
              · rw [if_neg e]; exact .inl ⟨rfl, p2⟩⟩ rfl
            rw [take_ok3 p2]
            simp only [optAll_so]
            by_cases ht : tr.length < 2000
            · rw [decide_eq_true (by omega)]
              exact ⟨(hbnd _ ht).1, hnext _ _ _ _ hlk (hbnd _ ht).2⟩
            · rw [decide_eq_false (by omega)]
              exact hnext _ _ _ _ hlk htr
      · -- has all
        have hlk := hsame ⟨s.who, s.cs, if s.cs.length = 0 then 5 else 4, s.a, s.t, s.w⟩ ⟨hwho, hw.up, hw.rng, hle, hfew, by
          show _ ∨ _ ∨ _ ∨ ((if s.cs.length = 0 then (5 : Int) else 4) = 4 ∧ 1 ≤ s.a) ∨ ((if s.cs.length = 0 then (5 : Int) else 4) = 5 ∧ s.a = 0)
          by_cases e : s.cs.length = 0
          · rw [if_pos e]; exact .inr (.inr (.inr (.inr ⟨rfl, by omega⟩)))
          · rw [if_neg e]; exact .inr (.inr (.inr (.inl ⟨rfl, by omega⟩)))⟩ rfl
        rw [p1]
        simp only [beq_self_eq_true, cond_true]
        rw [free_ok]
        simp only [optAll_so, needs_iff, Nat.zero_add, Int.toNat_natCast]
        exact hnext _ _ _ _ hlk htr
      · -- goes back
        obtain ⟨b, hb⟩ : ∃ b, s.a = b + 1 := ⟨s.a - 1, by omega⟩
        have hbl : b < s.cs.length := by omega
        have hc := hw.rng s.cs[b] (List.getElem_mem hbl)
        rw [p1, hb]
        simp only [show ((3 : Int) == 2) = false from rfl, cond_false]
        rw [next34 (.inl rfl) hbl hcsl]
        simp only [optAll_so, op, Bool.not_true, cond_false]
        have hni := up_notin hw.up hbl
        have hheld : s.held = s.cs.take b ++ [s.cs[b]] := by unfold S.held; rw [hb]; exact List.take_succ_eq_append_getElem hbl
        have hown := ho s.cs[b] (by rw [hheld]; exact List.mem_append.2 (.inr (List.mem_singleton_self _)))
        generalize hce : s.cs[b] = c at *
        have hcl : c.toNat < v.length := by omega
        have hvc : v[c.toNat] = s.who := by rw [List.getElem?_eq_getElem hcl] at hown; exact Option.some.inj hown
        rw [check_ok (.inr rfl) h1w hc]
        simp only [optAll_so, bne_self_eq_false, cond_false, needs_iff, true_and, Nat.zero_add, Int.toNat_natCast, map_get _ _ _ hcl, ei0] at hset ⊢
        refine ⟨by omega, ?_⟩
        have hlk := hless ⟨s.who, s.cs, if 0 < b then 3 else 1, b, s.t, s.w⟩ ⟨hwho, hw.up, hw.rng, by show b ≤ s.cs.length; omega, hfew, by
          show ((if 0 < b then (3 : Int) else 1) = 1 ∧ b < s.cs.length) ∨ _ ∨ ((if 0 < b then (3 : Int) else 1) = 3 ∧ 1 ≤ b) ∨ _
          by_cases e : 0 < b
          · rw [if_pos e]; exact .inr (.inr (.inl ⟨rfl, e⟩))
          · rw [if_neg e]; exact .inl ⟨rfl, hbl⟩⟩ c hheld hni (fun d hd => (hw.rng d (List.mem_of_mem_take hd)).1) hc
        have hs1 := hset c 0 hcl
        rw [hvc] at hs1
        rw [hvc, let_go]
        simp only [optAll_so, told]
        rw [hs1, take_ok3b hbl hcsl]
        simp only [optAll_so]
        by_cases ht : tr.length < 2000
        · rw [decide_eq_true (by omega)]
          exact ⟨(hbnd _ ht).1, hnext _ _ _ _ hlk (hbnd _ ht).2⟩
        · rw [decide_eq_false (by omega)]
          exact hnext _ _ _ _ hlk htr
      · -- lets go
        obtain ⟨b, hb⟩ : ∃ b, s.a = b + 1 := ⟨s.a - 1, by omega⟩
        have hbl : b < s.cs.length := by omega
        have hc := hw.rng s.cs[b] (List.getElem_mem hbl)
        rw [p1, hb]
        simp only [show ((4 : Int) == 2) = false from rfl, cond_false]
        rw [next34 (.inr rfl) hbl hcsl]
        simp only [optAll_so, op, Bool.not_true, cond_false]
        have hni := up_notin hw.up hbl
        have hheld : s.held = s.cs.take b ++ [s.cs[b]] := by unfold S.held; rw [hb]; exact List.take_succ_eq_append_getElem hbl
        have hown := ho s.cs[b] (by rw [hheld]; exact List.mem_append.2 (.inr (List.mem_singleton_self _)))
        generalize hce : s.cs[b] = c at *
        have hcl : c.toNat < v.length := by omega
        have hvc : v[c.toNat] = s.who := by rw [List.getElem?_eq_getElem hcl] at hown; exact Option.some.inj hown
        rw [check_ok (.inr rfl) h1w hc]
        simp only [optAll_so, bne_self_eq_false, cond_false, needs_iff, true_and, Nat.zero_add, Int.toNat_natCast, map_get _ _ _ hcl, ei0] at hset ⊢
        refine ⟨by omega, ?_⟩
        have hlk := hless ⟨s.who, s.cs, if b = 0 then 5 else 4, b, s.t, s.w⟩ ⟨hwho, hw.up, hw.rng, by show b ≤ s.cs.length; omega, hfew, by
          show _ ∨ _ ∨ _ ∨ ((if b = 0 then (5 : Int) else 4) = 4 ∧ 1 ≤ b) ∨ ((if b = 0 then (5 : Int) else 4) = 5 ∧ b = 0)
          by_cases e : b = 0
          · rw [if_pos e]; exact .inr (.inr (.inr (.inr ⟨rfl, e⟩)))
          · rw [if_neg e]; exact .inr (.inr (.inr (.inl ⟨rfl, by omega⟩)))⟩ c hheld hni (fun d hd => (hw.rng d (List.mem_of_mem_take hd)).1) hc
        have hs1 := hset c 0 hcl
        rw [hvc] at hs1
        rw [hvc, let_go]
        simp only [optAll_so, told]
        rw [hs1, take_ok4 hbl hcsl]
        simp only [optAll_so]
        by_cases ht : tr.length < 2000
        · rw [decide_eq_true (by omega)]
          exact ⟨(hbnd _ ht).1, hnext _ _ _ _ hlk (hbnd _ ht).2⟩
        · rw [decide_eq_false (by omega)]
          exact hnext _ _ _ _ hlk htr
      · -- is done
        have hlk := hsame s hw rfl
        rw [p1]
        simp only [show ((5 : Int) == 2) = false from rfl, cond_false]
        rw [next25 (.inr rfl)]
        simp only [optAll_so, Bool.not_false, cond_true, needs_iff, Nat.zero_add, Int.toNat_natCast]
        have := hnext s v n tr hlk htr
        unfold S.row at this
        rw [p1] at this
        exact this
  have zero : Lk (List.replicate 8 (0 : Int)) gs0 := by
    refine ⟨by simp, hf.few, fun i s h => (hf.at_ i s h).1, fun i s h c hc => ?_, ?_⟩
    · unfold S.held at hc
      rw [(hf.at_ i s h).2] at hc
      simp at hc
    · have : tot gs0 = 0 := by
        unfold tot
        rw [List.sum_eq_zero_iff_forall_eq_nat]
        intro x hx
        rw [List.mem_map] at hx
        obtain ⟨s, hs, rfl⟩ := hx
        obtain ⟨i, hi, rfl⟩ := List.mem_iff_getElem.1 hs
        have := (hf.at_ i _ (List.getElem?_eq_getElem hi)).2
        unfold S.held
        rw [this]
        rfl
      rw [this]
      rfl
  exact main picks.length 0 gs0 (List.replicate 8 0) 0 [] (by omega) zero (by simp)
end Grabs
end Go.AI
