/-
  Own work. grab's laws: one step, whatever comes behind it (printed by gen_does.py: the printed step, its ends cut off).
-/
import Derived.Test.YtcfglafjemagpaaGrab6
namespace Go.AI
open Go
set_option linter.unusedVariables false
set_option linter.unusedSimpArgs false
namespace Grabs
open Kit

theorem lh_same {v : List Int} {gs : List S} (h : Lh v gs) {k : Nat} (hk : k < gs.length) (s : S) (hw : Wf k s) (hh : s.held = gs[k].held) : Lh v (gs.set k s) := by
  refine ⟨lk_same h.lk hk s hw hh, fun c hc hv => ?_⟩
  obtain ⟨i, x, h1, h2⟩ := h.by_ c hc hv
  by_cases e : i = k
  · subst e
    rw [List.getElem?_eq_getElem hk] at h1
    cases h1
    exact ⟨i, s, by rw [set_at hk, if_pos rfl], by rw [hh]; exact h2⟩
  · exact ⟨i, x, by rw [set_at hk, if_neg e]; exact h1, h2⟩
theorem lh_more {v : List Int} {gs : List S} (h : Lh v gs) {k : Nat} (hk : k < gs.length) (s : S) (hw : Wf k s) {c : Int} (hc : 0 ≤ c ∧ c < 8) (hh : s.held = gs[k].held ++ [c]) (hv : v[c.toNat]? = some 0) : Lh (v.set c.toNat ((k : Int) + 1)) (gs.set k s) := by
  refine ⟨lk_more h.lk hk s hw hc hh hv, fun d hd hv2 => ?_⟩
  by_cases ed : d = c.toNat
  · refine ⟨k, s, by rw [set_at hk, if_pos rfl], ?_⟩
    rw [hh, List.mem_append, List.mem_singleton]
    exact .inr (by omega)
  · rw [List.getElem?_set, if_neg (fun e => ed e.symm)] at hv2
    obtain ⟨i, x, h1, h2⟩ := h.by_ d hd hv2
    by_cases e : i = k
    · subst e
      rw [List.getElem?_eq_getElem hk] at h1
      cases h1
      exact ⟨i, s, by rw [set_at hk, if_pos rfl], by rw [hh, List.mem_append]; exact .inl h2⟩
    · exact ⟨i, x, by rw [set_at hk, if_neg e]; exact h1, h2⟩
theorem lh_less {v : List Int} {gs : List S} (h : Lh v gs) {k : Nat} (hk : k < gs.length) (s : S) (hw : Wf k s) {c : Int} (hh : gs[k].held = s.held ++ [c]) (hn : c ∉ s.held) (hr : ∀ d ∈ s.held, 0 ≤ d) (hc : 0 ≤ c ∧ c < 8) : Lh (v.set c.toNat 0) (gs.set k s) := by
  have hl := h.lk.len
  refine ⟨lk_less h.lk hk s hw hh hn hr hc, fun d hd hv2 => ?_⟩
  by_cases ed : d = c.toNat
  · subst ed
    rw [List.getElem?_set, if_pos rfl, if_pos (by omega)] at hv2
    exact absurd rfl hv2
  · rw [List.getElem?_set, if_neg (fun e => ed e.symm)] at hv2
    obtain ⟨i, x, h1, h2⟩ := h.by_ d hd hv2
    by_cases e : i = k
    · subst e
      rw [List.getElem?_eq_getElem hk] at h1
      cases h1
      rw [hh, List.mem_append, List.mem_singleton] at h2
      refine ⟨i, s, by rw [set_at hk, if_pos rfl], h2.resolve_right (by omega)⟩
    · exact ⟨i, x, by rw [set_at hk, if_neg e]; exact h1, h2⟩
set_option maxRecDepth 100000 in
set_option maxHeartbeats 8000000 in
theorem does_ok {v : List Int} {gs : List S} {k : Nat} {s : S} {n : Int} {tr : List (List DV)} (hl : Lh v gs) (hk : k < gs.length) (hs : gs[k] = s) (htr : tr.length ≤ 2000) (K : List DV → List (List DV) → Int → List (List DV) → Prop)
    (hnext : ∀ (s' : S) (v' : List Int) (n' : Int) (tr' : List (List DV)), St v gs s s' → Lh v' (gs.set k s') → tr'.length ≤ 2000 → K s'.row (v'.map ei) n' tr') :
          cond ((s.ph == (2 : Int))) (
            optAll (grab_Free.R s.who (s.cs.map ei) s.ph (s.a : Int) s.t s.w) fun (c13 : ((Int × (List (List DV) × (Int × (Int × (Int × (Bool × Unit)))))) × Unit)) =>
            K [(DV.v (Value.int IntKind.i64 ((c13).1).1)), (DV.lst 1 (((c13).1).2).1), (DV.v (Value.int IntKind.i64 ((((c13).1).2).2).1)), (DV.v (Value.int IntKind.i64 (((((c13).1).2).2).2).1)), (DV.v (Value.int IntKind.i64 ((((((c13).1).2).2).2).2).1)), (DV.v (Value.bool (((((((c13).1).2).2).2).2).2).1))] (v.map ei) n tr) (
            optAll (grab_Next.R s.who (s.cs.map ei) s.ph (s.a : Int) s.t s.w) fun (c15 : ((Int × (Int × (Int × (Int × (Int × Unit))))) × (Bool × Unit))) =>
            cond ((!((c15).2).1)) (
              K [(DV.v (Value.int IntKind.i64 s.who)), (DV.lst 1 (s.cs.map ei)), (DV.v (Value.int IntKind.i64 s.ph)), (DV.v (Value.int IntKind.i64 (s.a : Int))), (DV.v (Value.int IntKind.i64 s.t)), (DV.v (Value.bool s.w))] (v.map ei) n tr) (
              optAll (cells_Check.R ((c15).1).1 (((c15).1).2).1 ((((c15).1).2).2).1 (((((c15).1).2).2).2).1 ((((((c15).1).2).2).2).2).1 ((8 : Nat) : Int)) fun (c17 : (Int × Unit)) =>
              cond (((c17).1 != (0 : Int))) (
                optAll (grab_Take.R s.who (s.cs.map ei) s.ph (s.a : Int) s.t s.w false) fun (c18 : ((Int × (List (List DV) × (Int × (Int × (Int × (Bool × Unit)))))) × Unit)) =>
                K [(DV.v (Value.int IntKind.i64 ((c18).1).1)), (DV.lst 1 (((c18).1).2).1), (DV.v (Value.int IntKind.i64 ((((c18).1).2).2).1)), (DV.v (Value.int IntKind.i64 (((((c18).1).2).2).2).1)), (DV.v (Value.int IntKind.i64 ((((((c18).1).2).2).2).2).1)), (DV.v (Value.bool (((((((c18).1).2).2).2).2).2).1))] (v.map ei) n tr) (
                needs (((0 : Int) ≤ (((c15).1).2).1) ∧ ((((c15).1).2).1 < ((8 : Nat) : Int))) (
                optAll (((v.map ei))[(0 + (Int.toNat (((c15).1).2).1))]?) fun (r20 : List DV) =>
                optAll ((dInt IntKind.i64 r20 0)) fun (z21 : Int) =>
                optAll (cells_step.R z21 ((c15).1).1 (((c15).1).2).1 ((((c15).1).2).2).1 (((((c15).1).2).2).2).1 ((((((c15).1).2).2).2).2).1) fun (c22 : (((Int × (Int × (Int × (Int × (Int × (Int × (Bool × Unit))))))) × Unit) × Int)) =>
                cond (decide (((((tr).length : Nat) : Int) < (2000 : Int)))) (
                  needs ((tr).length = (tr).length) (
                  needs (((((tr ++ (([[(DV.v (Value.int IntKind.i64 (((c22).1).1).1)), (DV.v (Value.int IntKind.i64 ((((c22).1).1).2).1)), (DV.v (Value.int IntKind.i64 (((((c22).1).1).2).2).1)), (DV.v (Value.int IntKind.i64 ((((((c22).1).1).2).2).2).1)), (DV.v (Value.int IntKind.i64 (((((((c22).1).1).2).2).2).2).1)), (DV.v (Value.int IntKind.i64 ((((((((c22).1).1).2).2).2).2).2).1)), (DV.v (Value.bool (((((((((c22).1).1).2).2).2).2).2).2).1))]]).take (1)))).length * 56) ≤ 140737488355328) ∧ ((((tr ++ (([[(DV.v (Value.int IntKind.i64 (((c22).1).1).1)), (DV.v (Value.int IntKind.i64 ((((c22).1).1).2).1)), (DV.v (Value.int IntKind.i64 (((((c22).1).1).2).2).1)), (DV.v (Value.int IntKind.i64 ((((((c22).1).1).2).2).2).1)), (DV.v (Value.int IntKind.i64 (((((((c22).1).1).2).2).2).2).1)), (DV.v (Value.int IntKind.i64 ((((((((c22).1).1).2).2).2).2).2).1)), (DV.v (Value.bool (((((((((c22).1).1).2).2).2).2).2).2).1))]]).take (1)))).length * 7) ≤ 140737488355328)) (
                  optAll (grab_Take.R s.who (s.cs.map ei) s.ph (s.a : Int) s.t s.w (((((((((c22).1).1).2).2).2).2).2).2).1) fun (c23 : ((Int × (List (List DV) × (Int × (Int × (Int × (Bool × Unit)))))) × Unit)) =>
                  K [(DV.v (Value.int IntKind.i64 ((c23).1).1)), (DV.lst 1 (((c23).1).2).1), (DV.v (Value.int IntKind.i64 ((((c23).1).2).2).1)), (DV.v (Value.int IntKind.i64 (((((c23).1).2).2).2).1)), (DV.v (Value.int IntKind.i64 ((((((c23).1).2).2).2).2).1)), (DV.v (Value.bool (((((((c23).1).2).2).2).2).2).1))] (((v.map ei)).set ((0 + (Int.toNat (((c15).1).2).1))) (putD r20 0 [(DV.v (Value.int IntKind.i64 (c22).2))])) (IntKind.i64.wrap (n + (1 : Int))) (tr ++ (([[(DV.v (Value.int IntKind.i64 (((c22).1).1).1)), (DV.v (Value.int IntKind.i64 ((((c22).1).1).2).1)), (DV.v (Value.int IntKind.i64 (((((c22).1).1).2).2).1)), (DV.v (Value.int IntKind.i64 ((((((c22).1).1).2).2).2).1)), (DV.v (Value.int IntKind.i64 (((((((c22).1).1).2).2).2).2).1)), (DV.v (Value.int IntKind.i64 ((((((((c22).1).1).2).2).2).2).2).1)), (DV.v (Value.bool (((((((((c22).1).1).2).2).2).2).2).2).1))]]).take (1)))))) (
                  optAll (grab_Take.R s.who (s.cs.map ei) s.ph (s.a : Int) s.t s.w (((((((((c22).1).1).2).2).2).2).2).2).1) fun (c25 : ((Int × (List (List DV) × (Int × (Int × (Int × (Bool × Unit)))))) × Unit)) =>
                  K [(DV.v (Value.int IntKind.i64 ((c25).1).1)), (DV.lst 1 (((c25).1).2).1), (DV.v (Value.int IntKind.i64 ((((c25).1).2).2).1)), (DV.v (Value.int IntKind.i64 (((((c25).1).2).2).2).1)), (DV.v (Value.int IntKind.i64 ((((((c25).1).2).2).2).2).1)), (DV.v (Value.bool (((((((c25).1).2).2).2).2).2).1))] (((v.map ei)).set ((0 + (Int.toNat (((c15).1).2).1))) (putD r20 0 [(DV.v (Value.int IntKind.i64 (c22).2))])) (IntKind.i64.wrap (n + (1 : Int))) tr))))) := by
  have hw : Wf k s := hl.lk.wf k s (by rw [List.getElem?_eq_getElem hk, hs])
  have ho := hl.lk.own k s (by rw [List.getElem?_eq_getElem hk, hs])
  have hsame := fun s' h1 (h2 : s'.held = s.held) => lh_same hl hk s' h1 (by rw [hs]; exact h2)
  have hmore := fun s' h1 c h2 (h3 : s'.held = s.held ++ [c]) h4 => lh_more hl hk s' h1 (c := c) h2 (by rw [hs]; exact h3) h4
  have hless := fun s' h1 c (h2 : s.held = s'.held ++ [c]) h3 h4 h5 => lh_less hl hk s' h1 (c := c) (by rw [hs]; exact h2) h3 h4 h5
  have hfew := hw.few
  have hle := hw.le
  have hwho := hw.who
  have h1w : 1 ≤ s.who := by omega
  have hcsl : s.cs.length < 1000000 := by omega
  have hv8 := hl.lk.len
  have hset : ∀ (c x : Int) (hc : c.toNat < v.length), (v.map ei).set (0 + Int.toNat c) (putD (ei v[c.toNat]) 0 [(DV.v (Value.int IntKind.i64 x))]) = (v.set c.toNat x).map ei := fun c x hc => by
    rw [Nat.zero_add, List.map_set]; rfl
  have hbnd : ∀ r : List DV, tr.length < 2000 → ((tr ++ ([r]).take 1).length * 56 ≤ 140737488355328 ∧ (tr ++ ([r]).take 1).length * 7 ≤ 140737488355328) ∧ (tr ++ ([r]).take 1).length ≤ 2000 := fun r hr => by
    simp only [List.length_append, List.length_take, List.length_cons, List.length_nil]
    omega
  rcases hw.ph with ⟨p1, p2⟩ | ⟨p1, p2⟩ | ⟨p1, p2⟩ | ⟨p1, p2⟩ | ⟨p1, p2⟩
  · -- takes
    have hc := hw.rng s.cs[s.a] (List.getElem_mem p2)
    rw [p1]
    simp only [show ((1 : Int) == 2) = false from rfl, cond_false]
    rw [next1 p2]
    simp only [optAll_so, op, Bool.not_true, cond_false]
    generalize hce : s.cs[s.a] = c at hc
    have hcl : c.toNat < v.length := by omega
    rw [check_ok (.inl rfl) h1w hc]
    simp only [optAll_so, bne_self_eq_false, cond_false, needs_iff, true_and, Nat.zero_add, Int.toNat_natCast, map_get _ _ _ hcl, ei0] at hset ⊢
    refine ⟨by omega, ?_⟩
    by_cases h0 : v[c.toNat] = 0
    · have hst : St v gs s ⟨s.who, s.cs, if s.a + 1 = s.cs.length then 2 else 1, s.a + 1, s.t, s.w⟩ := .take p1 p2 (by rw [hce, List.getElem?_eq_getElem hcl, h0]) _ rfl rfl (by
        show (s.a + 1 = s.cs.length ∧ (if s.a + 1 = s.cs.length then (2 : Int) else 1) = 2) ∨ (s.a + 1 < s.cs.length ∧ (if s.a + 1 = s.cs.length then (2 : Int) else 1) = 1)
        by_cases e : s.a + 1 = s.cs.length
        · rw [if_pos e]; exact .inl ⟨e, rfl⟩
        · rw [if_neg e]; exact .inr ⟨by omega, rfl⟩)
      have hlk := hmore ⟨s.who, s.cs, if s.a + 1 = s.cs.length then 2 else 1, s.a + 1, s.t, s.w⟩ ⟨hwho, hw.up, hw.rng, p2, hfew, by
        show ((if s.a + 1 = s.cs.length then (2 : Int) else 1) = 1 ∧ s.a + 1 < s.cs.length) ∨ ((if s.a + 1 = s.cs.length then (2 : Int) else 1) = 2 ∧ s.a + 1 = s.cs.length) ∨ _
        by_cases e : s.a + 1 = s.cs.length
        · rw [if_pos e]; exact .inr (.inl ⟨rfl, e⟩)
        · rw [if_neg e]; exact .inl ⟨rfl, by omega⟩⟩ c hc (by show s.cs.take (s.a + 1) = _; rw [held_succ p2, hce]; rfl) (by rw [List.getElem?_eq_getElem hcl, h0])
      rw [← hwho] at hlk
      have hs1 := hset c s.who hcl
      rw [h0] at hs1
      rw [h0, try_free]
      simp only [optAll_so, told]
      rw [hs1, take_ok1 p2 hcsl]
      simp only [optAll_so]
      by_cases ht : tr.length < 2000
      · rw [decide_eq_true (by omega)]
        exact ⟨(hbnd _ ht).1, hnext _ _ _ _ hst hlk (hbnd _ ht).2⟩
      · rw [decide_eq_false (by omega)]
        exact hnext _ _ _ _ hst hlk htr
    · have hset0 : v.set c.toNat v[c.toNat] = v := List.set_getElem_self hcl
      have hs1 := hset c v[c.toNat] hcl
      rw [hset0] at hs1
      rw [try_held h0]
      simp only [optAll_so, told]
      rw [hs1]
      cases hwt : s.w with
      | true =>
        have hst : St v gs s ⟨s.who, s.cs, 1, s.a, s.t, true⟩ := .fail p1 p2 (by rw [hce, List.getElem?_eq_getElem hcl]; exact fun e => h0 (Option.some.inj e)) _ rfl rfl (.inl rfl)
        have hlk := hsame ⟨s.who, s.cs, 1, s.a, s.t, true⟩ ⟨hwho, hw.up, hw.rng, hle, hfew, .inl ⟨rfl, p2⟩⟩ rfl
        rw [take_ok2 p2]
        simp only [optAll_so]
        by_cases ht : tr.length < 2000
        · rw [decide_eq_true (by omega)]
          exact ⟨(hbnd _ ht).1, hnext _ _ _ _ hst hlk (hbnd _ ht).2⟩
        · rw [decide_eq_false (by omega)]
          exact hnext _ _ _ _ hst hlk htr
      | false =>
        have hst : St v gs s ⟨s.who, s.cs, if 0 < s.a then 3 else 1, s.a, IntKind.i64.wrap (s.t + 1), false⟩ := .fail p1 p2 (by rw [hce, List.getElem?_eq_getElem hcl]; exact fun e => h0 (Option.some.inj e)) _ rfl rfl (by
          show (if 0 < s.a then (3 : Int) else 1) = 1 ∨ ((if 0 < s.a then (3 : Int) else 1) = 3 ∧ 0 < s.a)
          by_cases e : 0 < s.a
          · rw [if_pos e]; exact .inr ⟨rfl, e⟩
          · rw [if_neg e]; exact .inl rfl)
        have hlk := hsame ⟨s.who, s.cs, if 0 < s.a then 3 else 1, s.a, IntKind.i64.wrap (s.t + 1), false⟩ ⟨hwho, hw.up, hw.rng, hle, hfew, by
          show ((if 0 < s.a then (3 : Int) else 1) = 1 ∧ s.a < s.cs.length) ∨ _ ∨ ((if 0 < s.a then (3 : Int) else 1) = 3 ∧ 1 ≤ s.a) ∨ _
          by_cases e : 0 < s.a
          · rw [if_pos e]; exact .inr (.inr (.inl ⟨rfl, e⟩))
          · rw [if_neg e]; exact .inl ⟨rfl, p2⟩⟩ rfl
        rw [take_ok3 p2]
        simp only [optAll_so]
        by_cases ht : tr.length < 2000
        · rw [decide_eq_true (by omega)]
          exact ⟨(hbnd _ ht).1, hnext _ _ _ _ hst hlk (hbnd _ ht).2⟩
        · rw [decide_eq_false (by omega)]
          exact hnext _ _ _ _ hst hlk htr
  · -- has all
    have hst : St v gs s ⟨s.who, s.cs, if s.cs.length = 0 then 5 else 4, s.a, s.t, s.w⟩ := .free p1 _ rfl rfl (by
      show (s.a = 0 ∧ (if s.cs.length = 0 then (5 : Int) else 4) = 5) ∨ (0 < s.a ∧ (if s.cs.length = 0 then (5 : Int) else 4) = 4)
      by_cases e : s.cs.length = 0
      · rw [if_pos e]; exact .inl ⟨by omega, rfl⟩
      · rw [if_neg e]; exact .inr ⟨by omega, rfl⟩)
    have hlk := hsame ⟨s.who, s.cs, if s.cs.length = 0 then 5 else 4, s.a, s.t, s.w⟩ ⟨hwho, hw.up, hw.rng, hle, hfew, by
      show _ ∨ _ ∨ _ ∨ ((if s.cs.length = 0 then (5 : Int) else 4) = 4 ∧ 1 ≤ s.a) ∨ ((if s.cs.length = 0 then (5 : Int) else 4) = 5 ∧ s.a = 0)
      by_cases e : s.cs.length = 0
      · rw [if_pos e]; exact .inr (.inr (.inr (.inr ⟨rfl, by omega⟩)))
      · rw [if_neg e]; exact .inr (.inr (.inr (.inl ⟨rfl, by omega⟩)))⟩ rfl
    rw [p1]
    simp only [beq_self_eq_true, cond_true]
    rw [free_ok]
    simp only [optAll_so, needs_iff, Nat.zero_add, Int.toNat_natCast]
    exact hnext _ _ _ _ hst hlk htr
  · -- goes back
    obtain ⟨b, hb⟩ : ∃ b, s.a = b + 1 := ⟨s.a - 1, by omega⟩
    have hbl : b < s.cs.length := by omega
    have hc := hw.rng s.cs[b] (List.getElem_mem hbl)
    rw [p1, hb]
    simp only [show ((3 : Int) == 2) = false from rfl, cond_false]
    rw [next34 (.inl rfl) hbl hcsl]
    simp only [optAll_so, op, Bool.not_true, cond_false]
    have hni := up_notin hw.up hbl
    have hheld : s.held = s.cs.take b ++ [s.cs[b]] := by unfold S.held; rw [hb]; exact List.take_succ_eq_append_getElem hbl
    have hown := ho s.cs[b] (by rw [hheld]; exact List.mem_append.2 (.inr (List.mem_singleton_self _)))
    generalize hce : s.cs[b] = c at *
    have hcl : c.toNat < v.length := by omega
    have hvc : v[c.toNat] = s.who := by rw [List.getElem?_eq_getElem hcl] at hown; exact Option.some.inj hown
    rw [check_ok (.inr rfl) h1w hc]
    simp only [optAll_so, bne_self_eq_false, cond_false, needs_iff, true_and, Nat.zero_add, Int.toNat_natCast, map_get _ _ _ hcl, ei0] at hset ⊢
    refine ⟨by omega, ?_⟩
    have hst : St v gs s ⟨s.who, s.cs, if 0 < b then 3 else 1, b, s.t, s.w⟩ := .back p1 _ rfl hb (by
      show (b = 0 ∧ (if 0 < b then (3 : Int) else 1) = 1) ∨ (0 < b ∧ (if 0 < b then (3 : Int) else 1) = 3)
      by_cases e : 0 < b
      · rw [if_pos e]; exact .inr ⟨e, rfl⟩
      · rw [if_neg e]; exact .inl ⟨by omega, rfl⟩)
    have hlk := hless ⟨s.who, s.cs, if 0 < b then 3 else 1, b, s.t, s.w⟩ ⟨hwho, hw.up, hw.rng, by show b ≤ s.cs.length; omega, hfew, by
      show ((if 0 < b then (3 : Int) else 1) = 1 ∧ b < s.cs.length) ∨ _ ∨ ((if 0 < b then (3 : Int) else 1) = 3 ∧ 1 ≤ b) ∨ _
      by_cases e : 0 < b
      · rw [if_pos e]; exact .inr (.inr (.inl ⟨rfl, e⟩))
      · rw [if_neg e]; exact .inl ⟨rfl, hbl⟩⟩ c hheld hni (fun d hd => (hw.rng d (List.mem_of_mem_take hd)).1) hc
    have hs1 := hset c 0 hcl
    rw [hvc] at hs1
    rw [hvc, let_go]
    simp only [optAll_so, told]
    rw [hs1, take_ok3b hbl hcsl]
    simp only [optAll_so]
    by_cases ht : tr.length < 2000
    · rw [decide_eq_true (by omega)]
      exact ⟨(hbnd _ ht).1, hnext _ _ _ _ hst hlk (hbnd _ ht).2⟩
    · rw [decide_eq_false (by omega)]
      exact hnext _ _ _ _ hst hlk htr
  · -- lets go
    obtain ⟨b, hb⟩ : ∃ b, s.a = b + 1 := ⟨s.a - 1, by omega⟩
    have hbl : b < s.cs.length := by omega
    have hc := hw.rng s.cs[b] (List.getElem_mem hbl)
    rw [p1, hb]
    simp only [show ((4 : Int) == 2) = false from rfl, cond_false]
    rw [next34 (.inr rfl) hbl hcsl]
    simp only [optAll_so, op, Bool.not_true, cond_false]
    have hni := up_notin hw.up hbl
    have hheld : s.held = s.cs.take b ++ [s.cs[b]] := by unfold S.held; rw [hb]; exact List.take_succ_eq_append_getElem hbl
    have hown := ho s.cs[b] (by rw [hheld]; exact List.mem_append.2 (.inr (List.mem_singleton_self _)))
    generalize hce : s.cs[b] = c at *
    have hcl : c.toNat < v.length := by omega
    have hvc : v[c.toNat] = s.who := by rw [List.getElem?_eq_getElem hcl] at hown; exact Option.some.inj hown
    rw [check_ok (.inr rfl) h1w hc]
    simp only [optAll_so, bne_self_eq_false, cond_false, needs_iff, true_and, Nat.zero_add, Int.toNat_natCast, map_get _ _ _ hcl, ei0] at hset ⊢
    refine ⟨by omega, ?_⟩
    have hst : St v gs s ⟨s.who, s.cs, if b = 0 then 5 else 4, b, s.t, s.w⟩ := .goes p1 _ rfl hb (by
      show (b = 0 ∧ (if b = 0 then (5 : Int) else 4) = 5) ∨ (0 < b ∧ (if b = 0 then (5 : Int) else 4) = 4)
      by_cases e : b = 0
      · rw [if_pos e]; exact .inl ⟨e, rfl⟩
      · rw [if_neg e]; exact .inr ⟨by omega, rfl⟩)
    have hlk := hless ⟨s.who, s.cs, if b = 0 then 5 else 4, b, s.t, s.w⟩ ⟨hwho, hw.up, hw.rng, by show b ≤ s.cs.length; omega, hfew, by
      show _ ∨ _ ∨ _ ∨ ((if b = 0 then (5 : Int) else 4) = 4 ∧ 1 ≤ b) ∨ ((if b = 0 then (5 : Int) else 4) = 5 ∧ b = 0)
      by_cases e : b = 0
      · rw [if_pos e]; exact .inr (.inr (.inr (.inr ⟨rfl, e⟩)))
      · rw [if_neg e]; exact .inr (.inr (.inr (.inl ⟨rfl, by omega⟩)))⟩ c hheld hni (fun d hd => (hw.rng d (List.mem_of_mem_take hd)).1) hc
    have hs1 := hset c 0 hcl
    rw [hvc] at hs1
    rw [hvc, let_go]
    simp only [optAll_so, told]
    rw [hs1, take_ok4 hbl hcsl]
    simp only [optAll_so]
    by_cases ht : tr.length < 2000
    · rw [decide_eq_true (by omega)]
      exact ⟨(hbnd _ ht).1, hnext _ _ _ _ hst hlk (hbnd _ ht).2⟩
    · rw [decide_eq_false (by omega)]
      exact hnext _ _ _ _ hst hlk htr
  · -- is done
    have hlk := hsame s hw rfl
    rw [p1]
    simp only [show ((5 : Int) == 2) = false from rfl, cond_false]
    rw [next25 (.inr rfl)]
    simp only [optAll_so, Bool.not_false, cond_true, needs_iff, Nat.zero_add, Int.toNat_natCast]
    have := hnext s v n tr (.done p1) hlk htr
    unfold S.row at this
    rw [p1] at this
    exact this
end Grabs
end Go.AI
