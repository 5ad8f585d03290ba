/-
  Own work. The histories' laws: HistOrder, HistOnce, HistSpans.
-/
import Derived.Test.YtfnnhfghggfccaaHist8
namespace Go.AI
open Go
set_option linter.unusedVariables false
set_option linter.unusedSimpArgs false
namespace Hist
open Kit
theorem order_loop (l : List Act) (hl : l.length ≤ 60) (a b c : Int) : ∀ (m i : Nat) (h : H), i + m = l.length → Ok h → h.sp.length ≤ i → h.ev.length ≤ i →
    law18_HistOrder.H6 (l.map encAct) a b c i (h.sp.map encSpan) (h.ev.map encEv) (true, ()) := by
  intro m
  induction m with
  | zero =>
    intro i h hi ho h1 h2
    refine law18_HistOrder.H6_step _ _ _ _ _ _ _ _ ?_
    have hin : decide ((i : Int) < (l.length : Int)) = false := decide_eq_false (by omega)
    simp only [hin, cond_false, List.length_map, live_ok, optAll_so]
    by_cases c1 : a < 0
    · rw [decide_eq_true c1]; exact True.intro
    by_cases c2 : b < 0
    · rw [decide_eq_false c1, decide_eq_true c2]; exact True.intro
    by_cases c3 : c < 0
    · rw [decide_eq_false c1, decide_eq_false c2, decide_eq_true c3]; exact True.intro
    by_cases c4 : a ≥ h.sp.length
    · rw [decide_eq_false c1, decide_eq_false c2, decide_eq_false c3, decide_eq_true c4]; exact True.intro
    by_cases c5 : b ≥ h.sp.length
    · rw [decide_eq_false c1, decide_eq_false c2, decide_eq_false c3, decide_eq_false c4, decide_eq_true c5]; exact True.intro
    by_cases c6 : c ≥ h.sp.length
    · rw [decide_eq_false c1, decide_eq_false c2, decide_eq_false c3, decide_eq_false c4, decide_eq_false c5, decide_eq_true c6]; exact True.intro
    obtain ⟨x, rfl⟩ : ∃ x : Nat, a = x := ⟨a.toNat, by omega⟩
    obtain ⟨y, rfl⟩ : ∃ x : Nat, b = x := ⟨b.toNat, by omega⟩
    obtain ⟨z, rfl⟩ : ∃ x : Nat, c = x := ⟨c.toNat, by omega⟩
    have hx : x < h.sp.length := by omega
    have hy : y < h.sp.length := by omega
    have hz : z < h.sp.length := by omega
    have hs := ho.1
    rw [decide_eq_false c1, decide_eq_false c2, decide_eq_false c3, decide_eq_false c4, decide_eq_false c5, decide_eq_false c6]
    simp only [cond_false, needs_nat, Int.toNat_natCast, map_get _ _ _ hx, map_get _ _ _ hy, map_get _ _ _ hz, optAll_so, s0, s1, s2, s3, s4, s5, s6, s7, s8, s9, s10, s11, s12, s13, s14, ahead_ok]
    have t1 : decide (ahead h.sp[x] h.sp[x]) = false := decide_eq_false fun e => absurd (ahead_lt hs hx hx e) (Nat.lt_irrefl x)
    have t2 : decide (ahead h.sp[x] h.sp[y]) = true → decide ((x : Int) ≥ (y : Int)) = false ∧ decide (ahead h.sp[y] h.sp[x]) = false := by
      intro e
      have e := of_decide_eq_true e
      have l1 := ahead_lt hs hx hy e
      refine ⟨decide_eq_false (by omega), decide_eq_false fun e2 => ?_⟩
      have l2 := ahead_lt hs hy hx e2
      omega
    have t3 : decide (ahead h.sp[x] h.sp[y]) = true → decide (ahead h.sp[y] h.sp[z]) = true → decide (ahead h.sp[x] h.sp[z]) = true := by
      intro e1 e2
      have e1 := of_decide_eq_true e1
      have e2 := of_decide_eq_true e2
      have := (spanB_parts (hs y hy)).2.2.1 e2.1
      exact decide_eq_true ⟨e1.1, by have := e1.2; have := e2.2; omega⟩
    have t4 : decide ((x : Int) < (y : Int)) = true → (h.sp[x].core == h.sp[y].core) = true → decide (ahead h.sp[x] h.sp[y]) = true := by
      intro e1 e2
      have e1 := of_decide_eq_true e1
      exact decide_eq_true (same_core hs y hy x (by omega) (by simpa using e2))
    rw [t1]
    revert t2 t3 t4
    generalize decide (ahead h.sp[x] h.sp[y]) = q1
    generalize decide (ahead h.sp[y] h.sp[x]) = q2
    generalize decide (ahead h.sp[y] h.sp[z]) = q3
    generalize decide (ahead h.sp[x] h.sp[z]) = q4
    generalize decide ((x : Int) ≥ (y : Int)) = q5
    generalize decide ((x : Int) < (y : Int)) = q6
    generalize (h.sp[x].core == h.sp[y].core) = q7
    intro t2 t3 t4
    cases q1
    · cases q6
      · exact True.intro
      · cases q7
        · exact True.intro
        · cases t4 rfl rfl
    · obtain ⟨e5, e2⟩ := t2 rfl
      subst e5 e2
      cases q3
      · cases q6 <;> cases q7 <;> exact True.intro
      · have e4 := t3 rfl rfl
        subst e4
        cases q6 <;> cases q7 <;> exact True.intro
  | succ m ih =>
    intro i h hi ho h1 h2
    refine law18_HistOrder.H6_step _ _ _ _ _ _ _ _ ?_
    have hil : i < l.length := by omega
    have hin : decide ((i : Int) < (((l.map encAct).length : Nat) : Int)) = true := decide_eq_true (by simp; omega)
    generalize hp : l[i] = a'
    have hg : (l.map encAct)[i]? = some (encAct a') := by rw [map_get _ _ _ hil, hp]
    have hd := does_size h a'
    have hk := does_keeps ho a'
    simp only [hin, cond_true, needs_nat, Int.toNat_natCast, hg, optAll_so, a0, a1, a2, a3, a4, a5, a6, a7, a8, a9, a10, a11, a12, a13, a14, a15, a16, a17, a18, a19, a20, a21, a22, a23, a24, a25, a26, live_ok]
    by_cases h4 : a'.e.dones.length ≤ 10
    · rw [decide_eq_false (by simp; omega)]
      simp only [cond_false, does_ok h a' (by omega) (by omega), optAll_so, enc_res, wrap_succ (show i < 4611686018427387904 by omega)]
      exact ih (i + 1) _ (by omega) hk (by omega) (by omega)
    · rw [decide_eq_true (by simp; omega)]; exact True.intro
theorem order_law (l : List Act) (a b c : Int) : law18_HistOrder.R (l.map encAct) a b c = some (true, ()) := by
  refine law18_HistOrder.start _ _ _ _ _ ?_
  simp only [List.length_map, cond_ite, decide_eq_true_eq, live_ok, optAll_so]
  by_cases h : l.length ≤ 60
  · rw [if_neg (by omega)]
    exact order_loop l h a b c l.length 0 ⟨[], []⟩ (by omega) ok_empty (by simp) (by simp)
  · rw [if_pos (by omega)]; exact True.intro
/-! HistSpans -/
theorem inv_len (h : H) (c : Int) (x : Call) (now : Int) : (inv h c x now).1.sp.length ≤ h.sp.length + 1 ∧ (inv h c x now).1.ev.length ≤ h.ev.length + 1 := by
  rcases inv_cases h c x now with ⟨_, h1⟩ | ⟨h1, _⟩ <;> rw [h1] <;> simp
theorem eqSpan' (a : Span) (c : Int) (x : Call) (st en : Int) (r : Rep) : (a.core == c && (a.call.kind == x.kind && (a.call.a == x.a && (a.call.b == x.b && (a.call.rights == x.rights && (a.call.badge == x.badge && (a.call.ty == x.ty && (a.call.size == x.size && (a.call.value == x.value && (a.st == st && (a.en == en && (a.rep.code == r.code && (a.rep.value == r.value && (a.rep.badge == r.badge && (a.rep.cap == r.cap && true))))))))))))))) = decide (a = ⟨c, x, st, en, r⟩) := eqSpan a ⟨c, x, st, en, r⟩
theorem down_snoc (l : List Span) (s : Span) : down (l ++ [s]) s.core (l ++ [s]).length = l.length := by
  rw [List.length_append, List.length_cons, List.length_nil, down]
  simp
theorem spans_end (h : H) (k : List Span) (n : Nat) (hn : n = h.sp.length) (hk : ∀ j, ∀ hj : j < n, k[j]? = h.sp[j]?) (hl : h.sp.length ≤ 60) (e1 e2 : List (List DV)) : ∀ m i : Nat, i + m = n → law18_HistSpans.H19 n i (h.sp.map encSpan) e1 (k.map encSpan) e2 (true, ()) := by
  intro m
  induction m with
  | zero =>
    intro i hi
    refine law18_HistSpans.H19_step _ _ _ _ _ _ _ ?_
    rw [decide_eq_false (by omega)]
    simp only [live_ok, optAll_so, cond_false]
  | succ m ih =>
    intro i hi
    refine law18_HistSpans.H19_step _ _ _ _ _ _ _ ?_
    have hil : i < h.sp.length := by omega
    have hg : (k.map encSpan)[i]? = some (encSpan h.sp[i]) := by
      rw [List.getElem?_map, hk i (by omega), List.getElem?_eq_getElem hil]; rfl
    rw [decide_eq_true (by omega)]
    simp only [cond_true, needs_nat, Int.toNat_natCast, hg, map_get _ _ _ hil, optAll_so, s0, s1, s2, s3, s4, s5, s6, s7, s8, s9, s10, s11, s12, s13, s14, eqSpan, decide_true, Bool.not_true, cond_false, wrap_succ (show i < 4611686018427387904 by omega)]
    exact ih (i + 1) (by omega)
theorem spans_loop (l : List Act) (hl : l.length ≤ 60) (core now by' : Int) (x : Call) (r : Rep) (hb : 0 ≤ by') (hb2 : by' ≤ 1000) (hn : now ≤ 1000000) : ∀ (m i : Nat) (h : H), i + m = l.length → Ok h → h.sp.length ≤ i → h.ev.length ≤ i → fewDones h.ev →
    law18_HistSpans.H6 (l.map encAct) core now by' i x.kind x.a x.b x.rights x.badge x.ty x.size x.value r.code r.value r.badge r.cap (h.sp.map encSpan) (h.ev.map encEv) (true, ()) := by
  intro m
  induction m with
  | zero =>
    intro i h hi ho h1 h2 h3
    refine law18_HistSpans.H6_step _ _ _ _ _ _ _ _ _ _ _ _ _ _ _ _ _ _ _ _ ?_
    have hin : decide ((i : Int) < (((l.map encAct).length : Nat) : Int)) = false := decide_eq_false (by simp; omega)
    simp only [hin, cond_false, inv_ok h core x now (by omega) (by omega), optAll_so, num_ok, enc_res]
    rcases inv_cases h core x now with ⟨hne, hh⟩ | ⟨hh, _, hcore, hnow, hmono, hfree⟩
    · rw [show ((inv h core x now).2 != 0) = true by simpa using hne, hh, cond_true, same_ok h h (by omega) (by omega) h3]
      simp only [optAll_so, decide_true, cond_true, live_ok]
    · have hok : Ok ⟨h.sp ++ [sp0 core x now], h.ev⟩ := by have := inv_keeps ho core x now; rwa [hh] at this
      rw [hh]
      have hw : IntKind.i64.wrap (now + by') = now + by' := wrap_id (by omega) (by omega)
      simp only [bne_self_eq_false, cond_false, hw]
      rw [ans_ok ⟨h.sp ++ [sp0 core x now], h.ev⟩ core r (now + by') (by simp; omega) (by show h.ev.length < _; omega)]
      have hans : ans ⟨h.sp ++ [sp0 core x now], h.ev⟩ core r (now + by') = (⟨h.sp ++ [done (sp0 core x now) r (now + by')], h.ev⟩, 0) := by
        have hdn : down (h.sp ++ [sp0 core x now]) core (h.sp ++ [sp0 core x now]).length = h.sp.length := down_snoc h.sp (sp0 core x now)
        have hgn : (h.sp ++ [sp0 core x now])[h.sp.length]? = some (sp0 core x now) := by simp
        have hp : pend (h.sp ++ [sp0 core x now]) core = ((h.sp.length : Int), true) := by
          unfold pend prevOf
          rw [hdn, if_neg (by omega), Int.toNat_natCast, hgn]
          simp [sp0]
        unfold ans
        rw [if_neg (fun e => e hok)]
        simp only [hp, Bool.true_eq_false, if_false, Int.toNat_natCast, hgn]
        rw [if_neg (by simp [sp0]; omega)]
        simp
      rw [hans]
      have hlen : IntKind.i64.wrap ((h.sp.length : Int) + 1) = ((h.sp.length + 1 : Nat) : Int) := wrap_succ (by omega)
      have hl1 : ∀ s : Span, (((h.sp ++ [s]).map encSpan).length : Int) = ((h.sp.length + 1 : Nat) : Int) := by intro s; simp
      have hg1 : ∀ s : Span, ((h.sp ++ [s]).map encSpan)[h.sp.length]? = some (encSpan s) := by intro s; simp
      simp only [optAll_so, num_ok, enc_res, bne_self_eq_false, cond_false, List.length_map, hlen, hl1, Int.toNat_natCast, hg1, s0, s1, s2, s3, s4, s5, s6, s7, s8, s9, s10, s11, s12, s13, s14]
      rw [List.length_append, List.length_append, List.length_cons, List.length_nil, List.length_cons, List.length_nil]
      simp only [bne_self_eq_false, cond_false]
      simp only [sp0, done, rep0, beq_self_eq_true, Bool.and_true, Bool.and_self, Bool.not_true, cond_false]
      refine spans_end h _ h.sp.length rfl (fun j hj => ?_) (by omega) _ _ h.sp.length 0 (by omega)
      rw [List.getElem?_append_left hj]
  | succ m ih =>
    intro i h hi ho h1 h2 h3
    refine law18_HistSpans.H6_step _ _ _ _ _ _ _ _ _ _ _ _ _ _ _ _ _ _ _ _ ?_
    have hil : i < l.length := by omega
    have hin : decide ((i : Int) < (((l.map encAct).length : Nat) : Int)) = true := decide_eq_true (by simp; omega)
    generalize hp : l[i] = a'
    have hg : (l.map encAct)[i]? = some (encAct a') := by rw [map_get _ _ _ hil, hp]
    have hd := does_size h a'
    have hk := does_keeps ho a'
    simp only [hin, cond_true, needs_nat, Int.toNat_natCast, hg, optAll_so, a0, a1, a2, a3, a4, a5, a6, a7, a8, a9, a10, a11, a12, a13, a14, a15, a16, a17, a18, a19, a20, a21, a22, a23, a24, a25, a26, live_ok]
    by_cases h4 : a'.e.dones.length ≤ 10
    · rw [decide_eq_false (by simp; omega)]
      simp only [cond_false, does_ok h a' (by omega) (by omega), optAll_so, enc_res, wrap_succ (show i < 4611686018427387904 by omega)]
      exact ih (i + 1) _ (by omega) hk (by omega) (by omega) (does_few h a' h3 h4)
    · rw [decide_eq_true (by simp; omega)]; exact True.intro
theorem spans_law (l : List Act) (core now by' : Int) (x : Call) (r : Rep) : law18_HistSpans.R (l.map encAct) core x.kind x.a x.b x.rights x.badge x.ty x.size x.value r.code r.value r.badge r.cap now by' = some (true, ()) := by
  refine law18_HistSpans.start _ _ _ _ _ _ _ _ _ _ _ _ _ _ _ _ _ ?_
  simp only [List.length_map, cond_ite, decide_eq_true_eq, live_ok, optAll_so]
  by_cases h : l.length ≤ 60
  · rw [if_neg (by omega)]
    by_cases h1 : by' < 0
    · rw [if_pos h1]; exact True.intro
    rw [if_neg h1]
    by_cases h2 : by' > 1000
    · rw [if_pos h2]; exact True.intro
    rw [if_neg h2]
    by_cases h3 : now > 1000000
    · rw [if_pos h3]; exact True.intro
    rw [if_neg h3]
    exact spans_loop l h core now by' x r (by omega) (by omega) (by omega) l.length 0 ⟨[], []⟩ (by omega) ok_empty (by simp) (by simp) (fun e he => by simp at he)
  · rw [if_pos (by omega)]; exact True.intro
/-! HistOnce -/
theorem pend_after_inv (h : H) (c : Int) (x : Call) (now : Int) : (pend (h.sp ++ [sp0 c x now]) c).2 = true := by
  have hdn : down (h.sp ++ [sp0 c x now]) c (h.sp ++ [sp0 c x now]).length = h.sp.length := down_snoc h.sp (sp0 c x now)
  have hgn : (h.sp ++ [sp0 c x now])[h.sp.length]? = some (sp0 c x now) := by simp
  unfold pend prevOf
  rw [hdn, if_neg (by omega), Int.toNat_natCast, hgn]
  simp [sp0]
theorem pend_free {l : List Span} {c now : Int} (h : freeB l c now = true) : (pend l c).2 = false := by
  unfold freeB at h
  unfold pend
  cases hp : prevOf l c with
  | none => rfl
  | some x =>
    rw [hp] at h
    have h : x.en ≠ 0 ∧ x.en < now := by simpa using h
    simp [h.1]
theorem pend_after_ans {h : H} {k : Nat} (hk : k < h.sp.length) {c : Int} (hd : down h.sp c h.sp.length = k) {r : Rep} {now : Int} (hn : now ≠ 0) : (pend (h.sp.set k (done h.sp[k] r now)) c).2 = false := by
  have hc : h.sp.map Span.core = (h.sp.set k (done h.sp[k] r now)).map Span.core := by
    rw [List.map_set]
    refine (List.ext_getElem (by simp) fun j h1 h2 => ?_)
    rw [List.getElem_set]
    split
    · rename_i e; subst e; simp [done]
    · rfl
  have hdn : down (h.sp.set k (done h.sp[k] r now)) c (h.sp.set k (done h.sp[k] r now)).length = k := by
    rw [← down_congr hc, List.length_set, hd]
  have hg : (h.sp.set k (done h.sp[k] r now))[k]? = some (done h.sp[k] r now) := by simp [hk]
  unfold pend prevOf
  rw [hdn, if_neg (by omega), Int.toNat_natCast, hg]
  simp [done, hn]
/-- What holds of the open span behind what is recorded. -/
theorem once_facts {h : H} (ho : Ok h) (a : Act) : (a.kind = 0 → (does h a).2 = 0 → (pend h.sp a.core).2 = false ∧ (pend (does h a).1.sp a.core).2 = true) ∧ (a.kind = 1 → (does h a).2 = 0 → (pend h.sp a.core).2 = true ∧ (pend (does h a).1.sp a.core).2 = false) ∧ ((does h a).2 ≠ 0 → (does h a).1 = h) := by
  unfold does
  by_cases h0 : a.kind = 0
  · rw [if_pos h0]
    rcases inv_cases h a.core a.c a.now with ⟨e1, e2⟩ | ⟨e1, _, _, _, _, hf⟩
    · exact ⟨fun _ e => absurd e e1, fun e => by omega, fun _ => e2⟩
    · rw [e1]
      exact ⟨fun _ _ => ⟨pend_free hf, pend_after_inv h a.core a.c a.now⟩, fun e => by omega, fun e => absurd rfl e⟩
  · rw [if_neg h0]
    by_cases h1 : a.kind = 1
    · rw [if_pos h1]
      rcases ans_cases h a.core a.r a.now with ⟨e1, e2⟩ | ⟨_, k, hk, hd, hen, hp, hst, e1⟩
      · exact ⟨fun e => absurd e h0, fun _ e => absurd e e1, fun _ => e2⟩
      · rw [e1]
        have := (spanB_parts (ho.1 k hk)).2.1
        exact ⟨fun e => absurd e h0, fun _ _ => ⟨by rw [hp], pend_after_ans hk hd (by omega)⟩, fun e => absurd rfl e⟩
    · rw [if_neg h1]
      rcases note_cases h a.e with ⟨e1, e2⟩ | ⟨e1, _⟩
      · exact ⟨fun e => absurd e h0, fun e => absurd e h1, fun _ => e2⟩
      · rw [e1]
        exact ⟨fun e => absurd e h0, fun e => absurd e h1, fun e => absurd rfl e⟩
/-- How many spans of a core are open ahead of a place. -/
def opens (l : List Span) (c : Int) (n : Nat) : Int := if (pend (l.take n) c).2 = true then 1 else 0
theorem pend_iff (l : List Span) (c : Int) : (pend l c).2 = true ↔ ∃ x, prevOf l c = some x ∧ x.en = 0 := by
  unfold pend
  cases hp : prevOf l c with
  | none => simp
  | some x =>
    by_cases h : x.en = 0
    · simp [h]
    · simp [h]
theorem prev_snoc (l : List Span) (s : Span) (c : Int) : prevOf (l ++ [s]) c = if s.core = c then some s else prevOf l c := by
  by_cases h : s.core = c
  · subst h
    rw [if_pos rfl]
    unfold prevOf
    rw [down_snoc, if_neg (by omega), Int.toNat_natCast]
    simp
  · rw [if_neg h]
    have hd : down (l ++ [s]) c (l ++ [s]).length = down l c l.length := by
      rw [List.length_append, List.length_cons, List.length_nil, down]
      have e : (l ++ [s])[l.length]? = some s := by simp
      rw [e, if_neg (by simpa using h)]
      have := down_take (l ++ [s]) c l.length l.length (Nat.le_refl _)
      rw [List.take_left] at this
      exact this.symm
    unfold prevOf
    rw [hd]
    split
    · rfl
    · have := down_lt l c l.length
      rw [List.getElem?_append_left (by omega)]
theorem opens_step {l : List Span} (h : OkS l) (c : Int) (i : Nat) (hi : i < l.length) : opens l c (i + 1) = if l[i].core = c ∧ l[i].en = 0 then opens l c i + 1 else opens l c i := by
  unfold opens
  rw [List.take_succ_eq_append_getElem hi]
  by_cases h1 : l[i].core = c
  · have hf := (spanB_parts (h i hi)).2.2.2.2.2
    rw [h1] at hf
    have h0 : (pend (l.take i) c).2 = false := pend_free hf
    rw [h0]
    by_cases h2 : l[i].en = 0
    · rw [if_pos ((pend_iff _ _).2 ⟨l[i], by rw [prev_snoc, if_pos h1], h2⟩), if_pos (show l[i].core = c ∧ l[i].en = 0 from ⟨h1, h2⟩)]; simp
    · have hn : ¬ (pend (l.take i ++ [l[i]]) c).2 = true := by
        intro e
        obtain ⟨x, hx, hx2⟩ := (pend_iff _ _).1 e
        rw [prev_snoc, if_pos h1] at hx
        cases hx
        exact h2 hx2
      rw [if_neg hn, if_neg (show ¬ (l[i].core = c ∧ l[i].en = 0) from fun e => h2 e.2)]; simp
  · rw [if_neg (show ¬ (l[i].core = c ∧ l[i].en = 0) from fun e => h1 e.1)]
    have e : (pend (l.take i ++ [l[i]]) c).2 = true ↔ (pend (l.take i) c).2 = true := by
      rw [pend_iff, pend_iff, prev_snoc, if_neg h1]
    by_cases q : (pend (l.take i) c).2 = true
    · rw [if_pos q, if_pos (e.2 q)]
    · rw [if_neg q, if_neg (fun x => q (e.1 x))]
theorem once_end (h : H) (core : Int) (ho : Ok h) (hl : h.sp.length ≤ 60) : ∀ m i : Nat, i + m = h.sp.length → law18_HistOnce.H18 core (opens h.sp core i) i (h.sp.map encSpan) (h.ev.map encEv) (true, ()) := by
  intro m
  induction m with
  | zero =>
    intro i hi
    refine law18_HistOnce.H18_step _ _ _ _ _ _ ?_
    have hin : decide ((i : Int) < (h.sp.length : Int)) = false := decide_eq_false (by omega)
    simp only [hin, cond_false, List.length_map, live_ok, optAll_so, pend_ok h core (show h.sp.length < 1000000 by omega)]
    have e : h.sp.take i = h.sp := List.take_of_length_le (by omega)
    unfold opens
    rw [e]
    generalize (pend h.sp core).2 = q
    cases q <;> exact True.intro
  | succ m ih =>
    intro i hi
    refine law18_HistOnce.H18_step _ _ _ _ _ _ ?_
    have hil : i < h.sp.length := by omega
    have hin : decide ((i : Int) < (h.sp.length : Int)) = true := decide_eq_true (by omega)
    have hs := opens_step ho.1 core i hil
    have hob : 0 ≤ opens h.sp core i ∧ opens h.sp core i ≤ 1 := by unfold opens; split <;> omega
    have hw : IntKind.i64.wrap (opens h.sp core i + 1) = opens h.sp core i + 1 := wrap_id (by omega) (by omega)
    simp only [hin, cond_true, needs_nat, Int.toNat_natCast, map_get _ _ _ hil, optAll_so, s0, s1, s2, s3, s4, s5, s6, s7, s8, s9, s10, s11, s12, s13, s14, List.length_map, hw, wrap_succ (show i < 4611686018427387904 by omega), cond_ite, beq_iff_eq]
    have := ih (i + 1) (by omega)
    rw [hs] at this
    by_cases h1 : h.sp[i].core = core
    · rw [if_pos h1]
      by_cases h2 : h.sp[i].en = 0
      · rw [if_pos ⟨h1, h2⟩] at this
        rw [if_pos h2]; exact this
      · rw [if_neg (fun e => h2 e.2)] at this
        rw [if_neg h2]; exact this
    · rw [if_neg (fun e => h1 e.1)] at this
      rw [if_neg h1]; exact this
theorem once_loop (l : List Act) (hl : l.length ≤ 60) (core : Int) : ∀ (m i : Nat) (h : H), i + m = l.length → Ok h → h.sp.length ≤ i → h.ev.length ≤ i →
    law18_HistOnce.H6 (l.map encAct) core i (h.sp.map encSpan) (h.ev.map encEv) (true, ()) := by
  intro m
  induction m with
  | zero =>
    intro i h hi ho h1 h2
    refine law18_HistOnce.H6_step _ _ _ _ _ _ ?_
    have hin : decide ((i : Int) < (l.length : Int)) = false := decide_eq_false (by omega)
    simp only [hin, cond_false, List.length_map]
    have := once_end h core ho (by omega) h.sp.length 0 (by omega)
    have e : opens h.sp core 0 = 0 := rfl
    rw [e] at this
    exact this
  | succ m ih =>
    intro i h hi ho h1 h2
    refine law18_HistOnce.H6_step _ _ _ _ _ _ ?_
    have hil : i < l.length := by omega
    have hin : decide ((i : Int) < (((l.map encAct).length : Nat) : Int)) = true := decide_eq_true (by simp; omega)
    generalize hp : l[i] = a'
    have hg : (l.map encAct)[i]? = some (encAct a') := by rw [map_get _ _ _ hil, hp]
    have hd := does_size h a'
    have hk := does_keeps ho a'
    simp only [hin, cond_true, needs_nat, Int.toNat_natCast, hg, optAll_so, a0, a1, a2, a3, a4, a5, a6, a7, a8, a9, a10, a11, a12, a13, a14, a15, a16, a17, a18, a19, a20, a21, a22, a23, a24, a25, a26, live_ok]
    by_cases h4 : a'.e.dones.length ≤ 10
    · rw [decide_eq_false (by simp; omega)]
      have next := ih (i + 1) (does h a').1 (by omega) hk (by omega) (by omega)
      simp only [cond_false, does_ok h a' (by omega) (by omega), optAll_so, enc_res, pend_ok h a'.core (show h.sp.length < 1000000 by omega), pend_ok (does h a').1 a'.core (show (does h a').1.sp.length < 1000000 by omega), wrap_succ (show i < 4611686018427387904 by omega), bne]
      obtain ⟨f0, f1, f2⟩ := once_facts ho a'
      by_cases hz : (does h a').2 = 0
      · rw [show ((does h a').2 == 0) = true by simpa using hz]
        by_cases k0 : a'.kind = 0
        · obtain ⟨g1, g2⟩ := f0 k0 hz
          rw [show (a'.kind == 0) = true by simpa using k0, show (a'.kind == 1) = false by simp [k0], g1, g2]
          exact next
        · by_cases k1 : a'.kind = 1
          · obtain ⟨g1, g2⟩ := f1 k1 hz
            rw [show (a'.kind == 0) = false by simpa using k0, show (a'.kind == 1) = true by simpa using k1, g1, g2]
            exact next
          · rw [show (a'.kind == 0) = false by simpa using k0, show (a'.kind == 1) = false by simpa using k1]
            exact next
      · have same := f2 hz
        rw [show ((does h a').2 == 0) = false by simpa using hz, same]
        rw [same] at next
        generalize (a'.kind == 0) = q0
        generalize (a'.kind == 1) = q1
        simp only [beq_self_eq_true, Bool.not_true, Bool.not_false, cond_false, cond_true]
        cases q0 <;> cases q1 <;> exact next
    · rw [decide_eq_true (by simp; omega)]; exact True.intro
theorem once_law (l : List Act) (core : Int) : law18_HistOnce.R (l.map encAct) core = some (true, ()) := by
  refine law18_HistOnce.start _ _ _ ?_
  simp only [List.length_map, cond_ite, decide_eq_true_eq, live_ok, optAll_so]
  by_cases h : l.length ≤ 60
  · rw [if_neg (by omega)]
    exact once_loop l h core l.length 0 ⟨[], []⟩ (by omega) ok_empty (by simp) (by simp)
  · rw [if_pos (by omega)]; exact True.intro
end Hist
end Go.AI
