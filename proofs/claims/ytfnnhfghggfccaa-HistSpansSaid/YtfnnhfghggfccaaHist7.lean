/-
  Own work. The histories: what is recorded keeps a history one that may be.
-/
import Derived.Test.YtfnnhfghggfccaaHist6
namespace Go.AI
open Go
set_option linter.unusedVariables false
set_option linter.unusedSimpArgs false
namespace Hist
open Kit
structure Act where
  kind : Int
  core : Int
  now : Int
  c : Call
  r : Rep
  e : Event
def encAct (a : Act) : List DV := [.v (.int .i64 a.kind), .v (.int .i64 a.core), .v (.int .i64 a.now), .v (.int .i64 a.c.kind), .v (.int .u64 a.c.a), .v (.int .u64 a.c.b), .v (.int .i64 a.c.rights), .v (.int .i64 a.c.badge), .v (.int .i64 a.c.ty), .v (.int .i64 a.c.size), .v (.int .i64 a.c.value), .v (.int .i64 a.r.code), .v (.int .i64 a.r.value), .v (.int .i64 a.r.badge), .v (.bool a.r.cap), .v (.int .i64 a.e.kind), .v (.int .i64 a.e.core), .v (.int .i64 a.e.call.kind), .v (.int .u64 a.e.call.a), .v (.int .u64 a.e.call.b), .v (.int .i64 a.e.call.rights), .v (.int .i64 a.e.call.badge), .v (.int .i64 a.e.call.ty), .v (.int .i64 a.e.call.size), .v (.int .i64 a.e.call.value), .v (.int .i64 a.e.stamp), .lst 5 (a.e.dones.map encDon)]
def does (h : H) (a : Act) : H × Int := if a.kind = 0 then inv h a.core a.c a.now else if a.kind = 1 then ans h a.core a.r a.now else note h a.e
theorem does_ok (h : H) (a : Act) (hl : h.sp.length < 1000) (he : h.ev.length < 1000) : law18_does.R (h.sp.map encSpan) (h.ev.map encEv) a.kind a.core a.now a.c.kind a.c.a a.c.b a.c.rights a.c.badge a.c.ty a.c.size a.c.value a.r.code a.r.value a.r.badge a.r.cap a.e.kind a.e.core a.e.call.kind a.e.call.a a.e.call.b a.e.call.rights a.e.call.badge a.e.call.ty a.e.call.size a.e.call.value a.e.stamp (a.e.dones.map encDon) = some (encRes (does h a)) := by
  refine law18_does.start _ _ _ _ _ _ _ _ _ _ _ _ _ _ _ _ _ _ _ _ _ _ _ _ _ _ _ _ _ _ ?_
  simp only [inv_ok h _ _ _ hl (show h.ev.length < 1000000 by omega), ans_ok h _ _ _ hl (show h.ev.length < 1000000 by omega), note_ok h _ hl he, optAll_so, num_ok, cond_ite, beq_iff_eq]
  unfold does
  by_cases h0 : a.kind = 0
  · rw [if_pos h0, if_pos h0]
  · rw [if_neg h0, if_neg h0]
    by_cases h1 : a.kind = 1
    · rw [if_pos h1, if_pos h1]
    · rw [if_neg h1, if_neg h1]
theorem doc_ok (h : H) (a : Act) (hl : h.sp.length < 1000) (he : h.ev.length < 1000) : law18_document.R (h.sp.map encSpan) (h.ev.map encEv) a.kind a.core a.now a.c.kind a.c.a a.c.b a.c.rights a.c.badge a.c.ty a.c.size a.c.value a.r.code a.r.value a.r.badge a.r.cap a.e.kind a.e.core a.e.call.kind a.e.call.a a.e.call.b a.e.call.rights a.e.call.badge a.e.call.ty a.e.call.size a.e.call.value a.e.stamp (a.e.dones.map encDon) = some (encRes (does h a)) := by
  refine law18_document.start _ _ _ _ _ _ _ _ _ _ _ _ _ _ _ _ _ _ _ _ _ _ _ _ _ _ _ _ _ _ ?_
  simp only [ref_inv_ok h _ _ _ hl (show h.ev.length < 1000000 by omega), ref_ans_ok h _ _ _ hl (show h.ev.length < 1000000 by omega), ref_note_ok h _ hl he, optAll_so, num_ok, cond_ite, beq_iff_eq]
  unfold does
  by_cases h0 : a.kind = 0
  · rw [if_pos h0, if_pos h0]
  · rw [if_neg h0, if_neg h0]
    by_cases h1 : a.kind = 1
    · rw [if_pos h1, if_pos h1]
    · rw [if_neg h1, if_neg h1]
/-! Sizes. -/
theorem inv_cases (h : H) (c : Int) (x : Call) (now : Int) : ((inv h c x now).2 ≠ 0 ∧ (inv h c x now).1 = h) ∨ (inv h c x now = (⟨h.sp ++ [sp0 c x now], h.ev⟩, 0) ∧ Ok h ∧ isCore c ∧ 1 ≤ now ∧ monoB h.sp now = true ∧ freeB h.sp c now = true) := by
  unfold inv
  by_cases h0 : ¬ Ok h
  · rw [if_pos h0]; exact .inl ⟨by simp, by simp⟩
  rw [if_neg h0]
  by_cases h1 : ¬ isCore c
  · rw [if_pos h1]; exact .inl ⟨by simp, by simp⟩
  rw [if_neg h1]
  by_cases h2 : now < 1
  · rw [if_pos h2]; exact .inl ⟨by simp, by simp⟩
  rw [if_neg h2]
  by_cases h3 : monoB h.sp now = false
  · rw [if_pos h3]; exact .inl ⟨by simp, by simp⟩
  rw [if_neg h3]
  by_cases h4 : freeB h.sp c now = false
  · rw [if_pos h4]; exact .inl ⟨by simp, by simp⟩
  rw [if_neg h4]
  exact .inr ⟨rfl, Decidable.not_not.1 h0, Decidable.not_not.1 h1, by omega, by simpa using h3, by simpa using h4⟩
theorem ans_cases (h : H) (c : Int) (r : Rep) (now : Int) : ((ans h c r now).2 ≠ 0 ∧ (ans h c r now).1 = h) ∨ (Ok h ∧ ∃ k : Nat, ∃ hk : k < h.sp.length, down h.sp c h.sp.length = k ∧ h.sp[k].en = 0 ∧ pend h.sp c = ((k : Int), true) ∧ h.sp[k].st ≤ now ∧ ans h c r now = (⟨h.sp.set k (done h.sp[k] r now), h.ev⟩, 0)) := by
  unfold ans
  by_cases h0 : ¬ Ok h
  · rw [if_pos h0]; exact .inl ⟨by simp, by simp⟩
  rw [if_neg h0]
  rcases pend_cases h.sp c with hp | ⟨k, hk, hd, hen, hp⟩
  · rw [hp]; exact .inl ⟨by simp, by simp⟩
  · rw [hp]
    simp only [Bool.true_eq_false, if_false, Int.toNat_natCast, List.getElem?_eq_getElem hk]
    by_cases h1 : now < h.sp[k].st
    · rw [if_pos h1]; exact .inl ⟨by simp, by simp⟩
    · rw [if_neg h1]
      exact .inr ⟨Decidable.not_not.1 h0, k, hk, hd, hen, rfl, by omega, rfl⟩
theorem note_cases (h : H) (e : Event) : ((note h e).2 ≠ 0 ∧ (note h e).1 = h) ∨ (note h e = (⟨h.sp, h.ev ++ [e]⟩, 0) ∧ Ok h ∧ evB e h.ev = true) := by
  unfold note
  by_cases h0 : ¬ Ok h
  · rw [if_pos h0]; exact .inl ⟨by simp, by simp⟩
  rw [if_neg h0]
  by_cases h1 : evB e h.ev = false
  · rw [if_pos h1]; exact .inl ⟨by simp, by simp⟩
  rw [if_neg h1]
  exact .inr ⟨rfl, Decidable.not_not.1 h0, by simpa using h1⟩
theorem does_size (h : H) (a : Act) : (does h a).1.sp.length ≤ h.sp.length + 1 ∧ (does h a).1.ev.length ≤ h.ev.length + 1 := by
  unfold does
  split
  · rcases inv_cases h a.core a.c a.now with ⟨_, h1⟩ | ⟨h1, _⟩ <;> rw [h1] <;> simp
  · split
    · rcases ans_cases h a.core a.r a.now with ⟨_, h1⟩ | ⟨_, k, hk, _, _, _, _, h1⟩ <;> rw [h1] <;> simp
    · rcases note_cases h a.e with ⟨_, h1⟩ | ⟨h1, _⟩ <;> rw [h1] <;> simp
theorem does_few (h : H) (a : Act) (hd : fewDones h.ev) (ha : a.e.dones.length ≤ 10) : fewDones (does h a).1.ev := by
  unfold does
  split
  · rcases inv_cases h a.core a.c a.now with ⟨_, h1⟩ | ⟨h1, _⟩ <;> rw [h1] <;> exact hd
  · split
    · rcases ans_cases h a.core a.r a.now with ⟨_, h1⟩ | ⟨_, k, hk, _, _, _, _, h1⟩ <;> rw [h1] <;> exact hd
    · rcases note_cases h a.e with ⟨_, h1⟩ | ⟨h1, _⟩ <;> rw [h1]
      · exact hd
      · intro e he
        rcases List.mem_append.1 he with he | he
        · exact hd e he
        · obtain rfl : e = a.e := by simpa using he
          omega
/-! The last span of a core. -/
theorem down_spec (l : List Span) (c : Int) : ∀ n, n ≤ l.length → (down l c n = -1 ∧ ∀ j, ∀ hj : j < l.length, j < n → l[j].core ≠ c) ∨ ∃ k : Nat, ∃ hk : k < l.length, k < n ∧ down l c n = k ∧ l[k].core = c ∧ ∀ j, ∀ hj : j < l.length, k < j → j < n → l[j].core ≠ c := by
  intro n
  induction n with
  | zero => intro _; exact .inl ⟨rfl, fun j _ hj => absurd hj (by omega)⟩
  | succ n ih =>
    intro hn
    rw [down, List.getElem?_eq_getElem (by omega)]
    by_cases h : l[n].core = c
    · refine .inr ⟨n, by omega, by omega, by simp [h], h, fun j _ h1 h2 => absurd h1 (by omega)⟩
    · rw [if_neg (by simpa using h)]
      rcases ih (by omega) with ⟨hd, hj⟩ | ⟨k, hk, hkn, hd, hc, hj⟩
      · refine .inl ⟨hd, fun j hjl hjn => ?_⟩
        by_cases e : j = n
        · subst e; exact h
        · exact hj j hjl (by omega)
      · refine .inr ⟨k, hk, by omega, hd, hc, fun j hjl h1 h2 => ?_⟩
        by_cases e : j = n
        · subst e; exact h
        · exact hj j hjl h1 (by omega)
theorem down_congr {l m : List Span} (h : l.map Span.core = m.map Span.core) (c : Int) : ∀ n, down l c n = down m c n := by
  intro n
  induction n with
  | zero => rfl
  | succ n ih =>
    have e : (l[n]?).map Span.core = (m[n]?).map Span.core := by rw [← List.getElem?_map, ← List.getElem?_map, h]
    rw [down, down, ih, e]
def OkS (l : List Span) : Prop := ∀ i, ∀ hi : i < l.length, spanB l[i] (l.take i) = true
theorem spanB_parts {s : Span} {l : List Span} (h : spanB s l = true) : isCore s.core ∧ 1 ≤ s.st ∧ (s.en ≠ 0 → s.st ≤ s.en) ∧ (s.en = 0 → s.rep = rep0) ∧ monoB l s.st = true ∧ freeB l s.core s.st = true := by
  unfold spanB at h
  simp only [Bool.and_eq_true, decide_eq_true_eq] at h
  obtain ⟨⟨⟨⟨⟨h1, h2⟩, h3⟩, h4⟩, h5⟩, h6⟩ := h
  exact ⟨h1, h2, h3, h4, h5, h6⟩
theorem spanB_of {s : Span} {l : List Span} (h : isCore s.core ∧ 1 ≤ s.st ∧ (s.en ≠ 0 → s.st ≤ s.en) ∧ (s.en = 0 → s.rep = rep0) ∧ monoB l s.st = true ∧ freeB l s.core s.st = true) : spanB s l = true := by
  obtain ⟨h1, h2, h3, h4, h5, h6⟩ := h
  unfold spanB
  simp only [Bool.and_eq_true, decide_eq_true_eq]
  exact ⟨⟨⟨⟨⟨h1, h2⟩, h3⟩, h4⟩, h5⟩, h6⟩
theorem mono_step {l : List Span} (h : OkS l) (i : Nat) (hi : i + 1 < l.length) : l[i].st ≤ l[i + 1].st := by
  have hm := (spanB_parts (h (i + 1) hi)).2.2.2.2.1
  unfold monoB at hm
  have hlen : (l.take (i + 1)).length = i + 1 := by simp; omega
  rw [hlen, List.getElem?_take, if_pos (by omega), List.getElem?_eq_getElem (by omega)] at hm
  simpa using hm
theorem mono_all {l : List Span} (h : OkS l) (i : Nat) : ∀ d, ∀ hd : i + d < l.length, (l[i]'(by omega)).st ≤ l[i + d].st := by
  intro d
  induction d with
  | zero => intro _; exact Int.le_refl _
  | succ d ih =>
    intro hd
    exact Int.le_trans (ih (by omega)) (mono_step h (i + d) hd)
theorem mono_le {l : List Span} (h : OkS l) {i j : Nat} (hij : i ≤ j) (hj : j < l.length) : (l[i]'(by omega)).st ≤ l[j].st := by
  obtain ⟨d, rfl⟩ : ∃ d, j = i + d := ⟨j - i, by omega⟩
  exact mono_all h i d hj
/-- The span of the same core that lies last ahead of one is over ahead of it. -/
theorem free_last {l : List Span} (h : OkS l) {i : Nat} (hi : i < l.length) {k : Nat} (hk : k < i) (hd : down l l[i].core i = k) : ahead (l[k]'(by omega)) l[i] := by
  have hf := (spanB_parts (h i hi)).2.2.2.2.2
  unfold freeB prevOf at hf
  have hlen : (l.take i).length = i := by simp; omega
  rw [hlen, down_take _ _ _ _ (Nat.le_refl _), hd, if_neg (by omega), Int.toNat_natCast, List.getElem?_take, if_pos hk, List.getElem?_eq_getElem (by omega)] at hf
  simpa [ahead] using hf
theorem same_core {l : List Span} (h : OkS l) : ∀ j, ∀ hj : j < l.length, ∀ i, ∀ hij : i < j, (l[i]'(by omega)).core = l[j].core → ahead (l[i]'(by omega)) l[j] := by
  intro j
  induction j using Nat.strongRecOn with
  | _ j ih =>
    intro hj i hij hc
    rcases down_spec l l[j].core j (by omega) with ⟨_, hn⟩ | ⟨k, hk, hkj, hd, hkc, hn⟩
    · exact absurd hc (hn i (by omega) hij)
    · have hkf := free_last h hj hkj hd
      by_cases hik : i = k
      · subst hik; exact hkf
      · have hik2 : i < k := by
          rcases Nat.lt_or_ge k i with h1 | h1
          · exact absurd hc (hn i (by omega) h1 hij)
          · omega
        have h2 := ih k hkj hk i hik2 (by rw [hc, hkc])
        have h3 := (spanB_parts (h k hk)).2.2.1 hkf.1
        exact ⟨h2.1, by have := h2.2; have := hkf.2; omega⟩
theorem ahead_lt {l : List Span} (h : OkS l) {i j : Nat} (hi : i < l.length) (hj : j < l.length) (ha : ahead l[i] l[j]) : i < j := by
  rcases Nat.lt_or_ge i j with h1 | h1
  · exact h1
  · have h2 := mono_le h h1 hi
    have h3 := (spanB_parts (h i hi)).2.2.1 ha.1
    have := ha.2
    omega
/-! What is recorded keeps it. -/
theorem okS_snoc {l : List Span} (h : OkS l) {s : Span} (hs : spanB s l = true) : OkS (l ++ [s]) := by
  intro i hi
  rw [List.length_append, List.length_cons, List.length_nil] at hi
  by_cases hil : i < l.length
  · rw [List.getElem_append_left hil, List.take_append_of_le_length (by omega)]
    exact h i hil
  · have e : i = l.length := by omega
    subst e
    simpa using hs
theorem okS_set {l : List Span} (h : OkS l) {k : Nat} (hk : k < l.length) {c : Int} (hd : down l c l.length = k) {r : Rep} {now : Int} (hst : l[k].st ≤ now) : OkS (l.set k (done l[k] r now)) := by
  have hcore : ∀ i : Nat, (l.take i).map Span.core = ((l.set k (done l[k] r now)).take i).map Span.core := by
    intro i
    rw [List.map_take, List.map_take, List.map_set]
    congr 1
    refine (List.ext_getElem (by simp) fun j h1 h2 => ?_)
    rw [List.getElem_set]
    split
    · rename_i e; subst e; simp [done]
    · rfl
  have hlast : l[k].core = c ∧ ∀ j, ∀ hj : j < l.length, k < j → l[j].core ≠ c := by
    rcases down_spec l c l.length (Nat.le_refl _) with ⟨h1, _⟩ | ⟨k', hk', _, h1, h2, h3⟩
    · omega
    · have e : k' = k := by omega
      subst e
      exact ⟨h2, fun j hj h4 => h3 j hj h4 hj⟩
  intro i hi
  rw [List.length_set] at hi
  have hi' : i < l.length := hi
  have hlen : (l.take i).length = i := by simp; omega
  have hlen2 : ((l.set k (done l[k] r now)).take i).length = i := by simp; omega
  obtain ⟨p1, p2, p3, p4, p5, p6⟩ := spanB_parts (h i hi)
  have hm : ∀ t, monoB ((l.set k (done l[k] r now)).take i) t = monoB (l.take i) t := by
    intro t
    unfold monoB
    rw [hlen, hlen2]
    by_cases h0 : i = 0
    · subst h0; rfl
    · rw [List.getElem?_take, if_pos (by omega), List.getElem?_take, if_pos (by omega), List.getElem?_set]
      split
      · rename_i e
        subst e
        rw [List.getElem?_eq_getElem (by omega)]
        rfl
      · rfl
  have hdn : ∀ c, down ((l.set k (done l[k] r now)).take i) c ((l.set k (done l[k] r now)).take i).length = down (l.take i) c (l.take i).length := by
    intro c
    rw [hlen, hlen2]
    exact (down_congr (hcore i) c i).symm
  by_cases hki : i = k
  · subst hki
    have hpre : (l.set i (done l[i] r now)).take i = l.take i := by
      rw [List.take_set_of_le (by omega)]
    rw [List.getElem_set_self, hpre]
    refine spanB_of ⟨p1, p2, fun _ => hst, fun e => ?_, p5, p6⟩
    have e : now = 0 := e
    omega
  · rw [List.getElem_set_ne (by omega)]
    refine spanB_of ⟨p1, p2, p3, p4, by rw [hm]; exact p5, ?_⟩
    unfold freeB prevOf at p6 ⊢
    rw [hdn]
    split
    · rfl
    · rename_i hge
      rw [if_neg hge] at p6
      by_cases hjk : (down (l.take i) l[i].core (l.take i).length).toNat = k
      · exfalso
        rcases down_spec (l.take i) l[i].core (l.take i).length (Nat.le_refl _) with ⟨h1, _⟩ | ⟨k', hk', _, h1, h2, h3⟩
        · omega
        · have e : k' = k := by omega
          subst e
          rw [List.getElem_take] at h2
          have h4 : ¬ k' < i ∨ l[i].core ≠ c := by
            by_cases h5 : k' < i
            · exact .inr (hlast.2 i hi' h5)
            · exact .inl h5
          rcases h4 with h4 | h4
          · omega
          · exact h4 (by rw [← h2]; exact hlast.1)
      · have e : ((l.set k (done l[k] r now)).take i)[(down (l.take i) l[i].core (l.take i).length).toNat]? = (l.take i)[(down (l.take i) l[i].core (l.take i).length).toNat]? := by
          rw [List.getElem?_take, List.getElem?_take, List.getElem?_set_ne (fun e => hjk e.symm)]
        rw [e]
        exact p6
theorem okE_snoc {l : List Event} (h : ∀ i, ∀ hi : i < l.length, evB l[i] (l.take i) = true) {s : Event} (hs : evB s l = true) : ∀ i, ∀ hi : i < (l ++ [s]).length, evB (l ++ [s])[i] ((l ++ [s]).take i) = true := by
  intro i hi
  rw [List.length_append, List.length_cons, List.length_nil] at hi
  by_cases hil : i < l.length
  · rw [List.getElem_append_left hil, List.take_append_of_le_length (by omega)]
    exact h i hil
  · have e : i = l.length := by omega
    subst e
    simpa using hs
theorem inv_keeps {h : H} (hok : Ok h) (c : Int) (x : Call) (now : Int) : Ok (inv h c x now).1 := by
  rcases inv_cases h c x now with ⟨_, h1⟩ | ⟨h1, h2, h3, h4, h5, h6⟩
  · rw [h1]; exact hok
  · rw [h1]
    exact ⟨okS_snoc hok.1 (by rw [spanB0 c x now _ h3 (by omega) h5]; exact h6), hok.2⟩
theorem ans_keeps {h : H} (hok : Ok h) (c : Int) (r : Rep) (now : Int) : Ok (ans h c r now).1 := by
  rcases ans_cases h c r now with ⟨_, h1⟩ | ⟨_, k, hk, hd, hen, hp, hst, h1⟩
  · rw [h1]; exact hok
  · rw [h1]
    exact ⟨okS_set hok.1 hk hd hst, hok.2⟩
theorem note_keeps {h : H} (hok : Ok h) (e : Event) : Ok (note h e).1 := by
  rcases note_cases h e with ⟨_, h1⟩ | ⟨h1, h2, h3⟩
  · rw [h1]; exact hok
  · rw [h1]
    exact ⟨hok.1, okE_snoc hok.2 h3⟩
theorem does_keeps {h : H} (hok : Ok h) (a : Act) : Ok (does h a).1 := by
  unfold does
  split
  · exact inv_keeps hok _ _ _
  · split
    · exact ans_keeps hok _ _ _
    · exact note_keeps hok _
end Hist
end Go.AI
