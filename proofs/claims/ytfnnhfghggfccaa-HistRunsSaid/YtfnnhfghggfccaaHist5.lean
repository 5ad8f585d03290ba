/-
  Own work. The histories' functions: the document's 'Same'; the open span; what is recorded.
-/
import Derived.Test.YtfnnhfghggfccaaHist4
namespace Go.AI
open Go
set_option linter.unusedVariables false
set_option linter.unusedSimpArgs false
namespace Hist
open Kit
theorem eq_loop2 {α : Type} (a b : List α) (hl : a.length = b.length) (H : Int → Prop) (fin : a = b → H a.length)
    (step : ∀ i : Nat, ∀ h : i < a.length, (a[i] = b[i]'(by omega) → H ((i + 1 : Nat) : Int)) → (a[i] ≠ b[i]'(by omega) → a ≠ b) → H i) : H 0 := by
  have key : ∀ n i : Nat, i + n = a.length → a.take i = b.take i → H i := by
    intro n
    induction n with
    | zero =>
      intro i hi ht
      rw [List.take_of_length_le (by omega), List.take_of_length_le (by omega)] at ht
      rw [show i = a.length by omega]
      exact fin ht
    | succ n ih =>
      intro i hi ht
      refine step i (by omega) (fun he => ih (i + 1) (by omega) ?_) fun hne e => ?_
      · rw [List.take_succ_eq_append_getElem (by omega), List.take_succ_eq_append_getElem (by omega), ht, he]
      · subst e; exact hne rfl
  exact key a.length 0 (by omega) rfl
theorem ref_same_ok (a b : H) (ha : a.sp.length < 1000000) (he : a.ev.length < 1000000) (hd : fewDones a.ev) : ref18_Same.R (a.sp.map encSpan) (a.ev.map encEv) (b.sp.map encSpan) (b.ev.map encEv) = some (decide (a = b), ()) := by
  refine ref18_Same.start _ _ _ _ _ ?_
  simp only [List.length_map, cond_ite, bne_iff_ne]
  by_cases hl : a.sp.length = b.sp.length
  · by_cases hle : a.ev.length = b.ev.length
    · rw [if_neg (by omega), if_neg (by omega)]
      refine eq_loop2 a.sp b.sp hl (fun i => ref18_Same.H5 i (a.sp.map encSpan) (a.ev.map encEv) (b.sp.map encSpan) (b.ev.map encEv) (decide (a = b), ())) (fun hsp => ?_) fun i hi h1 h2 => ?_
      · refine ref18_Same.H5_step _ _ _ _ _ _ ?_
        simp only [List.length_map, cond_ite, decide_eq_true_eq]
        rw [if_neg (by omega)]
        refine eq_loop2 a.ev b.ev hle (fun i => ref18_Same.H10 i (a.sp.map encSpan) (a.ev.map encEv) (b.sp.map encSpan) (b.ev.map encEv) (decide (a = b), ())) (fun hev => ?_) fun i hi h1 h2 => ?_
        · refine ref18_Same.H10_step _ _ _ _ _ _ ?_
          simp only [List.length_map, cond_ite, decide_eq_true_eq]
          rw [if_neg (by omega), decide_eq_true ((eqH a b).1 ⟨hsp, hev⟩)]
        · refine ref18_Same.H10_step _ _ _ _ _ _ ?_
          have hne : a.ev[i] ≠ b.ev[i] → decide (a = b) = false := fun hn => decide_eq_false fun e => h2 hn (by rw [e])
          have hx := eqEv a.ev[i] b.ev[i]
          simp only [List.length_map, cond_ite, decide_eq_true_eq, needs_nat, Int.toNat_natCast, map_get _ _ _ hi, map_get _ _ _ (hle ▸ hi), optAll_so, e0, e1, e2, e3, e4, e5, e6, e7, e8, e9, e10, e11, eqCall, dones_ok _ _ (hd _ (List.getElem_mem hi)), Bool.not_eq_true', decide_eq_false_iff_not, bne_iff_ne, wrap_succ (show i < 4611686018427387904 by omega)]
          rw [if_pos (by omega)]
          by_cases q1 : a.ev[i].kind = b.ev[i].kind
          · by_cases q2 : a.ev[i].core = b.ev[i].core
            · by_cases q3 : a.ev[i].call = b.ev[i].call
              · by_cases q4 : a.ev[i].stamp = b.ev[i].stamp
                · by_cases q5 : a.ev[i].dones = b.ev[i].dones
                  · rw [if_neg (by simp [q1]), if_neg (by simp [q2]), if_neg (by simp [q3]), if_neg (by simp [q4]), if_neg (by simp [q5])]
                    exact h1 (hx.1 ⟨q1, q2, q3, q4, q5⟩)
                  · rw [if_neg (by simp [q1]), if_neg (by simp [q2]), if_neg (by simp [q3]), if_neg (by simp [q4]), if_pos (by simp [q5]), hne fun e => q5 (hx.2 e).2.2.2.2]
                · rw [if_neg (by simp [q1]), if_neg (by simp [q2]), if_neg (by simp [q3]), if_pos (by simp [q4]), hne fun e => q4 (hx.2 e).2.2.2.1]
              · rw [if_neg (by simp [q1]), if_neg (by simp [q2]), if_pos (by simp [q3]), hne fun e => q3 (hx.2 e).2.2.1]
            · rw [if_neg (by simp [q1]), if_pos (by simp [q2]), hne fun e => q2 (hx.2 e).2.1]
          · rw [if_pos (by simp [q1]), hne fun e => q1 (hx.2 e).1]
      · refine ref18_Same.H5_step _ _ _ _ _ _ ?_
        simp only [List.length_map, cond_ite, decide_eq_true_eq, needs_nat, Int.toNat_natCast, map_get _ _ _ hi, map_get _ _ _ (hl ▸ hi), optAll_so, s0, s1, s2, s3, s4, s5, s6, s7, s8, s9, s10, s11, s12, s13, s14, eqSpan, Bool.not_eq_true', decide_eq_false_iff_not, wrap_succ (show i < 4611686018427387904 by omega)]
        rw [if_pos (by omega)]
        split
        · rename_i hn
          rw [decide_eq_false fun e : a = b => h2 hn (by rw [e])]
        · rename_i h; exact h1 (Decidable.not_not.1 h)
    · rw [if_neg (by omega), if_pos (by omega), decide_eq_false]
      intro e; subst e; exact hle rfl
  · rw [if_pos (by omega), decide_eq_false]
    intro e; subst e; exact hl rfl
/-- A core's open span. -/
def pend (l : List Span) (c : Int) : Int × Bool :=
  match prevOf l c with
  | none => (0, false)
  | some x => if x.en ≠ 0 then (0, false) else (down l c l.length, true)
theorem pend_cases (l : List Span) (c : Int) : pend l c = (0, false) ∨ ∃ k : Nat, ∃ h : k < l.length, down l c l.length = k ∧ l[k].en = 0 ∧ pend l c = ((k : Int), true) := by
  unfold pend
  rcases down_cases l c with ⟨hd, hp⟩ | ⟨k, hk, hd, hp⟩
  · rw [hp]; exact .inl rfl
  · rw [hp]
    by_cases h : l[k].en = 0
    · refine .inr ⟨k, hk, hd, h, ?_⟩
      simp [h, hd]
    · exact .inl (by simp [h])
theorem pend_ok (h : H) (c : Int) (hl : h.sp.length < 1000000) (ev : List (List DV)) : hist_Pending.R (h.sp.map encSpan) ev c = some ((pend h.sp c).1, ((pend h.sp c).2, ())) := by
  refine hist_Pending.start _ _ _ _ ?_
  simp only [of_ok _ _ hl, optAll_so]
  unfold pend
  rcases down_cases h.sp c with ⟨hd, hp⟩ | ⟨k, hk, hd, hp⟩
  · rw [hp, decide_eq_true hd]; rfl
  · rw [hp, hd, decide_eq_false (by omega)]
    simp only [cond_false, needs_nat, Int.toNat_natCast, map_get _ _ _ hk, optAll_so, s10, cond_ite, bne_iff_ne]
    split <;> simp [*]
theorem ref_pend_ok (h : H) (c : Int) (hl : h.sp.length < 1000000) (ev : List (List DV)) : ref18_Pending.R (h.sp.map encSpan) ev c = some ((pend h.sp c).1, ((pend h.sp c).2, ())) := by
  refine ref18_Pending.start _ _ _ _ ?_
  simp only [List.length_map, last_ok h.sp c h.sp.length (Nat.le_refl _) hl, optAll_so]
  unfold pend
  rcases down_cases h.sp c with ⟨hd, hp⟩ | ⟨k, hk, hd, hp⟩
  · rw [hp, decide_eq_true hd]; rfl
  · rw [hp, hd, decide_eq_false (by omega)]
    simp only [cond_false, needs_nat, Int.toNat_natCast, map_get _ _ _ hk, optAll_so, s10, s0, s1, s2, s3, s4, s5, s6, s7, s8, s9, s11, s12, s13, s14, cond_ite, bne_iff_ne]
    split <;> simp [*]
/-! What is recorded. -/
def sp0 (c : Int) (x : Call) (now : Int) : Span := ⟨c, x, now, 0, rep0⟩
def inv (h : H) (c : Int) (x : Call) (now : Int) : H × Int :=
  if ¬ Ok h then (h, 180)
  else if ¬ isCore c then (h, 2)
  else if now < 1 then (h, 2)
  else if monoB h.sp now = false then (h, 2)
  else if freeB h.sp c now = false then (h, 8)
  else (⟨h.sp ++ [sp0 c x now], h.ev⟩, 0)
def done (s : Span) (r : Rep) (now : Int) : Span := ⟨s.core, s.call, s.st, now, r⟩
def ans (h : H) (c : Int) (r : Rep) (now : Int) : H × Int :=
  if ¬ Ok h then (h, 180)
  else if (pend h.sp c).2 = false then (h, 7)
  else match h.sp[(pend h.sp c).1.toNat]? with
    | none => (h, 7)
    | some s => if now < s.st then (h, 2) else (⟨h.sp.set (pend h.sp c).1.toNat (done s r now), h.ev⟩, 0)
def note (h : H) (e : Event) : H × Int :=
  if ¬ Ok h then (h, 180)
  else if evB e h.ev = false then (h, 2)
  else (⟨h.sp, h.ev ++ [e]⟩, 0)
abbrev ResT := (List (List DV) × (List (List DV) × Unit)) × (Int × Unit)
def encRes (r : H × Int) : ResT := ((r.1.sp.map encSpan, (r.1.ev.map encEv, ())), (r.2, ()))
theorem enc0 (c : Int) (x : Call) (now : Int) : encSpan (sp0 c x now) = [.v (.int .i64 c), .v (.int .i64 x.kind), .v (.int .u64 x.a), .v (.int .u64 x.b), .v (.int .i64 x.rights), .v (.int .i64 x.badge), .v (.int .i64 x.ty), .v (.int .i64 x.size), .v (.int .i64 x.value), .v (.int .i64 now), .v (.int .i64 0), .v (.int .i64 0), .v (.int .i64 0), .v (.int .i64 0), .v (.bool false)] := rfl
theorem spanB0 (c : Int) (x : Call) (now : Int) (l : List Span) (h1 : isCore c) (h2 : ¬ now < 1) (h3 : monoB l now = true) : spanB (sp0 c x now) l = freeB l c now := by
  rw [spanB_eq]
  have e1 : decide (isCore c) = true := decide_eq_true h1
  have e2 : decide (now < 1) = false := decide_eq_false h2
  show (decide (isCore c) && (!decide (now < 1) && (monoB l now && (((0 : Int) == 0 || _) && ((!((0 : Int) == 0) || decide (rep0 = rep0)) && freeB l c now))))) = _
  rw [e1, e2, h3]
  simp
theorem inv_ok (h : H) (c : Int) (x : Call) (now : Int) (hl : h.sp.length < 1000) (he : h.ev.length < 1000000) : hist_Invoke.R (h.sp.map encSpan) (h.ev.map encEv) c x.kind x.a x.b x.rights x.badge x.ty x.size x.value now = some (encRes (inv h c x now)) := by
  refine hist_Invoke.start _ _ _ _ _ _ _ _ _ _ _ _ _ ?_
  have hsp : hist_isSpan.R c x.kind x.a x.b x.rights x.badge x.ty x.size x.value now 0 0 0 0 false (h.sp.map encSpan) = some (spanB (sp0 c x now) h.sp, ()) := isSpan_ok (sp0 c x now) h.sp (by omega)
  simp only [check_ok h (by omega) he, optAll_so, core_ok, hsp]
  unfold inv
  by_cases h0 : ¬ Ok h
  · rw [if_neg h0, if_pos h0]; rfl
  have h0' : Ok h := Decidable.not_not.1 h0
  rw [if_pos h0', if_neg h0]
  by_cases h1 : ¬ isCore c
  · rw [if_pos h1, decide_eq_false h1]; rfl
  have h1' : isCore c := Decidable.not_not.1 h1
  rw [if_neg h1, decide_eq_true h1']
  by_cases h2 : now < 1
  · rw [if_pos h2, decide_eq_true h2]; rfl
  rw [if_neg h2, decide_eq_false h2]
  have hb : ((h.sp.map encSpan).length * 120 ≤ 140737488355328 ∧ (h.sp.map encSpan).length * 15 ≤ 140737488355328) := by simp; omega
  simp only [bne_self_eq_false, Bool.not_true, cond_false, ← enc0 c x now, List.take_succ_cons, List.take_zero, List.take_length]
  have hb2 : ((h.sp.map encSpan ++ [encSpan (sp0 c x now)]).length * 120 ≤ 140737488355328 ∧ (h.sp.map encSpan ++ [encSpan (sp0 c x now)]).length * 15 ≤ 140737488355328) := by simp; omega
  by_cases h3 : h.sp.length = 0
  · have h3' : h.sp = [] := List.length_eq_zero_iff.1 h3
    have hm : monoB h.sp now = true := by rw [h3']; rfl
    have hf : freeB h.sp c now = true := by rw [h3']; rfl
    rw [spanB0 c x now _ h1' h2 hm, hm, hf, decide_eq_false (by simp [h3'])]
    simp only [cond_false, Bool.not_true, needs_iff, Bool.true_eq_false, if_false]
    refine ⟨hb, trivial, hb2, ?_⟩
    simp [encRes]
  · have hw : IntKind.i64.wrap ((h.sp.length : Int) - 1) = ((h.sp.length - 1 : Nat) : Int) := wrap_pred (by omega) (by omega)
    have hm : monoB h.sp now = !decide (now < h.sp[h.sp.length - 1].st) := by
      unfold monoB
      rw [List.getElem?_eq_getElem (by omega)]
      rw [Bool.eq_iff_iff]; simp
    rw [decide_eq_true (show ((h.sp.map encSpan).length : Int) > 0 by simp; omega)]
    simp only [List.length_map, hw, needs_nat, Int.toNat_natCast, map_get _ _ _ (show h.sp.length - 1 < h.sp.length by omega), optAll_so, s9, cond_true]
    by_cases h4 : now < h.sp[h.sp.length - 1].st
    · rw [decide_eq_true h4] at hm ⊢
      rw [hm]; rfl
    · rw [decide_eq_false h4] at hm ⊢
      rw [hm, spanB0 c x now _ h1' h2 hm]
      by_cases h5 : freeB h.sp c now = true
      · rw [h5]
        rw [List.length_map] at hb
        simp only [cond_false, Bool.not_true, Bool.not_false, needs_iff, Bool.true_eq_false, if_false]
        refine ⟨hb, trivial, hb2, ?_⟩
        simp [encRes]
      · have h5' : freeB h.sp c now = false := by simpa using h5
        rw [h5']; rfl
end Hist
end Go.AI
