/-
  Own work. The histories' functions: what is recorded, on both sides.
-/
import Derived.Test.YtfnnhfghggfccaaHist5
namespace Go.AI
open Go
set_option linter.unusedVariables false
set_option linter.unusedSimpArgs false
namespace Hist
open Kit
theorem ref_inv_ok (h : H) (c : Int) (x : Call) (now : Int) (hl : h.sp.length < 1000) (he : h.ev.length < 1000000) : ref18_Invoke.R (h.sp.map encSpan) (h.ev.map encEv) c x.kind x.a x.b x.rights x.badge x.ty x.size x.value now = some (encRes (inv h c x now)) := by
  refine ref18_Invoke.start _ _ _ _ _ _ _ _ _ _ _ _ _ ?_
  simp only [is_ok h (by omega) he, optAll_so, ref_core_ok]
  unfold inv
  by_cases h0 : ¬ Ok h
  · rw [if_pos h0, decide_eq_false h0]; rfl
  have h0' : Ok h := Decidable.not_not.1 h0
  rw [decide_eq_true h0', if_neg h0]
  by_cases h1 : ¬ isCore c
  · rw [if_pos h1, decide_eq_false h1]; rfl
  have h1' : isCore c := Decidable.not_not.1 h1
  rw [if_neg h1, decide_eq_true h1']
  by_cases h2 : now < 1
  · rw [if_pos h2, decide_eq_true h2]; rfl
  rw [if_neg h2, decide_eq_false h2]
  have hb : (h.sp.length * 120 ≤ 140737488355328 ∧ h.sp.length * 15 ≤ 140737488355328) := by omega
  have hb2 : ((h.sp.map encSpan ++ [encSpan (sp0 c x now)]).length * 120 ≤ 140737488355328 ∧ (h.sp.map encSpan ++ [encSpan (sp0 c x now)]).length * 15 ≤ 140737488355328) := by simp; omega
  simp only [Bool.not_true, cond_false, ← enc0 c x now, List.take_succ_cons, List.take_zero, List.take_length, List.length_map, last_ok h.sp c h.sp.length (Nat.le_refl _) (by omega), optAll_so]
  by_cases h3 : h.sp.length = 0
  · have h3' : h.sp = [] := List.length_eq_zero_iff.1 h3
    have hm : monoB h.sp now = true := by rw [h3']; rfl
    have hf : freeB h.sp c now = true := by rw [h3']; rfl
    have hd : decide (down h.sp c h.sp.length ≥ 0) = false := by rw [h3']; rfl
    rw [hm, hf, decide_eq_false (by omega), hd]
    simp only [cond_false, Bool.not_true, needs_iff, Bool.true_eq_false, if_false]
    refine ⟨hb, trivial, hb2, ?_⟩
    simp [encRes]
  · have hw : IntKind.i64.wrap ((h.sp.length : Int) - 1) = ((h.sp.length - 1 : Nat) : Int) := wrap_pred (by omega) (by omega)
    have hm : monoB h.sp now = !decide (now < h.sp[h.sp.length - 1].st) := by
      unfold monoB
      rw [List.getElem?_eq_getElem (by omega)]
      rw [Bool.eq_iff_iff]; simp
    rw [decide_eq_true (show (h.sp.length : Int) > 0 by omega)]
    simp only [hw, needs_nat, Int.toNat_natCast, map_get _ _ _ (show h.sp.length - 1 < h.sp.length by omega), optAll_so, s9, cond_true]
    by_cases h4 : now < h.sp[h.sp.length - 1].st
    · rw [decide_eq_true h4] at hm ⊢
      rw [hm]; rfl
    · rw [decide_eq_false h4] at hm ⊢
      rw [hm]
      rcases down_cases h.sp c with ⟨hd, hp⟩ | ⟨k, hk, hd, hp⟩
      · have hf : freeB h.sp c now = true := by unfold freeB; rw [hp]; rfl
        rw [hf, decide_eq_false (show ¬ down h.sp c h.sp.length ≥ 0 by omega)]
        simp only [cond_false, Bool.not_false, needs_iff, Bool.true_eq_false, if_false]
        refine ⟨hb, trivial, hb2, ?_⟩
        simp [encRes]
      · have hf : freeB h.sp c now = (!(h.sp[k].en == 0) && !decide (h.sp[k].en ≥ now)) := by
          unfold freeB; rw [hp]
          rw [Bool.eq_iff_iff]; simp
        rw [hf, hd, decide_eq_true (show (k : Int) ≥ 0 by omega)]
        simp only [cond_true, cond_false, needs_nat, Int.toNat_natCast, map_get _ _ _ hk, optAll_so, s10]
        generalize (h.sp[k].en == 0) = q
        cases q
        · generalize decide (h.sp[k].en ≥ now) = q
          cases q
          · simp only [cond_false, Bool.not_false, Bool.and_true, needs_iff, Bool.true_eq_false, if_false]
            refine ⟨hb, trivial, hb2, ?_⟩
            simp [encRes]
          · rfl
        · rfl
theorem done_put (s : Span) (r : Rep) (now : Int) : putD (putD (encSpan s) 10 [.v (.int .i64 now)]) 11 [.v (.int .i64 r.code), .v (.int .i64 r.value), .v (.int .i64 r.badge), .v (.bool r.cap)] = encSpan (done s r now) := rfl
theorem ans_ok (h : H) (c : Int) (r : Rep) (now : Int) (hl : h.sp.length < 1000) (he : h.ev.length < 1000000) : hist_Answer.R (h.sp.map encSpan) (h.ev.map encEv) c r.code r.value r.badge r.cap now = some (encRes (ans h c r now)) := by
  refine hist_Answer.start _ _ _ _ _ _ _ _ _ ?_
  simp only [check_ok h (by omega) he, pend_ok h c (by omega), optAll_so]
  unfold ans
  by_cases h0 : ¬ Ok h
  · rw [if_neg h0, if_pos h0]; rfl
  have h0' : Ok h := Decidable.not_not.1 h0
  rw [if_pos h0', if_neg h0]
  rcases pend_cases h.sp c with hp | ⟨k, hk, hd, hen, hp⟩
  · rw [hp]; rfl
  · rw [hp]
    have hg : ((h.sp.map encSpan).set k (putD (encSpan h.sp[k]) 10 [.v (.int .i64 now)]))[k]? = some (putD (encSpan h.sp[k]) 10 [.v (.int .i64 now)]) := by
      rw [List.getElem?_set]; simp [hk]
    simp only [bne_self_eq_false, Bool.not_true, cond_false, needs_nat, Int.toNat_natCast, map_get _ _ _ hk, optAll_so, s9, Nat.zero_add, hg, List.set_set, done_put, List.getElem?_eq_getElem hk]
    by_cases h2 : now < h.sp[k].st
    · rw [if_pos h2, decide_eq_true h2]; rfl
    rw [if_neg h2, decide_eq_false h2]
    simp only [cond_false, needs_iff, List.length_map, Bool.true_eq_false, if_false]
    refine ⟨by omega, by omega, by simp [encSpan], by omega, by simp [encSpan, putD], ?_⟩
    rw [← List.map_set, List.take_of_length_le (by simp)]
    rfl
theorem ref_ans_ok (h : H) (c : Int) (r : Rep) (now : Int) (hl : h.sp.length < 1000) (he : h.ev.length < 1000000) : ref18_Answer.R (h.sp.map encSpan) (h.ev.map encEv) c r.code r.value r.badge r.cap now = some (encRes (ans h c r now)) := by
  refine ref18_Answer.start _ _ _ _ _ _ _ _ _ ?_
  simp only [is_ok h (by omega) he, ref_pend_ok h c (by omega), optAll_so]
  unfold ans
  by_cases h0 : ¬ Ok h
  · rw [decide_eq_false h0, if_pos h0]; rfl
  have h0' : Ok h := Decidable.not_not.1 h0
  rw [decide_eq_true h0', if_neg h0]
  rcases pend_cases h.sp c with hp | ⟨k, hk, hd, hen, hp⟩
  · rw [hp]; rfl
  · rw [hp]
    have hg : ((h.sp.map encSpan).set k (putD (encSpan h.sp[k]) 10 [.v (.int .i64 now)]))[k]? = some (putD (encSpan h.sp[k]) 10 [.v (.int .i64 now)]) := by
      rw [List.getElem?_set]; simp [hk]
    simp only [Bool.not_true, cond_false, needs_nat, Int.toNat_natCast, map_get _ _ _ hk, optAll_so, s9, Nat.zero_add, hg, List.set_set, done_put, List.getElem?_eq_getElem hk]
    by_cases h2 : now < h.sp[k].st
    · rw [if_pos h2, decide_eq_true h2]; rfl
    rw [if_neg h2, decide_eq_false h2]
    simp only [cond_false, needs_iff, List.length_map, Bool.true_eq_false, if_false]
    refine ⟨by omega, by omega, by simp [encSpan], by omega, by simp [encSpan, putD], ?_⟩
    rw [← List.map_set, List.take_of_length_le (by simp)]
    rfl
theorem encE (e : Event) : encEv e = [.v (.int .i64 e.kind), .v (.int .i64 e.core), .v (.int .i64 e.call.kind), .v (.int .u64 e.call.a), .v (.int .u64 e.call.b), .v (.int .i64 e.call.rights), .v (.int .i64 e.call.badge), .v (.int .i64 e.call.ty), .v (.int .i64 e.call.size), .v (.int .i64 e.call.value), .v (.int .i64 e.stamp), .lst 5 (e.dones.map encDon)] := rfl
theorem note_ok (h : H) (e : Event) (hl : h.sp.length < 1000) (he : h.ev.length < 1000) : hist_Note.R (h.sp.map encSpan) (h.ev.map encEv) e.kind e.core e.call.kind e.call.a e.call.b e.call.rights e.call.badge e.call.ty e.call.size e.call.value e.stamp (e.dones.map encDon) = some (encRes (note h e)) := by
  refine hist_Note.start _ _ _ _ _ _ _ _ _ _ _ _ _ _ _ ?_
  simp only [check_ok h (by omega) (by omega), optAll_so, isEvent_ok e h.ev (by omega)]
  unfold note
  by_cases h0 : ¬ Ok h
  · rw [if_neg h0, if_pos h0]; rfl
  have h0' : Ok h := Decidable.not_not.1 h0
  rw [if_pos h0', if_neg h0]
  by_cases h1 : evB e h.ev = true
  · rw [h1]
    simp only [bne_self_eq_false, Bool.not_true, cond_false, ← encE, List.take_succ_cons, List.take_zero, List.take_length, needs_iff, Bool.true_eq_false, if_false]
    refine ⟨by simp; omega, trivial, by simp; omega, ?_⟩
    simp [encRes]
  · have h1' : evB e h.ev = false := by simpa using h1
    rw [h1']; rfl
theorem ref_note_ok (h : H) (e : Event) (hl : h.sp.length < 1000) (he : h.ev.length < 1000) : ref18_Note.R (h.sp.map encSpan) (h.ev.map encEv) e.kind e.core e.call.kind e.call.a e.call.b e.call.rights e.call.badge e.call.ty e.call.size e.call.value e.stamp (e.dones.map encDon) = some (encRes (note h e)) := by
  refine ref18_Note.start _ _ _ _ _ _ _ _ _ _ _ _ _ _ _ ?_
  simp only [is_ok h (by omega) (by omega), optAll_so, ref_core_ok]
  unfold note
  by_cases h0 : ¬ Ok h
  · rw [decide_eq_false h0, if_pos h0]; rfl
  have h0' : Ok h := Decidable.not_not.1 h0
  rw [decide_eq_true h0', if_neg h0, evB_eq]
  have hb : (h.ev.map encEv).length * 112 ≤ 140737488355328 ∧ (h.ev.map encEv).length * 12 ≤ 140737488355328 := by simp; omega
  have hb2 : (h.ev.map encEv ++ [encEv e]).length * 112 ≤ 140737488355328 ∧ (h.ev.map encEv ++ [encEv e]).length * 12 ≤ 140737488355328 := by simp; omega
  simp only [← encE, List.take_succ_cons, List.take_zero, List.take_length, Bool.not_true, cond_false]
  generalize decide (e.kind < 0) = q; cases q <;> try rfl
  generalize decide (e.kind > 3) = q; cases q <;> try rfl
  generalize decide (isCore e.core) = q; cases q
  · rfl
  generalize decide (e.stamp < 1) = q; cases q <;> try rfl
  by_cases h3 : h.ev.length = 0
  · have h3' : h.ev = [] := List.length_eq_zero_iff.1 h3
    have hm : ((h.ev)[h.ev.length - 1]?).all (fun x => !decide (e.stamp ≤ x.stamp)) = true := by rw [h3']; rfl
    rw [hm, decide_eq_false (by simp [h3'])]
    simp only [cond_false, Bool.not_false, Bool.not_true, Bool.and_true, needs_iff, Bool.true_eq_false, if_false]
    refine ⟨hb, trivial, hb2, ?_⟩
    simp [encRes]
  · have hw : IntKind.i64.wrap ((h.ev.length : Int) - 1) = ((h.ev.length - 1 : Nat) : Int) := wrap_pred (by omega) (by omega)
    have hm : ((h.ev)[h.ev.length - 1]?).all (fun x => !decide (e.stamp ≤ x.stamp)) = !decide (e.stamp ≤ h.ev[h.ev.length - 1].stamp) := by
      rw [List.getElem?_eq_getElem (by omega)]; rfl
    rw [hm, decide_eq_true (show ((h.ev.map encEv).length : Int) > 0 by simp; omega)]
    rw [List.length_map] at hb
    simp only [List.length_map, hw, needs_nat, Int.toNat_natCast, map_get _ _ _ (show h.ev.length - 1 < h.ev.length by omega), optAll_so, e10, cond_true]
    generalize decide (e.stamp ≤ h.ev[h.ev.length - 1].stamp) = q; cases q
    · simp only [cond_false, Bool.not_false, Bool.not_true, Bool.and_true, needs_iff, Bool.true_eq_false, if_false]
      refine ⟨hb, trivial, hb2, ?_⟩
      simp [encRes]
    · rfl
end Hist
end Go.AI
