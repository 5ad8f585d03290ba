/-
  Own work. The epochs' functions: the document's steps; what is done.
-/
import Derived.Test.YtljhobohpnpedaaEpoch2
namespace Go.AI
open Go
set_option linter.unusedVariables false
set_option linter.unusedSimpArgs false
namespace Epoch
open Kit
theorem rpin_ok (e : E) (c p : Int) (hs : Small e) (hc : 0 ≤ c ∧ c < e.pins.length) : ref11_pin.R e.now (e.pins.map ei) (e.limbo.map encL) c p = some (tE (pinE e c p), ()) := by
  refine ref11_pin.start _ _ _ _ _ _ ?_
  have hi : c.toNat < e.pins.length := by omega
  have h1 := hs.pins
  simp only [List.length_map, Nat.zero_add, map_get _ _ _ hi, optAll_so, needs_iff]
  refine ⟨by omega, hc, Nat.le_refl _, ?_⟩
  have e1 : (e.pins.map ei).set c.toNat (putD (ei e.pins[c.toNat]) 0 [.v (.int .i64 p)]) = (e.pins.set c.toNat p).map ei := by rw [List.map_set]; rfl
  rw [e1, show e.pins.length = (e.pins.set c.toNat p).length by simp, take_map_len]
  rfl
theorem rlimbo_ok (e : E) (c : Int) (l : List Ws) (hs : Small e) (hc : 0 ≤ c ∧ c < e.limbo.length) : ref11_limbo.R e.now (e.pins.map ei) (e.limbo.map encL) c (l.map encW) = some (tE (limE e c l), ()) := by
  refine ref11_limbo.start _ _ _ _ _ _ ?_
  have hi : c.toNat < e.limbo.length := by omega
  have h1 := hs.limbo
  simp only [List.length_map, Nat.zero_add, map_get _ _ _ hi, optAll_so, needs_iff]
  refine ⟨by omega, hc, Nat.le_refl _, ?_⟩
  have e1 : (e.limbo.map encL).set c.toNat (putD (encL e.limbo[c.toNat]) 0 [.lst 2 (l.map encW)]) = (e.limbo.set c.toNat l).map encL := by rw [List.map_set]; rfl
  rw [e1, show e.limbo.length = (e.limbo.set c.toNat l).length by simp, take_map_len]
  rfl
theorem rpinS_ok (e : E) (c : Int) (hs : Small e) : ref11_Pin.R e.now (e.pins.map ei) (e.limbo.map encL) c = some (tS (pinS e c)) := by
  refine ref11_Pin.start _ _ _ _ _ ?_
  simp only [rcore_ok e c hs, optAll_so]
  unfold pinS
  cases hh : has e c
  · rfl
  · obtain ⟨h1, h2, h3⟩ := has_parts hh
    have hi : c.toNat < e.pins.length := by omega
    have hp := good_parts h3
    have hw : IntKind.i64.wrap (e.now + 1) = e.now + 1 := wrap_id (by omega) (by omega)
    have ha : at' e.pins c = e.pins[c.toNat] := by unfold at'; simp [List.getD, hi]
    simp only [Bool.not_true, cond_false, map_get _ _ _ hi, optAll_so, n0_, hw, rpin_ok e c _ hs ⟨h1, h2⟩, needs_iff]
    refine ⟨h1, ?_⟩
    rw [if_neg (by decide), ha]
    by_cases h4 : e.pins[c.toNat] = 0
    · rw [if_neg (fun e => e h4), show (e.pins[c.toNat] != 0) = false by simpa using h4]; rfl
    · rw [if_pos h4, show (e.pins[c.toNat] != 0) = true by simpa using h4]; rfl
theorem runpinS_ok (e : E) (c : Int) (hs : Small e) : ref11_Unpin.R e.now (e.pins.map ei) (e.limbo.map encL) c = some (tS (unpinS e c)) := by
  refine ref11_Unpin.start _ _ _ _ _ ?_
  simp only [rcore_ok e c hs, optAll_so]
  unfold unpinS
  cases hh : has e c
  · rfl
  · obtain ⟨h1, h2, h3⟩ := has_parts hh
    have hi : c.toNat < e.pins.length := by omega
    have ha : at' e.pins c = e.pins[c.toNat] := by unfold at'; simp [List.getD, hi]
    simp only [Bool.not_true, cond_false, map_get _ _ _ hi, optAll_so, n0_, rpin_ok e c _ hs ⟨h1, h2⟩, needs_iff]
    refine ⟨h1, ?_⟩
    rw [if_neg (by decide), ha]
    by_cases h4 : e.pins[c.toNat] = 0
    · rw [if_pos h4, show (e.pins[c.toNat] == 0) = true by simpa using h4]; rfl
    · rw [if_neg h4, show (e.pins[c.toNat] == 0) = false by simpa using h4]; rfl
theorem rretS_ok (e : E) (c o : Int) (hs : Small e) : ref11_Retire.R e.now (e.pins.map ei) (e.limbo.map encL) c o = some (tS (retS e c o)) := by
  refine ref11_Retire.start _ _ _ _ _ _ ?_
  simp only [rcore_ok e c hs, optAll_so]
  unfold retS
  cases hh : has e c
  · rw [if_pos (.inr (.inr rfl))]; rfl
  simp only [Bool.not_true, cond_false]
  by_cases h1 : o < 0
  · rw [decide_eq_true h1, if_pos (.inl h1)]; rfl
  rw [decide_eq_false h1]
  by_cases h2 : o ≥ 64
  · rw [decide_eq_true h2, if_pos (.inr (.inl h2))]; rfl
  rw [decide_eq_false h2]
  rw [if_neg (show ¬ (o < 0 ∨ o ≥ 64 ∨ true = false) from fun h => by rcases h with h | h | h <;> first | exact h1 h | exact h2 h | cases h)]
  obtain ⟨h3, h4, h5⟩ := has_parts hh
  have hp := good_parts h5
  have hi : c.toNat < e.limbo.length := by omega
  have ha : atL e.limbo c = e.limbo[c.toNat] := by unfold atL; simp [List.getD, hi]
  have hll := hs.lists _ (List.getElem_mem hi)
  have hT : ∀ l : List Ws, (l.map encW ++ [encW ⟨o, e.now⟩]).take (l.map encW ++ [encW ⟨o, e.now⟩]).length = (l ++ [(⟨o, e.now⟩ : Ws)]).map encW := fun l => by rw [List.take_length, List.map_append]; rfl
  have e0 : ([.v (.int .i64 o), .v (.int .i64 e.now)] : List DV) = encW ⟨o, e.now⟩ := rfl
  simp only [cond_false, map_get _ _ _ hi, optAll_so, l0_, List.length_map, List.take_succ_cons, List.take_zero, e0, hT, rlimbo_ok e c _ hs ⟨h3, by omega⟩, needs_iff, ha]
  refine ⟨h3, ?_⟩
  by_cases h6 : 8 ≤ (e.limbo[c.toNat]).length
  · rw [if_pos h6, decide_eq_true (by omega)]; rfl
  · rw [if_neg h6, decide_eq_false (by omega)]
    simp only [cond_false, List.length_append, List.length_map, List.length_cons, List.length_nil]
    exact ⟨h3, by omega, trivial, by omega, rfl⟩
theorem allOK_pins {now : Int} : ∀ {ps : List Int} {ls : List (List Ws)}, ls.length = ps.length → (allOK now ps ls = true ↔ (∀ p ∈ ps, pinOK now p = true) ∧ ∀ l ∈ ls, limbo? l now = true)
  | [], [], _ => by simp [allOK]
  | [], l :: ls, h => by simp at h
  | p :: ps, [], h => by simp at h
  | p :: ps, l :: ls, h => by
    simp only [allOK, Bool.and_eq_true, allOK_pins (ps := ps) (ls := ls) (by simpa using h), List.mem_cons, forall_eq_or_imp]
    constructor
    · rintro ⟨⟨h1, h2⟩, h3, h4⟩; exact ⟨⟨h1, h3⟩, h2, h4⟩
    · rintro ⟨⟨h1, h3⟩, h2, h4⟩; exact ⟨⟨h1, h2⟩, h3, h4⟩
theorem pinOK_iff {now p : Int} : pinOK now p = true ↔ p = 0 ∨ p = now ∨ p = now + 1 := by
  unfold pinOK
  simp only [Bool.or_eq_true, beq_iff_eq, or_assoc]
theorem good_pins {e : E} (h : good e = true) {p : Int} (hp : p ∈ e.pins) : p = 0 ∨ p = e.now ∨ p = e.now + 1 := by
  obtain ⟨_, _, h3, _, _, h6⟩ := good_parts h
  exact pinOK_iff.1 (((allOK_pins h3).1 h6).1 p hp)
theorem good_limbo {e : E} (h : good e = true) {l : List Ws} (hl : l ∈ e.limbo) : limOK l 1 e.now = true ∧ l.length ≤ 8 := by
  obtain ⟨_, _, h3, _, _, h6⟩ := good_parts h
  have := ((allOK_pins h3).1 h6).2 l hl
  unfold limbo? at this
  simpa using this
theorem good_of {e : E} (h1 : 1 ≤ e.pins.length) (h2 : e.pins.length ≤ 64) (h3 : e.limbo.length = e.pins.length) (h4 : 1 ≤ e.now) (h5 : e.now ≤ 1099511627776) (h6 : ∀ p ∈ e.pins, p = 0 ∨ p = e.now ∨ p = e.now + 1) (h7 : ∀ l ∈ e.limbo, limOK l 1 e.now = true ∧ l.length ≤ 8) : good e = true := by
  unfold good
  rw [decide_eq_true h1, decide_eq_true h2, decide_eq_true h3, decide_eq_true h4, decide_eq_true h5, (allOK_pins h3).2 ⟨fun p hp => pinOK_iff.2 (h6 p hp), fun l hl => by unfold limbo?; rw [(h7 l hl).1, decide_eq_true (h7 l hl).2]; rfl⟩]
  rfl
theorem radv_loop (e : E) (hs : Small e) (hn : 1 ≤ e.now ∧ e.now ≤ 1099511627776) (hp : ∀ p ∈ e.pins, p = 0 ∨ p = e.now ∨ p = e.now + 1) (n : Int) (q1 q2 : List (List DV)) : ∀ m i : Nat, i + m = e.pins.length →
    ref11_Advance.H5 i e.now (e.pins.map ei) (e.limbo.map encL) n q1 q2 (tV (if (e.pins.drop i).any (· == e.now) = true then (e, false) else ({ e with now := e.now + 1 }, true))) := by
  have hw : IntKind.i64.wrap (e.now + 1) = e.now + 1 := wrap_id (by omega) (by omega)
  intro m
  induction m with
  | zero =>
    intro i hi
    refine ref11_Advance.H5_step _ _ _ _ _ _ _ _ ?_
    rw [decide_eq_false (by simp; omega), List.drop_eq_nil_of_le (by omega), hw]
    rfl
  | succ m ih =>
    intro i hi
    refine ref11_Advance.H5_step _ _ _ _ _ _ _ _ ?_
    have hip : i < e.pins.length := by omega
    have hpi := hp _ (List.getElem_mem hip)
    have hsp := hs.pins
    have nxt := ih (i + 1) (by omega)
    rw [decide_eq_true (by simp; omega), List.drop_eq_getElem_cons hip, List.any_cons]
    simp only [cond_true, needs_nat, Int.toNat_natCast, map_get _ _ _ hip, optAll_so, n0_, hw, wrap_succ (show i < 4611686018427387904 by omega)]
    generalize e.pins[i] = p at hpi ⊢
    by_cases h0 : p = 0
    · rw [show (p != 0) = false by simpa using h0, show (p == e.now) = false by simp; omega]
      simp only [cond_false, Bool.false_or]
      exact nxt
    · rw [show (p != 0) = true by simpa using h0]
      by_cases h1 : p = e.now + 1
      · rw [show (p != e.now + 1) = false by simpa using h1, show (p == e.now) = false by simp; omega]
        simp only [cond_false, cond_true, Bool.false_or]
        exact nxt
      · rw [show (p != e.now + 1) = true by simpa using h1, show (p == e.now) = true by simp; omega]
        rfl
theorem radvS_ok (e : E) (hs : Small e) : ref11_Advance.R e.now (e.pins.map ei) (e.limbo.map encL) = some (tV (advS e)) := by
  refine ref11_Advance.start _ _ _ _ ?_
  simp only [ris_ok e hs, optAll_so]
  unfold advS
  cases hg : good e
  · rfl
  · have hp := good_parts hg
    simp only [Bool.not_true, cond_false]
    rw [if_neg (by decide)]
    by_cases h1 : e.now = 1099511627776
    · rw [if_pos h1, decide_eq_true (by omega)]; rfl
    · rw [if_neg h1, decide_eq_false (by omega)]
      exact radv_loop e hs ⟨by omega, by omega⟩ (fun p h => good_pins hg h) 0 [] [] e.pins.length 0 (by omega)
/-! Reaped: those that are old, in a list by age. -/
theorem lim_old {now t : Int} : ∀ {l : List Ws} {last : Int}, limOK l last now = true → t < last → l.filter (old t) = [] ∧ l.filter (fun w => !old t w) = l
  | [], _, _, _ => ⟨rfl, rfl⟩
  | w :: r, last, h, ht => by
    simp only [limOK, Bool.and_eq_true, decide_eq_true_eq] at h
    obtain ⟨⟨⟨⟨_, _⟩, h3⟩, _⟩, h5⟩ := h
    obtain ⟨g1, g2⟩ := lim_old (t := t) h5 (by omega)
    have ho : old t w = false := decide_eq_false (by omega)
    rw [List.filter_cons_of_neg (by rw [ho]; decide), List.filter_cons_of_pos (by rw [ho]; rfl), g1, g2]
    exact ⟨rfl, rfl⟩
theorem lim_cut {now t : Int} : ∀ {l : List Ws} {last : Int}, limOK l last now = true → l.take (stop l t 0) = l.filter (old t) ∧ l.drop (stop l t 0) = l.filter (fun w => !old t w)
  | [], _, _ => ⟨rfl, rfl⟩
  | w :: r, last, h => by
    have h' := h
    simp only [limOK, Bool.and_eq_true, decide_eq_true_eq] at h
    obtain ⟨⟨⟨⟨_, _⟩, h3⟩, _⟩, h5⟩ := h
    obtain ⟨g1, g2⟩ := lim_cut (t := t) h5
    cases ho : old t w with
    | true =>
      have e1 : stop (w :: r) t 0 = stop r t 0 + 1 := by
        unfold stop
        rw [List.drop_zero, List.drop_zero, List.takeWhile_cons, if_pos ho, List.length_cons]; omega
      rw [e1, List.take_succ_cons, List.drop_succ_cons, List.filter_cons_of_pos ho, List.filter_cons_of_neg (by rw [ho]; decide), g1, g2]
      exact ⟨rfl, rfl⟩
    | false =>
      have e1 : stop (w :: r) t 0 = 0 := by
        unfold stop
        rw [List.drop_zero, List.takeWhile_cons, if_neg (by rw [ho]; decide)]; rfl
      have hw : t < w.epoch := by unfold old at ho; simpa using ho
      obtain ⟨k1, k2⟩ := lim_old (t := t) h5 hw
      rw [e1, List.filter_cons_of_neg (by rw [ho]; decide), List.filter_cons_of_pos (by rw [ho]; rfl), k1, k2]
      exact ⟨rfl, rfl⟩
theorem rreap_loop (e : E) (c : Int) (hs : Small e) (hc : 0 ≤ c ∧ c < e.limbo.length) (hn : 1 ≤ e.now ∧ e.now ≤ 1099511627776) (l : List Ws) (hl : e.limbo[c.toNat]? = some l) (n : Int) (q1 q2 : List (List DV)) : ∀ m i : Nat, i + m = l.length →
    ref11_Reap.H7 c (((l.take i).filter (old (e.now - 2))).map eo) (((l.take i).filter (fun w => !old (e.now - 2) w)).map encW) i e.now (e.pins.map ei) (e.limbo.map encL) n q1 q2 (tE (limE e c (l.filter (fun w => !old (e.now - 2) w))), ((l.filter (old (e.now - 2))).map eo, ())) := by
  have hll := hs.lists l (List.mem_of_getElem? hl)
  have hw : IntKind.i64.wrap (e.now - 2) = e.now - 2 := wrap_id (by omega) (by omega)
  have hg : (e.limbo.map encL)[c.toNat]? = some (encL l) := by rw [List.getElem?_map, hl]; rfl
  intro m
  induction m with
  | zero =>
    intro i hi
    refine ref11_Reap.H7_step _ _ _ _ _ _ _ _ _ _ _ ?_
    have ht : l.take i = l := List.take_of_length_le (by omega)
    rw [ht]
    simp only [needs_iff, hg, optAll_so, l0_, List.length_map]
    refine ⟨hc.1, ?_⟩
    rw [decide_eq_false (by omega)]
    simp only [cond_false, take_map_len, rlimbo_ok e c _ hs hc, optAll_so]
  | succ m ih =>
    intro i hi
    refine ref11_Reap.H7_step _ _ _ _ _ _ _ _ _ _ _ ?_
    have hil : i < l.length := by omega
    have nxt := ih (i + 1) (by omega)
    have hfl : ((l.take i).filter (old (e.now - 2))).length ≤ i := Nat.le_trans (List.length_filter_le _ _) (by simp; omega)
    have hfl2 : ((l.take i).filter (fun w => !old (e.now - 2) w)).length ≤ i := Nat.le_trans (List.length_filter_le _ _) (by simp; omega)
    rw [List.take_succ_eq_append_getElem hil, List.filter_append, List.filter_append] at nxt
    simp only [needs_iff, hg, optAll_so, l0_, List.length_map, Int.toNat_natCast, map_get _ _ _ hil, w0_, w1_, hw, encW_is, List.take_succ_cons, List.take_zero, wrap_succ (show i < 4611686018427387904 by omega)]
    refine ⟨hc.1, ?_⟩
    rw [decide_eq_true (show (i : Int) < (l.length : Int) by omega)]
    refine ⟨hc.1, by omega, ?_⟩
    by_cases h : l[i].epoch ≤ e.now - 2
    · have ho : old (e.now - 2) l[i] = true := decide_eq_true h
      rw [decide_eq_true h]
      rw [List.filter_cons_of_pos ho, List.filter_cons_of_neg (by rw [ho]; decide), List.filter_nil, List.filter_nil, List.append_nil, List.map_append] at nxt
      refine ⟨hc.1, by omega, trivial, ?_, nxt⟩
      simp only [List.length_append, List.length_map, List.length_cons, List.length_nil]; omega
    · have ho : old (e.now - 2) l[i] = false := decide_eq_false h
      rw [decide_eq_false h]
      rw [List.filter_cons_of_neg (by rw [ho]; decide), List.filter_cons_of_pos (by rw [ho]; rfl), List.filter_nil, List.filter_nil, List.append_nil, List.map_append] at nxt
      refine ⟨hc.1, by omega, trivial, ?_, nxt⟩
      simp only [List.length_append, List.length_map, List.length_cons, List.length_nil]; omega
theorem rreapS_ok (e : E) (c : Int) (hs : Small e) : ref11_Reap.R e.now (e.pins.map ei) (e.limbo.map encL) c = some (tR (reapS e c)) := by
  refine ref11_Reap.start _ _ _ _ _ ?_
  simp only [rcore_ok e c hs, optAll_so]
  unfold reapS
  cases hh : has e c
  · rfl
  · obtain ⟨h3, h4, h5⟩ := has_parts hh
    have hp := good_parts h5
    have hi : c.toNat < e.limbo.length := by omega
    have ha : e.limbo[c.toNat]? = some (atL e.limbo c) := by unfold atL; simp [List.getD, hi]
    obtain ⟨g1, g2⟩ := lim_cut (t := e.now - 2) (good_limbo h5 (List.mem_of_getElem? ha)).1
    rw [if_neg (by decide), g1, g2]
    have := rreap_loop e c hs ⟨h3, by omega⟩ ⟨hp.2.2.2.1, hp.2.2.2.2.1⟩ _ ha 0 [] [] (atL e.limbo c).length 0 (by omega)
    simp only [Bool.not_true, cond_false]
    unfold tR
    rw [List.map_map]
    exact this
/-! What is done. -/
structure A where
  kind : Int
  core : Int
  obj : Int
def acts (e : E) (a : A) : E × List Int × Int :=
  if a.kind = 0 then ((pinS e a.core).1, [], (pinS e a.core).2)
  else if a.kind = 1 then ((unpinS e a.core).1, [], (unpinS e a.core).2)
  else if a.kind = 2 then ((retS e a.core a.obj).1, [], (retS e a.core a.obj).2)
  else if a.kind = 3 then ((advS e).1, [], if (advS e).2 then 1000 else 0)
  else ((reapS e a.core).1, (reapS e a.core).2, 0)
def tX (r : E × List Int × Int) : ET × (List (List DV) × (Int × Unit)) := (tE r.1, (r.2.1.map ei, (r.2.2, ())))
theorem does_ok (e : E) (a : A) (hs : Small e) : law11_does.R e.now (e.pins.map ei) (e.limbo.map encL) a.kind a.core a.obj = some (tX (acts e a)) := by
  refine law11_does.start _ _ _ _ _ _ _ ?_
  simp only [pinS_ok e _ hs, unpinS_ok e _ hs, retS_ok e _ _ hs, advS_ok e hs, reapS_ok e _ hs, num_ok, optAll_so, cond_ite, beq_iff_eq]
  unfold acts
  by_cases h0 : a.kind = 0
  · rw [if_pos h0, if_pos h0]; rfl
  rw [if_neg h0, if_neg h0]
  by_cases h1 : a.kind = 1
  · rw [if_pos h1, if_pos h1]; rfl
  rw [if_neg h1, if_neg h1]
  by_cases h2 : a.kind = 2
  · rw [if_pos h2, if_pos h2]; rfl
  rw [if_neg h2, if_neg h2]
  by_cases h3 : a.kind = 3
  · rw [if_pos h3, if_pos h3]
    cases hb : (advS e).2
    · rw [if_neg (by simp [tV, hb])]; rfl
    · rw [if_pos (by simp [tV, hb])]; rfl
  rw [if_neg h3, if_neg h3]
  rfl
theorem model_ok (e : E) (a : A) (hs : Small e) : law11_model.R e.now (e.pins.map ei) (e.limbo.map encL) a.kind a.core a.obj = some (tX (acts e a)) := by
  refine law11_model.start _ _ _ _ _ _ _ ?_
  simp only [rpinS_ok e _ hs, runpinS_ok e _ hs, rretS_ok e _ _ hs, radvS_ok e hs, rreapS_ok e _ hs, optAll_so, cond_ite, beq_iff_eq]
  unfold acts
  by_cases h0 : a.kind = 0
  · rw [if_pos h0, if_pos h0]; rfl
  rw [if_neg h0, if_neg h0]
  by_cases h1 : a.kind = 1
  · rw [if_pos h1, if_pos h1]; rfl
  rw [if_neg h1, if_neg h1]
  by_cases h2 : a.kind = 2
  · rw [if_pos h2, if_pos h2]; rfl
  rw [if_neg h2, if_neg h2]
  by_cases h3 : a.kind = 3
  · rw [if_pos h3, if_pos h3]
    cases hb : (advS e).2
    · rw [if_neg (by simp [tV, hb])]; rfl
    · rw [if_pos (by simp [tV, hb])]; rfl
  rw [if_neg h3, if_neg h3]
  rfl
end Epoch
end Go.AI
