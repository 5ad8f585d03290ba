/-
  Own work. The epochs' functions: what is reaped, new ones; the document's side.
-/
import Derived.Test.YtljhobohpnpedaaEpoch1
namespace Go.AI
open Go
set_option linter.unusedVariables false
set_option linter.unusedSimpArgs false
namespace Epoch
open Kit
def old (t : Int) (w : Ws) : Bool := decide (w.epoch ≤ t)
def stop (l : List Ws) (t : Int) (k : Nat) : Nat := k + ((l.drop k).takeWhile (old t)).length
def reapS (e : E) (c : Int) : E × List Int :=
  if has e c = false then (e, []) else (limE e c ((atL e.limbo c).drop (stop (atL e.limbo c) (e.now - 2) 0)), ((atL e.limbo c).take (stop (atL e.limbo c) (e.now - 2) 0)).map Ws.obj)
def tR (r : E × List Int) : ET × (List (List DV) × Unit) := (tE r.1, (r.2.map ei, ()))
def eo (w : Ws) : List DV := ei w.obj
theorem reap_loop (e : E) (c : Int) (hs : Small e) (hc : 0 ≤ c ∧ c < e.limbo.length) (hn : 1 ≤ e.now ∧ e.now ≤ 1099511627776) (l : List Ws) (hl : e.limbo[c.toNat]? = some l) (n : Int) (q1 q2 : List (List DV)) : ∀ m k : Nat, k + m = l.length →
    epoch_Reap.H5 c ((l.take k).map eo) e.now (e.pins.map ei) (e.limbo.map encL) n q1 q2 (tE (limE e c (l.drop (stop l (e.now - 2) k))), (((l.take (stop l (e.now - 2) k)).map eo), ())) := by
  have hll := hs.lists l (List.mem_of_getElem? hl)
  have hw : IntKind.i64.wrap (e.now - 2) = e.now - 2 := wrap_id (by omega) (by omega)
  have hg : (e.limbo.map encL)[c.toNat]? = some (encL l) := by rw [List.getElem?_map, hl]; rfl
  have fin : ∀ k, k ≤ l.length → needs ((0 : Int) ≤ c) (optAll ((e.limbo.map encL)[c.toNat]?) fun r => optAll (dLst 2 r 0) fun l4 =>
      needs (((0 : Int) ≤ (((l.take k).map eo).length : Nat)) ∧ (((((l.take k).map eo).length : Nat) : Int) ≤ ((l4.length : Nat) : Int) ∧ ((l4.length : Nat) : Int) ≤ ((l4.length : Nat) : Int))) (
      needs ((((l4.take (Int.toNat ((l4.length : Nat) : Int))).drop (Int.toNat ((((l.take k).map eo).length : Nat) : Int))).length * 16 ≤ 140737488355328) ∧ (((l4.take (Int.toNat ((l4.length : Nat) : Int))).drop (Int.toNat ((((l.take k).map eo).length : Nat) : Int))).length * 2 ≤ 140737488355328)) (
      optAll (epoch_limbo.R e.now (e.pins.map ei) (e.limbo.map encL) c (((l4.take (Int.toNat ((l4.length : Nat) : Int))).drop (Int.toNat ((((l.take k).map eo).length : Nat) : Int))).take ((l4.take (Int.toNat ((l4.length : Nat) : Int))).drop (Int.toNat ((((l.take k).map eo).length : Nat) : Int))).length)) fun c5 =>
      (tE (limE e c (l.drop k)), ((l.take k).map eo, ())) = ((c5.1.1, (c5.1.2.1, (c5.1.2.2.1, ()))), (((l.take k).map eo).take ((l.take k).map eo).length, ()))))) := by
    intro k hk
    have hlen : ((l.take k).map eo).length = k := by simp; omega
    rw [hg]
    simp only [optAll_so, l0_, hlen, List.length_map, Int.toNat_natCast, take_map_len, ← List.map_drop, limbo_ok e c _ hs hc, needs_iff, List.length_drop]
    have ht : (List.map encW (List.drop k l)).take (l.length - k) = List.map encW (List.drop k l) := List.take_of_length_le (by simp)
    have ht2 : (List.map eo (List.take k l)).take k = List.map eo (List.take k l) := List.take_of_length_le (by simp; omega)
    rw [ht, limbo_ok e c _ hs hc, ht2]
    simp only [optAll_so]
    exact ⟨hc.1, by omega, by omega, trivial⟩
  intro m
  induction m with
  | zero =>
    intro k hk
    refine epoch_Reap.H5_step _ _ _ _ _ _ _ _ _ ?_
    have hst : stop l (e.now - 2) k = k := by unfold stop; rw [List.drop_eq_nil_of_le (by omega)]; rfl
    have hlen : ((l.take k).map eo).length = k := by simp; omega
    rw [hst]
    refine needs_iff.2 ⟨hc.1, ?_⟩
    rw [hg]
    simp only [optAll_so, l0_]
    rw [hlen, show (((k : Nat) : Int) == (((l.map encW).length : Nat) : Int)) = true by simp; omega]
    have := fin k (by omega)
    rw [hlen, hg] at this
    simp only [optAll_so, l0_] at this
    simp only [cond_true, hlen]
    exact this
  | succ m ih =>
    intro k hk
    refine epoch_Reap.H5_step _ _ _ _ _ _ _ _ _ ?_
    have hkl : k < l.length := by omega
    have hlen : ((l.take k).map eo).length = k := by simp; omega
    refine needs_iff.2 ⟨hc.1, ?_⟩
    have fk := fin k (by omega)
    rw [hlen, hg] at fk
    rw [hg]
    simp only [optAll_so, l0_, hlen] at fk ⊢
    rw [show (((k : Nat) : Int) == (((l.map encW).length : Nat) : Int)) = false by simp; omega]
    simp only [cond_false, Int.toNat_natCast, map_get _ _ _ hkl, optAll_so, w0_, w1_, hw] at fk ⊢
    have hst : stop l (e.now - 2) k = if l[k].epoch ≤ e.now - 2 then stop l (e.now - 2) (k + 1) else k := by
      unfold stop
      rw [List.drop_eq_getElem_cons hkl, List.takeWhile_cons]
      unfold old
      by_cases h : l[k].epoch ≤ e.now - 2
      · rw [decide_eq_true h, if_pos h, if_pos rfl, List.length_cons]; omega
      · rw [decide_eq_false h, if_neg h, if_neg (by decide)]; rfl
    rw [hst]
    by_cases h : l[k].epoch ≤ e.now - 2
    · rw [if_pos h, decide_eq_false (show ¬ l[k].epoch > e.now - 2 by omega)]
      have nxt := ih (k + 1) (by omega)
      have e1 : (l.take (k + 1)).map eo = (l.take k).map eo ++ [eo l[k]] := by
        rw [List.take_succ_eq_append_getElem hkl, List.map_append]; rfl
      rw [e1] at nxt
      simp only [cond_false, List.take_succ_cons, List.take_zero]
      refine needs_iff.2 ⟨trivial, needs_iff.2 ⟨?_, nxt⟩⟩
      simp only [List.length_append, hlen, List.length_cons, List.length_nil]
      omega
    · rw [if_neg h, decide_eq_true (show l[k].epoch > e.now - 2 by omega)]
      exact fk
theorem reapS_ok (e : E) (c : Int) (hs : Small e) : epoch_Reap.R e.now (e.pins.map ei) (e.limbo.map encL) c = some (tR (reapS e c)) := by
  refine epoch_Reap.start _ _ _ _ _ ?_
  simp only [has_ok e c hs, optAll_so]
  unfold reapS
  cases hh : has e c
  · rfl
  · obtain ⟨h3, h4, h5⟩ := has_parts hh
    have hp := good_parts h5
    have hi : c.toNat < e.limbo.length := by omega
    have ha : e.limbo[c.toNat]? = some (atL e.limbo c) := by unfold atL; simp [List.getD, hi]
    rw [if_neg (by decide)]
    have := reap_loop e c hs ⟨h3, by omega⟩ ⟨hp.2.2.2.1, hp.2.2.2.2.1⟩ _ ha 0 [] [] (atL e.limbo c).length 0 (by omega)
    simp only [Bool.not_true, cond_false]
    unfold tR
    rw [List.map_map]
    exact this
/-! New ones. -/
def newS (n : Int) : E × Int := if n < 1 ∨ n > 64 then (⟨0, [], []⟩, 2) else (⟨1, List.replicate n.toNat 0, List.replicate n.toNat []⟩, 0)
theorem newS_ok (n : Int) : epoch_New.R n = some (tS (newS n)) := by
  refine epoch_New.start _ _ ?_
  unfold newS
  by_cases h1 : n < 1
  · rw [decide_eq_true h1, if_pos (.inl h1)]; rfl
  rw [decide_eq_false h1]
  by_cases h2 : n > 64
  · rw [decide_eq_true h2, if_pos (.inr h2)]; rfl
  rw [decide_eq_false h2, if_neg (by omega)]
  simp only [cond_false, needs_iff]
  refine ⟨⟨trivial, by omega, by omega, by omega⟩, ⟨trivial, by omega, by omega, by omega⟩, ?_⟩
  have e1 : ∀ r : List DV, (List.replicate n.toNat r).take n.toNat = List.replicate n.toNat r := fun r => List.take_of_length_le (by simp)
  rw [e1, e1]
  unfold tS tE
  simp only [List.map_replicate]
  rfl
theorem rnew_loop (N : Nat) (hN : N ≤ 64) (n0 : Int) (q1 q2 : List (List DV)) : ∀ m i : Nat, i + m = N → ref11_New.H6 N i n0 q1 q2 1 (List.replicate i (ei 0)) (List.replicate i (encL [])) ((1, (List.replicate N (ei 0), (List.replicate N (encL []), ()))), (0, ())) := by
  intro m
  induction m with
  | zero =>
    intro i hi
    refine ref11_New.H6_step _ _ _ _ _ _ _ _ _ ?_
    rw [decide_eq_false (by omega)]
    have e : i = N := by omega
    subst e
    simp only [cond_false, List.take_length]
  | succ m ih =>
    intro i hi
    refine ref11_New.H6_step _ _ _ _ _ _ _ _ _ ?_
    rw [decide_eq_true (by omega)]
    have nxt := ih (i + 1) (by omega)
    rw [List.replicate_succ', List.replicate_succ'] at nxt
    simp only [cond_true, needs_iff, wrap_succ (show i < 4611686018427387904 by omega), List.take_succ_cons, List.take_zero]
    exact ⟨trivial, by simp; omega, trivial, by simp; omega, nxt⟩
theorem rnew_ok (n : Int) : ref11_New.R n = some (tS (newS n)) := by
  refine ref11_New.start _ _ ?_
  unfold newS
  by_cases h1 : n < 1
  · rw [decide_eq_true h1, if_pos (.inl h1)]; rfl
  rw [decide_eq_false h1]
  by_cases h2 : n > 64
  · rw [decide_eq_true h2, if_pos (.inr h2)]; rfl
  rw [decide_eq_false h2, if_neg (by omega)]
  simp only [cond_false]
  obtain ⟨N, rfl⟩ : ∃ N : Nat, n = N := ⟨n.toNat, by omega⟩
  have := rnew_loop N (by omega) 0 [] [] N 0 (by omega)
  unfold tS tE
  rw [List.map_replicate, List.map_replicate, Int.toNat_natCast]
  exact this
/-! The document's side. -/
theorem rwastes_ok (a b : List Ws) (ha : a.length < 1000000) : ref11_wastes.R (a.map encW) (b.map encW) = some (decide (a = b), ()) := by
  refine ref11_wastes.start _ _ _ ?_
  simp only [List.length_map, cond_ite, bne_iff_ne]
  by_cases hl : a.length = b.length
  · rw [if_neg (by omega)]
    refine eq_loop a b (fun i c => ref11_wastes.H5 (a.map encW) (b.map encW) i c) hl fun i c h1 h2 => ?_
    refine ref11_wastes.H5_step _ _ _ _ ?_
    by_cases hi : i < a.length
    · obtain ⟨g1, g2⟩ := h1 hi
      simp only [List.length_map, cond_ite, decide_eq_true_eq, needs_nat, Int.toNat_natCast, map_get _ _ _ hi, map_get _ _ _ (hl ▸ hi), optAll_so, w0_, w1_, eqW, Bool.not_eq_true', decide_eq_false_iff_not, wrap_succ (show i < 4611686018427387904 by omega)]
      rw [if_pos (by omega)]
      split
      · rename_i h; exact g2 h
      · rename_i h; exact g1 (Decidable.not_not.1 h)
    · simp only [List.length_map, cond_ite, decide_eq_true_eq]
      rw [if_neg (by omega)]
      exact h2 (by omega)
  · rw [if_pos (by omega), decide_eq_false]
    intro e; subst e; exact hl rfl
theorem ints_ok (a b : List Int) (ha : a.length < 1000000) : ref07_Ints.R (a.map ei) (b.map ei) = some (decide (a = b), ()) := by
  refine ref07_Ints.start _ _ _ ?_
  simp only [List.length_map, cond_ite, bne_iff_ne]
  by_cases hl : a.length = b.length
  · rw [if_neg (by omega)]
    refine eq_loop a b (fun i c => ref07_Ints.H5 (a.map ei) (b.map ei) i c) hl fun i c h1 h2 => ?_
    refine ref07_Ints.H5_step _ _ _ _ ?_
    by_cases hi : i < a.length
    · obtain ⟨g1, g2⟩ := h1 hi
      simp only [List.length_map, cond_ite, decide_eq_true_eq, needs_nat, Int.toNat_natCast, map_get _ _ _ hi, map_get _ _ _ (hl ▸ hi), optAll_so, n0_, bne_iff_ne, wrap_succ (show i < 4611686018427387904 by omega)]
      rw [if_pos (by omega)]
      split
      · rename_i h; exact g2 h
      · rename_i h; exact g1 (Decidable.not_not.1 h)
    · simp only [List.length_map, cond_ite, decide_eq_true_eq]
      rw [if_neg (by omega)]
      exact h2 (by omega)
  · rw [if_pos (by omega), decide_eq_false]
    intro e; subst e; exact hl rfl
theorem rsame_ok (a b : E) (hs : Small a) : ref11_Same.R a.now (a.pins.map ei) (a.limbo.map encL) b.now (b.pins.map ei) (b.limbo.map encL) = some (decide (a = b), ()) := by
  refine ref11_Same.start _ _ _ _ _ _ _ ?_
  have hsp := hs.pins
  have hsl := hs.limbo
  have e : decide (a = b) = decide (a.now = b.now ∧ a.pins = b.pins ∧ a.limbo = b.limbo) := decide_eq_decide.2 (eqE a b).symm
  simp only [List.length_map, cond_ite, bne_iff_ne]
  by_cases h1 : a.now = b.now
  case neg => rw [if_pos h1, e, decide_eq_false]; rintro ⟨h, _⟩; exact h1 h
  rw [if_neg (fun h => h h1)]
  by_cases hl : a.pins.length = b.pins.length
  case neg => rw [if_pos (by omega), e, decide_eq_false]; rintro ⟨_, h, _⟩; exact hl (by rw [h])
  rw [if_neg (by omega)]
  by_cases hm : a.limbo.length = b.limbo.length
  case neg => rw [if_pos (by omega), e, decide_eq_false]; rintro ⟨_, _, h⟩; exact hm (by rw [h])
  rw [if_neg (by omega)]
  have second : a.pins = b.pins → ref11_Same.H10 0 a.now (a.pins.map ei) (a.limbo.map encL) b.now (b.pins.map ei) (b.limbo.map encL) (decide (a = b), ()) := by
    intro hp
    have e2 : decide (a = b) = decide (a.limbo = b.limbo) := by rw [e]; simp [h1, hp]
    rw [e2]
    refine eq_loop a.limbo b.limbo (fun i c => ref11_Same.H10 i a.now (a.pins.map ei) (a.limbo.map encL) b.now (b.pins.map ei) (b.limbo.map encL) c) hm fun i c g1 g2 => ?_
    refine ref11_Same.H10_step _ _ _ _ _ _ _ _ ?_
    by_cases hi : i < a.limbo.length
    · obtain ⟨k1, k2⟩ := g1 hi
      simp only [List.length_map, cond_ite, decide_eq_true_eq, needs_nat, Int.toNat_natCast, map_get _ _ _ hi, map_get _ _ _ (hm ▸ hi), optAll_so, l0_, rwastes_ok _ _ (hs.lists _ (List.getElem_mem hi)), Bool.not_eq_true', decide_eq_false_iff_not, wrap_succ (show i < 4611686018427387904 by omega)]
      rw [if_pos (by omega)]
      split
      · rename_i h; exact k2 h
      · rename_i h; exact k1 (Decidable.not_not.1 h)
    · simp only [List.length_map, cond_ite, decide_eq_true_eq]
      rw [if_neg (by omega)]
      exact g2 (by omega)
  have key : ∀ n i : Nat, i + n = a.pins.length → a.pins.take i = b.pins.take i → ref11_Same.H5 i a.now (a.pins.map ei) (a.limbo.map encL) b.now (b.pins.map ei) (b.limbo.map encL) (decide (a = b), ()) := by
    intro n
    induction n with
    | zero =>
      intro i hi ht
      refine ref11_Same.H5_step _ _ _ _ _ _ _ _ ?_
      rw [List.take_of_length_le (by omega), List.take_of_length_le (by omega)] at ht
      rw [decide_eq_false (by simp; omega)]
      exact second ht
    | succ n ih =>
      intro i hi ht
      refine ref11_Same.H5_step _ _ _ _ _ _ _ _ ?_
      have hia : i < a.pins.length := by omega
      have hib : i < b.pins.length := by omega
      rw [decide_eq_true (by simp; omega)]
      simp only [cond_true, needs_nat, Int.toNat_natCast, map_get _ _ _ hia, map_get _ _ _ hib, optAll_so, n0_, wrap_succ (show i < 4611686018427387904 by omega)]
      by_cases h : a.pins[i] = b.pins[i]
      · rw [show (a.pins[i] != b.pins[i]) = false by simpa using h]
        refine ih (i + 1) (by omega) ?_
        rw [List.take_succ_eq_append_getElem hia, List.take_succ_eq_append_getElem hib, ht, h]
      · rw [show (a.pins[i] != b.pins[i]) = true by simpa using h, decide_eq_false]
        · exact rfl
        · intro e; subst e; exact h rfl
  exact key a.pins.length 0 (by omega) rfl
theorem is_inner (e : E) (hs : Small e) (i : Nat) (hi : i < e.limbo.length) (l : List Ws) (hle : e.limbo[i] = l) (rest : Bool) (nxt : ref11_Is.H5 ((i + 1 : Nat) : Int) e.now (e.pins.map ei) (e.limbo.map encL) (rest, ())) : ∀ (m j : Nat) (last : Int), j + m = l.length → (j = 0 ∧ last = 1 ∨ 1 ≤ last ∧ ∃ h : 0 < j ∧ j - 1 < l.length, last = (l[j - 1]'h.2).epoch) →
    ref11_Is.H10 i j e.now (e.pins.map ei) (e.limbo.map encL) (limOK (l.drop j) last e.now && rest, ()) := by
  have hll : l.length < 1000000 := by rw [← hle]; exact hs.lists _ (List.getElem_mem hi)
  have hsl := hs.limbo
  have hg : (e.limbo.map encL)[i]? = some (encL l) := by rw [map_get _ _ _ hi, hle]
  intro m
  induction m with
  | zero =>
    intro j last hj hlast
    refine ref11_Is.H10_step _ _ _ _ _ _ ?_
    simp only [needs_nat, Int.toNat_natCast, hg, optAll_so, l0_, List.length_map]
    rw [decide_eq_false (by omega), List.drop_eq_nil_of_le (by omega)]
    simp only [cond_false, limOK, Bool.true_and, wrap_succ (show i < 4611686018427387904 by omega)]
    exact nxt
  | succ m ih =>
    intro j last hj hlast
    refine ref11_Is.H10_step _ _ _ _ _ _ ?_
    have hjl : j < l.length := by omega
    simp only [needs_nat, Int.toNat_natCast, hg, optAll_so, l0_, List.length_map]
    rw [decide_eq_true (show (j : Int) < (l.length : Int) by omega), List.drop_eq_getElem_cons hjl]
    simp only [cond_true, needs_nat, Int.toNat_natCast, hg, optAll_so, l0_, map_get _ _ _ hjl, w0_, w1_, limOK, wrap_succ (show j < 4611686018427387904 by omega)]
    have ih' := ih (j + 1) l[j].epoch (by omega)
    by_cases h1 : l[j].obj < 0
    · rw [decide_eq_true h1, decide_eq_false (show ¬ 0 ≤ l[j].obj by omega)]; simp
    rw [decide_eq_false h1, decide_eq_true (show 0 ≤ l[j].obj by omega)]
    by_cases h2 : l[j].obj ≥ 64
    · rw [decide_eq_true h2, decide_eq_false (show ¬ l[j].obj < 64 by omega)]; simp
    rw [decide_eq_false h2, decide_eq_true (show l[j].obj < 64 by omega)]
    have h1l : 1 ≤ last := by rcases hlast with ⟨_, h⟩ | ⟨h, _⟩ <;> omega
    by_cases h3 : l[j].epoch < 1
    · rw [decide_eq_true h3, decide_eq_false (show ¬ last ≤ l[j].epoch by omega)]; simp
    rw [decide_eq_false h3]
    by_cases h4 : l[j].epoch > e.now
    · rw [decide_eq_true h4, decide_eq_false (show ¬ l[j].epoch ≤ e.now by omega)]; simp
    rw [decide_eq_false h4, decide_eq_true (show l[j].epoch ≤ e.now by omega)]
    simp only [cond_false, Bool.true_and, Bool.and_true]
    rcases hlast with ⟨h5, h6⟩ | ⟨h5, ⟨h6, h7⟩, h8⟩
    · subst h5
      rw [decide_eq_false (show ¬ (((0 : Nat) : Int) > 0) by omega), decide_eq_true (show last ≤ l[0].epoch by omega)]
      simp only [cond_false, Bool.true_and]
      exact ih' (.inr ⟨by omega, ⟨by omega, by omega⟩, by simp⟩)
    · rw [decide_eq_true (show ((j : Int) > 0) by omega)]
      have hwp : IntKind.i64.wrap ((j : Int) - 1) = ((j - 1 : Nat) : Int) := wrap_pred (by omega) h6
      simp only [cond_true, hwp, needs_nat, Int.toNat_natCast, map_get _ _ _ h7, optAll_so, w1_]
      by_cases h9 : l[j - 1].epoch > l[j].epoch
      · rw [decide_eq_true h9, decide_eq_false (show ¬ last ≤ l[j].epoch by omega)]; simp
      · rw [decide_eq_false h9, decide_eq_true (show last ≤ l[j].epoch by omega)]
        simp only [cond_false, Bool.true_and]
        exact ih' (.inr ⟨by omega, ⟨by omega, by omega⟩, by simp⟩)
theorem is_loop (e : E) (hs : Small e) (hn : 1 ≤ e.now ∧ e.now ≤ 1099511627776) (hl : e.limbo.length = e.pins.length) : ∀ m i : Nat, i + m = e.pins.length →
    ref11_Is.H5 i e.now (e.pins.map ei) (e.limbo.map encL) (allOK e.now (e.pins.drop i) (e.limbo.drop i), ()) := by
  intro m
  induction m with
  | zero =>
    intro i hi
    refine ref11_Is.H5_step _ _ _ _ _ ?_
    rw [decide_eq_false (by simp; omega), List.drop_eq_nil_of_le (by omega)]
    rfl
  | succ m ih =>
    intro i hi
    refine ref11_Is.H5_step _ _ _ _ _ ?_
    have hip : i < e.pins.length := by omega
    have hil : i < e.limbo.length := by omega
    have hll := hs.lists _ (List.getElem_mem hil)
    rw [decide_eq_true (by simp; omega), List.drop_eq_getElem_cons hip, List.drop_eq_getElem_cons hil]
    have hw : IntKind.i64.wrap (e.now + 1) = e.now + 1 := wrap_id (by omega) (by omega)
    simp only [cond_true, needs_nat, Int.toNat_natCast, map_get _ _ _ hip, map_get _ _ _ hil, optAll_so, n0_, l0_, hw, allOK, List.length_map]
    have inner := is_inner e hs i hil _ rfl _ (ih (i + 1) (by omega)) (e.limbo[i]).length 0 1 (by omega) (.inl ⟨rfl, rfl⟩)
    rw [List.drop_zero] at inner
    have fin : cond (decide (((e.limbo[i]).length : Int) > 8)) ((true && limbo? e.limbo[i] e.now && allOK e.now (e.pins.drop (i + 1)) (e.limbo.drop (i + 1)), ()) = (false, ()))
        (ref11_Is.H10 i 0 e.now (e.pins.map ei) (e.limbo.map encL) (true && limbo? e.limbo[i] e.now && allOK e.now (e.pins.drop (i + 1)) (e.limbo.drop (i + 1)), ())) := by
      unfold limbo?
      by_cases h : (e.limbo[i]).length ≤ 8
      · rw [decide_eq_false (show ¬ ((e.limbo[i]).length : Int) > 8 by omega), decide_eq_true h]
        simpa using inner
      · rw [decide_eq_true (show ((e.limbo[i]).length : Int) > 8 by omega), decide_eq_false h]
        simp
    generalize e.pins[i] = p
    by_cases h0 : p = 0
    · have hp : pinOK e.now p = true := by unfold pinOK; simp [h0]
      rw [hp, show (p != 0) = false by simpa using h0]
      exact fin
    rw [show (p != 0) = true by simpa using h0]
    by_cases h1 : p = e.now
    · have hp : pinOK e.now p = true := by unfold pinOK; simp [h1]
      rw [hp, show (p != e.now) = false by simpa using h1]
      exact fin
    rw [show (p != e.now) = true by simpa using h1]
    by_cases h2 : p = e.now + 1
    · have hp : pinOK e.now p = true := by unfold pinOK; simp [h2]
      rw [hp, show (p != e.now + 1) = false by simpa using h2]
      exact fin
    · have hp : pinOK e.now p = false := by unfold pinOK; simp [h0, h1, h2]
      rw [hp, show (p != e.now + 1) = true by simpa using h2]
      simp
theorem ris_ok (e : E) (hs : Small e) : ref11_Is.R e.now (e.pins.map ei) (e.limbo.map encL) = some (good e, ()) := by
  refine ref11_Is.start _ _ _ _ ?_
  simp only [List.length_map]
  unfold good
  by_cases h1 : (e.pins.length : Int) < 1
  · rw [decide_eq_true h1, decide_eq_false (show ¬ 1 ≤ e.pins.length by omega)]; simp
  rw [decide_eq_false h1, decide_eq_true (show 1 ≤ e.pins.length by omega)]
  by_cases h2 : (e.pins.length : Int) > 64
  · rw [decide_eq_true h2, decide_eq_false (show ¬ e.pins.length ≤ 64 by omega)]; simp
  rw [decide_eq_false h2, decide_eq_true (show e.pins.length ≤ 64 by omega)]
  by_cases h3 : e.limbo.length = e.pins.length
  · rw [decide_eq_true h3, show ((e.limbo.length : Int) != (e.pins.length : Int)) = false by rw [h3]; simp]
    by_cases h4 : e.now < 1
    · rw [decide_eq_true h4, decide_eq_false (show ¬ 1 ≤ e.now by omega)]; simp
    rw [decide_eq_false h4, decide_eq_true (show 1 ≤ e.now by omega)]
    by_cases h5 : e.now > 1099511627776
    · rw [decide_eq_true h5, decide_eq_false (show ¬ e.now ≤ 1099511627776 by omega)]; simp
    rw [decide_eq_false h5, decide_eq_true (show e.now ≤ 1099511627776 by omega)]
    simp only [cond_false, Bool.true_and]
    exact is_loop e hs ⟨by omega, by omega⟩ h3 e.pins.length 0 (by omega)
  · rw [decide_eq_false h3, show ((e.limbo.length : Int) != (e.pins.length : Int)) = true by simp; omega]; simp
theorem rcore_ok (e : E) (c : Int) (hs : Small e) : ref11_core.R e.now (e.pins.map ei) (e.limbo.map encL) c = some (has e c, ()) := by
  refine ref11_core.start _ _ _ _ _ ?_
  simp only [ris_ok e hs, optAll_so, List.length_map]
  unfold has
  cases good e
  · simp
  · by_cases h1 : c ≥ 0
    · rw [decide_eq_true h1]; simp
    · rw [decide_eq_false h1]; rfl
end Epoch
end Go.AI
