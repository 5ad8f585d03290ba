/-
  Own work. EpochSafe: what waits, whose it is and whom it sees; the loops; the law.
-/
import Derived.Test.YtljhobohpnpedaaEpoch5
import Derived.Test.YtljhobohpnpedaaEpochW
namespace Go.AI
open Go
set_option linter.unusedVariables false
set_option linter.unusedSimpArgs false
namespace Safe
open Epoch Kit
theorem lt_some {α : Type} {l : List α} {k : Nat} {x : α} (h : l[k]? = some x) : k < l.length := (List.getElem?_eq_some_iff.1 h).1
structure Wt where
  g : Nat
  core : Nat
  s : List Bool
  ep : Int
def rsOf (W : List Wt) : List (Nat × List Bool) := W.map fun w => (w.g, w.s)
def b8Of (W : List Wt) : List (List DV) := W.map fun w => ei (w.core : Int)
def pnOf (e : E) : List Bool := e.pins.map fun p => decide (p ≠ 0)
def bB (l : List Bool) : List (List DV) := l.map fun b => [DV.v (.bool b)]
def clear (c : Nat) (w : Wt) : Wt := { w with s := w.s.set c false }
structure InvS (N : Nat) (e : E) (W : List Wt) (c k : Nat) : Prop where
  good : good e = true
  len : e.pins.length = N
  lim : ∀ j, j < N → (W.filter fun w => decide (w.core = j)).map (·.ep) = ((atL e.limbo (j : Int)).map Ws.epoch).drop (if j = c then k else 0)
  dom : ∀ w ∈ W, w.core < N ∧ w.s.length = N
  sees : ∀ w ∈ W, ∀ j : Nat, w.s[j]? = some true → at' e.pins (j : Int) ≠ 0 ∧ at' e.pins (j : Int) - 1 ≤ w.ep
theorem InvS.any {N : Nat} {e : E} {W : List Wt} {c : Nat} (h : InvS N e W c 0) (d : Nat) : InvS N e W d 0 :=
  ⟨h.good, h.len, fun j hj => by have := h.lim j hj; simpa using this, h.dom, h.sees⟩
theorem at_set {l : List Int} {c j : Nat} {p : Int} (hc : c < l.length) : at' (l.set c p) (j : Int) = if j = c then p else at' l (j : Int) := by
  unfold at'
  rw [Int.toNat_natCast, List.getD_eq_getElem?_getD, List.getD_eq_getElem?_getD, List.getElem?_set]
  by_cases h : c = j
  · rw [if_pos h, if_pos hc, if_pos h.symm]; rfl
  · rw [if_neg h, if_neg (fun e => h e.symm)]
theorem atL_set {l : List (List Ws)} {c j : Nat} {p : List Ws} (hc : c < l.length) : atL (l.set c p) (j : Int) = if j = c then p else atL l (j : Int) := by
  unfold atL
  rw [Int.toNat_natCast, List.getD_eq_getElem?_getD, List.getD_eq_getElem?_getD, List.getElem?_set]
  by_cases h : c = j
  · rw [if_pos h, if_pos hc, if_pos h.symm]; rfl
  · rw [if_neg h, if_neg (fun e => h e.symm)]
theorem inv_pin {N : Nat} {e : E} {W : List Wt} {c : Nat} (h : InvS N e W 0 0) (hc : c < N) (h0 : at' e.pins (c : Int) = 0) : InvS N (pinE e c (e.now + 1)) W 0 0 where
  good := good_set_pin h.good _ _ (.inr (.inr rfl))
  len := by show (e.pins.set _ _).length = N; rw [List.length_set]; exact h.len
  lim := h.lim
  dom := h.dom
  sees w hw j hj := by
    obtain ⟨a, b⟩ := h.sees w hw j hj
    show at' (e.pins.set (c : Int).toNat _) _ ≠ 0 ∧ at' (e.pins.set (c : Int).toNat _) _ - 1 ≤ _
    rw [Int.toNat_natCast, at_set (by rw [h.len]; exact hc)]
    by_cases e1 : j = c
    · subst e1; exact absurd h0 a
    · rw [if_neg e1]; exact ⟨a, b⟩
theorem filter_clear (c j : Nat) (W : List Wt) : ((W.map (clear c)).filter fun w => decide (w.core = j)).map (·.ep) = (W.filter fun w => decide (w.core = j)).map (·.ep) := by
  induction W with
  | nil => rfl
  | cons w r ih =>
    rw [List.map_cons, List.filter_cons, List.filter_cons]
    show (if decide (w.core = j) = true then _ else _ : List Wt).map _ = _
    by_cases e : w.core = j
    · rw [if_pos (by simpa using e), if_pos (by simpa using e), List.map_cons, List.map_cons, ih]; rfl
    · rw [if_neg (by simpa using e), if_neg (by simpa using e), ih]
theorem inv_unpin {N : Nat} {e : E} {W : List Wt} {c : Nat} (h : InvS N e W 0 0) (hc : c < N) : InvS N (pinE e c 0) (W.map (clear c)) 0 0 where
  good := good_set_pin h.good _ _ (.inl rfl)
  len := by show (e.pins.set _ _).length = N; rw [List.length_set]; exact h.len
  lim j hj := by rw [filter_clear]; exact h.lim j hj
  dom w hw := by
    obtain ⟨v, hv, rfl⟩ := List.mem_map.1 hw
    obtain ⟨a, b⟩ := h.dom v hv
    exact ⟨a, by show (v.s.set c false).length = N; rw [List.length_set]; exact b⟩
  sees w hw j hj := by
    obtain ⟨v, hv, rfl⟩ := List.mem_map.1 hw
    have hj : (v.s.set c false)[j]? = some true := hj
    rw [List.getElem?_set] at hj
    by_cases e1 : c = j
    · rw [if_pos e1] at hj
      split at hj <;> simp at hj
    · rw [if_neg e1] at hj
      obtain ⟨a, b⟩ := h.sees v hv j hj
      show at' (e.pins.set (c : Int).toNat _) _ ≠ 0 ∧ at' (e.pins.set (c : Int).toNat _) _ - 1 ≤ _
      rw [Int.toNat_natCast, at_set (by rw [h.len]; exact hc), if_neg (fun e => e1 e.symm)]
      exact ⟨a, b⟩
theorem pn_at {e : E} {j : Nat} (h : (pnOf e)[j]? = some true) : j < e.pins.length ∧ at' e.pins (j : Int) ≠ 0 ∧ at' e.pins (j : Int) ∈ e.pins := by
  unfold pnOf at h
  rw [List.getElem?_map] at h
  cases hp : e.pins[j]? with
  | none => rw [hp] at h; cases h
  | some p =>
    rw [hp] at h
    have hp0 : p ≠ 0 := by simpa using h
    have ha : at' e.pins (j : Int) = p := by unfold at'; rw [Int.toNat_natCast, List.getD_eq_getElem?_getD, hp]; rfl
    exact ⟨(List.getElem?_eq_some_iff.1 hp).1, by rw [ha]; exact hp0, by rw [ha]; exact List.mem_of_getElem? hp⟩
theorem inv_ret {N : Nat} {e : E} {W : List Wt} {c g : Nat} {o : Int} (h : InvS N e W 0 0) (hc : c < N) (ho : 0 ≤ o ∧ o < 64) (h8 : (atL e.limbo (c : Int)).length < 8) : InvS N (limE e c (atL e.limbo c ++ [⟨o, e.now⟩])) (W ++ [⟨g, c, pnOf e, e.now⟩]) 0 0 := by
  have hp := good_parts h.good
  have hcl : c < e.limbo.length := by rw [hp.2.2.1, h.len]; exact hc
  have hh : has e (c : Int) = true := by unfold has; simp [h.good, h.len, hc]
  have hm := atL_good h.good hh
  have hl := good_limbo h.good hm
  refine ⟨good_set_lim h.good _ _ ⟨lim_snoc ho.1 ho.2 hp.2.2.2.1 hl.1, by rw [List.length_append]; simp; omega⟩, h.len, fun j hj => ?_, fun w hw => ?_, fun w hw j hj => ?_⟩
  · show _ = ((atL (e.limbo.set (c : Int).toNat _) _).map _).drop _
    have := h.lim j hj
    simp only [ite_self, List.drop_zero] at this ⊢
    rw [Int.toNat_natCast, atL_set hcl, List.filter_append, List.map_append, this]
    by_cases e1 : j = c
    · subst e1
      simp
    · rw [if_neg e1]
      have hf : ([⟨g, c, pnOf e, e.now⟩] : List Wt).filter (fun w => decide (w.core = j)) = [] := List.filter_eq_nil_iff.2 fun x hx => by
        rw [List.mem_singleton] at hx
        subst hx
        simp only [decide_eq_true_eq]
        exact fun q => e1 q.symm
      rw [hf]; simp
  · rcases List.mem_append.1 hw with hw | hw
    · exact h.dom w hw
    · simp only [List.mem_singleton] at hw
      subst hw
      exact ⟨hc, by show (pnOf e).length = N; unfold pnOf; rw [List.length_map]; exact h.len⟩
  · rcases List.mem_append.1 hw with hw | hw
    · exact h.sees w hw j hj
    · simp only [List.mem_singleton] at hw
      subst hw
      obtain ⟨a, b, d⟩ := pn_at hj
      refine ⟨b, ?_⟩
      show at' e.pins (j : Int) - 1 ≤ e.now
      rcases good_pins h.good d with q | q | q <;> omega
theorem inv_adv {N : Nat} {e : E} {W : List Wt} (h : InvS N e W 0 0) : InvS N (advS e).1 W 0 0 ∧ pnOf (advS e).1 = pnOf e := by
  have hg : good (advS e).1 = true := acts_good h.good ⟨3, 0, 0⟩
  have e1 : (advS e).1.pins = e.pins ∧ (advS e).1.limbo = e.limbo := by
    unfold advS
    repeat' split
    all_goals exact ⟨rfl, rfl⟩
  refine ⟨⟨hg, by rw [e1.1]; exact h.len, fun j hj => by rw [e1.2]; exact h.lim j hj, h.dom, fun w hw j hj => by rw [e1.1]; exact h.sees w hw j hj⟩, by unfold pnOf; rw [e1.1]⟩
/-- What is let go: old, and the rest. -/
def goes (e : E) (c : Nat) : List Ws := (atL e.limbo (c : Int)).filter (old (e.now - 2))
theorem goes_take {e : E} {c : Nat} (h : has e (c : Int) = true) : reapS e (c : Int) = (limE e c ((atL e.limbo (c : Int)).drop (goes e c).length), (goes e c).map Ws.obj) := by
  have hg := (has_parts h).2.2
  obtain ⟨g1, g2⟩ := lim_cut (t := e.now - 2) (good_limbo hg (atL_good hg h)).1
  have hl : (goes e c).length = min (stop (atL e.limbo (c : Int)) (e.now - 2) 0) (atL e.limbo (c : Int)).length := by
    unfold goes; rw [← g1, List.length_take]
  unfold reapS
  rw [if_neg (by rw [h]; decide), g1]
  refine Prod.ext ?_ rfl
  show limE e c _ = limE e c _
  congr 1
  rw [hl]
  by_cases hq : stop (atL e.limbo (c : Int)) (e.now - 2) 0 ≤ (atL e.limbo (c : Int)).length
  · rw [Nat.min_eq_left hq]
  · rw [Nat.min_eq_right (by omega), List.drop_of_length_le (by omega), List.drop_of_length_le (by omega)]
theorem inv_step {N : Nat} {e : E} {W : List Wt} {c k : Nat} (h : InvS N e W c k) (hc : c < N) (hk : k < (goes e c).length) :
    ∃ W1 w W2, W = W1 ++ w :: W2 ∧ (∀ x ∈ W1, x.core ≠ c) ∧ w.core = c ∧ (∀ (j : Nat) (b : Bool), w.s[j]? = some b → b = false) ∧ InvS N e (W1 ++ W2) c (k + 1) := by
  have hh : has e (c : Int) = true := by unfold has; simp [h.good, h.len, hc]
  obtain ⟨g1, _⟩ := lim_cut (t := e.now - 2) (good_limbo h.good (atL_good h.good hh)).1
  have hlim := h.lim c hc
  rw [if_pos rfl] at hlim
  have hpre : ∃ q, (atL e.limbo (c : Int))[k]? = some q ∧ q.epoch ≤ e.now - 2 := by
    have hq : (goes e c)[k]? = some (goes e c)[k] := List.getElem?_eq_getElem hk
    have hm : (goes e c)[k] ∈ goes e c := List.getElem_mem hk
    refine ⟨(goes e c)[k], ?_, ?_⟩
    · have h2 : ((atL e.limbo (c : Int)).take (stop (atL e.limbo (c : Int)) (e.now - 2) 0))[k]? = some (goes e c)[k] := by rw [g1]; exact hq
      rw [List.getElem?_take] at h2
      split at h2
      · exact h2
      · cases h2
    · have := (List.mem_filter.1 hm).2
      unfold old at this
      simpa using this
  obtain ⟨q, hq1, hq2⟩ := hpre
  obtain ⟨hkl, hqe⟩ := List.getElem?_eq_some_iff.1 hq1
  have hd : ((atL e.limbo (c : Int)).map Ws.epoch).drop k = q.epoch :: ((atL e.limbo (c : Int)).map Ws.epoch).drop (k + 1) := by
    rw [List.drop_eq_getElem_cons (by rw [List.length_map]; exact hkl), List.getElem_map, hqe]
  rw [hd] at hlim
  obtain ⟨w, r, hf, hwe, hr⟩ : ∃ w r, W.filter (fun w => decide (w.core = c)) = w :: r ∧ w.ep = q.epoch ∧ r.map (·.ep) = ((atL e.limbo (c : Int)).map Ws.epoch).drop (k + 1) := by
    cases hF : W.filter (fun w => decide (w.core = c)) with
    | nil => rw [hF] at hlim; cases hlim
    | cons w r =>
      rw [hF, List.map_cons] at hlim
      simp only [List.cons.injEq] at hlim
      exact ⟨w, r, rfl, hlim.1, hlim.2⟩
  obtain ⟨W1, W2, hW, hW1, hwc, hW2⟩ := List.filter_eq_cons_iff.1 hf
  have hwc : w.core = c := by simpa using hwc
  have hW1 : ∀ x ∈ W1, x.core ≠ c := fun x hx => by simpa using hW1 x hx
  have hwm : w ∈ W := by rw [hW]; simp
  refine ⟨W1, w, W2, hW, hW1, hwc, fun j b hj => ?_, ⟨h.good, h.len, fun j hj => ?_, fun x hx => h.dom x ?_, fun x hx => h.sees x ?_⟩⟩
  · cases b with
    | false => rfl
    | true =>
      obtain ⟨a, b⟩ := h.sees w hwm j hj
      have hjN : j < N := by have := lt_some hj; rw [(h.dom w hwm).2] at this; exact this
      have hm : at' e.pins (j : Int) ∈ e.pins := by
        unfold at'
        rw [Int.toNat_natCast, List.getD_eq_getElem?_getD, List.getElem?_eq_getElem (by rw [h.len]; exact hjN)]
        exact List.getElem_mem _
      rcases good_pins h.good hm with p | p | p <;> omega
  · by_cases e1 : j = c
    · subst e1
      rw [if_pos rfl, List.filter_append, List.filter_eq_nil_iff.2 (fun x hx => by simpa using hW1 x hx), List.nil_append, hW2, hr]
    · have := h.lim j hj
      rw [if_neg e1] at this ⊢
      rw [← this, hW, List.filter_append, List.filter_append, List.filter_cons, if_neg (by simpa [hwc] using fun q => e1 q.symm)]
  · rw [hW]; rcases List.mem_append.1 hx with hx | hx <;> simp [hx]
  · rw [hW]; rcases List.mem_append.1 hx with hx | hx <;> simp [hx]
theorem inv_reap {N : Nat} {e : E} {W : List Wt} {c : Nat} (h : InvS N e W c (goes e c).length) (hc : c < N) : InvS N (reapS e (c : Int)).1 W 0 0 ∧ pnOf (reapS e (c : Int)).1 = pnOf e := by
  have hh : has e (c : Int) = true := by unfold has; simp [h.good, h.len, hc]
  have hg : good (reapS e (c : Int)).1 = true := acts_good h.good ⟨4, c, 0⟩
  have hp := good_parts h.good
  have hcl : c < e.limbo.length := by rw [hp.2.2.1, h.len]; exact hc
  rw [goes_take hh] at hg ⊢
  refine ⟨⟨hg, h.len, fun j hj => ?_, h.dom, h.sees⟩, rfl⟩
  rw [h.lim j hj]
  show _ = ((atL (e.limbo.set (c : Int).toNat _) _).map _).drop _
  rw [Int.toNat_natCast, atL_set hcl]
  by_cases e1 : j = c
  · subst e1; rw [if_pos rfl, if_pos rfl]; simp [List.map_drop]
  · rw [if_neg e1, if_neg e1]; simp
end Safe
end Go.AI
namespace Go.AI
open Go
set_option linter.unusedVariables false
set_option linter.unusedSimpArgs false
namespace Safe
open Epoch Kit
theorem rs_len (W : List Wt) : (rsOf W).length = W.length := by unfold rsOf; rw [List.length_map]
theorem b8_len (W : List Wt) : (b8Of W).length = W.length := by unfold b8Of; rw [List.length_map]
theorem rs_at {W : List Wt} {k : Nat} {w : Wt} (h : W[k]? = some w) : (rsOf W)[k]? = some (w.g, w.s) := by unfold rsOf; rw [List.getElem?_map, h]; rfl
theorem rs_set (W : List Wt) (k : Nat) (w : Wt) : (rsOf W).set k (w.g, w.s) = rsOf (W.set k w) := by unfold rsOf; rw [List.map_set]
theorem part_at (W : List Wt) (c k : Nat) {w : Wt} (h : W[k]? = some w) : ((W.take k).map (clear c) ++ W.drop k)[k]? = some w := by
  have hk := lt_some h
  rw [List.getElem?_append_right (by rw [List.length_map, List.length_take]; omega), List.length_map, List.length_take, List.getElem?_drop, show k + (k - min k W.length) = k by omega]
  exact h
theorem part_set (W : List Wt) (c k : Nat) {w : Wt} (h : W[k]? = some w) : ((W.take k).map (clear c) ++ W.drop k).set k (clear c w) = (W.take (k + 1)).map (clear c) ++ W.drop (k + 1) := by
  have hk := lt_some h
  obtain ⟨_, hw⟩ := List.getElem?_eq_some_iff.1 h
  rw [List.set_append_right _ _ (by rw [List.length_map, List.length_take]; omega), List.length_map, List.length_take, show k - min k W.length = 0 by omega, List.drop_eq_getElem_cons hk, List.set_cons_zero, List.take_succ_eq_append_getElem hk, List.map_append, List.append_assoc, hw]
  rfl
theorem map_cut {β : Type} (f : Wt → β) (W1 W2 : List Wt) (w : Wt) : ((W1 ++ w :: W2).map f).take W1.length ++ ((W1 ++ w :: W2).map f).drop (W1.length + 1) = (W1 ++ W2).map f := by
  rw [List.map_append, List.map_cons, List.map_append, List.take_left' (List.length_map f)]
  rw [show W1.map f ++ f w :: W2.map f = (W1.map f ++ [f w]) ++ W2.map f by simp, List.drop_left' (by simp)]
section
variable {x0 : Int} {x1 : List (List DV)} {x7 : Nat} {x10 : Int} {x13 : List (List DV)} {x14 : Int} {n1 : Int} {p1 l1 b7 : List (List DV)} {o n2 : Int} {p2 l2 : List (List DV)} {i N c : Nat}
/-- Whoever unpins is seen by none any more. -/
theorem h21 (W : List Wt) (hW : ∀ w ∈ W, w.s.length = N) (hc : c < N) (hl : W.length ≤ 120)
    (nxt : law11_EpochSafe.H11 (SJ (rsOf (W.map (clear c))) i) x0 x1 x7 (b8Of W) (IntKind.i64.wrap (x10 + 1)) n2 p2 l2 b7 (true, ())) :
    ∀ m k, k + m = W.length → law11_EpochSafe.H21 (SJ (rsOf ((W.take k).map (clear c) ++ W.drop k)) i) x0 x1 x7 (b8Of W) x10 x13 x14 (k : Int) n1 p1 l1 b7 1 (c : Int) o n2 p2 l2 (true, ()) := by
  intro m
  induction m with
  | zero =>
    intro k hk
    refine law11_EpochSafe.H21_step (SJ.stab _ _) _ _ _ _ _ _ _ _ _ _ _ _ _ _ _ _ _ _ _ (fun T V => kp (r20 ?_))
    have e : decide ((k : Int) < ((rsOf ((W.take k).map (clear c) ++ W.drop k)).length : Int)) = false := by
      rw [rs_len, List.length_append, List.length_map, List.length_take, List.length_drop]
      exact decide_eq_false (by omega)
    rw [e]
    refine law11_EpochSafe.A20_step (SJ.stab _ _) _ _ _ _ _ _ _ _ _ _ _ _ _ _ _ _ _ _ _ _ (fun T V => ?_)
    rw [show ((1 : Int) == 2) = false from rfl, show decide ((1 : Int) < 0) = false from rfl, show decide ((1 : Int) > 3) = false from rfl]
    simp only [cF]
    refine kp ?_
    rw [show k = W.length by omega, List.take_length, List.drop_length, List.append_nil]
    exact nxt
  | succ m ih =>
    intro k hk
    refine law11_EpochSafe.H21_step (SJ.stab _ _) _ _ _ _ _ _ _ _ _ _ _ _ _ _ _ _ _ _ _ (fun T V => kp (r20 ?_))
    have e : decide ((k : Int) < ((rsOf ((W.take k).map (clear c) ++ W.drop k)).length : Int)) = true := by
      rw [rs_len, List.length_append, List.length_map, List.length_take, List.length_drop]
      exact decide_eq_true (by omega)
    rw [e]
    refine law11_EpochSafe.A20_step (SJ.stab _ _) _ _ _ _ _ _ _ _ _ _ _ _ _ _ _ _ _ _ _ _ (fun T V => ?_)
    simp only [cT]
    have hkl : k < W.length := by omega
    have hw : W[k]? = some W[k] := List.getElem?_eq_getElem hkl
    refine kp (r22 (rs_at (part_at W c k hw)) (by rw [hW _ (List.getElem_mem hkl)]; exact hc) ?_)
    have e2 : (rsOf ((W.take k).map (clear c) ++ W.drop k)).set k (W[k].g, W[k].s.set c false) = rsOf ((W.take (k + 1)).map (clear c) ++ W.drop (k + 1)) := by
      rw [← part_set W c k hw]; exact rs_set _ k (clear c W[k])
    rw [e2]
    refine law11_EpochSafe.A22_step (SJ.stab _ _) _ _ _ _ _ _ _ _ _ _ _ _ _ _ _ _ _ _ _ (fun T V => kp ?_)
    rw [wrap_succ (show k < 4611686018427387904 by omega)]
    exact ih (k + 1) (by omega)
/-- What is let go is seen by none. -/
theorem h37 {x16 : Int} (W1 W2 : List Wt) (w : Wt) (hN : x0 = (N : Int)) (hw : w.s.length = N) (hs : ∀ (j : Nat) (b : Bool), w.s[j]? = some b → b = false) (hl : (W1 ++ w :: W2).length ≤ 120) {kd : Int}
    (nxt : law11_EpochSafe.H29 (SJ (rsOf (W1 ++ W2)) i) x0 x1 x7 (b8Of (W1 ++ W2)) x10 x13 (IntKind.i64.wrap (x16 + 1)) n1 p1 l1 b7 kd (c : Int) o n2 p2 l2 (true, ())) :
    ∀ m j, j + m = N → N ≤ 64 → law11_EpochSafe.H37 (SJ (rsOf (W1 ++ w :: W2)) i) x0 x1 x7 (b8Of (W1 ++ w :: W2)) x10 x13 x16 (W1.length : Int) (j : Int) n1 p1 l1 b7 kd (c : Int) o n2 p2 l2 (true, ()) := by
  have hat : (W1 ++ w :: W2)[W1.length]? = some w := by simp
  have hl2 : W1.length + 1 + W2.length ≤ 120 := by rw [List.length_append, List.length_cons] at hl; omega
  intro m
  induction m with
  | zero =>
    intro j hj h64
    refine law11_EpochSafe.H37_step (SJ.stab _ _) _ _ _ _ _ _ _ _ _ _ _ _ _ _ _ _ _ _ _ _ (fun T V => ?_)
    rw [decide_eq_false (by omega), wrap_succ (show W1.length < 4611686018427387904 by omega)]
    have e1 : (b8Of (W1 ++ w :: W2)).take ((W1.length : Int).toNat - 0) ++ ((b8Of (W1 ++ w :: W2)).drop (0 + ((W1.length + 1 : Nat) : Int).toNat)).take ((((b8Of (W1 ++ w :: W2)).length : Nat) : Int).toNat - ((W1.length + 1 : Nat) : Int).toNat) = b8Of (W1 ++ W2) := by
      have h5 : ((b8Of (W1 ++ w :: W2)).drop (W1.length + 1)).take ((b8Of (W1 ++ w :: W2)).length - (W1.length + 1)) = (b8Of (W1 ++ w :: W2)).drop (W1.length + 1) := List.take_of_length_le (by rw [List.length_drop]; omega)
      rw [Int.toNat_natCast, Int.toNat_natCast, Int.toNat_natCast, Nat.sub_zero, Nat.zero_add, h5]
      exact map_cut _ W1 W2 w
    simp only [cF, needs_iff, e1]
    rw [Int.toNat_natCast, Nat.sub_zero]
    have e2 : (b8Of (W1 ++ w :: W2)).length = W1.length + (W2.length + 1) := by rw [b8_len, List.length_append, List.length_cons]
    have e3 : (b8Of (W1 ++ W2)).length = W1.length + W2.length := by rw [b8_len, List.length_append]
    refine ⟨⟨by omega, by omega, by omega⟩, ⟨by rw [List.length_take]; omega, by rw [List.length_take]; omega⟩, ⟨by omega, by omega, by omega⟩, trivial, ⟨by omega, by omega⟩, trivial, ?_⟩
    refine kp (r41 (by rw [rs_len, List.length_append, List.length_cons]; omega) (by rw [rs_len]; exact hl) ?_)
    have e4 : (rsOf (W1 ++ w :: W2)).eraseIdx W1.length = rsOf (W1 ++ W2) := by
      rw [List.eraseIdx_eq_take_drop_succ]
      exact map_cut _ W1 W2 w
    rw [e4]
    exact law11_EpochSafe.A41_step (SJ.stab _ _) _ _ _ _ _ _ _ _ _ _ _ _ _ _ _ _ _ _ (fun T V => kp nxt)
  | succ m ih =>
    intro j hj h64
    refine law11_EpochSafe.H37_step (SJ.stab _ _) _ _ _ _ _ _ _ _ _ _ _ _ _ _ _ _ _ _ _ _ (fun T V => ?_)
    rw [decide_eq_true (by omega)]
    simp only [cT]
    have hjl : j < w.s.length := by omega
    have hb : w.s[j]? = some false := by
      have := List.getElem?_eq_getElem hjl
      rw [this, hs j _ this]
    refine kp (r38 (rs_at hat) hb ?_)
    refine law11_EpochSafe.A38_step (SJ.stab _ _) _ _ _ _ _ _ _ _ _ _ _ _ _ _ _ _ _ _ _ _ _ (fun T V => ?_)
    simp only [cF]
    rw [wrap_succ (show j < 4611686018427387904 by omega)]
    exact kp (ih (j + 1) (by omega) h64)
/-- The first of that core. -/
theorem h32 {x16 : Int} (W1 W2 : List Wt) (w : Wt) (hN : x0 = (N : Int)) (h64 : N ≤ 64) (hw : w.s.length = N) (hwc : w.core = c) (hW1 : ∀ x ∈ W1, x.core ≠ c) (hs : ∀ (j : Nat) (b : Bool), w.s[j]? = some b → b = false) (hl : (W1 ++ w :: W2).length ≤ 120) {kd : Int}
    (nxt : law11_EpochSafe.H29 (SJ (rsOf (W1 ++ W2)) i) x0 x1 x7 (b8Of (W1 ++ W2)) x10 x13 (IntKind.i64.wrap (x16 + 1)) n1 p1 l1 b7 kd (c : Int) o n2 p2 l2 (true, ())) :
    ∀ m a, a + m = W1.length → law11_EpochSafe.H32 (SJ (rsOf (W1 ++ w :: W2)) i) x0 x1 x7 (b8Of (W1 ++ w :: W2)) x10 x13 x16 (a : Int) n1 p1 l1 b7 kd (c : Int) o n2 p2 l2 (true, ()) := by
  have hl2 : (b8Of (W1 ++ w :: W2)).length = W1.length + (W2.length + 1) := by rw [b8_len, List.length_append, List.length_cons]
  have hl3 : W1.length + (W2.length + 1) ≤ 120 := by rw [List.length_append, List.length_cons] at hl; exact hl
  intro m
  induction m with
  | zero =>
    intro a ha
    refine law11_EpochSafe.H32_step (SJ.stab _ _) _ _ _ _ _ _ _ _ _ _ _ _ _ _ _ _ _ _ _ (fun T V => ?_)
    have e1 : (b8Of (W1 ++ w :: W2))[0 + (a : Int).toNat]? = some (ei (w.core : Int)) := by
      rw [Int.toNat_natCast, Nat.zero_add, show a = W1.length by omega]
      unfold b8Of
      simp
    rw [decide_eq_true (by omega), e1]
    simp only [cT, optAll_so, n0_, needs_iff, hwc]
    refine ⟨⟨by omega, by omega⟩, ?_⟩
    rw [show ((c : Int) != (c : Int)) = false by simp, show ((a : Int) == (((b8Of (W1 ++ w :: W2)).length : Nat) : Int)) = false by rw [hl2]; simp; omega]
    simp only [cF]
    rw [show a = W1.length by omega]
    exact kp (h37 W1 W2 w hN hw hs hl nxt N 0 (by omega) h64)
  | succ m ih =>
    intro a ha
    refine law11_EpochSafe.H32_step (SJ.stab _ _) _ _ _ _ _ _ _ _ _ _ _ _ _ _ _ _ _ _ _ (fun T V => ?_)
    have hal : a < W1.length := by omega
    have e1 : (b8Of (W1 ++ w :: W2))[0 + (a : Int).toNat]? = some (ei (W1[a].core : Int)) := by
      rw [Int.toNat_natCast, Nat.zero_add]
      unfold b8Of
      rw [List.getElem?_map, List.getElem?_append_left hal, List.getElem?_eq_getElem hal]
      rfl
    rw [decide_eq_true (by omega), e1]
    simp only [cT, optAll_so, n0_, needs_iff]
    refine ⟨⟨by omega, by omega⟩, ?_⟩
    rw [show ((W1[a].core : Int) != (c : Int)) = true by have := hW1 _ (List.getElem_mem hal); simp; omega]
    simp only [cT]
    rw [wrap_succ (show a < 4611686018427387904 by omega)]
    exact kp (ih (a + 1) (by omega))
end
end Safe
end Go.AI
namespace Go.AI
open Go
set_option linter.unusedVariables false
set_option linter.unusedSimpArgs false
namespace Safe
open Epoch Kit
theorem hold_mono {J J' : JT} (hJ : ∀ T H, J T H → J' T H) {C : Cfg} {f : FuncId} {sh : List Sh} {ks : List AItem} {temps : List Nat} {vals : List AV} {blks : List Nat} {bvals : List (Option VBlk)} {nx : Nat} {c : tyS sh} (h : HoldAt J' C f sh ks temps vals blks bvals nx c) : HoldAt J C f sh ks temps vals blks bvals nx c :=
  fun T V hj => h T V (hJ _ _ hj)
theorem SJ.mono {rs : List (Nat × List Bool)} {i : Nat} (hi : i < 120) (T : Tmps) (H : Heap) (h : SJ rs i T H) : SJ rs (i + 1) T H := by
  obtain ⟨_, hn, v9, vr, h⟩ := h
  exact ⟨hi, hn, v9, vr, h.t9, h.h9, fun r hr => ⟨(h.inn r hr).1, by have := (h.inn r hr).2.1; omega, (h.inn r hr).2.2⟩, fun b h1 h2 => h.free b (by omega) h2⟩
theorem h29 {x0 : Int} {x1 : List (List DV)} {x7 : Nat} {x10 : Int} {n1 : Int} {p1 l1 b7 : List (List DV)} {o n2 : Int} {p2 l2 : List (List DV)} {i N c : Nat} {kd : Int} (e : E) (hN : x0 = (N : Int)) (h64 : N ≤ 64) (hc : c < N) (K : Nat) (hK : K ≤ 120)
    (nxt : ∀ W, InvS N e W c (goes e c).length → W.length ≤ K → law11_EpochSafe.H11 (SJ (rsOf W) i) x0 x1 x7 (b8Of W) (IntKind.i64.wrap (x10 + 1)) n2 p2 l2 b7 (true, ())) :
    ∀ m k (W : List Wt), k + m = (goes e c).length → InvS N e W c k → W.length ≤ K → law11_EpochSafe.H29 (SJ (rsOf W) i) x0 x1 x7 (b8Of W) x10 (((goes e c).map Ws.obj).map ei) (k : Int) n1 p1 l1 b7 kd (c : Int) o n2 p2 l2 (true, ()) := by
  intro m
  induction m with
  | zero =>
    intro k W hk hW hl
    refine law11_EpochSafe.H29_step (SJ.stab _ _) _ _ _ _ _ _ _ _ _ _ _ _ _ _ _ _ _ _ (fun T V => ?_)
    rw [List.length_map, List.length_map, decide_eq_false (by omega)]
    simp only [cF]
    exact kp (nxt W (by rw [← hk]; exact hW) hl)
  | succ m ih =>
    intro k W hk hW hl
    refine law11_EpochSafe.H29_step (SJ.stab _ _) _ _ _ _ _ _ _ _ _ _ _ _ _ _ _ _ _ _ (fun T V => ?_)
    rw [List.length_map, List.length_map, decide_eq_true (by omega)]
    simp only [cT]
    obtain ⟨W1, w, W2, rfl, g1, g2, g3, g4⟩ := inv_step hW hc (by omega)
    have hl' : W1.length + (W2.length + 1) ≤ K := by rw [List.length_append, List.length_cons] at hl; exact hl
    have hkl : (goes e c).length < 1000 := by
      have hh : has e (c : Int) = true := by unfold has; simp [hW.good, hW.len, hc]
      have := (good_limbo hW.good (atL_good hW.good hh)).2
      have h2 : (goes e c).length ≤ (atL e.limbo (c : Int)).length := List.length_filter_le _ _
      omega
    refine kp (h32 W1 W2 w hN h64 (hW.dom w (by simp)).2 g2 g1 g3 (by omega) ?_ W1.length 0 (by omega))
    rw [wrap_succ (show k < 4611686018427387904 by omega)]
    exact ih (k + 1) (W1 ++ W2) (by omega) g4 (by rw [List.length_append]; omega)
theorem bB_at {l : List Bool} {c : Nat} (h : c < l.length) : (bB l)[0 + c]? = some [DV.v (.bool l[c])] := by
  unfold bB; rw [Nat.zero_add, List.getElem?_map, List.getElem?_eq_getElem h]; rfl
theorem bB_set {l : List Bool} {c : Nat} {x y : Bool} : (bB l).set (0 + c) (putD [DV.v (.bool x)] 0 [DV.v (.bool y)]) = bB (l.set c y) := by
  unfold bB; rw [Nat.zero_add, List.map_set]; rfl
theorem pn_len (e : E) : (pnOf e).length = e.pins.length := by unfold pnOf; rw [List.length_map]
theorem pn_set (e : E) (c : Nat) (p : Int) : pnOf (pinE e (c : Int) p) = (pnOf e).set c (decide (p ≠ 0)) := by
  show (e.pins.set (c : Int).toNat p).map _ = _
  rw [Int.toNat_natCast, List.map_set]; rfl
theorem b8_clear (c : Nat) (W : List Wt) : b8Of (W.map (clear c)) = b8Of W := by unfold b8Of; rw [List.map_map]; rfl
theorem b8_snoc (W : List Wt) (w : Wt) : b8Of W ++ ([[DV.v (.int .i64 (w.core : Int))]] : List (List DV)).take 1 = b8Of (W ++ [w]) := by unfold b8Of; simp; rfl
theorem h11 (N : Nat) (hN : 1 ≤ N ∧ N ≤ 64) (l : List A) (hl : l.length ≤ 120) : ∀ m i (e : E) (W : List Wt), i + m = l.length → InvS N e W 0 0 → W.length ≤ i →
    law11_EpochSafe.H11 (SJ (rsOf W) i) (N : Int) (l.map encA) N (b8Of W) (i : Int) e.now (e.pins.map ei) (e.limbo.map Epoch.encL) (bB (pnOf e)) (true, ()) := by
  intro m
  induction m with
  | zero =>
    intro i e W hi hI hW
    refine law11_EpochSafe.H11_step (SJ.stab _ _) _ _ _ _ _ _ _ _ _ _ (fun T V => ?_)
    rw [List.length_map, decide_eq_false (by omega)]
    simp only [cF, live_ok, optAll_so]
  | succ m ih =>
    intro i e W hi hI hW
    have hil : i < l.length := by omega
    refine law11_EpochSafe.H11_step (SJ.stab _ _) _ _ _ _ _ _ _ _ _ _ (fun T V => ?_)
    rw [List.length_map, decide_eq_true (by omega), map_get _ _ _ (show ((i : Int)).toNat < l.length by omega)]
    have go : ∀ (e' : E) (W' : List Wt), InvS N e' W' 0 0 → W'.length ≤ i + 1 → law11_EpochSafe.H11 (SJ (rsOf W') (i + 1)) (N : Int) (l.map encA) N (b8Of W') (IntKind.i64.wrap ((i : Int) + 1)) e'.now (e'.pins.map ei) (e'.limbo.map Epoch.encL) (bB (pnOf e')) (true, ()) := fun e' W' h1 h2 => by
      rw [wrap_succ (show i < 4611686018427387904 by omega)]; exact ih (i + 1) e' W' (by omega) h1 h2
    have go' : ∀ (e' : E) (W' : List Wt), InvS N e' W' 0 0 → W'.length ≤ i + 1 → law11_EpochSafe.H11 (SJ (rsOf W') i) (N : Int) (l.map encA) N (b8Of W') (IntKind.i64.wrap ((i : Int) + 1)) e'.now (e'.pins.map ei) (e'.limbo.map Epoch.encL) (bB (pnOf e')) (true, ()) := fun e' W' h1 h2 =>
      hold_mono (SJ.mono (by omega)) (go e' W' h1 h2)
    generalize l[((i : Int)).toNat]'(by omega) = a
    simp only [cT, needs_nat, optAll_so, a0_, a1_, a2_, does_ok e a (good_small hI.good), tX, tE]
    have stay : (a.kind ≠ 3 → (acts e a).1 = e) → InvS N (acts e a).1 W 0 0 ∧ pnOf (acts e a).1 = pnOf e := fun h => by
      by_cases h3 : a.kind = 3
      · have : (acts e a).1 = (advS e).1 := by unfold acts; rw [if_neg (by omega), if_neg (by omega), if_neg (by omega), if_pos h3]
        rw [this]; exact inv_adv hI
      · rw [h h3]; exact ⟨hI, rfl⟩
    have noout : (has e a.core = false ∨ a.kind = 0 ∨ a.kind = 1 ∨ a.kind = 2 ∨ a.kind = 3) → (acts e a).2.1 = [] := fun h => by
      unfold acts
      by_cases h0 : a.kind = 0
      · rw [if_pos h0]
      rw [if_neg h0]
      by_cases h1 : a.kind = 1
      · rw [if_pos h1]
      rw [if_neg h1]
      by_cases h2 : a.kind = 2
      · rw [if_pos h2]
      rw [if_neg h2]
      by_cases h3 : a.kind = 3
      · rw [if_pos h3]
      rw [if_neg h3]
      have hh : has e a.core = false := by rcases h with h | h | h | h | h <;> first | exact h | omega
      unfold reapS
      rw [if_pos hh]
    have nohas : has e a.core = false → (a.kind ≠ 3 → (acts e a).1 = e) := fun hh h3 => by
      unfold acts pinS unpinS retS reapS
      simp only [hh, or_true, if_true, h3, if_false]
      repeat' split
      all_goals rfl
    by_cases c0 : a.core < 0
    · have hh : has e a.core = false := by unfold has; rw [decide_eq_false (by omega)]; rfl
      obtain ⟨s1, s2⟩ := stay (nohas hh)
      rw [decide_eq_false (show ¬ a.core ≥ 0 by omega), noout (.inl hh)]
      simp only [cF, List.map_nil, List.length_nil]
      rw [show decide (((0 : Nat) : Int) > 0) = false from rfl]
      simp only [cF]
      rw [← s2]
      exact kp (go' _ W s1 (by omega))
    have c0 : a.core ≥ 0 := by omega
    rw [decide_eq_true c0]
    by_cases c1 : ¬ a.core < N
    · have hh : has e a.core = false := by unfold has; rw [decide_eq_false (show ¬ a.core < (e.pins.length : Int) by rw [hI.len]; exact c1)]; simp
      obtain ⟨s1, s2⟩ := stay (nohas hh)
      rw [decide_eq_false c1, noout (.inl hh)]
      simp only [cT, cF, List.map_nil, List.length_nil]
      rw [show decide (((0 : Nat) : Int) > 0) = false from rfl]
      simp only [cF]
      rw [← s2]
      exact kp (go' _ W s1 (by omega))
    have c1 : a.core < N := by omega
    rw [decide_eq_true c1]
    simp only [cT]
    obtain ⟨c, hc⟩ := Int.eq_ofNat_of_zero_le c0
    have hcN : c < N := by omega
    have hh : has e (c : Int) = true := by unfold has; simp [hI.good, hI.len, hcN]
    have hpl : c < (pnOf e).length := by rw [pn_len, hI.len]; exact hcN
    rw [hc]
    have hcr : (0 : Int) ≤ (c : Int) ∧ (c : Int) < ((N : Nat) : Int) := ⟨by omega, by omega⟩
    by_cases k0 : a.kind = 0
    · have ea : acts e a = ((pinS e c).1, [], (pinS e c).2) := by unfold acts; rw [if_pos k0, hc]
      rw [ea, k0]
      rw [show ((0 : Int) == 0) = true from rfl, show ((0 : Int) == 1) = false from rfl, show ((0 : Int) == 2) = false from rfl, show decide ((0 : Int) < 0) = false from rfl, show decide ((0 : Int) > 3) = false from rfl]
      simp only [cT, cF, needs_iff, Int.toNat_natCast, bB_at hpl, optAll_so, bB_set]
      by_cases p0 : at' e.pins (c : Int) = 0
      · have ep : pinS e c = (pinE e c (e.now + 1), 0) := by unfold pinS; rw [if_neg (by rw [hh]; decide), if_neg (by rw [p0]; decide)]
        rw [ep]
        rw [show ((0 : Int) == 0) = true from rfl]
        simp only [cT]
        refine ⟨hcr, by simp, ?_⟩
        have hn := (good_parts hI.good).2.2.2.1
        have h1 := go' _ W (inv_pin hI hcN p0) (by omega)
        rw [pn_set, decide_eq_true (show e.now + 1 ≠ 0 by omega)] at h1
        exact kp h1
      · have ep : pinS e c = (e, 8) := by unfold pinS; rw [if_neg (by rw [hh]; decide), if_pos p0]
        rw [ep]
        rw [show ((8 : Int) == 0) = false from rfl]
        simp only [cF]
        exact kp (go' _ W hI (by omega))
    rw [show (a.kind == 0) = false by simpa using k0]
    simp only [cF]
    by_cases k1 : a.kind = 1
    · have ea : acts e a = ((unpinS e c).1, [], (unpinS e c).2) := by unfold acts; rw [if_neg k0, if_pos k1, hc]
      rw [ea, k1]
      rw [show ((1 : Int) == 1) = true from rfl, show ((1 : Int) == 2) = false from rfl, show decide ((1 : Int) < 0) = false from rfl, show decide ((1 : Int) > 3) = false from rfl]
      simp only [cT, cF, needs_iff, Int.toNat_natCast, bB_at hpl, optAll_so, bB_set]
      by_cases p0 : at' e.pins (c : Int) = 0
      · have ep : unpinS e c = (e, 7) := by unfold unpinS; rw [if_neg (by rw [hh]; decide), if_pos p0]
        rw [ep]
        rw [show ((7 : Int) == 0) = false from rfl]
        simp only [cF]
        exact kp (go' _ W hI (by omega))
      · have ep : unpinS e c = (pinE e c 0, 0) := by unfold unpinS; rw [if_neg (by rw [hh]; decide), if_neg p0]
        rw [ep]
        rw [show ((0 : Int) == 0) = true from rfl]
        simp only [cT]
        refine ⟨hcr, by simp, kp ?_⟩
        have h1 := go' _ (W.map (clear c)) (inv_unpin hI hcN) (by rw [List.length_map]; omega)
        rw [pn_set, show decide ((0 : Int) ≠ 0) = false from rfl, b8_clear] at h1
        exact h21 W (fun w hw => (hI.dom w hw).2) hcN (by omega) h1 W.length 0 (by omega)
    rw [show (a.kind == 1) = false by simpa using k1]
    simp only [cF]
    by_cases k2 : a.kind = 2
    · have ea : acts e a = ((retS e c a.obj).1, [], (retS e c a.obj).2) := by unfold acts; rw [if_neg k0, if_neg k1, if_pos k2, hc]
      rw [ea, k2]
      rw [show ((2 : Int) == 2) = true from rfl, show decide ((2 : Int) < 0) = false from rfl, show decide ((2 : Int) > 3) = false from rfl]
      simp only [cT, cF, needs_iff]
      by_cases o1 : a.obj < 0 ∨ a.obj ≥ 64 ∨ has e (c : Int) = false
      · have ep : retS e c a.obj = (e, 2) := by unfold retS; rw [if_pos o1]
        rw [ep]
        rw [show ((2 : Int) == 0) = false from rfl]
        simp only [cF]
        exact kp (go' _ W hI (by omega))
      by_cases o2 : 8 ≤ (atL e.limbo (c : Int)).length
      · have ep : retS e c a.obj = (e, 5) := by unfold retS; rw [if_neg o1, if_pos o2]
        rw [ep]
        rw [show ((5 : Int) == 0) = false from rfl]
        simp only [cF]
        exact kp (go' _ W hI (by omega))
      have ep : retS e c a.obj = (limE e c (atL e.limbo c ++ [⟨a.obj, e.now⟩]), 0) := by unfold retS; rw [if_neg o1, if_neg o2]
      rw [ep]
      rw [show ((0 : Int) == 0) = true from rfl]
      simp only [cT]
      have h1 := go _ (W ++ [⟨20 + i, c, pnOf e, e.now⟩]) (inv_ret (g := 20 + i) hI hcN ⟨Int.not_lt.1 fun q => o1 (.inl q), Int.not_le.1 fun q => o1 (.inr (.inl q))⟩ (by omega)) (by rw [List.length_append]; simp; omega)
      rw [b8_snoc W ⟨20 + i, c, pnOf e, e.now⟩]
      have hbl : (b8Of (W ++ [⟨20 + i, c, pnOf e, e.now⟩])).length = W.length + 1 := by rw [b8_len, List.length_append]; rfl
      refine ⟨trivial, ⟨by rw [hbl]; omega, by rw [hbl]; omega⟩, kp ?_⟩
      have e5 : N = (pnOf e).length := by rw [pn_len, hI.len]
      have h2 := law11_EpochSafe.A25_1049488_step (SJ.stab (rsOf (W ++ [⟨20 + i, c, pnOf e, e.now⟩])) (i + 1)) (N : Int) (l.map encA) N (b8Of (W ++ [⟨20 + i, c, pnOf e, e.now⟩])) (i : Int) [] e.now (e.pins.map ei) (e.limbo.map Epoch.encL) (bB (pnOf e)) 2 (c : Int) a.obj _ _ _ (true, ()) (fun T V => by
        rw [show decide ((2 : Int) < 0) = false from rfl, show decide ((2 : Int) > 3) = false from rfl]
        simp only [cF]
        exact kp h1)
      rw [show rsOf (W ++ [⟨20 + i, c, pnOf e, e.now⟩]) = rsOf W ++ [(20 + i, pnOf e)] by unfold rsOf; simp] at h2
      revert h2
      rw [e5]
      exact fun h2 => r25 (by omega) (by rw [rs_len]; omega) (by rw [pn_len, hI.len]; omega) h2
    rw [show (a.kind == 2) = false by simpa using k2]
    simp only [cF]
    by_cases k3 : a.kind = 3
    · obtain ⟨s1, s2⟩ := stay (fun h => absurd k3 h)
      rw [k3]
      rw [show decide ((3 : Int) < 0) = false from rfl, show decide ((3 : Int) > 3) = false from rfl]
      simp only [cF]
      rw [← s2]
      exact kp (go' _ W s1 (by omega))
    have ea : acts e a = ((reapS e c).1, (reapS e c).2, 0) := by unfold acts; rw [if_neg k0, if_neg k1, if_neg k2, if_neg k3, hc]
    have er : (reapS e (c : Int)).2 = (goes e c).map Ws.obj := by rw [goes_take hh]
    have fin : law11_EpochSafe.H29 (SJ (rsOf W) i) (N : Int) (l.map encA) N (b8Of W) (i : Int) (((goes e c).map Ws.obj).map ei) ((0 : Nat) : Int) e.now (e.pins.map ei) (e.limbo.map Epoch.encL) (bB (pnOf e)) a.kind (c : Int) a.obj (reapS e c).1.now ((reapS e c).1.pins.map ei) ((reapS e c).1.limbo.map Epoch.encL) (true, ()) := by
      refine h29 e rfl hN.2 hcN W.length (by omega) (fun W' h1 h2 => ?_) (goes e c).length 0 W (by omega) (hI.any c) (Nat.le_refl _)
      obtain ⟨s1, s2⟩ := inv_reap h1 hcN
      rw [← s2]
      exact go' _ W' s1 (by omega)
    rw [ea, er]
    by_cases kn : a.kind < 0
    · rw [decide_eq_true kn]; simp only [cT]; exact kp fin
    · rw [decide_eq_false kn, decide_eq_true (show a.kind > 3 by omega)]; simp only [cT, cF]; exact kp fin
theorem safe_law (n : Int) (l : List A) : law11_EpochSafe.R n (l.map encA) = some (true, ()) := by
  refine law11_EpochSafe.start (SJ.stab [] 0) SJ.new _ _ _ ?_
  simp only [List.length_map, live_ok, optAll_so]
  by_cases h1 : n < 1
  · rw [decide_eq_true h1]; trivial
  rw [decide_eq_false h1]
  by_cases h2 : n > 64
  · rw [decide_eq_true h2]; trivial
  rw [decide_eq_false h2]
  by_cases h3 : (l.length : Int) > 120
  · rw [decide_eq_true h3]; trivial
  rw [decide_eq_false h3]
  obtain ⟨hg, e2⟩ := newS_good (n := n) (by omega)
  simp only [cF, newS_ok, optAll_so, tS, tE, num_ok, e2]
  rw [show ((0 : Int) != 0) = false from rfl]
  simp only [cF, needs_iff]
  obtain ⟨N, rfl⟩ := Int.eq_ofNat_of_zero_le (show 0 ≤ n by omega)
  have hE : (newS (N : Int)).1 = ⟨1, List.replicate N 0, List.replicate N []⟩ := by unfold newS; rw [if_neg (by omega), Int.toNat_natCast]
  refine ⟨⟨trivial, by omega, by omega, by omega⟩, by simp, ks ?_⟩
  have hI : InvS N (newS (N : Int)).1 [] 0 0 := by
    refine ⟨hg, by rw [hE]; simp, fun j hj => ?_, fun w hw => absurd hw (by simp), fun w hw => absurd hw (by simp)⟩
    rw [hE]
    simp [atL, List.getD_eq_getElem?_getD, hj]
  have h := h11 N ⟨by omega, by omega⟩ l (by omega) l.length 0 _ [] (by omega) hI (by simp)
  have e3 : bB (pnOf (newS (N : Int)).1) = List.replicate ((N : Int).toNat) [DV.v (.bool false)] := by
    rw [hE, Int.toNat_natCast]
    simp [bB, pnOf]
  rw [e3] at h
  rw [List.length_replicate, Int.toNat_natCast] at *
  exact h
end Safe
end Go.AI
