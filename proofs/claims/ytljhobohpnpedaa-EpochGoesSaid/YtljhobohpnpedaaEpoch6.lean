/-
  Own work. The epochs: two advances let all go that waits.
-/
import Derived.Test.YtljhobohpnpedaaEpoch5
import Derived.Test.YtljhobohpnpedaaToldGo
namespace Go.AI
open Go
set_option linter.unusedVariables false
set_option linter.unusedSimpArgs false
namespace Epoch
open Kit
def encO (l : List Ws) : List DV := [.lst 1 ((l.map Ws.obj).map ei)]
theorem o0_ (l : List Ws) : dLst 1 (encO l) 0 = some ((l.map Ws.obj).map ei) := rfl
theorem acts_plen (e : E) (a : A) : (acts e a).1.pins.length = e.pins.length := by
  unfold acts pinS unpinS retS advS reapS pinE limE
  repeat' split
  all_goals simp
theorem unpin_good {e : E} (h : good e = true) (c : Int) : good (unpinS e c).1 = true := acts_good h ⟨1, c, 0⟩
theorem adv_good {e : E} (h : good e = true) : good (advS e).1 = true := acts_good h ⟨3, 0, 0⟩
theorem reap_good {e : E} (h : good e = true) (c : Int) : good (reapS e c).1 = true := acts_good h ⟨4, c, 0⟩
theorem unpin_zero {e : E} (h : good e = true) {c : Nat} (hc : c < e.pins.length) (hz : ∀ j : Nat, j < c → e.pins[j]? = some 0) :
    (unpinS e c).1.pins.length = e.pins.length ∧ (unpinS e c).1.now = e.now ∧ ∀ j : Nat, j < c + 1 → (unpinS e c).1.pins[j]? = some 0 := by
  have hh : has e c = true := by unfold has; simp [h, hc]
  have ha : e.pins[c]? = some (at' e.pins c) := by unfold at'; simp [List.getD, hc]
  unfold unpinS
  rw [if_neg (by rw [hh]; decide)]
  split
  · rename_i h0
    refine ⟨rfl, rfl, fun j hj => ?_⟩
    by_cases e1 : j = c
    · subst e1; rw [ha, h0]
    · exact hz j (by omega)
  · refine ⟨by simp [pinE], rfl, fun j hj => ?_⟩
    show (e.pins.set (c : Int).toNat 0)[j]? = some 0
    rw [Int.toNat_natCast, List.getElem?_set]
    by_cases e1 : c = j
    · rw [if_pos e1, if_pos (by omega)]
    · rw [if_neg e1]; exact hz j (by omega)
theorem adv_zero {e : E} (h : good e = true) (hz : ∀ p ∈ e.pins, p = 0) (hn : e.now < 1099511627776) : advS e = ({ e with now := e.now + 1 }, true) := by
  have hp := good_parts h
  unfold advS
  rw [if_neg (by rw [h]; decide), if_neg (by omega), if_neg]
  rw [List.any_eq_true]
  rintro ⟨p, hm, he⟩
  have := hz p hm
  simp at he
  omega
theorem lim_all {now : Int} : ∀ {l : List Ws} {a : Int}, limOK l a now = true → ∀ w ∈ l, w.epoch ≤ now
  | w :: r, a, h, x, hx => by
    unfold limOK at h
    simp only [Bool.and_eq_true, decide_eq_true_eq] at h
    rcases List.mem_cons.1 hx with rfl | hx
    · exact h.1.2
    · exact lim_all h.2 x hx
theorem reap_all {e : E} (h : good e = true) {c : Nat} {l : List Ws} (hl : e.limbo[c]? = some l) (ho : ∀ w ∈ l, w.epoch ≤ e.now - 2) : reapS e c = (limE e c [], l.map Ws.obj) := by
  have hp := good_parts h
  have hc : c < e.limbo.length := by
    by_cases hc : c < e.limbo.length
    · exact hc
    · rw [List.getElem?_eq_none (by omega)] at hl; cases hl
  have hh : has e c = true := by unfold has; simp [h]; omega
  have ha : atL e.limbo c = l := by unfold atL; simp [List.getD, hl]
  have hm : l ∈ e.limbo := List.mem_of_getElem? hl
  obtain ⟨g1, g2⟩ := lim_cut (t := e.now - 2) (good_limbo h hm).1
  unfold reapS
  rw [if_neg (by rw [hh]; decide), ha, g1, g2]
  have f1 : l.filter (old (e.now - 2)) = l := List.filter_eq_self.2 fun w hw => by unfold old; simpa using ho w hw
  have f2 : l.filter (fun w => !old (e.now - 2) w) = [] := List.filter_eq_nil_iff.2 fun w hw => by unfold old; simpa using ho w hw
  rw [f1, f2]
theorem reaps_loop (N : Nat) (L : List (List Ws)) (hN : N ≤ 64) (hL : L.length = N) (M : Int) (hold : ∀ l ∈ L, ∀ w ∈ l, w.epoch ≤ M - 2) (b : List (List DV)) : ∀ (m c : Nat) (e : E), c + m = N → good e = true → e.now = M → e.limbo.length = N → (∀ j : Nat, c ≤ j → e.limbo[j]? = L[j]?) →
    law11_EpochGoes.H30_4194304 N (L.map encO) c e.now (e.pins.map ei) (e.limbo.map encL) b (true, ()) := by
  intro m
  induction m with
  | zero =>
    intro c e hc hg hn hl hj
    refine law11_EpochGoes.H30_4194304_step _ _ _ _ _ _ _ _ ?_
    rw [decide_eq_false (by omega)]
    simp only [cF, live_ok, optAll_so]
  | succ m ih =>
    intro c e hc hg hn hl hj
    refine law11_EpochGoes.H30_4194304_step _ _ _ _ _ _ _ _ ?_
    have hcL : c < L.length := by omega
    have hs := good_small hg
    have hle : e.limbo[c]? = some L[c] := by rw [hj c (Nat.le_refl _), List.getElem?_eq_getElem hcL]
    have hle8 : (L[c]).length ≤ 8 := (good_limbo hg (List.mem_of_getElem? hle)).2
    have hr := reap_all hg hle (fun w hw => by rw [hn]; exact hold _ (List.getElem_mem hcL) w hw)
    have hg2 := reap_good hg c
    rw [hr] at hg2
    rw [decide_eq_true (by omega)]
    simp only [cT, reapS_ok e c hs, optAll_so, hr, tR, tE, needs_iff, List.length_map, Nat.zero_add, Int.toNat_natCast, map_get _ _ _ hcL, o0_]
    refine ⟨⟨by omega, by omega⟩, ?_⟩
    rw [ints_ok _ _ (by rw [List.length_map]; omega), decide_eq_true rfl]
    have hll : (limE e c []).limbo.length = N := by unfold limE; simpa using hl
    have hcl : c < (limE e c []).limbo.length := by omega
    have hget : (limE e c []).limbo[c] = [] := by unfold limE; simp
    simp only [optAll_so, Bool.not_true, cF, hll, map_get _ _ _ hcl, hget, l0_, List.map_nil, List.length_nil, wrap_succ (show c < 4611686018427387904 by omega)]
    rw [show (((N : Int)) != (N : Int)) = false by simp]
    simp only [cF]
    refine ⟨by omega, ?_⟩
    have go := ih (c + 1) (limE e c []) (by omega) hg2 hn hll (fun j hcj => by
      show (e.limbo.set (c : Int).toNat [])[j]? = _
      rw [Int.toNat_natCast, List.getElem?_set_ne (by omega)]
      exact hj j (by omega))
    exact go
theorem goes_last (N : Nat) (hN : 1 ≤ N ∧ N ≤ 64) (e : E) (hg : good e = true) (hl : e.pins.length = N) (hn : e.now < 1099511627770) (hz : ∀ p ∈ e.pins, p = 0) (b : List (List DV)) :
    law11_EpochGoes.H17_3145728 N (e.limbo.map encO) e.limbo.length e.now (e.pins.map ei) (e.limbo.map encL) b (true, ()) := by
  refine law11_EpochGoes.H17_3145728_step _ _ _ _ _ _ _ _ ?_
  have hp := good_parts hg
  have h1 := adv_zero hg hz (by omega)
  have g1 : good { e with now := e.now + 1 } = true := by have := adv_good hg; rw [h1] at this; exact this
  have h2 := adv_zero (e := { e with now := e.now + 1 }) g1 hz (by show e.now + 1 < _; omega)
  have g2 : good { e with now := e.now + 1 + 1 } = true := by have := adv_good g1; rw [h2] at this; exact this
  have a1 := advS_ok e (good_small hg)
  have a2 := advS_ok { e with now := e.now + 1 } (good_small g1)
  rw [h1] at a1
  rw [h2] at a2
  rw [List.length_map, decide_eq_false (by omega), a1]
  simp only [cF, optAll_so, tV, tE, List.length_map] at a2 ⊢
  rw [a2]
  simp only [optAll_so, Bool.not_true, cF]
  rw [show ((e.limbo.length : Int) != (N : Int)) = false by simp; omega]
  simp only [cF]
  exact reaps_loop N e.limbo hN.2 (by omega) (e.now + 1 + 1) (fun l hlm w hw => by have := lim_all (good_limbo hg hlm).1 w hw; omega) b N 0 { e with now := e.now + 1 + 1 } (by omega) g2 rfl (by show e.limbo.length = N; omega) (fun j _ => rfl)
theorem goes_col (N : Nat) (e : E) (b9 : List (List DV)) (hb : b9.length ≤ 64) (c : Nat) (hc : c < e.limbo.length) (hc2 : c ≤ 64) (h8 : (e.limbo[c]).length ≤ 8)
    (nxt : law11_EpochGoes.H17_3145728 N (b9 ++ [encO e.limbo[c]]) ((c + 1 : Nat) : Int) e.now (e.pins.map ei) (e.limbo.map encL) [] (true, ())) : ∀ (m i : Nat), i + m = (e.limbo[c]).length →
    law11_EpochGoes.H21 N b9 c ((((e.limbo[c]).take i).map Ws.obj).map ei) i e.now (e.pins.map ei) (e.limbo.map encL) (true, ()) := by
  intro m
  induction m with
  | zero =>
    intro i hi
    refine law11_EpochGoes.H21_step _ _ _ _ _ _ _ _ _ ?_
    simp only [needs_nat, Int.toNat_natCast, map_get _ _ _ hc, optAll_so, l0_, List.length_map]
    rw [decide_eq_false (by omega), List.take_of_length_le (show (e.limbo[c]).length ≤ i by omega)]
    simp only [cF, needs_iff]
    refine ⟨trivial, by simp; omega, ?_⟩
    rw [wrap_succ (show c < 4611686018427387904 by omega)]
    have e1 : ((([[DV.lst 1 ((((e.limbo[c]).map Ws.obj).map ei).take (e.limbo[c]).length)]] : List (List DV)).take 1)) = [encO e.limbo[c]] := by
      unfold encO
      rw [List.take_of_length_le (show (((e.limbo[c]).map Ws.obj).map ei).length ≤ (e.limbo[c]).length by simp)]; rfl
    rw [e1]
    exact nxt
  | succ m ih =>
    intro i hi
    refine law11_EpochGoes.H21_step _ _ _ _ _ _ _ _ _ ?_
    have hil : i < (e.limbo[c]).length := by omega
    simp only [needs_nat, Int.toNat_natCast, map_get _ _ _ hc, optAll_so, l0_, List.length_map]
    rw [decide_eq_true (by omega)]
    simp only [cT, map_get _ _ _ hil, optAll_so, w0_, needs_iff, wrap_succ (show i < 4611686018427387904 by omega)]
    refine ⟨trivial, by simp [List.length_take]; omega, ?_⟩
    have e1 : (((e.limbo[c]).take i).map Ws.obj).map ei ++ ([[DV.v (Value.int IntKind.i64 (e.limbo[c])[i].obj)]] : List (List DV)).take 1 = (((e.limbo[c]).take (i + 1)).map Ws.obj).map ei := by
      rw [List.take_succ_eq_append_getElem hil, List.map_append, List.map_append]; rfl
    rw [e1]
    exact ih (i + 1) (by omega)
theorem goes_cols (N : Nat) (hN : 1 ≤ N ∧ N ≤ 64) (e : E) (hg : good e = true) (hl : e.pins.length = N) (hn : e.now < 1099511627770) (hz : ∀ p ∈ e.pins, p = 0) : ∀ (m c : Nat), c + m = e.limbo.length →
    law11_EpochGoes.H17_3145728 N ((e.limbo.take c).map encO) c e.now (e.pins.map ei) (e.limbo.map encL) [] (true, ()) := by
  have hp := good_parts hg
  intro m
  induction m with
  | zero =>
    intro c hc
    have := goes_last N hN e hg hl hn hz []
    rw [show c = e.limbo.length by omega, List.take_length]
    exact this
  | succ m ih =>
    intro c hc
    refine law11_EpochGoes.H17_3145728_step _ _ _ _ _ _ _ _ ?_
    have hcl : c < e.limbo.length := by omega
    rw [List.length_map, decide_eq_true (by omega)]
    have go := ih (c + 1) (by omega)
    rw [List.take_succ_eq_append_getElem hcl, List.map_append] at go
    exact goes_col N e _ (by simp [List.length_take]; omega) c hcl (by omega) (good_limbo hg (List.getElem_mem hcl)).2 go (e.limbo[c]).length 0 (by omega)
theorem goes_first (N : Nat) (hN : 1 ≤ N ∧ N ≤ 64) (e : E) (hg : good e = true) (hl : e.pins.length = N) (hn : e.now < 1099511627770) (hz : ∀ p ∈ e.pins, p = 0) :
    law11_EpochGoes.H17 N [] 0 e.now (e.pins.map ei) (e.limbo.map encL) (true, ()) := by
  have hp := good_parts hg
  refine law11_EpochGoes.H17_step _ _ _ _ _ _ _ ?_
  have hcl : 0 < e.limbo.length := by omega
  rw [List.length_map, decide_eq_true (by omega)]
  have go := goes_cols N hN e hg hl hn hz (e.limbo.length - 1) 1 (by omega)
  rw [show (1 : Nat) = 0 + 1 from rfl, List.take_succ_eq_append_getElem hcl, List.map_append] at go
  exact goes_col N e [] (by simp) 0 hcl (by omega) (good_limbo hg (List.getElem_mem hcl)).2 go (e.limbo[0]).length 0 (by omega)
theorem goes_unpin (N : Nat) (hN : 1 ≤ N ∧ N ≤ 64) : ∀ (m c : Nat) (e : E), c + m = N → good e = true → e.pins.length = N → e.now < 1099511627770 → (∀ j : Nat, j < c → e.pins[j]? = some 0) →
    law11_EpochGoes.H12 N c e.now (e.pins.map ei) (e.limbo.map encL) (true, ()) := by
  intro m
  induction m with
  | zero =>
    intro c e hc hg hl hn hz
    refine law11_EpochGoes.H12_step _ _ _ _ _ _ ?_
    rw [decide_eq_false (by omega)]
    refine goes_first N hN e hg hl hn fun p hm => ?_
    obtain ⟨j, hj, rfl⟩ := List.mem_iff_getElem.1 hm
    have := hz j (by omega)
    rw [List.getElem?_eq_getElem hj] at this
    simpa using this
  | succ m ih =>
    intro c e hc hg hl hn hz
    refine law11_EpochGoes.H12_step _ _ _ _ _ _ ?_
    obtain ⟨u1, u2, u3⟩ := unpin_zero hg (c := c) (by omega) hz
    rw [decide_eq_true (by omega), unpinS_ok e c (good_small hg)]
    simp only [cT, optAll_so, tS, tE, wrap_succ (show c < 4611686018427387904 by omega)]
    exact ih (c + 1) (unpinS e c).1 (by omega) (unpin_good hg c) (by omega) (by omega) u3
theorem goes_acts (N : Nat) (hN : 1 ≤ N ∧ N ≤ 64) (l : List A) (hl : l.length ≤ 120) : ∀ (m i : Nat) (e : E), i + m = l.length → good e = true → e.pins.length = N → e.now ≤ 1 + (i : Int) →
    law11_EpochGoes.H8 N (l.map encA) i e.now (e.pins.map ei) (e.limbo.map encL) (true, ()) := by
  intro m
  induction m with
  | zero =>
    intro i e hi hg hp hn
    refine law11_EpochGoes.H8_step _ _ _ _ _ _ _ ?_
    rw [List.length_map, decide_eq_false (by omega)]
    exact goes_unpin N hN N 0 e (by omega) hg hp (by omega) (fun j hj => absurd hj (by omega))
  | succ m ih =>
    intro i e hi hg hp hn
    refine law11_EpochGoes.H8_step _ _ _ _ _ _ _ ?_
    have hil : i < l.length := by omega
    rw [List.length_map, decide_eq_true (by omega)]
    simp only [cT, needs_nat, Int.toNat_natCast, map_get _ _ _ hil, optAll_so, a0_, a1_, a2_, does_ok e l[i] (good_small hg), tX, tE, wrap_succ (show i < 4611686018427387904 by omega)]
    have hnow : (acts e l[i]).1.now ≤ e.now + 1 := by rcases acts_now hg l[i] with h | h <;> omega
    exact ih (i + 1) (acts e l[i]).1 (by omega) (acts_good hg _) (by rw [acts_plen]; exact hp) (by omega)
theorem goes_law (n : Int) (l : List A) : law11_EpochGoes.R n (l.map encA) = some (true, ()) := by
  refine law11_EpochGoes.start _ _ _ ?_
  simp only [List.length_map, live_ok, optAll_so]
  by_cases h1 : n < 1
  · rw [decide_eq_true h1]; trivial
  rw [decide_eq_false h1]
  by_cases h2 : n > 64
  · rw [decide_eq_true h2]; trivial
  rw [decide_eq_false h2]
  by_cases h3 : (l.length : Int) > 120
  · rw [decide_eq_true h3]; trivial
  rw [decide_eq_false h3]
  obtain ⟨hg, e2⟩ := newS_good (n := n) (by omega)
  simp only [cF, newS_ok, optAll_so, tS, tE, num_ok, e2]
  rw [show ((0 : Int) != 0) = false from rfl]
  simp only [cF]
  obtain ⟨N, rfl⟩ := Int.eq_ofNat_of_zero_le (show 0 ≤ n by omega)
  have hE : (newS (N : Int)).1 = ⟨1, List.replicate N 0, List.replicate N []⟩ := by unfold newS; rw [if_neg (by omega), Int.toNat_natCast]
  exact goes_acts N ⟨by omega, by omega⟩ l (by omega) l.length 0 (newS (N : Int)).1 (by omega) hg (by rw [hE]; simp) (by rw [hE]; simp)
end Epoch
end Go.AI
