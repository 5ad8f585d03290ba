/-
  Own work. The epochs' laws: EpochFull, EpochOne.
-/
import Derived.Test.YtljhobohpnpedaaEpoch4
namespace Go.AI
open Go
set_option linter.unusedVariables false
set_option linter.unusedSimpArgs false
namespace Epoch
open Kit
/-- One core of N has a pin, and a list; all others have none. -/
def st (N : Nat) (c p : Int) (l : List Ws) (now : Int) : E := ⟨now, (List.replicate N 0).set c.toNat p, (List.replicate N []).set c.toNat l⟩
section
variable {N : Nat} {c p now : Int} {l : List Ws} (hN : N ≤ 64) (hc : 0 ≤ c ∧ c < N)
theorem st_plen : (st N c p l now).pins.length = N := by simp [st]
theorem st_llen : (st N c p l now).limbo.length = N := by simp [st]
include hN hc in
theorem st_good (hn : 1 ≤ now ∧ now ≤ 1099511627776) (hp : p = 0 ∨ p = now ∨ p = now + 1) (hl : limOK l 1 now = true ∧ l.length ≤ 8) : good (st N c p l now) = true := by
  refine good_of ?_ ?_ ?_ hn.1 hn.2 (fun q hq => ?_) (fun q hq => ?_)
  · rw [st_plen]; omega
  · rw [st_plen]; exact hN
  · rw [st_plen, st_llen]
  · rcases List.mem_or_eq_of_mem_set hq with h | h
    · exact .inl (List.eq_of_mem_replicate h)
    · rw [h]; exact hp
  · rcases List.mem_or_eq_of_mem_set hq with h | h
    · rw [List.eq_of_mem_replicate h]; exact ⟨rfl, by decide⟩
    · rw [h]; exact hl
include hc in
theorem st_at : at' (st N c p l now).pins c = p := by
  unfold at' st
  have : c.toNat < N := by omega
  simp [List.getD, this]
include hc in
theorem st_atL : atL (st N c p l now).limbo c = l := by
  unfold atL st
  have : c.toNat < N := by omega
  simp [List.getD, this]
theorem st_has {d : Int} (hd : 0 ≤ d ∧ d < N) (h : good (st N c p l now) = true) : has (st N c p l now) d = true := by
  unfold has
  rw [h, st_plen, decide_eq_true hd.1, decide_eq_true hd.2]; rfl
include hc in
theorem st_any (hn : 1 ≤ now) : (st N c p l now).pins.any (· == now) = (p == now) := by
  have hi : c.toNat < N := by omega
  rw [Bool.eq_iff_iff, List.any_eq_true]
  constructor
  · rintro ⟨q, hq, he⟩
    rcases List.mem_or_eq_of_mem_set hq with h | h
    · rw [List.eq_of_mem_replicate h] at he
      have : (0 : Int) = now := by simpa using he
      omega
    · rw [h] at he; exact he
  · intro he
    refine ⟨p, ?_, he⟩
    refine List.mem_of_getElem? (i := c.toNat) ?_
    simp [st, hi]
theorem st_pin (q : Int) : pinE (st N c p l now) c q = st N c q l now := by
  unfold pinE st
  simp only [List.set_set]
theorem st_lim (q : List Ws) : limE (st N c p l now) c q = st N c p q now := by
  unfold limE st
  simp only [List.set_set]
include hc in
theorem st_adv (h : good (st N c p l now) = true) (hn : 1 ≤ now ∧ now < 1099511627776) : advS (st N c p l now) = if p = now then (st N c p l now, false) else (st N c p l (now + 1), true) := by
  unfold advS
  rw [if_neg (by rw [h]; decide), if_neg (show ¬ (st N c p l now).now = 1099511627776 from fun e => by have : now = 1099511627776 := e; omega)]
  rw [show ((st N c p l now).pins.any (· == (st N c p l now).now)) = (p == now) from st_any hc hn.1]
  by_cases hp : p = now
  · rw [if_pos hp, if_pos (by simpa using hp)]
  · rw [if_neg hp, if_neg (by simpa using hp)]; rfl
include hc in
theorem st_pinS (h : good (st N c p l now) = true) : pinS (st N c p l now) c = if p = 0 then (st N c (now + 1) l now, 0) else (st N c p l now, 8) := by
  unfold pinS
  rw [if_neg (by rw [st_has hc h]; decide), st_at hc]
  by_cases hp : p = 0
  · rw [if_neg (fun e => e hp), if_pos hp, st_pin]; rfl
  · rw [if_pos hp, if_neg hp]
include hc in
theorem st_unpinS (h : good (st N c p l now) = true) : unpinS (st N c p l now) c = if p = 0 then (st N c p l now, 7) else (st N c 0 l now, 0) := by
  unfold unpinS
  rw [if_neg (by rw [st_has hc h]; decide), st_at hc]
  by_cases hp : p = 0
  · rw [if_pos hp, if_pos hp]
  · rw [if_neg hp, if_neg hp, st_pin]
include hc in
theorem st_retS (h : good (st N c p l now) = true) (o : Int) (ho : 0 ≤ o ∧ o < 64) : retS (st N c p l now) c o = if 8 ≤ l.length then (st N c p l now, 5) else (st N c p (l ++ [⟨o, now⟩]) now, 0) := by
  unfold retS
  rw [if_neg (show ¬ (o < 0 ∨ o ≥ 64 ∨ has (st N c p l now) c = false) from fun hh => by rw [st_has hc h] at hh; rcases hh with h | h | h <;> first | omega | cases h), st_atL hc]
  split
  · rfl
  · rw [st_lim]; rfl
include hc in
theorem st_reapS (h : good (st N c p l now) = true) : reapS (st N c p l now) c = (st N c p (l.filter (fun w => !old (now - 2) w)) now, (l.filter (old (now - 2))).map Ws.obj) := by
  have hl : l ∈ (st N c p l now).limbo := by
    refine List.mem_of_getElem? (i := c.toNat) ?_
    have : c.toNat < N := by omega
    simp [st, this]
  obtain ⟨g1, g2⟩ := lim_cut (t := now - 2) (good_limbo h hl).1
  unfold reapS
  rw [if_neg (by rw [st_has hc h]; decide), st_atL hc, st_lim]
  show (st N c p (l.drop (stop l (now - 2) 0)) now, (l.take (stop l (now - 2) 0)).map Ws.obj) = _
  rw [g2, g1]
end
theorem new_st (N : Nat) (c : Int) (hN : 1 ≤ N ∧ N ≤ 64) : newS N = (st N c 0 [] 1, 0) := by
  unfold newS st
  rw [if_neg (by omega), Int.toNat_natCast]
  have h1 : (List.replicate N (0 : Int)).set c.toNat 0 = List.replicate N 0 := by
    refine List.ext_getElem (by simp) fun i h1 h2 => ?_
    rw [List.getElem_set]; split <;> simp
  have h2 : (List.replicate N ([] : List Ws)).set c.toNat [] = List.replicate N [] := by
    refine List.ext_getElem (by simp) fun i h1 h2 => ?_
    rw [List.getElem_set]; split <;> simp
  rw [h1, h2]
theorem one_law (n c : Int) : law11_EpochOne.R n c = some (true, ()) := by
  refine law11_EpochOne.start _ _ _ ?_
  by_cases h1 : n < 1
  · rw [decide_eq_true h1]; simp only [live_ok, optAll_so, cond_true]
  rw [decide_eq_false h1]
  by_cases h2 : n > 64
  · rw [decide_eq_true h2]; simp only [live_ok, optAll_so, cond_true, cond_false]
  rw [decide_eq_false h2]
  by_cases h3 : c < 0
  · rw [decide_eq_true h3]; simp only [live_ok, optAll_so, cond_true, cond_false]
  rw [decide_eq_false h3]
  by_cases h4 : c ≥ n
  · rw [decide_eq_true h4]; simp only [live_ok, optAll_so, cond_true, cond_false]
  rw [decide_eq_false h4]
  obtain ⟨N, rfl⟩ : ∃ N : Nat, n = N := ⟨n.toNat, by omega⟩
  have hN : N ≤ 64 := by omega
  have hc : 0 ≤ c ∧ c < (N : Int) := by omega
  have g : ∀ p now, 1 ≤ now ∧ now ≤ 1099511627776 → (p = 0 ∨ p = now ∨ p = now + 1) → good (st N c p [] now) = true := fun p now hn hp => st_good hN hc hn hp ⟨rfl, by decide⟩
  have s1 := newS_ok N
  rw [new_st N c ⟨by omega, hN⟩] at s1
  have g1 := g 0 1 (by decide) (.inl rfl)
  have s2 := pinS_ok (st N c 0 [] 1) c (good_small g1)
  rw [st_pinS hc g1, if_pos rfl] at s2
  have g2 := g 2 1 (by decide) (.inr (.inr rfl))
  have s3 := pinS_ok (st N c 2 [] 1) c (good_small g2)
  rw [st_pinS hc g2, if_neg (by decide)] at s3
  have s4 := advS_ok (st N c 2 [] 1) (good_small g2)
  rw [st_adv hc g2 (by decide), if_neg (by decide)] at s4
  have g3 := g 2 2 (by decide) (.inr (.inl rfl))
  have s5 := advS_ok (st N c 2 [] 2) (good_small g3)
  rw [st_adv hc g3 (by decide), if_pos rfl] at s5
  have s6 := unpinS_ok (st N c 2 [] 2) c (good_small g3)
  rw [st_unpinS hc g3, if_neg (by decide)] at s6
  have g4 := g 0 2 (by decide) (.inl rfl)
  have s7 := unpinS_ok (st N c 0 [] 2) c (good_small g4)
  rw [st_unpinS hc g4, if_pos rfl] at s7
  have s8 := pinS_ok (st N c 0 [] 2) c (good_small g4)
  rw [st_pinS hc g4, if_pos rfl] at s8
  have g5 := g 3 2 (by decide) (.inr (.inr rfl))
  have s9 := advS_ok (st N c 3 [] 2) (good_small g5)
  rw [st_adv hc g5 (by decide), if_neg (by decide)] at s9
  rw [show (1 : Int) + 1 = 2 from rfl] at s2 s4
  rw [show (2 : Int) + 1 = 3 from rfl] at s8 s9
  have z : IntKind.i64.wrap 0 = 0 := by decide
  simp only [cond_false]
  rw [s1]; simp only [optAll_so, tS, tE]
  rw [s2]; simp only [optAll_so, tS, tE]
  rw [s3]; simp only [optAll_so, tS, tE]
  rw [s4]; simp only [optAll_so, tV, tE]
  rw [s5]; simp only [optAll_so, tV, tE]
  rw [s6]; simp only [optAll_so, tS, tE]
  rw [s7]; simp only [optAll_so, tS, tE]
  rw [s8]; simp only [optAll_so, tS, tE]
  rw [s9]; simp only [optAll_so, tV, tE]
  simp only [num_ok, optAll_so, Int.add_zero, z, beq_self_eq_true, cond_true, Bool.not_false, live_ok]
  exact True.intro
def olds (o : Int) (k : Nat) : List Ws := List.replicate k ⟨o, 1⟩
theorem olds_lim (o : Int) (ho : 0 ≤ o ∧ o < 64) (now : Int) (hn : 1 ≤ now) : ∀ k, limOK (olds o k) 1 now = true
  | 0 => rfl
  | k + 1 => by
    have := olds_lim o ho now hn k
    unfold olds at this ⊢
    rw [List.replicate_succ, limOK, this]
    simp [ho.1, ho.2, hn]
theorem full_law (n c o : Int) : law11_EpochFull.R n c o = some (true, ()) := by
  refine law11_EpochFull.start _ _ _ _ ?_
  by_cases h1 : n < 1
  · rw [decide_eq_true h1]; simp only [live_ok, optAll_so, cond_true]
  rw [decide_eq_false h1]
  by_cases h2 : n > 64
  · rw [decide_eq_true h2]; simp only [live_ok, optAll_so, cond_true, cond_false]
  rw [decide_eq_false h2]
  by_cases h3 : c < 0
  · rw [decide_eq_true h3]; simp only [live_ok, optAll_so, cond_true, cond_false]
  rw [decide_eq_false h3]
  by_cases h4 : c ≥ n
  · rw [decide_eq_true h4]; simp only [live_ok, optAll_so, cond_true, cond_false]
  rw [decide_eq_false h4]
  by_cases h5 : o < 0
  · rw [decide_eq_true h5]; simp only [live_ok, optAll_so, cond_true, cond_false]
  rw [decide_eq_false h5]
  by_cases h6 : o ≥ 64
  · rw [decide_eq_true h6]; simp only [live_ok, optAll_so, cond_true, cond_false]
  rw [decide_eq_false h6]
  obtain ⟨N, rfl⟩ : ∃ N : Nat, n = N := ⟨n.toNat, by omega⟩
  have hN : N ≤ 64 := by omega
  have hc : 0 ≤ c ∧ c < (N : Int) := by omega
  have ho : 0 ≤ o ∧ o < 64 := by omega
  have g : ∀ (l : List Ws) now, 1 ≤ now ∧ now ≤ 1099511627776 → limOK l 1 now = true → l.length ≤ 8 → good (st N c 0 l now) = true := fun l now hn hl h8 => st_good hN hc hn (.inl rfl) ⟨hl, h8⟩
  have gk : ∀ k now, k ≤ 8 → 1 ≤ now ∧ now ≤ 1099511627776 → good (st N c 0 (olds o k) now) = true := fun k now hk hn => g _ now hn (olds_lim o ho now hn.1 k) (by unfold olds; simpa using hk)
  have s1 := newS_ok N
  rw [new_st N c ⟨by omega, hN⟩] at s1
  simp only [cond_false]
  rw [s1]
  simp only [optAll_so, tS, num_ok, bne_self_eq_false, cond_false]
  have key : ∀ m k : Nat, k + m = 8 → law11_EpochFull.H8 N c o k (st N c 0 (olds o k) 1).now ((st N c 0 (olds o k) 1).pins.map ei) ((st N c 0 (olds o k) 1).limbo.map encL) (true, ()) := by
    intro m
    induction m with
    | zero =>
      intro k hk
      obtain rfl : k = 8 := by omega
      refine law11_EpochFull.H8_step _ _ _ _ _ _ _ _ ?_
      rw [decide_eq_false (by decide)]
      have g8 := gk 8 1 (by decide) (by decide)
      have l8 : (olds o 8).length = 8 := by simp [olds]
      have r1 := retS_ok (st N c 0 (olds o 8) 1) c o (good_small g8)
      rw [st_retS hc g8 o ho, if_pos (by omega)] at r1
      have hw : IntKind.i64.wrap (c + 1) = c + 1 := wrap_id (by omega) (by omega)
      have hd : 0 ≤ Int.tmod (c + 1) N ∧ Int.tmod (c + 1) N < N := ⟨Int.tmod_nonneg _ (by omega), Int.tmod_lt_of_pos _ (by omega)⟩
      simp only [cond_false, hw]
      generalize Int.tmod (c + 1) N = d at hd ⊢
      have r2 := retS_ok (st N c 0 (olds o 8) 1) d o (good_small g8)
      have c2 : ((retS (st N c 0 (olds o 8) 1) d o).2 == 0) = (d != c) := by
        by_cases hdc : d = c
        · subst hdc
          rw [st_retS hc g8 o ho, if_pos (by omega)]; simp
        · unfold retS
          rw [if_neg (show ¬ (o < 0 ∨ o ≥ 64 ∨ has (st N c 0 (olds o 8) 1) d = false) from fun hh => by rw [st_has hd g8] at hh; rcases hh with h | h | h <;> first | omega | cases h)]
          have hne : c.toNat ≠ d.toNat := by omega
          have hdl : d.toNat < N := by omega
          have e : atL (st N c 0 (olds o 8) 1).limbo d = [] := by
            unfold atL st
            simp [List.getD, hne, hdl]
          rw [e, if_neg (by decide), show (d != c) = true by simpa using hdc]
          rfl
      have a1 := advS_ok (st N c 0 (olds o 8) 1) (good_small g8)
      rw [st_adv hc g8 (by decide), if_neg (by decide)] at a1
      have g82 := gk 8 2 (by decide) (by decide)
      have f1 : (olds o 8).filter (old (2 - 2)) = [] := by unfold olds; rfl
      have f2 : (olds o 8).filter (fun w => !old (2 - 2) w) = olds o 8 := by unfold olds; rfl
      have p1 := reapS_ok (st N c 0 (olds o 8) 2) c (good_small g82)
      rw [st_reapS hc g82, f1, f2] at p1
      have a2 := advS_ok (st N c 0 (olds o 8) 2) (good_small g82)
      rw [st_adv hc g82 (by decide), if_neg (by decide)] at a2
      have g83 := gk 8 3 (by decide) (by decide)
      have f3 : (olds o 8).filter (old (3 - 2)) = olds o 8 := by unfold olds; rfl
      have f4 : (olds o 8).filter (fun w => !old (3 - 2) w) = [] := by unfold olds; rfl
      have p2 := reapS_ok (st N c 0 (olds o 8) 3) c (good_small g83)
      rw [st_reapS hc g83, f3, f4] at p2
      have g03 := g [] 3 (by decide) rfl (by decide)
      have r3 := retS_ok (st N c 0 [] 3) c o (good_small g03)
      rw [st_retS hc g03 o ho, if_neg (by decide)] at r3
      rw [show (1 : Int) + 1 = 2 from rfl] at a1
      rw [show (2 : Int) + 1 = 3 from rfl] at a2
      have hsame := same_ok (st N c 0 (olds o 8) 1) (st N c 0 (olds o 8) 1) (good_small g8)
      rw [r1]; simp only [optAll_so, tS, tE]
      refine needs_iff.2 ⟨by omega, ?_⟩
      rw [r2]; simp only [optAll_so, tS, tE, num_ok, bne_self_eq_false, cond_false]
      rw [hsame]; simp only [optAll_so, decide_true, Bool.not_true, cond_false]
      rw [c2, show ((d != c) == (d != c)) = true by simp]
      simp only [Bool.not_true, cond_false]
      rw [a1]; simp only [optAll_so, tV, tE]
      rw [p1]; simp only [optAll_so, tR, tE]
      rw [a2]; simp only [optAll_so, tV, tE]
      rw [p2]; simp only [optAll_so, tR, tE]
      rw [r3]; simp only [optAll_so, tS, tE, num_ok]
      rw [show ((((List.map Ws.obj []).map ei).length : Int) == 0) = true from rfl, show ((((List.map Ws.obj (olds o 8)).map ei).length : Int) == 8) = true by simp [olds]]
      simp only [cond_true, beq_self_eq_true, live_ok, optAll_so]
    | succ m ih =>
      intro k hk
      refine law11_EpochFull.H8_step _ _ _ _ _ _ _ _ ?_
      rw [decide_eq_true (by omega)]
      have gg := gk k 1 (by omega) (by decide)
      have r1 := retS_ok (st N c 0 (olds o k) 1) c o (good_small gg)
      have lk : (olds o k).length = k := by simp [olds]
      rw [st_retS hc gg o ho, if_neg (by omega)] at r1
      have e : olds o k ++ [⟨o, 1⟩] = olds o (k + 1) := by unfold olds; rw [List.replicate_succ']
      rw [e] at r1
      simp only [cond_true]
      rw [r1]
      simp only [optAll_so, tS, num_ok, bne_self_eq_false, cond_false, wrap_succ (show k < 4611686018427387904 by omega)]
      exact ih (k + 1) (by omega)
  exact key 8 0 (by decide)
end Epoch
end Go.AI
