/-
  Own work. The ports' law PortBits.
-/
import Derived.Test.YtlkaolahadcjbaaPort7
namespace Go.AI
open Go
set_option linter.unusedVariables false
set_option linter.unusedSimpArgs false
namespace Port
open Kit
/-- Bits as a number. -/
def sv (v : BitVec 64) : Int := IntKind.i64.wrap ((v.toNat : Nat) : Int)
theorem sv_is (v : BitVec 64) : IntKind.i64.wrap ((v.toNat : Nat) : Int) = sv v := by unfold sv; exact Eq.refl _
theorem ofInt_sv (v : BitVec 64) : BitVec.ofInt 64 (sv v) = v := by
  apply BitVec.eq_of_toNat_eq
  unfold sv
  rw [BitVec.toNat_ofInt, wrap_eq]
  have := v.isLt
  split <;> omega
theorem sv_inj {a b : BitVec 64} : sv a = sv b ↔ a = b := ⟨fun h => by rw [← ofInt_sv a, ← ofInt_sv b, h], fun h => by rw [h]⟩
theorem sv_zero : sv (BitVec.ofNat 64 0) = 0 := by unfold sv; decide
theorem sv_eq0 {a : BitVec 64} : sv a = 0 ↔ a = (BitVec.ofNat 64 0) := by rw [← sv_zero]; exact sv_inj
theorem ofInt_zero : BitVec.ofInt 64 0 = (BitVec.ofNat 64 0) := by have h : (0 : Int) = ((0 : Nat) : Int) := Int.natCast_zero.symm; rw [h, BitVec.ofInt_natCast]
theorem bits1 {T G B : BitVec 64} (h : T &&& ~~~G = (BitVec.ofNat 64 0)) : (T ||| B) &&& ~~~(G ||| B) = (BitVec.ofNat 64 0) := by
  apply BitVec.eq_of_getLsbD_eq
  intro i hi
  have := congrArg (fun v => v.getLsbD i) h
  simp only [BitVec.getLsbD_and, BitVec.getLsbD_or, BitVec.getLsbD_not, BitVec.getLsbD_zero, hi, decide_true, Bool.true_and] at this ⊢
  revert this
  generalize T.getLsbD i = t; generalize G.getLsbD i = g; generalize B.getLsbD i = b
  cases t <;> cases g <;> cases b <;> decide
theorem bits2 {T G B : BitVec 64} (h : T &&& ~~~G = (BitVec.ofNat 64 0)) : T &&& ~~~(G ||| B) = (BitVec.ofNat 64 0) := by
  apply BitVec.eq_of_getLsbD_eq
  intro i hi
  have := congrArg (fun v => v.getLsbD i) h
  simp only [BitVec.getLsbD_and, BitVec.getLsbD_or, BitVec.getLsbD_not, BitVec.getLsbD_zero, hi, decide_true, Bool.true_and] at this ⊢
  revert this
  generalize T.getLsbD i = t; generalize G.getLsbD i = g; generalize B.getLsbD i = b
  cases t <;> cases g <;> cases b <;> decide
theorem bits3 {T G D : BitVec 64} (h : T &&& ~~~G = (BitVec.ofNat 64 0)) (h2 : G = T ||| D ||| (G &&& T)) : (T ||| D) &&& ~~~G = (BitVec.ofNat 64 0) := by
  apply BitVec.eq_of_getLsbD_eq
  intro i hi
  have := congrArg (fun v => v.getLsbD i) h
  have h3 := congrArg (fun v => v.getLsbD i) h2
  simp only [BitVec.getLsbD_and, BitVec.getLsbD_or, BitVec.getLsbD_not, BitVec.getLsbD_zero, hi, decide_true, Bool.true_and] at this h3 ⊢
  revert this h3
  generalize T.getLsbD i = t; generalize G.getLsbD i = g; generalize D.getLsbD i = b
  cases t <;> cases g <;> cases b <;> decide
theorem bits4 {T G D B : BitVec 64} (h2 : G = T ||| D ||| (G &&& T)) : G ||| B = T ||| B ||| D ||| ((G ||| B) &&& (T ||| B)) := by
  apply BitVec.eq_of_getLsbD_eq
  intro i hi
  have h3 := congrArg (fun v => v.getLsbD i) h2
  simp only [BitVec.getLsbD_and, BitVec.getLsbD_or] at h3 ⊢
  revert h3
  generalize T.getLsbD i = t; generalize G.getLsbD i = g; generalize D.getLsbD i = d; generalize B.getLsbD i = b
  cases t <;> cases g <;> cases b <;> cases d <;> decide
theorem bits5 {T G D B : BitVec 64} (h2 : G = T ||| D ||| (G &&& T)) : G ||| B = T ||| (D ||| B) ||| ((G ||| B) &&& T) := by
  apply BitVec.eq_of_getLsbD_eq
  intro i hi
  have h3 := congrArg (fun v => v.getLsbD i) h2
  simp only [BitVec.getLsbD_and, BitVec.getLsbD_or] at h3 ⊢
  revert h3
  generalize T.getLsbD i = t; generalize G.getLsbD i = g; generalize D.getLsbD i = d; generalize B.getLsbD i = b
  cases t <;> cases g <;> cases b <;> cases d <;> decide
theorem bits6 {T G D : BitVec 64} (h2 : G = T ||| D ||| (G &&& T)) : G = T ||| D ||| (BitVec.ofNat 64 0) ||| (G &&& (T ||| D)) := by
  apply BitVec.eq_of_getLsbD_eq
  intro i hi
  have h3 := congrArg (fun v => v.getLsbD i) h2
  simp only [BitVec.getLsbD_and, BitVec.getLsbD_or, BitVec.getLsbD_zero] at h3 ⊢
  revert h3
  generalize T.getLsbD i = t; generalize G.getLsbD i = g; generalize D.getLsbD i = d
  cases t <;> cases g <;> cases d <;> decide
theorem good_leave {p : P} (hg : goodP p = true) (hk : p.kind ≠ 0) : ∃ w r, p.q = w :: r ∧ leave p 0 = ⟨if r = [] then 0 else p.kind, p.word, r⟩ ∧ goodP ⟨if r = [] then 0 else p.kind, p.word, r⟩ = true := by
  obtain ⟨h0, h2, hkq, hkw, hgood⟩ := goodP_parts hg
  have hq := good_len hg hk
  cases hqq : p.q with
  | nil => rw [hqq] at hq; simp at hq
  | cons w r =>
    refine ⟨w, r, rfl, ?_, ?_⟩
    · unfold leave
      rw [hqq]
      by_cases hr : r = []
      · subst hr; simp
      · simp [hr]
    · rw [hqq] at hgood
      have hg2 := (good_iff _ _).1 hgood
      have hgr : good r [] = true := (good_iff _ _).2 ⟨fun x hx => hg2.1 x (List.mem_cons_of_mem _ hx), (List.nodup_cons.1 (by simpa using hg2.2)).2⟩
      refine goodP_of ?_ ?_ ?_ (fun _ => hkw hk) hgr
      · show 0 ≤ if r = [] then (0 : Int) else p.kind
        split <;> omega
      · show (if r = [] then (0 : Int) else p.kind) ≤ 2
        split <;> omega
      · show (if r = [] then (0 : Int) else p.kind) = 0 ↔ r = []
        constructor
        · intro e
          by_cases hr : r = []
          · exact hr
          · rw [if_neg hr] at e; omega
        · intro e; rw [if_pos e]
theorem signal_cases {p : P} (hg : goodP p = true) (h1 : p.kind ≠ 1) (b : Int) :
    (p.kind = 2 ∧ p.word = 0 ∧ ∃ p' w, signal p b = (p', w, true) ∧ w.value = b ∧ goodP p' = true ∧ p'.kind ≠ 1 ∧ p'.word = 0) ∨
    (p.kind = 0 ∧ signal p b = (⟨0, bor p.word b, p.q⟩, w0, false) ∧ goodP ⟨0, bor p.word b, p.q⟩ = true) := by
  obtain ⟨h0, h2, hkq, hkw, hgood⟩ := goodP_parts hg
  by_cases hk : p.kind = 0
  · refine .inr ⟨hk, ?_, ?_⟩
    · unfold signal
      rw [if_neg (by rw [hg]; decide), if_neg (by omega), if_pos hk, hk]
    · exact goodP_of (Int.le_refl _) (by show (0 : Int) ≤ 2; decide) ⟨fun _ => hkq.1 hk, fun _ => rfl⟩ (fun h => absurd rfl h) hgood
  · have hk2 : p.kind = 2 := by omega
    obtain ⟨w, r, hq, hl, hg2⟩ := good_leave hg hk
    refine .inl ⟨hk2, hkw hk, leave p 0, { p.q.getD 0 w0 with value := b }, ?_, rfl, by rw [hl]; exact hg2, ?_, ?_⟩
    · unfold signal
      rw [if_neg (by rw [hg]; decide), if_pos hk2]
    · rw [hl]
      show (if r = [] then (0 : Int) else p.kind) ≠ 1
      split <;> omega
    · rw [hl]; exact hkw hk
theorem wait_cases {p : P} (hg : goodP p = true) (h1 : p.kind ≠ 1) (c : Int) :
    (∃ e, e ≠ 0 ∧ wait p c = (p, 0, e)) ∨
    (p.word ≠ 0 ∧ wait p c = (⟨p.kind, 0, p.q⟩, p.word, 0) ∧ goodP ⟨p.kind, 0, p.q⟩ = true) ∨
    (p.word = 0 ∧ ∃ p', wait p c = (p', 0, 0) ∧ goodP p' = true ∧ p'.kind ≠ 1 ∧ p'.word = 0) := by
  obtain ⟨h0, h2, hkq, hkw, hgood⟩ := goodP_parts hg
  by_cases hb : begin' p c = 0
  · by_cases hw : p.word = 0
    · refine .inr (.inr ⟨hw, join p 2 { w0 with core := c }, ?_, ?_, by show (2 : Int) ≠ 1; decide, hw⟩)
      · unfold wait
        rw [hb, if_neg (fun e => e rfl), if_neg (fun e => e hw)]
      · obtain ⟨hc, _, hx⟩ := begin_good hb
        have hg2 := (good_iff _ _).1 hgood
        have hnot : ∀ w ∈ p.q, w.core ≠ c := by
          rcases idx_cases p.q c with ⟨_, h⟩ | ⟨k, _, h, _⟩
          · exact h
          · rw [h] at hx; omega
        refine goodP_of (by show (0 : Int) ≤ 2; decide) (Int.le_refl _) ⟨fun e => absurd e (by show ¬ (2 : Int) = 0; decide), fun e => by simp [join] at e⟩ (fun _ => hw) ((good_iff _ _).2 ⟨fun x hx => ?_, ?_⟩)
        · rcases List.mem_append.1 hx with h | h
          · exact hg2.1 x h
          · have e : x = { w0 with core := c } := by simpa using h
            rw [e]; exact ⟨hc, by simp⟩
        · show ((p.q ++ [{ w0 with core := c }]).map W.core).Nodup
          rw [List.map_append]
          refine List.nodup_append.2 ⟨hg2.2, by simp, fun x hx y hy => ?_⟩
          obtain ⟨w, hw', rfl⟩ := List.mem_map.1 hx
          have e : y = c := by simpa using hy
          rw [e]; exact hnot w hw'
    · refine .inr (.inl ⟨hw, ?_, goodP_of h0 h2 hkq (fun _ => rfl) hgood⟩)
      unfold wait
      rw [hb, if_neg (fun e => e rfl), if_pos hw]
  · refine .inl ⟨_, hb, ?_⟩
    unfold wait
    rw [if_pos hb]
theorem cF (A B : Prop) : cond false A B = B := propext ⟨fun h => h, fun h => h⟩
theorem cT (A B : Prop) : cond true A B = A := propext ⟨fun h => h, fun h => h⟩
theorem bits_loop (l : List A) (hl : l.length ≤ 100) : ∀ (m i : Nat) (p : P) (G T D : BitVec 64), i + m = l.length → goodP p = true → p.kind ≠ 1 → p.word = sv D → T &&& ~~~G = (BitVec.ofNat 64 0) → G = T ||| D ||| (G &&& T) →
    law16_PortBits.H7 (l.map encA) (sv G) (sv T) i p.kind p.word (p.q.map encW) (true, ()) := by
  intro m
  induction m with
  | zero =>
    intro i p G T D hi hg hk hw i1 i2
    refine law16_PortBits.H7_step _ _ _ _ _ _ _ _ ?_
    rw [decide_eq_false (by simp; omega)]
    simp only [cF, live_ok, optAll_so]
  | succ m ih =>
    intro i p G T D hi hg hk hw i1 i2
    refine law16_PortBits.H7_step _ _ _ _ _ _ _ _ ?_
    have hil : i < l.length := by omega
    rw [decide_eq_true (by simp; omega)]
    have hle := good_le (goodP_parts hg).2.2.2.2
    simp only [cT, needs_nat, Int.toNat_natCast, map_get _ _ _ hil, optAll_so, a0_, a1_, a2_, a3_, a4_, a5_, a6_, a7_, a8_, a9_, signal_ok p l[i].bits (by omega), wait_ok p l[i].w.core (by omega), num_ok, wrap_succ (show i < 4611686018427387904 by omega), sv_is, ofInt_sv]
    generalize l[i] = a
    have hkw : p.word ≠ 0 → p.kind = 0 := fun h => Decidable.byContradiction fun e => h ((goodP_parts hg).2.2.2.1 e)
    have stay : ∀ (X : Prop), (law16_PortBits.H7 (l.map encA) (sv G) (sv T) ((i + 1 : Nat) : Int) p.kind p.word (p.q.map encW) (true, ()) → X) → X := fun X h => h (ih (i + 1) p G T D (by omega) hg hk hw i1 i2)
    have e23 : ((2 : Int) == 3) = false := by decide
    have e32 : ((3 : Int) == 2) = false := by decide
    by_cases hs : a.kind = 2 ∧ a.bits > 0
    · rw [hs.1, decide_eq_true hs.2]
      simp only [beq_self_eq_true, cT, e23, cF]
      rcases signal_cases hg hk a.bits with ⟨hk2, hw0, p', w, hsig, hv, hg', hk', hw'⟩ | ⟨hk0, hsig, hg'⟩
      · have hD : D = (BitVec.ofNat 64 0) := sv_eq0.1 (by rw [← hw, hw0])
        have j1 := bits1 (B := BitVec.ofInt 64 a.bits) i1
        have j2 := bits4 (B := BitVec.ofInt 64 a.bits) i2
        have nxt := ih (i + 1) p' _ _ D (by omega) hg' hk' (by rw [hw', hD, sv_zero]) j1 j2
        rw [hsig]
        simp only [tS, tP, tW, cT, hv, hw0, hw', bne_self_eq_false, cF, ofInt_zero, j1, sv_zero, sv_is, ofInt_sv]
        rw [hD] at j2
        rw [← j2]
        simp only [bne_self_eq_false, cF]
        rw [hw'] at nxt
        exact nxt
      · have j1 := bits2 (B := BitVec.ofInt 64 a.bits) i1
        have j2 := bits5 (B := BitVec.ofInt 64 a.bits) i2
        have hb : bor p.word a.bits = sv (D ||| BitVec.ofInt 64 a.bits) := by
          unfold bor
          rw [hw, ofInt_sv]; rfl
        rw [hb] at hsig hg'
        have nxt := ih (i + 1) ⟨0, sv (D ||| BitVec.ofInt 64 a.bits), p.q⟩ _ _ _ (by omega) hg' (by show (0 : Int) ≠ 1; decide) rfl j1 j2
        rw [hsig]
        simp only [tS, tP, tW, cT, cF, j1, sv_zero, sv_is, ofInt_sv, bne_self_eq_false]
        rw [← j2]
        simp only [bne_self_eq_false, cF]
        cases (sv (D ||| BitVec.ofInt 64 a.bits) != 0)
        · simp only [cF]; exact nxt
        · simp only [cT]; exact nxt
    · by_cases hk3 : a.kind = 3
      · rw [hk3]
        simp only [beq_self_eq_true, cT, e32, cF]
        rcases wait_cases hg hk a.w.core with ⟨e, he, hwt⟩ | ⟨hw0, hwt, hg'⟩ | ⟨hw0, p', hwt, hg', hk', hw'⟩
        · have he' : (e == 0) = false := by simpa using he
          rw [hwt]
          have z : T ||| (BitVec.ofNat 64 0) = T := by simp
          simp only [tA, tP, he', cF, ofInt_zero, z, i1, sv_zero, bne_self_eq_false, hw, ofInt_sv, sv_is]
          rw [← i2]
          refine stay _ fun nxt => ?_
          simp only [bne_self_eq_false, cF]
          rw [hw] at nxt
          cases hd : (sv D != 0)
          · simp only [cF]; exact nxt
          · have : p.kind = 0 := hkw (by rw [hw]; simpa using hd)
            rw [this] at nxt ⊢
            simp only [cT, bne_self_eq_false, cF]
            exact nxt
        · have j1 := bits3 i1 i2
          have j2 := bits6 i2
          have nxt := ih (i + 1) ⟨p.kind, 0, p.q⟩ G (T ||| D) (BitVec.ofNat 64 0) (by omega) hg' hk sv_zero.symm j1 j2
          rw [hwt]
          have hne : (p.word != 0) = true := by simpa using hw0
          simp only [tA, tP, beq_self_eq_true, cT, bne_self_eq_false, cF, hne, hw, ofInt_sv, j1, sv_zero, ofInt_zero, sv_is]
          rw [hw] at hne
          rw [← j2]
          simp only [bne_self_eq_false, cF, hne, cT]
          exact nxt
        · have hD : D = (BitVec.ofNat 64 0) := sv_eq0.1 (by rw [← hw, hw0])
          have z : T ||| (BitVec.ofNat 64 0) = T := by simp
          have nxt := ih (i + 1) p' G T D (by omega) hg' hk' (by rw [hw', hD, sv_zero]) i1 i2
          rw [hwt]
          simp only [tA, tP, beq_self_eq_true, cT, bne_self_eq_false, cF, hw0, hw', ofInt_zero, z, i1, sv_zero, sv_is, ofInt_sv]
          rw [hD, z] at i2
          rw [← i2]
          simp only [bne_self_eq_false, cF]
          rw [hw'] at nxt
          exact nxt
      · have h3 : (a.kind == 3) = false := by simpa using hk3
        simp only [h3, cF, hw, ofInt_sv, i1, sv_zero, bne_self_eq_false, sv_is]
        refine stay _ fun nxt => ?_
        rw [hw] at nxt
        have key : cond (sv G != sv (T ||| D ||| (G &&& T))) ((true, ()) = (false, ())) (cond (sv D != 0) (cond (p.kind != 0) ((true, ()) = (false, ())) (law16_PortBits.H7 (l.map encA) (sv G) (sv T) ((i + 1 : Nat) : Int) p.kind (sv D) (p.q.map encW) (true, ()))) (law16_PortBits.H7 (l.map encA) (sv G) (sv T) ((i + 1 : Nat) : Int) p.kind (sv D) (p.q.map encW) (true, ()))) := by
          rw [← i2]
          simp only [bne_self_eq_false, cF]
          cases hd : (sv D != 0)
          · simp only [cF]; exact nxt
          · have : p.kind = 0 := hkw (by rw [hw]; simpa using hd)
            rw [this] at nxt ⊢
            simp only [cT, bne_self_eq_false, cF]
            exact nxt
        by_cases h2 : a.kind = 2
        · have : ¬ a.bits > 0 := fun e => hs ⟨h2, e⟩
          rw [h2, decide_eq_false this]
          exact key
        · have h2' : (a.kind == 2) = false := by simpa using h2
          rw [h2']
          exact key
theorem bits_law (l : List A) : law16_PortBits.R (l.map encA) = some (true, ()) := by
  refine law16_PortBits.start _ _ ?_
  simp only [List.length_map]
  by_cases h : (l.length : Int) > 100
  · rw [decide_eq_true h]; simp only [live_ok, optAll_so, cT]
  rw [decide_eq_false h]
  simp only [cF]
  exact bits_loop l (by omega) l.length 0 pe (BitVec.ofNat 64 0) (BitVec.ofNat 64 0) (BitVec.ofNat 64 0) (by omega) rfl (by decide) rfl (by decide) (by decide)
end Port
end Go.AI
