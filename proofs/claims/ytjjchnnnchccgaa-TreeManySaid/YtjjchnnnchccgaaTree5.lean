/-
  Own work. tree's laws over grown trees.
-/
import Derived.Test.YtjjchnnnchccgaaTree4
namespace Go.AI
open Go
set_option linter.unusedVariables false
set_option linter.unusedSimpArgs false
namespace Trees
open Kit Ghost

def gr (l : List Act) : List TRow := l.foldl (fun t x => (step t x).1) []
theorem gr_snoc (l : List Act) (x : Act) : gr (l ++ [x]) = (step (gr l) x).1 := by simp [gr]
theorem gr_take (l : List Act) (i : Nat) (hi : i < l.length) : gr (l.take (i + 1)) = (step (gr (l.take i)) l[i]).1 := by
  rw [List.take_succ_eq_append_getElem hi, gr_snoc]
theorem gr_fold_good : ∀ (l : List Act) (t : List TRow), GT t → GT (l.foldl (fun t x => (step t x).1) t)
  | [], t, h => h
  | x :: l, t, h => gr_fold_good l _ (step_good h x)
theorem gr_good (l : List Act) : GT (gr l) := gr_fold_good l [] nil_good
theorem gr_small (l : List Act) : (gr l).length < 1000000 := by have := (gr_good l).len; omega
theorem a0_ (x : Act) : dInt .i64 (encA x) 0 = some x.kind := rfl
theorem a1_ (x : Act) : dInt .i64 (encA x) 1 = some x.a.obj := rfl
theorem a2_ (x : Act) : dInt .i64 (encA x) 2 = some x.a.slot := rfl
theorem a3_ (x : Act) : dInt .i64 (encA x) 3 = some x.b.obj := rfl
theorem a4_ (x : Act) : dInt .i64 (encA x) 4 = some x.b.slot := rfl
theorem a5_ (x : Act) : dBool (encA x) 5 = some x.on := rfl
theorem grown_ok (l : List Act) (hl : l.length < 1000000) : law13_grown.R (l.map encA) = some (enc (gr l), ()) := by
  refine law13_grown.start _ _ ?_
  have key : ∀ m i : Nat, i + m = l.length → law13_grown.H4 (l.map encA) (enc (gr (l.take i))) i (enc (gr l), ()) := by
    intro m
    induction m with
    | zero =>
      intro i hi
      refine law13_grown.H4_step _ _ _ _ ?_
      rw [List.length_map, decide_eq_false (by omega), List.take_of_length_le (by omega)]
      exact rfl
    | succ m ih =>
      intro i hi
      refine law13_grown.H4_step _ _ _ _ ?_
      have hil : i < l.length := by omega
      rw [List.length_map, decide_eq_true (by omega)]
      simp only [cond_true, needs_nat, Int.toNat_natCast, map_get _ _ _ hil, optAll_so, a0_, a1_, a2_, a3_, a4_, a5_]
      rw [does_ok _ _ (gr_small _), wrap_succ (show i < 4611686018427387904 by omega)]
      simp only [optAll_so, rtup]
      rw [← gr_take l i hil]
      exact ih (i + 1) (by omega)
  exact key l.length 0 (by omega)
theorem er_good {t : List TRow} (h : GT t) : tree_Check.R (enc t) = some (0, ()) := by
  rw [check_ok t (by have := h.len; omega), (tOK_iff t).2 h]
  rfl
theorem runs_law (l : List Act) : law13_TreeRuns.R (l.map encA) = some (true, ()) := by
  refine law13_TreeRuns.start _ _ ?_
  rw [List.length_map]
  by_cases h1 : l.length > 60
  · rw [decide_eq_true (by omega)]
    simp only [cond_true, live_ok, optAll_so]
  rw [decide_eq_false (by omega)]
  have key : ∀ m i : Nat, i + m = l.length → law13_TreeRuns.H6 (l.map encA) (enc (gr (l.take i))) (enc (gr (l.take i))) i (true, ()) := by
    intro m
    induction m with
    | zero =>
      intro i hi
      refine law13_TreeRuns.H6_step _ _ _ _ _ ?_
      rw [List.length_map, decide_eq_false (by omega)]
      simp only [cond_false, live_ok, optAll_so]
    | succ m ih =>
      intro i hi
      refine law13_TreeRuns.H6_step _ _ _ _ _ ?_
      have hil : i < l.length := by omega
      rw [List.length_map, decide_eq_true (by omega)]
      simp only [cond_true, needs_nat, Int.toNat_natCast, map_get _ _ _ hil, optAll_so, a0_, a1_, a2_, a3_, a4_, a5_]
      rw [does_ok _ _ (gr_small _), model_ok _ _ (gr_small _), wrap_succ (show i < 4611686018427387904 by omega)]
      simp only [optAll_so, rtup]
      rw [← gr_take l i hil, rsame_ok _ _ (gr_small _) (gr_small _)]
      simp only [optAll_so, decide_true, Bool.not_true, cond_false, bne_self_eq_false]
      rw [er_good (gr_good _)]
      simp only [optAll_so, num_ok, bne_self_eq_false, cond_false]
      exact ih (i + 1) (by omega)
  exact key l.length 0 (by omega)
/-! Order -/
theorem des_self {t : List TRow} (h : GT t) (a : K) : des t a a = false := by
  rw [Bool.eq_false_iff]
  intro hd
  obtain ⟨i, j, h1, h2, h3⟩ := (des_iff h a a).1 hd
  have := h.inj (by have := h1.1; have := h1.2.1; omega) h1.2.1 (h2.trans h3.symm)
  have := h1.1
  omega
theorem des_asym {t : List TRow} (h : GT t) {a b : K} (hd : des t a b = true) : des t b a = false := by
  rw [Bool.eq_false_iff]
  intro hd2
  obtain ⟨i, j, h1, h2, h3⟩ := (des_iff h a b).1 hd
  obtain ⟨i', j', g1, g2, g3⟩ := (des_iff h b a).1 hd2
  have e1 := h.inj (by have := h1.1; have := h1.2.1; omega) g1.2.1 (h2.trans g3.symm)
  have e2 := h.inj h1.2.1 (by have := g1.1; have := g1.2.1; omega) (h3.trans g2.symm)
  have := h1.1
  have := g1.1
  omega
theorem des_trans {t : List TRow} (h : GT t) {a b c : K} (hd : des t a b = true) (hd2 : des t b c = true) : des t a c = true := by
  obtain ⟨i, j, h1, h2, h3⟩ := (des_iff h a b).1 hd
  obtain ⟨i', j', g1, g2, g3⟩ := (des_iff h b c).1 hd2
  obtain rfl := h.inj (by have := h1.1; have := h1.2.1; omega) g1.2.1 (h2.trans g3.symm)
  exact (des_iff h a c).2 ⟨i', j, g1.trans h1, g2, h3⟩
theorem par_none {t : List TRow} (h : GT t) {a : K} (hp : par t a = none) (b : K) : des t a b = false := by
  rw [Bool.eq_false_iff]
  intro hd
  obtain ⟨i, j, h1, h2, h3⟩ := (des_iff h a b).1 hd
  unfold par at hp
  rw [h.fnd h1.2.1 h3, if_neg (by omega), Int.toNat_natCast] at hp
  have := parI_none (by simpa using hp) i h1.1
  have := h1.2.2 j h1.1 (Nat.le_refl _)
  omega
theorem par_some {t : List TRow} (h : GT t) {a : K} {r : TRow} (hp : par t a = some r) : des t a (kk r) = true ∧ ∀ b, des t a b = true → b = kk r ∨ des t (kk r) b = true := by
  unfold par at hp
  rcases fnd_key t a with ⟨h1, _⟩ | ⟨j, hj, h1, h2, _⟩
  · rw [h1, if_pos (by omega)] at hp; cases hp
  · rw [h1, if_neg (by omega), Int.toNat_natCast] at hp
    cases hq : parI t (dd t j) j with
    | none => rw [hq] at hp; cases hp
    | some p =>
      rw [hq] at hp
      simp only [Option.map_some, Option.some.injEq] at hp
      subst hp
      have hd := par_dn hj hq
      obtain ⟨q1, q2, q3⟩ := parI_some hq
      refine ⟨(des_iff h _ _).2 ⟨p, j, hd, rfl, h2⟩, fun b hb => ?_⟩
      obtain ⟨i, j', g1, g2, g3⟩ := (des_iff h a b).1 hb
      obtain rfl := h.inj g1.2.1 hj (g3.trans h2.symm)
      rcases Nat.lt_trichotomy i p with hlt | heq | hgt
      · refine .inr ((des_iff h _ _).2 ⟨i, p, ⟨hlt, by omega, fun m h3 h4 => g1.2.2 m h3 (by omega)⟩, g2, rfl⟩)
      · subst heq; exact .inl g2.symm
      · have := q3 i hgt g1.1
        have := g1.2.2 j' g1.1 (Nat.le_refl _)
        omega
theorem eqP (b : K) (r : TRow) : (b.obj == r.obj && (b.slot == r.slot && true)) = decide (b = kk r) := eqK b (kk r)
theorem desR {t : List TRow} (ht : t.length < 1000000) (a : K) (r : TRow) : tree_Descends.R (enc t) a.obj a.slot r.obj r.slot = some (des t a (kk r), ()) := descends_ok t a (kk r) ht
theorem desL {t : List TRow} (ht : t.length < 1000000) (r : TRow) (b : K) : tree_Descends.R (enc t) r.obj r.slot b.obj b.slot = some (des t (kk r) b, ()) := descends_ok t (kk r) b ht
theorem order_tail {t : List TRow} (h : GT t) (ht : t.length < 1000000) (a b : K) :
    optAll (tree_Parent.R (enc t) a.obj a.slot) fun (c7 : ((Int × (Int × Unit)) × (Bool × Unit))) =>
      cond ((!((c7).2).1)) (
        optAll (tree_Descends.R (enc t) a.obj a.slot b.obj b.slot) fun (c8 : (Bool × Unit)) =>
        cond ((!(c8).1)) (
          optAll (law13_live.R) fun (c9 : (Bool × Unit)) =>
          ((true, ()) : Bool × Unit) = ((c9).1, ())) (
          ((true, ()) : Bool × Unit) = (false, ()))) (
        optAll (tree_Descends.R (enc t) a.obj a.slot ((c7).1).1 (((c7).1).2).1) fun (c10 : (Bool × Unit)) =>
        cond ((c10).1) (
          optAll (tree_Descends.R (enc t) a.obj a.slot b.obj b.slot) fun (c11 : (Bool × Unit)) =>
          cond ((!(c11).1)) (
            optAll (law13_live.R) fun (c12 : (Bool × Unit)) =>
            ((true, ()) : Bool × Unit) = ((c12).1, ())) (
            cond (((b.obj == ((c7).1).1) && ((b.slot == (((c7).1).2).1) && true))) (
              optAll (law13_live.R) fun (c13 : (Bool × Unit)) =>
              ((true, ()) : Bool × Unit) = ((c13).1, ())) (
              optAll (tree_Descends.R (enc t) ((c7).1).1 (((c7).1).2).1 b.obj b.slot) fun (c14 : (Bool × Unit)) =>
              cond ((c14).1) (
                optAll (law13_live.R) fun (c15 : (Bool × Unit)) =>
                ((true, ()) : Bool × Unit) = ((c15).1, ())) (
                ((true, ()) : Bool × Unit) = (false, ()))))) (
          ((true, ()) : Bool × Unit) = (false, ()))) := by
  rw [parent_ok t a ht]
  simp only [optAll_so]
  cases hp : par t a with
  | none =>
    simp only [ptup, Bool.not_false, cond_true]
    rw [descends_ok t a b ht, par_none h hp b]
    simp only [optAll_so, Bool.not_false, cond_true, live_ok]
  | some r =>
    obtain ⟨h1, h2⟩ := par_some h hp
    simp only [ptup, Bool.not_true, cond_false]
    rw [desR ht a r, h1]
    simp only [optAll_so, cond_true]
    rw [descends_ok t a b ht]
    simp only [optAll_so, eqP]
    cases hb : des t a b with
    | false => simp only [Bool.not_false, cond_true, live_ok, optAll_so]
    | true =>
      simp only [Bool.not_true, cond_false]
      rcases h2 b hb with e | e
      · rw [decide_eq_true e]
        simp only [cond_true, live_ok, optAll_so]
      · cases hd : decide (b = kk r) with
        | true => simp only [cond_true, live_ok, optAll_so]
        | false =>
          simp only [cond_false]
          rw [desL ht r b, e]
          simp only [optAll_so, cond_true, live_ok]
theorem order_law (l : List Act) (a b c : K) : law13_TreeOrder.R (l.map encA) a.obj a.slot b.obj b.slot c.obj c.slot = some (true, ()) := by
  refine law13_TreeOrder.start _ _ _ _ _ _ _ _ ?_
  rw [List.length_map]
  by_cases h1 : l.length > 60
  · rw [decide_eq_true (by omega)]
    simp only [cond_true, live_ok, optAll_so]
  rw [decide_eq_false (by omega), grown_ok l (by omega)]
  simp only [cond_false, optAll_so]
  have h := gr_good l
  have ht := gr_small l
  have tl := order_tail h ht a b
  rw [descends_ok _ a a ht, des_self h a]
  simp only [optAll_so, cond_false]
  rw [descends_ok _ a b ht] at tl ⊢
  simp only [optAll_so] at tl ⊢
  cases hab : des (gr l) a b with
  | false => rw [hab] at tl; exact tl
  | true =>
    rw [hab] at tl
    simp only [cond_true]
    rw [descends_ok _ b a ht, des_asym h hab]
    simp only [optAll_so, cond_false]
    rw [descends_ok _ b c ht]
    simp only [optAll_so]
    cases hbc : des (gr l) b c with
    | false => exact tl
    | true =>
      simp only [cond_true]
      rw [descends_ok _ a c ht, des_trans h hab hbc]
      simp only [optAll_so, Bool.not_true, cond_false]
      exact tl
/-! Moves -/
theorem des_same {t u : List TRow} (h : GT t) (hu : GT u) (hl : u.length = t.length) (hk : ∀ j, key u j = key t j) (hd : ∀ j, dd u j = dd t j) (a b : K) : des u a b = des t a b := by
  rw [Bool.eq_iff_iff, des_iff hu, des_iff h]
  have hdn : ∀ i j, Dn u i j ↔ Dn t i j := fun i j => by unfold Dn; simp only [hl, hd]
  simp only [hdn, hk]
theorem mark_des {t : List TRow} (h : GT t) {k : K} {on : Bool} (he : (sMark t k on).2 = 0) (a b : K) : des (sMark t k on).1 a b = des t a b := by
  revert he
  unfold sMark
  split
  · split
    · intro he; cases he
    · rename_i hf
      intro _
      rcases fnd_key t k with ⟨h1, _⟩ | ⟨i, hi, h1, h2, _⟩
      · omega
      · rw [h1, Int.toNat_natCast]
        refine des_same h ?_ (by simp) (fun j => ?_) (fun j => ?_) a b
        · exact set_good h hi (h.at_ i hi).ok (fun j hj hne e => hne (h.inj hj hi e)) rfl
        · unfold key; rw [set_get t i _ hi]; split
          · rename_i e; subst e; rfl
          · rfl
        · unfold dd; rw [set_get t i _ hi]; split
          · rename_i e; subst e; rfl
          · rfl
  · intro he; cases he
def sub (f k x : K) : K := if x = f then k else x
theorem move_facts {t : List TRow} (h : GT t) {f k : K} (he : (sMove t f k).2 = 0) : GT (sMove t f k).1 ∧ fnd (sMove t f k).1 f = -1 ∧ (sMove t f k).1.length = t.length ∧ ∀ a b, a ≠ k → b ≠ k → des (sMove t f k).1 (sub f k a) (sub f k b) = des t a b := by
  revert he
  unfold sMove
  split
  · rename_i hc
    split
    · intro he; cases he
    · rename_i hf
      split
      · intro he; cases he
      · rename_i hk
        intro _
        rcases fnd_key t f with ⟨h1, _⟩ | ⟨i, hi, h1, h2, _⟩
        · omega
        · rcases fnd_key t k with ⟨_, g2⟩ | ⟨j, _, g1, _⟩
          · rw [h1, Int.toNat_natCast]
            have hu := set_good h hi (r := ⟨k.obj, k.slot, dd t i, (t.getD i dr).mark⟩) hc.2.2 (fun j hj _ => g2 j hj) rfl
            have hkey : ∀ j, key (t.set i ⟨k.obj, k.slot, dd t i, (t.getD i dr).mark⟩) j = if j = i then k else key t j := fun j => by
              unfold key; rw [set_get t i _ hi]; split <;> rfl
            have hdd : ∀ j, dd (t.set i ⟨k.obj, k.slot, dd t i, (t.getD i dr).mark⟩) j = dd t j := fun j => by
              unfold dd; rw [set_get t i _ hi]; split
              · rename_i e; subst e; rfl
              · rfl
            have hlen : (t.set i ⟨k.obj, k.slot, dd t i, (t.getD i dr).mark⟩).length = t.length := List.length_set
            have hsub : ∀ j, j < t.length → key (t.set i ⟨k.obj, k.slot, dd t i, (t.getD i dr).mark⟩) j = sub f k (key t j) := fun j hj => by
              rw [hkey]
              unfold sub
              by_cases e : j = i
              · subst e; rw [if_pos rfl, if_pos h2]
              · rw [if_neg e, if_neg (fun e2 => e (h.inj hj hi (e2.trans h2.symm)))]
            have hfk : f ≠ k := fun e => g2 i hi (h2.trans e)
            refine ⟨hu, ?_, hlen, fun a b ha hb => ?_⟩
            · rcases fnd_key (t.set i ⟨k.obj, k.slot, dd t i, (t.getD i dr).mark⟩) f with ⟨q1, _⟩ | ⟨j, hj, _, q2, _⟩
              · exact q1
              · rw [hlen] at hj
                rw [hsub j hj] at q2
                unfold sub at q2
                split at q2
                · exact absurd q2.symm hfk
                · rename_i e; exact absurd q2 e
            · rw [Bool.eq_iff_iff, des_iff hu, des_iff h]
              have hinj : ∀ j x, j < t.length → x ≠ k → (sub f k (key t j) = sub f k x ↔ key t j = x) := fun j x hj hx => by
                unfold sub
                constructor
                · intro e
                  by_cases e1 : key t j = f
                  · rw [if_pos e1] at e
                    by_cases e2 : x = f
                    · rw [e1, e2]
                    · rw [if_neg e2] at e; exact absurd e.symm hx
                  · rw [if_neg e1] at e
                    by_cases e2 : x = f
                    · rw [if_pos e2] at e; exact absurd e (g2 j hj)
                    · rw [if_neg e2] at e; exact e
                · intro e; rw [e]
              have hdn : ∀ i' j, Dn (t.set i ⟨k.obj, k.slot, dd t i, (t.getD i dr).mark⟩) i' j ↔ Dn t i' j := fun i' j => by unfold Dn; simp only [hlen, hdd]
              constructor
              · rintro ⟨i', j, q1, q2, q3⟩
                rw [hdn] at q1
                have hj := q1.2.1
                have hi' : i' < t.length := by have := q1.1; omega
                rw [hsub i' hi'] at q2
                rw [hsub j hj] at q3
                exact ⟨i', j, q1, (hinj i' b hi' hb).1 q2, (hinj j a hj ha).1 q3⟩
              · rintro ⟨i', j, q1, q2, q3⟩
                have hj := q1.2.1
                have hi' : i' < t.length := by have := q1.1; omega
                exact ⟨i', j, (hdn i' j).2 q1, by rw [hsub i' hi', q2], by rw [hsub j hj, q3]⟩
          · omega
  · intro he; cases he
theorem move_tail {t : List TRow} (h : GT t) (f k a b : K) :
    optAll (law13_num.R (sMove t f k).2) fun (c7 : (Int × Unit)) =>
      cond (((c7).1 != (0 : Int))) (
        optAll (law13_live.R) fun (c8 : (Bool × Unit)) =>
        ((true, ()) : Bool × Unit) = ((c8).1, ())) (
        cond (((a.obj == k.obj) && ((a.slot == k.slot) && true))) (
          optAll (law13_live.R) fun (c9 : (Bool × Unit)) =>
          ((true, ()) : Bool × Unit) = ((c9).1, ())) (
          cond (((b.obj == k.obj) && ((b.slot == k.slot) && true))) (
            optAll (law13_live.R) fun (c10 : (Bool × Unit)) =>
            ((true, ()) : Bool × Unit) = ((c10).1, ())) (
            cond (((a.obj == f.obj) && ((a.slot == f.slot) && true))) (
              cond (((b.obj == f.obj) && ((b.slot == f.slot) && true))) (
                optAll (tree_Find.R (enc (sMove t f k).1) f.obj f.slot) fun (c11 : (Int × (Bool × Unit))) =>
                cond ((!((c11).2).1)) (
                  optAll (tree_Descends.R (enc (sMove t f k).1) k.obj k.slot k.obj k.slot) fun (c12 : (Bool × Unit)) =>
                  optAll (tree_Descends.R (enc t) a.obj a.slot b.obj b.slot) fun (c13 : (Bool × Unit)) =>
                  cond (((c12).1 == (c13).1)) (
                    cond (((((enc (sMove t f k).1).length : Nat) : Int) == (((enc t).length : Nat) : Int))) (
                      optAll (law13_live.R) fun (c14 : (Bool × Unit)) =>
                      ((true, ()) : Bool × Unit) = ((c14).1, ())) (
                      ((true, ()) : Bool × Unit) = (false, ()))) (
                    ((true, ()) : Bool × Unit) = (false, ()))) (
                  ((true, ()) : Bool × Unit) = (false, ()))) (
                optAll (tree_Find.R (enc (sMove t f k).1) f.obj f.slot) fun (c15 : (Int × (Bool × Unit))) =>
                cond ((!((c15).2).1)) (
                  optAll (tree_Descends.R (enc (sMove t f k).1) k.obj k.slot b.obj b.slot) fun (c16 : (Bool × Unit)) =>
                  optAll (tree_Descends.R (enc t) a.obj a.slot b.obj b.slot) fun (c17 : (Bool × Unit)) =>
                  cond (((c16).1 == (c17).1)) (
                    cond (((((enc (sMove t f k).1).length : Nat) : Int) == (((enc t).length : Nat) : Int))) (
                      optAll (law13_live.R) fun (c18 : (Bool × Unit)) =>
                      ((true, ()) : Bool × Unit) = ((c18).1, ())) (
                      ((true, ()) : Bool × Unit) = (false, ()))) (
                    ((true, ()) : Bool × Unit) = (false, ()))) (
                  ((true, ()) : Bool × Unit) = (false, ())))) (
              cond (((b.obj == f.obj) && ((b.slot == f.slot) && true))) (
                optAll (tree_Find.R (enc (sMove t f k).1) f.obj f.slot) fun (c19 : (Int × (Bool × Unit))) =>
                cond ((!((c19).2).1)) (
                  optAll (tree_Descends.R (enc (sMove t f k).1) a.obj a.slot k.obj k.slot) fun (c20 : (Bool × Unit)) =>
                  optAll (tree_Descends.R (enc t) a.obj a.slot b.obj b.slot) fun (c21 : (Bool × Unit)) =>
                  cond (((c20).1 == (c21).1)) (
                    cond (((((enc (sMove t f k).1).length : Nat) : Int) == (((enc t).length : Nat) : Int))) (
                      optAll (law13_live.R) fun (c22 : (Bool × Unit)) =>
                      ((true, ()) : Bool × Unit) = ((c22).1, ())) (
                      ((true, ()) : Bool × Unit) = (false, ()))) (
                    ((true, ()) : Bool × Unit) = (false, ()))) (
                  ((true, ()) : Bool × Unit) = (false, ()))) (
                optAll (tree_Find.R (enc (sMove t f k).1) f.obj f.slot) fun (c23 : (Int × (Bool × Unit))) =>
                cond ((!((c23).2).1)) (
                  optAll (tree_Descends.R (enc (sMove t f k).1) a.obj a.slot b.obj b.slot) fun (c24 : (Bool × Unit)) =>
                  optAll (tree_Descends.R (enc t) a.obj a.slot b.obj b.slot) fun (c25 : (Bool × Unit)) =>
                  cond (((c24).1 == (c25).1)) (
                    cond (((((enc (sMove t f k).1).length : Nat) : Int) == (((enc t).length : Nat) : Int))) (
                      optAll (law13_live.R) fun (c26 : (Bool × Unit)) =>
                      ((true, ()) : Bool × Unit) = ((c26).1, ())) (
                      ((true, ()) : Bool × Unit) = (false, ()))) (
                    ((true, ()) : Bool × Unit) = (false, ()))) (
                  ((true, ()) : Bool × Unit) = (false, ()))))))) := by
  have ht : t.length < 1000000 := by have := h.len; omega
  rw [num_ok]
  simp only [optAll_so, eqK]
  by_cases he : (sMove t f k).2 = 0
  · rw [show (((sMove t f k).2 != 0) : Bool) = false by simp [he]]
    simp only [cond_false]
    obtain ⟨m1, m2, m3, m4⟩ := move_facts h he
    have hu : (sMove t f k).1.length < 1000000 := by omega
    by_cases ha : a = k
    · rw [decide_eq_true ha]
      simp only [cond_true, live_ok, optAll_so]
    by_cases hb : b = k
    · rw [decide_eq_false ha, decide_eq_true hb]
      simp only [cond_true, cond_false, live_ok, optAll_so]
    rw [decide_eq_false ha, decide_eq_false hb]
    simp only [cond_false]
    have hm := m4 a b ha hb
    have hfind := find_ok (sMove t f k).1 f hu
    rw [m2, ftup_neg] at hfind
    rw [hfind, descends_ok t a b ht]
    simp only [optAll_so, Bool.not_false, cond_true, enc_len, m3, beq_self_eq_true, live_ok]
    unfold sub at hm
    by_cases ea : a = f
    · rw [decide_eq_true ea]
      rw [if_pos ea] at hm
      by_cases eb : b = f
      · rw [decide_eq_true eb]
        rw [if_pos eb] at hm
        simp only [cond_true]
        rw [descends_ok _ k k hu, hm]
        simp only [optAll_so, beq_self_eq_true, cond_true]
      · rw [decide_eq_false eb]
        rw [if_neg eb] at hm
        simp only [cond_true, cond_false]
        rw [descends_ok _ k b hu, hm]
        simp only [optAll_so, beq_self_eq_true, cond_true]
    · rw [decide_eq_false ea]
      rw [if_neg ea] at hm
      by_cases eb : b = f
      · rw [decide_eq_true eb]
        rw [if_pos eb] at hm
        simp only [cond_true, cond_false]
        rw [descends_ok _ a k hu, hm]
        simp only [optAll_so, beq_self_eq_true, cond_true]
      · rw [decide_eq_false eb]
        rw [if_neg eb] at hm
        simp only [cond_false]
        rw [descends_ok _ a b hu, hm]
        simp only [optAll_so, beq_self_eq_true, cond_true]
  · rw [show (((sMove t f k).2 != 0) : Bool) = true by simp [he]]
    simp only [cond_true, live_ok, optAll_so]
theorem sMark_len (t : List TRow) (k : K) (on : Bool) : (sMark t k on).1.length = t.length := by
  unfold sMark
  split
  · split <;> simp
  · rfl
theorem moves_law (l : List Act) (f k a b : K) : law13_TreeMoves.R (l.map encA) f.obj f.slot k.obj k.slot a.obj a.slot b.obj b.slot = some (true, ()) := by
  refine law13_TreeMoves.start _ _ _ _ _ _ _ _ _ _ ?_
  rw [List.length_map]
  by_cases h1 : l.length > 60
  · rw [decide_eq_true (by omega)]
    simp only [cond_true, live_ok, optAll_so]
  rw [decide_eq_false (by omega), grown_ok l (by omega)]
  simp only [cond_false, optAll_so]
  have h := gr_good l
  have ht := gr_small l
  rw [move_ok _ f k ht]
  simp only [optAll_so, rtup]
  rw [mark_ok _ a true ht]
  simp only [optAll_so, rtup, num_ok]
  by_cases he : (sMark (gr l) a true).2 = 0
  · rw [show (((sMark (gr l) a true).2 == 0) : Bool) = true by simp [he]]
    simp only [cond_true]
    rw [descends_ok _ a b (by rw [sMark_len]; exact ht), mark_des h he]
    simp only [optAll_so]
    rw [descends_ok _ a b ht]
    simp only [optAll_so, beq_self_eq_true, Bool.not_true, cond_false]
    have := move_tail h f k a b
    rw [num_ok] at this
    rw [descends_ok _ a b ht] at this
    exact this
  · rw [show (((sMark (gr l) a true).2 == 0) : Bool) = false by simp [he]]
    have := move_tail h f k a b
    rw [num_ok] at this
    exact this
/-! Back -/
structure Ins (t : List TRow) (f k : K) (i : Nat) : Prop where
  lt : i < t.length
  at_ : key t i = f
  off : ∀ j, j < t.length → key t j ≠ k
  ok : kOK k = true
  room : t.length < 512
  is_ : sInsert t f k = (putAt t (i + 1) ⟨k.obj, k.slot, dd t i + 1, false⟩, 0)
theorem ins_facts {t : List TRow} {f k : K} (he : (sInsert t f k).2 = 0) : ∃ i, Ins t f k i := by
  revert he
  unfold sInsert
  split
  · rename_i hc
    split
    · intro he; cases he
    · rename_i hf
      split
      · intro he; cases he
      · rename_i hk
        split
        · intro he; cases he
        · rename_i hl
          intro _
          rcases fnd_key t f with ⟨h1, _⟩ | ⟨i, hi, h1, h2, _⟩
          · omega
          · rcases fnd_key t k with ⟨_, g2⟩ | ⟨j, _, g1, _⟩
            · refine ⟨i, hi, h2, g2, hc.2.2, by omega, ?_⟩
              unfold sInsert
              rw [if_pos hc, if_neg hf, if_neg hk, if_neg hl, h1, Int.toNat_natCast]
            · omega
  · intro he; cases he
theorem ins_same {t : List TRow} {f k : K} (he : (sInsert t f k).2 ≠ 0) : (sInsert t f k).1 = t := by
  revert he
  unfold sInsert
  split
  · split
    · intro _; rfl
    · split
      · intro _; rfl
      · split
        · intro _; rfl
        · intro h; exact absurd rfl h
  · intro _; rfl
theorem out_put (t : List TRow) (i : Nat) (r : TRow) (hi : i ≤ t.length) : outAt (putAt t i r) i = t := by
  unfold outAt putAt
  have e : (t.take i).length = i := by simp; omega
  rw [List.append_assoc, List.take_append_of_le_length (by omega), List.take_of_length_le (by omega)]
  have e2 : i + 1 = (t.take i ++ [r]).length := by simp; omega
  rw [← List.append_assoc, e2, List.drop_left, List.take_append_drop]
structure Put (t : List TRow) (f k : K) (i : Nat) (u : List TRow) : Prop where
  good : GT u
  len : u.length = t.length + 1
  key : ∀ j, key u j = if j < i + 1 then key t j else if j = i + 1 then k else key t (j - 1)
  dd : ∀ j, dd u j = if j < i + 1 then dd t j else if j = i + 1 then dd t i + 1 else dd t (j - 1)
  none : ∀ j, ¬ Dn u (i + 1) j
theorem put_facts {t : List TRow} (h : GT t) {f k : K} {i : Nat} (q : Ins t f k i) : Put t f k i (putAt t (i + 1) ⟨k.obj, k.slot, dd t i + 1, false⟩) := by
  have hl := q.lt
  have hg := put_get t (i + 1) ⟨k.obj, k.slot, dd t i + 1, false⟩ (by omega)
  have hlen := put_len t (i + 1) ⟨k.obj, k.slot, dd t i + 1, false⟩ (by omega)
  have hdd : ∀ j, dd (putAt t (i + 1) ⟨k.obj, k.slot, dd t i + 1, false⟩) j = if j < i + 1 then dd t j else if j = i + 1 then dd t i + 1 else dd t (j - 1) := fun j => by
    rw [show dd (putAt t (i + 1) ⟨k.obj, k.slot, dd t i + 1, false⟩) j = ((putAt t (i + 1) ⟨k.obj, k.slot, dd t i + 1, false⟩).getD j dr).depth from rfl, hg]; split
    · rfl
    · split <;> rfl
  refine ⟨?_, hlen, fun j => ?_, hdd, fun j hj => ?_⟩
  · refine put_good h (by omega) (by have := q.room; omega) q.ok q.off ?_ (by simp only [lim]; exact Int.le_refl _) (fun hlt => ?_)
    · show 0 ≤ dd t i + 1
      have := (h.at_ i hl).nn
      omega
    · show dd t (i + 1) ≤ dd t i + 1 + 1
      have := (h.at_ (i + 1) hlt).le
      simp only [lim] at this
      omega
  · unfold key; rw [hg]; split
    · rfl
    · split <;> rfl
  · have h1 := hj.1
    have h2 := hj.2.1
    have h3 := hj.2.2 (i + 2) (by omega) (by omega)
    rw [hdd, hdd, if_neg (by omega), if_pos rfl, if_neg (by omega), if_neg (by omega)] at h3
    rw [hlen] at h2
    have h4 := (h.at_ (i + 1) (by omega)).le
    simp only [lim] at h4
    rw [show i + 2 - 1 = i + 1 by omega] at h3
    omega
theorem put_par {t u : List TRow} {f k : K} {i : Nat} (q : Ins t f k i) (p : Put t f k i u) : ∃ r, par u k = some r ∧ kk r = f := by
  have hlt : i + 1 < u.length := by rw [p.len]; have := q.lt; omega
  have hf := p.good.fnd hlt (k := k) (by rw [p.key, if_neg (by omega), if_pos rfl])
  have e1 : dd u (i + 1) = dd t i + 1 := by rw [p.dd, if_neg (by omega), if_pos rfl]
  have e2 : dd u i = dd t i := by rw [p.dd, if_pos (by omega)]
  refine ⟨u.getD i dr, ?_, ?_⟩
  · unfold par
    rw [hf, if_neg (by omega), Int.toNat_natCast]
    simp only [parI]
    rw [if_pos (by omega)]
    rfl
  · show key u i = f
    rw [p.key, if_pos (by omega)]
    exact q.at_
theorem put_rem {t : List TRow} {f k : K} {i : Nat} (q : Ins t f k i) (p : Put t f k i (putAt t (i + 1) ⟨k.obj, k.slot, dd t i + 1, false⟩)) : sRemove (putAt t (i + 1) ⟨k.obj, k.slot, dd t i + 1, false⟩) k = (t, 0) := by
  have hlt : i + 1 < (putAt t (i + 1) ⟨k.obj, k.slot, dd t i + 1, false⟩).length := by rw [p.len]; have := q.lt; omega
  have hf := p.good.fnd hlt (k := k) (by rw [p.key, if_neg (by omega), if_pos rfl])
  have h0 : (underOf (putAt t (i + 1) ⟨k.obj, k.slot, dd t i + 1, false⟩) (i + 1)).length = 0 := by
    rcases Nat.eq_zero_or_pos (underOf (putAt t (i + 1) ⟨k.obj, k.slot, dd t i + 1, false⟩) (i + 1)).length with h | h
    · exact h
    · exact absurd ((under_iff hlt).1 ⟨Nat.lt_succ_self (i + 1), by omega⟩) (p.none _)
  unfold sRemove
  rw [if_pos ⟨(tOK_iff _).2 p.good, q.ok⟩, hf, if_neg (by omega), Int.toNat_natCast, if_pos h0, out_put _ _ _ (by have := q.lt; omega)]
theorem put_below {t u : List TRow} {f k : K} {i : Nat} (q : Ins t f k i) (p : Put t f k i u) (o : K) : des u o k = false := by
  rw [Bool.eq_false_iff]
  intro hd
  obtain ⟨a, b, h1, h2, _⟩ := (des_iff p.good o k).1 hd
  have hlt : i + 1 < u.length := by rw [p.len]; have := q.lt; omega
  obtain rfl := p.good.inj (by have := h1.1; have := h1.2.1; omega) hlt (h2.trans (by rw [p.key, if_neg (by omega), if_pos rfl] : k = key u (i + 1)))
  exact p.none _ h1
theorem put_above {t u : List TRow} (h : GT t) {f k : K} {i : Nat} (q : Ins t f k i) (p : Put t f k i u) (o : K) (ho : ∃ j, j < t.length ∧ key t j = o) : des u k o = if o = f then true else des t f o := by
  have hlt : i + 1 < u.length := by rw [p.len]; have := q.lt; omega
  have hk : key u (i + 1) = k := by rw [p.key, if_neg (by omega), if_pos rfl]
  have e1 : dd u (i + 1) = dd t i + 1 := by rw [p.dd, if_neg (by omega), if_pos rfl]
  have e2 : ∀ j, j < i + 1 → dd u j = dd t j := fun j hj => by rw [p.dd, if_pos hj]
  have e3 : ∀ j, j < i + 1 → key u j = key t j := fun j hj => by rw [p.key, if_pos hj]
  rw [Bool.eq_iff_iff, des_iff p.good]
  constructor
  · rintro ⟨a, b, h1, h2, h3⟩
    obtain rfl := p.good.inj h1.2.1 hlt (h3.trans hk.symm)
    have ha := h1.1
    rw [e3 a ha] at h2
    split
    · rfl
    · rename_i hne
      have hai : a ≠ i := fun e => by subst e; exact hne (h2.symm.trans q.at_)
      refine (des_iff h f o).2 ⟨a, i, ⟨by omega, q.lt, fun m h4 h5 => ?_⟩, h2, q.at_⟩
      have := h1.2.2 m h4 (by omega)
      rw [e2 a ha, e2 m (by omega)] at this
      exact this
  · intro hd
    split at hd
    · rename_i he
      refine ⟨i, i + 1, ⟨by omega, hlt, fun m h4 h5 => ?_⟩, by rw [e3 i (by omega), q.at_, he], hk⟩
      obtain rfl : m = i + 1 := by omega
      rw [e2 i (by omega), e1]
      omega
    · obtain ⟨a, b, h1, h2, h3⟩ := (des_iff h f o).1 hd
      obtain rfl := h.inj h1.2.1 q.lt (h3.trans q.at_.symm)
      have ha := h1.1
      refine ⟨a, b + 1, ⟨by omega, hlt, fun m h4 h5 => ?_⟩, by rw [e3 a (by omega), h2], hk⟩
      rw [e2 a (by omega)]
      by_cases hm : m = b + 1
      · subst hm
        rw [e1]
        have := h1.2.2 b ha (Nat.le_refl _)
        omega
      · rw [e2 m (by omega)]
        exact h1.2.2 m h4 (by omega)
theorem eqKK (a b : K) : (a.obj == b.obj && (a.slot == b.slot && true)) = decide (a = b) := eqK a b
theorem back_law (l : List Act) (f k o : K) : law13_TreeBack.R (l.map encA) f.obj f.slot k.obj k.slot o.obj o.slot = some (true, ()) := by
  refine law13_TreeBack.start _ _ _ _ _ _ _ _ ?_
  rw [List.length_map]
  by_cases h1 : l.length > 60
  · rw [decide_eq_true (by omega)]
    simp only [cond_true, live_ok, optAll_so]
  rw [decide_eq_false (by omega), grown_ok l (by omega)]
  simp only [cond_false, optAll_so]
  have h := gr_good l
  have ht := gr_small l
  rw [insert_ok _ f k ht]
  simp only [optAll_so, rtup, num_ok]
  by_cases he : (sInsert (gr l) f k).2 = 0
  · obtain ⟨i, q⟩ := ins_facts he
    have p := put_facts h q
    rw [q.is_]
    simp only [bne_self_eq_false, cond_false]
    generalize hu : putAt (gr l) (i + 1) ⟨k.obj, k.slot, dd (gr l) i + 1, false⟩ = u
    have pr := put_rem q p
    rw [hu] at p pr
    have hul : u.length < 1000000 := by rw [p.len]; have := q.room; omega
    obtain ⟨r, r1, r2⟩ := put_par q p
    rw [parent_ok _ k hul, r1, remove_ok _ k hul, pr]
    simp only [optAll_so, rtup, ptup, Bool.not_true, cond_false]
    rw [show (r.obj == f.obj && (r.slot == f.slot && true)) = decide (kk r = f) from eqK (kk r) f, decide_eq_true r2]
    simp only [Bool.not_true, cond_false, bne_self_eq_false]
    rw [same_ok _ _ ht ht]
    simp only [optAll_so, decide_true, Bool.not_true, cond_false, enc_len]
    rw [p.len, wrap_succ (by omega)]
    simp only [bne_self_eq_false, cond_false]
    rw [find_ok _ o ht]
    simp only [optAll_so]
    rcases fnd_key (gr l) o with ⟨g1, _⟩ | ⟨j, hj, g1, g2, _⟩
    · rw [g1, ftup_neg]
      simp only [cond_false, live_ok, optAll_so]
    · rw [g1, ftup_nat]
      simp only [cond_true]
      have hab := put_above h q p o ⟨j, hj, g2⟩
      have hbe := put_below q p o
      rw [descends_ok _ k o hul, hab]
      simp only [optAll_so, eqKK]
      by_cases ho : o = f
      · rw [if_pos ho, decide_eq_true ho]
        simp only [cond_true, beq_self_eq_true, Bool.not_true, cond_false]
        rw [descends_ok _ o k hul, hbe]
        simp only [optAll_so, cond_false, live_ok]
      · rw [if_neg ho, decide_eq_false ho]
        simp only [cond_false]
        rw [descends_ok _ f o ht]
        simp only [optAll_so, beq_self_eq_true, Bool.not_true, cond_false]
        rw [descends_ok _ o k hul, hbe]
        simp only [optAll_so, cond_false, live_ok]
  · rw [show (((sInsert (gr l) f k).2 != 0) : Bool) = true by simp [he], ins_same he]
    simp only [cond_true]
    rw [same_ok _ _ ht ht]
    simp only [optAll_so, decide_true, cond_true, live_ok]
/-! Counts -/
def chi (t : List TRow) (a j : Nat) : Prop := parI t (dd t j) j = some a
structure Cnt (t : List TRow) (a q kids sum : Nat) : Prop where
  few : kids ≤ q
  ex : ∃ c, (q ≤ c ∨ a + 1 + (underOf t a).length ≤ c) ∧ c ≤ a + 1 + (underOf t a).length ∧ a + 1 ≤ c ∧ sum = c - (a + 1) ∧ (kids = 0 ↔ c = a + 1) ∧ (c = a + 1 ∨ ∃ p, p < q ∧ chi t a p ∧ c = p + 1 + (underOf t p).length)
theorem chi_lt {t : List TRow} {a j : Nat} (h : chi t a j) : a < j := (parI_some h).1
theorem chi_in {t : List TRow} {a j : Nat} (hj : j < t.length) (h : chi t a j) : Dn t a j := par_dn hj h
theorem cnt_kid {t : List TRow} {a q kids sum : Nat} (ha : a < t.length) (hq : q < t.length) (h : Cnt t a q kids sum) (hc : chi t a q) : Cnt t a (q + 1) (kids + 1) (sum + 1 + (underOf t q).length) := by
  obtain ⟨c, h1, h2, h3, h4, h5, h6⟩ := h.ex
  have hd := chi_in hq hc
  have hE := (under_iff ha).2 hd
  obtain ⟨c1, c2, c3⟩ := parI_some hc
  have hqc : q = c := by
    rcases Nat.lt_or_ge q c with hlt | hge
    · exfalso
      rcases h6 with h6 | ⟨p, p1, p2, p3⟩
      · omega
      · have hp := (under_iff (t := t) (i := p) (j := q) (by omega)).1 ⟨p1, by omega⟩
        have e1 := c3 p (chi_lt p2) p1
        have e2 := hp.2.2 q p1 (Nat.le_refl _)
        omega
    · rcases h1 with h1 | h1 <;> omega
  have hin : q + 1 + (underOf t q).length ≤ a + 1 + (underOf t a).length := by
    rcases Nat.eq_zero_or_pos (underOf t q).length with h0 | h0
    · omega
    · have hd2 := (under_iff hq).1 (⟨by omega, by omega⟩ : q < q + (underOf t q).length ∧ q + (underOf t q).length < q + 1 + (underOf t q).length)
      have := (under_iff ha).2 (hd.trans hd2)
      omega
  have hfew := h.few
  clear h6 h
  refine ⟨by omega, q + 1 + (underOf t q).length, .inl (by omega), hin, by omega, by omega, by omega, .inr ⟨q, by omega, hc, rfl⟩⟩
theorem cnt_skip {t : List TRow} (hg : GT t) {a q kids sum : Nat} (ha : a < t.length) (hq : q < t.length) (h : Cnt t a q kids sum) (hc : ¬ chi t a q) : Cnt t a (q + 1) kids sum := by
  obtain ⟨c, h1, h2, h3, h4, h5, h6⟩ := h.ex
  refine ⟨by have := h.few; omega, c, ?_, h2, h3, h4, h5, h6.imp id fun ⟨p, p1, p2, p3⟩ => ⟨p, by omega, p2, p3⟩⟩
  rcases h1 with h1 | h1
  · rcases Nat.lt_or_ge q c with hlt | hge
    · exact .inl (by omega)
    · rcases Nat.lt_or_ge c (a + 1 + (underOf t a).length) with hlt2 | hge2
      · exfalso
        have hqc : q = c := by omega
        have hd := (under_iff ha).1 (⟨by omega, by omega⟩ : a < q ∧ q < a + 1 + (underOf t a).length)
        apply hc
        -- nothing between a and q is higher
        have hbt : ∀ r, a < r → r < q → dd t q ≤ dd t r := by
          intro r r1 r2
          rcases h6 with h6 | ⟨p, p1, p2, p3⟩
          · omega
          · obtain ⟨_, _, g3⟩ := parI_some p2
            have hpl : p < t.length := by omega
            obtain ⟨_, u2, u3, _⟩ := under_spec hpl
            have hqp : dd t q ≤ dd t p := by
              rcases u3 with u3 | u3
              · omega
              · rw [← p3, ← hqc] at u3; exact u3
            rcases Nat.lt_trichotomy r p with hlt | heq | hgt
            · have := g3 r r1 hlt; omega
            · subst heq; exact hqp
            · have := u2 r hgt (by omega); omega
        have key : ∀ n, a < n → n ≤ q → parI t (dd t q) n = some a := by
          intro n
          induction n with
          | zero => intro h _; omega
          | succ n ih =>
            intro hn hn2
            simp only [parI]
            by_cases hna : n = a
            · subst hna
              rw [if_pos (hd.2.2 q hd.1 (Nat.le_refl _))]
            · rw [if_neg (by have := hbt n (by omega) (by omega); omega)]
              exact ih (by omega) (by omega)
        exact key q hd.1 (Nat.le_refl _)
      · exact .inr hge2
  · exact .inr h1
theorem cnt_end {t : List TRow} {a q kids sum : Nat} (ha : a < t.length) (hq : t.length ≤ q) (h : Cnt t a q kids sum) : sum = (underOf t a).length ∧ (kids = 0 ↔ (underOf t a).length = 0) := by
  obtain ⟨c, h1, h2, h3, h4, h5, -⟩ := h.ex
  have := (under_spec ha).1
  have hc : c = a + 1 + (underOf t a).length := by omega
  refine ⟨by omega, ?_⟩
  rw [h5]
  omega
theorem top_iff {t : List TRow} (hg : GT t) {j : Nat} (hj : j < t.length) : parI t (dd t j) j = none ↔ dd t j = 0 := by
  constructor
  · intro h
    have h2 := parI_none h
    have h3 := (hg.at_ j hj).nn
    have h0 : dd t j ≤ 0 := by
      cases j with
      | zero => exact (hg.at_ 0 hj).le
      | succ j =>
        have := h2 0 (by omega)
        have := (hg.at_ 0 (by omega)).le
        simp only [lim] at this
        omega
    omega
  · intro h
    cases hp : parI t (dd t j) j with
    | none => rfl
    | some p =>
      obtain ⟨h1, h2, _⟩ := parI_some hp
      have := (hg.at_ p (by omega)).nn
      omega
theorem bel_at {t : List TRow} (h : GT t) {j : Nat} (hj : j < t.length) : bel t (key t j) = underOf t j := by
  unfold bel
  rw [h.fnd hj rfl, if_neg (by omega), Int.toNat_natCast]
theorem par_at {t : List TRow} (h : GT t) {j : Nat} (hj : j < t.length) : par t (key t j) = (parI t (dd t j) j).map fun n => t.getD n dr := by
  unfold par
  rw [h.fnd hj rfl, if_neg (by omega), Int.toNat_natCast]
theorem key_get (t : List TRow) {j : Nat} (hj : j < t.length) : kk t[j] = key t j := by unfold key; rw [getD_lt t hj]
theorem dd_get (t : List TRow) {j : Nat} (hj : j < t.length) : t[j].depth = dd t j := by unfold dd; rw [getD_lt t hj]
theorem kr0 (r : TRow) : dInt .i64 r.krow 0 = some r.obj := rfl
theorem kr1 (r : TRow) : dInt .i64 r.krow 1 = some r.slot := rfl
theorem h21_ok {t : List TRow} (hg : GT t) {a kids : Nat} (ha : a < t.length) (hk : kids = 0 ↔ (underOf t a).length = 0) : ∀ m i : Nat, i + m = (underOf t a).length →
    law13_TreeCounts.H21 (enc t) a ((underOf t a).map TRow.krow) kids ((underOf t a).length : Int) i (true, ()) := by
  have hl := hg.len
  have hu := (under_spec ha).1
  intro m
  induction m with
  | zero =>
    intro i hi
    refine law13_TreeCounts.H21_step _ _ _ _ _ _ _ ?_
    rw [List.length_map, decide_eq_false (by omega)]
    simp only [cond_false, beq_self_eq_true, cond_true]
    rw [show ((((kids : Nat) : Int) == 0) == ((((underOf t a).length : Nat) : Int) == 0)) = true by
      by_cases h : kids = 0
      · rw [h, hk.1 h]; rfl
      · have h2 : ¬ (underOf t a).length = 0 := fun e => h (hk.2 e)
        rw [beq_eq_false_iff_ne.2 (show ((kids : Nat) : Int) ≠ 0 by omega), beq_eq_false_iff_ne.2 (show (((underOf t a).length : Nat) : Int) ≠ 0 by omega)]
        rfl]
    simp only [cond_true, live_ok, optAll_so]
  | succ m ih =>
    intro i hi
    refine law13_TreeCounts.H21_step _ _ _ _ _ _ _ ?_
    have e1 : IntKind.i64.wrap (IntKind.i64.wrap ((a : Int) + 1) + (i : Int)) = ((a + 1 + i : Nat) : Int) := by
      rw [wrap_succ (by omega), wrap_id (by omega) (by omega)]
      omega
    rw [List.length_map, decide_eq_true (by omega), e1, enc_len]
    simp only [cond_true]
    rw [decide_eq_false (by omega)]
    have hi2 : i < (underOf t a).length := by omega
    simp only [cond_false, needs_nat, Int.toNat_natCast, enc_get t (a + 1 + i) (by omega), map_get TRow.krow (underOf t a) i hi2, optAll_so, t0_, t1_, kr0, kr1, under_get ha hi2, beq_self_eq_true, Bool.and_self, Bool.not_true]
    rw [wrap_succ (by omega)]
    exact ih (i + 1) (by omega)
theorem counts_law (l : List Act) (k : K) : law13_TreeCounts.R (l.map encA) k.obj k.slot = some (true, ()) := by
  refine law13_TreeCounts.start _ _ _ _ ?_
  rw [List.length_map]
  by_cases h1 : l.length > 60
  · rw [decide_eq_true (by omega)]
    simp only [cond_true, live_ok, optAll_so]
  rw [decide_eq_false (by omega), grown_ok l (by omega)]
  simp only [cond_false, optAll_so]
  have h := gr_good l
  have ht := gr_small l
  generalize gr l = t at h ht
  have hl := h.len
  rw [find_ok t k ht, below_ok t k ht]
  simp only [optAll_so]
  rcases fnd_key t k with ⟨g1, _⟩ | ⟨a, ha, g1, g2, _⟩
  · rw [show bel t k = [] by unfold bel; rw [g1, if_pos (by omega)]]
    rw [g1, ftup_neg]
    simp only [Bool.not_false, cond_true, List.map_nil, List.length_nil]
    rw [show (((0 : Nat) : Int) == 0) = true from rfl]
    simp only [cond_true, live_ok, optAll_so]
  · subst g2
    rw [bel_at h ha, g1, ftup_nat]
    simp only [Bool.not_true, cond_false]
    have hu := (under_spec ha).1
    have main : ∀ m i kids sum : Nat, i + m = t.length → Cnt t a i kids sum → law13_TreeCounts.H12 (enc t) a ((underOf t a).map TRow.krow) kids sum i (key t a).obj (key t a).slot (true, ()) := by
      intro m
      induction m with
      | zero =>
        intro i kids sum hi hc
        refine law13_TreeCounts.H12_step _ _ _ _ _ _ _ _ _ ?_
        obtain ⟨e1, e2⟩ := cnt_end ha (by omega) hc
        rw [enc_len, decide_eq_false (by omega), e1]
        exact h21_ok h ha e2 (underOf t a).length 0 (by omega)
      | succ m ih =>
        intro i kids sum hi hc
        refine law13_TreeCounts.H12_step _ _ _ _ _ _ _ _ _ ?_
        have hil : i < t.length := by omega
        have hui := (under_spec hil).1
        rw [enc_len, decide_eq_true (by omega)]
        simp only [cond_true, needs_nat, Int.toNat_natCast, enc_get t i hil, optAll_so, t0_, t1_, t2_]
        have hp : tree_Parent.R (enc t) t[i].obj t[i].slot = some (ptup (par t (kk t[i]))) := parent_ok t (kk t[i]) ht
        have hb : tree_Below.R (enc t) t[i].obj t[i].slot = some ((bel t (kk t[i])).map TRow.krow, ()) := below_ok t (kk t[i]) ht
        rw [key_get t hil, par_at h hil] at hp
        rw [key_get t hil, bel_at h hil] at hb
        have hsum : sum ≤ (underOf t a).length := by obtain ⟨c, q1, q2, q3, q4, -⟩ := hc.ex; omega
        rw [hp]
        simp only [optAll_so]
        cases hq : parI t (dd t i) i with
        | none =>
          have hz : t[i].depth = 0 := by rw [dd_get t hil]; exact (top_iff h hil).1 hq
          simp only [Option.map_none, ptup, cond_false, hz, beq_self_eq_true]
          rw [wrap_succ (by omega)]
          exact ih (i + 1) kids sum (by omega) (cnt_skip h ha hil hc (by unfold chi; rw [hq]; intro e; cases e))
        | some p =>
          have hz : (t[i].depth == 0) = false := by
            rw [beq_eq_false_iff_ne, dd_get t hil]
            intro e
            rw [(top_iff h hil).2 e] at hq
            cases hq
          obtain ⟨p1, _, _⟩ := parI_some hq
          simp only [Option.map_some, ptup, cond_true, hz]
          rw [show ((t.getD p dr).obj == (key t a).obj && ((t.getD p dr).slot == (key t a).slot && true)) = decide (key t p = key t a) from eqK (key t p) (key t a)]
          by_cases hpa : p = a
          · subst hpa
            rw [decide_eq_true rfl]
            simp only [cond_true]
            rw [hb]
            simp only [optAll_so, List.length_map]
            have hc2 := cnt_kid ha hil hc hq
            have hs2 : sum + 1 + (underOf t i).length ≤ (underOf t p).length := by obtain ⟨c, q1, q2, q3, q4, -⟩ := hc2.ex; omega
            have hf := hc.few
            rw [wrap_succ (by omega), wrap_succ (show sum < 4611686018427387904 by omega), wrap_succ (show i < 4611686018427387904 by omega), wrap_id (n := ((sum + 1 : Nat) : Int) + ((underOf t i).length : Int)) (by omega) (by omega), show ((sum + 1 : Nat) : Int) + ((underOf t i).length : Int) = ((sum + 1 + (underOf t i).length : Nat) : Int) by omega]
            exact ih (i + 1) (kids + 1) (sum + 1 + (underOf t i).length) (by omega) hc2
          · rw [decide_eq_false (fun e => hpa (h.inj (by omega) ha e))]
            simp only [cond_false]
            rw [wrap_succ (by omega)]
            exact ih (i + 1) kids sum (by omega) (cnt_skip h ha hil hc (by unfold chi; rw [hq]; intro e; simp only [Option.some.injEq] at e; exact hpa e))
    exact main t.length 0 0 0 (by omega) ⟨by omega, a + 1, .inl (by omega), by omega, by omega, by omega, by simp, .inl rfl⟩
/-! Many -/
def mk (j : Nat) : TRow := ⟨((j / 8 : Nat) : Int), ((j % 8 : Nat) : Int), ((j % 2 : Nat) : Int), false⟩
def T (n : Nat) : List TRow := (List.range n).map mk
theorem T_len (n : Nat) : (T n).length = n := by simp [T]
theorem T_get (n j : Nat) (h : j < n) : (T n).getD j dr = mk j := by
  rw [getD_lt _ (by rw [T_len]; exact h)]
  simp [T]
theorem T_succ (n : Nat) : T (n + 1) = T n ++ [mk n] := by simp [T, List.range_succ]
theorem T_key (n j : Nat) (h : j < n) : key (T n) j = ⟨((j / 8 : Nat) : Int), ((j % 8 : Nat) : Int)⟩ := by unfold key; rw [T_get n j h]; rfl
theorem T_dd (n j : Nat) (h : j < n) : dd (T n) j = ((j % 2 : Nat) : Int) := by unfold dd; rw [T_get n j h]; rfl
theorem mk_ne {i j : Nat} (h : i ≠ j) : (K.mk ((i / 8 : Nat) : Int) ((i % 8 : Nat) : Int)) ≠ ⟨((j / 8 : Nat) : Int), ((j % 8 : Nat) : Int)⟩ := by
  intro e
  simp only [K.mk.injEq] at e
  omega
theorem T_kok {j : Nat} (h : j < 1024) : kOK ⟨((j / 8 : Nat) : Int), ((j % 8 : Nat) : Int)⟩ = true := by
  unfold kOK
  simp only [Bool.and_eq_true, decide_eq_true_eq]
  omega
theorem T_good {n : Nat} (h : n ≤ 512) : GT (T n) := by
  refine ⟨by rw [T_len]; exact h, fun i hi => ?_⟩
  rw [T_len] at hi
  refine ⟨fun j hj => ?_, by rw [T_key n i hi]; exact T_kok (by omega), by rw [T_dd n i hi]; omega, ?_⟩
  · rw [T_key n j (by omega), T_key n i hi]
    exact mk_ne (by omega)
  · rw [T_dd n i hi]
    cases i with
    | zero => simp [lim]
    | succ i => simp only [lim]; rw [T_dd n i (by omega)]; omega
theorem T_off (n : Nat) (h : n ≤ 512) : fnd (T n) ⟨((n / 8 : Nat) : Int), ((n % 8 : Nat) : Int)⟩ = -1 := by
  rcases fnd_key (T n) ⟨((n / 8 : Nat) : Int), ((n % 8 : Nat) : Int)⟩ with ⟨h1, _⟩ | ⟨j, hj, _, h2, _⟩
  · exact h1
  · rw [T_len] at hj
    rw [T_key n j hj] at h2
    exact absurd h2 (mk_ne (by omega))
theorem put_end (t : List TRow) (r : TRow) : putAt t t.length r = t ++ [r] := by
  unfold putAt
  rw [List.take_length, List.drop_length, List.append_nil]
theorem T_root {n : Nat} (h : n < 512) (he : n % 2 = 0) : sRoot (T n) ⟨((n / 8 : Nat) : Int), ((n % 8 : Nat) : Int)⟩ = (T (n + 1), 0) := by
  unfold sRoot
  rw [if_pos ⟨(tOK_iff _).2 (T_good (by omega)), T_kok (by omega)⟩, T_off n (by omega), if_neg (by omega), if_neg (by rw [T_len]; omega), put_end, T_succ]
  unfold mk
  rw [he]
  rfl
theorem T_ins {n : Nat} (h : n < 512) (he : n % 2 = 1) : sInsert (T n) ⟨((n / 8 : Nat) : Int), ((n % 8 - 1 : Nat) : Int)⟩ ⟨((n / 8 : Nat) : Int), ((n % 8 : Nat) : Int)⟩ = (T (n + 1), 0) := by
  obtain ⟨m, rfl⟩ : ∃ m, n = m + 1 := ⟨n - 1, by omega⟩
  have hk : key (T (m + 1)) m = ⟨(((m + 1) / 8 : Nat) : Int), (((m + 1) % 8 - 1 : Nat) : Int)⟩ := by
    rw [T_key (m + 1) m (by omega)]
    congr 2 <;> omega
  have hf := (T_good (n := m + 1) (by omega)).fnd (i := m) (by rw [T_len]; omega) hk
  have hd := T_dd (m + 1) m (by omega)
  unfold sInsert
  rw [if_pos ⟨(tOK_iff _).2 (T_good (by omega)), by rw [← hk, T_key (m + 1) m (by omega)]; exact T_kok (by omega), T_kok (by omega)⟩, hf, if_neg (by omega), T_off (m + 1) (by omega), if_neg (by omega), if_neg (by rw [T_len]; omega), Int.toNat_natCast, hd]
  have := put_end (T (m + 1)) ⟨(((m + 1) / 8 : Nat) : Int), (((m + 1) % 8 : Nat) : Int), ((m % 2 : Nat) : Int) + 1, false⟩
  rw [T_len] at this
  rw [this, T_succ (m + 1)]
  unfold mk
  rw [show ((m % 2 : Nat) : Int) + 1 = (((m + 1) % 2 : Nat) : Int) by omega]
theorem full_root {t : List TRow} (h : 512 ≤ t.length) (k : K) : (sRoot t k).1 = t ∧ (sRoot t k).2 ≠ 0 := by
  unfold sRoot
  split
  · split
    · exact ⟨rfl, by simp⟩
    · exact ⟨rfl, by simp⟩
  · exact ⟨rfl, by simp⟩
theorem full_ins {t : List TRow} (h : 512 ≤ t.length) (f k : K) : (sInsert t f k).1 = t ∧ (sInsert t f k).2 ≠ 0 := by
  unfold sInsert
  split
  · split
    · exact ⟨rfl, by simp⟩
    · split
      · exact ⟨rfl, by simp⟩
      · exact ⟨rfl, by simp⟩
  · exact ⟨rfl, by simp⟩
theorem tdiv8 (m : Nat) : Int.tdiv (m : Int) 8 = ((m / 8 : Nat) : Int) := (Int.ofNat_tdiv m 8).symm
theorem tmod8 (m : Nat) : Int.tmod (m : Int) 8 = ((m % 8 : Nat) : Int) := (Int.ofNat_tmod m 8).symm
theorem tmod2 (m : Nat) : Int.tmod (m : Int) 2 = ((m % 2 : Nat) : Int) := (Int.ofNat_tmod m 2).symm
theorem many_law (n : Int) : law13_TreeMany.R n = some (true, ()) := by
  refine law13_TreeMany.start _ _ ?_
  by_cases h1 : n < 500
  · rw [decide_eq_true h1]
    simp only [cond_true, live_ok, optAll_so]
  rw [decide_eq_false h1]
  by_cases h2 : n > 520
  · rw [decide_eq_true h2]
    simp only [cond_true, cond_false, live_ok, optAll_so]
  rw [decide_eq_false h2]
  simp only [cond_false]
  obtain ⟨n, rfl⟩ : ∃ k : Nat, n = k := ⟨n.toNat, by omega⟩
  have main : ∀ m i : Nat, i + m = n → law13_TreeMany.H7 n (enc (T (min i 512))) i (true, ()) := by
    intro m
    induction m with
    | zero =>
      intro i hi
      refine law13_TreeMany.H7_step _ _ _ _ ?_
      rw [decide_eq_false (by omega), enc_len, T_len]
      simp only [cond_false]
      rw [show ((((min i 512 : Nat) : Nat) : Int) == if (512 : Int) < (n : Int) then 512 else (n : Int)) = true by
        rw [beq_iff_eq]
        split <;> omega]
      simp only [cond_true]
      rw [er_good (T_good (by omega))]
      simp only [optAll_so, num_ok, beq_self_eq_true, cond_true, live_ok]
    | succ m ih =>
      intro i hi
      refine law13_TreeMany.H7_step _ _ _ _ ?_
      rw [decide_eq_true (by omega)]
      simp only [cond_true, tdiv8, tmod8, tmod2]
      rw [wrap_id (n := ((i / 8 : Nat) : Int)) (by omega) (by omega)]
      have hT : (T (min i 512)).length < 1000000 := by rw [T_len]; omega
      have ih := ih (i + 1) (by omega)
      by_cases he : i % 2 = 0
      · rw [he]
        simp only [show (((0 : Nat) : Int) == 0) = true from rfl, cond_true]
        rw [show tree_Root.R (enc (T (min i 512))) ((i / 8 : Nat) : Int) ((i % 8 : Nat) : Int) = _ from root_ok (T (min i 512)) ⟨((i / 8 : Nat) : Int), ((i % 8 : Nat) : Int)⟩ hT]
        simp only [optAll_so, rtup, num_ok]
        by_cases hs : i < 512
        · rw [show min i 512 = i by omega, T_root hs he]
          rw [show min (i + 1) 512 = i + 1 by omega] at ih
          rw [decide_eq_true (by omega), wrap_succ (by omega)]
          exact ih
        · obtain ⟨q1, q2⟩ := full_root (t := T (min i 512)) (by rw [T_len]; omega) ⟨((i / 8 : Nat) : Int), ((i % 8 : Nat) : Int)⟩
          rw [q1, decide_eq_false (by omega), beq_eq_false_iff_ne.2 q2, wrap_succ (by omega)]
          rw [show min (i + 1) 512 = min i 512 by omega] at ih
          exact ih
      · rw [show i % 2 = 1 by omega]
        simp only [show (((1 : Nat) : Int) == 0) = false from rfl, cond_false]
        rw [wrap_id (n := ((i % 8 : Nat) : Int) - 1) (by omega) (by omega), show ((i % 8 : Nat) : Int) - 1 = ((i % 8 - 1 : Nat) : Int) by omega]
        rw [show tree_Insert.R (enc (T (min i 512))) ((i / 8 : Nat) : Int) ((i % 8 - 1 : Nat) : Int) ((i / 8 : Nat) : Int) ((i % 8 : Nat) : Int) = _ from insert_ok (T (min i 512)) ⟨((i / 8 : Nat) : Int), ((i % 8 - 1 : Nat) : Int)⟩ ⟨((i / 8 : Nat) : Int), ((i % 8 : Nat) : Int)⟩ hT]
        simp only [optAll_so, rtup, num_ok]
        by_cases hs : i < 512
        · rw [show min i 512 = i by omega, T_ins hs (by omega)]
          rw [show min (i + 1) 512 = i + 1 by omega] at ih
          rw [decide_eq_true (by omega), wrap_succ (by omega)]
          exact ih
        · obtain ⟨q1, q2⟩ := full_ins (t := T (min i 512)) (by rw [T_len]; omega) ⟨((i / 8 : Nat) : Int), ((i % 8 - 1 : Nat) : Int)⟩ ⟨((i / 8 : Nat) : Int), ((i % 8 : Nat) : Int)⟩
          rw [q1, decide_eq_false (by omega), beq_eq_false_iff_ne.2 q2, wrap_succ (by omega)]
          rw [show min (i + 1) 512 = min i 512 by omega] at ih
          exact ih
  exact main n 0 (by omega)
end Trees
end Go.AI
