/-
  Own work. tree's laws over grown trees.
-/
import Derived.Test.YtjjchnnnchccgaaTree4
namespace Go.AI
open Go
set_option linter.unusedVariables false
set_option linter.unusedSimpArgs false
namespace Trees
open Kit Ghost

def gr (l : List Act) : List TRow := l.foldl (fun t x => (step t x).1) []
theorem gr_snoc (l : List Act) (x : Act) : gr (l ++ [x]) = (step (gr l) x).1 := by simp [gr]
theorem gr_take (l : List Act) (i : Nat) (hi : i < l.length) : gr (l.take (i + 1)) = (step (gr (l.take i)) l[i]).1 := by
  rw [List.take_succ_eq_append_getElem hi, gr_snoc]
theorem gr_fold_good : ∀ (l : List Act) (t : List TRow), GT t → GT (l.foldl (fun t x => (step t x).1) t)
  | [], t, h => h
  | x :: l, t, h => gr_fold_good l _ (step_good h x)
theorem gr_good (l : List Act) : GT (gr l) := gr_fold_good l [] nil_good
theorem gr_small (l : List Act) : (gr l).length < 1000000 := by have := (gr_good l).len; omega
theorem a0_ (x : Act) : dInt .i64 (encA x) 0 = some x.kind := rfl
theorem a1_ (x : Act) : dInt .i64 (encA x) 1 = some x.a.obj := rfl
theorem a2_ (x : Act) : dInt .i64 (encA x) 2 = some x.a.slot := rfl
theorem a3_ (x : Act) : dInt .i64 (encA x) 3 = some x.b.obj := rfl
theorem a4_ (x : Act) : dInt .i64 (encA x) 4 = some x.b.slot := rfl
theorem a5_ (x : Act) : dBool (encA x) 5 = some x.on := rfl
theorem grown_ok (l : List Act) (hl : l.length < 1000000) : law13_grown.R (l.map encA) = some (enc (gr l), ()) := by
  refine law13_grown.start _ _ ?_
  have key : ∀ m i : Nat, i + m = l.length → law13_grown.H4 (l.map encA) (enc (gr (l.take i))) i (enc (gr l), ()) := by
    intro m
    induction m with
    | zero =>
      intro i hi
      refine law13_grown.H4_step _ _ _ _ ?_
      rw [List.length_map, decide_eq_false (by omega), List.take_of_length_le (by omega)]
      exact rfl
    | succ m ih =>
      intro i hi
      refine law13_grown.H4_step _ _ _ _ ?_
      have hil : i < l.length := by omega
      rw [List.length_map, decide_eq_true (by omega)]
      simp only [cond_true, needs_nat, Int.toNat_natCast, map_get _ _ _ hil, optAll_so, a0_, a1_, a2_, a3_, a4_, a5_]
      rw [does_ok _ _ (gr_small _), wrap_succ (show i < 4611686018427387904 by omega)]
      simp only [optAll_so, rtup]
      rw [← gr_take l i hil]
      exact ih (i + 1) (by omega)
  exact key l.length 0 (by omega)
theorem er_good {t : List TRow} (h : GT t) : tree_Check.R (enc t) = some (0, ()) := by
  rw [check_ok t (by have := h.len; omega), (tOK_iff t).2 h]
  rfl
theorem runs_law (l : List Act) : law13_TreeRuns.R (l.map encA) = some (true, ()) := by
  refine law13_TreeRuns.start _ _ ?_
  rw [List.length_map]
  by_cases h1 : l.length > 60
  · rw [decide_eq_true (by omega)]
    simp only [cond_true, live_ok, optAll_so]
  rw [decide_eq_false (by omega)]
  have key : ∀ m i : Nat, i + m = l.length → law13_TreeRuns.H6 (l.map encA) (enc (gr (l.take i))) (enc (gr (l.take i))) i (true, ()) := by
    intro m
    induction m with
    | zero =>
      intro i hi
      refine law13_TreeRuns.H6_step _ _ _ _ _ ?_
      rw [List.length_map, decide_eq_false (by omega)]
      simp only [cond_false, live_ok, optAll_so]
    | succ m ih =>
      intro i hi
      refine law13_TreeRuns.H6_step _ _ _ _ _ ?_
      have hil : i < l.length := by omega
      rw [List.length_map, decide_eq_true (by omega)]
      simp only [cond_true, needs_nat, Int.toNat_natCast, map_get _ _ _ hil, optAll_so, a0_, a1_, a2_, a3_, a4_, a5_]
      rw [does_ok _ _ (gr_small _), model_ok _ _ (gr_small _), wrap_succ (show i < 4611686018427387904 by omega)]
      simp only [optAll_so, rtup]
      rw [← gr_take l i hil, rsame_ok _ _ (gr_small _) (gr_small _)]
      simp only [optAll_so, decide_true, Bool.not_true, cond_false, bne_self_eq_false]
      rw [er_good (gr_good _)]
      simp only [optAll_so, num_ok, bne_self_eq_false, cond_false]
      exact ih (i + 1) (by omega)
  exact key l.length 0 (by omega)
/-! Order -/
theorem des_self {t : List TRow} (h : GT t) (a : K) : des t a a = false := by
  rw [Bool.eq_false_iff]
  intro hd
  obtain ⟨i, j, h1, h2, h3⟩ := (des_iff h a a).1 hd
  have := h.inj (by have := h1.1; have := h1.2.1; omega) h1.2.1 (h2.trans h3.symm)
  have := h1.1
  omega
theorem des_asym {t : List TRow} (h : GT t) {a b : K} (hd : des t a b = true) : des t b a = false := by
  rw [Bool.eq_false_iff]
  intro hd2
  obtain ⟨i, j, h1, h2, h3⟩ := (des_iff h a b).1 hd
  obtain ⟨i', j', g1, g2, g3⟩ := (des_iff h b a).1 hd2
  have e1 := h.inj (by have := h1.1; have := h1.2.1; omega) g1.2.1 (h2.trans g3.symm)
  have e2 := h.inj h1.2.1 (by have := g1.1; have := g1.2.1; omega) (h3.trans g2.symm)
  have := h1.1
  have := g1.1
  omega
theorem des_trans {t : List TRow} (h : GT t) {a b c : K} (hd : des t a b = true) (hd2 : des t b c = true) : des t a c = true := by
  obtain ⟨i, j, h1, h2, h3⟩ := (des_iff h a b).1 hd
  obtain ⟨i', j', g1, g2, g3⟩ := (des_iff h b c).1 hd2
  obtain rfl := h.inj (by have := h1.1; have := h1.2.1; omega) g1.2.1 (h2.trans g3.symm)
  exact (des_iff h a c).2 ⟨i', j, g1.trans h1, g2, h3⟩
theorem par_none {t : List TRow} (h : GT t) {a : K} (hp : par t a = none) (b : K) : des t a b = false := by
  rw [Bool.eq_false_iff]
  intro hd
  obtain ⟨i, j, h1, h2, h3⟩ := (des_iff h a b).1 hd
  unfold par at hp
  rw [h.fnd h1.2.1 h3, if_neg (by omega), Int.toNat_natCast] at hp
  have := parI_none (by simpa using hp) i h1.1
  have := h1.2.2 j h1.1 (Nat.le_refl _)
  omega
theorem par_some {t : List TRow} (h : GT t) {a : K} {r : TRow} (hp : par t a = some r) : des t a (kk r) = true ∧ ∀ b, des t a b = true → b = kk r ∨ des t (kk r) b = true := by
  unfold par at hp
  rcases fnd_key t a with ⟨h1, _⟩ | ⟨j, hj, h1, h2, _⟩
  · rw [h1, if_pos (by omega)] at hp; cases hp
  · rw [h1, if_neg (by omega), Int.toNat_natCast] at hp
    cases hq : parI t (dd t j) j with
    | none => rw [hq] at hp; cases hp
    | some p =>
      rw [hq] at hp
      simp only [Option.map_some, Option.some.injEq] at hp
      subst hp
      have hd := par_dn hj hq
      obtain ⟨q1, q2, q3⟩ := parI_some hq
      refine ⟨(des_iff h _ _).2 ⟨p, j, hd, rfl, h2⟩, fun b hb => ?_⟩
      obtain ⟨i, j', g1, g2, g3⟩ := (des_iff h a b).1 hb
      obtain rfl := h.inj g1.2.1 hj (g3.trans h2.symm)
      rcases Nat.lt_trichotomy i p with hlt | heq | hgt
      · refine .inr ((des_iff h _ _).2 ⟨i, p, ⟨hlt, by omega, fun m h3 h4 => g1.2.2 m h3 (by omega)⟩, g2, rfl⟩)
      · subst heq; exact .inl g2.symm
      · have := q3 i hgt g1.1
        have := g1.2.2 j' g1.1 (Nat.le_refl _)
        omega
theorem eqP (b : K) (r : TRow) : (b.obj == r.obj && (b.slot == r.slot && true)) = decide (b = kk r) := eqK b (kk r)
theorem desR {t : List TRow} (ht : t.length < 1000000) (a : K) (r : TRow) : tree_Descends.R (enc t) a.obj a.slot r.obj r.slot = some (des t a (kk r), ()) := descends_ok t a (kk r) ht
theorem desL {t : List TRow} (ht : t.length < 1000000) (r : TRow) (b : K) : tree_Descends.R (enc t) r.obj r.slot b.obj b.slot = some (des t (kk r) b, ()) := descends_ok t (kk r) b ht
theorem order_tail {t : List TRow} (h : GT t) (ht : t.length < 1000000) (a b : K) :
    optAll (tree_Parent.R (enc t) a.obj a.slot) fun (c7 : ((Int × (Int × Unit)) × (Bool × Unit))) =>
      cond ((!((c7).2).1)) (
        optAll (tree_Descends.R (enc t) a.obj a.slot b.obj b.slot) fun (c8 : (Bool × Unit)) =>
        cond ((!(c8).1)) (
          optAll (law13_live.R) fun (c9 : (Bool × Unit)) =>
          ((true, ()) : Bool × Unit) = ((c9).1, ())) (
          ((true, ()) : Bool × Unit) = (false, ()))) (
        optAll (tree_Descends.R (enc t) a.obj a.slot ((c7).1).1 (((c7).1).2).1) fun (c10 : (Bool × Unit)) =>
        cond ((c10).1) (
          optAll (tree_Descends.R (enc t) a.obj a.slot b.obj b.slot) fun (c11 : (Bool × Unit)) =>
          cond ((!(c11).1)) (
            optAll (law13_live.R) fun (c12 : (Bool × Unit)) =>
            ((true, ()) : Bool × Unit) = ((c12).1, ())) (
            cond (((b.obj == ((c7).1).1) && ((b.slot == (((c7).1).2).1) && true))) (
              optAll (law13_live.R) fun (c13 : (Bool × Unit)) =>
              ((true, ()) : Bool × Unit) = ((c13).1, ())) (
              optAll (tree_Descends.R (enc t) ((c7).1).1 (((c7).1).2).1 b.obj b.slot) fun (c14 : (Bool × Unit)) =>
              cond ((c14).1) (
                optAll (law13_live.R) fun (c15 : (Bool × Unit)) =>
                ((true, ()) : Bool × Unit) = ((c15).1, ())) (
                ((true, ()) : Bool × Unit) = (false, ()))))) (
          ((true, ()) : Bool × Unit) = (false, ()))) := by
  rw [parent_ok t a ht]
  simp only [optAll_so]
  cases hp : par t a with
  | none =>
    simp only [ptup, Bool.not_false, cond_true]
    rw [descends_ok t a b ht, par_none h hp b]
    simp only [optAll_so, Bool.not_false, cond_true, live_ok]
  | some r =>
    obtain ⟨h1, h2⟩ := par_some h hp
    simp only [ptup, Bool.not_true, cond_false]
    rw [desR ht a r, h1]
    simp only [optAll_so, cond_true]
    rw [descends_ok t a b ht]
    simp only [optAll_so, eqP]
    cases hb : des t a b with
    | false => simp only [Bool.not_false, cond_true, live_ok, optAll_so]
    | true =>
      simp only [Bool.not_true, cond_false]
      rcases h2 b hb with e | e
      · rw [decide_eq_true e]
        simp only [cond_true, live_ok, optAll_so]
      · cases hd : decide (b = kk r) with
        | true => simp only [cond_true, live_ok, optAll_so]
        | false =>
          simp only [cond_false]
          rw [desL ht r b, e]
          simp only [optAll_so, cond_true, live_ok]
theorem order_law (l : List Act) (a b c : K) : law13_TreeOrder.R (l.map encA) a.obj a.slot b.obj b.slot c.obj c.slot = some (true, ()) := by
  refine law13_TreeOrder.start _ _ _ _ _ _ _ _ ?_
  rw [List.length_map]
  by_cases h1 : l.length > 60
  · rw [decide_eq_true (by omega)]
    simp only [cond_true, live_ok, optAll_so]
  rw [decide_eq_false (by omega), grown_ok l (by omega)]
  simp only [cond_false, optAll_so]
  have h := gr_good l
  have ht := gr_small l
  have tl := order_tail h ht a b
  rw [descends_ok _ a a ht, des_self h a]
  simp only [optAll_so, cond_false]
  rw [descends_ok _ a b ht] at tl ⊢
  simp only [optAll_so] at tl ⊢
  cases hab : des (gr l) a b with
  | false => rw [hab] at tl; exact tl
  | true =>
    rw [hab] at tl
    simp only [cond_true]
    rw [descends_ok _ b a ht, des_asym h hab]
    simp only [optAll_so, cond_false]
    rw [descends_ok _ b c ht]
    simp only [optAll_so]
    cases hbc : des (gr l) b c with
    | false => exact tl
    | true =>
      simp only [cond_true]
      rw [descends_ok _ a c ht, des_trans h hab hbc]
      simp only [optAll_so, Bool.not_true, cond_false]
      exact tl
/-! Moves -/
theorem des_same {t u : List TRow} (h : GT t) (hu : GT u) (hl : u.length = t.length) (hk : ∀ j, key u j = key t j) (hd : ∀ j, dd u j = dd t j) (a b : K) : des u a b = des t a b := by
  rw [Bool.eq_iff_iff, des_iff hu, des_iff h]
  have hdn : ∀ i j, Dn u i j ↔ Dn t i j := fun i j => by unfold Dn; simp only [hl, hd]
  simp only [hdn, hk]
theorem mark_des {t : List TRow} (h : GT t) {k : K} {on : Bool} (he : (sMark t k on).2 = 0) (a b : K) : des (sMark t k on).1 a b = des t a b := by
  revert he
  unfold sMark
  split
  · split
    · intro he; cases he
    · rename_i hf
      intro _
      rcases fnd_key t k with ⟨h1, _⟩ | ⟨i, hi, h1, h2, _⟩
      · omega
      · rw [h1, Int.toNat_natCast]
        refine des_same h ?_ (by simp) (fun j => ?_) (fun j => ?_) a b
        · exact set_good h hi (h.at_ i hi).ok (fun j hj hne e => hne (h.inj hj hi e)) rfl
        · unfold key; rw [set_get t i _ hi]; split
          · rename_i e; subst e; rfl
          · rfl
        · unfold dd; rw [set_get t i _ hi]; split
          · rename_i e; subst e; rfl
          · rfl
  · intro he; cases he
def sub (f k x : K) : K := if x = f then k else x
theorem move_facts {t : List TRow} (h : GT t) {f k : K} (he : (sMove t f k).2 = 0) : GT (sMove t f k).1 ∧ fnd (sMove t f k).1 f = -1 ∧ (sMove t f k).1.length = t.length ∧ ∀ a b, a ≠ k → b ≠ k → des (sMove t f k).1 (sub f k a) (sub f k b) = des t a b := by
  revert he
  unfold sMove
  split
  · rename_i hc
    split
    · intro he; cases he
    · rename_i hf
      split
      · intro he; cases he
      · rename_i hk
        intro _
        rcases fnd_key t f with ⟨h1, _⟩ | ⟨i, hi, h1, h2, _⟩
        · omega
        · rcases fnd_key t k with ⟨_, g2⟩ | ⟨j, _, g1, _⟩
          · rw [h1, Int.toNat_natCast]
            have hu := set_good h hi (r := ⟨k.obj, k.slot, dd t i, (t.getD i dr).mark⟩) hc.2.2 (fun j hj _ => g2 j hj) rfl
            have hkey : ∀ j, key (t.set i ⟨k.obj, k.slot, dd t i, (t.getD i dr).mark⟩) j = if j = i then k else key t j := fun j => by
              unfold key; rw [set_get t i _ hi]; split <;> rfl
            have hdd : ∀ j, dd (t.set i ⟨k.obj, k.slot, dd t i, (t.getD i dr).mark⟩) j = dd t j := fun j => by
              unfold dd; rw [set_get t i _ hi]; split
              · rename_i e; subst e; rfl
              · rfl
            have hlen : (t.set i ⟨k.obj, k.slot, dd t i, (t.getD i dr).mark⟩).length = t.length := List.length_set
            have hsub : ∀ j, j < t.length → key (t.set i ⟨k.obj, k.slot, dd t i, (t.getD i dr).mark⟩) j = sub f k (key t j) := fun j hj => by
              rw [hkey]
              unfold sub
              by_cases e : j = i
              · subst e; rw [if_pos rfl, if_pos h2]
              · rw [if_neg e, if_neg (fun e2 => e (h.inj hj hi (e2.trans h2.symm)))]
            have hfk : f ≠ k := fun e => g2 i hi (h2.trans e)
            refine ⟨hu, ?_, hlen, fun a b ha hb => ?_⟩
            · rcases fnd_key (t.set i ⟨k.obj, k.slot, dd t i, (t.getD i dr).mark⟩) f with ⟨q1, _⟩ | ⟨j, hj, _, q2, _⟩
              · exact q1
              · rw [hlen] at hj
                rw [hsub j hj] at q2
                unfold sub at q2
                split at q2
                · exact absurd q2.symm hfk
                · rename_i e; exact absurd q2 e
            · rw [Bool.eq_iff_iff, des_iff hu, des_iff h]
              have hinj : ∀ j x, j < t.length → x ≠ k → (sub f k (key t j) = sub f k x ↔ key t j = x) := fun j x hj hx => by
                unfold sub
                constructor
                · intro e
                  by_cases e1 : key t j = f
                  · rw [if_pos e1] at e
                    by_cases e2 : x = f
                    · rw [e1, e2]
                    · rw [if_neg e2] at e; exact absurd e.symm hx
                  · rw [if_neg e1] at e
                    by_cases e2 : x = f
                    · rw [if_pos e2] at e; exact absurd e (g2 j hj)
                    · rw [if_neg e2] at e; exact e
                · intro e; rw [e]
              have hdn : ∀ i' j, Dn (t.set i ⟨k.obj, k.slot, dd t i, (t.getD i dr).mark⟩) i' j ↔ Dn t i' j := fun i' j => by unfold Dn; simp only [hlen, hdd]
              constructor
              · rintro ⟨i', j, q1, q2, q3⟩
                rw [hdn] at q1
                have hj := q1.2.1
                have hi' : i' < t.length := by have := q1.1; omega
                rw [hsub i' hi'] at q2
                rw [hsub j hj] at q3
                exact ⟨i', j, q1, (hinj i' b hi' hb).1 q2, (hinj j a hj ha).1 q3⟩
              · rintro ⟨i', j, q1, q2, q3⟩
                have hj := q1.2.1
                have hi' : i' < t.length := by have := q1.1; omega
                exact ⟨i', j, (hdn i' j).2 q1, by rw [hsub i' hi', q2], by rw [hsub j hj, q3]⟩
          · omega
  · intro he; cases he
theorem move_tail {t : List TRow} (h : GT t) (f k a b : K) :
    optAll (law13_num.R (sMove t f k).2) fun (c7 : (Int × Unit)) =>
      cond (((c7).1 != (0 : Int))) (
        optAll (law13_live.R) fun (c8 : (Bool × Unit)) =>
        ((true, ()) : Bool × Unit) = ((c8).1, ())) (
        cond (((a.obj == k.obj) && ((a.slot == k.slot) && true))) (
          optAll (law13_live.R) fun (c9 : (Bool × Unit)) =>
          ((true, ()) : Bool × Unit) = ((c9).1, ())) (
          cond (((b.obj == k.obj) && ((b.slot == k.slot) && true))) (
            optAll (law13_live.R) fun (c10 : (Bool × Unit)) =>
            ((true, ()) : Bool × Unit) = ((c10).1, ())) (
            cond (((a.obj == f.obj) && ((a.slot == f.slot) && true))) (
              cond (((b.obj == f.obj) && ((b.slot == f.slot) && true))) (
                optAll (tree_Find.R (enc (sMove t f k).1) f.obj f.slot) fun (c11 : (Int × (Bool × Unit))) =>
                cond ((!((c11).2).1)) (
                  optAll (tree_Descends.R (enc (sMove t f k).1) k.obj k.slot k.obj k.slot) fun (c12 : (Bool × Unit)) =>
                  optAll (tree_Descends.R (enc t) a.obj a.slot b.obj b.slot) fun (c13 : (Bool × Unit)) =>
                  cond (((c12).1 == (c13).1)) (
                    cond (((((enc (sMove t f k).1).length : Nat) : Int) == (((enc t).length : Nat) : Int))) (
                      optAll (law13_live.R) fun (c14 : (Bool × Unit)) =>
                      ((true, ()) : Bool × Unit) = ((c14).1, ())) (
                      ((true, ()) : Bool × Unit) = (false, ()))) (
                    ((true, ()) : Bool × Unit) = (false, ()))) (
                  ((true, ()) : Bool × Unit) = (false, ()))) (
                optAll (tree_Find.R (enc (sMove t f k).1) f.obj f.slot) fun (c15 : (Int × (Bool × Unit))) =>
                cond ((!((c15).2).1)) (
                  optAll (tree_Descends.R (enc (sMove t f k).1) k.obj k.slot b.obj b.slot) fun (c16 : (Bool × Unit)) =>
                  optAll (tree_Descends.R (enc t) a.obj a.slot b.obj b.slot) fun (c17 : (Bool × Unit)) =>
                  cond (((c16).1 == (c17).1)) (
                    cond (((((enc (sMove t f k).1).length : Nat) : Int) == (((enc t).length : Nat) : Int))) (
                      optAll (law13_live.R) fun (c18 : (Bool × Unit)) =>
                      ((true, ()) : Bool × Unit) = ((c18).1, ())) (
                      ((true, ()) : Bool × Unit) = (false, ()))) (
                    ((true, ()) : Bool × Unit) = (false, ()))) (
                  ((true, ()) : Bool × Unit) = (false, ())))) (
              cond (((b.obj == f.obj) && ((b.slot == f.slot) && true))) (
                optAll (tree_Find.R (enc (sMove t f k).1) f.obj f.slot) fun (c19 : (Int × (Bool × Unit))) =>
                cond ((!((c19).2).1)) (
                  optAll (tree_Descends.R (enc (sMove t f k).1) a.obj a.slot k.obj k.slot) fun (c20 : (Bool × Unit)) =>
                  optAll (tree_Descends.R (enc t) a.obj a.slot b.obj b.slot) fun (c21 : (Bool × Unit)) =>
                  cond (((c20).1 == (c21).1)) (
                    cond (((((enc (sMove t f k).1).length : Nat) : Int) == (((enc t).length : Nat) : Int))) (
                      optAll (law13_live.R) fun (c22 : (Bool × Unit)) =>
                      ((true, ()) : Bool × Unit) = ((c22).1, ())) (
                      ((true, ()) : Bool × Unit) = (false, ()))) (
                    ((true, ()) : Bool × Unit) = (false, ()))) (
                  ((true, ()) : Bool × Unit) = (false, ()))) (
                optAll (tree_Find.R (enc (sMove t f k).1) f.obj f.slot) fun (c23 : (Int × (Bool × Unit))) =>
                cond ((!((c23).2).1)) (
                  optAll (tree_Descends.R (enc (sMove t f k).1) a.obj a.slot b.obj b.slot) fun (c24 : (Bool × Unit)) =>
                  optAll (tree_Descends.R (enc t) a.obj a.slot b.obj b.slot) fun (c25 : (Bool × Unit)) =>
                  cond (((c24).1 == (c25).1)) (
                    cond (((((enc (sMove t f k).1).length : Nat) : Int) == (((enc t).length : Nat) : Int))) (
                      optAll (law13_live.R) fun (c26 : (Bool × Unit)) =>
                      ((true, ()) : Bool × Unit) = ((c26).1, ())) (
                      ((true, ()) : Bool × Unit) = (false, ()))) (
                    ((true, ()) : Bool × Unit) = (false, ()))) (
                  ((true, ()) : Bool × Unit) = (false, ()))))))) := by
  have ht : t.length < 1000000 := by have := h.len; omega
  rw [num_ok]
  simp only [optAll_so, eqK]
  by_cases he : (sMove t f k).2 = 0
  · rw [show (((sMove t f k).2 != 0) : Bool) = false by simp [he]]
    simp only [cond_false]
    obtain ⟨m1, m2, m3, m4⟩ := move_facts h he
    have hu : (sMove t f k).1.length < 1000000 := by omega
    by_cases ha : a = k
    · rw [decide_eq_true ha]
      simp only [cond_true, live_ok, optAll_so]
    by_cases hb : b = k
    · rw [decide_eq_false ha, decide_eq_true hb]
      simp only [cond_true, cond_false, live_ok, optAll_so]
    rw [decide_eq_false ha, decide_eq_false hb]
    simp only [cond_false]
    have hm := m4 a b ha hb
    have hfind := find_ok (sMove t f k).1 f hu
    rw [m2, ftup_neg] at hfind
    rw [hfind, descends_ok t a b ht]
    simp only [optAll_so, Bool.not_false, cond_true, enc_len, m3, beq_self_eq_true, live_ok]
    unfold sub at hm
    by_cases ea : a = f
    · rw [decide_eq_true ea]
      rw [if_pos ea] at hm
      by_cases eb : b = f
      · rw [decide_eq_true eb]
        rw [if_pos eb] at hm
        simp only [cond_true]
        rw [descends_ok _ k k hu, hm]
        simp only [optAll_so, beq_self_eq_true, cond_true]
      · rw [decide_eq_false eb]
        rw [if_neg eb] at hm
        simp only [cond_true, cond_false]
        rw [descends_ok _ k b hu, hm]
        simp only [optAll_so, beq_self_eq_true, cond_true]
    · rw [decide_eq_false ea]
      rw [if_neg ea] at hm
      by_cases eb : b = f
      · rw [decide_eq_true eb]
        rw [if_pos eb] at hm
        simp only [cond_true, cond_false]
        rw [descends_ok _ a k hu, hm]
        simp only [optAll_so, beq_self_eq_true, cond_true]
      · rw [decide_eq_false eb]
        rw [if_neg eb] at hm
        simp only [cond_false]
        rw [descends_ok _ a b hu, hm]
        simp only [optAll_so, beq_self_eq_true, cond_true]
  · rw [show (((sMove t f k).2 != 0) : Bool) = true by simp [he]]
    simp only [cond_true, live_ok, optAll_so]
theorem sMark_len (t : List TRow) (k : K) (on : Bool) : (sMark t k on).1.length = t.length := by
  unfold sMark
  split
  · split <;> simp
  · rfl
theorem moves_law (l : List Act) (f k a b : K) : law13_TreeMoves.R (l.map encA) f.obj f.slot k.obj k.slot a.obj a.slot b.obj b.slot = some (true, ()) := by
  refine law13_TreeMoves.start _ _ _ _ _ _ _ _ _ _ ?_
  rw [List.length_map]
  by_cases h1 : l.length > 60
  · rw [decide_eq_true (by omega)]
    simp only [cond_true, live_ok, optAll_so]
  rw [decide_eq_false (by omega), grown_ok l (by omega)]
  simp only [cond_false, optAll_so]
  have h := gr_good l
  have ht := gr_small l
  rw [move_ok _ f k ht]
  simp only [optAll_so, rtup]
  rw [mark_ok _ a true ht]
  simp only [optAll_so, rtup, num_ok]
  by_cases he : (sMark (gr l) a true).2 = 0
  · rw [show (((sMark (gr l) a true).2 == 0) : Bool) = true by simp [he]]
    simp only [cond_true]
    rw [descends_ok _ a b (by rw [sMark_len]; exact ht), mark_des h he]
    simp only [optAll_so]
    rw [descends_ok _ a b ht]
    simp only [optAll_so, beq_self_eq_true, Bool.not_true, cond_false]
    have := move_tail h f k a b
    rw [num_ok] at this
    rw [descends_ok _ a b ht] at this
    exact this
  · rw [show (((sMark (gr l) a true).2 == 0) : Bool) = false by simp [he]]
    have := move_tail h f k a b
    rw [num_ok] at this
    exact this
end Trees
end Go.AI
