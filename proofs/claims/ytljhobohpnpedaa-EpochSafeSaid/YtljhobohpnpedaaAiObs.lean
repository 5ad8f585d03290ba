/-
  Own work. What a run over symbols shows: answers, loop heads; the rules for what a function answers.
-/
import Derived.Test.YtljhobohpnpedaaAiVok6
namespace Go.AI
open Go
set_option linter.unusedVariables false
set_option linter.unusedSimpArgs false

/-- There is one, and of it something is so. -/
def optAll {α : Type} (o : Option α) (Q : α → Prop) : Prop := match o with
  | some a => Q a
  | none => False
theorem optAll_some {α : Type} {o : Option α} {Q : α → Prop} {a : α} (h : o = some a) (hq : Q a) : optAll o Q := by rw [h]; exact hq
theorem cond_both {c : Bool} {A B : Prop} (h1 : c = true → A) (h2 : c = false → B) : cond c A B := by
  cases c with
  | true => exact h1 rfl
  | false => exact h2 rfl
/-- Something is owed. -/
def needs (p : Prop) [i : Decidable p] (A : Prop) : Prop := match i with
  | .isTrue _ => A
  | .isFalse _ => False
theorem needs_iff {p : Prop} {i : Decidable p} {A : Prop} : @needs p i A ↔ p ∧ A := by
  unfold needs
  cases i with
  | isTrue h => exact ⟨fun a => ⟨h, a⟩, fun a => a.2⟩
  | isFalse h => exact ⟨fun a => a.elim, fun a => h a.1⟩
/-- All ways of a tree end where they should. -/
noncomputable def Sat {β : Type} (Q : β → Prop) (t : Tree β) : Prop :=
  Tree.rec (motive := fun _ => Prop) (fun b => Q b) False (fun c _ _ a b => cond c a b) (fun p i _ a => @needs p i a) (fun o _ ih => optAll o ih) t
theorem sat_run {β : Type} {Q : β → Prop} : ∀ {t : Tree β}, Sat Q t → ∃ b, t.run = some b ∧ Q b
  | .done b, h => ⟨b, rfl, h⟩
  | .stop, h => h.elim
  | .ask c t f, h => by
    cases c with
    | true =>
      obtain ⟨b, h1, h2⟩ := sat_run (t := t) (Q := Q) h
      exact ⟨b, run_ask.2 (.inl ⟨rfl, h1⟩), h2⟩
    | false =>
      obtain ⟨b, h1, h2⟩ := sat_run (t := f) (Q := Q) h
      exact ⟨b, run_ask.2 (.inr ⟨rfl, h1⟩), h2⟩
  | .need p i t, h => by
    replace h : @needs p i (Sat Q t) := h
    have h := needs_iff.1 h
    obtain ⟨b, h1, h2⟩ := sat_run (t := t) (Q := Q) h.2
    exact ⟨b, run_need.2 ⟨h.1, h1⟩, h2⟩
  | .get o k, h => by
    replace h : optAll o (fun a => Sat Q (k a)) := h
    cases ho : o with
    | none => rw [ho] at h; exact h.elim
    | some a =>
      rw [ho] at h
      obtain ⟨b, h1, h2⟩ := sat_run (t := k a) (Q := Q) h
      exact ⟨b, run_get.2 ⟨a, rfl, h1⟩, h2⟩

/-! ### Versions, over symbols -/
def verOf : VBlk → Nat
  | .cell _ v _ => v
  | .raw _ v _ => v
  | .drow _ v _ => v
  | .mp _ _ => 0
def canVV (q : Bool) (lo : Nat) (V : VHeap) : Nat → AV → AV
  | 0, _ => .dead
  | n + 1, .agg cs => .agg (cs.map (canVV q lo V n))
  | n + 1, .tup vs => .tup (vs.map (canVV q lo V n))
  | n + 1, .fn f caps => .fn f (caps.map (canVV q lo V n))
  | _ + 1, .ref b ver off len => if b < lo then .ref b ver off len else (match V b with
    | some (.mp _ _) => .dead
    | some B => if ver = verOf B then .ref b 0 off len else .dead
    | none => .dead)
  | _ + 1, .ptr b ver i o => if b < lo then .ptr b ver i o else (match V b with
    | some (.mp _ _) => .dead
    | some B => if ver = verOf B then .ptr b 0 i o else .dead
    | none => .dead)
  | _ + 1, .nil s => if q then .d (.lst s []) else .nil s
  | _ + 1, v => v
def canBV (q : Bool) (lo : Nat) (V : VHeap) (b : Nat) : VBlk → VBlk
  | .cell s ver r => .cell s (if b < lo then ver else 0) (r.map (canVV q lo V 4))
  | .raw s ver rows => .raw s (if b < lo then ver else 0) (rows.map fun r => r.map (canVV q lo V 4))
  | .drow s ver xs => .drow s (if b < lo then ver else 0) xs
  | .mp ag es => .mp ag es
def canHV (q : Bool) (lo : Nat) (V : VHeap) : VHeap := fun b => match V b with | some B => some (canBV q lo V b B) | none => none
section
variable {q : Bool} {lo : Nat} {V : VHeap}
theorem canVV_eq : ∀ (n : Nat) (v : AV), canVV q lo V n v = canV q lo (den V) n v
  | 0, v => by cases v <;> rfl
  | n + 1, v => by
    have ih := canVV_eq n
    cases v with
    | agg cs => simp only [canVV, canV]; rw [show canVV q lo V n = canV q lo (den V) n from funext ih]
    | tup cs => simp only [canVV, canV]; rw [show canVV q lo V n = canV q lo (den V) n from funext ih]
    | fn f cs => simp only [canVV, canV]; rw [show canVV q lo V n = canV q lo (den V) n from funext ih]
    | ref b ver off len =>
      simp only [canVV, canV, den]
      cases V b with
      | none => rfl
      | some B => cases B <;> rfl
    | ptr b ver off len =>
      simp only [canVV, canV, den]
      cases V b with
      | none => rfl
      | some B => cases B <;> rfl
    | _ => rfl
theorem can_embed {H : Heap} (xs : List (List DV)) : (embed xs).map (fun r => r.map (canV q lo H 4)) = embed xs := by
  simp only [embed, List.map_map, Function.comp_def]
  rfl
theorem can_key {H : Heap} (ag : Bool) (k : List DV) : canV q lo H 4 (keyAV ag k) = keyAV ag k := by
  cases ag with
  | true =>
    simp only [keyAV, canV, List.map_map]
    congr 1
  | false =>
    match k with
    | [] => rfl
    | [x] => rfl
    | x :: y :: r => rfl
theorem canHV_eq : den (canHV q lo V) = canH q lo (den V) := by
  funext b
  simp only [den, canHV, canH]
  cases V b with
  | none => rfl
  | some B =>
    cases B with
    | cell s ver r =>
      simp only [denO, VBlk.den, canBV, canB, List.map_cons, List.map_nil]
      rw [show canVV q lo V 4 = canV q lo (den V) 4 from funext (canVV_eq 4)]
    | raw s ver rows =>
      simp only [denO, VBlk.den, canBV, canB]
      rw [show canVV q lo V 4 = canV q lo (den V) 4 from funext (canVV_eq 4)]
    | drow s ver xs =>
      simp only [denO, VBlk.den, canBV, canB]
      rw [can_embed]
    | mp ag es =>
      simp only [denO, VBlk.den, canBV, canB, List.map_map]
      congr 2
      refine List.map_congr_left fun e _ => ?_
      simp only [Function.comp, entAV, can_key]
      rfl
end

/-! ### Answers and heads -/
/-- A loop's name: the first region in it. -/
def fidOf : Code → Nat
  | .region id _ _ => id + 1
  | .seq a b => match fidOf a with | 0 => fidOf b | n => n
  | .cond _ a b => match fidOf a with | 0 => fidOf b | n => n
  | .block _ c => fidOf c
  | .loop c => fidOf c
  | .scope c => fidOf c
  | _ => 0
/-- What is alive at a loop's head: temporaries, blocks. -/
abbrev Live := List ((Nat × Nat) × List Nat × List Nat)
def lvT (lv : Live) (b : Code) (nx0 : Nat) : List Nat := match lv.lookup (fidOf b, nx0) with | some x => x.1 | none => []
def lvB (lv : Live) (b : Code) (nx0 : Nat) : List Nat := match lv.lookup (fidOf b, nx0) with | some x => x.2 | none => []
def tsets (T : Tmps) : List Nat → List AV → Tmps
  | t :: ts, v :: vs => tset (tsets T ts vs) t v
  | _, _ => T
def vsets (V : VHeap) : List Nat → List (Option VBlk) → VHeap
  | t :: ts, v :: vs => vset (vsets V ts vs) t v
  | _, _ => V
theorem tsets_self (T : Tmps) : ∀ ts : List Nat, tsets T ts (ts.map T) = T
  | [] => rfl
  | t :: ts => by
    simp only [List.map_cons, tsets]
    rw [tsets_self T ts]
    funext u
    simp only [tset]
    split
    · rename_i h; rw [h]
    · rfl
theorem vsets_self (V : VHeap) : ∀ ts : List Nat, vsets V ts (ts.map V) = V
  | [] => rfl
  | t :: ts => by
    simp only [List.map_cons, vsets]
    rw [vsets_self V ts]
    funext u
    simp only [vset]
    split
    · rename_i h; rw [h]
    · rfl
inductive Obs (ρ : Type) where
  | fin (r : ρ)
  | head (b : Code) (nx0 : Nat) (k : List AItem) (vals : List AV) (blks : List (Option VBlk)) (nx : Nat)
/-- Which blocks an answer must not lie in. -/
def snapP : Nat → Nat → Bool
  | 0 => allB
  | _ + 1 => fun b => b != 0
/-- A function that gives rows to its caller: its names hold this mark. -/
def isFresh (l : List Nat) : Bool := l.contains 99999
def freshV {β : Type} (fl : Bool) (V : VHeap) (v : AV) (t : Tree β) : Tree β := match fl with
  | false => t
  | true => match v with
    | .tup (.ref b ver off len :: rest) => match V b with
      | some (.drow s ver' xs) => match Nat.beq ver ver' && rest.all isD with
        | true => .need (off = 0 ∧ len = xs.length) inferInstance t
        | false => .stop
      | _ => .stop
    | .tup (.nil s :: rest) => match rest.all isD with
      | true => t
      | false => .stop
    | _ => .stop
theorem freshV_ok {β : Type} {fl : Bool} {V : VHeap} {v : AV} {t : Tree β} {o : β} (h : (freshV fl V v t).run = some o) : t.run = some o ∧ (fl = true → (freshOf (den V) v).isSome = true) := by
  unfold freshV at h
  split at h
  · exact ⟨h, fun h => by cases h⟩
  · split at h
    · rename_i b ver off len rest
      split at h
      · rename_i s ver' xs hb
        split at h
        · rename_i hc
          simp only [Bool.and_eq_true] at hc
          obtain ⟨h1, h2⟩ := run_need.1 h
          refine ⟨h2, fun _ => ?_⟩
          have hall : ((embed xs).all fun r => r.all isD) = true := by
            unfold embed
            simp only [List.all_map]
            refine List.all_eq_true.2 fun r _ => ?_
            simp only [Function.comp]
            rw [List.all_map]
            exact List.all_eq_true.2 fun y _ => rfl
          unfold freshOf
          simp only [den_some hb, VBlk.den]
          rw [if_pos ⟨Nat.eq_of_beq_eq_true hc.1, h1.1, by rw [embed_len]; exact h1.2, hall, hc.2⟩]
          rfl
        · exact (run_stop.1 h).elim
      · exact (run_stop.1 h).elim
    · rename_i s rest
      split at h
      · rename_i hc
        refine ⟨h, fun _ => ?_⟩
        unfold freshOf
        simp only
        rw [if_pos hc]
        rfl
      · exact (run_stop.1 h).elim
    · exact (run_stop.1 h).elim
def obsLeaf (vw : Bool) (P : Program) (fn : Func) (sh : List Sh) (F : Fm) (lv : Live) : VLeaf → Tree (Obs (ansT vw sh))
  | .fin T V _ => match resultsA P fn T (den V) with
    | some v => match snapV (snapP F.sb) V 4 v with
      | some r => match ansD vw sh r (denO (V 0)) with
        | some c => freshV (isFresh F.nm) V v (.done (.fin c))
        | none => .stop
      | none => .stop
    | none => .stop
  | .round b nx0 k T V nx => match F.tr with
    | true => .done (.head b nx0 k ((lvT lv b nx0).map fun t => canVV F.tr F.sb (frzHV (fun b => Nat.ble nx0 b) V) 4 (frzVV (fun b => Nat.ble nx0 b) V 4 (T t))) ((lvB lv b nx0).map (canHV F.tr F.sb (frzHV (fun b => Nat.ble nx0 b) V))) nx0)
    | false => .done (.head b nx0 k ((lvT lv b nx0).map fun t => canVV F.tr F.sb V 4 (T t)) ((lvB lv b nx0).map (canHV F.tr F.sb V)) nx)
  | .mid .. => .stop
  | .enter b k T V nx => .done (.head b (upN nx) k ((lvT lv b (upN nx)).map fun t => canVV F.tr F.sb V 4 (T t)) ((lvB lv b (upN nx)).map (canHV F.tr F.sb V)) (upN nx))

/-- A run ends with an answer by value. -/
def Ends (lo : Nat) (vw : Bool) (C : Cfg) (f : FuncId) (sh : List Sh) (k : List AItem) (T : Tmps) (H : Heap) (nx : Nat) (c : ansT vw sh) : Prop :=
  ∃ fn, C.P.funcs[f]? = some fn ∧ ∃ T' H' nx' v r, Runs C ⟨lo, lo + fn.ntmps, C.trim f, C.names f, C.virt f⟩ k T H nx (T', H', nx') ∧ resultsA C.P fn T' H' = some v ∧ snap (snapP lo) H' 4 v = some r ∧ ansD vw sh r (H' 0) = some c ∧ (isFresh (C.names f) = true → (freshOf H' v).isSome = true)
/-- From a loop's head on the answer is c. -/
def HeadAnsV (lo : Nat) (vw : Bool) (C : Cfg) (f : FuncId) (sh : List Sh) (lv : Live) (b : Code) (nx0 : Nat) (k : List AItem) (vals : List AV) (blks : List (Option VBlk)) (nx : Nat) (c : ansT vw sh) : Prop :=
  ∀ T V, Ends lo vw C f sh (.code b :: .inLoop b nx0 :: k) (tsets T (lvT lv b nx0) vals) (den (vsets V (lvB lv b nx0) blks)) nx c
abbrev HeadAnsL (lo : Nat) (C : Cfg) (f : FuncId) (sh : List Sh) (lv : Live) (b : Code) (nx0 : Nat) (k : List AItem) (vals : List AV) (blks : List (Option VBlk)) (nx : Nat) (c : tyS sh) : Prop := HeadAnsV lo false C f sh lv b nx0 k vals blks nx c
abbrev HeadAns := HeadAnsL 0
def LeafQ (lo : Nat) (vw : Bool) (C : Cfg) (f : FuncId) (sh : List Sh) (lv : Live) (c : ansT vw sh) : Obs (ansT vw sh) → Prop
  | .fin c' => c = c'
  | .head b nx0 k vals blks nx => HeadAnsV lo vw C f sh lv b nx0 k vals blks nx c

theorem leaf_ends {lo : Nat} {vw : Bool} {C : Cfg} {f : FuncId} {fn : Func} (hf : C.P.funcs[f]? = some fn) {sh : List Sh} {lv : Live} {k : List AItem} {T : Tmps} {V : VHeap} {nx : Nat} {c : ansT vw sh} {l : VLeaf} {o : Obs (ansT vw sh)}
    (hl : LeafOK C ⟨lo, lo + fn.ntmps, C.trim f, C.names f, C.virt f⟩ k T (den V) nx l) (ho : (obsLeaf vw C.P fn sh ⟨lo, lo + fn.ntmps, C.trim f, C.names f, C.virt f⟩ lv l).run = some o) (hq : LeafQ lo vw C f sh lv c o) : Ends lo vw C f sh k T (den V) nx c := by
  cases l with
  | fin T' V' nx' =>
    simp only [obsLeaf] at ho
    split at ho
    · rename_i v hv
      split at ho
      · rename_i r hr
        split at ho
        · rename_i c' hc
          obtain ⟨ho, hfo⟩ := freshV_ok ho
          simp only [Tree.run, Option.some.injEq] at ho
          subst ho
          have : c = c' := hq
          subst this
          rw [snapV_eq] at hr
          exact ⟨fn, hf, T', den V', nx', v, r, hl, hv, hr, hc, hfo⟩
        · exact (run_stop.1 ho).elim
      · exact (run_stop.1 ho).elim
    · exact (run_stop.1 ho).elim
  | round b nx0 k' T' V' nx' =>
    simp only [obsLeaf] at ho
    split at ho
    · rename_i ht
      simp only [Tree.run, Option.some.injEq] at ho
      subst ho
      obtain ⟨fn', hf', T2, H2, nx2, v, r, h1, h2⟩ := hq (canT (C.trim f) lo (frzH (fun b => Nat.ble nx0 b) (den V')) (frzT (fun b => Nat.ble nx0 b) (den V') T')) (canHV (C.trim f) lo (frzHV (fun b => Nat.ble nx0 b) V'))
      rw [hf] at hf'; cases hf'
      refine ⟨fn, hf, T2, H2, nx2, v, r, hl _ (Runs.round ht ?_), h2⟩
      rw [vsets_self, canHV_eq, frzHV_eq] at h1
      have e : (lvT lv b nx0).map (fun t => canVV (C.trim f) lo (frzHV (fun b => Nat.ble nx0 b) V') 4 (frzVV (fun b => Nat.ble nx0 b) V' 4 (T' t))) = (lvT lv b nx0).map (canT (C.trim f) lo (frzH (fun b => Nat.ble nx0 b) (den V')) (frzT (fun b => Nat.ble nx0 b) (den V') T')) := by
        apply List.map_congr_left
        intro t _
        rw [canVV_eq, frzHV_eq, frzVV_eq]
        rfl
      rw [e, tsets_self] at h1
      exact h1
    · rename_i ht
      simp only [Tree.run, Option.some.injEq] at ho
      subst ho
      obtain ⟨fn', hf', T2, H2, nx2, v, r, h1, h2⟩ := hq (canT (C.trim f) lo (den V') T') (canHV (C.trim f) lo V')
      rw [hf] at hf'; cases hf'
      refine ⟨fn, hf, T2, H2, nx2, v, r, hl _ (Runs.round' ht ?_), h2⟩
      rw [vsets_self, canHV_eq] at h1
      have e : (lvT lv b nx0).map (fun t => canVV (C.trim f) lo V' 4 (T' t)) = (lvT lv b nx0).map (canT (C.trim f) lo (den V') T') := by
        apply List.map_congr_left
        intro t _
        rw [canVV_eq]
        rfl
      rw [e, tsets_self] at h1
      exact h1
  | mid k' T' V' nx' =>
    simp only [obsLeaf] at ho
    exact (run_stop.1 ho).elim
  | enter b k' T' V' nx' =>
    simp only [obsLeaf, Tree.run, Option.some.injEq] at ho
    subst ho
    obtain ⟨fn', hf', T2, H2, nx2, v, r, h1, h2⟩ := hq (canT (C.trim f) lo (den V') T') (canHV (C.trim f) lo V')
    rw [hf] at hf'; cases hf'
    refine ⟨fn, hf, T2, H2, nx2, v, r, hl _ (Runs.loop ?_), h2⟩
    rw [vsets_self, canHV_eq] at h1
    have e : (lvT lv b (upN nx')).map (fun t => canVV (C.trim f) lo V' 4 (T' t)) = (lvT lv b (upN nx')).map (canT (C.trim f) lo (den V') T') := by
      apply List.map_congr_left
      intro t _
      rw [canVV_eq]
      rfl
    rw [e, tsets_self] at h1
    exact h1

/-- A function's body, over symbols. -/
noncomputable def vstart (C : Cfg) (S : Summ) (n : Nat) (f : FuncId) (sh : List Sh) (lv : Live) (args : List AV) : Tree (Obs (tyS sh)) :=
  match C.P.funcs[f]? with
  | some fn => match fn.body with
    | some c => match Nat.ble args.length fn.ntmps with
      | true => (vrun C S n ⟨0, 0 + fn.ntmps, C.trim f, C.names f, C.virt f⟩ [.code c] (argsT args) noV fn.ntmps).bind (obsLeaf false C.P fn sh ⟨0, 0 + fn.ntmps, C.trim f, C.names f, C.virt f⟩ lv)
      | false => .stop
    | none => .stop
  | none => .stop
/-- A loop's round, over symbols. -/
noncomputable def vheadV (lo : Nat) (vw : Bool) (C : Cfg) (S : Summ) (n : Nat) (f : FuncId) (sh : List Sh) (lv : Live) (b : Code) (nx0 : Nat) (k : List AItem) (vals : List AV) (blks : List (Option VBlk)) (nx : Nat) (T : Tmps) (V : VHeap) : Tree (Obs (ansT vw sh)) :=
  match C.P.funcs[f]? with
  | some fn => (vrun C S n ⟨lo, lo + fn.ntmps, C.trim f, C.names f, C.virt f⟩ (.code b :: .inLoop b nx0 :: k) (tsets T (lvT lv b nx0) vals) (vsets V (lvB lv b nx0) blks) nx).bind (obsLeaf vw C.P fn sh ⟨lo, lo + fn.ntmps, C.trim f, C.names f, C.virt f⟩ lv)
  | none => .stop
noncomputable def retω (C : Cfg) (sh : List Sh) (f : FuncId) (as : List AV) : Option (tyS sh) := retOf (valω C) sh f as
theorem start_rule {C : Cfg} {S : Summ} (hS : SumOK C S) {n : Nat} {f : FuncId} {sh : List Sh} {lv : Live} {args : List AV} {c : tyS sh} {P : Prop} (e : Sat (LeafQ 0 false C f sh lv c) (vstart C S n f sh lv args) = P) (h : P) : retω C sh f args = some c := by
  rw [← e] at h
  obtain ⟨o, ho, hq⟩ := sat_run h
  unfold vstart at ho
  split at ho
  · rename_i fn hf
    split at ho
    · rename_i code hb
      split at ho
      · rename_i hl
        obtain ⟨l, h1, h2⟩ := run_bind ho
        have h3 := vrun_ok hS _ _ _ _ _ _ _ h1
        obtain ⟨fn', hf', T', H', nx', v, r, g1, g2, g3, g4, _⟩ := leaf_ends hf h3 h2 hq
        rw [hf] at hf'; cases hf'
        rw [den_noV] at g1
        have g1' : Runs C ⟨0, 0 + fn.ntmps, C.trim f, C.names f, C.virt f⟩ [.code code] (argsT args) noHeap (0 + fn.ntmps) (T', H', nx') := by
          rw [show 0 + fn.ntmps = fn.ntmps from Nat.zero_add _] at g1 ⊢; exact g1
        have := callω_of hf hb (Nat.le_of_ble_eq_true hl) g1' g2
        unfold retω retOf valω byValue
        rw [this]
        have g3 : snap allB H' 4 v = some r := g3
        simp only [g3]
        exact g4
      · exact (run_stop.1 ho).elim
    · exact (run_stop.1 ho).elim
  · exact (run_stop.1 ho).elim
theorem fresh_rule {C : Cfg} {S : Summ} (hS : SumOK C S) {n : Nat} {f : FuncId} (hfn : isFresh (C.names f) = true) {sh : List Sh} {lv : Live} {args : List AV} {c : tyS sh} {P : Prop} (e : Sat (LeafQ 0 false C f sh lv c) (vstart C S n f sh lv args) = P) (h : P) : freshT C sh f args = some c := by
  rw [← e] at h
  obtain ⟨o, ho, hq⟩ := sat_run h
  unfold vstart at ho
  split at ho
  · rename_i fn hf
    split at ho
    · rename_i code hb
      split at ho
      · rename_i hl
        obtain ⟨l, h1, h2⟩ := run_bind ho
        have h3 := vrun_ok hS _ _ _ _ _ _ _ h1
        obtain ⟨fn', hf', T', H', nx', v, r, g1, g2, g3, g4, g5⟩ := leaf_ends hf h3 h2 hq
        rw [hf] at hf'; cases hf'
        rw [den_noV] at g1
        have g1' : Runs C ⟨0, 0 + fn.ntmps, C.trim f, C.names f, C.virt f⟩ [.code code] (argsT args) noHeap (0 + fn.ntmps) (T', H', nx') := by
          rw [show 0 + fn.ntmps = fn.ntmps from Nat.zero_add _] at g1 ⊢; exact g1
        have := callω_of hf hb (Nat.le_of_ble_eq_true hl) g1' g2
        unfold freshT
        rw [this]
        have g3 : snap allB H' 4 v = some r := g3
        obtain ⟨z, hz⟩ := Option.isSome_iff_exists.1 (g5 hfn)
        simp only [g3, hz]
        exact g4
      · exact (run_stop.1 ho).elim
    · exact (run_stop.1 ho).elim
  · exact (run_stop.1 ho).elim
theorem head_ruleV {lo : Nat} {vw : Bool} {C : Cfg} {S : Summ} (hS : SumOK C S) {n : Nat} {f : FuncId} {sh : List Sh} {lv : Live} {b : Code} {nx0 : Nat} {k : List AItem} {vals : List AV} {blks : List (Option VBlk)} {nx : Nat} {c : ansT vw sh} {P : Prop}
    (e : (fun T V => Sat (LeafQ lo vw C f sh lv c) (vheadV lo vw C S n f sh lv b nx0 k vals blks nx T V)) = fun _ _ => P) (h : P) : HeadAnsV lo vw C f sh lv b nx0 k vals blks nx c := by
  intro T V
  rw [← congrFun (congrFun e T) V] at h
  obtain ⟨o, ho, hq⟩ := sat_run h
  unfold vheadV at ho
  split at ho
  · rename_i fn hf
    obtain ⟨l, h1, h2⟩ := run_bind ho
    exact leaf_ends hf (vrun_ok hS _ _ _ _ _ _ _ h1) h2 hq
  · exact (run_stop.1 ho).elim
theorem head_ruleL {lo : Nat} {C : Cfg} {S : Summ} (hS : SumOK C S) {n : Nat} {f : FuncId} {sh : List Sh} {lv : Live} {b : Code} {nx0 : Nat} {k : List AItem} {vals : List AV} {blks : List (Option VBlk)} {nx : Nat} {c : tyS sh} {P : Prop}
    (e : (fun T V => Sat (LeafQ lo false C f sh lv c) (vheadV lo false C S n f sh lv b nx0 k vals blks nx T V)) = fun _ _ => P) (h : P) : HeadAnsL lo C f sh lv b nx0 k vals blks nx c := head_ruleV hS e h
theorem head_rule {C : Cfg} {S : Summ} (hS : SumOK C S) {n : Nat} {f : FuncId} {sh : List Sh} {lv : Live} {b : Code} {nx0 : Nat} {k : List AItem} {vals : List AV} {blks : List (Option VBlk)} {nx : Nat} {c : tyS sh} {P : Prop}
    (e : (fun T V => Sat (LeafQ 0 false C f sh lv c) (vheadV 0 false C S n f sh lv b nx0 k vals blks nx T V)) = fun _ _ => P) (h : P) : HeadAns C f sh lv b nx0 k vals blks nx c := head_ruleL hS e h
theorem val_of_ret {C : Cfg} {sh : List Sh} {f : FuncId} {as : List AV} {c : tyS sh} (h : retω C sh f as = some c) : valω C f as = some (encS sh c) := by
  unfold retω retOf at h
  split at h
  · rename_i v hv
    rw [hv, encS_decS h]
  · cases h
/-- A function that is given a cell, over symbols. -/
noncomputable def vcellstart (C : Cfg) (S : Summ) (n : Nat) (f : FuncId) (sh : List Sh) (x : Int) (as : List AV) : Tree (tyS sh × Int) :=
  match C.P.funcs[f]? with
  | some fn => match fn.body with
    | some c => match Nat.ble (as.length + 1) fn.ntmps with
      | true => (vrun C S n ⟨wide, wide + fn.ntmps, C.trim f, C.names f, C.virt f⟩ [.code c] (argsT (.ptr 0 0 0 0 :: as)) (vset noV 0 (some (.cell 1 0 [.d (.v (.int .i64 x))]))) (wide + fn.ntmps)).bind fun l => match l with
        | .fin T V _ => match resultsA C.P fn T (den V) with
          | some v => match snapV (fun b => b != 0) V 4 v with
            | some r => match decS sh r with
              | some c => match V 0 with
                | some (.cell 1 0 [.d (.v (.int .i64 m))]) => .done (c, m)
                | _ => .stop
              | none => .stop
            | none => .stop
          | none => .stop
        | _ => .stop
      | false => .stop
    | none => .stop
  | none => .stop
theorem cell_rule {C : Cfg} {S : Summ} (hS : SumOK C S) {n : Nat} {f : FuncId} {sh : List Sh} {x : Int} {as : List AV} {c : tyS sh × Int} {P : Prop} (e : Sat (fun c' => c = c') (vcellstart C S n f sh x as) = P) (h : P) : cellT C sh f x as = some c := by
  rw [← e] at h
  obtain ⟨o, ho, rfl⟩ := sat_run h
  unfold vcellstart at ho
  split at ho
  · rename_i fn hf
    split at ho
    · rename_i code hb
      split at ho
      · rename_i hl
        obtain ⟨l, h1, h2⟩ := run_bind ho
        have h3 := vrun_ok hS _ _ _ _ _ _ _ h1
        split at h2
        · rename_i T V nx'
          split at h2
          · rename_i v hv
            split at h2
            · rename_i r hr
              split at h2
              · rename_i c' hc
                split at h2
                · rename_i m hm
                  simp only [Tree.run, Option.some.injEq] at h2
                  subst h2
                  have h3' : Runs C ⟨wide, wide + fn.ntmps, C.trim f, C.names f, C.virt f⟩ [.code code] (argsT (.ptr 0 0 0 0 :: as)) (hset noHeap 0 (some (.row 1 0 [[.d (.v (.int .i64 x))]]))) (wide + fn.ntmps) (T, den V, nx') := by
                    have := h3
                    unfold LeafOK at this
                    rw [den_vset, den_noV] at this
                    exact this
                  have hcall := callω_of hf hb (by simpa using Nat.le_of_ble_eq_true hl) h3' hv
                  unfold cellT cellω
                  rw [hcall]
                  simp only
                  rw [← snapV_eq, hr]
                  simp only [den, hm, denO, VBlk.den, hc, decInt, if_true]
                · exact (run_stop.1 h2).elim
              · exact (run_stop.1 h2).elim
            · exact (run_stop.1 h2).elim
          · exact (run_stop.1 h2).elim
        · exact (run_stop.1 h2).elim
      · exact (run_stop.1 ho).elim
    · exact (run_stop.1 ho).elim
  · exact (run_stop.1 ho).elim
/-- A closed call. -/
theorem ret_closed {C : Cfg} {n : Nat} {sh : List Sh} {f : FuncId} {as : List AV} {v : AV} {c : tyS sh} (h : apure C n f as = some v) (hd : decS sh v = some c) : retω C sh f as = some c := by
  have : valω C f as = some v := by
    unfold valω byValue
    unfold apure byValue at h
    split at h
    · rename_i r Hc nx hk
      rw [callω_some.2 ⟨n, hk⟩]
      exact h
    · cases h
  unfold retω retOf
  rw [this]
  exact hd
/-- A code's part. -/
def cAt : List Nat → Code → Code
  | [], c => c
  | 0 :: p, .seq a _ => cAt p a
  | _ :: p, .seq _ b => cAt p b
  | 0 :: p, .cond _ a _ => cAt p a
  | _ :: p, .cond _ _ b => cAt p b
  | _ :: p, .block _ c => cAt p c
  | _ :: p, .loop c => cAt p c
  | _ :: p, .scope c => cAt p c
  | _, c => c
def codeOf (P : Program) (f : FuncId) : Code := match P.funcs[f]? with
  | some fn => match fn.body with
    | some c => c
    | none => .skip
  | none => .skip
def bd (C : Cfg) (f : FuncId) (p : List Nat) : Code := cAt p (codeOf C.P f)

/-! ### Functions that are given a block of their own -/
noncomputable def vownstart (C : Cfg) (S : Summ) (n : Nat) (f g : FuncId) (sh : List Sh) (lv : Live) (x : DV) (B : VBlk) : Tree (Obs (tyS sh)) :=
  match C.P.funcs[f]? with
  | some fn => match fn.body with
    | some c => match Nat.ble 2 fn.ntmps with
      | true => (vrun C S n ⟨wide, wide + fn.ntmps, C.trim f, C.names f, C.virt f⟩ [.code c] (argsT [.d x, .fn g [.ptr 0 0 0 0]]) (vset noV 0 (some B)) (wide + fn.ntmps)).bind (obsLeaf false C.P fn sh ⟨wide, wide + fn.ntmps, C.trim f, C.names f, C.virt f⟩ lv)
      | false => .stop
    | none => .stop
  | none => .stop
theorem own_rule {C : Cfg} {S : Summ} (hS : SumOK C S) {n : Nat} {f g : FuncId} {sh : List Sh} {lv : Live} {x : DV} {B : VBlk} {c : tyS sh} {P : Prop} (e : Sat (LeafQ wide false C f sh lv c) (vownstart C S n f g sh lv x B) = P) (h : P) : ownT C sh f g x B = some c := by
  rw [← e] at h
  obtain ⟨o, ho, hq⟩ := sat_run h
  unfold vownstart at ho
  split at ho
  · rename_i fn hf
    split at ho
    · rename_i code hb
      split at ho
      · rename_i hl
        obtain ⟨l, h1, h2⟩ := run_bind ho
        have h3 := vrun_ok hS _ _ _ _ _ _ _ h1
        obtain ⟨fn', hf', T', H', nx', v, r, g1, g2, g3, g4, _⟩ := leaf_ends hf h3 h2 hq
        rw [hf] at hf'; cases hf'
        have := callω_of (args := [.d x, .fn g [.ptr 0 0 0 0]]) hf hb (Nat.le_of_ble_eq_true hl) g1 g2
        have g3 : snap (fun b => b != 0) H' 4 v = some r := g3
        have hd : den (vset noV 0 (some B)) = hset noHeap 0 (some B.den) := by
          funext b
          simp only [den, vset, hset]
          split <;> rfl
        rw [hd] at this
        unfold ownT ownω
        rw [this]
        simp only [g3]
        exact g4
      · exact (run_stop.1 ho).elim
    · exact (run_stop.1 ho).elim
  · exact (run_stop.1 ho).elim

noncomputable def vlendstart (C : Cfg) (S : Summ) (n : Nat) (f g : FuncId) (sh : List Sh) (lv : Live) (x : DV) (B : VBlk) : Tree (Obs (ansT true sh)) :=
  match C.P.funcs[f]? with
  | some fn => match fn.body with
    | some c => match Nat.ble 2 fn.ntmps with
      | true => (vrun C S n ⟨wide, wide + fn.ntmps, C.trim f, C.names f, C.virt f⟩ [.code c] (argsT [.d x, .fn g [.ptr 0 0 0 0]]) (vset noV 0 (some B)) (wide + fn.ntmps)).bind (obsLeaf true C.P fn sh ⟨wide, wide + fn.ntmps, C.trim f, C.names f, C.virt f⟩ lv)
      | false => .stop
    | none => .stop
  | none => .stop
theorem lend_rule {C : Cfg} {S : Summ} (hS : SumOK C S) {n : Nat} {f g : FuncId} {sh : List Sh} {lv : Live} {x : DV} {B : VBlk} {c : tyS sh × Option ABlk} {P : Prop} (e : Sat (LeafQ wide true C f sh lv c) (vlendstart C S n f g sh lv x B) = P) (h : P) : lendT C sh f g x B = some c := by
  rw [← e] at h
  obtain ⟨o, ho, hq⟩ := sat_run h
  unfold vlendstart at ho
  split at ho
  · rename_i fn hf
    split at ho
    · rename_i code hb
      split at ho
      · rename_i hl
        obtain ⟨l, h1, h2⟩ := run_bind ho
        have h3 := vrun_ok hS _ _ _ _ _ _ _ h1
        obtain ⟨fn', hf', T', H', nx', v, r, g1, g2, g3, g4, _⟩ := leaf_ends hf h3 h2 hq
        rw [hf] at hf'; cases hf'
        have := callω_of (args := [.d x, .fn g [.ptr 0 0 0 0]]) hf hb (Nat.le_of_ble_eq_true hl) g1 g2
        have g3 : snap (fun b => b != 0) H' 4 v = some r := g3
        have hd : den (vset noV 0 (some B)) = hset noHeap 0 (some B.den) := by
          funext b
          simp only [den, vset, hset]
          split <;> rfl
        rw [hd] at this
        unfold lendT
        rw [this]
        simp only [g3]
        exact g4
      · exact (run_stop.1 ho).elim
    · exact (run_stop.1 ho).elim
  · exact (run_stop.1 ho).elim
end Go.AI
