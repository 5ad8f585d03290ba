/-
  Own work. Runs over symbols beside memory that is known by a law of its own ('J'): a variable that holds rows of one's own; heads of loops, and regions that are walked by hand.
-/
import Derived.Test.YtljhobohpnpedaaAiUnroll
namespace Go.AI
open Go
set_option linter.unusedVariables false
set_option linter.unusedSimpArgs false

/-- What is beside: a variable, its row, the rows that may lie in it. -/
def pT (T : Tmps) : AV := T 9
def pV (V : VHeap) : List (Option VBlk) := V 9 :: (List.range 120).map fun j => V (20 + j)
theorem pV_at {V V' : VHeap} (h : pV V' = pV V) : V' 9 = V 9 ∧ ∀ b, 20 ≤ b → b < 140 → V' b = V b := by
  unfold pV at h
  simp only [List.cons.injEq] at h
  refine ⟨h.1, fun b h1 h2 => ?_⟩
  have := congrArg (fun l : List (Option VBlk) => l[b - 20]?) h.2
  simp only [List.getElem?_map, List.getElem?_range (show b - 20 < 120 by omega), Option.map_some, Option.some.injEq] at this
  rw [show 20 + (b - 20) = b by omega] at this
  exact this
abbrev JT := Tmps → Heap → Prop
/-- It is only of that, and stays where a round begins. -/
structure Stab (J : JT) : Prop where
  only : ∀ T T' (V V' : VHeap), pT T' = pT T → pV V' = pV V → J T (den V) → J T' (den V')
  can : ∀ T H, J T H → J (canT true 0 H T) (canH true 0 H)
  frz : ∀ n T H, 1048576 ≤ n → J T H → J (frzT (fun b => Nat.ble n b) H T) (frzH (fun b => Nat.ble n b) H)
/-- From here on the answer is c. -/
def HoldAt (J : JT) (C : Cfg) (f : FuncId) (sh : List Sh) (ks : List AItem) (temps : List Nat) (vals : List AV) (blks : List Nat) (bvals : List (Option VBlk)) (nx : Nat) (c : tyS sh) : Prop :=
  ∀ T V, J (tsets T temps vals) (den (vsets V blks bvals)) → Ends 0 false C f sh ks (tsets T temps vals) (den (vsets V blks bvals)) nx c
inductive HObs (ρ : Type) where
  | fin (r : ρ)
  | at_ (ks : List AItem) (temps : List Nat) (vals : List AV) (blks : List Nat) (bvals : List (Option VBlk)) (nx : Nat) (t : AV) (v : List (Option VBlk))
/-- What is alive: at loop heads, by the loop's name and number; at regions, by the region's (1000000 on) and the number. -/
abbrev HLive := List ((Nat × Nat) × List Nat × List Nat)
def hlT (lv : HLive) (k : Nat × Nat) : List Nat := match lv.lookup k with | some x => x.1 | none => []
def hlB (lv : HLive) (k : Nat × Nat) : List Nat := match lv.lookup k with | some x => x.2 | none => []
def midId : List AItem → Nat
  | .code (.region id _ _) :: _ => 1000000 + id
  | _ => 0
def obsHold (C : Cfg) (fn : Func) (sh : List Sh) (F : Fm) (lv : HLive) : VLeaf → Tree (HObs (tyS sh))
  | .fin T V _ => match resultsA C.P fn T (den V) with
    | some v => match snapV (snapP 0) V 4 v with
      | some r => match decS sh r with
        | some c => .done (.fin c)
        | none => .stop
      | none => .stop
    | none => .stop
  | .round b nx0 k T V nx => match F.tr && Nat.ble 1048576 nx0 with
    | true => .done (.at_ (.code b :: .inLoop b nx0 :: k) (hlT lv (fidOf b, nx0)) ((hlT lv (fidOf b, nx0)).map fun t => canVV true 0 (frzHV (fun b => Nat.ble nx0 b) V) 4 (frzVV (fun b => Nat.ble nx0 b) V 4 (T t))) (hlB lv (fidOf b, nx0)) ((hlB lv (fidOf b, nx0)).map (canHV true 0 (frzHV (fun b => Nat.ble nx0 b) V))) nx0 (pT T) (pV V))
    | false => .stop
  | .enter b k T V nx => match F.tr with
    | true => .done (.at_ (.code b :: .inLoop b (upN nx) :: k) (hlT lv (fidOf b, upN nx)) ((hlT lv (fidOf b, upN nx)).map fun t => canVV true 0 V 4 (T t)) (hlB lv (fidOf b, upN nx)) ((hlB lv (fidOf b, upN nx)).map (canHV true 0 V)) (upN nx) (pT T) (pV V))
    | false => .stop
  | .mid k T V nx => .done (.at_ k (hlT lv (midId k, nx)) ((hlT lv (midId k, nx)).map T) (hlB lv (midId k, nx)) ((hlB lv (midId k, nx)).map V) nx (pT T) (pV V))
def LeafG (Q : AV → List (Option VBlk) → Prop) (J : JT) (C : Cfg) (f : FuncId) (sh : List Sh) (c : tyS sh) : HObs (tyS sh) → Prop
  | .fin c' => c = c'
  | .at_ ks temps vals blks bvals nx t v => Q t v ∧ HoldAt J C f sh ks temps vals blks bvals nx c
def sameQ (T : Tmps) (V : VHeap) (t : AV) (v : List (Option VBlk)) : Prop := t = pT T ∧ v = pV V
abbrev LeafH (J : JT) (C : Cfg) (f : FuncId) (sh : List Sh) (c : tyS sh) (T : Tmps) (V : VHeap) : HObs (tyS sh) → Prop := LeafG (sameQ T V) J C f sh c
/-- The variable has been made, and nothing lies in it. -/
def newQ (t : AV) (v : List (Option VBlk)) : Prop := t = .ref 9 0 0 0 ∧ v = some (.drow 1 0 []) :: List.replicate 120 none
def KS (A : Prop) : Prop := newQ (.ref 9 0 0 0) (some (.drow 1 0 []) :: List.replicate 120 none) ∧ A
theorem ks {A : Prop} (h : A) : KS A := ⟨⟨rfl, rfl⟩, h⟩
/-- A leaf: nothing beside has changed, and something is so. -/
def KP (T : Tmps) (V : VHeap) (A : Prop) : Prop := sameQ T V (pT T) (pV V) ∧ A
theorem kp {T : Tmps} {V : VHeap} {A : Prop} (h : A) : KP T V A := ⟨⟨rfl, rfl⟩, h⟩
theorem hold_ends {J : JT} (hJ : Stab J) {C : Cfg} {f : FuncId} {fn : Func} (hf : C.P.funcs[f]? = some fn) (hfr : isFresh (C.names f) = false) {sh : List Sh} {lv : HLive} {ks : List AItem} {T : Tmps} {V : VHeap} {nx : Nat} {c : tyS sh} {Q : AV → List (Option VBlk) → Prop} (hQ : ∀ T' V', Q (pT T') (pV V') → J T' (den V')) {l : VLeaf} {o : HObs (tyS sh)}
    (hl : LeafOK C ⟨0, 0 + fn.ntmps, C.trim f, C.names f, C.virt f⟩ ks T (den V) nx l) (ho : (obsHold C fn sh ⟨0, 0 + fn.ntmps, C.trim f, C.names f, C.virt f⟩ lv l).run = some o) (hq : LeafG Q J C f sh c o) : Ends 0 false C f sh ks T (den V) nx c := by
  cases l with
  | fin T' V' nx' =>
    simp only [obsHold] at ho
    split at ho
    · rename_i v hv
      split at ho
      · rename_i r hr
        split at ho
        · rename_i c' hc
          simp only [Tree.run, Option.some.injEq] at ho
          subst ho
          have : c = c' := hq
          subst this
          rw [snapV_eq] at hr
          exact ⟨fn, hf, T', den V', nx', v, r, hl, hv, hr, hc, fun h => by rw [hfr] at h; cases h⟩
        · exact (run_stop.1 ho).elim
      · exact (run_stop.1 ho).elim
    · exact (run_stop.1 ho).elim
  | round b nx0 k' T' V' nx' =>
    simp only [obsHold] at ho
    split at ho
    · rename_i ht
      simp only [Bool.and_eq_true] at ht
      simp only [Tree.run, Option.some.injEq] at ho
      subst ho
      obtain ⟨h1, hq⟩ := hq
      have hj1 := hQ _ _ h1
      have hj2 := hJ.can _ _ (hJ.frz nx0 _ _ (Nat.le_of_ble_eq_true ht.2) hj1)
      have e : (hlT lv (fidOf b, nx0)).map (fun t => canVV true 0 (frzHV (fun b => Nat.ble nx0 b) V') 4 (frzVV (fun b => Nat.ble nx0 b) V' 4 (T' t))) = (hlT lv (fidOf b, nx0)).map (canT true 0 (frzH (fun b => Nat.ble nx0 b) (den V')) (frzT (fun b => Nat.ble nx0 b) (den V') T')) := by
        apply List.map_congr_left
        intro t _
        rw [canVV_eq, frzHV_eq, frzVV_eq]
        rfl
      rw [e] at hq
      have := hq (canT true 0 (frzH (fun b => Nat.ble nx0 b) (den V')) (frzT (fun b => Nat.ble nx0 b) (den V') T')) (canHV true 0 (frzHV (fun b => Nat.ble nx0 b) V'))
      rw [tsets_self, vsets_self, canHV_eq, frzHV_eq] at this
      obtain ⟨fn', hf', T2, H2, nx2, v, r, g1, g2⟩ := this hj2
      rw [hf] at hf'; cases hf'
      refine ⟨fn, hf, T2, H2, nx2, v, r, hl _ (Runs.round ht.1 ?_), g2⟩
      have htr : C.trim f = true := ht.1
      simp only [htr] at g1 ⊢
      exact g1
    · exact (run_stop.1 ho).elim
  | enter b k' T' V' nx' =>
    simp only [obsHold] at ho
    split at ho
    · rename_i ht
      simp only [Tree.run, Option.some.injEq] at ho
      subst ho
      obtain ⟨h1, hq⟩ := hq
      have hj1 := hQ _ _ h1
      have hj2 := hJ.can _ _ hj1
      have e : (hlT lv (fidOf b, upN nx')).map (fun t => canVV true 0 V' 4 (T' t)) = (hlT lv (fidOf b, upN nx')).map (canT true 0 (den V') T') := by
        apply List.map_congr_left
        intro t _
        rw [canVV_eq]
        rfl
      rw [e] at hq
      have := hq (canT true 0 (den V') T') (canHV true 0 V')
      rw [tsets_self, vsets_self, canHV_eq] at this
      obtain ⟨fn', hf', T2, H2, nx2, v, r, g1, g2⟩ := this hj2
      rw [hf] at hf'; cases hf'
      refine ⟨fn, hf, T2, H2, nx2, v, r, hl _ (Runs.loop ?_), g2⟩
      have htr : C.trim f = true := ht
      simp only [htr] at g1 ⊢
      exact g1
    · exact (run_stop.1 ho).elim
  | mid k' T' V' nx' =>
    simp only [obsHold, Tree.run, Option.some.injEq] at ho
    subst ho
    obtain ⟨h1, hq⟩ := hq
    have hj1 := hQ _ _ h1
    have := hq T' V'
    rw [tsets_self, vsets_self] at this
    obtain ⟨fn', hf', T2, H2, nx2, v, r, g1, g2⟩ := this hj1
    rw [hf] at hf'; cases hf'
    exact ⟨fn, hf, T2, H2, nx2, v, r, hl _ g1, g2⟩
noncomputable def vhold (C : Cfg) (S : Summ) (n : Nat) (f : FuncId) (sh : List Sh) (lv : HLive) (ks : List AItem) (nx : Nat) (T : Tmps) (V : VHeap) : Tree (HObs (tyS sh)) := match C.P.funcs[f]? with
  | some fn => (vrun C S n ⟨0, 0 + fn.ntmps, C.trim f, C.names f, C.virt f⟩ ks T V nx).bind (obsHold C fn sh ⟨0, 0 + fn.ntmps, C.trim f, C.names f, C.virt f⟩ lv)
  | none => .stop
theorem hold_rule {J : JT} (hJ : Stab J) {C : Cfg} {S : Summ} (hS : SumOK C S) {n : Nat} {f : FuncId} (hfr : isFresh (C.names f) = false) {sh : List Sh} {lv : HLive} {ks : List AItem} {temps : List Nat} {vals : List AV} {blks : List Nat} {bvals : List (Option VBlk)} {nx : Nat} {c : tyS sh} {P : Tmps → VHeap → Prop}
    (e : (fun T V => Sat (LeafH J C f sh c (tsets T temps vals) (vsets V blks bvals)) (vhold C S n f sh lv ks nx (tsets T temps vals) (vsets V blks bvals))) = P) (h : ∀ T V, P T V) : HoldAt J C f sh ks temps vals blks bvals nx c := by
  intro T V hj
  have h := h T V
  rw [← congrFun (congrFun e T) V] at h
  obtain ⟨o, ho, hq⟩ := sat_run h
  unfold vhold at ho
  split at ho
  · rename_i fn hf
    obtain ⟨l, h1, h2⟩ := run_bind ho
    exact hold_ends hJ hf hfr (fun T' V' hq => hJ.only _ _ _ _ hq.1 hq.2 hj) (vrun_ok hS _ _ _ _ _ _ _ h1) h2 hq
  · exact (run_stop.1 ho).elim
/-- The function's beginning. -/
theorem hold_start {J : JT} (hJ : Stab J) {C : Cfg} {S : Summ} (hS : SumOK C S) {n : Nat} {f : FuncId} (hfr : isFresh (C.names f) = false) {sh : List Sh} {lv : HLive} {args : List AV} {ks : List AItem} {nt : Nat} (hfn : ∃ fn code, C.P.funcs[f]? = some fn ∧ fn.body = some code ∧ fn.ntmps = nt ∧ ks = [.code code] ∧ args.length ≤ fn.ntmps) {c : tyS sh}
    {P : Prop} (hnew : ∀ T V, newQ (pT T) (pV V) → J T (den V)) (e : Sat (LeafG newQ J C f sh c) (vhold C S n f sh lv ks nt (argsT args) noV) = P) (h : P) : retω C sh f args = some c := by
  obtain ⟨fn, code, hf, hb, rfl, rfl, hl⟩ := hfn
  rw [← e] at h
  obtain ⟨o, ho, hq⟩ := sat_run h
  unfold vhold at ho
  rw [hf] at ho
  simp only at ho
  obtain ⟨l, h1, h2⟩ := run_bind ho
  obtain ⟨fn', hf', T', H', nx', v, r, g1, g2, g3, g4, _⟩ := hold_ends hJ hf hfr hnew (vrun_ok hS _ _ _ _ _ _ _ h1) h2 hq
  rw [hf] at hf'; cases hf'
  rw [den_noV] at g1
  have g1' : Runs C ⟨0, 0 + fn.ntmps, C.trim f, C.names f, C.virt f⟩ [.code code] (argsT args) noHeap (0 + fn.ntmps) (T', H', nx') := by
    rw [show 0 + fn.ntmps = fn.ntmps from Nat.zero_add _] at g1 ⊢; exact g1
  have := callω_of hf hb hl g1' g2
  unfold retω retOf valω byValue
  rw [this]
  have g3 : snap allB H' 4 v = some r := g3
  simp only [g3]
  exact g4
end Go.AI
