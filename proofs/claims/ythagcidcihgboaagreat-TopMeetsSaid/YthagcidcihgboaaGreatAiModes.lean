/-
  Own work. A configuration that is a list of modes: what is owed of it is found out by the kernel.
-/
import Derived.Test.YthagcidcihgboaaGreatAiClone
import Derived.Test.YthagcidcihgboaaGreatAiSort
namespace Go.AI
open Go
set_option linter.unusedVariables false
set_option linter.unusedSimpArgs false

def modeOf (l : List (Nat × Mode)) (f : FuncId) : Mode := match l.lookup f with
  | some m => m
  | none => .pure
theorem lookup_mem {l : List (Nat × Mode)} {f : Nat} {m : Mode} (h : l.lookup f = some m) : (f, m) ∈ l := by
  induction l with
  | nil => simp at h
  | cons x r ih =>
    obtain ⟨a, b⟩ := x
    rw [List.lookup_cons] at h
    split at h
    · rename_i he
      have : f = a := by simpa using he
      simp only [Option.some.injEq] at h
      subst this; subst h
      exact List.mem_cons_self ..
    · exact List.mem_cons_of_mem _ (ih h)
def isTmp2 : List ResultVar → Bool
  | [.tmp 2] => true
  | _ => false
def cloneOK (P : Program) (f t : Nat) : Bool := match P.funcs[f]? with
  | some fn => match fn.body with
    | some c => (match asClone c with | some t' => t' == t | none => false) && fn.ntmps == 8 && isTmp2 fn.results.toList
    | none => false
  | none => false
def modeOK (P : Program) : Nat × Mode → Bool
  | (f, .clone t) => cloneOK P f t
  | (_, .sort _) => true
  | (_, .prim) => true
  | _ => true
def namesOK (P : Program) : Bool := P.funcs.toList.all fun fn => !(fn.name == "runtime.NumGoroutine")
def codesOK (P : Program) : Bool := P.funcs.toList.all fun fn => match fn.body with
  | some c => okCode fn.ntmps c
  | none => true
theorem funcs_mem {P : Program} {f : FuncId} {fn : Func} (h : P.funcs[f]? = some fn) : fn ∈ P.funcs.toList := by
  rw [← Array.getElem?_toList] at h
  exact List.mem_of_getElem? h
theorem clone_parts {P : Program} {f t : Nat} (h : cloneOK P f t = true) : ∃ fn c, P.funcs[f]? = some fn ∧ fn.body = some c ∧ asClone c = some t ∧ fn.ntmps = 8 ∧ fn.results = #[.tmp 2] := by
  unfold cloneOK at h
  split at h
  · rename_i fn hf
    split at h
    · rename_i c hb
      simp only [Bool.and_eq_true] at h
      obtain ⟨⟨h1, h2⟩, h3⟩ := h
      refine ⟨fn, c, hf, hb, ?_, by simpa using h2, ?_⟩
      · split at h1
        · rename_i t' ht
          have : t' = t := by simpa using h1
          rw [ht, this]
        · cases h1
      · unfold isTmp2 at h3
        split at h3
        · rename_i hl
          apply Array.ext'
          rw [hl]
        · cases h3
    · cases h
  · cases h
/-- Nothing rests on laws of its own. -/
def noPrim (l : List (Nat × Mode)) : Bool := l.all fun x => match x.2 with
  | .prim => false
  | _ => true
def noSort (l : List (Nat × Mode)) : Bool := l.all fun x => match x.2 with
  | .sort _ => false
  | _ => true
/-- What is owed of slices.Sort and slices.Compact. -/
def SortOK (C : Cfg) : Prop := ∀ f cut, C.mode f = .sort cut → (cut = false → SortLaw C.P f) ∧ (cut = true → CutLaw C.P f)
theorem sortOK_none {C : Cfg} {l : List (Nat × Mode)} (hm : C.mode = modeOf l) (h : noSort l = true) : SortOK C := fun f cut ht => by
  rw [hm] at ht
  unfold modeOf at ht
  split at ht
  · rename_i m hl
    subst ht
    have := List.all_eq_true.1 h _ (lookup_mem hl)
    simp at this
  · cases ht
/-- What is owed of the functions with laws of their own, and of iterators. -/
structure PrimOK (C : Cfg) : Prop where
  prim : SoundV C.P (fun f => C.mode f = .prim) C.prim
  iter : ∀ {g : FuncId} {caps : List DV} {xs : List (List DV)} {w : World} {cs : List Value}, gather C g caps = some xs → DRl (fun _ => True) w caps cs → Known C.P g ∧
    ∀ (l : Nat) (w1 : World) (Jx : World → Prop), Same w w1 → (∀ A B, Jx A → Same A B → Jx B) →
      (xs ≠ [] → ∀ W x, Same w1 W → YieldAt Fence.wide 0 C.P l #[x] W fun e W' => e = .returned (.bool false) ∧ Jx W') →
      CallsIn Fence.wide 0 C.P g (#[.func (.yield l) #[] #[]] ++ cs.toArray) w1 fun e W' => (∃ v, e = .returned v) ∧ ((xs = [] ∧ Same w1 W') ∨ (xs ≠ [] ∧ Jx W'))
theorem primOK_none {C : Cfg} {l : List (Nat × Mode)} (hm : C.mode = modeOf l) (h : noPrim l = true) (hc : C.coll = none) : PrimOK C where
  prim := fun f args as r O w ht => by
    rw [hm] at ht
    unfold modeOf at ht
    split at ht
    · rename_i m hl
      subst ht
      have := List.all_eq_true.1 h _ (lookup_mem hl)
      simp at this
    · cases ht
  iter := fun hg => by
    unfold gather at hg
    rw [hc] at hg
    cases hg
theorem modes_ok' {C : Cfg} {l : List (Nat × Mode)} (hm : C.mode = modeOf l) (h1 : namesOK C.P = true) (h2 : l.all (modeOK C.P) = true) (h3 : PrimOK C) (h4 : SortOK C) : ModesOK C where
  name := fun f fn hf => by
    have := List.all_eq_true.1 h1 fn (funcs_mem hf)
    simpa using this
  clone := fun f t ht => by
    intro O ι H H0 w fr args as e hH h0 hfr hr he
    rw [hm] at ht
    unfold modeOf at ht
    split at ht
    · rename_i m hl
      subst ht
      have := List.all_eq_true.1 h2 _ (lookup_mem hl)
      obtain ⟨fn, c, g1, g2, g3, g4, g5⟩ := clone_parts (P := C.P) this
      exact clone_calls hH h0 g1 g2 g3 g4 g5 hfr hr he
    · cases ht
  sort := fun f cut ht => by
    intro O ι H H0 w fr args as e hH h0 hr he
    obtain ⟨g1, g2⟩ := h4 f cut ht
    exact sort_calls hH h0 g1 g2 hr he
  prim := h3.prim
  iter := h3.iter
theorem modes_ok {C : Cfg} {l : List (Nat × Mode)} (hm : C.mode = modeOf l) (h1 : namesOK C.P = true) (h2 : l.all (modeOK C.P) = true) (h3 : noPrim l = true) (hc : C.coll = none) (h4 : noSort l = true) : ModesOK C := modes_ok' hm h1 h2 (primOK_none hm h3 hc) (sortOK_none hm h4)
theorem prog_ok {C : Cfg} (h1 : codesOK C.P = true) (h2 : C.P.follows .mixedOrders = true) : ProgOK C where
  code := fun f fn c hf hb => by
    have := List.all_eq_true.1 h1 fn (funcs_mem hf)
    rw [hb] at this
    exact this
  mixed := h2
end Go.AI
