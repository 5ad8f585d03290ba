/-
  Own work. Calls: by value, in the caller's memory.
-/
import Derived.Test.YthagcidcihgboaaGreatAiEff
namespace Go.AI
open Go
set_option linter.unusedVariables false
set_option linter.unusedSimpArgs false
variable {P : Program} {O : Nat → Prop} {ι : Inj} {H H0 : Heap} {w w' : World}

/-- Nothing that was there has turned. -/
structure Same (w w' : World) : Prop where
  os : w'.os = w.os
  tape : w'.tape = w.tape
  output : w'.output = w.output
  size : w.heap.size ≤ w'.heap.size
  heap : ∀ k, k < w.heap.size → w'.heap[k]? = w.heap[k]?
theorem Same.refl (w : World) : Same w w := ⟨rfl, rfl, rfl, Nat.le_refl _, fun _ _ => rfl⟩
theorem Same.ex (h : Same w w') (ι : Inj) : Ex ι w ι w' where
  os := h.os
  tape := h.tape
  output := h.output
  size := h.size
  keep := fun k hk hi => ⟨h.heap k hk, hi⟩
  old := fun b e he => ⟨e, he, rfl, Nat.le_refl _, fun _ => rfl⟩
  part := fun b e k he hk => ⟨.inr ⟨b, e, he, hk, rfl, rfl⟩, fun cs t fz hc => ⟨cs, by rw [h.heap k (Array.getElem?_eq_some_iff.1 hc).1]; exact hc, rfl, fun _ _ => rfl⟩⟩
theorem HR.same (hH : HR O ι H w) (h : Same w w') : HR O ι H w' :=
  ⟨fun b e he => let ⟨B, h1, h2⟩ := hH.blk b e he; ⟨B, h1, h2.mono (h.ex ι) fun k hk => h.heap k (hH.lt b e k he hk)⟩, hH.inj, hH.dis, fun k hO => Nat.lt_of_lt_of_le (hH.bar k hO) h.size⟩
theorem Ex.same {ι' : Inj} (h : Ex (fun _ => none) w ι' w') : Same w w' :=
  ⟨h.os, h.tape, h.output, h.size, fun k hk => (h.keep k hk (fun ⟨b, e, h1, _⟩ => by cases h1)).1⟩

theorem toD_le (h0 : ∀ b B, H0 b = some B → H b = some B) {p : Nat → Bool} : ∀ (n : Nat) (v : AV) (x : DV), toD p H0 n v = some x → toD p H n v = some x := by
  have mapO_le : ∀ {α β : Type} {f g : α → Option β} {l : List α} {r : List β}, (∀ a y, f a = some y → g a = some y) → mapO f l = some r → mapO g l = some r := by
    intro α β f g l
    induction l with
    | nil => intro r _ h; simpa [mapO] using h
    | cons a t ih =>
      intro r hfg h
      simp only [mapO] at h ⊢
      cases hf : f a with
      | none => simp [hf] at h
      | some y =>
        cases ht : mapO f t with
        | none => simp [hf, ht] at h
        | some z =>
          simp [hf, ht] at h
          rw [hfg a y hf, ih hfg ht]
          simpa using h
  intro n
  induction n with
  | zero => intro v x h; simp [toD] at h
  | succ n ih =>
    intro v x h
    cases v with
    | ref b ver off len =>
      simp only [toD] at h ⊢
      split at h
      · rename_i hp
        rw [if_pos hp]
        cases hb : H0 b with
        | none => simp [hb] at h
        | some B =>
          rw [h0 b B hb]
          rw [hb] at h
          cases B with
          | mp es => simp at h
          | row s v' data =>
            simp only at h ⊢
            split at h
            · rename_i hc
              rw [if_pos hc]
              split at h
              · rename_i xs hxs
                rw [mapO_le (fun a y hy => mapO_le ih hy) hxs]
                exact h
              · cases h
            · cases h
      · cases h
    | ptr b ver i o =>
      simp only [toD] at h ⊢
      split at h
      · rename_i hp
        rw [if_pos hp]
        cases hb : H0 b with
        | none => simp [hb] at h
        | some B =>
          rw [h0 b B hb]
          rw [hb] at h
          cases B with
          | mp es => simp at h
          | row s v' data =>
            simp only at h ⊢
            split at h
            · rename_i hc
              rw [if_pos hc]
              split at h
              · rename_i r hr
                split at h
                · rename_i xs hxs
                  rw [mapO_le ih hxs]
                  exact h
                · cases h
              · cases h
            · cases h
      · cases h
    | fn f caps =>
      simp only [toD] at h ⊢
      split at h
      · rename_i l hl
        rw [mapO_le ih hl]; exact h
      · cases h
    | _ => exact h
theorem mapO_le {α β : Type} {f g : α → Option β} (hfg : ∀ a y, f a = some y → g a = some y) : ∀ {l : List α} {r : List β}, mapO f l = some r → mapO g l = some r
  | [], r, h => by simpa [mapO] using h
  | a :: t, r, h => by
    simp only [mapO] at h ⊢
    cases hf : f a with
    | none => simp [hf] at h
    | some y =>
      cases ht : mapO f t with
      | none => simp [hf, ht] at h
      | some z =>
        simp [hf, ht] at h
        rw [hfg a y hf, mapO_le hfg ht]
        simpa using h
theorem snap_le (h0 : ∀ b B, H0 b = some B → H b = some B) {p : Nat → Bool} : ∀ (n : Nat) (v x : AV), snap p H0 n v = some x → snap p H n v = some x
  | 0, v, x, h => by simp [snap] at h
  | n + 1, v, x, h => by
    cases v with
    | agg cs =>
      simp only [snap] at h ⊢
      split at h
      · rename_i l hl
        rw [mapO_le (snap_le h0 n) hl]; exact h
      · cases h
    | tup cs =>
      simp only [snap] at h ⊢
      split at h
      · rename_i l hl
        rw [mapO_le (snap_le h0 n) hl]; exact h
      · cases h
    | _ =>
      simp only [snap] at h ⊢
      split at h
      · rename_i y hy
        rw [toD_le h0 4 _ y hy]; exact h
      · cases h

/-- How a call ends. -/
def RetOK (O : Nat → Prop) (ι : Inj) (w : World) (H' : Heap) (nx nx' : Nat) (v : AV) : Ending → World → Prop
  | .returned c, w' => ∃ ι', HR O ι' H' w' ∧ R O ι' w' v c ∧ Ex ι w ι' w' ∧ ∀ b, ι' b ≠ none → ι b = none → nx ≤ b ∧ b < nx'
  | _, _ => False
def Known (P : Program) (f : FuncId) : Prop := ∃ fn, P.funcs[f]? = some fn ∧ fn.body.isSome = true
def SoundK (P : Program) (K : Call) : Prop := ∀ f args as H nx v H' nx' O ι w, K f args H nx = some (v, H', nx') → HR O ι H w → Rl O ι w args as → (∀ b, nx ≤ b → ι b = none) →
  Calls P f as.toArray w (RetOK O ι w H' nx nx' v) ∧ nx ≤ nx' ∧ Known P f

/-- A call by value: nothing that was there turns; what it gives may lie in what it was given. -/
def ByVal (O : Nat → Prop) (ι : Inj) (w : World) (v : AV) : Ending → World → Prop
  | .returned c, w' => Same w w' ∧ R O ι w' v c
  | _, _ => False
theorem ikill_nil : ikill (([] : List Nat).contains) ι = ι := by
  funext b
  unfold ikill
  cases ι b with
  | none => rfl
  | some e => simp
/-- What a callee that is called by value may not touch. -/
def Bar (O : Nat → Prop) (ι : Inj) (p : Nat → Bool) (k : Nat) : Prop := O k ∨ ∃ b e, ι b = some e ∧ e.blk = some k ∧ (p b = false ∨ e.mp = true)
theorem bar_none (hH : HR O ι H w) (p : Nat → Bool) : HR (Bar O ι p) (fun _ => none) noHeap w where
  blk := fun b e h => by cases h
  inj := fun b b' e e' k h => by cases h
  dis := fun k ⟨b, e, h, _⟩ => by cases h
  bar := fun k h => by
    rcases h with h | ⟨b, e, h1, h2, _⟩
    · exact hH.bar k h
    · exact hH.lt b e k h1 h2
theorem pure_args (hH : HR O ι H w) (h0 : ∀ b B, H0 b = some B → H b = some B) {p : Nat → Bool} {args as' : List AV} {as : List Value} (hs : mapO (snap p H0 4) args = some as') (hr : Rl O ι w args as) :
    Rl (Bar O ι p) (fun _ => none) w as' as := by
  refine snaps_R (p := p) (ι2 := fun _ => none) (O2 := Bar O ι p) hH (fun k hk hi => ⟨(fun ⟨b, e, h, _⟩ => by cases h), ?_⟩) (fun b e k hp hm he hk => ⟨(fun ⟨b, e, h, _⟩ => by cases h), ?_⟩) 4 args as' as (mapO_le (snap_le h0 4) hs) hr
  · rintro (h | ⟨b, e, h1, h2, _⟩)
    · exact hi.2 h
    · exact hi.1 ⟨b, e, h1, h2⟩
  · rintro (h | ⟨b', e', h1, h2, h3⟩)
    · exact hH.dis k ⟨b, e, he, hk⟩ h
    · have := hH.inj b' b e' e k h1 he h2 hk
      subst this
      rw [he] at h1; cases h1
      rcases h3 with h3 | h3
      · rw [hp] at h3; cases h3
      · rw [hm] at h3; cases h3
theorem byVal_of (hH : HR O ι H w) {p : Nat → Bool} {f : FuncId} {as : List Value} {r v : AV} {Hc : Heap} {nx' : Nat} (he : snap allB Hc 4 v = some r) (h1 : Calls P f as.toArray w (RetOK (Bar O ι p) (fun _ => none) w Hc 0 nx' v)) :
    Calls P f as.toArray w (ByVal O (ikill p ι) w r) ∧ (isScalar 4 r = true → Calls P f as.toArray w (ByVal O ι w r)) := by
  have big : ∀ (ι' : Inj) (w' : World), Ex (fun _ => none) w ι' w' → ∀ k, k < w.heap.size → ¬ owned ι' k := fun ι' w' hx k hk => (hx.keep k hk (fun ⟨b, e, h, _⟩ => by cases h)).2
  have res : ∀ (ι' : Inj) (w' : World) (c : Value), HR (Bar O ι p) ι' Hc w' → R (Bar O ι p) ι' w' v c → Ex (fun _ => none) w ι' w' → R O (ikill p ι) w' r c := by
    intro ι' w' c g1 g2 g3
    refine snap_R (p := allB) (ι2 := ikill p ι) (O2 := O) g1 (fun k hk hi => ⟨fun ho => ?_, fun hO => hi.2 (.inl hO)⟩) (fun b e k _ hm he hk => ⟨fun ho => ?_, fun hO => ?_⟩) 4 v r c he g2
    · obtain ⟨b, e, q1, q2⟩ := ho
      obtain ⟨q3, q4⟩ := ikill_blk q1 q2
      exact hi.2 (.inr ⟨b, e, q3, q2, q4⟩)
    · obtain ⟨b', e', q1, q2⟩ := ho
      have hlt := hH.lt b' e' k (ikill_blk q1 q2).1 q2
      exact big ι' w' g3 k hlt ⟨b, e, he, hk⟩
    · have hlt := hH.bar k hO
      exact big ι' w' g3 k hlt ⟨b, e, he, hk⟩
  refine ⟨h1.mono fun e w' hret => ?_, fun hsc => h1.mono fun e w' hret => ?_⟩
  · cases e with
    | returned c =>
      obtain ⟨ι', g1, g2, g3, _⟩ := hret
      exact ⟨g3.same, res ι' w' c g1 g2 g3⟩
    | _ => exact hret.elim
  · cases e with
    | returned c =>
      obtain ⟨ι', g1, g2, g3, _⟩ := hret
      exact ⟨g3.same, scalar_R 4 r c hsc (res ι' w' c g1 g2 g3)⟩
    | _ => exact hret.elim

/-- What comes of a call. -/
def OutR (P : Program) (O : Nat → Prop) (ι : Inj) (H : Heap) (w : World) (fr : Nat) (f : FuncId) (as : List Value) : Out → Prop
  | .eff e => Calls P f as.toArray w fun | .returned c, w' => ∃ ι', Post O ι H w (fun b => fr ≤ b ∧ b < fr + 16) e c w' ι' | _, _ => False
  | .frz v p => Calls P f as.toArray w (ByVal O (ikill p.contains ι) w v)
  | .run v H' nx' => Calls P f as.toArray w (RetOK O ι w H' fr nx' v) ∧ fr ≤ nx'
/-- A way of calling by value, sound: 'byValue K', or a function with a law of its own. -/
def SoundV (P : Program) (ok : FuncId → Prop) (K : FuncId → List AV → Option AV) : Prop := ∀ f args as r O w, ok f → K f args = some r → HR O (fun _ => none) noHeap w → Rl O (fun _ => none) w args as →
  Known P f ∧ ∃ v Hc nx', snap allB Hc 4 v = some r ∧ Calls P f as.toArray w (RetOK O (fun _ => none) w Hc 0 nx' v)
theorem SoundV.of {K : Call} (hK : SoundK P K) (ok : FuncId → Prop) : SoundV P ok (byValue K) := by
  intro f args as r O w _ he hH hr
  unfold byValue at he
  split at he
  · rename_i v Hc nx' hk
    obtain ⟨h1, h2, h3⟩ := hK f args as noHeap 0 v Hc nx' O (fun _ => none) w hk hH hr (fun _ _ => rfl)
    exact ⟨h3, v, Hc, nx', he, h1⟩
  · cases he
theorem pure_calls {K : FuncId → List AV → Option AV} {ok : FuncId → Prop} (hK : SoundV P ok K) (hH : HR O ι H w) (h0 : ∀ b B, H0 b = some B → H b = some B) {f : FuncId} (hok : ok f) {args : List AV} {as : List Value} {r : AV} {p : List Nat} (fr : Nat) (hr : Rl O ι w args as) (he : pureCall K f args H0 = some (r, p)) :
    Known P f ∧ OutR P O ι H w fr f as (.frz r p) ∧ (p = [] → OutR P O ι H w fr f as (.eff ⟨r, []⟩)) := by
  unfold pureCall at he
  split at he
  · rename_i as' hs
    split at he
    · rename_i r' hk
      simp only [Option.some.injEq, Prod.mk.injEq] at he
      obtain ⟨rfl, hp⟩ := he
      have ha := pure_args hH h0 hs hr
      obtain ⟨h1, v, Hc, nx', h2, h3⟩ := hK f as' as r' _ w hok hk (bar_none hH _) ha
      obtain ⟨g1, g2⟩ := byVal_of hH h2 h3
      have eff_of : Calls P f as.toArray w (ByVal O ι w r') → OutR P O ι H w fr f as (.eff ⟨r', []⟩) := fun h => h.mono fun e w' hret => by
        cases e with
        | returned c => exact ⟨ι, (hH.same hret.1), hret.2, hret.1.ex ι, fun _ h1 h2 => absurd h2 h1⟩
        | _ => exact hret.elim
      refine ⟨h1, ?_, fun hpn => ?_⟩
      · simp only [OutR]
        split at hp
        · rename_i hsc
          subst hp
          rw [ikill_nil]
          exact g2 hsc
        · subst hp; exact g1
      · subst hpn
        split at hp
        · rename_i hsc
          exact eff_of (g2 hsc)
        · rw [hp, ikill_nil] at g1
          exact eff_of g1
    · cases he
  · cases he
end Go.AI
