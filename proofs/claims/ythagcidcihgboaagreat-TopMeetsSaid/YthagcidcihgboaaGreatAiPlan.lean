/-
  Own work. A region that draws its order: what each operation does, in the order of the text; in any other order that may come.
-/
import Derived.Test.YthagcidcihgboaaGreatAiSeq
namespace Go.AI
open Go
set_option linter.unusedVariables false
set_option linter.unusedSimpArgs false
variable {P : Program} {O : Nat → Prop} {ι ι0 : Inj} {H H0 : Heap} {w w' w0 : World}

/-- What an operation has done. -/
structure Rec where
  v : AV
  wr : Wr
def tsel (L : Nat → Bool) : List Oper → List Rec → Nat → Tmps → Tmps
  | o :: os, r :: rs, i, T => tsel L os rs (i + 1) (if L i then putT T o.dst r.v else T)
  | [], _, _, T => T
  | _ :: _, [], _, T => T
def hsel (L : Nat → Bool) : List Rec → Nat → Heap → Heap
  | r :: rs, i, H => hsel L rs (i + 1) (if L i then writes H r.wr else H)
  | [], _, H => H

theorem tsel_congr {t : Tmp} {L L' : Nat → Bool} : ∀ {os : List Oper} {rs : List Rec} {i : Nat} {T T' : Tmps}, (∀ j o, os[j]? = some o → o.dst = some t → L (i + j) = L' (i + j)) → T t = T' t → tsel L os rs i T t = tsel L' os rs i T' t
  | [], rs, i, T, T', _, h => by simpa [tsel] using h
  | o :: os, [], i, T, T', _, h => by simpa [tsel] using h
  | o :: os, r :: rs, i, T, T', hl, h => by
    simp only [tsel]
    refine tsel_congr (fun j o' ho hd => by rw [show i + 1 + j = i + (j + 1) from by omega]; exact hl (j + 1) o' (by simpa using ho) hd) ?_
    cases hd : o.dst with
    | none => cases L i <;> cases L' i <;> simpa [putT] using h
    | some d =>
      by_cases hdt : d = t
      · subst hdt
        have := hl 0 o (by simp) hd
        simp only [Nat.add_zero] at this
        rw [this]
        cases L' i
        · simpa using h
        · simp [putT, tset]
      · have hdt' : ¬ t = d := fun e => hdt e.symm
        cases L i <;> cases L' i <;> simp [putT, tset, hdt', h]
theorem writes_key {b : Nat} : ∀ {l : Wr} {H H' : Heap}, (∃ x ∈ l, x.1 = b) → writes H l b = writes H' l b
  | [], _, _, h => by obtain ⟨x, hx, _⟩ := h; cases hx
  | (c, x) :: r, H, H', h => by
    simp only [writes]
    by_cases hr : ∃ y ∈ r, y.1 = b
    · exact writes_key hr
    · have hc : c = b := by
        obtain ⟨y, hy, hyb⟩ := h
        rcases List.mem_cons.1 hy with rfl | hy
        · exact hyb
        · exact absurd ⟨y, hy, hyb⟩ hr
      have hn : ∀ y ∈ r, y.1 ≠ b := fun y hy hyb => hr ⟨y, hy, hyb⟩
      rw [writes_of hn, writes_of hn]
      subst hc
      rw [hset_same, hset_same]
theorem writes_at {b : Nat} {l : Wr} {H H' : Heap} (h : H b = H' b) : writes H l b = writes H' l b := by
  by_cases hr : ∃ y ∈ l, y.1 = b
  · exact writes_key hr
  · have hn : ∀ y ∈ l, y.1 ≠ b := fun y hy hyb => hr ⟨y, hy, hyb⟩
    rw [writes_of hn, writes_of hn]; exact h
theorem hsel_congr {b : Nat} {L L' : Nat → Bool} : ∀ {rs : List Rec} {i : Nat} {H H' : Heap}, (∀ j r, rs[j]? = some r → (∃ x ∈ r.wr, x.1 = b) → L (i + j) = L' (i + j)) → H b = H' b → hsel L rs i H b = hsel L' rs i H' b
  | [], i, H, H', _, h => by simpa [hsel] using h
  | r :: rs, i, H, H', hl, h => by
    simp only [hsel]
    refine hsel_congr (fun j o' ho hd => by rw [show i + 1 + j = i + (j + 1) from by omega]; exact hl (j + 1) o' (by simpa using ho) hd) ?_
    by_cases hk : ∃ x ∈ r.wr, x.1 = b
    · have := hl 0 r (by simp) hk
      simp only [Nat.add_zero] at this
      rw [this]
      cases L' i
      · simpa using h
      · simpa using writes_key hk
    · have hn : ∀ y ∈ r.wr, y.1 ≠ b := fun y hy hyb => hk ⟨y, hy, hyb⟩
      cases L i <;> cases L' i <;> simp [writes_of hn, h]
theorem tsel_put {L : Nat → Bool} {d : Option Tmp} {v : AV} {os : List Oper} {rs : List Rec} {i : Nat} {T : Tmps} (h : ∀ j o t, os[j]? = some o → L (i + j) = true → o.dst = some t → d ≠ some t) :
    tsel L os rs i (putT T d v) = putT (tsel L os rs i T) d v := by
  induction os generalizing rs i T with
  | nil => simp [tsel]
  | cons o os ih =>
    cases rs with
    | nil => simp [tsel]
    | cons r rs =>
      simp only [tsel]
      have hih := fun T => ih (rs := rs) (i := i + 1) (T := T) (fun j o' t ho hl hd => h (j + 1) o' t (by simpa using ho) (by rw [show i + (j + 1) = i + 1 + j from by omega]; exact hl) hd)
      cases hL : L i with
      | false => simp only [Bool.false_eq_true, if_false]; exact hih T
      | true =>
        simp only [if_true]
        rw [← hih]
        congr 1
        have h0 := h 0 o
        cases hd : o.dst with
        | none => simp [putT]
        | some e =>
          cases d with
          | none => simp [putT]
          | some d =>
            have hne : d ≠ e := fun he => h0 e (by simp) (by simpa using hL) hd (by rw [he])
            funext t
            simp only [putT, tset]
            by_cases h1 : t = e
            · have : ¬ t = d := fun h2 => hne (by rw [← h2, h1])
              simp [h1, this, Ne.symm hne]
            · simp [h1]
theorem hsel_writes {L : Nat → Bool} {l : Wr} {rs : List Rec} {i : Nat} {H : Heap} (h : ∀ j r, rs[j]? = some r → L (i + j) = true → ∀ x ∈ l, ∀ y ∈ r.wr, x.1 ≠ y.1) :
    hsel L rs i (writes H l) = writes (hsel L rs i H) l := by
  funext b
  by_cases hk : ∃ x ∈ l, x.1 = b
  · obtain ⟨x, hx, hxb⟩ := hk
    have : hsel L rs i (writes H l) b = hsel (fun _ => false) rs i (writes H l) b := hsel_congr (fun j r hr ⟨y, hy, hyb⟩ => by
      cases hL : L (i + j) with
      | false => rfl
      | true => exact absurd (hxb.trans hyb.symm) (h j r hr hL x hx y hy)) rfl
    rw [this]
    have none : ∀ (rs : List Rec) i H, hsel (fun _ => false) rs i H = H := by
      intro rs
      induction rs with
      | nil => intro i H; rfl
      | cons r rs ih => intro i H; simp [hsel, ih]
    rw [none]
    exact writes_key ⟨x, hx, hxb⟩
  · have hn : ∀ y ∈ l, y.1 ≠ b := fun y hy hyb => hk ⟨y, hy, hyb⟩
    rw [writes_of hn]
    exact hsel_congr (fun _ _ _ _ => rfl) (writes_of hn)
theorem tsel_ext {L L' : Nat → Bool} {os : List Oper} {rs : List Rec} {i : Nat} {T : Tmps} (h : ∀ j, j < os.length → L (i + j) = L' (i + j)) : tsel L os rs i T = tsel L' os rs i T :=
  funext fun _ => tsel_congr (fun j _ ho _ => h j (List.getElem?_eq_some_iff.1 ho).1) rfl
theorem hsel_ext {L L' : Nat → Bool} {rs : List Rec} {i : Nat} {H : Heap} (h : ∀ j, j < rs.length → L (i + j) = L' (i + j)) : hsel L rs i H = hsel L' rs i H :=
  funext fun _ => hsel_congr (fun j _ ho _ => h j (List.getElem?_eq_some_iff.1 ho).1) rfl
/-- One more. -/
theorem tsel_insert {L : Nat → Bool} {k : Nat} : ∀ {os : List Oper} {rs : List Rec} {i : Nat} {T : Tmps} {j : Nat} {o : Oper} {r : Rec}, k = i + j → os[j]? = some o → rs[j]? = some r → L k = false → (∀ p q t, os[p]? = some q → j < p → L (i + p) = true → q.dst = some t → o.dst ≠ some t) →
    tsel (fun x => x == k || L x) os rs i T = putT (tsel L os rs i T) o.dst r.v
  | [], _, i, T, j, o, r, _, ho, _, _, _ => by simp at ho
  | _ :: _, [], i, T, j, o, r, _, _, hr, _, _ => by simp at hr
  | q :: os, s :: rs, i, T, 0, o, r, hk, ho, hr, hL, h => by
    simp at ho hr hk; subst ho hr hk
    simp only [tsel, beq_self_eq_true, Bool.true_or, if_true, hL, Bool.false_eq_true, if_false]
    rw [← tsel_put (fun p q' t hq hl hd => h (p + 1) q' t (by simpa using hq) (by omega) (by rw [show k + (p + 1) = k + 1 + p from by omega]; exact hl) hd)]
    exact tsel_ext fun p _ => by
      have : (k + 1 + p == k) = false := by simp; omega
      simp [this]
  | q :: os, s :: rs, i, T, j + 1, o, r, hk, ho, hr, hL, h => by
    have hik : (i == k) = false := by simp; omega
    simp only [tsel, hik, Bool.false_or]
    exact tsel_insert (j := j) (by omega) (by simpa using ho) (by simpa using hr) hL fun p q' t hq hlt hl hd => h (p + 1) q' t (by simpa using hq) (by omega) (by rw [show i + (p + 1) = i + 1 + p from by omega]; exact hl) hd
theorem hsel_insert {L : Nat → Bool} {k : Nat} : ∀ {rs : List Rec} {i : Nat} {H : Heap} {j : Nat} {r : Rec}, k = i + j → rs[j]? = some r → L k = false → (∀ p q, rs[p]? = some q → j < p → L (i + p) = true → ∀ x ∈ r.wr, ∀ y ∈ q.wr, x.1 ≠ y.1) →
    hsel (fun x => x == k || L x) rs i H = writes (hsel L rs i H) r.wr
  | [], i, H, j, r, _, hr, _, _ => by simp at hr
  | s :: rs, i, H, 0, r, hk, hr, hL, h => by
    simp at hr hk; subst hr hk
    simp only [hsel, beq_self_eq_true, Bool.true_or, if_true, hL, Bool.false_eq_true, if_false]
    rw [← hsel_writes (fun p q' hq hl => h (p + 1) q' (by simpa using hq) (by omega) (by rw [show k + (p + 1) = k + 1 + p from by omega]; exact hl))]
    exact hsel_ext fun p _ => by
      have : (k + 1 + p == k) = false := by simp; omega
      simp [this]
  | s :: rs, i, H, j + 1, r, hk, hr, hL, h => by
    have hik : (i == k) = false := by simp; omega
    simp only [hsel, hik, Bool.false_or]
    exact hsel_insert (j := j) (by omega) (by simpa using hr) hL fun p q' hq hlt hl => h (p + 1) q' (by simpa using hq) (by omega) (by rw [show i + (p + 1) = i + 1 + p from by omega]; exact hl)
theorem tsel_none {os : List Oper} {rs : List Rec} {i k : Nat} {T : Tmps} (h : k ≤ i) : tsel (fun x => decide (x < k)) os rs i T = T := by
  have : tsel (fun x => decide (x < k)) os rs i T = tsel (fun _ => false) os rs i T := tsel_ext fun j _ => by simp; omega
  rw [this]
  clear this h
  induction os generalizing rs i T with
  | nil => rfl
  | cons o os ih =>
    cases rs with
    | nil => rfl
    | cons r rs => simp only [tsel, Bool.false_eq_true, if_false]; exact ih
theorem hsel_none {rs : List Rec} {i k : Nat} {H : Heap} (h : k ≤ i) : hsel (fun x => decide (x < k)) rs i H = H := by
  have : hsel (fun x => decide (x < k)) rs i H = hsel (fun _ => false) rs i H := hsel_ext fun j _ => by simp; omega
  rw [this]
  clear this h
  induction rs generalizing i H with
  | nil => rfl
  | cons r rs ih => simp only [hsel, Bool.false_eq_true, if_false]; exact ih

/-- An operation's record, in a state. -/
def RecOK (C : Cfg) (K : Call) (F : Fm) (ops : Array Oper) (base : Nat) (l : List Foot) (k : Nat) (o : Oper) (T : Tmps) (H : Heap) (r : Rec) : Prop :=
  (wantedA ops T o = some false ∧ r = ⟨undefA, []⟩) ∨
  (wantedA ops T o = some true ∧ ∃ out wr, operOut C K F T (restr H (footH F T H o)) (base + k * wide) o = some out ∧ ⟨k, footH F T H o, wr⟩ ∈ l ∧ (∀ x ∈ r.wr, x.1 ∈ wr ∨ base + k * wide ≤ x.1 ∧ x.1 < base + k * wide + wide) ∧
    (out = .eff ⟨r.v, r.wr⟩ ∨ ∃ p, out = .frz r.v p ∧ r.wr = killed H p ∧ ∀ b ∈ p, b ∈ footH F T H o))
theorem RecOK.more {C : Cfg} {K : Call} {F : Fm} {ops : Array Oper} {base k : Nat} {l l' : List Foot} {o : Oper} {T : Tmps} {H : Heap} {r : Rec} (h : RecOK C K F ops base l k o T H r) (hl : ∀ x ∈ l, x ∈ l') : RecOK C K F ops base l' k o T H r := by
  rcases h with h | ⟨h, out, wr, h1, h2, h3⟩
  · exact .inl h
  · exact .inr ⟨h, out, wr, h1, hl _ h2, h3⟩
theorem draw_plan {C : Cfg} {K : Call} {F : Fm} {ops : Array Oper} {base : Nat} : ∀ {os : List Oper} {i : Nat} {T T' : Tmps} {H H' : Heap} {l : List Foot}, drawOps C K F ops base os i T H = some (T', H', l) →
    ∃ rs : List Rec, rs.length = os.length ∧ T' = tsel (fun x => decide (x < i + os.length)) os rs i T ∧ H' = hsel (fun x => decide (x < i + os.length)) rs i H ∧
      ∀ (j : Nat) o r, os[j]? = some o → rs[j]? = some r → RecOK C K F ops base l (i + j) o (tsel (fun x => decide (x < i + j)) os rs i T) (hsel (fun x => decide (x < i + j)) rs i H) r
  | [], i, T, T', H, H', l, h => by
    simp [drawOps] at h
    obtain ⟨rfl, rfl, rfl⟩ := h
    exact ⟨[], rfl, rfl, rfl, fun j o r ho => by simp at ho⟩
  | o :: os, i, T, T', H, H', l, h => by
    have step : ∀ (r : Rec) (l' : List Foot), drawOps C K F ops base os (i + 1) (putT T o.dst r.v) (writes H r.wr) = some (T', H', l') → (∀ x ∈ l', x ∈ l) → RecOK C K F ops base l i o T H r →
        ∃ rs : List Rec, rs.length = (o :: os).length ∧ T' = tsel (fun x => decide (x < i + (o :: os).length)) (o :: os) rs i T ∧ H' = hsel (fun x => decide (x < i + (o :: os).length)) rs i H ∧
          ∀ (j : Nat) o' r, (o :: os)[j]? = some o' → rs[j]? = some r → RecOK C K F ops base l (i + j) o' (tsel (fun x => decide (x < i + j)) (o :: os) rs i T) (hsel (fun x => decide (x < i + j)) rs i H) r := by
      intro r l' hd hl hr
      obtain ⟨rs, h1, h2, h3, h4⟩ := draw_plan hd
      refine ⟨r :: rs, by simp [h1], ?_, ?_, fun j o' r' ho hr' => ?_⟩
      · rw [h2]
        simp only [tsel, List.length_cons]
        rw [if_pos (by simp)]
        congr 1
        funext x; congr 1; simp; omega
      · rw [h3]
        simp only [hsel, List.length_cons]
        rw [if_pos (by simp)]
        congr 1
        funext x; congr 1; simp; omega
      · cases j with
        | zero =>
          simp at ho hr'; subst ho hr'
          simp only [Nat.add_zero]
          rw [tsel_none (Nat.le_refl _), hsel_none (Nat.le_refl _)]
          exact hr
        | succ j =>
          have := (h4 j o' r' (by simpa using ho) (by simpa using hr')).more hl
          simp only [tsel, hsel]
          rw [if_pos (by simp), if_pos (by simp)]
          have e1 : i + 1 + j = i + (j + 1) := by omega
          rw [e1] at this
          exact this
    simp only [drawOps] at h
    cases hw : wantedA ops T o with
    | none => simp [hw] at h
    | some b =>
      cases b with
      | false =>
        simp only [hw] at h
        exact step ⟨undefA, []⟩ l (by simpa [writes] using h) (fun _ h => h) (.inl ⟨hw, rfl⟩)
      | true =>
        simp only [hw] at h
        cases hout : operOut C K F T (restr H (footH F T H o)) (base + i * wide) o with
        | none => simp [hout] at h
        | some out =>
          cases out with
          | eff e =>
            simp only [hout] at h
            split at h
            · rename_i T1 H1 l1 hd
              simp only [Option.some.injEq, Prod.mk.injEq] at h
              obtain ⟨rfl, rfl, rfl⟩ := h
              refine step ⟨e.v, e.wr⟩ l1 hd (fun _ h => List.mem_cons_of_mem _ h) (.inr ⟨hw, .eff e, _, hout, List.mem_cons_self .., fun x hx => ?_, .inl rfl⟩)
              by_cases hin : base + i * wide ≤ x.1 ∧ x.1 < base + i * wide + wide
              · exact .inr hin
              · left
                rw [List.mem_filter]
                refine ⟨List.mem_map.2 ⟨x, hx, rfl⟩, ?_⟩
                simp; omega
            · cases h
          | frz v p =>
            simp only [hout] at h
            split at h
            · rename_i T1 H1 l1 hd
              split at h
              · rename_i hp
                simp only [Option.some.injEq, Prod.mk.injEq] at h
                obtain ⟨rfl, rfl, rfl⟩ := h
                refine step ⟨v, killed H p⟩ l1 hd (fun _ h => List.mem_cons_of_mem _ h) (.inr ⟨hw, .frz v p, _, hout, List.mem_cons_self .., fun x hx => ?_, .inr ⟨p, rfl, rfl, fun b hb => ?_⟩⟩)
                · left
                  simp only [killed, List.mem_filterMap] at hx
                  obtain ⟨d, hd, hx⟩ := hx
                  cases hq : H d with
                  | none => simp [hq] at hx
                  | some B =>
                    cases B with
                    | mp es => simp [hq] at hx
                    | row s' v' d' => simp [hq] at hx; subst hx; exact hd
                · have := List.all_eq_true.1 hp b hb
                  simpa using this
              · cases h
            · cases h
          | run v H1 nx1 => simp [hout] at h
end Go.AI
