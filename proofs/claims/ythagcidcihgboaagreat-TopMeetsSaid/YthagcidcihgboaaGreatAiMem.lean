/-
  Own work. Memory of one's own: made, written, renamed: what becomes of 'HR' and 'Ex'.
-/
import Derived.Test.YthagcidcihgboaaGreatAiRel
namespace Go.AI
open Go
set_option linter.unusedVariables false
set_option linter.unusedSimpArgs false
variable {O : Nat → Prop} {ι : Inj} {H : Heap} {w w' : World}

/-- Nothing that was there has turned but cells of one block. -/
structure Only (w w' : World) (kb : Option Nat) (lo hi : Nat) : Prop where
  os : w'.os = w.os
  tape : w'.tape = w.tape
  output : w'.output = w.output
  size : w.heap.size ≤ w'.heap.size
  rest : ∀ k, k < w.heap.size → kb ≠ some k → w'.heap[k]? = w.heap[k]?
  here : ∀ k cs t fz, kb = some k → w.heap[k]? = some (.cells cs t fz) → ∃ cs', w'.heap[k]? = some (.cells cs' t fz) ∧ cs'.size = cs.size ∧ ∀ o, (o < lo ∨ hi ≤ o) → cs'[o]? = cs[o]?

theorem Only.refl (w : World) (kb : Option Nat) (lo hi : Nat) : Only w w kb lo hi :=
  ⟨rfl, rfl, rfl, Nat.le_refl _, fun _ _ _ => rfl, fun _ cs _ _ _ h => ⟨cs, h, rfl, fun _ _ => rfl⟩⟩
theorem Only.push (w : World) (o : Obj) (n : Nat) (kb : Option Nat) (lo hi : Nat) : Only w { w with heap := w.heap.push o, drawn := n } kb lo hi where
  os := rfl
  tape := rfl
  output := rfl
  size := by simp
  rest := fun k hk _ => by simp only [Array.getElem?_push]; rw [if_neg (by omega)]
  here := fun k cs t fz _ h => ⟨cs, by
    have := (Array.getElem?_eq_some_iff.1 h).1
    simp only [Array.getElem?_push]; rw [if_neg (by omega)]; exact h, rfl, fun _ _ => rfl⟩

theorem Ex.upd (hH : HR O ι H w) {b : Nat} {e' : CB} {lo hi : Nat} (ho : Only w w' ((ι b).bind (·.blk)) lo hi)
    (hr : ∀ e, ι b = some e → lo = e.base ∧ hi = e.base + e.cells ∧ e.mp = e'.mp ∧ e.ver ≤ e'.ver ∧ (e.ver = e'.ver ∨ e.mp = true → e' = e))
    (hk : ∀ k, e'.blk = some k → w.heap.size ≤ k ∨ ∃ e, ι b = some e ∧ e.blk = some k ∧ e'.base = e.base ∧ e'.cells = e.cells) : Ex ι w (iset ι b (some e')) w' where
  os := ho.os
  tape := ho.tape
  output := ho.output
  size := ho.size
  keep := fun k hlt hi => by
    refine ⟨ho.rest k hlt ?_, ?_⟩
    · intro hb
      cases hib : ι b with
      | none => simp [hib] at hb
      | some e => simp [hib] at hb; exact hi ⟨b, e, hib, hb⟩
    · rintro ⟨b2, e2, h1, h2⟩
      by_cases hb : b2 = b
      · subst hb
        rw [iset_same] at h1; cases h1
        rcases hk k h2 with h | ⟨e, h3, h4, _⟩
        · omega
        · exact hi ⟨b2, e, h3, h4⟩
      · rw [iset_ne _ _ hb] at h1
        exact hi ⟨b2, e2, h1, h2⟩
  old := fun c e he => by
    by_cases hb : c = b
    · subst hb
      obtain ⟨_, _, h1, h2, h3⟩ := hr e he
      exact ⟨e', iset_same .., h1, h2, h3⟩
    · exact ⟨e, by rw [iset_ne _ _ hb]; exact he, rfl, Nat.le_refl _, fun _ => rfl⟩
  part := fun c e k he hke => by
    by_cases hb : c = b
    · subst hb
      obtain ⟨h1, h2, _⟩ := hr e he
      refine ⟨?_, fun cs t fz hc => ?_⟩
      · by_cases hk' : e'.blk = some k
        · rcases hk k hk' with h | ⟨e0, h3, h4, h5, h6⟩
          · have := hH.lt c e k he hke; omega
          · rw [he] at h3; cases h3
            exact .inr ⟨c, e', iset_same .., hk', h5, h6⟩
        · refine .inl ?_
          rintro ⟨b2, e2, g1, g2⟩
          by_cases hb2 : b2 = c
          · subst hb2; rw [iset_same] at g1; cases g1; exact hk' g2
          · rw [iset_ne _ _ hb2] at g1
            exact hb2 (hH.inj b2 c e2 e k g1 he g2 hke)
      · have := ho.here k cs t fz (by simp [he, hke]) hc
        rw [h1, h2] at this
        exact this
    · refine ⟨.inr ⟨c, e, by rw [iset_ne _ _ hb]; exact he, hke, rfl, rfl⟩, fun cs t fz hc => ?_⟩
      refine ⟨cs, ?_, rfl, fun _ _ => rfl⟩
      rw [ho.rest k (hH.lt c e k he hke), hc]
      intro hkb
      cases hib : ι b with
      | none => simp [hib] at hkb
      | some e0 => simp [hib] at hkb; exact hb (hH.inj c b e e0 k he hib hke hkb)

theorem HR.upd (hH : HR O ι H w) {b : Nat} {e' : CB} {B' : ABlk} {lo hi : Nat} (ho : Only w w' ((ι b).bind (·.blk)) lo hi)
    (hr : ∀ e, ι b = some e → lo = e.base ∧ hi = e.base + e.cells ∧ e.mp = e'.mp ∧ e.ver ≤ e'.ver ∧ (e.ver = e'.ver ∨ e.mp = true → e' = e))
    (hk : ∀ k, e'.blk = some k → w.heap.size ≤ k ∨ ∃ e, ι b = some e ∧ e.blk = some k ∧ e'.base = e.base ∧ e'.cells = e.cells)
    (hB : BR O (iset ι b (some e')) w' e' B') : HR O (iset ι b (some e')) (hset H b (some B')) w' where
  blk := fun c e he => by
    by_cases hb : c = b
    · subst hb
      rw [iset_same] at he; cases he
      exact ⟨B', hset_same .., hB⟩
    · rw [iset_ne _ _ hb] at he
      obtain ⟨B, h1, h2⟩ := hH.blk c e he
      refine ⟨B, by rw [hset_ne _ _ hb]; exact h1, h2.mono (Ex.upd hH ho hr hk) fun k hke => ho.rest k (hH.lt c e k he hke) ?_⟩
      intro hkb
      cases hib : ι b with
      | none => simp [hib] at hkb
      | some e0 => simp [hib] at hkb; exact hb (hH.inj c b e e0 k he hib hke hkb)
  inj := fun c c' e1 e2 k h1 h2 hk1 hk2 => by
    by_cases hb : c = b
    · subst hb
      rw [iset_same] at h1; cases h1
      by_cases hb' : c' = c
      · exact hb'.symm
      · rw [iset_ne _ _ hb'] at h2
        rcases hk k hk1 with h | ⟨e0, h3, h4, _⟩
        · have := hH.lt c' e2 k h2 hk2; omega
        · exact hH.inj c c' e0 e2 k h3 h2 h4 hk2
    · rw [iset_ne _ _ hb] at h1
      by_cases hb' : c' = b
      · subst hb'
        rw [iset_same] at h2; cases h2
        rcases hk k hk2 with h | ⟨e0, h3, h4, _⟩
        · have := hH.lt c e1 k h1 hk1; omega
        · exact hH.inj c c' e1 e0 k h1 h3 hk1 h4
      · rw [iset_ne _ _ hb'] at h2
        exact hH.inj c c' e1 e2 k h1 h2 hk1 hk2
  dis := fun k ⟨c, e, he, hke⟩ => by
    by_cases hb : c = b
    · subst hb
      rw [iset_same] at he; cases he
      rcases hk k hke with h | ⟨e0, h3, h4, _⟩
      · exact fun hO => by have := hH.bar k hO; omega
      · exact hH.dis k ⟨c, e0, h3, h4⟩
    · rw [iset_ne _ _ hb] at he
      exact hH.dis k ⟨c, e, he, hke⟩
  bar := fun k hO => Nat.lt_of_lt_of_le (hH.bar k hO) ho.size

/-- What a draw leaves. -/
theorem Ex.drawn (hH : HR O ι H w) (n : Nat) : Ex ι w ι { w with drawn := n } :=
  ⟨rfl, rfl, rfl, Nat.le_refl _, fun _ _ h => ⟨rfl, h⟩, fun b e h => ⟨e, h, rfl, Nat.le_refl _, fun _ => rfl⟩, fun b e k h hk => ⟨.inr ⟨b, e, h, hk, rfl, rfl⟩, fun cs _ _ h => ⟨cs, h, rfl, fun _ _ => rfl⟩⟩⟩
theorem HR.drawn (hH : HR O ι H w) (n : Nat) : HR O ι H { w with drawn := n } :=
  ⟨fun b e h => let ⟨B, h1, h2⟩ := hH.blk b e h; ⟨B, h1, h2.mono (Ex.drawn hH n) fun _ _ => rfl⟩, hH.inj, hH.dis, hH.bar⟩

/-! ### A new row -/
theorem cell_new {cs : Array Value} {t : TypeId} {w' : World} {k : Nat} (h : w'.heap[k]? = some (.cells cs t (0, 0))) (off : Nat) : w'.cell? ⟨k, off, none⟩ = cs[off]? := by
  simp [World.cell?, h]
/-- Elements as they stand in a list of cells. -/
def RowsIn (O : Nat → Prop) (ι : Inj) (w : World) (cs : Array Value) (base s : Nat) (data : List (List AV)) : Prop :=
  ∀ (i : Nat) x, data[i]? = some x → x.length = s ∧ ∀ (j : Nat) y, x[j]? = some y → ∃ v, cs[base + i * s + j]? = some v ∧ v.oneCell = true ∧ R O ι w y v
theorem RowsIn.at {cs : Array Value} {t : TypeId} {base s : Nat} {data : List (List AV)} {ι' : Inj} {k : Nat} (h : RowsIn O ι w cs base s data) (hx : Ex ι w ι' w') (hk : w'.heap[k]? = some (.cells cs t (0, 0))) :
    RowsAt O ι' w' k base s data := by
  intro i x hi
  obtain ⟨h1, h2⟩ := h i x hi
  refine ⟨h1, fun j y hy => ?_⟩
  obtain ⟨v, v1, v2, v3⟩ := h2 j y hy
  exact ⟨v, by rw [cell_new hk]; exact v1, v2, v3.mono hx⟩

theorem new_row (hH : HR O ι H w) {fr : Nat} (hf : ι fr = none) {cs : Array Value} (t : TypeId) (n : Nat) {s : Nat} {data : List (List AV)} (hd : RowsIn O ι w cs 0 s data) (hl : data.length * s ≤ cs.size) :
    HR O (iset ι fr (some ⟨some w.heap.size, 0, s, 0, data.length, cs.size, false⟩)) (hset H fr (some (.row s 0 data))) { w with heap := w.heap.push (.cells cs t), drawn := n } ∧
    Ex ι w (iset ι fr (some ⟨some w.heap.size, 0, s, 0, data.length, cs.size, false⟩)) { w with heap := w.heap.push (.cells cs t), drawn := n } := by
  have ho : Only w { w with heap := w.heap.push (.cells cs t), drawn := n } ((ι fr).bind (·.blk)) 0 0 := Only.push w _ n _ _ _
  have hr : ∀ e, ι fr = some e → 0 = e.base ∧ 0 = e.base + e.cells ∧ e.mp = (⟨some w.heap.size, 0, s, 0, data.length, cs.size, false⟩ : CB).mp ∧ e.ver ≤ (⟨some w.heap.size, 0, s, 0, data.length, cs.size, false⟩ : CB).ver ∧
      (e.ver = (⟨some w.heap.size, 0, s, 0, data.length, cs.size, false⟩ : CB).ver ∨ e.mp = true → (⟨some w.heap.size, 0, s, 0, data.length, cs.size, false⟩ : CB) = e) := fun e he => by rw [hf] at he; cases he
  have hk : ∀ k, (⟨some w.heap.size, 0, s, 0, data.length, cs.size, false⟩ : CB).blk = some k → w.heap.size ≤ k ∨ ∃ e, ι fr = some e ∧ e.blk = some k ∧ (0 : Nat) = e.base ∧ cs.size = e.cells := fun k hk => by
    simp at hk; exact .inl (by omega)
  have hx := Ex.upd hH ho hr hk
  refine ⟨HR.upd hH ho hr hk ?_, hx⟩
  have hh : ({ w with heap := w.heap.push (.cells cs t), drawn := n } : World).heap[w.heap.size]? = some (.cells cs t (0, 0)) := by simp
  refine ⟨rfl, rfl, rfl, rfl, fun h => by simp at h, fun k hk => ?_⟩
  simp at hk; subst hk
  exact ⟨⟨cs, t, hh, by simp⟩, hl, hd.at hx hh⟩

/-- A row that is nothing yet. -/
theorem new_virt (hH : HR O ι H w) {b : Nat} (hf : ι b = none) (s : Nat) :
    HR O (iset ι b (some ⟨none, 0, s, 0, 0, 0, false⟩)) (hset H b (some (.row s 0 []))) w ∧ Ex ι w (iset ι b (some ⟨none, 0, s, 0, 0, 0, false⟩)) w := by
  have ho : Only w w ((ι b).bind (·.blk)) 0 0 := Only.refl ..
  have hr : ∀ e, ι b = some e → 0 = e.base ∧ 0 = e.base + e.cells ∧ e.mp = (⟨none, 0, s, 0, 0, 0, false⟩ : CB).mp ∧ e.ver ≤ (⟨none, 0, s, 0, 0, 0, false⟩ : CB).ver ∧
      (e.ver = (⟨none, 0, s, 0, 0, 0, false⟩ : CB).ver ∨ e.mp = true → (⟨none, 0, s, 0, 0, 0, false⟩ : CB) = e) := fun e he => by rw [hf] at he; cases he
  have hk : ∀ k, (⟨none, 0, s, 0, 0, 0, false⟩ : CB).blk = some k → w.heap.size ≤ k ∨ ∃ e, ι b = some e ∧ e.blk = some k ∧ (0 : Nat) = e.base ∧ 0 = e.cells := fun k hk => by cases hk
  refine ⟨HR.upd hH ho hr hk ?_, Ex.upd hH ho hr hk⟩
  exact ⟨rfl, rfl, rfl, rfl, fun _ => rfl, fun k hk => by cases hk⟩

theorem virt_keys : ∀ (cs : List AV) (k : Nat), ∀ x ∈ (virt k cs).2, k ≤ x.1 ∧ x.1 < k + (virt k cs).2.length
  | [], k => by simp [virt]
  | c :: r, k => by
    have hrest := virt_keys r k
    cases c with
    | nil s =>
      intro x hx
      simp only [virt, List.mem_cons, List.length_cons] at hx ⊢
      rcases hx with rfl | hx
      · simp
      · have := virt_keys r (k + 1) x hx; omega
    | _ => simpa [virt] using hrest

theorem virt_R : ∀ (cs : List AV) {ι : Inj} {H : Heap} {k : Nat} {l : List Value}, HR O ι H w → (∀ b, k ≤ b → b < k + (virt k cs).2.length → ι b = none) → Rl O ι w cs l →
    ∃ ι', HR O ι' (writes H (virt k cs).2) w ∧ Rl O ι' w (virt k cs).1 l ∧ Ex ι w ι' w ∧ ∀ b, ι' b ≠ none → ι b = none → k ≤ b ∧ b < k + (virt k cs).2.length
  | [], ι, H, k, l, hH, _, hr => ⟨ι, hH, by simpa [virt] using hr, Ex.refl .., fun b h1 h2 => absurd h2 h1⟩
  | c :: r, ι, H, k, l, hH, hf, hr => by
    simp only [Rl] at hr
    obtain ⟨v, l', rfl, h1, h2⟩ := hr
    have other : (virt k (c :: r) = (c :: (virt k r).1, (virt k r).2)) → ∃ ι', HR O ι' (writes H (virt k (c :: r)).2) w ∧ Rl O ι' w (virt k (c :: r)).1 (v :: l') ∧ Ex ι w ι' w ∧ ∀ b, ι' b ≠ none → ι b = none → k ≤ b ∧ b < k + (virt k (c :: r)).2.length := by
      intro he
      rw [he] at hf ⊢
      obtain ⟨ι', g1, g2, g3, g4⟩ := virt_R r hH hf h2
      exact ⟨ι', g1, by simp only [Rl]; exact ⟨v, l', rfl, h1.mono g3, g2⟩, g3, g4⟩
    cases c with
    | nil s =>
      simp only [virt, List.length_cons] at hf ⊢
      obtain ⟨g1, g2⟩ := new_virt hH (hf k (Nat.le_refl _) (by omega)) s
      obtain ⟨ι', q1, q2, q3, q4⟩ := virt_R r (k := k + 1) g1 (fun b hb1 hb2 => by rw [iset_ne _ _ (by omega)]; exact hf b (by omega) (by omega)) (Rl.mono g2 r l' h2)
      refine ⟨ι', by simpa [writes] using q1, ?_, Ex.trans hH.lt g2 q3, fun b hb1 hb2 => ?_⟩
      · simp only [Rl]
        refine ⟨v, l', rfl, ?_, q2⟩
        have : R O (iset ι k (some ⟨none, 0, s, 0, 0, 0, false⟩)) w (.ref k 0 0 0) v := by
          simp only [R] at h1 ⊢
          exact ⟨_, iset_same .., rfl, Nat.le_refl _, ⟨none, 0, h1⟩, fun _ => ⟨rfl, rfl, h1⟩⟩
        exact this.mono q3
      · by_cases hb : b = k
        · omega
        · have := q4 b hb1 (by rw [iset_ne _ _ hb]; exact hb2); omega
    | _ => exact other rfl
theorem virt_len : ∀ (cs : List AV) (k : Nat), (virt k cs).1.length = cs.length
  | [], k => by simp [virt]
  | c :: r, k => by cases c <;> simp [virt, virt_len r]
theorem writes_hset {H : Heap} {b : Nat} {x : Option ABlk} : ∀ {l : Wr}, (∀ y ∈ l, y.1 ≠ b) → writes (hset H b x) l = hset (writes H l) b x
  | [], _ => rfl
  | (c, y) :: r, h => by
    have hc : c ≠ b := h (c, y) (by simp)
    simp only [writes]
    rw [← writes_hset (fun y hy => h y (List.mem_cons_of_mem _ hy))]
    congr 1
    funext d
    simp only [hset]
    by_cases h1 : d = b
    · subst h1; simp [Ne.symm hc]
    · simp [h1]
theorem writes_append {H : Heap} : ∀ {l r : Wr}, writes H (l ++ r) = writes (writes H l) r
  | [], _ => rfl
  | (b, x) :: l, r => by simp only [List.cons_append, writes]; exact writes_append

theorem Rl_length : ∀ {cs : List AV} {l : List Value}, Rl O ι w cs l → l.length = cs.length
  | [], l, h => by simp [Rl] at h; simp [h]
  | x :: r, l, h => by
    simp only [Rl] at h
    obtain ⟨v, l', rfl, _, h⟩ := h
    simp [Rl_length h]
theorem Rl_get : ∀ {cs : List AV} {l : List Value} {j : Nat} {x : AV}, Rl O ι w cs l → cs[j]? = some x → ∃ v, l[j]? = some v ∧ R O ι w x v
  | [], l, j, x, _, h => by simp at h
  | y :: r, l, j, x, hr, h => by
    simp only [Rl] at hr
    obtain ⟨v, l', rfl, h1, h2⟩ := hr
    cases j with
    | zero => simp at h; subst h; exact ⟨v, by simp, h1⟩
    | succ j => simp at h; simpa using Rl_get h2 h
theorem Rl_of : ∀ {cs : List AV} {l : List Value}, l.length = cs.length → (∀ (j : Nat) x v, cs[j]? = some x → l[j]? = some v → R O ι w x v) → Rl O ι w cs l
  | [], l, h, _ => by simp at h; simp [Rl, h]
  | x :: r, [], h, _ => by simp at h
  | x :: r, v :: l, h, hg => by
    simp only [Rl]
    exact ⟨v, l, rfl, hg 0 x v (by simp) (by simp), Rl_of (by simpa using h) fun j y u h1 h2 => hg (j + 1) y u (by simpa using h1) (by simpa using h2)⟩

/-- The cells of a value that may be laid in cells. -/
theorem cells_R {x : AV} {c : Value} (h : R O ι w x c) (ho : okCells x = true) : Rl O ι w x.cells c.cells.toList ∧ ∀ v ∈ c.cells.toList, v.oneCell = true := by
  have one : (∀ cs, c ≠ .agg cs) → (∀ cs, c ≠ .tuple cs) → x.cells = [x] → Rl O ι w x.cells c.cells.toList ∧ ∀ v ∈ c.cells.toList, v.oneCell = true := by
    intro h1 h2 h3
    rw [h3]
    have : c.cells = #[c] := by cases c <;> first | rfl | exact absurd rfl (h1 _)
    rw [this]
    refine ⟨by simp [Rl, h], fun v hv => ?_⟩
    simp at hv; subst hv
    cases v <;> first | rfl | exact absurd rfl (h1 _) | exact absurd rfl (h2 _)
  cases x with
  | agg cs =>
    simp only [R] at h
    obtain ⟨l, rfl, h1, h2⟩ := h
    simpa [AV.cells, Value.cells] using ⟨h1, h2⟩
  | d y =>
    cases y with
    | v z =>
      simp only [R, DR] at h
      subst h
      refine one ?_ ?_ rfl <;> (intro cs hc; subst hc; simp [okCells] at ho)
    | lst s xs =>
      simp only [R, DR] at h
      obtain ⟨a, cap, rfl, _⟩ := h
      exact one (by intro cs hc; cases hc) (by intro cs hc; cases hc) rfl
    | ptr z o =>
      simp only [R, DR] at h
      obtain ⟨k, off, rfl, _⟩ := h
      exact one (by intro cs hc; cases hc) (by intro cs hc; cases hc) rfl
    | fn f caps =>
      simp only [R, DR] at h
      obtain ⟨cs, rfl, _⟩ := h
      exact one (by intro cs hc; cases hc) (by intro cs hc; cases hc) rfl
  | nil s =>
    simp only [R] at h; subst h
    exact one (by intro cs hc; cases hc) (by intro cs hc; cases hc) rfl
  | ex s xs =>
    simp only [R] at h
    obtain ⟨a, rfl, _⟩ := h
    exact one (by intro cs hc; cases hc) (by intro cs hc; cases hc) rfl
  | tup vs => simp [okCells] at ho
  | ref b ver off len =>
    simp only [R] at h
    obtain ⟨e, _, _, _, ⟨a, cap, rfl⟩, _⟩ := h
    exact one (by intro cs hc; cases hc) (by intro cs hc; cases hc) rfl
  | ptr b ver i o =>
    simp only [R] at h
    obtain ⟨e, _, _, _, ⟨a, rfl⟩, _⟩ := h
    exact one (by intro cs hc; cases hc) (by intro cs hc; cases hc) rfl
  | fn f caps =>
    simp only [R] at h
    obtain ⟨cs, rfl, _⟩ := h
    exact one (by intro cs hc; cases hc) (by intro cs hc; cases hc) rfl
  | map b =>
    simp only [R] at h
    obtain ⟨e, k, _, _, _, rfl⟩ := h
    exact one (by intro cs hc; cases hc) (by intro cs hc; cases hc) rfl
  | dead => simp [okCells] at ho
end Go.AI
