/-
  Own work. What stays when objects turn that are neither cells nor maps; what a range over a function leaves to be done at a function's end.
-/
import Derived.Test.YthagcidcihgboaaGreatAiOut
import Derived.RangeFuncLeaves
import Derived.RangeFuncOwn
namespace Go.AI
open Go
set_option linter.unusedVariables false
set_option linter.unusedSimpArgs false

/-- Cells, or a map. -/
def isCM : Obj → Bool
  | .cells .. => true
  | .map .. => true
  | _ => false
/-- Whatever is cells or a map lies as it lay. -/
structure Turn (w w' : World) : Prop where
  size : w.heap.size ≤ w'.heap.size
  heap : ∀ (k : Nat) (o : Obj), w.heap[k]? = some o → isCM o = true → w'.heap[k]? = some o
theorem Turn.refl (w : World) : Turn w w := ⟨Nat.le_refl _, fun _ _ h _ => h⟩
theorem Turn.trans {a b c : World} (h : Turn a b) (k : Turn b c) : Turn a c := ⟨Nat.le_trans h.size k.size, fun i o ho hc => k.heap i o (h.heap i o ho hc) hc⟩
theorem Same.turn {w w' : World} (h : Same w w') : Turn w w' := ⟨h.size, fun k o ho _ => (h.heap k (Array.getElem?_eq_some_iff.1 ho).1).trans ho⟩
theorem Turn.putObj {w : World} {l : Nat} {o : Obj} (o' : Obj) (h : w.heap[l]? = some o) (hc : isCM o = false) : Turn w (w.putObj l o') := by
  refine ⟨by simp [World.putObj], fun k x hx hxc => ?_⟩
  by_cases hk : k = l
  · subst hk; rw [h] at hx; cases hx; rw [hc] at hxc; cases hxc
  · exact (World.putObj_heap_other hk).trans hx
theorem Turn.cell {w w' : World} (h : Turn w w') {a : Addr} {v : Value} (hv : w.cell? a = some v) : w'.cell? a = some v := by
  unfold World.cell? at hv ⊢
  split at hv
  · rename_i c t fz he
    rw [h.heap _ _ he rfl]
    exact hv
  · cases hv
section
variable {im : Nat → Prop} {w w' : World}
mutual
theorem DR.turn (h : Turn w w') : ∀ (x : DV) (c : Value), DR im w x c → DR im w' x c
  | .v x, c, hr => by simpa [DR] using hr
  | .lst s xs, c, hr => by
    simp only [DR] at hr ⊢
    obtain ⟨a, cap, rfl, hl, hr⟩ := hr
    refine ⟨a, cap, rfl, hl, ?_⟩
    rcases hr with hr | ⟨k, off, rfl, hi, hk', hr⟩
    · exact .inl hr
    · exact .inr ⟨k, off, rfl, hi, Nat.lt_of_lt_of_le hk' h.size, DRss.turn h k s xs off hr⟩
  | .ptr x o, c, hr => by
    simp only [DR] at hr ⊢
    obtain ⟨k, off, rfl, hi, hk', hr⟩ := hr
    exact ⟨k, off, rfl, hi, Nat.lt_of_lt_of_le hk' h.size, DRs.turn h k x off hr⟩
  | .fn f caps, c, hr => by
    simp only [DR] at hr ⊢
    obtain ⟨cs, rfl, hr⟩ := hr
    exact ⟨cs, rfl, DRl.turn h caps cs hr⟩
theorem DRs.turn (h : Turn w w') (k : Nat) : ∀ (xs : List DV) (off : Nat), DRs im w k off xs → DRs im w' k off xs
  | [], _, _ => by simp [DRs]
  | x :: r, off, hr => by
    simp only [DRs] at hr ⊢
    obtain ⟨⟨v, hv, ho, h1⟩, h2⟩ := hr
    exact ⟨⟨v, h.cell hv, ho, DR.turn h x v h1⟩, DRs.turn h k r (off + 1) h2⟩
theorem DRss.turn (h : Turn w w') (k s : Nat) : ∀ (xs : List (List DV)) (off : Nat), DRss im w k s off xs → DRss im w' k s off xs
  | [], _, _ => by simp [DRss]
  | x :: r, off, hr => by
    simp only [DRss] at hr ⊢
    exact ⟨hr.1, DRs.turn h k x off hr.2.1, DRss.turn h k s r (off + s) hr.2.2⟩
theorem DRl.turn (h : Turn w w') : ∀ (xs : List DV) (l : List Value), DRl im w xs l → DRl im w' xs l
  | [], l, hr => by simpa [DRl] using hr
  | x :: r, l, hr => by
    simp only [DRl] at hr ⊢
    obtain ⟨v, l', rfl, h1, h2⟩ := hr
    exact ⟨v, l', rfl, DR.turn h x v h1, DRl.turn h r l' h2⟩
end
end
section
variable {O : Nat → Prop} {ι : Inj} {w w' : World}
mutual
theorem R.turn (h : Turn w w') : ∀ (x : AV) (c : Value), R O ι w x c → R O ι w' x c
  | .d x, c, hr => by simp only [R] at hr ⊢; exact DR.turn h x c hr
  | .nil s, c, hr => by simpa [R] using hr
  | .ex s xs, c, hr => by
    simp only [R] at hr ⊢
    obtain ⟨a, rfl, hr⟩ := hr
    refine ⟨a, rfl, ?_⟩
    rcases hr with hr | ⟨k, off, rfl, hi, hk', hr⟩
    · exact .inl hr
    · exact .inr ⟨k, off, rfl, hi, Nat.lt_of_lt_of_le hk' h.size, DRss.turn h k s xs off hr⟩
  | .agg cs, c, hr => by
    simp only [R] at hr ⊢
    obtain ⟨l, rfl, hr, ho⟩ := hr
    exact ⟨l, rfl, Rl.turn h cs l hr, ho⟩
  | .tup vs, c, hr => by
    simp only [R] at hr ⊢
    obtain ⟨l, rfl, hr⟩ := hr
    exact ⟨l, rfl, Rl.turn h vs l hr⟩
  | .ref b ver off len, c, hr => by simpa only [R] using hr
  | .ptr b ver i o, c, hr => by simpa only [R] using hr
  | .fn f caps, c, hr => by
    simp only [R] at hr ⊢
    obtain ⟨cs, rfl, hr⟩ := hr
    exact ⟨cs, rfl, Rl.turn h caps cs hr⟩
  | .map b, c, hr => by simpa only [R] using hr
  | .dead, _, _ => by simp [R]
theorem Rl.turn (h : Turn w w') : ∀ (xs : List AV) (l : List Value), Rl O ι w xs l → Rl O ι w' xs l
  | [], l, hr => by simpa [Rl] using hr
  | x :: r, l, hr => by
    simp only [Rl] at hr ⊢
    obtain ⟨v, l', rfl, h1, h2⟩ := hr
    exact ⟨v, l', rfl, R.turn h x v h1, Rl.turn h r l' h2⟩
end
theorem BR.turn (h : Turn w w') {e : CB} {B : ABlk} (hb : BR O ι w e B) : BR O ι w' e B := by
  cases B with
  | row s ver data =>
    obtain ⟨q1, q2, q3, q4, q5, q6⟩ := hb
    refine ⟨q1, q2, q3, q4, q5, fun k hk' => ?_⟩
    obtain ⟨⟨cs, t, r1, r2⟩, r3, r4⟩ := q6 k hk'
    refine ⟨⟨cs, t, h.heap _ _ r1 rfl, r2⟩, r3, fun i x hx => ?_⟩
    obtain ⟨g1, g2⟩ := r4 i x hx
    refine ⟨g1, fun j y hy => ?_⟩
    obtain ⟨v, v1, v2, v3⟩ := g2 j y hy
    exact ⟨v, h.cell v1, v2, v3.turn h⟩
  | mp es =>
    obtain ⟨q1, k, l, c, q2, q3, q4⟩ := hb
    refine ⟨q1, k, l, c, q2, h.heap _ _ q3 rfl, ?_⟩
    clear q3
    generalize l.toList = l at q4
    induction es generalizing l with
    | nil => simpa [EntR] using q4
    | cons x r ih =>
      simp only [EntR] at q4 ⊢
      obtain ⟨m, l', rfl, a1, a2, a3⟩ := q4
      exact ⟨m, l', rfl, a1.turn h, a2.turn h, ih l' a3⟩
theorem HR.turn {H : Heap} (hH : HR O ι H w) (h : Turn w w') : HR O ι H w' :=
  ⟨fun b e he => let ⟨B, h1, h2⟩ := hH.blk b e he; ⟨B, h1, h2.turn h⟩, hH.inj, hH.dis, fun k hO => Nat.lt_of_lt_of_le (hH.bar k hO) h.size⟩
theorem owned_cm {H : Heap} (hH : HR O ι H w) {k : Nat} (hk : owned ι k) : ∃ o, w.heap[k]? = some o ∧ isCM o = true := by
  obtain ⟨b, e, h1, h2⟩ := hk
  obtain ⟨B, _, hb⟩ := hH.blk b e h1
  cases B with
  | row s ver data =>
    obtain ⟨_, _, _, _, _, q6⟩ := hb
    obtain ⟨⟨cs, t, r1, _⟩, _⟩ := q6 k h2
    exact ⟨_, r1, rfl⟩
  | mp es =>
    obtain ⟨_, k', l, c, q2, q3, _⟩ := hb
    rw [h2] at q2; cases q2
    exact ⟨_, q3, rfl⟩
end
theorem Ex.turn {ι ι' : Inj} {w0 w w' : World} (hx : Ex ι w0 ι' w) (hlt : ∀ b e k, ι b = some e → e.blk = some k → k < w0.heap.size) (h : Turn w w') (h1 : w'.os = w.os) (h2 : w'.tape = w.tape) (h3 : w'.output = w.output)
    (h4 : ∀ k, k < w0.heap.size → w'.heap[k]? = w.heap[k]?) : Ex ι w0 ι' w' where
  os := h1.trans hx.os
  tape := h2.trans hx.tape
  output := h3.trans hx.output
  size := Nat.le_trans hx.size h.size
  keep := fun k hk hi => ⟨(h4 k hk).trans (hx.keep k hk hi).1, (hx.keep k hk hi).2⟩
  old := hx.old
  part := fun b e k he hk => by
    obtain ⟨p1, p2⟩ := hx.part b e k he hk
    refine ⟨p1, fun cs t fz hc => ?_⟩
    obtain ⟨cs', q1, q2⟩ := p2 cs t fz hc
    exact ⟨cs', (h4 k (hlt b e k he hk)).trans q1, q2⟩

/-! ### What is left for a function's end -/
def markOf (D : Nat) : Deferred := { target := .collected D, args := #[] }
def Marks (w0 : World) (ι : Inj) (w : World) : List Deferred → Prop
  | [] => True
  | d :: r => (∃ D, d = markOf D ∧ w0.heap.size ≤ D ∧ w.heap[D]? = some (.deferred (some [])) ∧ ¬ owned ι D ∧ ∀ D', markOf D' ∈ r → D' ≠ D) ∧ Marks w0 ι w r
theorem Marks.mono {w0 w w' : World} {ι ι' : Inj} (h : ∀ k, k < w.heap.size → ¬ owned ι k → w'.heap[k]? = w.heap[k]? ∧ ¬ owned ι' k) : ∀ {ds : List Deferred}, Marks w0 ι w ds → Marks w0 ι' w' ds
  | [], _ => trivial
  | d :: r, ⟨⟨D, h1, h2, h3, h4, h5⟩, h6⟩ => by
    obtain ⟨g1, g2⟩ := h D (Array.getElem?_eq_some_iff.1 h3).1 h4
    exact ⟨⟨D, h1, h2, g1.trans h3, g2, h5⟩, Marks.mono h h6⟩
theorem Marks.ex {w0 w w' : World} {ι ι' : Inj} (hx : Ex ι w ι' w') {ds : List Deferred} (h : Marks w0 ι w ds) : Marks w0 ι' w' ds := h.mono hx.keep
theorem Marks.sub {w0 w : World} {ι ι' : Inj} (hx : ∀ k, owned ι' k → owned ι k) {ds : List Deferred} (h : Marks w0 ι w ds) : Marks w0 ι' w ds := h.mono fun k _ h2 => ⟨rfl, fun h3 => h2 (hx k h3)⟩
theorem Marks.has {w0 w : World} {ι : Inj} : ∀ {ds : List Deferred}, Marks w0 ι w ds → ∀ D, markOf D ∈ ds → w0.heap.size ≤ D ∧ w.heap[D]? = some (.deferred (some [])) ∧ ¬ owned ι D
  | [], _, D, h => by simp at h
  | d :: r, ⟨⟨D', h1, h2, h3, h4, h5⟩, h6⟩, D, h => by
    rcases List.mem_cons.1 h with h | h
    · rw [h1] at h
      have : D = D' := by simpa [markOf] using h
      subst this
      exact ⟨h2, h3, h4⟩
    · exact Marks.has h6 D h
theorem Marks.put {w0 w : World} {ι : Inj} {D : Nat} {o : Obj} : ∀ {ds : List Deferred}, Marks w0 ι w ds → (∀ D', markOf D' ∈ ds → D' ≠ D) → Marks w0 ι (w.putObj D o) ds
  | [], _, _ => trivial
  | d :: r, ⟨⟨D', h1, h2, h3, h4, h5⟩, h6⟩, h => by
    refine ⟨⟨D', h1, h2, ?_, h4, h5⟩, Marks.put h6 fun D2 hD2 => h D2 (List.mem_cons_of_mem _ hD2)⟩
    exact (World.putObj_heap_other (h D' (by rw [h1]; exact List.mem_cons_self ..))).trans h3
/-- A function's end: what is left is done, and nothing turns but that. -/
theorem marks_leave {P : Program} {fn : Func} {O : Nat → Prop} {ι0 ι : Inj} {H : Heap} {w0 : World} {tmps : Array Value} {Rp : Ending → World → Prop}
    (hlt : ∀ b e k, ι0 b = some e → e.blk = some k → k < w0.heap.size) :
    ∀ (ds : List Deferred) (w : World), Marks w0 ι w ds → HR O ι H w → Ex ι0 w0 ι w → (∀ w', HR O ι H w' → Ex ι0 w0 ι w' → Turn w w' → ∃ v, (results fn tmps).run P w' = .ok v w' ∧ Rp (.returned v) w') →
      LeavesInM Fence.wide 0 P fn tmps Rp ds .returning w
  | [], w, _, hH, hx, hK => by
    obtain ⟨v, h1, h2⟩ := hK w hH hx (Turn.refl w)
    simp only [LeavesInM, LeavesIn]
    exact ⟨v, h1, h2⟩
  | d :: r, w, ⟨⟨D, h1, h2, h3, h4, h5⟩, h6⟩, hH, hx, hK => by
    simp only [LeavesInM]
    refine ⟨by simp, .inl ⟨D, _, by rw [h1]; rfl, run_takeDeferred h3, ?_⟩⟩
    have ht : Turn w (w.putObj D (.deferred none)) := Turn.putObj _ h3 rfl
    have hx' : Ex ι0 w0 ι (w.putObj D (.deferred none)) := hx.turn hlt ht rfl rfl rfl fun k hk => World.putObj_heap_other (by omega)
    exact marks_leave hlt r _ (h6.put h5) (hH.turn ht) hx' fun w' g1 g2 g3 => hK w' g1 g2 (ht.trans g3)
end Go.AI
