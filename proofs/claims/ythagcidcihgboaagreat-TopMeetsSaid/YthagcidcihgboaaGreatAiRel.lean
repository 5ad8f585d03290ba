/-
  Own work. How the value interpreter's values and memory stand to the model's: 'DR', 'R', 'HR'; what stays ('Ex').
-/
import Derived.Test.YthagcidcihgboaaGreatAiDef
import Derived.Wp
namespace Go.AI
open Go
set_option linter.unusedVariables false
set_option linter.unusedSimpArgs false

/-- What stands behind a name: a block (none: nothing yet), the first cell, an element's cells, the version, how many elements, how many cells are its own; a map? -/
structure CB where
  blk : Option Nat
  base : Nat
  s : Nat
  ver : Nat
  len : Nat
  cells : Nat
  mp : Bool
abbrev Inj := Nat → Option CB
def owned (ι : Inj) (k : Nat) : Prop := ∃ b e, ι b = some e ∧ e.blk = some k
/-- A block that nobody here writes: not one's own, and not among those that are barred ('O': a caller's own). -/
def imm (O : Nat → Prop) (ι : Inj) (k : Nat) : Prop := ¬ owned ι k ∧ ¬ O k
def iset (ι : Inj) (b : Nat) (x : Option CB) : Inj := fun c => if c = b then x else ι c

/-- A function's value: with what it has captured; from 'bnd' on, with its first arguments. -/
abbrev fnV (f : FuncId) (cs : List Value) : Value := .func (.func (if f < bnd then f else f - bnd)) (if f < bnd then #[] else cs.toArray) (if f < bnd then cs.toArray else #[])
theorem fnV_lt {f : FuncId} (h : f < bnd) (cs : List Value) : fnV f cs = .func (.func f) #[] cs.toArray := by unfold fnV; rw [if_pos h, if_pos h, if_pos h]
theorem fnV_ge {f : FuncId} (h : ¬ f < bnd) (cs : List Value) : fnV f cs = .func (.func (f - bnd)) cs.toArray #[] := by unfold fnV; rw [if_neg h, if_neg h, if_neg h]
mutual
def DR (im : Nat → Prop) (w : World) : DV → Value → Prop
  | .v x, c => c = x
  | .lst s xs, c => ∃ a cap, c = .slice a xs.length cap ∧ xs.length ≤ cap ∧ (xs = [] ∨ ∃ k off, a = some ⟨k, off, none⟩ ∧ im k ∧ k < w.heap.size ∧ DRss im w k s off xs)
  | .ptr x o, c => ∃ k off, c = .pointer (some ⟨k, off + o, none⟩) ∧ im k ∧ k < w.heap.size ∧ DRs im w k off x
  | .fn f caps, c => ∃ cs : List Value, c = fnV f cs ∧ DRl im w caps cs
def DRs (im : Nat → Prop) (w : World) (k : Nat) (off : Nat) : List DV → Prop
  | [] => True
  | x :: r => (∃ v, w.cell? ⟨k, off, none⟩ = some v ∧ v.oneCell = true ∧ DR im w x v) ∧ DRs im w k (off + 1) r
def DRss (im : Nat → Prop) (w : World) (k s : Nat) (off : Nat) : List (List DV) → Prop
  | [] => True
  | x :: r => x.length = s ∧ DRs im w k off x ∧ DRss im w k s (off + s) r
def DRl (im : Nat → Prop) (w : World) : List DV → List Value → Prop
  | [], l => l = []
  | x :: r, l => ∃ v l', l = v :: l' ∧ DR im w x v ∧ DRl im w r l'
end

/-- A slice of one's own. -/
def SliceAt (e : CB) (off len : Nat) (c : Value) : Prop :=
  match e.blk with
  | none => off = 0 ∧ len = 0 ∧ c = .slice none 0 0
  | some k => ∃ a cap, c = .slice a len cap ∧ len ≤ cap ∧ off + len ≤ e.len ∧ e.len ≤ off + cap ∧ (off + cap) * e.s ≤ e.cells ∧ (cap ≠ 0 → a = some ⟨k, e.base + off * e.s, none⟩)
theorem SliceAt.le {e : CB} {off len : Nat} {c : Value} (h : SliceAt e off len c) : off + len ≤ e.len := by
  unfold SliceAt at h
  cases hb : e.blk with
  | none => rw [hb] at h; obtain ⟨h1, h2, _⟩ := h; omega
  | some k => rw [hb] at h; obtain ⟨_, _, _, _, h3, _⟩ := h; exact h3
def PtrAt (e : CB) (i o : Nat) (c : Value) : Prop := ∃ k, e.blk = some k ∧ c = .pointer (some ⟨k, e.base + i * e.s + o, none⟩)

mutual
def R (O : Nat → Prop) (ι : Inj) (w : World) : AV → Value → Prop
  | .d x, c => DR (imm O ι) w x c
  | .nil _, c => c = .slice none 0 0
  | .ex s xs, c => ∃ a, c = .slice a xs.length xs.length ∧ (xs = [] ∨ ∃ k off, a = some ⟨k, off, none⟩ ∧ imm O ι k ∧ k < w.heap.size ∧ DRss (imm O ι) w k s off xs)
  | .agg cs, c => ∃ l : List Value, c = .agg l.toArray ∧ Rl O ι w cs l ∧ ∀ v ∈ l, v.oneCell = true
  | .tup vs, c => ∃ l : List Value, c = .tuple l.toArray ∧ Rl O ι w vs l
  | .ref b ver off len, c => ∃ e, ι b = some e ∧ e.mp = false ∧ ver ≤ e.ver ∧ (∃ a cap, c = .slice a len cap) ∧ (ver = e.ver → SliceAt e off len c)
  | .ptr b ver i o, c => ∃ e, ι b = some e ∧ e.mp = false ∧ ver ≤ e.ver ∧ (∃ a, c = .pointer (some a)) ∧ (ver = e.ver → PtrAt e i o c)
  | .fn f caps, c => ∃ cs : List Value, c = fnV f cs ∧ Rl O ι w caps cs
  | .map b, c => ∃ e k, ι b = some e ∧ e.mp = true ∧ e.blk = some k ∧ c = .map (some k)
  | .dead, _ => True
def Rl (O : Nat → Prop) (ι : Inj) (w : World) : List AV → List Value → Prop
  | [], l => l = []
  | x :: r, l => ∃ v l', l = v :: l' ∧ R O ι w x v ∧ Rl O ι w r l'
end

/-- Elements that lie in a block from a cell on. -/
def RowsAt (O : Nat → Prop) (ι : Inj) (w : World) (k base s : Nat) (data : List (List AV)) : Prop :=
  ∀ i x, data[i]? = some x → x.length = s ∧ ∀ j y, x[j]? = some y → ∃ v, w.cell? ⟨k, base + i * s + j, none⟩ = some v ∧ v.oneCell = true ∧ R O ι w y v
def EntR (O : Nat → Prop) (ι : Inj) (w : World) : List (AV × AV) → List MapEntry → Prop
  | [], l => l = []
  | x :: r, l => ∃ m l', l = m :: l' ∧ R O ι w x.1 m.key ∧ R O ι w x.2 m.val ∧ EntR O ι w r l'
/-- The block's cells, that nobody has frozen. -/
def CellsOf (w : World) (k n : Nat) : Prop := ∃ cs t, w.heap[k]? = some (.cells cs t (0, 0)) ∧ n ≤ cs.size
def BR (O : Nat → Prop) (ι : Inj) (w : World) (e : CB) : ABlk → Prop
  | .row s ver data => e.mp = false ∧ e.s = s ∧ e.ver = ver ∧ e.len = data.length ∧ (e.blk = none → data = []) ∧
      ∀ k, e.blk = some k → CellsOf w k (e.base + e.cells) ∧ e.len * e.s ≤ e.cells ∧ RowsAt O ι w k e.base s data
  | .mp es => e.mp = true ∧ ∃ k l c, e.blk = some k ∧ w.heap[k]? = some (.map l c) ∧ EntR O ι w es l.toList
structure HR (O : Nat → Prop) (ι : Inj) (H : Heap) (w : World) : Prop where
  blk : ∀ b e, ι b = some e → ∃ B, H b = some B ∧ BR O ι w e B
  inj : ∀ b b' e e' k, ι b = some e → ι b' = some e' → e.blk = some k → e'.blk = some k → b = b'
  dis : ∀ k, owned ι k → ¬ O k
  bar : ∀ k, O k → k < w.heap.size

/-- What stays, whatever is done: who is not one's own; names; cells of a block that are not one's own. -/
structure Ex (ι : Inj) (w : World) (ι' : Inj) (w' : World) : Prop where
  os : w'.os = w.os
  tape : w'.tape = w.tape
  output : w'.output = w.output
  size : w.heap.size ≤ w'.heap.size
  keep : ∀ k, k < w.heap.size → ¬ owned ι k → w'.heap[k]? = w.heap[k]? ∧ ¬ owned ι' k
  old : ∀ b e, ι b = some e → ∃ e', ι' b = some e' ∧ e.mp = e'.mp ∧ e.ver ≤ e'.ver ∧ (e.ver = e'.ver ∨ e.mp = true → e' = e)
  part : ∀ b e k, ι b = some e → e.blk = some k → (¬ owned ι' k ∨ ∃ b' e', ι' b' = some e' ∧ e'.blk = some k ∧ e'.base = e.base ∧ e'.cells = e.cells) ∧
    ∀ cs t fz, w.heap[k]? = some (.cells cs t fz) → ∃ cs', w'.heap[k]? = some (.cells cs' t fz) ∧ cs'.size = cs.size ∧ ∀ o, (o < e.base ∨ e.base + e.cells ≤ o) → cs'[o]? = cs[o]?

theorem iset_same (ι : Inj) (b : Nat) (x : Option CB) : iset ι b x b = x := by simp [iset]
theorem iset_ne (ι : Inj) {b c : Nat} (x : Option CB) (h : c ≠ b) : iset ι b x c = ι c := by simp [iset, h]
theorem hset_same (H : Heap) (b : Nat) (x : Option ABlk) : hset H b x b = x := by simp [hset]
theorem hset_ne (H : Heap) {b c : Nat} (x : Option ABlk) (h : c ≠ b) : hset H b x c = H c := by simp [hset, h]

theorem cell_of_heap {w w' : World} {k off : Nat} (h : w'.heap[k]? = w.heap[k]?) : w'.cell? ⟨k, off, none⟩ = w.cell? ⟨k, off, none⟩ := by
  simp [World.cell?, h]
theorem cell_lt {w : World} {a : Addr} {v : Value} (h : w.cell? a = some v) : a.block < w.heap.size := by
  unfold World.cell? at h
  split at h
  · rename_i he; exact (Array.getElem?_eq_some_iff.1 he).1
  · cases h

/-! ### What stays of values -/
section
variable {im im' : Nat → Prop} {w w' : World}
mutual
theorem DR.mono (hs : w.heap.size ≤ w'.heap.size) (hk : ∀ k, k < w.heap.size → im k → w'.heap[k]? = w.heap[k]? ∧ im' k) : ∀ (x : DV) (c : Value), DR im w x c → DR im' w' x c
  | .v x, c, h => by simpa [DR] using h
  | .lst s xs, c, h => by
    simp only [DR] at h ⊢
    obtain ⟨a, cap, rfl, hl, h⟩ := h
    refine ⟨a, cap, rfl, hl, ?_⟩
    rcases h with h | ⟨k, off, rfl, hi, hk', h⟩
    · exact .inl h
    · exact .inr ⟨k, off, rfl, (hk k hk' hi).2, Nat.lt_of_lt_of_le hk' hs, DRss.mono hs hk k s hk' hi xs off h⟩
  | .ptr x o, c, h => by
    simp only [DR] at h ⊢
    obtain ⟨k, off, rfl, hi, hk', h⟩ := h
    exact ⟨k, off, rfl, (hk k hk' hi).2, Nat.lt_of_lt_of_le hk' hs, DRs.mono hs hk k hk' hi x off h⟩
  | .fn f caps, c, h => by
    simp only [DR] at h ⊢
    obtain ⟨cs, rfl, h⟩ := h
    exact ⟨cs, rfl, DRl.mono hs hk caps cs h⟩
theorem DRs.mono (hs : w.heap.size ≤ w'.heap.size) (hk : ∀ k, k < w.heap.size → im k → w'.heap[k]? = w.heap[k]? ∧ im' k) (k : Nat) (hk' : k < w.heap.size) (hi : im k) :
    ∀ (xs : List DV) (off : Nat), DRs im w k off xs → DRs im' w' k off xs
  | [], _, _ => by simp [DRs]
  | x :: r, off, h => by
    simp only [DRs] at h ⊢
    obtain ⟨⟨v, hv, ho, h1⟩, h2⟩ := h
    exact ⟨⟨v, by rw [cell_of_heap (hk k hk' hi).1]; exact hv, ho, DR.mono hs hk x v h1⟩, DRs.mono hs hk k hk' hi r (off + 1) h2⟩
theorem DRss.mono (hs : w.heap.size ≤ w'.heap.size) (hk : ∀ k, k < w.heap.size → im k → w'.heap[k]? = w.heap[k]? ∧ im' k) (k s : Nat) (hk' : k < w.heap.size) (hi : im k) :
    ∀ (xs : List (List DV)) (off : Nat), DRss im w k s off xs → DRss im' w' k s off xs
  | [], _, _ => by simp [DRss]
  | x :: r, off, h => by
    simp only [DRss] at h ⊢
    exact ⟨h.1, DRs.mono hs hk k hk' hi x off h.2.1, DRss.mono hs hk k s hk' hi r (off + s) h.2.2⟩
theorem DRl.mono (hs : w.heap.size ≤ w'.heap.size) (hk : ∀ k, k < w.heap.size → im k → w'.heap[k]? = w.heap[k]? ∧ im' k) : ∀ (xs : List DV) (l : List Value), DRl im w xs l → DRl im' w' xs l
  | [], l, h => by simpa [DRl] using h
  | x :: r, l, h => by
    simp only [DRl] at h ⊢
    obtain ⟨v, l', rfl, h1, h2⟩ := h
    exact ⟨v, l', rfl, DR.mono hs hk x v h1, DRl.mono hs hk r l' h2⟩
end
end

section
variable {O : Nat → Prop} {ι ι' : Inj} {w w' : World}
theorem Ex.imms (h : Ex ι w ι' w') (O : Nat → Prop) : ∀ k, k < w.heap.size → imm O ι k → w'.heap[k]? = w.heap[k]? ∧ imm O ι' k :=
  fun k hk hi => ⟨(h.keep k hk hi.1).1, (h.keep k hk hi.1).2, hi.2⟩
mutual
theorem R.mono (h : Ex ι w ι' w') : ∀ (x : AV) (c : Value), R O ι w x c → R O ι' w' x c
  | .d x, c, hr => by simp only [R] at hr ⊢; exact DR.mono h.size (h.imms O) x c hr
  | .nil s, c, hr => by simpa [R] using hr
  | .ex s xs, c, hr => by
    simp only [R] at hr ⊢
    obtain ⟨a, rfl, hr⟩ := hr
    refine ⟨a, rfl, ?_⟩
    rcases hr with hr | ⟨k, off, rfl, hi, hk', hr⟩
    · exact .inl hr
    · exact .inr ⟨k, off, rfl, (h.imms O k hk' hi).2, Nat.lt_of_lt_of_le hk' h.size, DRss.mono h.size (h.imms O) k s hk' hi xs off hr⟩
  | .agg cs, c, hr => by
    simp only [R] at hr ⊢
    obtain ⟨l, rfl, hr, ho⟩ := hr
    exact ⟨l, rfl, Rl.mono h cs l hr, ho⟩
  | .tup vs, c, hr => by
    simp only [R] at hr ⊢
    obtain ⟨l, rfl, hr⟩ := hr
    exact ⟨l, rfl, Rl.mono h vs l hr⟩
  | .ref b ver off len, c, hr => by
    simp only [R] at hr ⊢
    obtain ⟨e, he, hm, hv, hc, hr⟩ := hr
    obtain ⟨e', he', hm', hv', hsame⟩ := h.old b e he
    refine ⟨e', he', by rw [← hm']; exact hm, Nat.le_trans hv hv', hc, fun hq => ?_⟩
    have : e' = e := hsame (.inl (by omega))
    subst this
    exact hr hq
  | .ptr b ver i o, c, hr => by
    simp only [R] at hr ⊢
    obtain ⟨e, he, hm, hv, hc, hr⟩ := hr
    obtain ⟨e', he', hm', hv', hsame⟩ := h.old b e he
    refine ⟨e', he', by rw [← hm']; exact hm, Nat.le_trans hv hv', hc, fun hq => ?_⟩
    have : e' = e := hsame (.inl (by omega))
    subst this
    exact hr hq
  | .fn f caps, c, hr => by
    simp only [R] at hr ⊢
    obtain ⟨cs, rfl, hr⟩ := hr
    exact ⟨cs, rfl, Rl.mono h caps cs hr⟩
  | .map b, c, hr => by
    simp only [R] at hr ⊢
    obtain ⟨e, k, he, hm, hk, rfl⟩ := hr
    obtain ⟨e', he', hm', hv', hsame⟩ := h.old b e he
    have : e' = e := hsame (.inr hm)
    subst this
    exact ⟨e', k, he', hm, hk, rfl⟩
  | .dead, _, _ => by simp [R]
theorem Rl.mono (h : Ex ι w ι' w') : ∀ (xs : List AV) (l : List Value), Rl O ι w xs l → Rl O ι' w' xs l
  | [], l, hr => by simpa [Rl] using hr
  | x :: r, l, hr => by
    simp only [Rl] at hr ⊢
    obtain ⟨v, l', rfl, h1, h2⟩ := hr
    exact ⟨v, l', rfl, R.mono h x v h1, Rl.mono h r l' h2⟩
end
end

theorem Ex.refl (ι : Inj) (w : World) : Ex ι w ι w where
  os := rfl
  tape := rfl
  output := rfl
  size := Nat.le_refl _
  keep := fun _ _ h => ⟨rfl, h⟩
  old := fun b e h => ⟨e, h, rfl, Nat.le_refl _, fun _ => rfl⟩
  part := fun b e k h hk => ⟨.inr ⟨b, e, h, hk, rfl, rfl⟩, fun cs _ _ h => ⟨cs, h, rfl, fun _ _ => rfl⟩⟩

theorem Ex.trans {ι ι' ι'' : Inj} {w w' w'' : World} (hw : ∀ b e k, ι b = some e → e.blk = some k → k < w.heap.size) (h : Ex ι w ι' w') (h' : Ex ι' w' ι'' w'') : Ex ι w ι'' w'' where
  os := h'.os.trans h.os
  tape := h'.tape.trans h.tape
  output := h'.output.trans h.output
  size := Nat.le_trans h.size h'.size
  keep := fun k hk hi => by
    obtain ⟨h1, h2⟩ := h.keep k hk hi
    obtain ⟨h3, h4⟩ := h'.keep k (Nat.lt_of_lt_of_le hk h.size) h2
    exact ⟨h3.trans h1, h4⟩
  old := fun b e he => by
    obtain ⟨e', he', h1, h2, h3⟩ := h.old b e he
    obtain ⟨e'', he'', h4, h5, h6⟩ := h'.old b e' he'
    refine ⟨e'', he'', h1.trans h4, Nat.le_trans h2 h5, fun hq => ?_⟩
    have e1 : e' = e := h3 (hq.imp (fun hq => by omega) id)
    subst e1
    exact h6 hq
  part := fun b e k he hk => by
    obtain ⟨h1, h2⟩ := h.part b e k he hk
    rcases h1 with hi | ⟨b', e', he', hk', hb, hc⟩
    · obtain ⟨h3, h4⟩ := h'.keep k (Nat.lt_of_lt_of_le (hw b e k he hk) h.size) hi
      refine ⟨.inl h4, fun cs t fz hcs => ?_⟩
      obtain ⟨cs', g1, g2, g3⟩ := h2 cs t fz hcs
      exact ⟨cs', h3.trans g1, g2, g3⟩
    · obtain ⟨h3, h4⟩ := h'.part b' e' k he' hk'
      refine ⟨?_, fun cs t fz hcs => ?_⟩
      · rcases h3 with h3 | ⟨b2, e2, q1, q2, q3, q4⟩
        · exact .inl h3
        · exact .inr ⟨b2, e2, q1, q2, q3.trans hb, q4.trans hc⟩
      · obtain ⟨cs', g1, g2, g3⟩ := h2 cs t fz hcs
        obtain ⟨cs2, g4, g5, g6⟩ := h4 cs' t fz g1
        exact ⟨cs2, g4, g5.trans g2, fun o ho => (g6 o (by rw [hb, hc]; exact ho)).trans (g3 o ho)⟩

theorem BR.lt {O : Nat → Prop} {ι : Inj} {w : World} {e : CB} {B : ABlk} {k : Nat} (h : BR O ι w e B) (hk : e.blk = some k) : k < w.heap.size := by
  cases B with
  | row s ver data =>
    obtain ⟨_, _, _, _, _, h⟩ := h
    obtain ⟨⟨cs, t, hc, _⟩, _⟩ := h k hk
    exact (Array.getElem?_eq_some_iff.1 hc).1
  | mp es =>
    obtain ⟨_, k', l, c, hk', hc, _⟩ := h
    rw [hk] at hk'; cases hk'
    exact (Array.getElem?_eq_some_iff.1 hc).1
theorem HR.lt {O : Nat → Prop} {ι : Inj} {H : Heap} {w : World} (h : HR O ι H w) : ∀ b e k, ι b = some e → e.blk = some k → k < w.heap.size :=
  fun b e _ he hk => let ⟨_, _, hb⟩ := h.blk b e he; hb.lt hk

/-- Names from a number on are forgotten. -/
def icut (p : Nat → Bool) (ι : Inj) : Inj := fun b => if p b then none else ι b
theorem icut_some {p : Nat → Bool} {ι : Inj} {b : Nat} {e : CB} (h : icut p ι b = some e) : p b = false ∧ ι b = some e := by
  unfold icut at h
  cases hp : p b <;> simp [hp] at h
  exact ⟨rfl, h⟩
theorem imm_icut {p : Nat → Bool} {ι : Inj} {k : Nat} (h : ¬ owned ι k) : ¬ owned (icut p ι) k := fun ⟨b, e, he, hk⟩ => h ⟨b, e, (icut_some he).2, hk⟩
theorem Ex.cut {ι ι' : Inj} {w w' : World} {p : Nat → Bool} (h : Ex ι w ι' w') (hp : ∀ b e, ι b = some e → p b = false)
    (hinj : ∀ b b' e e' k, ι' b = some e → ι' b' = some e' → e.blk = some k → e'.blk = some k → b = b') : Ex ι w (icut p ι') w' where
  os := h.os
  tape := h.tape
  output := h.output
  size := h.size
  keep := fun k hk hi => ⟨(h.keep k hk hi).1, imm_icut (h.keep k hk hi).2⟩
  old := fun b e he => by
    obtain ⟨e', he', h1⟩ := h.old b e he
    exact ⟨e', by simp [icut, hp b e he, he'], h1⟩
  part := fun b e k he hk => by
    obtain ⟨h1, h2⟩ := h.part b e k he hk
    refine ⟨?_, h2⟩
    rcases h1 with h1 | ⟨b', e', q1, q2, q3⟩
    · exact .inl (imm_icut h1)
    · cases hpb : p b' with
      | false => exact .inr ⟨b', e', by simp [icut, hpb, q1], q2, q3⟩
      | true =>
        refine .inl fun ⟨b2, e2, g1, g2⟩ => ?_
        obtain ⟨g3, g4⟩ := icut_some g1
        have := hinj b2 b' e2 e' k g4 q1 g2 q2
        subst this
        rw [hpb] at g3; cases g3

/-! ### Lists -/
theorem mapO_some {α β : Type} {f : α → Option β} : ∀ {l : List α} {r : List β}, mapO f l = some r → r.length = l.length ∧ ∀ (i : Nat) (x : α), l[i]? = some x → ∃ y : β, r[i]? = some y ∧ f x = some y
  | [], r, h => by simp [mapO] at h; subst h; simp
  | a :: l, r, h => by
    simp only [mapO] at h
    cases hf : f a with
    | none => simp [hf] at h
    | some b =>
      cases hl : mapO f l with
      | none => simp [hf, hl] at h
      | some t =>
        simp [hf, hl] at h
        subst h
        obtain ⟨h1, h2⟩ := mapO_some hl
        refine ⟨by simp [h1], fun i x hx => ?_⟩
        cases i with
        | zero => simp at hx; subst hx; exact ⟨b, by simp, hf⟩
        | succ i => simp at hx; simpa using h2 i x hx
theorem DRs_iff {im : Nat → Prop} {w : World} {k : Nat} : ∀ {xs : List DV} {off : Nat}, DRs im w k off xs ↔ ∀ j x, xs[j]? = some x → ∃ v, w.cell? ⟨k, off + j, none⟩ = some v ∧ v.oneCell = true ∧ DR im w x v
  | [], off => by simp [DRs]
  | x :: r, off => by
    simp only [DRs]
    rw [DRs_iff (xs := r)]
    constructor
    · rintro ⟨h1, h2⟩ j y hy
      cases j with
      | zero => simp at hy; subst hy; simpa using h1
      | succ j =>
        simp at hy
        obtain ⟨v, hv, h⟩ := h2 j y hy
        exact ⟨v, by rw [show off + (j + 1) = off + 1 + j from by omega]; exact hv, h⟩
    · intro h
      refine ⟨by simpa using h 0 x (by simp), fun j y hy => ?_⟩
      obtain ⟨v, hv, h⟩ := h (j + 1) y (by simpa using hy)
      exact ⟨v, by rw [show off + 1 + j = off + (j + 1) from by omega]; exact hv, h⟩
theorem DRss_iff {im : Nat → Prop} {w : World} {k s : Nat} : ∀ {xs : List (List DV)} {off : Nat}, DRss im w k s off xs ↔ ∀ i x, xs[i]? = some x → x.length = s ∧ DRs im w k (off + i * s) x
  | [], off => by simp [DRss]
  | x :: r, off => by
    simp only [DRss]
    rw [DRss_iff (xs := r)]
    constructor
    · rintro ⟨h0, h1, h2⟩ j y hy
      cases j with
      | zero => simp at hy; subst hy; exact ⟨h0, by simpa using h1⟩
      | succ j =>
        simp at hy
        obtain ⟨g1, g2⟩ := h2 j y hy
        exact ⟨g1, by rw [show off + (j + 1) * s = off + s + j * s from by rw [Nat.succ_mul]; omega]; exact g2⟩
    · intro h
      have h0 := h 0 x (by simp)
      refine ⟨h0.1, by simpa using h0.2, fun j y hy => ?_⟩
      obtain ⟨g1, g2⟩ := h (j + 1) y (by simpa using hy)
      exact ⟨g1, by rw [show off + s + j * s = off + (j + 1) * s from by rw [Nat.succ_mul]; omega]; exact g2⟩

/-! ### Freezing -/
section
variable {O : Nat → Prop} {ι : Inj} {H : Heap} {w : World} {p : Nat → Bool}
/-- Blocks that p takes: all of them may be thought of as nobody's. ('im': whatever holds of blocks that are nobody's, and of those.) -/
theorem toD_R (hH : HR O ι H w) (im : Nat → Prop) (h1 : ∀ k, k < w.heap.size → imm O ι k → im k) (h2 : ∀ b e k, p b = true → e.mp = false → ι b = some e → e.blk = some k → im k) :
    ∀ (n : Nat) (v : AV) (x : DV) (c : Value), toD p H n v = some x → R O ι w v c → DR im w x c := by
  have hm : ∀ k, k < w.heap.size → imm O ι k → w.heap[k]? = w.heap[k]? ∧ im k := fun k hk hi => ⟨rfl, h1 k hk hi⟩
  intro n
  induction n with
  | zero => intro v x c h; simp [toD] at h
  | succ n ih =>
    intro v x c h hr
    cases v with
    | d y =>
      simp [toD] at h; subst h
      simp only [R] at hr
      exact DR.mono (Nat.le_refl _) hm y c hr
    | nil s =>
      simp [toD] at h; subst h
      simp only [R] at hr; subst hr
      simp [DR]
    | ex s xs =>
      simp [toD] at h; subst h
      simp only [R] at hr
      obtain ⟨a, rfl, hr⟩ := hr
      simp only [DR]
      refine ⟨a, _, rfl, Nat.le_refl _, ?_⟩
      rcases hr with hr | ⟨k, off, rfl, hi, hk', hr⟩
      · exact .inl hr
      · exact .inr ⟨k, off, rfl, h1 k hk' hi, hk', DRss.mono (Nat.le_refl _) hm k s hk' hi xs off hr⟩
    | ref b ver off len =>
      simp only [toD] at h
      cases hp : p b with
      | false => simp [hp] at h
      | true =>
      simp only [hp, if_true] at h
      simp only [R] at hr
      obtain ⟨e, he, hmp, hv, ⟨a0, cap0, hc0⟩, hr⟩ := hr
      obtain ⟨B, hB, hbr⟩ := hH.blk b e he
      rw [hB] at h
      cases B with
      | mp es => simp at h
      | row s ver' data =>
        simp only at h
        obtain ⟨_, hs, hver, hlen, hnil, hrow⟩ := hbr
        split at h
        · rename_i hvv
          cases hmo : mapO (fun r => mapO (toD p H n) r) ((data.drop off).take len) with
          | none => simp [hmo] at h
          | some xs =>
            simp [hmo] at h; subst h
            have hsl := hr (by omega)
            have hol : off + len ≤ data.length := by rw [← hlen]; exact hsl.le
            obtain ⟨hxl, hxs⟩ := mapO_some hmo
            have hxl' : xs.length = len := by rw [hxl]; simp; omega
            simp only [DR]
            unfold SliceAt at hsl
            cases hbk : e.blk with
            | none =>
              rw [hbk] at hsl
              obtain ⟨rfl, rfl, rfl⟩ := hsl
              exact ⟨none, 0, by rw [hxl'], by omega, .inl (List.eq_nil_of_length_eq_zero hxl')⟩
            | some k =>
              rw [hbk] at hsl
              obtain ⟨a, cap, rfl, hcap, h3, h4, h5, h6⟩ := hsl
              refine ⟨a, cap, by rw [hxl'], by omega, ?_⟩
              by_cases hz : xs = []
              · exact .inl hz
              · have hpos : 0 < len := by
                  rw [← hxl']; exact List.length_pos_iff.2 hz
                have ha := h6 (by omega)
                subst ha
                refine .inr ⟨k, _, rfl, h2 b e k hp hmp he hbk, (hrow k hbk).1.elim fun cs ⟨t, hc, _⟩ => (Array.getElem?_eq_some_iff.1 hc).1, ?_⟩
                rw [DRss_iff]
                intro i x hx
                have hil : i < len := by rw [← hxl']; exact (List.getElem?_eq_some_iff.1 hx).1
                have hd : (data.drop off)[i]? = data[off + i]? := by simp
                obtain ⟨r, hr0⟩ : ∃ r, data[off + i]? = some r := ⟨_, List.getElem?_eq_getElem (by omega)⟩
                obtain ⟨y, hy1, hy2⟩ := hxs i r (by rw [List.getElem?_take, if_pos hil, hd]; exact hr0)
                rw [hx] at hy1; cases hy1
                obtain ⟨g1, g2⟩ := mapO_some hy2
                obtain ⟨g3, g4⟩ := (hrow k hbk).2.2 (off + i) r hr0
                refine ⟨by rw [g1, g3], ?_⟩
                rw [DRs_iff]
                intro j z hz
                obtain ⟨q, hq⟩ : ∃ q, r[j]? = some q := by
                  have : j < x.length := (List.getElem?_eq_some_iff.1 hz).1
                  exact ⟨_, List.getElem?_eq_getElem (by omega)⟩
                obtain ⟨z', hz1, hz2⟩ := g2 j q hq
                rw [hz] at hz1; cases hz1
                obtain ⟨v, hv1, hv2, hv3⟩ := g4 j q hq
                refine ⟨v, ?_, hv2, ih q z v hz2 hv3⟩
                rw [← hv1, hs, show e.base + off * s + i * s + j = e.base + (off + i) * s + j from by rw [Nat.add_mul]; omega]
        · cases h
    | ptr b ver i o =>
      simp only [toD] at h
      cases hp : p b with
      | false => simp [hp] at h
      | true =>
      simp only [hp, if_true] at h
      simp only [R] at hr
      obtain ⟨e, he, hmp, hv, ⟨a0, hc0⟩, hr⟩ := hr
      obtain ⟨B, hB, hbr⟩ := hH.blk b e he
      rw [hB] at h
      cases B with
      | mp es => simp at h
      | row s ver' data =>
        simp only at h
        obtain ⟨_, hs, hver, hlen, hnil, hrow⟩ := hbr
        split at h
        · rename_i hvv
          cases hd : data[i]? with
          | none => simp [hd] at h
          | some r =>
            simp only [hd] at h
            cases hmo : mapO (toD p H n) r with
            | none => simp [hmo] at h
            | some xs =>
              simp [hmo] at h; subst h
              obtain ⟨k, hbk, rfl⟩ := hr (by omega)
              obtain ⟨g1, g2⟩ := mapO_some hmo
              obtain ⟨g3, g4⟩ := (hrow k hbk).2.2 i r hd
              simp only [DR]
              refine ⟨k, e.base + i * e.s, rfl, h2 b e k hp hmp he hbk, (hrow k hbk).1.elim fun cs ⟨t, hc, _⟩ => (Array.getElem?_eq_some_iff.1 hc).1, ?_⟩
              rw [DRs_iff]
              intro j z hz
              obtain ⟨q, hq⟩ : ∃ q, r[j]? = some q := by
                have : j < xs.length := (List.getElem?_eq_some_iff.1 hz).1
                exact ⟨_, List.getElem?_eq_getElem (by omega)⟩
              obtain ⟨z', hz1, hz2⟩ := g2 j q hq
              rw [hz] at hz1; cases hz1
              obtain ⟨v, hv1, hv2, hv3⟩ := g4 j q hq
              exact ⟨v, by rw [← hv1, hs], hv2, ih q z v hz2 hv3⟩
        · cases h
    | fn f caps =>
      simp only [toD] at h
      cases hmo : mapO (toD p H n) caps with
      | none => simp [hmo] at h
      | some l =>
        simp [hmo] at h; subst h
        simp only [R] at hr
        obtain ⟨cs, rfl, hr⟩ := hr
        simp only [DR]
        refine ⟨cs, rfl, ?_⟩

        revert hr hmo
        induction caps generalizing l cs with
        | nil => intro hmo hr; simp [mapO] at hmo; subst hmo; simpa [Rl, DRl] using hr
        | cons a r ihr =>
          intro hmo hr
          simp only [mapO] at hmo
          cases ha : toD p H n a with
          | none => simp [ha] at hmo
          | some b =>
            cases hl : mapO (toD p H n) r with
            | none => simp [ha, hl] at hmo
            | some t =>
              simp [ha, hl] at hmo; subst hmo
              simp only [Rl] at hr
              obtain ⟨v, l', rfl, q1, q2⟩ := hr
              simp only [DRl]
              exact ⟨v, l', rfl, ih a b v ha q1, ihr t l' hl q2⟩
    | agg cs => simp [toD] at h
    | tup vs => simp [toD] at h
    | map b => simp [toD] at h
    | dead => simp [toD] at h

section
variable {ι' : Inj}
mutual
theorem frzV_R (hH : HR O ι H w) (hn : ∀ b e, p b = false → ι b = some e → ι' b = some e) (h1 : ∀ k, k < w.heap.size → imm O ι k → imm O ι' k)
    (h2 : ∀ b e k, p b = true → e.mp = false → ι b = some e → e.blk = some k → imm O ι' k) : ∀ (n : Nat) (v : AV) (c : Value), R O ι w v c → R O ι' w (frzV p H n v) c
  | 0, v, c, _ => by simp [frzV, R]
  | n + 1, .d x, c, h => by
    simp only [frzV, R] at h ⊢
    exact DR.mono (Nat.le_refl _) (fun k hk hi => ⟨rfl, h1 k hk hi⟩) x c h
  | n + 1, .nil s, c, h => by simpa [frzV, R] using h
  | n + 1, .ex s xs, c, h => by
    simp only [frzV, R] at h ⊢
    obtain ⟨a, rfl, h⟩ := h
    refine ⟨a, rfl, ?_⟩
    rcases h with h | ⟨k, off, rfl, hi, hk', h⟩
    · exact .inl h
    · exact .inr ⟨k, off, rfl, h1 k hk' hi, hk', DRss.mono (Nat.le_refl _) (fun k hk hi => ⟨rfl, h1 k hk hi⟩) k s hk' hi xs off h⟩
  | n + 1, .agg cs, c, h => by
    simp only [frzV, R] at h ⊢
    obtain ⟨l, rfl, h, ho⟩ := h
    exact ⟨l, rfl, frzVs_R hH hn h1 h2 n cs l h, ho⟩
  | n + 1, .tup vs, c, h => by
    simp only [frzV, R] at h ⊢
    obtain ⟨l, rfl, h⟩ := h
    exact ⟨l, rfl, frzVs_R hH hn h1 h2 n vs l h⟩
  | n + 1, .fn f caps, c, h => by
    simp only [frzV, R] at h ⊢
    obtain ⟨l, rfl, h⟩ := h
    exact ⟨l, rfl, frzVs_R hH hn h1 h2 n caps l h⟩
  | n + 1, .ref b ver off len, c, h => by
    simp only [frzV]
    cases hp : p b with
    | false =>
      simp only [Bool.false_eq_true, if_false]
      simp only [R] at h ⊢
      obtain ⟨e, he, h⟩ := h
      exact ⟨e, hn b e hp he, h⟩
    | true =>
      simp only [if_true]
      cases ht : toD p H 4 (.ref b ver off len) with
      | none => simp [R]
      | some x =>
        simp only [R]
        exact toD_R hH _ h1 h2 4 _ x c ht h
  | n + 1, .ptr b ver i o, c, h => by
    simp only [frzV]
    cases hp : p b with
    | false =>
      simp only [Bool.false_eq_true, if_false]
      simp only [R] at h ⊢
      obtain ⟨e, he, h⟩ := h
      exact ⟨e, hn b e hp he, h⟩
    | true =>
      simp only [if_true]
      cases ht : toD p H 4 (.ptr b ver i o) with
      | none => simp [R]
      | some x =>
        simp only [R]
        exact toD_R hH _ h1 h2 4 _ x c ht h
  | n + 1, .map b, c, h => by
    simp only [frzV]
    cases hp : p b with
    | false =>
      simp only [Bool.false_eq_true, if_false]
      simp only [R] at h ⊢
      obtain ⟨e, k, he, h⟩ := h
      exact ⟨e, k, hn b e hp he, h⟩
    | true => simp [R]
  | n + 1, .dead, c, _ => by simp [frzV, R]
theorem frzVs_R (hH : HR O ι H w) (hn : ∀ b e, p b = false → ι b = some e → ι' b = some e) (h1 : ∀ k, k < w.heap.size → imm O ι k → imm O ι' k)
    (h2 : ∀ b e k, p b = true → e.mp = false → ι b = some e → e.blk = some k → imm O ι' k) : ∀ (n : Nat) (vs : List AV) (l : List Value), Rl O ι w vs l → Rl O ι' w (vs.map (frzV p H n)) l
  | n, [], l, h => by simpa [Rl] using h
  | n, x :: r, l, h => by
    simp only [List.map_cons, Rl] at h ⊢
    obtain ⟨v, l', rfl, q1, q2⟩ := h
    exact ⟨v, l', rfl, frzV_R hH hn h1 h2 n x v q1, frzVs_R hH hn h1 h2 n r l' q2⟩
end
theorem RowsAt.frz (hH : HR O ι H w) (hn : ∀ b e, p b = false → ι b = some e → ι' b = some e) (h1 : ∀ k, k < w.heap.size → imm O ι k → imm O ι' k)
    (h2 : ∀ b e k, p b = true → e.mp = false → ι b = some e → e.blk = some k → imm O ι' k) {k base s : Nat} {data : List (List AV)} (h : RowsAt O ι w k base s data) :
    RowsAt O ι' w k base s (data.map fun r => r.map (frzV p H 4)) := by
  intro i x hx
  rw [List.getElem?_map] at hx
  cases hd : data[i]? with
  | none => simp [hd] at hx
  | some r =>
    simp [hd] at hx; subst hx
    obtain ⟨g1, g2⟩ := h i r hd
    refine ⟨by simpa using g1, fun j y hy => ?_⟩
    rw [List.getElem?_map] at hy
    cases hr : r[j]? with
    | none => simp [hr] at hy
    | some z =>
      simp [hr] at hy; subst hy
      obtain ⟨v, q1, q2, q3⟩ := g2 j z hr
      exact ⟨v, q1, q2, frzV_R hH hn h1 h2 4 z v q3⟩
theorem EntR.frz (hH : HR O ι H w) (hn : ∀ b e, p b = false → ι b = some e → ι' b = some e) (h1 : ∀ k, k < w.heap.size → imm O ι k → imm O ι' k)
    (h2 : ∀ b e k, p b = true → e.mp = false → ι b = some e → e.blk = some k → imm O ι' k) : ∀ (es : List (AV × AV)) (l : List MapEntry), EntR O ι w es l →
    EntR O ι' w (es.map fun e => (frzV p H 4 e.1, frzV p H 4 e.2)) l
  | [], l, h => by simpa [EntR] using h
  | x :: r, l, h => by
    simp only [List.map_cons, EntR] at h ⊢
    obtain ⟨m, l', rfl, q1, q2, q3⟩ := h
    exact ⟨m, l', rfl, frzV_R hH hn h1 h2 4 _ _ q1, frzV_R hH hn h1 h2 4 _ _ q2, EntR.frz hH hn h1 h2 r l' q3⟩
theorem BR.frz (hH : HR O ι H w) (hn : ∀ b e, p b = false → ι b = some e → ι' b = some e) (h1 : ∀ k, k < w.heap.size → imm O ι k → imm O ι' k)
    (h2 : ∀ b e k, p b = true → e.mp = false → ι b = some e → e.blk = some k → imm O ι' k) {e : CB} {B : ABlk} (h : BR O ι w e B) : BR O ι' w e (frzB p H B) := by
  cases B with
  | row s ver data =>
    obtain ⟨q1, q2, q3, q4, q5, q6⟩ := h
    refine ⟨q1, q2, q3, by simpa using q4, fun hb => by simp [q5 hb], fun k hk => ?_⟩
    obtain ⟨r1, r2, r3⟩ := q6 k hk
    exact ⟨r1, r2, r3.frz hH hn h1 h2⟩
  | mp es =>
    obtain ⟨q1, k, l, c, q2, q3, q4⟩ := h
    exact ⟨q1, k, l, c, q2, q3, EntR.frz hH hn h1 h2 es _ q4⟩
end

/-- Names are forgotten. -/
theorem HR.cut (hH : HR O ι H w) : HR O (icut p ι) (frzH p H) w where
  blk := fun b e he => by
    obtain ⟨hp, he⟩ := icut_some he
    obtain ⟨B, hB, hb⟩ := hH.blk b e he
    refine ⟨frzB p H B, by simp [frzH, hp, hB], hb.frz hH ?_ ?_ ?_⟩
    · intro b e hp he; simp [icut, hp, he]
    · exact fun k _ hi => ⟨imm_icut hi.1, hi.2⟩
    · intro b e k hp _ he hk
      refine ⟨fun ⟨b2, e2, g1, g2⟩ => ?_, hH.dis k ⟨b, e, he, hk⟩⟩
      obtain ⟨g3, g4⟩ := icut_some g1
      have := hH.inj b2 b e2 e k g4 he g2 hk
      subst this; rw [hp] at g3; cases g3
  inj := fun b b' e e' k h h' hk hk' => hH.inj b b' e e' k (icut_some h).2 (icut_some h').2 hk hk'
  dis := fun k ⟨b, e, h, hk⟩ => hH.dis k ⟨b, e, (icut_some h).2, hk⟩
  bar := hH.bar
theorem R.cut (hH : HR O ι H w) {v : AV} {c : Value} (h : R O ι w v c) : R O (icut p ι) w (frzV p H 4 v) c := by
  refine frzV_R hH ?_ ?_ ?_ 4 v c h
  · intro b e hp he; simp [icut, hp, he]
  · exact fun k _ hi => ⟨imm_icut hi.1, hi.2⟩
  · intro b e k hp _ he hk
    refine ⟨fun ⟨b2, e2, g1, g2⟩ => ?_, hH.dis k ⟨b, e, he, hk⟩⟩
    obtain ⟨g3, g4⟩ := icut_some g1
    have := hH.inj b2 b e2 e k g4 he g2 hk
    subst this; rw [hp] at g3; cases g3

/-- Rows whose names go stale. -/
def ikill (p : Nat → Bool) (ι : Inj) : Inj := fun b => match ι b with
  | some e => if p b = true ∧ e.mp = false then some { e with blk := none, ver := e.ver + 1, len := 0 } else some e
  | none => none
theorem ikill_none {p : Nat → Bool} {ι : Inj} {b : Nat} : ikill p ι b = none ↔ ι b = none := by
  unfold ikill
  cases h : ι b with
  | none => simp
  | some e => simp; split <;> simp
theorem ikill_blk {p : Nat → Bool} {ι : Inj} {b : Nat} {e : CB} {k : Nat} (h : ikill p ι b = some e) (hk : e.blk = some k) : ι b = some e ∧ (p b = false ∨ e.mp = true) := by
  unfold ikill at h
  cases hb : ι b with
  | none => simp [hb] at h
  | some e0 =>
    simp only [hb] at h
    split at h
    · cases h; cases hk
    · rename_i hn
      cases h
      refine ⟨rfl, ?_⟩
      cases hp : p b
      · exact .inl rfl
      · cases hm : e.mp
        · exact absurd ⟨hp, hm⟩ hn
        · exact .inr rfl
theorem owned_ikill {p : Nat → Bool} {ι : Inj} {k : Nat} (h : owned (ikill p ι) k) : owned ι k := by
  obtain ⟨b, e, he, hk⟩ := h
  exact ⟨b, e, (ikill_blk he hk).1, hk⟩
theorem ikill_keep {p : Nat → Bool} {ι : Inj} {b : Nat} {e : CB} (hp : p b = false ∨ e.mp = true) (h : ι b = some e) : ikill p ι b = some e := by
  unfold ikill
  rw [h]
  simp only
  rw [if_neg (fun ⟨h1, h2⟩ => by rcases hp with hp | hp <;> simp_all)]
theorem Ex.kill (hH : HR O ι H w) (p : Nat → Bool) : Ex ι w (ikill p ι) w where
  os := rfl
  tape := rfl
  output := rfl
  size := Nat.le_refl _
  keep := fun k _ hi => ⟨rfl, fun ho => hi (owned_ikill ho)⟩
  old := fun b e he => by
    by_cases hc : p b = true ∧ e.mp = false
    · refine ⟨{ e with blk := none, ver := e.ver + 1, len := 0 }, by simp [ikill, he, hc], rfl, by simp, fun hq => ?_⟩
      rcases hq with hq | hq
      · simp at hq
      · rw [hc.2] at hq; cases hq
    · exact ⟨e, by simp [ikill, he]; exact fun h1 h2 => absurd ⟨h1, h2⟩ hc, rfl, Nat.le_refl _, fun _ => rfl⟩
  part := fun b e k he hk => by
    refine ⟨?_, fun cs t fz hc => ⟨cs, hc, rfl, fun _ _ => rfl⟩⟩
    by_cases hc : p b = true ∧ e.mp = false
    · refine .inl fun ⟨b2, e2, g1, g2⟩ => ?_
      obtain ⟨g3, g4⟩ := ikill_blk g1 g2
      have := hH.inj b2 b e2 e k g3 he g2 hk
      subst this
      rw [he] at g3; cases g3
      rcases g4 with g4 | g4
      · rw [hc.1] at g4; cases g4
      · rw [hc.2] at g4; cases g4
    · exact .inr ⟨b, e, by simp [ikill, he]; exact fun h1 h2 => absurd ⟨h1, h2⟩ hc, hk, rfl, rfl⟩
theorem imm_killed (hH : HR O ι H w) {b : Nat} {e : CB} {k : Nat} (hp : p b = true) (hm : e.mp = false) (he : ι b = some e) (hk : e.blk = some k) : imm O (ikill p ι) k := by
  refine ⟨fun ⟨b2, e2, g1, g2⟩ => ?_, hH.dis k ⟨b, e, he, hk⟩⟩
  obtain ⟨g3, g4⟩ := ikill_blk g1 g2
  have := hH.inj b2 b e2 e k g3 he g2 hk
  subst this
  rw [he] at g3; cases g3
  rcases g4 with g4 | g4
  · rw [hp] at g4; cases g4
  · rw [hm] at g4; cases g4

theorem BR.mono {ι' : Inj} {w' : World} (h : Ex ι w ι' w') {e : CB} {B : ABlk} (hb : BR O ι w e B) (hk : ∀ k, e.blk = some k → w'.heap[k]? = w.heap[k]?) : BR O ι' w' e B := by
  cases B with
  | row s ver data =>
    obtain ⟨q1, q2, q3, q4, q5, q6⟩ := hb
    refine ⟨q1, q2, q3, q4, q5, fun k hk' => ?_⟩
    obtain ⟨⟨cs, t, r1, r2⟩, r3, r4⟩ := q6 k hk'
    refine ⟨⟨cs, t, by rw [hk k hk']; exact r1, r2⟩, r3, fun i x hx => ?_⟩
    obtain ⟨g1, g2⟩ := r4 i x hx
    refine ⟨g1, fun j y hy => ?_⟩
    obtain ⟨v, v1, v2, v3⟩ := g2 j y hy
    exact ⟨v, by rw [cell_of_heap (hk k hk')]; exact v1, v2, v3.mono h⟩
  | mp es =>
    obtain ⟨q1, k, l, c, q2, q3, q4⟩ := hb
    refine ⟨q1, k, l, c, q2, by rw [hk k q2]; exact q3, ?_⟩
    clear q3
    generalize l.toList = l at q4
    induction es generalizing l with
    | nil => simpa [EntR] using q4
    | cons x r ih =>
      simp only [EntR] at q4 ⊢
      obtain ⟨m, l', rfl, a1, a2, a3⟩ := q4
      exact ⟨m, l', rfl, a1.mono h, a2.mono h, ih l' a3⟩

theorem HR.frzK (hH : HR O ι H w) : HR O (ikill p ι) (frzK p H) w where
  blk := fun b e he => by
    have hn : ∀ b e, p b = false → ι b = some e → ikill p ι b = some e := fun b e hp he => ikill_keep (.inl hp) he
    have h1 : ∀ k, k < w.heap.size → imm O ι k → imm O (ikill p ι) k := fun k _ hi => ⟨fun ho => hi.1 (owned_ikill ho), hi.2⟩
    have h2 : ∀ b e k, p b = true → e.mp = false → ι b = some e → e.blk = some k → imm O (ikill p ι) k := fun b e k hp hm he hk => imm_killed hH hp hm he hk
    unfold ikill at he
    cases hb : ι b with
    | none => simp [hb] at he
    | some e0 =>
      simp only [hb] at he
      obtain ⟨B, hB, hbr⟩ := hH.blk b e0 hb
      split at he
      · rename_i hc
        cases he
        cases B with
        | mp es => exact absurd hbr.1 (by rw [hc.2]; simp)
        | row s ver data =>
          obtain ⟨q1, q2, q3, q4, q5, q6⟩ := hbr
          refine ⟨.row s (ver + 1) [], by simp [Go.AI.frzK, hB, hc.1], ?_⟩
          exact ⟨q1, q2, by simp [q3], by simp, fun _ => rfl, fun k hk => by cases hk⟩
      · rename_i hc
        cases he
        cases B with
        | mp es => exact ⟨_, by simp only [Go.AI.frzK, hB], hbr.frz hH hn h1 h2⟩
        | row s ver data =>
          have hp : p b = false := by
            cases hp : p b
            · rfl
            · exact absurd ⟨hp, hbr.1⟩ hc
          exact ⟨_, by simp [Go.AI.frzK, hB, hp], hbr.frz hH hn h1 h2⟩
  inj := fun b b' e e' k h h' hk hk' => hH.inj b b' e e' k (ikill_blk h hk).1 (ikill_blk h' hk').1 hk hk'
  dis := fun k h => hH.dis k (owned_ikill h)
  bar := hH.bar
theorem R.frzK (hH : HR O ι H w) {v : AV} {c : Value} (h : R O ι w v c) : R O (ikill p ι) w (frzV p H 4 v) c :=
  frzV_R hH (fun b e hp he => ikill_keep (.inl hp) he) (fun k _ hi => ⟨fun ho => hi.1 (owned_ikill ho), hi.2⟩) (fun b e k hp hm he hk => imm_killed hH hp hm he hk) 4 v c h

theorem writes_of {H : Heap} : ∀ {l : Wr} {b : Nat}, (∀ x ∈ l, x.1 ≠ b) → writes H l b = H b
  | [], _, _ => rfl
  | (c, x) :: r, b, h => by
    simp only [writes]
    rw [writes_of (fun y hy => h y (List.mem_cons_of_mem _ hy))]
    exact hset_ne H x (fun e => h (c, x) (by simp) e.symm)
theorem writes_killed {H H0 : Heap} : ∀ {l : List Nat} {b s ver : Nat} {data : List (List AV)}, b ∈ l → H0 b = some (.row s ver data) → writes H (killed H0 l) b = some (.row s (ver + 1) [])
  | [], _, _, _, _, h, _ => by simp at h
  | c :: l, b, s, ver, data, h, hb => by
    by_cases hl : b ∈ l
    · cases hc : H0 c with
      | none => simpa [killed, hc] using writes_killed (H := H) hl hb
      | some B =>
        cases B with
        | mp es => simpa [killed, hc] using writes_killed (H := H) hl hb
        | row s' v' d' =>
          have : killed H0 (c :: l) = (c, some (.row s' (v' + 1) [])) :: killed H0 l := by simp [killed, hc]
          rw [this]; simp only [writes]
          exact writes_killed hl hb
    · have hbc : b = c := by simpa [hl] using h
      subst hbc
      have : killed H0 (b :: l) = (b, some (.row s (ver + 1) [])) :: killed H0 l := by simp [killed, hb]
      rw [this]; simp only [writes]
      rw [writes_of, hset_same]
      intro x hx
      simp only [killed, List.mem_filterMap] at hx
      obtain ⟨d, hd, hx⟩ := hx
      cases hq : H0 d with
      | none => simp [hq] at hx
      | some B =>
        cases B with
        | mp es => simp [hq] at hx
        | row s' v' d' => simp [hq] at hx; subst hx; exact fun e => hl (e ▸ hd)
theorem HR.killed (hH : HR O ι H w) {H0 : Heap} {l : List Nat} (h0 : ∀ b ∈ l, H0 b = H b) : HR O (ikill l.contains ι) (writes H (killed H0 l)) w where
  blk := fun b e he => by
    have hx := Ex.kill hH l.contains
    unfold ikill at he
    cases hb : ι b with
    | none => simp [hb] at he
    | some e0 =>
      simp only [hb] at he
      obtain ⟨B, hB, hbr⟩ := hH.blk b e0 hb
      split at he
      · rename_i hc
        cases he
        cases B with
        | mp es => exact absurd hbr.1 (by rw [hc.2]; simp)
        | row s ver data =>
          obtain ⟨q1, q2, q3, q4, q5, q6⟩ := hbr
          have hbl : b ∈ l := by simpa using hc.1
          refine ⟨.row s (ver + 1) [], writes_killed hbl (by rw [h0 b hbl]; exact hB), ?_⟩
          exact ⟨q1, q2, by simp [q3], by simp, fun _ => rfl, fun k hk => by cases hk⟩
      · rename_i hc
        cases he
        refine ⟨B, ?_, hbr.mono hx (fun k _ => rfl)⟩
        rw [writes_of, hB]
        intro x hx2 hxb
        simp only [Go.AI.killed, List.mem_filterMap] at hx2
        obtain ⟨d, hd, hx2⟩ := hx2
        cases hq : H0 d with
        | none => simp [hq] at hx2
        | some B' =>
          cases B' with
          | mp es => simp [hq] at hx2
          | row s' v' d' =>
            simp [hq] at hx2; subst hx2
            simp at hxb; subst hxb
            rw [h0 d hd, hB] at hq; cases hq
            exact hc ⟨by simpa using hd, hbr.1⟩
  inj := fun b b' e e' k h h' hk hk' => hH.inj b b' e e' k (ikill_blk h hk).1 (ikill_blk h' hk').1 hk hk'
  dis := fun k h => hH.dis k (owned_ikill h)
  bar := hH.bar

/-! ### By value -/
section
variable {ι2 : Inj} {O2 : Nat → Prop}
mutual
theorem snap_R (hH : HR O ι H w) (h1 : ∀ k, k < w.heap.size → imm O ι k → imm O2 ι2 k) (h2 : ∀ b e k, p b = true → e.mp = false → ι b = some e → e.blk = some k → imm O2 ι2 k) :
    ∀ (n : Nat) (v v' : AV) (c : Value), snap p H n v = some v' → R O ι w v c → R O2 ι2 w v' c
  | 0, v, v', c, h, _ => by simp [snap] at h
  | n + 1, .agg cs, v', c, h, hr => by
    simp only [snap] at h
    cases hm : mapO (snap p H n) cs with
    | none => simp [hm] at h
    | some l =>
      simp [hm] at h; subst h
      simp only [R] at hr ⊢
      obtain ⟨cl, rfl, hr, ho⟩ := hr
      exact ⟨cl, rfl, snaps_R hH h1 h2 n cs l cl hm hr, ho⟩
  | n + 1, .tup vs, v', c, h, hr => by
    simp only [snap] at h
    cases hm : mapO (snap p H n) vs with
    | none => simp [hm] at h
    | some l =>
      simp [hm] at h; subst h
      simp only [R] at hr ⊢
      obtain ⟨cl, rfl, hr⟩ := hr
      exact ⟨cl, rfl, snaps_R hH h1 h2 n vs l cl hm hr⟩
  | n + 1, .d x, v', c, h, hr => by
    simp only [snap] at h
    cases ht : toD p H 4 (.d x) with
    | none => simp [ht] at h
    | some y => simp [ht] at h; subst h; simp only [R]; exact toD_R hH _ h1 h2 4 _ y c ht hr
  | n + 1, .nil s, v', c, h, hr => by
    simp only [snap] at h
    cases ht : toD p H 4 (.nil s) with
    | none => simp [ht] at h
    | some y => simp [ht] at h; subst h; simp only [R]; exact toD_R hH _ h1 h2 4 _ y c ht hr
  | n + 1, .ex s xs, v', c, h, hr => by
    simp only [snap] at h
    cases ht : toD p H 4 (.ex s xs) with
    | none => simp [ht] at h
    | some y => simp [ht] at h; subst h; simp only [R]; exact toD_R hH _ h1 h2 4 _ y c ht hr
  | n + 1, .ref b ver off len, v', c, h, hr => by
    simp only [snap] at h
    cases ht : toD p H 4 (.ref b ver off len) with
    | none => simp [ht] at h
    | some y => simp [ht] at h; subst h; simp only [R]; exact toD_R hH _ h1 h2 4 _ y c ht hr
  | n + 1, .ptr b ver i o, v', c, h, hr => by
    simp only [snap] at h
    cases ht : toD p H 4 (.ptr b ver i o) with
    | none => simp [ht] at h
    | some y => simp [ht] at h; subst h; simp only [R]; exact toD_R hH _ h1 h2 4 _ y c ht hr
  | n + 1, .fn f caps, v', c, h, hr => by
    simp only [snap] at h
    cases ht : toD p H 4 (.fn f caps) with
    | none => simp [ht] at h
    | some y => simp [ht] at h; subst h; simp only [R]; exact toD_R hH _ h1 h2 4 _ y c ht hr
  | n + 1, .map b, v', c, h, hr => by simp [snap, toD] at h
  | n + 1, .dead, v', c, h, hr => by simp [snap, toD] at h
theorem snaps_R (hH : HR O ι H w) (h1 : ∀ k, k < w.heap.size → imm O ι k → imm O2 ι2 k) (h2 : ∀ b e k, p b = true → e.mp = false → ι b = some e → e.blk = some k → imm O2 ι2 k) :
    ∀ (n : Nat) (vs l : List AV) (cl : List Value), mapO (snap p H n) vs = some l → Rl O ι w vs cl → Rl O2 ι2 w l cl
  | n, [], l, cl, h, hr => by simp [mapO] at h; subst h; simpa [Rl] using hr
  | n, x :: r, l, cl, h, hr => by
    simp only [mapO] at h
    cases hx : snap p H n x with
    | none => simp [hx] at h
    | some y =>
      cases hl : mapO (snap p H n) r with
      | none => simp [hx, hl] at h
      | some t =>
        simp [hx, hl] at h; subst h
        simp only [Rl] at hr ⊢
        obtain ⟨v, l', rfl, q1, q2⟩ := hr
        exact ⟨v, l', rfl, snap_R hH h1 h2 n x y v hx q1, snaps_R hH h1 h2 n r t l' hl q2⟩
end
mutual
theorem scalar_R : ∀ (n : Nat) (v : AV) (c : Value), isScalar n v = true → R O ι w v c → R O2 ι2 w v c
  | _, .d (.v x), c, _, hr => by simpa [R, DR] using hr
  | n + 1, .agg cs, c, h, hr => by
    simp only [isScalar] at h
    simp only [R] at hr ⊢
    obtain ⟨l, rfl, hr, ho⟩ := hr
    exact ⟨l, rfl, scalars_R n cs l h hr, ho⟩
  | n + 1, .tup vs, c, h, hr => by
    simp only [isScalar] at h
    simp only [R] at hr ⊢
    obtain ⟨l, rfl, hr⟩ := hr
    exact ⟨l, rfl, scalars_R n vs l h hr⟩
  | 0, .agg cs, c, h, _ => by simp [isScalar] at h
  | 0, .tup cs, c, h, _ => by simp [isScalar] at h
  | n, .d (.lst ..), c, h, _ => by cases n <;> simp [isScalar] at h
  | n, .d (.ptr ..), c, h, _ => by cases n <;> simp [isScalar] at h
  | n, .d (.fn ..), c, h, _ => by cases n <;> simp [isScalar] at h
  | n, .nil _, c, h, _ => by cases n <;> simp [isScalar] at h
  | n, .ex .., c, h, _ => by cases n <;> simp [isScalar] at h
  | n, .ref .., c, h, _ => by cases n <;> simp [isScalar] at h
  | n, .ptr .., c, h, _ => by cases n <;> simp [isScalar] at h
  | n, .fn .., c, h, _ => by cases n <;> simp [isScalar] at h
  | n, .map _, c, h, _ => by cases n <;> simp [isScalar] at h
  | n, .dead, c, h, _ => by cases n <;> simp [isScalar] at h
theorem scalars_R : ∀ (n : Nat) (vs : List AV) (l : List Value), vs.all (isScalar n) = true → Rl O ι w vs l → Rl O2 ι2 w vs l
  | n, [], l, _, hr => by simpa [Rl] using hr
  | n, x :: r, l, h, hr => by
    simp only [List.all_cons, Bool.and_eq_true] at h
    simp only [Rl] at hr ⊢
    obtain ⟨v, l', rfl, q1, q2⟩ := hr
    exact ⟨v, l', rfl, scalar_R n x v h.1 q1, scalars_R n r l' h.2 q2⟩
end
end
end
end Go.AI
