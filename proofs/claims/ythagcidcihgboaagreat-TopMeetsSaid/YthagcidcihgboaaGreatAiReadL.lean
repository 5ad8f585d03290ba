/-
  Own work. Arguments that can be read as data are values of the interpreter, kind by kind; a law that it answers 'true' to holds.
-/
import Derived.Test.YthagcidcihgboaaGreatAiLim
import Derived.ChangeArms
import Derived.Carry
import Derived.WideShapes
namespace Go.AI
open Go
set_option linter.unusedVariables false
set_option linter.unusedSimpArgs false

/-- What lies in a cell, to the bottom. -/
inductive TK where
  | int (k : IntKind)
  | bool
  | str
  | lst (e : List TK)
def tkF (P : Program) (g : TypeId → Option (List TK)) : List Field → Nat → Option (List TK)
  | [], _ => some []
  | f :: r, off => if f.offset = off then (match g f.type with
      | some l => if P.cellsOf f.type = l.length then (match tkF P g r (off + l.length) with | some l' => some (l ++ l') | none => none) else none
      | none => none) else none
def tkT (P : Program) : Nat → TypeId → Option (List TK)
  | 0, _ => none
  | n + 1, t => match P.underlying t with
    | some (.int k) => some [.int k]
    | some .bool => some [.bool]
    | some .string => some [.str]
    | some (.slice e) => match tkT P n e with | some (k :: ks) => if P.cellsOf e = (k :: ks).length then some [.lst (k :: ks)] else none | _ => none
    | some (.struct fs) => match tkF P (tkT P n) fs.toList 0 with | some l => if P.cellsOf t = l.length then some l else none | none => none
    | _ => none
mutual
def okC : TK → DV → Prop
  | .int k, .v (.int k' n) => k' = k ∧ (Lit.int k n).wf = true
  | .bool, .v (.bool _) => True
  | .str, .v (.string _) => True
  | .lst ks, .lst s rows => s = ks.length ∧ ∀ r ∈ rows, okR ks r
  | _, _ => False
def okR : List TK → List DV → Prop
  | [], [] => True
  | k :: ks, x :: xs => okC k x ∧ okR ks xs
  | _, _ => False
end
def O0 : Nat → Prop := fun _ => False
def ι0' : Inj := fun _ => none
def im0 : Nat → Prop := imm O0 ι0'
theorem im0_all (k : Nat) : im0 k := by
  refine ⟨fun h => ?_, fun h => h⟩
  obtain ⟨b, e, h, _⟩ := h
  cases h
theorem okR_append : ∀ {a b : List TK} {x y : List DV}, okR a x → okR b y → okR (a ++ b) (x ++ y)
  | [], b, [], y, _, h => h
  | [], b, _ :: _, y, h, _ => by simp [okR] at h
  | _ :: _, b, [], y, h, _ => by simp [okR] at h
  | k :: a, b, x :: xs, y, h, h' => by
    simp only [okR, List.cons_append] at h ⊢
    exact ⟨h.1, okR_append h.2 h'⟩
theorem okR_length : ∀ {a : List TK} {x : List DV}, okR a x → x.length = a.length
  | [], [], _ => rfl
  | [], _ :: _, h => by simp [okR] at h
  | _ :: _, [], h => by simp [okR] at h
  | k :: a, x :: xs, h => by
    simp only [okR] at h
    simp only [List.length_cons, okR_length h.2]
theorem DRl_append {im : Nat → Prop} {w : World} : ∀ {x y : List DV} {a b : List Value}, DRl im w x a → DRl im w y b → DRl im w (x ++ y) (a ++ b)
  | [], y, a, b, h, h' => by simp only [DRl] at h; subst h; exact h'
  | x :: xs, y, a, b, h, h' => by
    simp only [DRl, List.cons_append] at h ⊢
    obtain ⟨v, l, rfl, h1, h2⟩ := h
    exact ⟨v, l ++ b, rfl, h1, DRl_append h2 h'⟩
theorem DRl_get {im : Nat → Prop} {w : World} : ∀ {x : List DV} {a : List Value}, DRl im w x a → ∀ (j : Nat) (y : DV), x[j]? = some y → ∃ v, a[j]? = some v ∧ DR im w y v
  | [], a, h, j, y, hy => by simp at hy
  | x :: xs, a, h, j, y, hy => by
    simp only [DRl] at h
    obtain ⟨v, l, rfl, h1, h2⟩ := h
    cases j with
    | zero => simp at hy; subst hy; exact ⟨v, rfl, h1⟩
    | succ j => simp at hy; simpa using DRl_get h2 j y hy
theorem list_exists {α : Type} {Q : Nat → α → Prop} : ∀ n : Nat, (∀ i, i < n → ∃ x, Q i x) → ∃ l : List α, l.length = n ∧ ∀ i x, l[i]? = some x → Q i x
  | 0, _ => ⟨[], rfl, by simp⟩
  | n + 1, h => by
    obtain ⟨l, hl, hq⟩ := list_exists n fun i hi => h i (by omega)
    obtain ⟨x, hx⟩ := h n (by omega)
    refine ⟨l ++ [x], by simp [hl], fun i y hy => ?_⟩
    by_cases hi : i < l.length
    · rw [List.getElem?_append_left hi] at hy; exact hq i y hy
    · rw [List.getElem?_append_right (by omega)] at hy
      have : i - l.length = 0 := by
        have := (List.getElem?_eq_some_iff.1 hy).1
        simp at this; omega
      rw [this] at hy
      simp at hy; subst hy
      have : i = n := by omega
      subst this; exact hx

section
variable {H : Type} {enc : TypeId × Value → H} {P : Program} {w : World} {spare : Nat → Bool} {held : Bool}
theorem cells_get {a : Addr} {n : Nat} {l : List Value} (h : w.cells? 0 a n = some l) : l.length = n ∧ ∀ i v, l[i]? = some v → w.cell? (a.add i) = some v := by
  unfold World.cells? at h
  split at h
  · have hlen : l.length = n := by simpa using mapM_some_length h
    refine ⟨hlen, fun i v hv => ?_⟩
    have hi : i < n := by
      have := (List.getElem?_eq_some_iff.1 hv).1
      omega
    have := mapM_some_get h i i (by simp [hi])
    rw [this, hv]
  · cases h
theorem add_add (a : Addr) (hs : a.spot = none) (m n : Nat) : (a.add m).add n = ⟨a.block, a.off + m + n, none⟩ := by
  obtain ⟨b, o, s⟩ := a
  simp only at hs
  subst hs
  unfold Addr.add
  split <;> split <;> simp_all
def Reads (w : World) (ks : List TK) (cs : List Value) : Prop := ∃ xs, okR ks xs ∧ DRl im0 w xs cs ∧ (∀ v ∈ cs, v.oneCell = true) ∧ cs.length = ks.length
theorem read_fields {g : TypeId → Option (List TK)} {cs : List Value} : ∀ (fs : List Field) (off : Nat) (ks : List TK), tkF P g fs off = some ks →
    (∀ f ∈ fs, ∀ l, g f.type = some l → Reads w l ((cs.drop f.offset).take (P.cellsOf f.type))) → Reads w ks ((cs.drop off).take ks.length)
  | [], off, ks, h, _ => by
    simp only [tkF, Option.some.injEq] at h
    subst h
    exact ⟨[], by simp [okR], by simp [DRl], by simp, by simp⟩
  | f :: fs, off, ks, h, hr => by
    simp only [tkF] at h
    split at h
    · rename_i ho
      split at h
      · rename_i l hl
        split at h
        · rename_i hc
          split at h
          · rename_i l' hl'
            simp only [Option.some.injEq] at h
            subst h
            obtain ⟨x1, a1, a2, a3, a4⟩ := hr f (List.mem_cons_self ..) l hl
            obtain ⟨x2, b1, b2, b3, b4⟩ := read_fields fs _ l' hl' fun f' hf' => hr f' (List.mem_cons_of_mem _ hf')
            rw [ho, hc] at a2 a3 a4
            have e : (cs.drop off).take (l ++ l').length = (cs.drop off).take l.length ++ (cs.drop (off + l.length)).take l'.length := by
              rw [List.length_append, List.take_add, List.drop_drop]
            refine ⟨x1 ++ x2, okR_append a1 b1, by rw [e]; exact DRl_append a2 b2, fun v hv => ?_, ?_⟩
            · rw [e] at hv
              rcases List.mem_append.1 hv with hv | hv
              · exact a3 v hv
              · exact b3 v hv
            · rw [e, List.length_append, List.length_append, a4, b4]
          · cases h
        · cases h
      · cases h
    · cases h
theorem read_cells : ∀ (n : Nat) (t : TypeId) (ks : List TK), tkT P n t = some ks → ∀ (fuel : Nat) (cs : List Value) (x : DataW H × List MemPlace), DataW.trod enc P w 0 spare held fuel t cs = some x → Reads w ks cs
  | 0, t, ks, h, _, _, _, _ => by simp [tkT] at h
  | n + 1, t, ks, h, fuel, cs, x, hx => by
    have ih := read_cells n
    simp only [tkT] at h
    split at h
    · rename_i k ht
      simp only [Option.some.injEq] at h; subst h
      obtain ⟨m, rfl, _, hw⟩ := DataW.trod_int ht hx
      exact ⟨[.v (.int k m)], by simp [okR, okC, hw], by simp [DRl, DR], by simp [Value.oneCell], rfl⟩
    · rename_i ht
      simp only [Option.some.injEq] at h; subst h
      obtain ⟨m, rfl, _⟩ := DataW.trod_bool ht hx
      exact ⟨[.v (.bool m)], by simp [okR, okC], by simp [DRl, DR], by simp [Value.oneCell], rfl⟩
    · rename_i ht
      simp only [Option.some.injEq] at h; subst h
      obtain ⟨m, rfl, _, _⟩ := DataW.trod_string ht hx
      exact ⟨[.v (.string m)], by simp [okR, okC], by simp [DRl, DR], by simp [Value.oneCell], rfl⟩
    · rename_i e ht
      split at h
      · rename_i k1 ks1 hk
        split at h
        · rename_i hc
          simp only [Option.some.injEq] at h; subst h
          rcases DataW.trod_slice ht hx with ⟨rfl, _⟩ | ⟨a, len, cap, elems, rest, m, _, rfl, _, _, hlc, _, hel, hget, _⟩
          · exact ⟨[.lst (k1 :: ks1).length []], by simp [okR, okC], by simp only [DRl, DR]; exact ⟨_, _, rfl, ⟨none, 0, rfl, Nat.le_refl _, .inl trivial⟩, rfl⟩, by simp [Value.oneCell], rfl⟩
          · have each : ∀ i, i < len → ∃ row : List DV, okR (k1 :: ks1) row ∧ ∃ cs', DRl im0 w row cs' ∧ (∀ v ∈ cs', v.oneCell = true) ∧ cs'.length = (k1 :: ks1).length ∧ ∀ j v, cs'[j]? = some v → w.cell? ((a.add (i * P.cellsOf e)).add j) = some v := by
              intro i hi
              have h1 := hget i hi
              have h2 : elems[i]? = some (elems[i]'(by omega)) := List.getElem?_eq_getElem _
              rw [h2, Option.bind_eq_some_iff] at h1
              obtain ⟨cs', h3, h4⟩ := h1
              obtain ⟨row, q1, q2, q3, q4⟩ := ih e _ hk _ _ _ h4
              exact ⟨row, q1, cs', q2, q3, q4, (cells_get h3).2⟩
            obtain ⟨rows, hl, hrows⟩ := list_exists len each
            refine ⟨[.lst (k1 :: ks1).length rows], ?_, ?_, by simp [Value.oneCell], rfl⟩
            · simp only [okR, okC, and_true, true_and]
              intro r hr
              obtain ⟨i, hi⟩ := List.getElem?_of_mem hr
              exact (hrows i r hi).1
            · simp only [DRl, DR]
              refine ⟨_, _, rfl, ⟨some a, cap, by rw [hl], by omega, ?_⟩, rfl⟩
              cases rows with
              | nil => exact .inl rfl
              | cons r0 rows' =>
                right
                obtain ⟨hok0, cs0, hd0, ho0, hl0, hc0⟩ := hrows 0 r0 rfl
                have hsp : a.spot = none ∧ a.block < w.heap.size := by
                  have hv0 : cs0[0]? = some (cs0[0]'(by rw [hl0]; simp)) := List.getElem?_eq_getElem _
                  have := hc0 0 _ hv0
                  rw [Nat.zero_mul] at this
                  have e0 : (a.add 0).add 0 = a := by simp [Addr.add]
                  rw [e0] at this
                  refine ⟨?_, cell_lt this⟩
                  unfold World.cell? at this
                  split at this
                  · cases hs : a.spot with
                    | none => rfl
                    | some s => simp [hs] at this
                  · cases this
                refine ⟨a.block, a.off, ?_, im0_all _, hsp.2, ?_⟩
                · obtain ⟨b, o, s⟩ := a
                  simp only at hsp
                  simp [hsp.1]
                · rw [DRss_iff]
                  intro i x hx'
                  obtain ⟨q1, cs', q2, q3, q4, q5⟩ := hrows i x hx'
                  refine ⟨okR_length q1, ?_⟩
                  rw [DRs_iff]
                  intro j y hy
                  obtain ⟨v, hv, hdr⟩ := DRl_get q2 j y hy
                  refine ⟨v, ?_, q3 v (List.mem_of_getElem? hv), hdr⟩
                  have := q5 j v hv
                  rw [add_add a hsp.1, hc] at this
                  exact this
        · cases h
      · cases h
    · rename_i fs ht
      split at h
      · rename_i l hl
        split at h
        · rename_i hc
          simp only [Option.some.injEq] at h; subst h
          obtain ⟨xs, m, _, _, hlen, hxl, hf⟩ := DataW.trod_struct ht hx
          have := read_fields (P := P) (w := w) (cs := cs) fs.toList 0 l hl fun f hmem l' hl' => by
            obtain ⟨i, hi⟩ := List.getElem?_of_mem hmem
            have hi' : fs[i]? = some f := by simpa using hi
            have h1 := hf i f hi'
            have hlt : i < xs.length := by
              rw [hxl]
              exact (Array.getElem?_eq_some_iff.1 hi').1
            rw [List.getElem?_eq_getElem hlt] at h1
            exact ih f.type l' hl' _ _ _ h1
          rw [List.drop_zero, List.take_of_length_le (by omega)] at this
          exact this
        · cases h
      · cases h
    · cases h

/-- An argument of a type, as the interpreter is given it. -/
def ArgOK (P : Program) (t : TypeId) (a : AV) : Prop := ∃ ks, tkT P 9 t = some ks ∧ match P.underlying t with
  | some (.struct _) => ∃ xs, okR ks xs ∧ a = .agg (xs.map .d)
  | _ => ∃ k x, ks = [k] ∧ okC k x ∧ a = .d x
def ArgsOK (P : Program) : List TypeId → List AV → Prop
  | [], [] => True
  | t :: ts, a :: r => ArgOK P t a ∧ ArgsOK P ts r
  | _, _ => False
theorem DRl_Rl0 {w : World} : ∀ {xs : List DV} {cs : List Value}, DRl im0 w xs cs → Rl O0 ι0' w (xs.map .d) cs
  | [], cs, h => by simpa [DRl, Rl] using h
  | x :: xs, cs, h => by
    simp only [DRl, List.map_cons, Rl] at h ⊢
    obtain ⟨v, l, rfl, h1, h2⟩ := h
    exact ⟨v, l, rfl, by simp only [R]; exact h1, DRl_Rl0 h2⟩
theorem arg_R {r : Reach} {b0 : Nat} {t : TypeId} {v : Value} {d : DataW H} {ps : List MemPlace} (hk : (tkT P 9 t).isSome = true) (hval : Value.okWide P w r b0 t v) (hd : DataW.Trod enc P w 0 spare held t v d ps) :
    ∃ a, ArgOK P t a ∧ R O0 ι0' w a v := by
  obtain ⟨fuel, hd⟩ := hd
  obtain ⟨ks, hks⟩ := Option.isSome_iff_exists.1 hk
  obtain ⟨xs, q1, q2, q3, q4⟩ := read_cells 9 t ks hks fuel _ _ hd
  have one : ∀ {k : TK}, ks = [k] → v.cells.toList = [v] → (∀ fs, P.underlying t ≠ some (.struct fs)) → ∃ a, ArgOK P t a ∧ R O0 ι0' w a v := by
    intro k hk hv hns
    subst hk
    match xs, q1 with
    | [x], q1 =>
      simp only [okR, and_true] at q1
      refine ⟨.d x, ⟨[k], hks, ?_⟩, ?_⟩
      · split
        · rename_i fs hfs; exact absurd hfs (hns fs)
        · exact ⟨k, x, rfl, q1, rfl⟩
      · rw [hv] at q2
        simp only [DRl] at q2
        obtain ⟨v', l, hvl, hdr, hl⟩ := q2
        subst hl
        simp at hvl
        subst hvl
        simp only [R]
        exact hdr
    | [], q1 => simp [okR] at q1
    | _ :: _ :: _, q1 => simp [okR] at q1
  have hks' := hks
  simp only [tkT] at hks
  split at hks
  · rename_i k ht
    simp only [Option.some.injEq] at hks
    obtain ⟨n, rfl⟩ := WideShapes.okWide_int ht hval
    exact one hks.symm rfl (fun fs h => by rw [ht] at h; cases h)
  · rename_i ht
    simp only [Option.some.injEq] at hks
    obtain ⟨n, rfl⟩ := WideShapes.okWide_bool ht hval
    exact one hks.symm rfl (fun fs h => by rw [ht] at h; cases h)
  · rename_i ht
    simp only [Option.some.injEq] at hks
    obtain ⟨n, rfl⟩ := WideShapes.okWide_string ht hval
    exact one hks.symm rfl (fun fs h => by rw [ht] at h; cases h)
  · rename_i e ht
    obtain ⟨a, len, cap, rfl⟩ := WideShapes.okWide_slice ht hval
    split at hks
    · split at hks
      · simp only [Option.some.injEq] at hks
        exact one hks.symm rfl (fun fs h => by rw [ht] at h; cases h)
      · cases hks
    · cases hks
  · rename_i fs ht
    simp only [Value.okWide, ht] at hval
    obtain ⟨cs, rfl, _, _⟩ := hval
    refine ⟨.agg (xs.map .d), ⟨ks, hks', by simp only [ht]; exact ⟨xs, q1, rfl⟩⟩, ?_⟩
    simp only [R]
    exact ⟨cs.toList, rfl, DRl_Rl0 q2, q3⟩
  · cases hks
theorem args_R {r : Reach} {b0 : Nat} : ∀ {ts : List TypeId} {vs : List Value} {ds : List (DataW H)} {ps : List MemPlace}, (∀ t ∈ ts, (tkT P 9 t).isSome = true) → (∀ (j : Nat) t v, ts[j]? = some t → vs[j]? = some v → Value.okWide P w r b0 t v) →
    DataW.TrodAll enc P w 0 spare held ts vs ds ps → ∃ as, ArgsOK P ts as ∧ Rl O0 ι0' w as vs
  | [], [], [], _, _, _, _ => ⟨[], trivial, rfl⟩
  | [], _ :: _, _, _, _, _, h => by simp [DataW.TrodAll] at h
  | [], [], _ :: _, _, _, _, h => by simp [DataW.TrodAll] at h
  | t :: ts, [], _, _, _, _, h => by simp [DataW.TrodAll] at h
  | t :: ts, _ :: _, [], _, _, _, h => by simp [DataW.TrodAll] at h
  | t :: ts, v :: vs, d :: ds, ps, hk, hval, h => by
    simp only [DataW.TrodAll] at h
    obtain ⟨p, q, h1, h2, _⟩ := h
    obtain ⟨a, g1, g2⟩ := arg_R (hk t (List.mem_cons_self ..)) (hval 0 t v rfl rfl) h1
    obtain ⟨as, g3, g4⟩ := args_R (ts := ts) (fun t' ht' => hk t' (List.mem_cons_of_mem _ ht')) (fun j t' v' h1 h2 => hval (j + 1) t' v' (by simpa using h1) (by simpa using h2)) h2
    exact ⟨a :: as, ⟨g1, g3⟩, by simp only [Rl]; exact ⟨v, vs, rfl, g2, g4⟩⟩
theorem HR_empty (w : World) : HR O0 (fun _ => none) noHeap w where
  blk := fun b e h => by cases h
  inj := fun b b' e e' k h => by cases h
  dis := fun k ⟨b, e, h, _⟩ => by cases h
  bar := fun k h => h.elim
theorem Same.below {w' : World} (h : Same w w') : RowKit.Below w.heap.size w w' := ⟨h.os, h.tape, h.output, h.size, h.heap⟩
/-- A law that the interpreter answers 'true' to, whatever data it is given: the call returns true, and nothing that was there turns. -/
theorem law_calls {C : Cfg} (hM : ModesOK C) (hC : ProgOK C) {f : FuncId} {fn : Func} {r : Reach} {b0 : Nat} {args : Array Value} {ds : List (DataW H)} {ps : List MemPlace} (hk : ∀ t ∈ fn.params.toList, (tkT C.P 9 t).isSome = true)
    (law : ∀ as, ArgsOK C.P fn.params.toList as → valω C f as = some (.d (.v (.bool true)))) (hval : ∀ (j : Nat) t v, fn.params[j]? = some t → args[j]? = some v → Value.okWide C.P w r b0 t v)
    (hA : DataW.TrodAll enc C.P w 0 spare held fn.params.toList args.toList ds ps) : Calls C.P f args w fun e w' => e = .returned (.bool true) ∧ RowKit.Below w.heap.size w w' := by
  obtain ⟨as, g1, g2⟩ := args_R hk (fun j t v h1 h2 => hval j t v (by simpa using h1) (by simpa using h2)) hA
  have hb : Bar O0 ι0' allB = O0 := by
    funext k
    apply propext
    constructor
    · rintro (h | ⟨b, e, h, _⟩)
      · exact h
      · cases h
    · exact fun h => h.elim
  obtain ⟨_, v, Hc, nx', h1, h2⟩ := soundω hM hC f as args.toList _ O0 w trivial (law as g1) (HR_empty w) g2
  have h3 := (byVal_of (O := O0) (ι := ι0') (H := noHeap) (HR_empty w) (p := allB) h1 (by rw [hb]; exact h2)).1
  refine (show Calls C.P f args w _ from h3).mono fun e w' hret => ?_
  cases e with
  | returned c =>
    obtain ⟨k1, k2⟩ := hret
    simp only [R, DR] at k2
    exact ⟨by rw [k2], k1.below⟩
  | _ => exact hret.elim
end
end Go.AI
