/-
  Own work. Operation by operation: numbers, structs held against each other, maps.
-/
import Derived.Test.YtljhobohpnpedaaAiOps4
import Derived.Laws.StructEq
namespace Go.AI
open Go
set_option linter.unusedVariables false
set_option linter.unusedSimpArgs false
variable {P : Program} {O : Nat → Prop} {ι : Inj} {H H0 : Heap} {w : World}

def eqV : List Bool → List Value → List Value → Option Bool
  | [], [], [] => some true
  | k :: ks, a :: r, b :: r' => match scalarEq k a b, eqV ks r r' with
    | some x, some y => some (x && y)
    | _, _ => none
  | _, _, _ => none
theorem eqV_len : ∀ {ks : List Bool} {l m : List Value} {r : Bool}, eqV ks l m = some r → l.length = ks.length ∧ m.length = ks.length
  | [], [], [], r, _ => ⟨rfl, rfl⟩
  | [], [], _ :: _, r, h => by simp [eqV] at h
  | [], _ :: _, _, r, h => by simp [eqV] at h
  | _ :: _, [], _, r, h => by simp [eqV] at h
  | _ :: _, _ :: _, [], r, h => by simp [eqV] at h
  | k :: ks, a :: l, b :: m, r, h => by
    simp only [eqV] at h
    cases h1 : scalarEq k a b with
    | none => simp [h1] at h
    | some p =>
      cases h2 : eqV ks l m with
      | none => simp [h1, h2] at h
      | some q =>
        obtain ⟨g1, g2⟩ := eqV_len h2
        simp [g1, g2]
theorem eqCells_V : ∀ {ks : List Bool} {xs ys : List AV} {l m : List Value} {r : Bool}, eqCells ks xs ys = some r → Rl O ι w xs l → Rl O ι w ys m → eqV ks l m = some r
  | [], [], [], l, m, r, h, h1, h2 => by
    simp only [Rl] at h1 h2; subst h1; subst h2; simpa [eqCells, eqV] using h
  | [], [], y :: ys, l, m, r, h, _, _ => by simp [eqCells] at h
  | [], x :: xs, _, l, m, r, h, _, _ => by simp [eqCells] at h
  | k :: ks, [], _, l, m, r, h, _, _ => by simp [eqCells] at h
  | k :: ks, x :: xs, ys, l, m, r, h, h1, h2 => by
    cases x with
    | d x =>
      cases x with
      | v a =>
        cases ys with
        | nil => simp [eqCells] at h
        | cons y ys =>
          cases y with
          | d y =>
            cases y with
            | v b =>
              simp only [eqCells] at h
              simp only [Rl, R, DR] at h1 h2
              obtain ⟨_, l', rfl, rfl, h1⟩ := h1
              obtain ⟨_, m', rfl, rfl, h2⟩ := h2
              simp only [eqV]
              cases h4 : eqCells ks xs ys with
              | none => rw [h4] at h; split at h <;> simp_all
              | some q =>
                rw [h4] at h
                rw [eqCells_V h4 h1 h2]
                exact h
            | _ => simp [eqCells] at h
          | _ => simp [eqCells] at h
      | _ => simp [eqCells] at h
    | _ => simp [eqCells] at h
theorem eqV_split : ∀ {k1 k2 : List Bool} {a b c d : List Value} {r : Bool}, a.length = k1.length → c.length = k1.length → eqV (k1 ++ k2) (a ++ b) (c ++ d) = some r → ∃ p q, eqV k1 a c = some p ∧ eqV k2 b d = some q ∧ r = (p && q)
  | [], k2, [], b, [], d, r, _, _, h => ⟨true, r, by simp [eqV], by simpa using h, by simp⟩
  | [], k2, _ :: _, b, _, d, r, hl, _, _ => by simp at hl
  | [], k2, [], b, _ :: _, d, r, _, hl, _ => by simp at hl
  | _ :: _, k2, [], b, _, d, r, hl, _, _ => by simp at hl
  | _ :: _, k2, _ :: _, b, [], d, r, _, hl, _ => by simp at hl
  | k :: k1, k2, x :: a, b, y :: c, d, r, hl, hl2, h => by
    simp only [List.cons_append, eqV] at h ⊢
    cases h1 : scalarEq k x y with
    | none => simp [h1] at h
    | some p =>
      cases h2 : eqV (k1 ++ k2) (a ++ b) (c ++ d) with
      | none => simp [h1, h2] at h
      | some q =>
        simp [h1, h2] at h
        obtain ⟨p', q', g1, g2, g3⟩ := eqV_split (by simpa using hl) (by simpa using hl2) h2
        exact ⟨p && p', q', by simp [g1], g2, by rw [← h, g3, Bool.and_assoc]⟩
/-- Cells of an array of cells. -/
def seg (X : Array Value) (off m : Nat) : List Value := (X.toList.drop off).take m
theorem seg_add (X : Array Value) (off m n : Nat) : seg X off (m + n) = seg X off m ++ seg X (off + m) n := by
  unfold seg
  rw [List.take_add, List.drop_drop]
theorem seg_len {X : Array Value} {off m : Nat} (h : off + m ≤ X.size) : (seg X off m).length = m := by
  unfold seg; simp; omega
theorem seg_one {X : Array Value} {off : Nat} (h : off < X.size) : seg X off 1 = [X[off]] := by
  unfold seg
  rw [List.drop_eq_getElem_cons (by simpa using h)]
  simp
theorem scalarEq_bool {a b : Value} {r : Bool} (h : scalarEq true a b = some r) : ∃ x y, a = .bool x ∧ b = .bool y ∧ r = (x == y) := by
  cases a <;> cases b <;> simp [scalarEq] at h
  exact ⟨_, _, rfl, rfl, h.symm⟩
theorem scalarEq_num {a b : Value} {r : Bool} (h : scalarEq false a b = some r) : ∃ k x y, a = .int k x ∧ b = .int k y ∧ r = (x == y) := by
  cases a <;> cases b <;> simp [scalarEq] at h
  obtain ⟨rfl, h⟩ := h
  exact ⟨_, _, _, rfl, rfl, h.symm⟩
/-- What lies in an array of cells at such a type. -/
def partOf (P : Program) (t : TypeId) (X : Array Value) (off m : Nat) : Value := match P.underlying t with | some (.struct _) => .agg (X.extract off (off + m)) | _ => X.getD off undef
theorem flat_part : ∀ {n : Nat} {t : TypeId} {ks : List Bool} {X : Array Value} {off : Nat}, flatT P n t = some ks → off + ks.length ≤ X.size → tsz P t = some ks.length →
    (part t X off).run P w = .ok (partOf P t X off ks.length) w := by
  intro n t ks X off h hs ht
  unfold partOf
  cases n with
  | zero => simp [flatT] at h
  | succ n =>
    simp only [flatT] at h
    split at h
    · rename_i hu
      cases h
      simp only [part, Sem.run_bind, run_isAgg hu, Result.andThen_ok, tagg, hu, Bool.false_eq_true, if_false]
      simp only [List.length_cons, List.length_nil] at hs
      have : off < X.size := by omega
      simp [this]
    · rename_i k hu
      cases h
      simp only [part, Sem.run_bind, run_isAgg hu, Result.andThen_ok, tagg, hu, Bool.false_eq_true, if_false]
      simp only [List.length_cons, List.length_nil] at hs
      have : off < X.size := by omega
      simp [this]
    · rename_i fs hu
      simp only [part, Sem.run_bind, run_isAgg hu, Result.andThen_ok, tagg, hu, if_true, run_size ht, Sem.run_pure]
    · cases h
theorem seg_extract {X : Array Value} {off m o k : Nat} (h : o + k ≤ m) : seg (X.extract off (off + m)) o k = seg X (off + o) k := by
  unfold seg
  apply List.ext_getElem?
  intro i
  simp only [List.getElem?_take, List.getElem?_drop, Array.getElem?_toList, Array.getElem?_extract]
  split
  · rename_i hi
    split
    · congr 1; omega
    · rename_i h2
      rw [Array.getElem?_eq_none]
      omega
  · rfl

theorem eq_flat : ∀ (n : Nat) {t : TypeId} {ks : List Bool} {X Y : Array Value} {off : Nat} {r : Bool}, flatT P n t = some ks → off + ks.length ≤ X.size → off + ks.length ≤ Y.size → eqV ks (seg X off ks.length) (seg Y off ks.length) = some r → ∀ d, n ≤ d →
    (Op.equalIn d t (partOf P t X off ks.length) (partOf P t Y off ks.length)).run P w = .ok r w
  | 0, t, ks, X, Y, off, r, h, _, _, _, d, _ => by simp [flatT] at h
  | n + 1, t, ks, X, Y, off, r, h, hx, hy, he, d, hd => by
    obtain ⟨d, rfl⟩ : ∃ d', d = d' + 1 := ⟨d - 1, by omega⟩
    simp only [flatT] at h
    unfold partOf
    split at h
    · rename_i hu
      cases h
      simp only [List.length_cons, List.length_nil] at hx hy he
      rw [seg_one (by omega), seg_one (by omega)] at he
      have h1 : off < X.size := by omega
      have h2 : off < Y.size := by omega
      simp only [hu]
      rw [show X.getD off undef = X[off] by simp [h1], show Y.getD off undef = Y[off] by simp [h2]]
      simp only [eqV] at he
      cases ha : scalarEq true X[off] Y[off] with
      | none => simp [ha] at he
      | some q =>
        simp [ha] at he; subst he
        obtain ⟨x, y, e1, e2, rfl⟩ := scalarEq_bool ha
        rw [e1, e2]
        exact run_equalIn_bool' w d t _ _ hu
    · rename_i k hu
      cases h
      simp only [List.length_cons, List.length_nil] at hx hy he
      rw [seg_one (by omega), seg_one (by omega)] at he
      have h1 : off < X.size := by omega
      have h2 : off < Y.size := by omega
      simp only [hu]
      rw [show X.getD off undef = X[off] by simp [h1], show Y.getD off undef = Y[off] by simp [h2]]
      simp only [eqV] at he
      cases ha : scalarEq false X[off] Y[off] with
      | none => simp [ha] at he
      | some q =>
        simp [ha] at he; subst he
        obtain ⟨k', x, y, e1, e2, rfl⟩ := scalarEq_num ha
        rw [e1, e2]
        exact run_equalIn_int w d t _ _ _ _ hu
    · rename_i fs hu
      split at h
      · cases h
      · rename_i hst
        simp only [hu]
        have hfs : P.fieldsOf t = fs := by simp [Program.fieldsOf, hu]
        rw [run_equalIn_struct w d t _ _ (by rw [hfs]; exact hu) (by simpa using hst), hfs]
        have key : ∀ (l : List Field) (o : Nat) (k2 : List Bool) (q : Bool), flatFs P (flatT P n) l o = some k2 → o + k2.length = ks.length → eqV k2 (seg X (off + o) k2.length) (seg Y (off + o) k2.length) = some q →
            (Op.eqFields d (X.extract off (off + ks.length)) (Y.extract off (off + ks.length)) l).run P w = .ok q w := by
          intro l
          induction l with
          | nil =>
            intro o k2 q h1 _ h2
            simp [flatFs] at h1; subst h1
            simp [seg, eqV] at h2
            subst h2
            simp [Op.eqFields]
          | cons f l ih =>
            intro o k2 q h1 ho2 h2
            simp only [flatFs] at h1
            split at h1
            · rename_i hc
              obtain ⟨hn, ho⟩ := hc
              cases hg : flatT P n f.type with
              | none => simp [hg] at h1
              | some k =>
                simp only [hg] at h1
                split at h1
                · rename_i hsz
                  cases hr : flatFs P (flatT P n) l (o + k.length) with
                  | none => simp [hr] at h1
                  | some k3 =>
                    simp [hr] at h1; subst h1
                    simp only [List.length_append] at ho2 h2
                    rw [seg_add, seg_add] at h2
                    obtain ⟨p1, p2, g1, g2, g3⟩ := eqV_split (seg_len (by omega)) (seg_len (by omega)) h2
                    have s1 : o + k.length ≤ (X.extract off (off + ks.length)).size := by simp; omega
                    have s2 : o + k.length ≤ (Y.extract off (off + ks.length)).size := by simp; omega
                    have := eq_flat n (X := X.extract off (off + ks.length)) (Y := Y.extract off (off + ks.length)) hg s1 s2 (by rw [seg_extract (by omega), seg_extract (by omega)]; exact g1) d (by omega)
                    simp only [Op.eqFields, hn, ne_eq, not_false_iff, if_true, Sem.run_bind, ho, flat_part hg s1 hsz, flat_part hg s2 hsz, Result.andThen_ok, this]
                    cases p1 with
                    | false => simp [g3]
                    | true =>
                      simp only [Bool.not_true, Bool.false_eq_true, if_false]
                      rw [ih (o + k.length) k3 p2 hr (by omega) (by rw [show off + (o + k.length) = off + o + k.length from by omega]; exact g2)]
                      simp [g3]
                · cases h1
            · cases h1
        exact key fs.toList 0 ks r h (by omega) (by simpa using he)
    · cases h
/-- Structs held against each other. -/
theorem eq_struct {t : TypeId} {ks : List Bool} {xs ys : List AV} {l m : List Value} {r : Bool} (h : flatS P t = some ks) (he : eqCells ks xs ys = some r) (h1 : Rl O ι w xs l) (h2 : Rl O ι w ys m) :
    (Op.equalIn 10000 t (.agg l.toArray) (.agg m.toArray)).run P w = .ok r w ∧ P.eqGuardType P.depth t = false := by
  unfold flatS at h
  split at h
  · rename_i fs hu
    split at h
    · cases h
    · rename_i hg
      have hv := eqCells_V he h1 h2
      obtain ⟨g1, g2⟩ := eqV_len hv
      have e1 : seg l.toArray 0 ks.length = l := by unfold seg; rw [← g1]; simp
      have e2 : seg m.toArray 0 ks.length = m := by unfold seg; rw [← g2]; simp
      have := eq_flat (P := P) (w := w) 9 (X := l.toArray) (Y := m.toArray) (off := 0) h (by simp [g1]) (by simp [g2]) (by rw [e1, e2]; exact hv) 10000 (by omega)
      unfold partOf at this
      simp only [hu, Nat.zero_add] at this
      rw [show l.toArray.extract 0 ks.length = l.toArray by rw [← g1]; simp, show m.toArray.extract 0 ks.length = m.toArray by rw [← g2]; simp] at this
      exact ⟨this, by simpa using hg⟩
  · cases h
end Go.AI
