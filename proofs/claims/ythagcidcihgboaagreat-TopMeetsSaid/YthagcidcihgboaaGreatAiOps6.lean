/-
  Own work. Operation by operation: slice expressions, addresses, fields, literals.
-/
import Derived.Test.YthagcidcihgboaaGreatAiOps4
import Derived.Laws.StructEq
namespace Go.AI
open Go
set_option linter.unusedVariables false
set_option linter.unusedSimpArgs false
variable {P : Program} {O : Nat → Prop} {ι : Inj} {H H0 : Heap} {w : World}

def eqV : List Bool → List Value → List Value → Option Bool
  | [], [], [] => some true
  | k :: ks, a :: r, b :: r' => match scalarEq k a b, eqV ks r r' with
    | some x, some y => some (x && y)
    | _, _ => none
  | _, _, _ => none
theorem eqV_len : ∀ {ks : List Bool} {l m : List Value} {r : Bool}, eqV ks l m = some r → l.length = ks.length ∧ m.length = ks.length
  | [], [], [], r, _ => ⟨rfl, rfl⟩
  | [], [], _ :: _, r, h => by simp [eqV] at h
  | [], _ :: _, _, r, h => by simp [eqV] at h
  | _ :: _, [], _, r, h => by simp [eqV] at h
  | _ :: _, _ :: _, [], r, h => by simp [eqV] at h
  | k :: ks, a :: l, b :: m, r, h => by
    simp only [eqV] at h
    cases h1 : scalarEq k a b with
    | none => simp [h1] at h
    | some p =>
      cases h2 : eqV ks l m with
      | none => simp [h1, h2] at h
      | some q =>
        obtain ⟨g1, g2⟩ := eqV_len h2
        simp [g1, g2]
theorem eqCells_V : ∀ {ks : List Bool} {xs ys : List AV} {l m : List Value} {r : Bool}, eqCells ks xs ys = some r → Rl O ι w xs l → Rl O ι w ys m → eqV ks l m = some r
  | [], [], [], l, m, r, h, h1, h2 => by
    simp only [Rl] at h1 h2; subst h1; subst h2; simpa [eqCells, eqV] using h
  | [], [], y :: ys, l, m, r, h, _, _ => by simp [eqCells] at h
  | [], x :: xs, _, l, m, r, h, _, _ => by simp [eqCells] at h
  | k :: ks, [], _, l, m, r, h, _, _ => by simp [eqCells] at h
  | k :: ks, x :: xs, ys, l, m, r, h, h1, h2 => by
    cases x with
    | d x =>
      cases x with
      | v a =>
        cases ys with
        | nil => simp [eqCells] at h
        | cons y ys =>
          cases y with
          | d y =>
            cases y with
            | v b =>
              simp only [eqCells] at h
              simp only [Rl, R, DR] at h1 h2
              obtain ⟨_, l', rfl, rfl, h1⟩ := h1
              obtain ⟨_, m', rfl, rfl, h2⟩ := h2
              simp only [eqV]
              cases h4 : eqCells ks xs ys with
              | none => rw [h4] at h; split at h <;> simp_all
              | some q =>
                rw [h4] at h
                rw [eqCells_V h4 h1 h2]
                exact h
            | _ => simp [eqCells] at h
          | _ => simp [eqCells] at h
      | _ => simp [eqCells] at h
    | _ => simp [eqCells] at h
theorem eqV_split : ∀ {k1 k2 : List Bool} {a b c d : List Value} {r : Bool}, a.length = k1.length → c.length = k1.length → eqV (k1 ++ k2) (a ++ b) (c ++ d) = some r → ∃ p q, eqV k1 a c = some p ∧ eqV k2 b d = some q ∧ r = (p && q)
  | [], k2, [], b, [], d, r, _, _, h => ⟨true, r, by simp [eqV], by simpa using h, by simp⟩
  | [], k2, _ :: _, b, _, d, r, hl, _, _ => by simp at hl
  | [], k2, [], b, _ :: _, d, r, _, hl, _ => by simp at hl
  | _ :: _, k2, [], b, _, d, r, hl, _, _ => by simp at hl
  | _ :: _, k2, _ :: _, b, [], d, r, _, hl, _ => by simp at hl
  | k :: k1, k2, x :: a, b, y :: c, d, r, hl, hl2, h => by
    simp only [List.cons_append, eqV] at h ⊢
    cases h1 : scalarEq k x y with
    | none => simp [h1] at h
    | some p =>
      cases h2 : eqV (k1 ++ k2) (a ++ b) (c ++ d) with
      | none => simp [h1, h2] at h
      | some q =>
        simp [h1, h2] at h
        obtain ⟨p', q', g1, g2, g3⟩ := eqV_split (by simpa using hl) (by simpa using hl2) h2
        exact ⟨p && p', q', by simp [g1], g2, by rw [← h, g3, Bool.and_assoc]⟩
/-- Cells of an array of cells. -/
def seg (X : Array Value) (off m : Nat) : List Value := (X.toList.drop off).take m
theorem seg_add (X : Array Value) (off m n : Nat) : seg X off (m + n) = seg X off m ++ seg X (off + m) n := by
  unfold seg
  rw [List.take_add, List.drop_drop]
theorem seg_len {X : Array Value} {off m : Nat} (h : off + m ≤ X.size) : (seg X off m).length = m := by
  unfold seg; simp; omega
theorem seg_one {X : Array Value} {off : Nat} (h : off < X.size) : seg X off 1 = [X[off]] := by
  unfold seg
  rw [List.drop_eq_getElem_cons (by simpa using h)]
  simp
theorem scalarEq_bool {a b : Value} {r : Bool} (h : scalarEq true a b = some r) : ∃ x y, a = .bool x ∧ b = .bool y ∧ r = (x == y) := by
  cases a <;> cases b <;> simp [scalarEq] at h
  exact ⟨_, _, rfl, rfl, h.symm⟩
theorem scalarEq_num {a b : Value} {r : Bool} (h : scalarEq false a b = some r) : ∃ k x y, a = .int k x ∧ b = .int k y ∧ r = (x == y) := by
  cases a <;> cases b <;> simp [scalarEq] at h
  obtain ⟨rfl, h⟩ := h
  exact ⟨_, _, _, rfl, rfl, h.symm⟩
/-- What lies in an array of cells at such a type. -/
def partOf (P : Program) (t : TypeId) (X : Array Value) (off m : Nat) : Value := match P.underlying t with | some (.struct _) => .agg (X.extract off (off + m)) | _ => X.getD off undef
theorem flat_part : ∀ {n : Nat} {t : TypeId} {ks : List Bool} {X : Array Value} {off : Nat}, flatT P n t = some ks → off + ks.length ≤ X.size → tsz P t = some ks.length →
    (part t X off).run P w = .ok (partOf P t X off ks.length) w := by
  intro n t ks X off h hs ht
  unfold partOf
  cases n with
  | zero => simp [flatT] at h
  | succ n =>
    simp only [flatT] at h
    split at h
    · rename_i hu
      cases h
      simp only [part, Sem.run_bind, run_isAgg hu, Result.andThen_ok, tagg, hu, Bool.false_eq_true, if_false]
      simp only [List.length_cons, List.length_nil] at hs
      have : off < X.size := by omega
      simp [this]
    · rename_i k hu
      cases h
      simp only [part, Sem.run_bind, run_isAgg hu, Result.andThen_ok, tagg, hu, Bool.false_eq_true, if_false]
      simp only [List.length_cons, List.length_nil] at hs
      have : off < X.size := by omega
      simp [this]
    · rename_i fs hu
      simp only [part, Sem.run_bind, run_isAgg hu, Result.andThen_ok, tagg, hu, if_true, run_size ht, Sem.run_pure]
    · cases h
theorem seg_extract {X : Array Value} {off m o k : Nat} (h : o + k ≤ m) : seg (X.extract off (off + m)) o k = seg X (off + o) k := by
  unfold seg
  apply List.ext_getElem?
  intro i
  simp only [List.getElem?_take, List.getElem?_drop, Array.getElem?_toList, Array.getElem?_extract]
  split
  · rename_i hi
    split
    · congr 1; omega
    · rename_i h2
      rw [Array.getElem?_eq_none]
      omega
  · rfl

theorem eq_flat : ∀ (n : Nat) {t : TypeId} {ks : List Bool} {X Y : Array Value} {off : Nat} {r : Bool}, flatT P n t = some ks → off + ks.length ≤ X.size → off + ks.length ≤ Y.size → eqV ks (seg X off ks.length) (seg Y off ks.length) = some r → ∀ d, n ≤ d →
    (Op.equalIn d t (partOf P t X off ks.length) (partOf P t Y off ks.length)).run P w = .ok r w
  | 0, t, ks, X, Y, off, r, h, _, _, _, d, _ => by simp [flatT] at h
  | n + 1, t, ks, X, Y, off, r, h, hx, hy, he, d, hd => by
    obtain ⟨d, rfl⟩ : ∃ d', d = d' + 1 := ⟨d - 1, by omega⟩
    simp only [flatT] at h
    unfold partOf
    split at h
    · rename_i hu
      cases h
      simp only [List.length_cons, List.length_nil] at hx hy he
      rw [seg_one (by omega), seg_one (by omega)] at he
      have h1 : off < X.size := by omega
      have h2 : off < Y.size := by omega
      simp only [hu]
      rw [show X.getD off undef = X[off] by simp [h1], show Y.getD off undef = Y[off] by simp [h2]]
      simp only [eqV] at he
      cases ha : scalarEq true X[off] Y[off] with
      | none => simp [ha] at he
      | some q =>
        simp [ha] at he; subst he
        obtain ⟨x, y, e1, e2, rfl⟩ := scalarEq_bool ha
        rw [e1, e2]
        exact run_equalIn_bool' w d t _ _ hu
    · rename_i k hu
      cases h
      simp only [List.length_cons, List.length_nil] at hx hy he
      rw [seg_one (by omega), seg_one (by omega)] at he
      have h1 : off < X.size := by omega
      have h2 : off < Y.size := by omega
      simp only [hu]
      rw [show X.getD off undef = X[off] by simp [h1], show Y.getD off undef = Y[off] by simp [h2]]
      simp only [eqV] at he
      cases ha : scalarEq false X[off] Y[off] with
      | none => simp [ha] at he
      | some q =>
        simp [ha] at he; subst he
        obtain ⟨k', x, y, e1, e2, rfl⟩ := scalarEq_num ha
        rw [e1, e2]
        exact run_equalIn_int w d t _ _ _ _ hu
    · rename_i fs hu
      split at h
      · cases h
      · rename_i hst
        simp only [hu]
        have hfs : P.fieldsOf t = fs := by simp [Program.fieldsOf, hu]
        rw [run_equalIn_struct w d t _ _ (by rw [hfs]; exact hu) (by simpa using hst), hfs]
        have key : ∀ (l : List Field) (o : Nat) (k2 : List Bool) (q : Bool), flatFs P (flatT P n) l o = some k2 → o + k2.length = ks.length → eqV k2 (seg X (off + o) k2.length) (seg Y (off + o) k2.length) = some q →
            (Op.eqFields d (X.extract off (off + ks.length)) (Y.extract off (off + ks.length)) l).run P w = .ok q w := by
          intro l
          induction l with
          | nil =>
            intro o k2 q h1 _ h2
            simp [flatFs] at h1; subst h1
            simp [seg, eqV] at h2
            subst h2
            simp [Op.eqFields]
          | cons f l ih =>
            intro o k2 q h1 ho2 h2
            simp only [flatFs] at h1
            split at h1
            · rename_i hc
              obtain ⟨hn, ho⟩ := hc
              cases hg : flatT P n f.type with
              | none => simp [hg] at h1
              | some k =>
                simp only [hg] at h1
                split at h1
                · rename_i hsz
                  cases hr : flatFs P (flatT P n) l (o + k.length) with
                  | none => simp [hr] at h1
                  | some k3 =>
                    simp [hr] at h1; subst h1
                    simp only [List.length_append] at ho2 h2
                    rw [seg_add, seg_add] at h2
                    obtain ⟨p1, p2, g1, g2, g3⟩ := eqV_split (seg_len (by omega)) (seg_len (by omega)) h2
                    have s1 : o + k.length ≤ (X.extract off (off + ks.length)).size := by simp; omega
                    have s2 : o + k.length ≤ (Y.extract off (off + ks.length)).size := by simp; omega
                    have := eq_flat n (X := X.extract off (off + ks.length)) (Y := Y.extract off (off + ks.length)) hg s1 s2 (by rw [seg_extract (by omega), seg_extract (by omega)]; exact g1) d (by omega)
                    simp only [Op.eqFields, hn, ne_eq, not_false_iff, if_true, Sem.run_bind, ho, flat_part hg s1 hsz, flat_part hg s2 hsz, Result.andThen_ok, this]
                    cases p1 with
                    | false => simp [g3]
                    | true =>
                      simp only [Bool.not_true, Bool.false_eq_true, if_false]
                      rw [ih (o + k.length) k3 p2 hr (by omega) (by rw [show off + (o + k.length) = off + o + k.length from by omega]; exact g2)]
                      simp [g3]
                · cases h1
            · cases h1
        exact key fs.toList 0 ks r h (by omega) (by simpa using he)
    · cases h
/-- Structs held against each other. -/
theorem eq_struct {t : TypeId} {ks : List Bool} {xs ys : List AV} {l m : List Value} {r : Bool} (h : flatS P t = some ks) (he : eqCells ks xs ys = some r) (h1 : Rl O ι w xs l) (h2 : Rl O ι w ys m) :
    (Op.equalIn 10000 t (.agg l.toArray) (.agg m.toArray)).run P w = .ok r w ∧ P.eqGuardType P.depth t = false := by
  unfold flatS at h
  split at h
  · rename_i fs hu
    split at h
    · cases h
    · rename_i hg
      have hv := eqCells_V he h1 h2
      obtain ⟨g1, g2⟩ := eqV_len hv
      have e1 : seg l.toArray 0 ks.length = l := by unfold seg; rw [← g1]; simp
      have e2 : seg m.toArray 0 ks.length = m := by unfold seg; rw [← g2]; simp
      have := eq_flat (P := P) (w := w) 9 (X := l.toArray) (Y := m.toArray) (off := 0) h (by simp [g1]) (by simp [g2]) (by rw [e1, e2]; exact hv) 10000 (by omega)
      unfold partOf at this
      simp only [hu, Nat.zero_add] at this
      rw [show l.toArray.extract 0 ks.length = l.toArray by rw [← g1]; simp, show m.toArray.extract 0 ks.length = m.toArray by rw [← g2]; simp] at this
      exact ⟨this, by simpa using hg⟩
  · cases h
end Go.AI
namespace Go.AI
open Go
set_option linter.unusedVariables false
set_option linter.unusedSimpArgs false
variable {P : Program} {O : Nat → Prop} {ι : Inj} {H H0 : Heap} {w : World}

/-- Operands that may be missing. -/
def OR (O : Nat → Prop) (ι : Inj) (w : World) : Option AV → Option Value → Prop
  | none, none => True
  | some x, some c => R O ι w x c
  | _, _ => False
theorem asInt_R {x : AV} {c : Value} {n : Int} (h : asInt x = some n) (hr : R O ι w x c) : ∃ k, c = .int k n := by
  cases x with
  | d x =>
    cases x with
    | v a =>
      cases a <;> simp [asInt] at h
      subst h
      simp only [R, DR] at hr
      exact ⟨_, hr⟩
    | _ => simp [asInt] at h
  | _ => simp [asInt] at h
theorem boundsA_some {n l h : Nat} {lo hi : Option AV} (hb : boundsA n lo hi = some (l, h)) : ∃ hh ll, hiA n hi = some hh ∧ loA lo = some ll ∧ 0 ≤ ll ∧ ll ≤ hh ∧ hh ≤ n ∧ l = ll.toNat ∧ h = hh.toNat := by
  unfold boundsA at hb
  split at hb
  · rename_i hh ll h1 h2
    split at hb
    · rename_i hc
      simp at hb
      exact ⟨hh, ll, h1, h2, hc.1, hc.2.1, hc.2.2, hb.1.symm, hb.2.symm⟩
    · cases hb
  · cases hb
/-- A high bound, a low one, as the model reads them. -/
theorem hi_run {n cap len : Nat} {hi : Option AV} {hiv : Option Value} {hh : Int} (h1 : hiA n hi = some hh) (h0 : 0 ≤ hh) (hn : hh ≤ n) (hcap : n ≤ cap) (hhi : OR O ι w hi hiv) (hlen : hi = none → len = n) : hiv = none ∧ len = hh.toNat ∨ ∃ k, hiv = some (.int k hh) ∧ hh ≤ cap := by
  cases hi with
  | none =>
    cases hiv with
    | none =>
      simp [hiA] at h1
      have := hlen rfl
      left; exact ⟨rfl, by omega⟩
    | some v => exact hhi.elim
  | some x =>
    cases hiv with
    | none => exact hhi.elim
    | some v =>
      obtain ⟨k, rfl⟩ := asInt_R h1 hhi
      exact .inr ⟨k, rfl, by omega⟩
theorem lo_run {lo : Option AV} {lov : Option Value} {ll : Int} (h1 : loA lo = some ll) (hlo : OR O ι w lo lov) : lov = none ∧ ll = 0 ∨ ∃ k, lov = some (.int k ll) := by
  cases lo with
  | none =>
    cases lov with
    | none => simp [loA] at h1; exact .inl ⟨rfl, h1.symm⟩
    | some v => exact hlo.elim
  | some x =>
    cases lov with
    | none => exact hlo.elim
    | some v =>
      obtain ⟨k, rfl⟩ := asInt_R h1 hlo
      exact .inr ⟨k, rfl⟩
theorem bound_ok {k : IntKind} {i : Int} {y : Nat} {code : BoundsCode} (h0 : 0 ≤ i) (h1 : i ≤ y) : (Instr.sliceBound (.int k i) y code).run P w = .ok i.toNat w := by
  simp only [Instr.sliceBound, asIntOf, Sem.run_bind, Sem.run_pure, Result.andThen_ok]
  rw [if_pos ⟨h0, h1⟩]; rfl
theorem bounds_run {n l h cap len : Nat} {lo hi : Option AV} {lov hiv : Option Value} (hb : boundsA n lo hi = some (l, h)) (hlo : OR O ι w lo lov) (hhi : OR O ι w hi hiv) (hlen : hi = none → len = n) (hcap : n ≤ cap) (isS : Bool) :
    (Instr.sliceBounds isS len cap lov hiv none).run P w = .ok (l, h, cap) w ∧ l ≤ h ∧ h ≤ n := by
  obtain ⟨hh, ll, h1, h2, c1, c2, c3, rfl, rfl⟩ := boundsA_some hb
  refine ⟨?_, by omega, by omega⟩
  have hl : ll ≤ (hh.toNat : Int) := by omega
  have h0 : 0 ≤ hh := by omega
  rcases hi_run h1 (by omega) c3 hcap hhi hlen with ⟨rfl, rfl⟩ | ⟨k, rfl, g1⟩ <;> rcases lo_run h2 hlo with ⟨rfl, rfl⟩ | ⟨k2, rfl⟩
  · simp [Instr.sliceBounds]
  · simp [Instr.sliceBounds, bound_ok c1 hl]
  · simp [Instr.sliceBounds, bound_ok h0 g1]
  · simp [Instr.sliceBounds, bound_ok h0 g1, bound_ok c1 hl]
theorem bounds_run3 {n l h cap len m : Nat} {lo : Option AV} {hi : AV} {lov : Option Value} {hiv : Value} {k : IntKind} (hb : boundsA n lo (some hi) = some (l, h)) (hlo : OR O ι w lo lov) (hhi : R O ι w hi hiv) (hm : h ≤ m) (hcap : m ≤ cap) :
    (Instr.sliceBounds true len cap lov (some hiv) (some (.int k m))).run P w = .ok (l, h, m) w ∧ l ≤ h ∧ h ≤ n := by
  obtain ⟨hh, ll, h1, h2, c1, c2, c3, rfl, rfl⟩ := boundsA_some hb
  refine ⟨?_, by omega, by omega⟩
  have hl : ll ≤ (hh.toNat : Int) := by omega
  obtain ⟨k', rfl⟩ := asInt_R h1 hhi
  have h3 : hh ≤ (m : Int) := by omega
  have h4 : (m : Int) ≤ cap := by omega
  have h5 : 0 ≤ hh := by omega
  have hm0 : (0 : Int) ≤ m := by omega
  rcases lo_run h2 hlo with ⟨rfl, rfl⟩ | ⟨k2, rfl⟩
  · simp [Instr.sliceBounds, bound_ok h5 h3, bound_ok hm0 h4]
  · simp [Instr.sliceBounds, bound_ok h5 h3, bound_ok hm0 h4, bound_ok c1 hl]

theorem slice_val {s : Nat} {xs : List (List DV)} {a : Option Addr} {cap l h : Nat} (hx : R O ι w (.d (.lst s xs)) (.slice a xs.length cap)) (h1 : l ≤ h) (h2 : h ≤ xs.length) :
    R O ι w (.d (.lst s ((xs.take h).drop l))) (.slice (if cap = l then a else a.map (·.add (l * s))) (h - l) (cap - l)) := by
  simp only [R, DR] at hx ⊢
  obtain ⟨a', cap', e, hl, hx⟩ := hx
  cases e
  have hlen : ((xs.take h).drop l).length = h - l := by simp; omega
  refine ⟨_, _, by rw [hlen], by rw [hlen]; omega, ?_⟩
  by_cases hz : (xs.take h).drop l = []
  · exact .inl hz
  · right
    have hpos : 0 < h - l := by rw [← hlen]; exact List.length_pos_iff.2 hz
    rcases hx with rfl | ⟨k, off, rfl, hi, hk, hx⟩
    · simp at h2; omega
    · refine ⟨k, off + l * s, ?_, hi, hk, ?_⟩
      · rw [if_neg (by omega)]
        simp [Addr.add_none]
      · rw [DRss_iff] at hx ⊢
        intro i x hix
        rw [List.getElem?_drop, List.getElem?_take] at hix
        split at hix
        · obtain ⟨g1, g2⟩ := hx (l + i) x hix
          exact ⟨g1, by rw [show off + l * s + i * s = off + (l + i) * s from by rw [Nat.add_mul]; omega]; exact g2⟩
        · cases hix

theorem ex_lst' {s : Nat} {xs : List (List DV)} {c : Value} (h : R O ι w (.ex s xs) c) : R O ι w (.d (.lst s xs)) c := by
  simp only [R, DR] at h ⊢
  obtain ⟨a, h1, h2⟩ := h
  exact ⟨a, _, h1, Nat.le_refl _, h2⟩
theorem slice_sim (hH : HR O ι H w) (h0 : ∀ b B, H0 b = some B → H b = some B) {t : TypeId} {x v : AV} {c : Value} {lo hi mx : Option AV} {lov hiv mxv : Option Value} {N : Nat → Prop} (hx : R O ι w x c) (hlo : OR O ι w lo lov) (hhi : OR O ι w hi hiv) (hmx : OR O ι w mx mxv) (he : sliceA P H0 t x lo hi mx = some v) :
    Sim P O ι H w N (Instr.sliceAt t c lov hiv mxv) ⟨v, []⟩ := by
  unfold sliceA at he
  cases ht : tsl P t with
  | none => simp [ht] at he
  | some q =>
    obtain ⟨e0, s0, by0⟩ := q
    obtain ⟨hsl, i0, z, hi0, hi1, _, _, _, _, _⟩ := tsl_some ht
    have hat : ∀ c, (Instr.sliceAt t c lov hiv mxv).run P w = (Instr.slice t c lov hiv mxv).run P w := by
      intro c
      simp [Instr.sliceAt, run_und hsl]
    simp only [ht] at he
    cases mx with
    | none =>
      cases mxv with
      | some v => exact hmx.elim
      | none =>
      simp only at he
      have base : ∀ {a : Option Addr} {len cap l h n : Nat}, boundsA n lo hi = some (l, h) → (hi = none → len = n) → n ≤ cap →
          (Instr.sliceAt t (.slice a len cap) lov hiv none).run P w = .ok (.slice (if cap = l then a else a.map (·.add (l * s0))) (h - l) (cap - l)) w ∧ l ≤ h ∧ h ≤ n := by
        intro a len cap l h n hb hlen hcap
        obtain ⟨g1, g2, g3⟩ := bounds_run (P := P) hb hlo hhi hlen hcap true
        refine ⟨?_, g2, g3⟩
        rw [hat]
        simp [Instr.slice, run_und hsl, g1, run_sizeI hi0, hi1]
      cases x with
      | d x =>
        cases x with
        | lst s xs =>
          simp only at he
          split at he
          · rename_i hs; subst hs
            cases hb : boundsA xs.length lo hi with
            | none => simp [hb] at he
            | some q =>
              obtain ⟨l, h⟩ := q
              simp [hb] at he; subst he
              have hx0 := hx
              simp only [R, DR] at hx
              obtain ⟨a, cap, rfl, hl, _⟩ := hx
              obtain ⟨g1, g2, g3⟩ := base (a := a) hb (fun _ => rfl) hl
              exact .still hH g1 (slice_val hx0 g2 g3)
          · cases he
        | _ => simp at he
      | ex s xs =>
        simp only at he
        split at he
        · rename_i hs; subst hs
          cases hb : boundsA xs.length lo hi with
          | none => simp [hb] at he
          | some q =>
            obtain ⟨l, h⟩ := q
            simp [hb] at he; subst he
            simp only [R] at hx
            obtain ⟨a, rfl, hx⟩ := hx
            obtain ⟨g1, g2, g3⟩ := base (a := a) hb (fun _ => rfl) (Nat.le_refl _)
            exact .still hH g1 (slice_val (by simp only [R, DR]; exact ⟨a, _, rfl, Nat.le_refl _, hx⟩) g2 g3)
        · cases he
      | nil s =>
        simp only at he
        cases hb : boundsA 0 lo hi with
        | none => simp [hb] at he
        | some q =>
          obtain ⟨l, h⟩ := q
          simp [hb] at he; subst he
          simp only [R] at hx; subst hx
          obtain ⟨g1, g2, g3⟩ := base (a := none) hb (fun _ => rfl) (Nat.le_refl _)
          refine .still hH g1 ?_
          have : h = 0 := by omega
          have : l = 0 := by omega
          subst_vars
          simp [R]
      | ref b ver off len =>
        simp only at he
        cases hb0 : H0 b with
        | none => simp [hb0] at he
        | some B =>
          cases B with
          | mp es => simp [hb0] at he
          | row s ver' data =>
            simp only [hb0] at he
            split at he
            · rename_i hc
              obtain ⟨rfl, hver⟩ := hc
              cases hb : boundsA (data.length - off) lo (some (hiOr len hi)) with
              | none => simp [hb] at he
              | some q =>
                obtain ⟨l, h⟩ := q
                simp [hb] at he; subst he
                have hx0 := hx
                simp only [R] at hx
                obtain ⟨e, he, hmp, hle, ⟨a, cap, rfl⟩, hsat⟩ := hx
                obtain ⟨B, hB, hbr⟩ := hH.blk b e he
                rw [h0 b _ hb0] at hB; cases hB
                obtain ⟨q1, q2, q3, q4, q5, q6⟩ := hbr
                have hsl2 := hsat (by omega)
                have hol : off + len ≤ data.length := by rw [← q4]; exact hsl2.le
                have hcap : data.length - off ≤ cap := by
                  unfold SliceAt at hsl2
                  cases hbk : e.blk with
                  | none => have := q5 hbk; subst this; simp
                  | some k =>
                    rw [hbk] at hsl2
                    obtain ⟨a', cap', h1, h2, h3, h4, h5, h6⟩ := hsl2
                    cases h1; omega
                have hrun : (Instr.sliceAt t (.slice a len cap) lov hiv none).run P w = .ok (.slice (if cap = l then a else a.map (·.add (l * s))) (h - l) (cap - l)) w ∧ l ≤ h ∧ h ≤ data.length - off := by
                  cases hi with
                  | some hx => exact base hb (fun h => by cases h) hcap
                  | none =>
                    cases hiv with
                    | some v => exact hhi.elim
                    | none =>
                      obtain ⟨g1, g2, g3⟩ := bounds_run (P := P) (len := len) (hiv := some (.int .i64 len)) hb hlo (by simp [OR, hiOr, R, DR]) (fun h => by cases h) hcap true
                      refine ⟨?_, g2, g3⟩
                      have hh : h = len := by
                        obtain ⟨hh, ll, b1, _, _, _, _, _, rfl⟩ := boundsA_some hb
                        simp [hiA, hiOr, asInt] at b1; omega
                      subst hh
                      have g4 : (Instr.sliceBounds true h cap lov none none).run P w = .ok (l, h, cap) w := by
                        rw [← g1]
                        unfold Instr.sliceBounds
                        have : h ≤ cap := by omega
                        simp [Instr.sliceBound, asIntOf, this]
                      rw [hat]
                      simp [Instr.slice, run_und hsl, g4, run_sizeI hi0, hi1]
                obtain ⟨g1, g2, g3⟩ := hrun
                refine .still hH g1 ?_
                simp only [R]
                refine ⟨e, he, hmp, hle, ⟨_, _, rfl⟩, fun hq => ?_⟩
                have hsl3 := hsat hq
                unfold SliceAt at hsl3 ⊢
                cases hbk : e.blk with
                | none =>
                  rw [hbk] at hsl3
                  obtain ⟨h1, h2, h3⟩ := hsl3
                  have := q5 hbk
                  subst this
                  cases h3
                  simp at g3
                  have : l = 0 := by omega
                  subst g3 this
                  simp [h1]
                | some k =>
                  rw [hbk] at hsl3
                  obtain ⟨a', cap', h1, h2, h3, h4, h5, h6⟩ := hsl3
                  cases h1
                  refine ⟨_, cap - l, rfl, by omega, by omega, by omega, ?_, fun hne => ?_⟩
                  · rw [show off + l + (cap - l) = off + cap from by omega]; exact h5
                  · rw [if_neg (by omega), h6 (by omega)]
                    simp only [Option.map_some, Addr.add_none]
                    rw [q2, Nat.add_mul, Nat.add_assoc]
            · cases he
      | _ => simp at he
    | some m =>
      cases mxv with
      | none => exact hmx.elim
      | some mv =>
      simp only at he
      -- with a bound on the capacity
      have base : ∀ {a : Option Addr} {len cap l h n : Nat} {hx : AV} {m' h' : Int}, hi = some hx → asInt m = some m' → asInt hx = some h' → boundsA n lo hi = some (l, h) → n ≤ cap → h' ≤ m' → m' ≤ cap →
          (Instr.sliceAt t (.slice a len cap) lov hiv (some mv)).run P w = .ok (.slice (if m'.toNat = l then a else a.map (·.add (l * s0))) (h - l) (m'.toNat - l)) w ∧ l ≤ h ∧ h ≤ n ∧ (h : Int) = h' := by
        intro a len cap l h n hx m' h' e1 e2 e3 hb hcap hm1 hm2
        subst e1
        cases hiv with
        | none => exact hhi.elim
        | some hv =>
          obtain ⟨k1, rfl⟩ := asInt_R e2 hmx
          obtain ⟨hh, ll, b1, _, b3, b4, _, _, rfl⟩ := boundsA_some hb
          have hhh : hh = h' := by simp [hiA, e3] at b1; exact b1.symm
          subst hhh
          obtain ⟨g1, g2, g3⟩ := bounds_run3 (P := P) (len := len) (k := k1) (m := m'.toNat) (cap := cap) hb hlo hhi (by omega) (by omega)
          refine ⟨?_, g2, g3, by omega⟩
          rw [hat]
          have : (m'.toNat : Int) = m' := by omega
          rw [this] at g1
          simp [Instr.slice, run_und hsl, g1, run_sizeI hi0, hi1]
      cases x with
      | d x =>
        cases x with
        | lst s xs =>
          cases hi with
          | none => simp at he
          | some hx' =>
            cases em : asInt m with
            | none => simp [em] at he
            | some m' =>
              cases eh : asInt hx' with
              | none => simp [em, eh] at he
              | some h' =>
                simp only [em, eh] at he
                split at he
                · rename_i hc
                  obtain ⟨rfl, rfl⟩ := hc
                  cases hb : boundsA xs.length lo (some hx') with
                  | none => simp [hb] at he
                  | some q =>
                    obtain ⟨l, h⟩ := q
                    simp [hb] at he; subst he
                    have hx0 := hx
                    simp only [R, DR] at hx
                    obtain ⟨a, cap, rfl, hl, hx⟩ := hx
                    have hle : m' ≤ cap := by
                      obtain ⟨hh, ll, b1, _, _, _, b5, _, _⟩ := boundsA_some hb
                      simp [hiA, eh] at b1; omega
                    obtain ⟨g1, g2, g3, g4⟩ := base (a := a) (len := xs.length) rfl em eh hb hl (Int.le_refl _) hle
                    have := slice_val hx0 g2 g3
                    refine .still hH g1 ?_
                    have hmh : m'.toNat = h := by omega
                    rw [hmh]
                    simp only [R]
                    have hlen : ((xs.take h).drop l).length = h - l := by simp; omega
                    rw [hlen]
                    refine ⟨_, rfl, ?_⟩
                    by_cases hz : (xs.take h).drop l = []
                    · exact .inl hz
                    · right
                      have hpos : 0 < h - l := by rw [← hlen]; exact List.length_pos_iff.2 hz
                      simp only [R, DR, hlen] at this
                      obtain ⟨a2, cap2, q1, q2, q3⟩ := this
                      cases q1
                      rcases q3 with q3 | q3
                      · exact absurd q3 hz
                      · rw [if_neg (by omega)] at q3
                        rw [if_neg (by omega)]
                        exact q3
                · cases he
        | _ => simp at he
      | nil s =>
        cases hi with
        | none => simp at he
        | some hx' =>
          cases em : asInt m with
          | none => simp [em] at he
          | some m' =>
            cases eh : asInt hx' with
            | none => simp [em, eh] at he
            | some h' =>
              simp only [em, eh] at he
              split at he
              · rename_i hc; subst hc
                cases hb : boundsA 0 lo (some hx') with
                | none => simp [hb] at he
                | some q =>
                  obtain ⟨l, h⟩ := q
                  simp [hb] at he; subst he
                  simp only [R] at hx; subst hx
                  have hle : m' ≤ (0 : Nat) := by
                    obtain ⟨hh, ll, b1, _, _, _, b5, _, _⟩ := boundsA_some hb
                    simp [hiA, eh] at b1; omega
                  obtain ⟨g1, g2, g3, g4⟩ := base (a := none) (len := 0) rfl em eh hb (Nat.le_refl _) (Int.le_refl _) hle
                  refine .still hH g1 ?_
                  have : h = 0 := by omega
                  have : l = 0 := by omega
                  have hm0 : m'.toNat = 0 := by omega
                  subst h l
                  simp [R, hm0]
              · cases he
      | ref b ver off len =>
        cases hi with
        | none => simp at he
        | some hx' =>
          cases em : asInt m with
          | none => simp [em] at he
          | some m' =>
            cases eh : asInt hx' with
            | none => simp [em, eh] at he
            | some h' =>
              cases hb0 : H0 b with
              | none => simp [em, eh, hb0] at he
              | some B =>
                cases B with
                | mp es => simp [em, eh, hb0] at he
                | row s ver' data =>
                  simp only [em, eh, hb0] at he
                  split at he
                  · rename_i hc
                    obtain ⟨rfl, hver, hm1, hm2⟩ := hc
                    cases hb : boundsA (data.length - off) lo (some hx') with
                    | none => simp [hb] at he
                    | some q =>
                      obtain ⟨l, h⟩ := q
                      simp only [hb] at he
                      simp only [R] at hx
                      obtain ⟨e, hie, hmp, hle, ⟨a, cap, rfl⟩, hsat⟩ := hx
                      obtain ⟨B, hB, hbr⟩ := hH.blk b e hie
                      rw [h0 b _ hb0] at hB; cases hB
                      obtain ⟨q1, q2, q3, q4, q5, q6⟩ := hbr
                      have hsl2 := hsat (by omega)
                      have hol : off + len ≤ data.length := by rw [← q4]; exact hsl2.le
                      have hcap : data.length - off ≤ cap := by
                        unfold SliceAt at hsl2
                        cases hbk : e.blk with
                        | none => have := q5 hbk; subst this; simp
                        | some k =>
                          rw [hbk] at hsl2
                          obtain ⟨a', cap', h1, h2, h3, h4, h5, h6⟩ := hsl2
                          cases h1; omega
                      obtain ⟨g1, g2, g3, g4⟩ := base (a := a) (len := len) rfl em eh hb hcap hm1 (by omega)
                      split at he
                      · rename_i hl
                        obtain ⟨rfl, rfl⟩ := hl
                        simp at he; subst he
                        refine .still hH g1 ?_
                        have hml : m'.toNat = l := by omega
                        have hv : (Value.slice (if m'.toNat = l then a else Option.map (fun x => x.add (l * s)) a) (l - l) (m'.toNat - l)) = .slice a 0 0 := by simp [hml]
                        rw [hv]
                        simp only [R]
                        exact ⟨a, rfl, Or.inl trivial⟩
                      · simp at he; subst he
                        exact .still hH g1 (by simp [R])
                  · cases he
      | ex s xs =>
        cases hi with
        | none => simp at he
        | some hx' =>
          cases em : asInt m with
          | none => simp [em] at he
          | some m' =>
            cases eh : asInt hx' with
            | none => simp [em, eh] at he
            | some h' =>
              simp only [em, eh] at he
              split at he
              · rename_i hc
                obtain ⟨rfl, rfl⟩ := hc
                cases hb : boundsA xs.length lo (some hx') with
                | none => simp [hb] at he
                | some q =>
                  obtain ⟨l, h⟩ := q
                  simp [hb] at he; subst he
                  have hx0 := ex_lst' hx
                  have hx := ex_lst' hx
                  simp only [R, DR] at hx
                  obtain ⟨a, cap, rfl, hl, hx⟩ := hx
                  have hle : m' ≤ cap := by
                    obtain ⟨hh, ll, b1, _, _, _, b5, _, _⟩ := boundsA_some hb
                    simp [hiA, eh] at b1; omega
                  obtain ⟨g1, g2, g3, g4⟩ := base (a := a) (len := xs.length) rfl em eh hb hl (Int.le_refl _) hle
                  have := slice_val hx0 g2 g3
                  refine .still hH g1 ?_
                  have hmh : m'.toNat = h := by omega
                  rw [hmh]
                  simp only [R]
                  have hlen : ((xs.take h).drop l).length = h - l := by simp; omega
                  rw [hlen]
                  refine ⟨_, rfl, ?_⟩
                  by_cases hz : (xs.take h).drop l = []
                  · exact .inl hz
                  · right
                    have hpos : 0 < h - l := by rw [← hlen]; exact List.length_pos_iff.2 hz
                    simp only [R, DR, hlen] at this
                    obtain ⟨a2, cap2, q1, q2, q3⟩ := this
                    cases q1
                    rcases q3 with q3 | q3
                    · exact absurd q3 hz
                    · rw [if_neg (by omega)] at q3
                      rw [if_neg (by omega)]
                      exact q3
              · cases he
      | _ => simp at he
end Go.AI
