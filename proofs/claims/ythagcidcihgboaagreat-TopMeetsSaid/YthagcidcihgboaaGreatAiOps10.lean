/-
  Own work. Operations on maps whose keys are numbers or flat structs.
-/
import Derived.Test.YthagcidcihgboaaGreatAiOps9
import Derived.MapKept
import Derived.WideKeyRuns
namespace Go.AI
open Go
set_option linter.unusedVariables false
set_option linter.unusedSimpArgs false
variable {P : Program} {O : Nat → Prop} {ι : Inj} {H H0 : Heap} {w : World}

theorem EntR.mono' {ι' : Inj} {w' : World} (hx : Ex ι w ι' w') : ∀ {es : List (AV × AV)} {l : List MapEntry}, EntR O ι w es l → EntR O ι' w' es l
  | [], _, h => by simpa [EntR] using h
  | e :: es, _, h => by
    simp only [EntR] at h ⊢
    obtain ⟨m, l', rfl, h1, h2, h3⟩ := h
    exact ⟨m, l', rfl, h1.mono hx, h2.mono hx, h3.mono' hx⟩
theorem EntR.len : ∀ {es : List (AV × AV)} {l : List MapEntry}, EntR O ι w es l → es.length = l.length
  | [], _, h => by simp only [EntR] at h; rw [h]; rfl
  | e :: es, _, h => by
    simp only [EntR] at h
    obtain ⟨m, l', rfl, _, _, h3⟩ := h
    simp [h3.len]
theorem EntR.get : ∀ {es : List (AV × AV)} {l : List MapEntry} {i : Nat} {x : AV × AV} {m : MapEntry}, EntR O ι w es l → es[i]? = some x → l[i]? = some m → R O ι w x.1 m.key ∧ R O ι w x.2 m.val
  | [], _, i, x, m, h, hx, _ => by simp at hx
  | e :: es, _, 0, x, m, h, hx, hm => by
    simp only [EntR] at h
    obtain ⟨m', l', rfl, h1, h2, _⟩ := h
    simp at hx hm; subst hx; subst hm
    exact ⟨h1, h2⟩
  | e :: es, _, i + 1, x, m, h, hx, hm => by
    simp only [EntR] at h
    obtain ⟨m', l', rfl, _, _, h3⟩ := h
    exact h3.get (by simpa using hx) (by simpa using hm)
theorem EntR.of : ∀ {es : List (AV × AV)} {l : List MapEntry}, es.length = l.length → (∀ (i : Nat) x m, es[i]? = some x → l[i]? = some m → R O ι w x.1 m.key ∧ R O ι w x.2 m.val) → EntR O ι w es l
  | [], [], _, _ => by simp [EntR]
  | [], m :: l, h, _ => by simp at h
  | e :: es, [], h, _ => by simp at h
  | e :: es, m :: l, h, hg => by
    simp only [EntR]
    obtain ⟨h1, h2⟩ := hg 0 e m rfl rfl
    exact ⟨m, l, rfl, h1, h2, EntR.of (by simpa using h) fun i x m' hx hm => hg (i + 1) x m' (by simpa using hx) (by simpa using hm)⟩

/-! ### Made, and written -/
theorem new_map (hH : HR O ι H w) {fr : Nat} (hf : ι fr = none) (n : Nat) :
    HR O (iset ι fr (some ⟨some w.heap.size, 0, 0, 0, 0, 0, true⟩)) (hset H fr (some (.mp []))) { w with heap := w.heap.push (.map #[] 0), drawn := n } ∧
    Ex ι w (iset ι fr (some ⟨some w.heap.size, 0, 0, 0, 0, 0, true⟩)) { w with heap := w.heap.push (.map #[] 0), drawn := n } := by
  have ho : Only w { w with heap := w.heap.push (.map #[] 0), drawn := n } ((ι fr).bind (·.blk)) 0 0 := Only.push w _ n _ _ _
  have hr : ∀ e, ι fr = some e → 0 = e.base ∧ 0 = e.base + e.cells ∧ e.mp = (⟨some w.heap.size, 0, 0, 0, 0, 0, true⟩ : CB).mp ∧ e.ver ≤ (⟨some w.heap.size, 0, 0, 0, 0, 0, true⟩ : CB).ver ∧
      (e.ver = (⟨some w.heap.size, 0, 0, 0, 0, 0, true⟩ : CB).ver ∨ e.mp = true → (⟨some w.heap.size, 0, 0, 0, 0, 0, true⟩ : CB) = e) := fun e he => by rw [hf] at he; cases he
  have hk : ∀ k, (⟨some w.heap.size, 0, 0, 0, 0, 0, true⟩ : CB).blk = some k → w.heap.size ≤ k ∨ ∃ e, ι fr = some e ∧ e.blk = some k ∧ (0 : Nat) = e.base ∧ 0 = e.cells := fun k hk => by
    simp at hk; exact .inl (by omega)
  have hx := Ex.upd hH ho hr hk
  refine ⟨HR.upd hH ho hr hk ?_, hx⟩
  exact ⟨rfl, w.heap.size, #[], 0, rfl, by simp, by simp [EntR]⟩
theorem makeMap_sim (hH : HR O ι H w) {fr : Nat} (hf : ι fr = none) {N : Nat → Prop} (hN : N fr) {s : Sem Value} (hs : s.run P w = (do pure (.map (some (← newObj (.map #[] 0)))) : Sem Value).run P w) :
    Sim P O ι H w N s ⟨.map fr, [(fr, some (.mp []))]⟩ := by
  obtain ⟨q1, q2⟩ := new_map hH hf w.drawn
  refine ⟨.map (some w.heap.size), { w with heap := w.heap.push (.map #[] 0) }, _, by rw [hs]; simp [newObj]; rfl, q1, ?_, q2, new_names hN⟩
  simp only [R]
  exact ⟨_, w.heap.size, iset_same .., rfl, rfl, rfl⟩
theorem set_map (hH : HR O ι H w) {b k c' : Nat} {e : CB} (he : ι b = some e) (hm : e.mp = true) (hk : e.blk = some k) {l l' : Array MapEntry} {c : Nat} (hl : w.heap[k]? = some (.map l c)) {es : List (AV × AV)} (hes : EntR O ι w es l'.toList) :
    HR O ι (hset H b (some (.mp es))) { w with heap := w.heap.setIfInBounds k (.map l' c') } ∧ Ex ι w ι { w with heap := w.heap.setIfInBounds k (.map l' c') } := by
  obtain ⟨g1, g2⟩ := Go.MapKept.heap_set (o' := .map l' c') hl
  have ho : Only w { w with heap := w.heap.setIfInBounds k (.map l' c') } ((ι b).bind (·.blk)) e.base (e.base + e.cells) := by
    refine ⟨rfl, rfl, rfl, by simp, fun k2 _ hne => ?_, fun k2 cs t fz h1 h2 => ?_⟩
    · exact g2 k2 (fun e2 => hne (by rw [he, e2]; exact hk))
    · rw [he] at h1
      have : k = k2 := by simpa [hk] using h1
      subst this
      rw [hl] at h2; cases h2
  have hr : ∀ e2, ι b = some e2 → e.base = e2.base ∧ e.base + e.cells = e2.base + e2.cells ∧ e2.mp = e.mp ∧ e2.ver ≤ e.ver ∧ (e2.ver = e.ver ∨ e2.mp = true → e = e2) := fun e2 h => by
    rw [he] at h; cases h
    exact ⟨rfl, rfl, rfl, Nat.le_refl _, fun _ => rfl⟩
  have hk' : ∀ k2, e.blk = some k2 → w.heap.size ≤ k2 ∨ ∃ e2, ι b = some e2 ∧ e2.blk = some k2 ∧ e.base = e2.base ∧ e.cells = e2.cells := fun k2 h => .inr ⟨e, he, h, rfl, rfl⟩
  have hx := Ex.upd hH ho hr hk'
  have hh := HR.upd (B' := .mp es) hH ho hr hk' ⟨hm, k, l', c', hk, g1, hes.mono' hx⟩
  rw [iset_self he] at hx hh
  exact ⟨hh, hx⟩

/-! ### Where a key is -/
def posA (ks : Option (List Bool)) (k : AV) : List (AV × AV) → Option (Option Nat)
  | [] => some none
  | e :: r => match keyEq ks k e.1 with
    | some true => some (some 0)
    | some false => (match posA ks k r with | some p => some (p.map (· + 1)) | none => none)
    | none => none
theorem posA_find {ks : Option (List Bool)} {k : AV} : ∀ {es : List (AV × AV)} {r : Option AV}, findA ks k es = some r → ∃ p, posA ks k es = some p ∧ r = p.bind fun i => es[i]?.map (·.2)
  | [], r, h => by simp [findA] at h; subst h; exact ⟨none, rfl, rfl⟩
  | e :: es, r, h => by
    simp only [findA] at h
    simp only [posA]
    cases hk : keyEq ks k e.1 with
    | none => simp [hk] at h
    | some b =>
      cases b with
      | true => simp [hk] at h; subst h; exact ⟨some 0, rfl, rfl⟩
      | false =>
        simp only [hk] at h
        obtain ⟨p, h1, h2⟩ := posA_find h
        refine ⟨p.map (· + 1), by rw [h1], ?_⟩
        rw [h2]
        cases p <;> rfl
theorem posA_put {ks : Option (List Bool)} {k v : AV} : ∀ {es es' : List (AV × AV)}, putA ks k v es = some es' → ∃ p, posA ks k es = some p ∧ es' = (match p with | none => es ++ [(k, v)] | some i => es.set i (k, v))
  | [], es', h => by simp [putA] at h; subst h; exact ⟨none, rfl, rfl⟩
  | e :: es, es', h => by
    simp only [putA] at h
    simp only [posA]
    cases hk : keyEq ks k e.1 with
    | none => simp [hk] at h
    | some b =>
      cases b with
      | true => simp [hk] at h; subst h; exact ⟨some 0, rfl, rfl⟩
      | false =>
        simp only [hk] at h
        cases hp : putA ks k v es with
        | none => simp [hp] at h
        | some l =>
          simp [hp] at h; subst h
          obtain ⟨p, h1, h2⟩ := posA_put hp
          refine ⟨p.map (· + 1), by rw [h1], ?_⟩
          rw [h2]
          cases p <;> rfl
theorem posA_at {ks : Option (List Bool)} {k : AV} : ∀ {es : List (AV × AV)} {i : Nat}, posA ks k es = some (some i) → ∃ e, es[i]? = some e ∧ keyEq ks k e.1 = some true
  | [], i, h => by simp [posA] at h
  | e :: es, i, h => by
    simp only [posA] at h
    cases hk : keyEq ks k e.1 with
    | none => simp [hk] at h
    | some b =>
      cases b with
      | true => simp [hk] at h; subst h; exact ⟨e, rfl, hk⟩
      | false =>
        simp only [hk] at h
        cases hp : posA ks k es with
        | none => simp [hp] at h
        | some p =>
          simp [hp] at h
          obtain ⟨j, rfl, rfl⟩ := h
          obtain ⟨e', h1, h2⟩ := posA_at hp
          exact ⟨e', by simpa using h1, h2⟩
/-- A map's key type is of such a kind. -/
def KindOf (P : Program) (kt : TypeId) (ks : Option (List Bool)) : Prop := match ks with
  | none => ∃ k, P.underlying kt = some (.int k)
  | some l => (∃ fs, P.underlying kt = some (.struct fs)) ∧ flatS P kt = some l
theorem keyEq_none {a b : AV} {r : Bool} {c d : Value} (h : keyEq none a b = some r) (h1 : R O ι w a c) (h2 : R O ι w b d) : ∃ k x y, c = .int k x ∧ d = .int k y ∧ r = (x == y) := by
  unfold keyEq at h
  split at h
  · rename_i x y _
    simp only [R, DR] at h1 h2
    subst h1; subst h2
    exact scalarEq_num h
  · rename_i hx; cases hx
  · cases h
theorem keyEq_some {l : List Bool} {a b : AV} {r : Bool} {c d : Value} (h : keyEq (some l) a b = some r) (h1 : R O ι w a c) (h2 : R O ι w b d) : ∃ xs ys m n, a = .agg xs ∧ b = .agg ys ∧ c = .agg m.toArray ∧ d = .agg n.toArray ∧ Rl O ι w xs m ∧ Rl O ι w ys n ∧ eqCells l xs ys = some r := by
  unfold keyEq at h
  split at h
  · rename_i hx; cases hx
  · rename_i ks xs ys hx
    cases hx
    simp only [R] at h1 h2
    obtain ⟨m, rfl, h3, _⟩ := h1
    obtain ⟨n, rfl, h4, _⟩ := h2
    exact ⟨xs, ys, m, n, rfl, rfl, rfl, rfl, h3, h4, h⟩
  · cases h
theorem find_now {k : AV} {c : Value} (hc : R O ι w k c) (kd : IntKind) : ∀ {es : List (AV × AV)} {l : List MapEntry} {p : Option Nat} (i0 : Nat), EntR O ι w es l → posA none k es = some p →
    Instr.findNow (.int kd) c l i0 = some (p.bind fun i => l[i]?.map fun m => (i0 + i, m.val))
  | [], l, p, i0, h, hp => by simp only [EntR] at h; subst h; simp [posA] at hp; subst hp; rfl
  | e :: es, l, p, i0, h, hp => by
    simp only [EntR] at h
    obtain ⟨m, l', rfl, h1, h2, h3⟩ := h
    simp only [posA] at hp
    cases hk : keyEq none k e.1 with
    | none => simp [hk] at hp
    | some b =>
      obtain ⟨kk, x, y, rfl, hy, rfl⟩ := keyEq_none hk hc h1
      have hs : Instr.sameNow (.int kd) (.int kk x) m.key = some (x == y) := by rw [hy]; simp [Instr.sameNow]
      rw [Instr.findNow, hs]
      cases hb : (x == y) with
      | true => rw [hb] at hk; simp [hk] at hp; subst hp; rfl
      | false =>
        rw [hb] at hk
        simp only [hk] at hp
        cases hq : posA none k es with
        | none => simp [hq] at hp
        | some q =>
          simp [hq] at hp; subst hp
          simp only
          rw [find_now hc kd (i0 + 1) h3 hq]
          cases q with
          | none => rfl
          | some j =>
            simp only [Option.map_some, Option.bind_some, List.getElem?_cons_succ]
            rw [show i0 + (j + 1) = i0 + 1 + j by omega]
theorem find_ask {kt : TypeId} {ks : List Bool} (hks : flatS P kt = some ks) {k : AV} {c : Value} (hc : R O ι w k c) : ∀ {es : List (AV × AV)} {l : List MapEntry} {p : Option Nat} (i0 : Nat), EntR O ι w es l → posA (some ks) k es = some p →
    (Instr.findAsking kt c l i0).run P w = .ok (p.bind fun i => l[i]?.map fun m => (i0 + i, m.val)) w
  | [], l, p, i0, h, hp => by simp only [EntR] at h; subst h; simp [posA] at hp; subst hp; rfl
  | e :: es, l, p, i0, h, hp => by
    simp only [EntR] at h
    obtain ⟨m, l', rfl, h1, h2, h3⟩ := h
    simp only [posA] at hp
    cases hk : keyEq (some ks) k e.1 with
    | none => simp [hk] at hp
    | some b =>
      obtain ⟨xs, ys, u, v, rfl, hye, rfl, hv, r1, r2, he⟩ := keyEq_some hk hc h1
      have hq := (eq_struct (P := P) hks he r1 r2).1
      have hq' : (Op.equal kt (.agg u.toArray) m.key).run P w = .ok b w := by rw [hv]; exact hq
      rw [Instr.findAsking]
      simp only [Sem.run_bind, hq', Result.andThen_ok]
      cases b with
      | true => simp [hk] at hp; subst hp; simp
      | false =>
        simp only [hk] at hp
        cases hq : posA (some ks) (.agg xs) es with
        | none => simp [hq] at hp
        | some q =>
          simp [hq] at hp; subst hp
          simp only [Bool.false_eq_true, if_false]
          rw [find_ask hks hc (i0 + 1) h3 hq]
          cases q with
          | none => rfl
          | some j =>
            simp only [Option.map_some, Option.bind_some, List.getElem?_cons_succ]
            rw [show i0 + (j + 1) = i0 + 1 + j by omega]
theorem find_key {kt : TypeId} {ks : Option (List Bool)} (hks : KindOf P kt ks) {k : AV} {c : Value} (hc : R O ι w k c) {es : List (AV × AV)} {l : List MapEntry} {p : Option Nat} (h : EntR O ι w es l) (hp : posA ks k es = some p) :
    (Instr.findKey kt c l).run P w = .ok (p.bind fun i => l[i]?.map fun m => (i, m.val)) w := by
  cases ks with
  | none =>
    obtain ⟨kd, hu⟩ := hks
    have := find_now hc kd 0 h hp
    simp only [Nat.zero_add] at this
    exact Go.MapKept.run_findKey hu this
  | some ks =>
    obtain ⟨⟨fs, hu⟩, hf⟩ := hks
    rw [run_findKey_eq w (by rw [hu])]
    have := find_ask hf hc 0 h hp
    simpa only [Nat.zero_add] using this
theorem check_flat (em : Bool) : ∀ (n : Nat) {t : TypeId} {ks : List Bool} {X : Array Value} {off : Nat}, flatT P n t = some ks → off + ks.length ≤ X.size → ∀ d, n ≤ d →
    (Instr.checkKey em d t (partOf P t X off ks.length)).run P w = .ok () w
  | 0, t, ks, X, off, h, _, d, _ => by simp [flatT] at h
  | n + 1, t, ks, X, off, h, hx, d, hd => by
    obtain ⟨d, rfl⟩ : ∃ d', d = d' + 1 := ⟨d - 1, by omega⟩
    simp only [flatT] at h
    unfold partOf
    split at h
    · rename_i hu
      simp [Instr.checkKey, run_und hu, hu]
    · rename_i k hu
      simp [Instr.checkKey, run_und hu, hu]
    · rename_i fs hu
      split at h
      · cases h
      · simp only [hu]
        rw [Instr.checkKey]
        simp only [Sem.run_bind, run_und hu, Result.andThen_ok]
        rw [← Array.forIn_toList]
        have key : ∀ (l : List Field) (o : Nat) (k2 : List Bool), flatFs P (flatT P n) l o = some k2 → o + k2.length = ks.length →
            (forIn l PUnit.unit fun f r => (do
              if f.name ≠ "_" then
                Instr.checkKey em d f.type (← part f.type (X.extract off (off + ks.length)) f.offset)
                pure PUnit.unit
                pure (ForInStep.yield PUnit.unit)
              else
                pure PUnit.unit
                pure (ForInStep.yield PUnit.unit) : Sem (ForInStep PUnit))).run P w = .ok PUnit.unit w := by
          intro l
          induction l with
          | nil => intro o k2 _ _; simp
          | cons f l ih =>
            intro o k2 h1 ho2
            simp only [flatFs] at h1
            split at h1
            · rename_i hc
              obtain ⟨hn, ho⟩ := hc
              cases hg : flatT P n f.type with
              | none => simp [hg] at h1
              | some k =>
                simp only [hg] at h1
                split at h1
                · rename_i hsz
                  cases hr : flatFs P (flatT P n) l (o + k.length) with
                  | none => simp [hr] at h1
                  | some k3 =>
                    simp [hr] at h1; subst h1
                    simp only [List.length_append] at ho2
                    have s1 : o + k.length ≤ (X.extract off (off + ks.length)).size := by simp; omega
                    have := check_flat em n (X := X.extract off (off + ks.length)) hg s1 d (by omega)
                    simp only [List.forIn_cons, hn, ne_eq, not_false_iff, if_true, Sem.run_bind, ho, flat_part hg s1 hsz, Result.andThen_ok, this, Sem.run_pure]
                    exact ih (o + k.length) k3 hr (by omega)
                · cases h1
            · cases h1
        have := key fs.toList 0 ks h (by omega)
        simp at this ⊢
        rw [this]
        rfl
    · cases h
theorem check_key {kt : TypeId} {ks : Option (List Bool)} (hks : KindOf P kt ks) {k : AV} {c : Value} (hc : R O ι w k c) (hk : keyOk ks k = true) (em : Bool) : (Instr.checkKey em 10000 kt c).run P w = .ok () w := by
  unfold keyOk at hk
  obtain ⟨r, hr⟩ := Option.isSome_iff_exists.1 hk
  cases ks with
  | none =>
    obtain ⟨kd, hu⟩ := hks
    obtain ⟨kk, x, y, rfl, _, _⟩ := keyEq_none hr hc hc
    rw [Instr.checkKey]
    simp only [Sem.run_bind, run_und hu, Result.andThen_ok]
    rfl
  | some ks =>
    obtain ⟨⟨fs, hu⟩, hf⟩ := hks
    obtain ⟨xs, ys, u, v, rfl, hye, rfl, hv, r1, r2, he⟩ := keyEq_some hr hc hc
    have hv := (eqV_len (eqCells_V he r1 r2)).1
    unfold flatS at hf
    rw [hu] at hf
    simp only at hf
    split at hf
    · cases hf
    · have := check_flat (w := w) em 9 (X := u.toArray) (off := 0) hf (by simp [hv]) 10000 (by omega)
      unfold partOf at this
      simp only [hu, Nat.zero_add] at this
      rwa [show u.toArray.extract 0 ks.length = u.toArray by rw [← hv]; simp] at this
theorem scalar_same {b : Bool} {x y : Value} (h : scalarEq b x y = some true) : x = y ∧ ∀ n, Instr.sameBits n x x = true := by
  cases b with
  | true =>
    obtain ⟨p, q, rfl, rfl, h2⟩ := scalarEq_bool h
    have : p = q := by simpa using h2.symm
    exact ⟨by rw [this], fun n => by cases n <;> simp [Instr.sameBits]⟩
  | false =>
    obtain ⟨k, p, q, rfl, rfl, h2⟩ := scalarEq_num h
    have : p = q := by simpa using h2.symm
    exact ⟨by rw [this], fun n => by cases n <;> simp [Instr.sameBits]⟩
theorem eqV_same : ∀ {ks : List Bool} {l m : List Value}, eqV ks l m = some true → l = m ∧ ∀ x ∈ l, ∀ n, Instr.sameBits n x x = true
  | [], [], [], _ => ⟨rfl, fun x hx => by simp at hx⟩
  | [], [], y :: m, h => by simp [eqV] at h
  | [], x :: l, _, h => by simp [eqV] at h
  | k :: ks, [], _, h => by simp [eqV] at h
  | k :: ks, x :: l, [], h => by simp [eqV] at h
  | k :: ks, x :: l, y :: m, h => by
    simp only [eqV] at h
    cases h1 : scalarEq k x y with
    | none => simp [h1] at h
    | some p =>
      cases h2 : eqV ks l m with
      | none => simp [h1, h2] at h
      | some q =>
        simp [h1, h2] at h
        obtain ⟨rfl, rfl⟩ := h
        obtain ⟨g1, g2⟩ := scalar_same h1
        obtain ⟨g3, g4⟩ := eqV_same h2
        exact ⟨by rw [g1, g3], fun z hz => by
          rcases List.mem_cons.1 hz with rfl | hz
          · exact g2
          · exact g4 z hz⟩
theorem key_stays {ks : Option (List Bool)} {a b : AV} {c d : Value} (h : keyEq ks a b = some true) (h1 : R O ι w a c) (h2 : R O ι w b d) : (Instr.keyThatStays d c).run P w = .ok c w := by
  have key : d = c ∧ Instr.sameBits 10000 c c = true := by
    cases ks with
    | none =>
      obtain ⟨k, x, y, rfl, rfl, h3⟩ := keyEq_none h h1 h2
      have : x = y := by simpa using h3.symm
      exact ⟨by rw [this], by simp [Instr.sameBits]⟩
    | some ks =>
      obtain ⟨xs, ys, m, n, rfl, rfl, rfl, rfl, r1, r2, he⟩ := keyEq_some h h1 h2
      obtain ⟨g1, g2⟩ := eqV_same (eqCells_V he r1 r2)
      subst g1
      refine ⟨rfl, ?_⟩
      rw [show (10000 : Nat) = 9999 + 1 from rfl, Instr.sameBits]
      simp only [beq_self_eq_true, Bool.true_and, List.all_eq_true]
      intro p hp
      have : p.1 = p.2 ∧ p.1 ∈ m := by
        obtain ⟨i, hi⟩ := List.mem_iff_getElem?.1 hp
        rw [List.getElem?_zip_eq_some] at hi
        have h3 := hi.1; have h4 := hi.2
        rw [h3] at h4
        exact ⟨by simpa using h4, List.mem_of_getElem? h3⟩
      rw [← this.1]
      exact g2 _ this.2 _
  rw [key.1]
  simp [Instr.keyThatStays, key.2]

/-! ### Operations -/
theorem tmap_some {t : TypeId} {ks : Option (List Bool)} {z : Value} (h : tmap P t = some (ks, z)) : ∃ kt e i, P.underlying t = some (.map kt e) ∧ KindOf P kt ks ∧ P.info? e = some i ∧ i.zero = some z := by
  unfold tmap at h
  split at h
  · rename_i kt e hu
    cases hz : tmapZ P e with
    | none => simp [hz] at h
    | some zv =>
      unfold tmapZ at hz
      split at hz
      · rename_i i hi
        have hz' : i.zero = some zv := by
          split at hz <;> first | (cases hz; assumption) | cases hz
        rw [show tmapZ P e = some zv by unfold tmapZ; rw [hi]; exact hz] at h
        split at h
        · rename_i k zz hk hzz
          cases hzz; cases h
          exact ⟨kt, e, i, hu, ⟨k, hk⟩, hi, hz'⟩
        · rename_i fs zz hk hzz
          cases hzz
          split at h
          · rename_i l hl
            cases h
            exact ⟨kt, e, i, hu, ⟨⟨fs, hk⟩, hl⟩, hi, hz'⟩
          · cases h
        · cases h
      · cases hz
  · cases h
theorem map_at (hH : HR O ι H w) (h0 : ∀ b B, H0 b = some B → H b = some B) {b : Nat} {c : Value} (hx : R O ι w (.map b) c) {es : List (AV × AV)} (hB : H0 b = some (.mp es)) :
    ∃ e k l cl, ι b = some e ∧ e.mp = true ∧ e.blk = some k ∧ c = .map (some k) ∧ w.heap[k]? = some (.map l cl) ∧ EntR O ι w es l.toList := by
  simp only [R] at hx
  obtain ⟨e, k, h1, h2, h3, rfl⟩ := hx
  obtain ⟨B, g1, g2⟩ := hH.blk b e h1
  rw [h0 b _ hB] at g1
  cases g1
  obtain ⟨_, k', l, cl, g3, g4, g5⟩ := g2
  rw [h3] at g3; cases g3
  exact ⟨e, k, l, cl, h1, h2, h3, rfl, g4, g5⟩
theorem lookup_sim (hH : HR O ι H w) (h0 : ∀ b B, H0 b = some B → H b = some B) {t : TypeId} {ks : Option (List Bool)} {z : Value} (ht : tmap P t = some (ks, z)) {b : Nat} {c ck : Value} (hx : R O ι w (.map b) c) {es : List (AV × AV)} (hB : H0 b = some (.mp es))
    {k : AV} (hk : R O ι w k ck) (hok : keyOk ks k = true) {r : Option AV} (hf : findA ks k es = some r) (ok : Bool) {N : Nat → Prop} :
    Sim P O ι H w N (Instr.lookup t c ck ok) ⟨if ok then .tup [(r.getD (.d (.v z))), .d (.v (.bool r.isSome))] else r.getD (.d (.v z)), []⟩ := by
  obtain ⟨kt, e, i, hu, hks, hi, hz⟩ := tmap_some ht
  obtain ⟨eb, kk, l, cl, g1, g2, g3, rfl, g4, g5⟩ := map_at hH h0 hx hB
  obtain ⟨p, hp, hr⟩ := posA_find hf
  have hck := check_key hks hk hok l.isEmpty
  have hfk := find_key hks hk g5 hp
  cases p with
  | none =>
    simp only [Option.bind_none] at hr hfk
    subst hr
    refine Sim.still hH (cv := if ok then .tuple #[z, .bool false] else z) ?_ ?_
    · simp [Instr.lookup, run_und hu, Go.MapKept.run_getObj_map g4, hck, hfk, run_zero hi hz]
    · cases ok <;> simp [R, Rl, DR]
  | some j =>
    obtain ⟨ee, h1, _⟩ := posA_at hp
    have hj : j < l.toList.length := by
      have := g5.len
      have := (List.getElem?_eq_some_iff.1 h1).1
      omega
    have hm : l.toList[j]? = some l.toList[j] := List.getElem?_eq_getElem hj
    obtain ⟨_, rv⟩ := g5.get h1 hm
    simp only [Option.bind_some, h1, Option.map_some] at hr
    simp only [Option.bind_some, hm, Option.map_some] at hfk
    subst hr
    refine Sim.still hH (cv := if ok then .tuple #[l.toList[j].val, .bool true] else l.toList[j].val) ?_ ?_
    · simp [Instr.lookup, run_und hu, Go.MapKept.run_getObj_map g4, hck]
      rw [hfk]
      simp
    · cases ok
      · simpa using rv
      · simp only [if_true, R, Option.getD_some, Option.isSome_some]
        exact ⟨[l.toList[j].val, .bool true], rfl, by simp only [Rl]; exact ⟨_, _, rfl, rv, _, _, rfl, by simp [R, DR], rfl⟩⟩
theorem update_sim (hH : HR O ι H w) (h0 : ∀ b B, H0 b = some B → H b = some B) {t : TypeId} {ks : Option (List Bool)} {z : Value} (ht : tmap P t = some (ks, z)) {b : Nat} {c ck cv : Value} (hx : R O ι w (.map b) c) {es es' : List (AV × AV)} (hB : H0 b = some (.mp es))
    {k v : AV} (hk : R O ι w k ck) (hv : R O ι w v cv) (hok : keyOk ks k = true) (hp : putA ks k v es = some es') {N : Nat → Prop} :
    ∃ w', (Instr.mapUpdate t c ck cv).run P w = .ok () w' ∧ Post O ι H w N ⟨undefA, [(b, some (.mp es'))]⟩ undef w' ι := by
  obtain ⟨kt, e, i, hu, hks, hi, hz⟩ := tmap_some ht
  obtain ⟨eb, kk, l, cl, g1, g2, g3, rfl, g4, g5⟩ := map_at hH h0 hx hB
  obtain ⟨p, hp, hr⟩ := posA_put hp
  have hck := check_key hks hk hok false
  have hfk := find_key hks hk g5 hp
  have fin : ∀ (l' : Array MapEntry) (c' : Nat), EntR O ι w es' l'.toList → Post O ι H w N ⟨undefA, [(b, some (.mp es'))]⟩ undef { w with heap := w.heap.setIfInBounds kk (.map l' c') } ι := fun l' c' hes => by
    obtain ⟨q1, q2⟩ := set_map hH (c' := c') g1 g2 g3 g4 hes
    exact ⟨q1, by simp [undefA, R, DR], q2, fun _ h1 h2 => absurd h2 h1⟩
  cases p with
  | none =>
    simp only [Option.bind_none] at hr hfk
    subst hr
    refine ⟨_, ?_, fin (l.push { key := ck, val := cv, born := cl }) (cl + 1) ?_⟩
    · simp [Instr.mapUpdate, run_und hu, Go.MapKept.run_getObj_map g4, hck, hfk, Go.MapKept.run_setObj_map _ g4]
    · refine EntR.of (by simp [g5.len]) fun j x m h1 h2 => ?_
      simp only [Array.toList_push] at h2
      rw [List.getElem?_append] at h1 h2
      rw [g5.len] at h1
      split at h1
      · rename_i hj
        rw [if_pos hj] at h2
        exact g5.get h1 h2
      · rename_i hj
        rw [if_neg hj] at h2
        have e1 : x = (k, v) := by
          have := List.mem_of_getElem? h1
          simpa using this
        have e2 : m = { key := ck, val := cv, born := cl } := by
          have := List.mem_of_getElem? h2
          simpa using this
        rw [e1, e2]; exact ⟨hk, hv⟩
  | some j =>
    obtain ⟨ee, h1, hkeq⟩ := posA_at hp
    have hlen := g5.len
    have hj : j < l.toList.length := by
      have := (List.getElem?_eq_some_iff.1 h1).1
      omega
    have hja : j < l.size := by simpa using hj
    have hm : l.toList[j]? = some l.toList[j] := List.getElem?_eq_getElem hj
    obtain ⟨rk, _⟩ := g5.get h1 hm
    have hst := key_stays (P := P) hkeq hk rk
    simp only [Option.bind_some, hm, Option.map_some] at hfk
    simp only at hr
    subst hr
    refine ⟨_, ?_, fin (l.modify j fun e => { e with key := ck, val := cv }) cl ?_⟩
    · have ho : ((l[j]?).map (·.key)).getD ck = l.toList[j].key := by simp [hja]
      simp [Instr.mapUpdate, run_und hu, Go.MapKept.run_getObj_map g4, hck]
      rw [hfk]
      simp only [Result.andThen_ok]
      rw [show (Option.map (fun x => x.key) l[j]?).getD ck = l.toList[j].key from ho] 
      have hst2 : (Instr.keyThatStays l[j].key ck).run P w = .ok ck w := by simpa using hst
      simp [hst2, Go.MapKept.run_setObj_map _ g4]
    · refine EntR.of (by simp [hlen]) fun j2 x m h1' h2' => ?_
      rw [Array.getElem?_toList, Array.getElem?_modify] at h2'
      rw [List.getElem?_set] at h1'
      by_cases hjj : j = j2
      · subst hjj
        rw [if_pos rfl] at h1' h2'
        have e1 : x = (k, v) := by
          split at h1'
          · simpa using h1'.symm
          · cases h1'
        have : l[j]? = some l[j] := by simp [hja]
        rw [this] at h2'
        simp only [Option.map_some, Option.some.injEq] at h2'
        rw [e1, ← h2']
        exact ⟨hk, hv⟩
      · rw [if_neg hjj] at h1' h2'
        exact g5.get h1' (by rw [Array.getElem?_toList]; exact h2')
end Go.AI
