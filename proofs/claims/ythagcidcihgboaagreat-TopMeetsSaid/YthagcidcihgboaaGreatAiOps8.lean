/-
  Own work. Operation by operation: slice literals, slices that are made, cleared; small operations.
-/
import Derived.Test.YthagcidcihgboaaGreatAiOps7
namespace Go.AI
open Go
set_option linter.unusedVariables false
set_option linter.unusedSimpArgs false
variable {P : Program} {O : Nat → Prop} {ι : Inj} {H H0 : Heap} {w : World}

theorem deNil_R {v : AV} {c : Value} (h : R O ι w v c) : R O ι w (deNil v) c := by
  cases v <;> first | exact h | (simp only [deNil, R, DR] at h ⊢; exact ⟨none, 0, h, Nat.le_refl _, .inl trivial⟩)
theorem deNils_R {tr : Bool} : ∀ {cs : List AV} {l : List Value}, Rl O ι w cs l → Rl O ι w (if tr then cs.map deNil else cs) l := by
  intro cs
  cases tr with
  | false => intro l h; simpa using h
  | true =>
    simp only [if_true]
    induction cs with
    | nil => intro l h; simpa using h
    | cons x r ih =>
      intro l h
      simp only [List.map_cons, Rl] at h ⊢
      obtain ⟨v, l', rfl, h1, h2⟩ := h
      exact ⟨v, l', rfl, deNil_R h1, ih h2⟩
theorem nzL_R {vt : Bool} {cs : List AV} {l : List Value} (h : Rl O ι w cs l) : Rl O ι w (nzL vt cs) l := deNils_R h
theorem nzA_R {vt : Bool} {x : AV} {c : Value} (h : R O ι w x c) : R O ι w (nzA vt x) c := by
  have other : ∀ {x : AV}, R O ι w x c → R O ι w (if !vt then deNil x else x) c := by
    intro x h
    split
    · exact deNil_R h
    · exact h
  cases x with
  | agg cs =>
    simp only [nzA, R] at h ⊢
    obtain ⟨l, h1, h2, h3⟩ := h
    exact ⟨l, h1, nzL_R h2, h3⟩
  | _ => exact other h
theorem nzA_ok {vt : Bool} {x : AV} : okCells (nzA vt x) = okCells x := by cases vt <;> cases x <;> rfl
theorem nzA_cells {vt : Bool} {x : AV} : (nzA vt x).cells.length = x.cells.length := by
  cases vt <;> cases x <;> simp [nzA, nzL, deNil, AV.cells]
theorem fill_rows {s : Nat} : ∀ {ps : List (Nat × AV)} {l : List (Nat × Value)} {i : Nat} {rows : List (List AV)} {A : Array Value}, rowsAre s i ps = some rows → PR O ι w ps l → (i + rows.length) * s ≤ A.size →
    ∃ A', Instr.fill (fun i => some (i * s, s)) A l = some A' ∧ A'.size = A.size ∧ (∀ o : Nat, o < i * s → A'[o]? = A[o]?) ∧
      ∀ (j : Nat) x, rows[j]? = some x → x.length = s ∧ ∀ (t : Nat) y, x[t]? = some y → ∃ v, A'[(i + j) * s + t]? = some v ∧ v.oneCell = true ∧ R O ι w y v
  | [], l, i, rows, A, h1, h2, h3 => by
    simp [rowsAre] at h1; subst h1
    simp [PR] at h2; subst h2
    exact ⟨A, by simp [Instr.fill], rfl, fun _ _ => rfl, fun j x h => by simp at h⟩
  | (j0, x0) :: ps, l, i, rows, A, h1, h2, h3 => by
    simp only [rowsAre] at h1
    split at h1
    · rename_i hc
      obtain ⟨c1, rfl, c3⟩ := hc
      cases hr : rowsAre s (j0 + 1) ps with
      | none => simp [hr] at h1
      | some rows' =>
        simp [hr] at h1; subst h1
        simp only [PR] at h2
        obtain ⟨v, l', rfl, hx, hrest⟩ := h2
        obtain ⟨g1, g2⟩ := cells_R hx c1
        have hvl : v.cells.size = s := by rw [← c3, ← Rl_length g1]; simp
        simp only [List.length_cons] at h3
        have e1 : (j0 + (rows'.length + 1)) * s = j0 * s + s + rows'.length * s := by rw [Nat.add_mul, Nat.add_mul]; omega
        have e2 : (j0 + 1 + rows'.length) * s = j0 * s + s + rows'.length * s := by rw [Nat.add_mul, Nat.add_mul]; omega
        have e3 : (j0 + 1) * s = j0 * s + s := by rw [Nat.add_mul]; omega
        obtain ⟨f1, f2⟩ := fold_get' (off := j0 * s) (vs := v.cells) (A := A) (by omega)
        obtain ⟨A', k1, k2, k3, k4⟩ := fill_rows (A := v.cells.zipIdx.foldl (fun cs (x : Value × Nat) => cs.setIfInBounds (j0 * s + x.2) x.1) A) hr hrest (by rw [f1]; omega)
        refine ⟨A', ?_, by rw [k2, f1], fun o ho => ?_, fun j x hj => ?_⟩
        · simp only [Instr.fill]
          rw [if_neg (by simp; omega)]
          exact k1
        · rw [k3 o (by omega), f2 o, if_neg (by omega)]
        · cases j with
          | zero =>
            simp at hj; subst hj
            refine ⟨c3, fun t y hy => ?_⟩
            have ht : t < s := by rw [← c3]; exact (List.getElem?_eq_some_iff.1 hy).1
            obtain ⟨u, u1, u2⟩ := Rl_get g1 hy
            refine ⟨u, ?_, g2 u (List.mem_of_getElem? u1), u2⟩
            rw [Nat.add_zero, k3 _ (by omega), f2, if_pos (by omega)]
            rw [Array.getElem?_toList] at u1
            rw [← u1]; congr 1; omega
          | succ j =>
            simp at hj
            rw [show j0 + (j + 1) = j0 + 1 + j from by omega]
            exact k4 j x hj
    · cases h1

theorem toD_congr {p : Nat → Bool} (h : ∀ b, p b = true → H0 b = H b) : ∀ (n : Nat) (v : AV), toD p H0 n v = toD p H n v
  | 0, _ => rfl
  | n + 1, v => by
    have ih : toD p H0 n = toD p H n := funext (toD_congr h n)
    cases v with
    | ref b ver off len =>
      simp only [toD]
      cases hp : p b with
      | false => rfl
      | true => rw [h b hp, ih]
    | ptr b ver i o =>
      simp only [toD]
      cases hp : p b with
      | false => rfl
      | true => rw [h b hp, ih]
    | fn f caps => simp only [toD]; rw [ih]
    | _ => rfl
theorem frzV_congr {p : Nat → Bool} (h : ∀ b, p b = true → H0 b = H b) : ∀ (n : Nat) (v : AV), frzV p H0 n v = frzV p H n v
  | 0, _ => rfl
  | n + 1, v => by
    have ih : frzV p H0 n = frzV p H n := funext (frzV_congr h n)
    cases v with
    | ref b ver off len => simp only [frzV]; rw [toD_congr h]
    | ptr b ver i o => simp only [frzV]; rw [toD_congr h]
    | agg cs => simp only [frzV]; rw [ih]
    | tup cs => simp only [frzV]; rw [ih]
    | fn f caps => simp only [frzV]; rw [ih]
    | _ => rfl
theorem snap_congr {p : Nat → Bool} (h : ∀ b, p b = true → H0 b = H b) : ∀ (n : Nat) (v : AV), snap p H0 n v = snap p H n v
  | 0, _ => rfl
  | n + 1, v => by
    have ih : snap p H0 n = snap p H n := funext (snap_congr h n)
    cases v with
    | agg cs => simp only [snap]; rw [ih]
    | tup cs => simp only [snap]; rw [ih]
    | _ => simp only [snap]; rw [toD_congr h]
/-- What a value names is there. -/
theorem refs_named : ∀ (n : Nat) (v : AV) (c : Value), R O ι w v c → ∀ b ∈ refs n v, ι b ≠ none := by
  intro n
  induction n with
  | zero =>
    intro v c h b hb
    cases v <;> simp [refs] at hb
    all_goals
      subst hb
      simp only [R] at h
      first
        | (obtain ⟨e, he, _⟩ := h; rw [he]; simp)
        | (obtain ⟨e, k, he, _⟩ := h; rw [he]; simp)
  | succ n ih =>
    have many : ∀ (vs : List AV) (l : List Value), Rl O ι w vs l → ∀ b ∈ vs.flatMap (refs n), ι b ≠ none := by
      intro vs
      induction vs with
      | nil => intro l _ b hb; simp at hb
      | cons x r ihr =>
        intro l hl b hb
        simp only [Rl] at hl
        obtain ⟨v, l', rfl, h1, h2⟩ := hl
        simp only [List.flatMap_cons, List.mem_append] at hb
        rcases hb with hb | hb
        · exact ih x v h1 b hb
        · exact ihr l' h2 b hb
    intro v c h b hb
    cases v with
    | agg cs =>
      simp only [R] at h
      obtain ⟨l, rfl, hr, _⟩ := h
      exact many cs l hr b (by simpa only [refs] using hb)
    | tup cs =>
      simp only [R] at h
      obtain ⟨l, rfl, hr⟩ := h
      exact many cs l hr b (by simpa only [refs] using hb)
    | fn f cs =>
      simp only [R] at h
      obtain ⟨l, rfl, hr⟩ := h
      exact many cs l hr b (by simpa only [refs] using hb)
    | ref b' ver off len =>
      simp [refs] at hb; subst hb
      simp only [R] at h
      obtain ⟨e, he, _⟩ := h; rw [he]; simp
    | ptr b' ver off len =>
      simp [refs] at hb; subst hb
      simp only [R] at h
      obtain ⟨e, he, _⟩ := h; rw [he]; simp
    | map b' =>
      simp [refs] at hb; subst hb
      simp only [R] at h
      obtain ⟨e, k, he, _⟩ := h; rw [he]; simp
    | _ => simp [refs] at hb
theorem killed_keys {l : List Nat} {b : Nat} (h : b ∉ l) : ∀ x ∈ killed H0 l, x.1 ≠ b := by
  intro x hx hxb
  simp only [killed, List.mem_filterMap] at hx
  obtain ⟨d, hd, hx⟩ := hx
  cases hq : H0 d with
  | none => simp [hq] at hx
  | some B =>
    cases B with
    | mp es => simp [hq] at hx
    | row s v d' => simp [hq] at hx; subst hx; exact h (hxb ▸ hd)
theorem rows_map_len (rows : List (List AV)) (f : AV → AV) : (rows.map fun r => r.map f).length = rows.length := by simp
theorem buildSlice_run {t e : TypeId} {s by0 n : Nat} (ht : tsl P t = some (e, s, by0)) (hn : n * s ≤ 2 ^ 24) {l : List (Nat × Value)} {ps : List (Nat × AV)} {rows : List (List AV)} (hr : rowsAre s 0 ps = some rows) (hp : PR O ι w ps l) (hrl : rows.length = n) :
    ∃ A' : Array Value, (Instr.buildSlice t n l.toArray).run P w = .ok (.slice (some ⟨w.heap.size, 0, none⟩) n n) { w with heap := w.heap.push (.cells A' e) } ∧ A'.size = n * s ∧ RowsIn O ι w A' 0 s rows := by
  obtain ⟨hsl, i0, z, hi0, hi1, _, hz, hzs, _, _⟩ := tsl_some ht
  have hA : ((Array.range (n * s)).map (fun i => (if n * s = 0 then #[] else z.cells : Array Value)[i % (if n * s = 0 then #[] else z.cells : Array Value).size]!)).size = n * s := by simp
  obtain ⟨A', k1, k2, k3, k4⟩ := fill_rows (A := (Array.range (n * s)).map (fun i => (if n * s = 0 then #[] else z.cells : Array Value)[i % (if n * s = 0 then #[] else z.cells : Array Value).size]!)) hr hp (by rw [hA, hrl]; simp)
  refine ⟨A', ?_, by rw [k2, hA], fun j x hj => ?_⟩
  · have hnn : ¬ n * s > 2 ^ 24 := by omega
    unfold Instr.buildSlice
    simp only [Sem.run_bind, run_und hsl, Result.andThen_ok, run_sizeI hi0, hi1]
    rw [if_neg hnn]
    by_cases h0 : n * s = 0
    · simp only [h0, if_true] at k1 ⊢
      simp only [Sem.run_pure, Sem.run_bind, Result.andThen_ok, k1]
      simp [newRow]
    · simp only [h0, if_false] at k1 ⊢
      simp only [Sem.run_pure, Sem.run_bind, Result.andThen_ok, run_zero hi0 hz, k1]
      simp [newRow]
  · obtain ⟨a1, a2⟩ := k4 j x hj
    refine ⟨a1, fun t y hy => ?_⟩
    simpa using a2 t y hy
theorem buildSlice_sim (hH : HR O ι H w) {t e : TypeId} {s by0 n fr : Nat} {N : Nat → Prop} (hN : N fr) (hf : ι fr = none) (ht : tsl P t = some (e, s, by0)) (hn : n * s ≤ 2 ^ 24) {l : List (Nat × Value)} {ps : List (Nat × AV)} {rows : List (List AV)} (hr : rowsAre s 0 ps = some rows) (hp : PR O ι w ps l) (hrl : rows.length = n) :
    Sim P O ι H w N (Instr.buildSlice t n l.toArray) ⟨.ref fr 0 0 n, [(fr, some (.row s 0 rows))]⟩ := by
  obtain ⟨A', k1, k2, k3⟩ := buildSlice_run ht hn hr hp hrl
  obtain ⟨g1, g2⟩ := new_row hH hf e w.drawn k3 (by rw [k2, hrl]; exact Nat.le_refl _)
  exact ⟨_, _, _, k1, ⟨by simpa only [writes] using g1, new_ref (iset_same ..) n rfl hrl.symm (Nat.le_refl _) (by rw [k2]; exact Nat.le_refl _), g2, new_names hN⟩⟩
theorem rows_refs_named {A : Array Value} {base s : Nat} {rows : List (List AV)} (h : RowsIn O ι w A base s rows) : ∀ b ∈ refsOf rows, ι b ≠ none := by
  intro b hb
  simp only [refsOf, List.mem_flatMap] at hb
  obtain ⟨r, hr, y, hy, hb⟩ := hb
  obtain ⟨i, hi⟩ := List.getElem?_of_mem hr
  obtain ⟨j, hj⟩ := List.getElem?_of_mem hy
  obtain ⟨_, h2⟩ := h i r hi
  obtain ⟨v, _, _, h3⟩ := h2 j y hj
  exact refs_named 4 y v h3 b hb
theorem buildSlice_frz (hH : HR O ι H w) {t e : TypeId} {s by0 n fr : Nat} {N : Nat → Prop} (hN : N fr) (hf : ι fr = none) (ht : tsl P t = some (e, s, by0)) (hn : n * s ≤ 2 ^ 24) {l : List (Nat × Value)} {ps : List (Nat × AV)} {rows : List (List AV)} (hr : rowsAre s 0 ps = some rows) (hp : PR O ι w ps l) (hrl : rows.length = n)
    (h0 : ∀ b ∈ refsOf rows, H0 b = H b) :
    Sim P O ι H w N (Instr.buildSlice t n l.toArray) ⟨.ref fr 0 0 n, (fr, some (.row s 0 (rows.map fun r => r.map fun v => deNil (frzV (refsOf rows).contains H0 4 v)))) :: killed H0 (refsOf rows)⟩ := by
  obtain ⟨A', k1, k2, k3⟩ := buildSlice_run ht hn hr hp hrl
  have hfr : fr ∉ refsOf rows := fun h => rows_refs_named k3 fr h hf
  have hk := HR.killed hH h0
  have hf' : ikill (refsOf rows).contains ι fr = none := ikill_none.2 hf
  have hrows : RowsIn O (ikill (refsOf rows).contains ι) w A' 0 s (rows.map fun r => r.map fun v => deNil (frzV (refsOf rows).contains H0 4 v)) := by
    intro i x hx
    rw [List.getElem?_map] at hx
    cases hd : rows[i]? with
    | none => simp [hd] at hx
    | some r =>
      simp [hd] at hx; subst hx
      obtain ⟨a1, a2⟩ := k3 i r hd
      refine ⟨by simpa using a1, fun j y hy => ?_⟩
      rw [List.getElem?_map] at hy
      cases hz : r[j]? with
      | none => simp [hz] at hy
      | some z =>
        simp [hz] at hy; subst hy
        obtain ⟨v, v1, v2, v3⟩ := a2 j z hz
        refine ⟨v, v1, v2, deNil_R ?_⟩
        have hc : ∀ b, (refsOf rows).contains b = true → H0 b = H b := fun b hb => h0 b (by simpa using hb)
        have := R.frzK (p := (refsOf rows).contains) hH v3
        rw [← frzV_congr hc] at this
        simpa using this
  obtain ⟨g1, g2⟩ := new_row hk hf' e w.drawn hrows (by rw [k2]; simp [hrl])
  refine ⟨_, _, _, k1, ⟨?_, new_ref (iset_same ..) n rfl (by simp [hrl]) (Nat.le_refl _) (by rw [k2]; exact Nat.le_refl _), Ex.trans hH.lt (Ex.kill hH _) g2, ?_⟩⟩
  · simp only [writes]
    rw [writes_hset (killed_keys hfr)]
    exact g1
  · intro c h1 h2
    by_cases hc : c = fr
    · subst hc; exact hN
    · rw [iset_ne _ _ hc] at h1
      exact absurd (ikill_none.2 h2) h1

theorem mod_row {i s j : Nat} (hj : j < s) : (i * s + j) % s = j := by
  rw [Nat.mul_comm, Nat.mul_add_mod, Nat.mod_eq_of_lt hj]
/-- Zero values in a row. -/
theorem zero_rows {zs : List AV} {z : Array Value} {s n : Nat} (hr : Rl O ι w zs z.toList) (ho : ∀ v ∈ z.toList, v.oneCell = true) (hs : z.size = s) (l : Array Value) (hl : ∀ i : Nat, i < n * s → l[i]? = some z[i % z.size]!) : RowsIn O ι w l 0 s (List.replicate n zs) := by
  intro i x hx
  rw [List.getElem?_replicate] at hx
  split at hx
  · rename_i hi
    cases hx
    have hzl : zs.length = s := by rw [← Rl_length hr]; simpa using hs
    refine ⟨hzl, fun j y hy => ?_⟩
    have hj : j < s := by rw [← hzl]; exact (List.getElem?_eq_some_iff.1 hy).1
    obtain ⟨v, v1, v2⟩ := Rl_get hr hy
    refine ⟨v, ?_, ho v (List.mem_of_getElem? v1), v2⟩
    have := row_in (s := s) hi
    rw [hl _ (by omega), hs, Nat.zero_add, mod_row hj]
    rw [Array.getElem?_toList] at v1
    simp [getElem!_def, v1]
  · cases hx
theorem wrap64 {n : Int} (h0 : 0 ≤ n) (h1 : n < 2 ^ 62) : IntKind.i64.wrap n = n := by
  unfold IntKind.wrap IntKind.bits IntKind.signed
  simp only
  have : n % 2 ^ 64 = n := by omega
  rw [this]
  simp; omega
theorem makeSlice_sim (hH : HR O ι H w) (tr : Bool) {t e : TypeId} {s by0 fr : Nat} {N : Nat → Prop} (hN : N fr) (hf : ι fr = none) (ht : tsl P t = some (e, s, by0)) {z : List AV} (hz : tzero P e = some z) {n : Int} {k k' : IntKind} (h0 : 0 ≤ n) (h1 : n * by0 ≤ room) (hzl : z.length = s) :
    Sim P O ι H w N (Instr.makeSlice t (.int k n) (.int k' n)) ⟨.ref fr 0 0 n.toNat, [(fr, some (.row s 0 (List.replicate n.toNat (if tr then z.map deNil else z))))]⟩ := by
  obtain ⟨hsl, i0, zv, hi0, hi1, hi2, hzv, hzs, hs0, hb0⟩ := tsl_some ht
  obtain ⟨i1, zv', q1, q2, q3, q4⟩ := tzero_some hz
  rw [hi0] at q1; cases q1
  rw [hzv] at q2; cases q2
  obtain ⟨m, rfl⟩ : ∃ m : Nat, n = m := ⟨n.toNat, by omega⟩
  have hle : m * by0 ≤ 2 ^ 47 := by have := h1; unfold room at this; exact_mod_cast this
  have hm : m ≤ m * by0 := Nat.le_mul_of_pos_right m (by omega)
  have hw : IntKind.i64.wrap (m : Int) = m := wrap64 (by omega) (by omega)
  have hbm : ((by0 : Int) * (m : Int)) ≤ 2 ^ 47 := by
    have : by0 * m ≤ 2 ^ 47 := by rw [Nat.mul_comm]; exact hle
    exact_mod_cast this
  have hrows : ∀ A : Array Value, (∀ i : Nat, i < m * s → A[i]? = some zv.cells[i % zv.cells.size]!) → RowsIn O ι w A 0 s (List.replicate m (if tr then z.map deNil else z)) := fun A hA => zero_rows (deNils_R (q3 O ι w)) q4 hzs A hA
  have hrun : ∃ A : Array Value, A.size = m * s ∧ RowsIn O ι w A 0 s (List.replicate m (if tr then z.map deNil else z)) ∧ (Instr.makeSlice t (.int k m) (.int k' m)).run P w = .ok (.slice (some ⟨w.heap.size, 0, none⟩) m m) { w with heap := w.heap.push (.cells A e) } := by
    refine ⟨(Array.range (m * s)).map fun i => (if m * s = 0 then #[] else zv.cells : Array Value)[i % (if m * s = 0 then #[] else zv.cells : Array Value).size]!, by simp, hrows _ (fun i hi => ?_), ?_⟩
    · rw [if_neg (by omega)]
      simp [hi]
    · unfold Instr.makeSlice
      have c1 : ¬ ((m : Int) < 0) := by omega
      have c2 : ¬ ((281474976710656 : Int) < (by0 : Int) * (m : Int)) := by omega
      have c3 : ¬ (m * by0 > 2 ^ 47) := by omega
      have hai : ∀ (k : IntKind) (n : Int), (Go.asInt (.int k n)).run P w = .ok n w := fun k n => by simp [Go.asInt, asIntOf]
      simp only [Sem.run_bind, run_und hsl, Result.andThen_ok, hai, Sem.run_pure, run_typeInfo' hi0, hi2, hw, Int.toNat_natCast, run_sizeI hi0, hi1]
      simp only [askRoom, roomBytes, c3, if_false]
      by_cases hz0 : m * s = 0
      · simp [c1, c2, hz0, newRow, run_sizeI hi0, hi1]
      · simp [c1, c2, hz0, newRow, run_sizeI hi0, hi1, run_zero hi0 hzv]
  obtain ⟨A, a1, a2, a3⟩ := hrun
  obtain ⟨g1, g2⟩ := new_row hH hf e w.drawn a2 (by rw [a1]; simp)
  refine ⟨_, _, _, a3, ⟨by simpa only [writes, Int.toNat_natCast] using g1, ?_, g2, new_names hN⟩⟩
  exact new_ref (iset_same ..) m rfl (by simp) (Nat.le_refl _) (by rw [a1]; exact Nat.le_refl _)

theorem clear_sim (hH : HR O ι H w) (h0 : ∀ b B, H0 b = some B → H b = some B) {t : TypeId} {x : AV} {c : Value} {e : Eff} {N : Nat → Prop} (hx : R O ι w x c) (he : clearA P H0 t x = some e) (ts : Array TypeId) (ty : TypeId) (hts : ts[0]? = some t) :
    Sim P O ι H w N (Builtin.clear_ ts ty #[c]) e := by
  unfold clearA at he
  cases ht : tsl P t with
  | none => simp [ht] at he
  | some q =>
    obtain ⟨e0, s0, by0⟩ := q
    obtain ⟨hsl, i0, zv, hi0, hi1, hi2, hzv, hzs, hs0, hb0⟩ := tsl_some ht
    simp only [ht] at he
    cases hz : tzero P e0 with
    | none => simp [hz] at he
    | some z =>
      obtain ⟨i1, zv', q1, q2, q3, q4⟩ := tzero_some hz
      rw [hi0] at q1; cases q1
      rw [hzv] at q2; cases q2
      simp only [hz] at he
      cases x with
      | ref b ver off len =>
        simp only at he
        cases hb : H0 b with
        | none => simp [hb] at he
        | some B =>
          cases B with
          | mp es => simp [hb] at he
          | row s ver' data =>
            simp only [hb] at he
            split at he
            · rename_i hc
              obtain ⟨rfl, rfl, hzl⟩ := hc
              simp at he; subst he
              have hx0 := hx
              simp only [R] at hx
              obtain ⟨e, he, hmp, hle, ⟨a, cap, rfl⟩, hsat⟩ := hx
              obtain ⟨B, hB, hbr⟩ := hH.blk b e he
              rw [h0 b _ hb] at hB; cases hB
              obtain ⟨p1, p2, p3, p4, p5, p6⟩ := hbr
              have hsl2 := hsat (by omega)
              have hol : off + len ≤ data.length := by rw [← p4]; exact hsl2.le
              have hcap : len ≤ cap := by
                unfold SliceAt at hsl2
                cases hbk : e.blk with
                | none => rw [hbk] at hsl2; omega
                | some k =>
                  rw [hbk] at hsl2
                  obtain ⟨a', cap', h1, h2, _⟩ := hsl2
                  cases h1; omega
              have hl : (Builtin.zeroCells zv.cells len).toList.length = (List.replicate len z).length * s := by simp [Builtin.zeroCells, hzs]
              have hrow : RowsIn O ι w (Builtin.zeroCells zv.cells len).toList.toArray 0 s (List.replicate len z) := by
                rw [Array.toArray_toList]
                refine zero_rows (q3 O ι w) q4 hzs _ fun i hi => ?_
                simp only [Builtin.zeroCells, hzs]
                simp [hi]
              have hone : ∀ v ∈ (Builtin.zeroCells zv.cells len).toList, v.oneCell = true := by
                intro v hv
                simp only [Builtin.zeroCells, Array.toList_map, List.mem_map] at hv
                obtain ⟨i, hi, rfl⟩ := hv
                have hlt : i % zv.cells.size < zv.cells.size := Nat.mod_lt _ (by omega)
                apply q4
                rw [Array.mem_toList_iff]
                simp [getElem!_def, hlt]
              obtain ⟨w', g1, g2, g3⟩ := over_sim (P := P) (m := 0) (ys := List.replicate len z) (l := (Builtin.zeroCells zv.cells len).toList) hH hx0 (h0 b _ hb) rfl hl hrow hone hs0 (by simp; omega) (by simp; omega)
              refine ⟨.tuple #[], w', ι, ?_, ⟨by simpa only [writes, Nat.add_zero] using g2, by simp [R, DR], g3, fun _ h1 h2 => absurd h2 h1⟩⟩
              simp only [Nat.zero_mul] at g1
              unfold Builtin.clear_
              simp only [hts]
              cases a with
              | none =>
                simp only at g1
                cases g1
                simp [run_und hsl]
              | some a =>
                have ha : a.add 0 = a := by simp [Addr.add]
                simp only [ha] at g1
                cases len with
                | zero =>
                  have : w' = w := by
                    simp [Builtin.zeroCells, storeCells] at g1; exact g1.symm
                  subst this
                  simp [run_und hsl]
                | succ len => simp [run_und hsl, run_zero hi0 hzv, g1]
            · cases he
      | _ => simp at he
end Go.AI
