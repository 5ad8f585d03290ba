/-
  Own work. Operation by operation: addresses, fields, struct literals.
-/
import Derived.Test.YthagcidcihgboaaGreatAiOps6
namespace Go.AI
open Go
set_option linter.unusedVariables false
set_option linter.unusedSimpArgs false
variable {P : Program} {O : Nat → Prop} {ι : Inj} {H H0 : Heap} {w : World}

theorem ex_lst {s : Nat} {xs : List (List DV)} {c : Value} (h : R O ι w (.ex s xs) c) : R O ι w (.d (.lst s xs)) c := by
  simp only [R, DR] at h ⊢
  obtain ⟨a, h1, h2⟩ := h
  exact ⟨a, _, h1, Nat.le_refl _, h2⟩
theorem index_run {t e : TypeId} {s by0 : Nat} (ht : tsl P t = some (e, s, by0)) {a : Addr} {len cap : Nat} {k : IntKind} {i : Int} (h0 : 0 ≤ i) (h1 : i < len) :
    (Instr.indexAt t (.slice (some a) len cap) (.int k i)).run P w = .ok (.pointer (some (a.add (i.toNat * s)))) w := by
  obtain ⟨hsl, i0, z, hi0, hi1, _, _, _, _, _⟩ := tsl_some ht
  simp only [Instr.indexAt, asIntOf, Sem.run_bind, Sem.run_pure, Result.andThen_ok, run_und hsl]
  rw [if_pos ⟨h0, h1⟩]
  simp [run_sizeI hi0, hi1]
theorem index_val (hH : HR O ι H w) {t e : TypeId} {s by0 : Nat} (ht : tsl P t = some (e, s, by0)) {xs : List (List DV)} {c : Value} {k : IntKind} {i : Int} {r : List DV} {N : Nat → Prop} (hx : R O ι w (.d (.lst s xs)) c) (h0 : 0 ≤ i) (hr : xs[i.toNat]? = some r) :
    Sim P O ι H w N (Instr.indexAt t c (.int k i)) ⟨.d (.ptr r 0), []⟩ := by
  simp only [R, DR] at hx
  obtain ⟨a, cap, rfl, hl, hx⟩ := hx
  have hlt : i.toNat < xs.length := (List.getElem?_eq_some_iff.1 hr).1
  rcases hx with rfl | ⟨k', off, rfl, hi, hk, hx⟩
  · simp at hlt
  · refine .still hH (index_run ht h0 (by omega)) ?_
    simp only [R, DR]
    rw [DRss_iff] at hx
    exact ⟨k', off + i.toNat * s, by rw [Addr.add_none]; rfl, hi, hk, (hx _ r hr).2⟩
theorem index_ref (hH : HR O ι H w) (h0 : ∀ b B, H0 b = some B → H b = some B) {t e : TypeId} {s by0 : Nat} (ht : tsl P t = some (e, s, by0)) {b ver off len ver' : Nat} {data : List (List AV)} {c : Value} {k : IntKind} {i : Int} {N : Nat → Prop}
    (hx : R O ι w (.ref b ver off len) c) (hb : H0 b = some (.row s ver' data)) (hver : ver = ver') (hi : 0 ≤ i) (hil : i < len) :
    Sim P O ι H w N (Instr.indexAt t c (.int k i)) ⟨.ptr b ver (off + i.toNat) 0, []⟩ := by
  simp only [R] at hx
  obtain ⟨e, he, hmp, hle, ⟨a, cap, rfl⟩, hat⟩ := hx
  obtain ⟨B, hB, hbr⟩ := hH.blk b e he
  rw [h0 b _ hb] at hB; cases hB
  obtain ⟨q1, q2, q3, q4, q5, q6⟩ := hbr
  have hsl := hat (by omega)
  unfold SliceAt at hsl
  cases hbk : e.blk with
  | none =>
    rw [hbk] at hsl
    omega
  | some k' =>
    rw [hbk] at hsl
    obtain ⟨a', cap', h1, h2, h3, h4, h5, h6⟩ := hsl
    cases h1
    have ha := h6 (by omega)
    subst ha
    refine .still hH (index_run ht hi hil) ?_
    simp only [R]
    refine ⟨e, he, hmp, hle, ⟨_, rfl⟩, fun _ => ⟨k', hbk, ?_⟩⟩
    rw [Addr.add_none, q2, show e.base + off * s + i.toNat * s = e.base + (off + i.toNat) * s + 0 from by rw [Nat.add_mul]; omega]
theorem index_arr (hH : HR O ι H w) {t : TypeId} {n s : Nat} (ht : tarr P t = some (n, s)) {b ver j o : Nat} {c : Value} {k : IntKind} {i : Int} {N : Nat → Prop} (hx : R O ι w (.ptr b ver j o) c) (hi : 0 ≤ i) (hil : i < n) :
    Sim P O ι H w N (Instr.indexAt t c (.int k i)) ⟨.ptr b ver j (o + i.toNat * s), []⟩ := by
  obtain ⟨e, i0, hu, hi0, hi1⟩ := tarr_some ht
  simp only [R] at hx
  obtain ⟨e', he, hmp, hle, ⟨a, rfl⟩, hat⟩ := hx
  have hrun : (Instr.indexAt t (.pointer (some a)) (.int k i)).run P w = .ok (.pointer (some (a.add (i.toNat * s)))) w := by
    simp only [Instr.indexAt, asIntOf, Sem.run_bind, Sem.run_pure, Result.andThen_ok, run_und hu, Instr.sureAddr]
    rw [if_pos ⟨hi, hil⟩]
    simp [run_sizeI hi0, hi1]
  refine .still hH hrun ?_
  simp only [R]
  refine ⟨e', he, hmp, hle, ⟨_, rfl⟩, fun hq => ?_⟩
  obtain ⟨k', h1, h2⟩ := hat hq
  refine ⟨k', h1, ?_⟩
  cases h2
  simp only [Addr.add_none, Nat.add_assoc]

theorem field_run {t : TypeId} {k o n : Nat} {ag : Bool} (ht : tfld P t k = some (o, n, ag)) (hn : n ≠ 0) (a : Addr) : (Instr.fieldAt t (.pointer (some a)) k).run P w = .ok (.pointer (some (a.add o))) w := by
  obtain ⟨fs, f, hu, hf, ho, hs, _⟩ := tfld_some ht
  subst ho
  simp [Instr.fieldAt, run_und hu, hf, Instr.sureAddr, fieldPlace, run_size hs, hn]
theorem fieldAddr_ptr (hH : HR O ι H w) {t : TypeId} {k o n : Nat} {ag : Bool} (ht : tfld P t k = some (o, n, ag)) (hn : n ≠ 0) {b ver i o' : Nat} {c : Value} {N : Nat → Prop} (hx : R O ι w (.ptr b ver i o') c) :
    Sim P O ι H w N (Instr.fieldAt t c k) ⟨.ptr b ver i (o' + o), []⟩ := by
  simp only [R] at hx
  obtain ⟨e', he, hmp, hle, ⟨a, rfl⟩, hat⟩ := hx
  refine .still hH (field_run ht hn a) ?_
  simp only [R]
  refine ⟨e', he, hmp, hle, ⟨_, rfl⟩, fun hq => ?_⟩
  obtain ⟨k', h1, h2⟩ := hat hq
  refine ⟨k', h1, ?_⟩
  cases h2
  simp only [Addr.add_none, Nat.add_assoc]
theorem fieldAddr_dptr (hH : HR O ι H w) {t : TypeId} {k o n : Nat} {ag : Bool} (ht : tfld P t k = some (o, n, ag)) (hn : n ≠ 0) {y : List DV} {o' : Nat} {c : Value} {N : Nat → Prop} (hx : R O ι w (.d (.ptr y o')) c) :
    Sim P O ι H w N (Instr.fieldAt t c k) ⟨.d (.ptr y (o' + o)), []⟩ := by
  simp only [R, DR] at hx
  obtain ⟨k', off, rfl, hi, hk, hd⟩ := hx
  refine .still hH (field_run ht hn _) ?_
  simp only [R, DR]
  exact ⟨k', off, by rw [Addr.add_none, Nat.add_assoc], hi, hk, hd⟩

theorem part_run {t : TypeId} {n : Nat} (hs : tsz P t = some n) {cs sub : List AV} {l : List Value} {off : Nat} {v : AV} (hr : Rl O ι w cs l) (ho : ∀ v ∈ l, v.oneCell = true) (hg : getCells cs off n = some sub) (hv : partA (tagg P t) sub = some v) :
    ∃ c, (part t l.toArray off).run P w = .ok c w ∧ R O ι w v c := by
  obtain ⟨i, d, h1, h2, h3⟩ := tsz_some hs
  obtain ⟨a1, a2, a3⟩ := getCells_some hg
  have hll := Rl_length hr
  unfold partA at hv
  cases hag : tagg P t with
  | true =>
    rw [hag] at hv
    simp at hv; subst hv
    refine ⟨.agg (l.toArray.extract off (off + n)), by simp [part, run_isAgg h3, hag, run_size hs], ?_⟩
    simp only [R]
    refine ⟨(l.drop off).take n, by simp, ?_, ?_⟩
    · refine Rl_of (by simp; omega) fun j x v hx hv => ?_
      have hj : j < n := by rw [← a2]; exact (List.getElem?_eq_some_iff.1 hx).1
      rw [a3 j hj] at hx
      obtain ⟨v', q1, q2⟩ := Rl_get hr hx
      rw [List.getElem?_take, if_pos hj, List.getElem?_drop, q1] at hv
      cases hv; exact q2
    · intro v hv
      exact ho v (List.mem_of_mem_drop (List.mem_of_mem_take hv))
  | false =>
    rw [hag] at hv
    simp only [Bool.false_eq_true, if_false] at hv
    cases sub with
    | nil => simp at hv
    | cons y r =>
      cases r with
      | cons _ _ => simp at hv
      | nil =>
        simp at hv; subst hv
        simp at a2
        have := a3 0 (by omega)
        simp at this
        obtain ⟨v', q1, q2⟩ := Rl_get hr this.symm
        exact ⟨v', by simp [part, run_isAgg h3, hag, q1], q2⟩
theorem field_sim (hH : HR O ι H w) {t : TypeId} {k o n : Nat} {ag : Bool} (ht : tfld P t k = some (o, n, ag)) {cs sub : List AV} {c : Value} {v : AV} {N : Nat → Prop} (hx : R O ι w (.agg cs) c) (hg : getCells cs o n = some sub) (hv : partA ag sub = some v) :
    Sim P O ι H w N (Instr.field t c k) ⟨v, []⟩ := by
  obtain ⟨fs, f, hu, hf, ho, hs, rfl⟩ := tfld_some ht
  subst ho
  simp only [R] at hx
  obtain ⟨l, rfl, hr, hone⟩ := hx
  obtain ⟨c, g1, g2⟩ := part_run hs hr hone hg hv
  exact .still hH (by simp [Instr.field, run_und hu, hf, asAgg, g1]) g2

/-! ### Literals -/
/-- Parts, as they come. -/
def PR (O : Nat → Prop) (ι : Inj) (w : World) : List (Nat × AV) → List (Nat × Value) → Prop
  | [], l => l = []
  | x :: r, l => ∃ v l', l = (x.1, v) :: l' ∧ R O ι w x.2 v ∧ PR O ι w r l'
theorem fold_get (off : Nat) : ∀ (vs : List Value) (n : Nat) (A : Array Value), off + n + vs.length ≤ A.size →
    ((vs.zipIdx n).foldl (fun cs (x : Value × Nat) => cs.setIfInBounds (off + x.2) x.1) A).size = A.size ∧
    ∀ i, ((vs.zipIdx n).foldl (fun cs (x : Value × Nat) => cs.setIfInBounds (off + x.2) x.1) A)[i]? = if off + n ≤ i ∧ i < off + n + vs.length then vs[i - (off + n)]? else A[i]?
  | [], n, A, h => by
    refine ⟨by simp, fun i => ?_⟩
    simp
    intro h1 h2; omega
  | v :: r, n, A, h => by
    simp only [List.length_cons] at h
    obtain ⟨g1, g2⟩ := fold_get off r (n + 1) (A.setIfInBounds (off + n) v) (by simp; omega)
    refine ⟨by simp only [List.zipIdx_cons, List.foldl_cons]; rw [g1]; simp, fun i => ?_⟩
    simp only [List.zipIdx_cons, List.foldl_cons]
    rw [g2 i]
    simp only [List.length_cons]
    by_cases h1 : i = off + n
    · subst h1
      rw [if_neg (by omega), if_pos (by omega)]
      rw [Array.getElem?_setIfInBounds_self_of_lt (by omega)]
      simp
    · by_cases h2 : off + n ≤ i ∧ i < off + n + (r.length + 1)
      · rw [if_pos h2, if_pos (by omega)]
        rw [show i - (off + n) = (i - (off + (n + 1))) + 1 from by omega]
        simp
      · rw [if_neg h2, if_neg (by omega), Array.getElem?_setIfInBounds_ne (Ne.symm h1)]
theorem fold_get' {off : Nat} {vs A : Array Value} (h : off + vs.size ≤ A.size) :
    (vs.zipIdx.foldl (fun cs (x : Value × Nat) => cs.setIfInBounds (off + x.2) x.1) A).size = A.size ∧
    ∀ i : Nat, (vs.zipIdx.foldl (fun cs (x : Value × Nat) => cs.setIfInBounds (off + x.2) x.1) A)[i]? = if off ≤ i ∧ i < off + vs.size then vs[i - off]? else A[i]? := by
  have := fold_get off vs.toList 0 A (by simpa using h)
  rw [← Array.foldl_toList, Array.toList_zipIdx]
  simpa using this
theorem putCells_get {cs xs : List AV} {o i : Nat} (h : o + xs.length ≤ cs.length) : (putCells cs o xs)[i]? = if o ≤ i ∧ i < o + xs.length then xs[i - o]? else cs[i]? := by
  have h1 : (cs.take o).length = o := by simp; omega
  unfold putCells
  by_cases hi : i < o
  · rw [if_neg (by omega), List.getElem?_append_left (by omega), List.getElem?_take, if_pos hi]
  · rw [List.getElem?_append_right (by omega), h1]
    by_cases hi2 : i < o + xs.length
    · rw [if_pos (by omega), List.getElem?_append_left (by omega)]
    · rw [if_neg (by omega), List.getElem?_append_right (by omega), List.getElem?_drop]
      congr 1; omega
theorem putCells_len {cs xs : List AV} {o : Nat} (h : o + xs.length ≤ cs.length) : (putCells cs o xs).length = cs.length := by
  unfold putCells; simp; omega
theorem fill_sim {place : Nat → Option (Nat × Nat)} {fl : List (Nat × Nat)} (hp : ∀ i p, fl[i]? = some p → place i = some p) : ∀ {ps : List (Nat × AV)} {l : List (Nat × Value)} {qs : List (Nat × Nat × AV)} {cs cs' : List AV} {A : Array Value},
    mapO (withPlace fl) ps = some qs → PR O ι w ps l → fillA cs qs = some cs' → Rl O ι w cs A.toList → (∀ v ∈ A.toList, v.oneCell = true) →
    ∃ A', Instr.fill place A l = some A' ∧ Rl O ι w cs' A'.toList ∧ ∀ v ∈ A'.toList, v.oneCell = true
  | [], l, qs, cs, cs', A, h1, h2, h3, h4, h5 => by
    simp [mapO] at h1; subst h1
    simp [PR] at h2; subst h2
    simp [fillA] at h3; subst h3
    exact ⟨A, by simp [Instr.fill], h4, h5⟩
  | (i, x) :: ps, l, qs, cs, cs', A, h1, h2, h3, h4, h5 => by
    simp only [mapO] at h1
    cases hw : withPlace fl (i, x) with
    | none => simp [hw] at h1
    | some q =>
      cases hm : mapO (withPlace fl) ps with
      | none => simp [hw, hm] at h1
      | some qs' =>
        simp [hw, hm] at h1; subst h1
        unfold withPlace at hw
        cases hfl : fl[i]? with
        | none => simp [hfl] at hw
        | some pl =>
          obtain ⟨o, n⟩ := pl
          simp [hfl] at hw; subst hw
          simp only [PR] at h2
          obtain ⟨v, l', rfl, hr, hrest⟩ := h2
          simp only [fillA] at h3
          split at h3
          · rename_i hc
            obtain ⟨c1, c2, c3⟩ := hc
            obtain ⟨g1, g2⟩ := cells_R hr c1
            have hvl : v.cells.size = n := by rw [← c2, ← Rl_length g1]; simp
            have hAl : A.size = cs.length := by rw [← Rl_length h4]; simp
            obtain ⟨f1, f2⟩ := fold_get' (off := o) (vs := v.cells) (A := A) (by omega)
            have hput := putCells_len (cs := cs) (xs := x.cells) (o := o) (by omega)
            obtain ⟨A', k1, k2, k3⟩ := fill_sim hp (A := v.cells.zipIdx.foldl (fun cs (x : Value × Nat) => cs.setIfInBounds (o + x.2) x.1) A) hm hrest h3
              (Rl_of (by simp only [Array.length_toList]; omega) fun j y u hy hu => by
                rw [putCells_get (by omega)] at hy
                rw [Array.getElem?_toList, f2 j] at hu
                rw [hvl] at hu; rw [c2] at hy
                split at hy
                · rename_i hc
                  rw [if_pos hc] at hu
                  obtain ⟨u', a1, a2⟩ := Rl_get g1 hy
                  rw [Array.getElem?_toList, hu] at a1
                  cases a1; exact a2
                · rename_i hc
                  rw [if_neg hc] at hu
                  obtain ⟨u', a1, a2⟩ := Rl_get h4 hy
                  rw [Array.getElem?_toList, hu] at a1
                  cases a1; exact a2)
              (fun u hu => by
                obtain ⟨j, hj⟩ := List.getElem?_of_mem hu
                rw [Array.getElem?_toList, f2 j] at hj
                split at hj
                · exact g2 u (List.mem_of_getElem? (by rw [Array.getElem?_toList]; exact hj))
                · exact h5 u (List.mem_of_getElem? (by rw [Array.getElem?_toList]; exact hj)))
            refine ⟨A', ?_, k2, k3⟩
            simp only [Instr.fill, hp i _ hfl]
            rw [if_neg (by simp; omega)]
            exact k1
          · cases h3

theorem run_mapM_sizes {fs : List Field} {fl : List (Nat × Nat)} (h : mapO (fun f : Field => match tsz P f.type with | some n => some (f.offset, n) | none => none) fs = some fl) :
    (fs.toArray.mapM (fun f => do pure (f.offset, ← sizeOf f.type) : Field → Sem (Nat × Nat))).run P w = .ok fl.toArray w := by
  rw [List.mapM_toArray]
  have : ∀ {fs : List Field} {fl : List (Nat × Nat)}, mapO (fun f : Field => match tsz P f.type with | some n => some (f.offset, n) | none => none) fs = some fl →
      (fs.mapM (fun f => do pure (f.offset, ← sizeOf f.type) : Field → Sem (Nat × Nat))).run P w = .ok fl w := by
    intro fs
    induction fs with
    | nil => intro fl h; simp [mapO] at h; subst h; simp
    | cons f r ih =>
      intro fl h
      simp only [mapO] at h
      cases hs : tsz P f.type with
      | none => simp [hs] at h
      | some n =>
        simp only [hs] at h
        split at h
        · rename_i l hl
          simp at h; subst h
          simp only [List.mapM_cons, Sem.run_bind, run_size hs, ih hl, Result.andThen_ok, Sem.run_pure]
        · cases h
  have := this h
  simp only [Sem.run_map, this, Result.andThen_ok]
theorem build_sim (hH : HR O ι H w) {t : TypeId} {ps : List (Nat × AV)} {l : List (Nat × Value)} {v : AV} {N : Nat → Prop} (hp : PR O ι w ps l) (he : buildA P t ps = some v) : Sim P O ι H w N (Instr.build t l.toArray) ⟨v, []⟩ := by
  unfold buildA at he
  cases hz : tzero P t with
  | none => simp [hz] at he
  | some z =>
    cases hfl : tflds P t with
    | none => simp [hz, hfl] at he
    | some fl =>
      cases hq : mapO (withPlace fl) ps with
      | none => simp [hz, hfl, hq] at he
      | some qs =>
        cases hc : fillA z qs with
        | none => simp [hz, hfl, hq, hc] at he
        | some cs =>
          simp [hz, hfl, hq, hc] at he; subst he
          obtain ⟨i, zv, h1, h2, h3, h4⟩ := tzero_some hz
          unfold tflds at hfl
          split at hfl
          · rename_i fs hu
            obtain ⟨A', k1, k2, k3⟩ := fill_sim (place := fun i => fl.toArray[i]?) (fl := fl) (fun i p h => by simpa using h) hq hp hc (h3 O ι w) h4
            have hmap := run_mapM_sizes (P := P) (w := w) hfl
            rw [Array.toArray_toList] at hmap
            refine .still hH (cv := .agg A') ?_ (by simp only [R]; exact ⟨A'.toList, by simp, k2, k3⟩)
            simp only [Instr.build, Sem.run_bind, run_zero h1 h2, Result.andThen_ok, run_und hu, hmap]
            simp only [k1]
            rfl
          · rename_i n el hu
            split at hfl
            · rename_i i0 hi0
              simp only [Option.some.injEq] at hfl
              subst hfl
              obtain ⟨A', k1, k2, k3⟩ := fill_sim (place := fun i => some (i * i0.size, i0.size)) (fun i p h => by
                rw [List.getElem?_map] at h
                cases hr : (List.range n)[i]? with
                | none => rw [hr] at h; cases h
                | some j =>
                  obtain ⟨hlt, hj⟩ := List.getElem?_eq_some_iff.1 hr
                  rw [List.getElem_range] at hj
                  subst hj
                  rw [hr] at h
                  exact h) hq hp hc (h3 O ι w) h4
              refine .still hH (cv := .agg A') ?_ (by simp only [R]; exact ⟨A'.toList, by simp, k2, k3⟩)
              simp only [Instr.build, Sem.run_bind, run_zero h1 h2, Result.andThen_ok, run_und hu, run_sizeI hi0]
              simp only [k1]
              rfl
            · cases hfl
          · cases hfl
theorem tarrE_some {t : TypeId} {n s : Nat} {ag : Bool} (h : tarrE P t = some (n, s, ag)) : ∃ e, P.underlying t = some (.array n e) ∧ tsz P e = some s ∧ ag = tagg P e := by
  unfold tarrE at h
  split at h
  · rename_i n' e hu
    split at h
    · rename_i s' hs
      simp at h
      obtain ⟨rfl, rfl, rfl⟩ := h
      exact ⟨e, hu, hs, rfl⟩
    · cases h
  · cases h
theorem indexV_sim (hH : HR O ι H w) {t : TypeId} {n s : Nat} {ag : Bool} (ht : tarrE P t = some (n, s, ag)) {k : IntKind} {i : Int} (h0 : 0 ≤ i) (h1 : i < n) {cs sub : List AV} {c : Value} {v : AV} {N : Nat → Prop} (hx : R O ι w (.agg cs) c) (hg : getCells cs (i.toNat * s) s = some sub) (hv : partA ag sub = some v) :
    Sim P O ι H w N (Instr.index t c (.int k i)) ⟨v, []⟩ := by
  obtain ⟨e, hu, hs, rfl⟩ := tarrE_some ht
  simp only [R] at hx
  obtain ⟨l, rfl, hr, hone⟩ := hx
  obtain ⟨c, g1, g2⟩ := part_run hs hr hone hg hv
  refine .still hH ?_ g2
  simp only [Instr.index, asIntOf, Sem.run_bind, Sem.run_pure, Result.andThen_ok, run_und hu]
  rw [if_pos ⟨h0, h1⟩]
  simp only [Sem.run_bind, run_size hs, Result.andThen_ok, g1]
end Go.AI
