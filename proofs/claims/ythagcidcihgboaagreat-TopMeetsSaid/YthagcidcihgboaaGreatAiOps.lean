/-
  Own work. Operation by operation: what the value interpreter says of it, the model does.
-/
import Derived.Test.YthagcidcihgboaaGreatAiMem
import Derived.Laws.CopyRow
namespace Go.AI
open Go
set_option linter.unusedVariables false
set_option linter.unusedSimpArgs false
variable {P : Program} {O : Nat → Prop} {ι : Inj} {H H0 : Heap} {w : World}

/-- What comes of an operation: a value, memory, names. -/
structure Post (O : Nat → Prop) (ι : Inj) (H : Heap) (w : World) (N : Nat → Prop) (e : Eff) (cv : Value) (w' : World) (ι' : Inj) : Prop where
  hr : HR O ι' (writes H e.wr) w'
  val : R O ι' w' e.v cv
  ex : Ex ι w ι' w'
  new : ∀ b, ι' b ≠ none → ι b = none → N b
def Sim (P : Program) (O : Nat → Prop) (ι : Inj) (H : Heap) (w : World) (N : Nat → Prop) (s : Sem Value) (e : Eff) : Prop :=
  ∃ cv w' ι', s.run P w = .ok cv w' ∧ Post O ι H w N e cv w' ι'
def SimN (P : Program) (O : Nat → Prop) (ι : Inj) (H : Heap) (w : World) (N : Nat → Prop) (s : Sem Next) (e : Eff) : Prop :=
  ∃ nx cv w' ι', s.run P w = .ok nx w' ∧ (nx = .value cv ∨ nx = .skip ∧ cv = undef) ∧ Post O ι H w N e cv w' ι'

theorem Post.still (hH : HR O ι H w) {N : Nat → Prop} {v : AV} {cv : Value} (h : R O ι w v cv) : Post O ι H w N ⟨v, []⟩ cv w ι :=
  ⟨hH, h, Ex.refl .., fun _ h1 h2 => absurd h2 h1⟩
theorem Sim.still (hH : HR O ι H w) {N : Nat → Prop} {s : Sem Value} {v : AV} {cv : Value} (hs : s.run P w = .ok cv w) (h : R O ι w v cv) : Sim P O ι H w N s ⟨v, []⟩ :=
  ⟨cv, w, ι, hs, .still hH h⟩
theorem Sim.value {N : Nat → Prop} {s : Sem Value} {e : Eff} (h : Sim P O ι H w N s e) : SimN P O ι H w N (do pure (.value (← s))) e := by
  obtain ⟨cv, w', ι', h1, h2⟩ := h
  exact ⟨.value cv, cv, w', ι', by simp [h1], .inl rfl, h2⟩
theorem SimN.pure (hH : HR O ι H w) {N : Nat → Prop} {v : AV} {cv : Value} (h : R O ι w v cv) : SimN P O ι H w N (Pure.pure (.value cv)) ⟨v, []⟩ :=
  ⟨.value cv, cv, w, ι, rfl, .inl rfl, .still hH h⟩

/-! ### Types -/
theorem run_typeInfo' {t : TypeId} {i : TypeInfo} (h : P.info? t = some i) (w : World) : (typeInfo t).run P w = .ok i w := by simp [typeInfo, h]
theorem run_und {t : TypeId} {d : TypeDesc} (h : P.underlying t = some d) (w : World) : (underlying t).run P w = .ok d w := by simp [underlying, h]
theorem tsz_some {t : TypeId} {n : Nat} (h : tsz P t = some n) : ∃ i d, P.info? t = some i ∧ i.size = n ∧ P.underlying t = some d := by
  unfold tsz at h
  cases hi : P.info? t with
  | none => simp [hi] at h
  | some i =>
    cases hd : P.underlying t with
    | none => simp [hi, hd] at h
    | some d => simp [hi, hd] at h; exact ⟨i, d, rfl, h, rfl⟩
theorem run_size {t : TypeId} {n : Nat} (h : tsz P t = some n) (w : World) : (sizeOf t).run P w = .ok n w := by
  obtain ⟨i, d, h1, h2, _⟩ := tsz_some h
  simp [sizeOf, run_typeInfo' h1, h2]
theorem run_sizeI {t : TypeId} {i : TypeInfo} (h : P.info? t = some i) (w : World) : (sizeOf t).run P w = .ok i.size w := by
  simp [sizeOf, run_typeInfo' h]
theorem run_isAgg {t : TypeId} {d : TypeDesc} (h : P.underlying t = some d) (w : World) : (isAgg t).run P w = .ok (tagg P t) w := by
  simp only [isAgg, Sem.run_bind, run_und h, Result.andThen_ok, tagg, h]
  cases d <;> rfl
theorem run_zero {t : TypeId} {i : TypeInfo} {z : Value} (h : P.info? t = some i) (hz : i.zero = some z) (w : World) : (zeroValue t).run P w = .ok z w := by
  simp [zeroValue, run_typeInfo' h, hz]
theorem tsl_some {t e : TypeId} {s n : Nat} (h : tsl P t = some (e, s, n)) : P.underlying t = some (.slice e) ∧ ∃ i z, P.info? e = some i ∧ i.size = s ∧ i.bytes = n ∧ i.zero = some z ∧ z.cells.size = s ∧ s ≠ 0 ∧ n ≠ 0 := by
  unfold tsl at h
  split at h
  · rename_i e' hu
    split at h
    · rename_i i hi
      split at h
      · rename_i z hz
        split at h
        · rename_i hc
          simp at h
          obtain ⟨rfl, rfl, rfl⟩ := h
          exact ⟨hu, i, z, hi, rfl, rfl, hz, hc.1, hc.2.1, hc.2.2⟩
        · cases h
      · cases h
    · cases h
  · cases h
theorem tarr_some {t : TypeId} {n s : Nat} (h : tarr P t = some (n, s)) : ∃ e i, P.underlying t = some (.array n e) ∧ P.info? e = some i ∧ i.size = s := by
  unfold tarr at h
  split at h
  · rename_i n' e hu
    split at h
    · rename_i i hi
      simp at h
      obtain ⟨rfl, rfl⟩ := h
      exact ⟨e, i, hu, hi, rfl⟩
    · cases h
  · cases h
theorem tfld_some {t : TypeId} {k o n : Nat} {ag : Bool} (h : tfld P t k = some (o, n, ag)) : ∃ fs f, P.underlying t = some (.struct fs) ∧ fs[k]? = some f ∧ f.offset = o ∧ tsz P f.type = some n ∧ tagg P f.type = ag := by
  unfold tfld at h
  split at h
  · rename_i fs hu
    split at h
    · rename_i f hf
      split at h
      · rename_i s hs
        simp at h
        obtain ⟨rfl, rfl, rfl⟩ := h
        exact ⟨fs, f, hu, hf, rfl, hs, rfl⟩
      · cases h
    · cases h
  · cases h
theorem oneV_iff (v : Value) : oneV v = v.oneCell := by cases v <;> rfl
theorem zipZ_R : ∀ {l : List Value} {ss : List Nat} {zs : List AV}, zipZ l ss = some zs → Rl O ι w zs l ∧ ∀ v ∈ l, v.oneCell = true
  | [], [], zs, h => by simp [zipZ] at h; subst h; simp [Rl]
  | [], _ :: _, zs, h => by simp [zipZ] at h
  | _ :: _, [], zs, h => by simp [zipZ] at h
  | x :: r, s :: ss, zs, h => by
    simp only [zipZ] at h
    cases hz : zipZ r ss with
    | none => simp [hz] at h
    | some z =>
      simp [hz] at h
      obtain ⟨h1, rfl⟩ := h
      obtain ⟨q1, q2⟩ := zipZ_R hz
      refine ⟨?_, ?_⟩
      · simp only [Rl]
        refine ⟨x, r, rfl, ?_, q1⟩
        unfold zeroA
        split
        · simp [R]
        · simp [R, DR]
      · intro v hv
        rcases List.mem_cons.1 hv with rfl | hv
        · rw [← oneV_iff]; exact h1
        · exact q2 v hv
theorem tzero_some {t : TypeId} {zs : List AV} (h : tzero P t = some zs) : ∃ i z, P.info? t = some i ∧ i.zero = some z ∧ (∀ (O : Nat → Prop) (ι : Inj) (w : World), Rl O ι w zs z.cells.toList) ∧ ∀ v ∈ z.cells.toList, v.oneCell = true := by
  unfold tzero at h
  split at h
  · rename_i i hi
    split at h
    · rename_i z hz
      exact ⟨i, z, hi, hz, fun O ι w => (zipZ_R h).1, (zipZ_R (O := fun _ => False) (ι := fun _ => none) (w := default) h).2⟩
    · cases h
  · cases h
theorem tyNil_R {t : TypeId} {v : AV} {c : Value} (h : R O ι w v c) : R O ι w (tyNil P t v) c := by
  cases v <;> first | exact h | (simp only [tyNil, R] at h ⊢; exact h)
theorem tyNil_ok {t : TypeId} {v : AV} : okCells (tyNil P t v) = okCells v := by cases v <;> rfl
theorem tyNil_cells {t : TypeId} {v : AV} : (tyNil P t v).cells.length = v.cells.length := by cases v <;> rfl
theorem tyFld_R {t : TypeId} {k : Nat} {v : AV} {c : Value} (h : R O ι w v c) : R O ι w (tyFld P t k v) c := by
  unfold tyFld
  split
  · split
    · exact tyNil_R h
    · exact h
  · exact tyNil_R h
  · exact tyNil_R h
  · exact h

/-! ### Memory that is made -/
theorem one_iff (v : Value) : v.oneCell' = v.oneCell := by cases v <;> rfl
theorem mkRow_sim (hH : HR O ι H w) {fr : Nat} (hfr : ∀ b, fr ≤ b → b < fr + 16 → ι b = none) {cs : List AV} {l : List Value} {e : Eff} (he : mkRow fr cs = some e) (hr : Rl O ι w cs l) (ho : ∀ v ∈ l, v.oneCell = true) (t : TypeId) :
    Sim P O ι H w (fun b => fr ≤ b ∧ b < fr + 16) (do pure (.pointer (some (← newRow t l.toArray)))) e := by
  unfold mkRow at he
  split at he
  · rename_i hlt
    simp at he; subst he
    obtain ⟨ι1, g1, g2, g3, g4⟩ := virt_R cs (k := fr + 1) hH (fun b h1 h2 => hfr b (by omega) (by omega)) hr
    have hf1 : ι1 fr = none := by
      cases h : ι1 fr with
      | none => rfl
      | some e => have := g4 fr (by rw [h]; simp) (hfr fr (Nat.le_refl _) (by omega)); omega
    have hlen : l.length = cs.length := Rl_length hr
    have hrows : RowsIn O ι1 w l.toArray 0 cs.length [(virt (fr + 1) cs).1] := by
      intro i x hx
      cases i with
      | succ i => simp at hx
      | zero =>
        simp at hx; subst hx
        refine ⟨virt_len cs _, fun j y hy => ?_⟩
        obtain ⟨v, hv, hrv⟩ := Rl_get g2 hy
        exact ⟨v, by simpa using hv, ho v (List.mem_of_getElem? hv), hrv⟩
    obtain ⟨q1, q2⟩ := new_row g1 hf1 t w.drawn hrows (by simp [hlen])
    refine ⟨.pointer (some ⟨w.heap.size, 0, none⟩), { w with heap := w.heap.push (.cells l.toArray t) }, iset ι1 fr (some ⟨some w.heap.size, 0, cs.length, 0, 1, l.toArray.size, false⟩), by simp [newRow], ?_, ?_, ?_, ?_⟩
    · simp only [writes]
      rw [writes_hset (fun y hy => by have := virt_keys cs (fr + 1) y hy; omega)]
      exact q1
    · simp only [R]
      exact ⟨_, iset_same .., rfl, Nat.le_refl _, ⟨_, rfl⟩, fun _ => ⟨w.heap.size, rfl, by simp⟩⟩
    · exact Ex.trans hH.lt g3 q2
    · intro b h1 h2
      by_cases hb : b = fr
      · omega
      · rw [iset_ne _ _ hb] at h1
        have := g4 b h1 h2; omega
  · cases he

theorem alloc_sim (hH : HR O ι H w) {fr : Nat} (hfr : ∀ b, fr ≤ b → b < fr + 16 → ι b = none) {t : TypeId} {z z' : List AV} {e : Eff} (hz : tzero P t = some z) (hz' : ∀ l, Rl O ι w z l → Rl O ι w z' l) (he : mkRow fr z' = some e) :
    Sim P O ι H w (fun b => fr ≤ b ∧ b < fr + 16) (Instr.alloc t true (.tuple #[])) e := by
  obtain ⟨i, v, h1, h2, h3, h4⟩ := tzero_some hz
  have := mkRow_sim (P := P) hH hfr he (hz' _ (h3 O ι w)) h4 t
  obtain ⟨cv, w', ι', q1, q2⟩ := this
  refine ⟨cv, w', ι', ?_, q2⟩
  rw [← q1]
  simp [Instr.alloc, run_zero h1 h2, newVar]

theorem box_sim (hH : HR O ι H w) {fr : Nat} (hfr : ∀ b, fr ≤ b → b < fr + 16 → ι b = none) {t : TypeId} {x : AV} {c : Value} {e : Eff} (hx : R O ι w x c) (ho : okCells x = true) (he : mkRow fr x.cells = some e) :
    Sim P O ι H w (fun b => fr ≤ b ∧ b < fr + 16) (Instr.box t c) e := by
  obtain ⟨h1, h2⟩ := cells_R hx ho
  have := mkRow_sim (P := P) hH hfr he h1 h2 t
  obtain ⟨cv, w', ι', q1, q2⟩ := this
  refine ⟨cv, w', ι', ?_, q2⟩
  rw [← q1]
  simp [Instr.box, newVar]

/-! ### Loads -/
theorem getCells_some {r cs : List AV} {o n : Nat} (h : getCells r o n = some cs) : o + n ≤ r.length ∧ cs.length = n ∧ ∀ j, j < n → cs[j]? = r[o + j]? := by
  unfold getCells at h
  split at h
  · simp at h; subst h
    refine ⟨by assumption, by simp; omega, fun j hj => ?_⟩
    rw [List.getElem?_take, if_pos hj, List.getElem?_drop]
  · cases h
/-- A load out of cells that are known. -/
theorem load_run {t : TypeId} {n k off : Nat} (hs : tsz P t = some n) {cs : List AV} {v : AV} (hv : partA (tagg P t) cs = some v) (hl : cs.length = n)
    (hc : ∀ (j : Nat) y, cs[j]? = some y → ∃ c, w.cell? ⟨k, off + j, none⟩ = some c ∧ c.oneCell = true ∧ R O ι w y c) :
    ∃ c, (loadVar t ⟨k, off, none⟩).run P w = .ok c w ∧ R O ι w v c := by
  obtain ⟨i, d, h1, h2, h3⟩ := tsz_some hs
  unfold partA at hv
  cases hag : tagg P t with
  | true =>
    rw [hag] at hv
    simp at hv; subst hv
    have hex : ∃ l : List Value, l.length = cs.length ∧ ∀ j c, l[j]? = some c → w.cell? ⟨k, off + j, none⟩ = some c ∧ c.oneCell = true ∧ ∃ y, cs[j]? = some y ∧ R O ι w y c := by
      clear hl hag
      induction cs generalizing off with
      | nil => exact ⟨[], rfl, by simp⟩
      | cons y r ih =>
        obtain ⟨c, q1, q2, q3⟩ := hc 0 y (by simp)
        obtain ⟨l, g1, g2⟩ := ih (off := off + 1) (fun j z hz => by
          obtain ⟨c, a1, a2⟩ := hc (j + 1) z (by simpa using hz)
          exact ⟨c, by rw [show off + 1 + j = off + (j + 1) from by omega]; exact a1, a2⟩)
        refine ⟨c :: l, by simp [g1], fun j d hd => ?_⟩
        cases j with
        | zero => simp at hd; subst hd; exact ⟨by simpa using q1, q2, y, by simp, q3⟩
        | succ j =>
          simp at hd
          obtain ⟨a1, a2, a3⟩ := g2 j d hd
          exact ⟨by rw [show off + (j + 1) = off + 1 + j from by omega]; exact a1, a2, by simpa using a3⟩
    obtain ⟨l, g1, g2⟩ := hex
    have hrun : (loadCells ⟨k, off, none⟩ n).run P w = .ok l.toArray w := by
      have := run_loadCells_list (P := P) w ⟨k, off, none⟩ l (fun j c hj => by
        have := (g2 j c hj).1
        unfold Addr.add
        split
        · rename_i h0; subst h0; simpa using this
        · exact this)
      rw [show n = l.length from by omega]
      exact this
    refine ⟨.agg l.toArray, by simp [loadVar, run_isAgg h3, hag, run_size hs, hrun], ?_⟩
    simp only [R]
    refine ⟨l, rfl, Rl_of g1 (fun j x c hx hc' => ?_), fun c hc' => ?_⟩
    · obtain ⟨_, _, y, hy, hr⟩ := g2 j c hc'
      rw [hx] at hy; cases hy; exact hr
    · obtain ⟨j, hj⟩ := List.getElem?_of_mem hc'
      exact (g2 j c hj).2.1
  | false =>
    rw [hag] at hv
    simp only [Bool.false_eq_true, if_false] at hv
    cases cs with
    | nil => simp at hv
    | cons y r =>
      cases r with
      | cons _ _ => simp at hv
      | nil =>
        simp at hv; subst hv
        obtain ⟨c, q1, q2, q3⟩ := hc 0 y (by simp)
        refine ⟨c, ?_, q3⟩
        simp only [Nat.add_zero] at q1
        simp [loadVar, run_isAgg h3, hag, q1]

theorem load_ptr_run (hH : HR O ι H w) {t : TypeId} {n b ver i o s ver' : Nat} {data : List (List AV)} {r cs : List AV} {v : AV} {c : Value} (hs : tsz P t = some n) (hp : R O ι w (.ptr b ver i o) c)
    (hb : H b = some (.row s ver' data)) (hver : ver = ver') (hi : data[i]? = some r) (hg : getCells r o n = some cs) (hv : partA (tagg P t) cs = some v) : ∃ c', (Instr.loadAt t c).run P w = .ok c' w ∧ R O ι w v c' := by
  simp only [R] at hp
  obtain ⟨e, he, hmp, hle, _, hat⟩ := hp
  obtain ⟨B, hB, hbr⟩ := hH.blk b e he
  rw [hb] at hB; cases hB
  obtain ⟨_, q2, q3, q4, q5, q6⟩ := hbr
  obtain ⟨k, hk, rfl⟩ := hat (by omega)
  obtain ⟨_, _, r3⟩ := q6 k hk
  obtain ⟨g1, g2⟩ := r3 i r hi
  obtain ⟨a1, a2, a3⟩ := getCells_some hg
  obtain ⟨c, l1, l2⟩ := load_run (k := k) (off := e.base + i * e.s + o) hs hv a2 (fun j y hj => by
    have hjn : j < n := by rw [← a2]; exact (List.getElem?_eq_some_iff.1 hj).1
    rw [a3 j hjn] at hj
    obtain ⟨v, v1, v2, v3⟩ := g2 (o + j) y hj
    exact ⟨v, by rw [q2, show e.base + i * s + o + j = e.base + i * s + (o + j) from by omega]; exact v1, v2, v3⟩)
  exact ⟨c, by simp [Instr.loadAt, Instr.sureAddr, l1], l2⟩

theorem load_ptr (hH : HR O ι H w) {t : TypeId} {n b ver i o s ver' : Nat} {data : List (List AV)} {r cs : List AV} {v : AV} {c : Value} {N : Nat → Prop} (hs : tsz P t = some n) (hp : R O ι w (.ptr b ver i o) c)
    (hb : H b = some (.row s ver' data)) (hver : ver = ver') (hi : data[i]? = some r) (hg : getCells r o n = some cs) (hv : partA (tagg P t) cs = some v) : Sim P O ι H w N (Instr.loadAt t c) ⟨v, []⟩ := by
  obtain ⟨c', h1, h2⟩ := load_ptr_run (P := P) hH hs hp hb hver hi hg hv
  exact .still hH h1 h2

theorem load_dptr_run {t : TypeId} {n o : Nat} {x : List DV} {cs : List AV} {v : AV} {c : Value} (hs : tsz P t = some n) (hp : R O ι w (.d (.ptr x o)) c)
    (hg : getCells (x.map .d) o n = some cs) (hv : partA (tagg P t) cs = some v) : ∃ c', (Instr.loadAt t c).run P w = .ok c' w ∧ R O ι w v c' := by
  simp only [R, DR] at hp
  obtain ⟨k, off, rfl, hi, hk, hd⟩ := hp
  rw [DRs_iff] at hd
  obtain ⟨a1, a2, a3⟩ := getCells_some hg
  obtain ⟨c, l1, l2⟩ := load_run (O := O) (ι := ι) (k := k) (off := off + o) hs hv a2 (fun j y hj => by
    have hjn : j < n := by rw [← a2]; exact (List.getElem?_eq_some_iff.1 hj).1
    rw [a3 j hjn, List.getElem?_map] at hj
    cases hx : x[o + j]? with
    | none => simp [hx] at hj
    | some z =>
      simp [hx] at hj; subst hj
      obtain ⟨v, v1, v2, v3⟩ := hd (o + j) z hx
      exact ⟨v, by rw [Nat.add_assoc]; exact v1, v2, by simp only [R]; exact v3⟩)
  exact ⟨c, by simp [Instr.loadAt, Instr.sureAddr, l1], l2⟩
theorem load_dptr (hH : HR O ι H w) {t : TypeId} {n o : Nat} {x : List DV} {cs : List AV} {v : AV} {c : Value} {N : Nat → Prop} (hs : tsz P t = some n) (hp : R O ι w (.d (.ptr x o)) c)
    (hg : getCells (x.map .d) o n = some cs) (hv : partA (tagg P t) cs = some v) : Sim P O ι H w N (Instr.loadAt t c) ⟨v, []⟩ := by
  obtain ⟨c', h1, h2⟩ := load_dptr_run (P := P) hs hp hg hv
  exact .still hH h1 h2
end Go.AI
