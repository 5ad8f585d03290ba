/-
  Own work. Operation by operation: stores, slices, appends.
-/
import Derived.Test.YthagcidcihgboaaGreatAiOps
namespace Go.AI
open Go
set_option linter.unusedVariables false
set_option linter.unusedSimpArgs false
variable {P : Program} {O : Nat → Prop} {ι : Inj} {H H0 : Heap} {w : World}

theorem iset_self {b : Nat} {e : CB} (h : ι b = some e) : iset ι b (some e) = ι := by
  funext c
  by_cases hc : c = b
  · subst hc; rw [iset_same]; exact h.symm
  · rw [iset_ne _ _ hc]

/-- Cells of a row are written; the row keeps its place. -/
theorem put_row (hH : HR O ι H w) {b : Nat} {e : CB} (he : ι b = some e) {s ver : Nat} {data data' : List (List AV)} (hB : H b = some (.row s ver data)) {k : Nat} (hk : e.blk = some k) {cs cs' : Array Value} {t : TypeId}
    (hc : w.heap[k]? = some (.cells cs t (0, 0))) (hsz : cs'.size = cs.size) (hout : ∀ o, o < e.base ∨ e.base + e.cells ≤ o → cs'[o]? = cs[o]?) (hd : RowsIn O ι w cs' e.base s data') (hl : data'.length = data.length) :
    HR O ι (hset H b (some (.row s ver data'))) (w.setRow k cs') ∧ Ex ι w ι (w.setRow k cs') := by
  obtain ⟨B, hB', hbr⟩ := hH.blk b e he
  rw [hB] at hB'; cases hB'
  obtain ⟨q1, q2, q3, q4, q5, q6⟩ := hbr
  have hh := setRow_heap w k cs cs' t (0, 0) hc
  have ho : Only w (w.setRow k cs') ((ι b).bind (·.blk)) e.base (e.base + e.cells) := by
    rw [he]
    simp only [Option.bind_some, hk]
    refine ⟨rfl, rfl, rfl, by simp, fun k2 _ hne => setRow_other w k k2 cs' (fun h => hne (by rw [h])), fun k2 cs2 t2 fz h2 hc2 => ?_⟩
    cases h2
    rw [hc] at hc2; cases hc2
    exact ⟨cs', hh, hsz, hout⟩
  have hr : ∀ e0, ι b = some e0 → e.base = e0.base ∧ e.base + e.cells = e0.base + e0.cells ∧ e0.mp = e.mp ∧ e0.ver ≤ e.ver ∧ (e0.ver = e.ver ∨ e0.mp = true → e = e0) := fun e0 h0 => by
    rw [he] at h0; cases h0; exact ⟨rfl, rfl, rfl, Nat.le_refl _, fun _ => rfl⟩
  have hk' : ∀ k2, e.blk = some k2 → w.heap.size ≤ k2 ∨ ∃ e0, ι b = some e0 ∧ e0.blk = some k2 ∧ e.base = e0.base ∧ e.cells = e0.cells := fun k2 h2 => .inr ⟨e, he, h2, rfl, rfl⟩
  have hx := Ex.upd hH ho hr hk'
  have := HR.upd (B' := .row s ver data') hH ho hr hk' (by
    refine ⟨q1, q2, q3, by rw [q4, hl], fun h => (by rw [hk] at h; cases h), fun k2 h2 => ?_⟩
    rw [hk] at h2; cases h2
    obtain ⟨⟨cs0, t0, r1, r2⟩, r3, r4⟩ := q6 k hk
    rw [hc] at r1; cases r1
    exact ⟨⟨cs', t, hh, by rw [hsz]; exact r2⟩, r3, hd.at hx hh⟩)
  rw [iset_self he] at this hx
  exact ⟨this, hx⟩

theorem splice_get (A l : List Value) (off i : Nat) (h : off + l.length ≤ A.length) :
    (A.take off ++ l ++ A.drop (off + l.length))[i]? = if i < off then A[i]? else if i < off + l.length then l[i - off]? else A[i]? := by
  have h1 : (A.take off).length = off := by simp; omega
  rw [List.append_assoc]
  by_cases hi : i < off
  · rw [if_pos hi, List.getElem?_append_left (by omega), List.getElem?_take, if_pos hi]
  · rw [if_neg hi, List.getElem?_append_right (by omega), h1]
    by_cases hi2 : i < off + l.length
    · rw [if_pos hi2, List.getElem?_append_left (by omega)]
    · rw [if_neg hi2, List.getElem?_append_right (by omega), List.getElem?_drop]
      congr 1
      omega
theorem RowsAt.rowsIn {k base s : Nat} {data : List (List AV)} (h : RowsAt O ι w k base s data) {cs : Array Value} {t : TypeId} (hc : w.heap[k]? = some (.cells cs t (0, 0))) : RowsIn O ι w cs base s data := by
  intro i x hx
  obtain ⟨h1, h2⟩ := h i x hx
  refine ⟨h1, fun j y hy => ?_⟩
  obtain ⟨v, v1, v2, v3⟩ := h2 j y hy
  exact ⟨v, by rw [← cell_new hc]; exact v1, v2, v3⟩
theorem RowsIn.mono {ι' : Inj} {w' : World} (hx : Ex ι w ι' w') {cs : Array Value} {base s : Nat} {data : List (List AV)} (h : RowsIn O ι w cs base s data) : RowsIn O ι' w' cs base s data := by
  intro i x hi
  obtain ⟨h1, h2⟩ := h i x hi
  refine ⟨h1, fun j y hy => ?_⟩
  obtain ⟨v, v1, v2, v3⟩ := h2 j y hy
  exact ⟨v, v1, v2, v3.mono hx⟩
theorem mul_apart {i i2 s j o n : Nat} (hj : j < s) (ho : o + n ≤ s) (hne : i2 ≠ i) : i2 * s + j < i * s + o ∨ i * s + o + n ≤ i2 * s + j := by
  rcases Nat.lt_or_gt_of_ne hne with h | h
  · have : (i2 + 1) * s ≤ i * s := Nat.mul_le_mul_right _ h
    rw [Nat.add_mul] at this
    left; omega
  · have : (i + 1) * s ≤ i2 * s := Nat.mul_le_mul_right _ h
    rw [Nat.add_mul] at this
    right; omega
theorem row_in {i s n : Nat} (h : i < n) : i * s + s ≤ n * s := by
  have : (i + 1) * s ≤ n * s := Nat.mul_le_mul_right _ h
  rw [Nat.add_mul] at this; omega

theorem Addr.add_none (k off n : Nat) : (⟨k, off, none⟩ : Addr).add n = ⟨k, off + n, none⟩ := by
  unfold Addr.add; split <;> simp_all

theorem store_sim (hH : HR O ι H w) {fr : Nat} (hfr : ∀ b, fr ≤ b → b < fr + 16 → ι b = none) {t : TypeId} {n b ver i o s ver' : Nat} {data : List (List AV)} {r : List AV} {x : AV} {c p : Value} (hs : tsz P t = some n) (hp : R O ι w (.ptr b ver i o) p)
    (hb : H b = some (.row s ver' data)) (hver : ver = ver') (hi : data[i]? = some r) (hon : o + n ≤ r.length) (hx : R O ι w x c) (hok : okCells x = true) (hln : x.cells.length = n) (hvl : (virt fr x.cells).2.length < 15) :
    SimN P O ι H w (fun b => fr ≤ b ∧ b < fr + 16) (do Instr.storeAt t p c; pure .skip) ⟨undefA, (b, some (.row s ver (data.set i (putCells r o (virt fr x.cells).1)))) :: (virt fr x.cells).2⟩ := by
  obtain ⟨hc1, hc2⟩ := cells_R hx hok
  obtain ⟨ι1, g1, g2, g3, g4⟩ := virt_R x.cells (k := fr) hH (fun b h1 h2 => hfr b h1 (by omega)) hc1
  have hp0 := hp
  simp only [R] at hp
  obtain ⟨e, he, hmp, hle, _, hat⟩ := hp
  have hbfr : ∀ y ∈ (virt fr x.cells).2, y.1 ≠ b := fun y hy hyb => by
    have := virt_keys x.cells fr y hy
    have := hfr y.1 (by omega) (by omega)
    rw [hyb, he] at this; cases this
  have hb1 : writes H (virt fr x.cells).2 b = some (.row s ver' data) := by rw [writes_of hbfr]; exact hb
  obtain ⟨e1, he1, hm1, hv1, hsame⟩ := g3.old b e he
  obtain ⟨B, hB, hbr⟩ := hH.blk b e he
  rw [hb] at hB; cases hB
  obtain ⟨_, q2, q3, q4, q5, q6⟩ := hbr
  obtain ⟨B1, hB1, hbr1⟩ := g1.blk b e1 he1
  rw [hb1] at hB1; cases hB1
  obtain ⟨_, q2', q3', q4', q5', q6'⟩ := hbr1
  have : e1 = e := hsame (.inl (by omega))
  subst this
  obtain ⟨k, hk, rfl⟩ := hat (by omega)
  obtain ⟨⟨cs, ty, r1, r2⟩, r3, r4⟩ := q6' k hk
  obtain ⟨i0, d, hi1, hi2, hi3⟩ := tsz_some hs
  have hsr : r.length = s := (r4 i r hi).1
  have hil : i < data.length := (List.getElem?_eq_some_iff.1 hi).1
  have hrow := row_in (s := s) hil
  have hcl : c.cells.toList.length = n := by rw [Rl_length hc1, hln]
  have hcl' : c.cells.size = n := by simpa using hcl
  have hfit : e1.base + i * s + o + n ≤ cs.size := by rw [q4', q2'] at r3; omega
  have hst := run_storeCells_at P k (e1.base + i * s + o) ty c.cells.toList 0 cs w r1 (by rw [hcl]; omega) (fun v hv => by rw [one_iff]; exact hc2 v hv)
  simp only [Nat.add_zero, hcl] at hst
  have hrun : (Instr.storeAt t (.pointer (some ⟨k, e1.base + i * e1.s + o, none⟩)) c).run P w = .ok () (w.setRow k (cs.toList.take (e1.base + i * s + o) ++ c.cells.toList ++ cs.toList.drop (e1.base + i * s + o + n)).toArray) := by
    simp only [Instr.storeAt, Instr.sureAddr, storeVar, Sem.run_bind, Sem.run_pure, Result.andThen_ok, run_size hs]
    rw [if_neg (by simp [hcl'])]
    rw [q2']
    simp [hst]
  have hget : ∀ j, (cs.toList.take (e1.base + i * s + o) ++ c.cells.toList ++ cs.toList.drop (e1.base + i * s + o + n)).toArray[j]? = if j < e1.base + i * s + o then cs[j]? else if j < e1.base + i * s + o + n then c.cells.toList[j - (e1.base + i * s + o)]? else cs[j]? := by
    intro j
    have := splice_get cs.toList c.cells.toList (e1.base + i * s + o) j (by rw [hcl]; simpa using hfit)
    rw [hcl] at this
    simpa using this
  have hold := r4.rowsIn r1
  have hvlen := virt_len x.cells fr
  obtain ⟨p1, p2⟩ := put_row (data' := data.set i (putCells r o (virt fr x.cells).1)) g1 he1 hb1 hk r1
    (cs' := (cs.toList.take (e1.base + i * s + o) ++ c.cells.toList ++ cs.toList.drop (e1.base + i * s + o + n)).toArray)
    (by simp [hcl']; omega)
    (fun j hj => by
      rw [hget j]
      rw [q4', q2'] at r3
      rcases hj with hj | hj
      · rw [if_pos (by omega)]
      · rw [if_neg (by omega), if_neg (by omega)])
    (by
      intro i2 y hy
      rw [List.getElem?_set] at hy
      by_cases hii : i = i2
      · subst hii
        rw [if_pos rfl, if_pos hil] at hy
        cases hy
        have hpl : (putCells r o (virt fr x.cells).1).length = s := by
          unfold putCells; simp [hvlen, hln]; omega
        refine ⟨hpl, fun j z hz => ?_⟩
        have hjs : j < s := by rw [← hpl]; exact (List.getElem?_eq_some_iff.1 hz).1
        rw [hget]
        unfold putCells at hz
        by_cases hj1 : j < o
        · rw [List.getElem?_append_left (by simp; omega), List.getElem?_take, if_pos hj1] at hz
          rw [if_pos (by omega)]
          exact (hold i r hi).2 j z hz
        · rw [List.getElem?_append_right (by simp; omega)] at hz
          have htl : (r.take o).length = o := by simp; omega
          rw [htl] at hz
          rw [if_neg (by omega)]
          by_cases hj2 : j < o + n
          · rw [if_pos (by omega)]
            rw [List.getElem?_append_left (by rw [hvlen, hln]; omega)] at hz
            obtain ⟨v, hv, hrv⟩ := Rl_get g2 hz
            refine ⟨v, by rw [show e1.base + i * s + j - (e1.base + i * s + o) = j - o from by omega]; exact hv, hc2 v (List.mem_of_getElem? hv), hrv⟩
          · rw [if_neg (by omega)]
            rw [List.getElem?_append_right (by rw [hvlen, hln]; omega), List.getElem?_drop, hvlen, hln] at hz
            rw [show o + n + (j - o - n) = j from by omega] at hz
            exact (hold i r hi).2 j z hz
      · rw [if_neg hii] at hy
        obtain ⟨a1, a2⟩ := hold i2 y hy
        refine ⟨a1, fun j z hz => ?_⟩
        have hjs : j < s := by rw [← a1]; exact (List.getElem?_eq_some_iff.1 hz).1
        obtain ⟨v, v1, v2⟩ := a2 j z hz
        refine ⟨v, ?_, v2⟩
        rw [hget]
        rcases mul_apart (o := o) (n := n) hjs (by omega) (Ne.symm hii) with hap | hap
        · rw [if_pos (by omega)]; exact v1
        · rw [if_neg (by omega), if_neg (by omega)]; exact v1)
    (by simp)
  refine ⟨.skip, undef, _, ι1, by simp [hrun], .inr ⟨rfl, rfl⟩, ?_, by simp [undefA, R, DR], Ex.trans hH.lt g3 p2, fun b h1 h2 => ?_⟩
  · simp only [writes]
    rw [writes_hset hbfr, hver]
    exact p1
  · have := g4 b h1 h2; omega

/-! ### Rows as a source -/
theorem rows_cells {k s : Nat} : ∀ {ys : List (List AV)} {off : Nat}, RowsAt O ι w k off s ys →
    ∃ l : List Value, l.length = ys.length * s ∧ (∀ (j : Nat) v, l[j]? = some v → w.cell? ⟨k, off + j, none⟩ = some v) ∧ RowsIn O ι w l.toArray 0 s ys ∧ ∀ v ∈ l, v.oneCell = true
  | [], off, _ => ⟨[], by simp, by simp, fun i x h => by simp at h, by simp⟩
  | x :: r, off, h => by
    obtain ⟨h1, h2⟩ := h 0 x (by simp)
    have hx : ∃ l : List Value, l.length = s ∧ (∀ (j : Nat) v, l[j]? = some v → w.cell? ⟨k, off + j, none⟩ = some v ∧ v.oneCell = true ∧ ∃ y, x[j]? = some y ∧ R O ι w y v) := by
      rw [← h1]
      simp only [Nat.zero_mul, Nat.add_zero] at h2
      clear h h1
      induction x generalizing off with
      | nil => exact ⟨[], rfl, by simp⟩
      | cons y t ih =>
        obtain ⟨v, v1, v2, v3⟩ := h2 0 y (by simp)
        obtain ⟨l, g1, g2⟩ := ih (off := off + 1) (fun j z hz => by
          obtain ⟨u, u1, u2⟩ := h2 (j + 1) z (by simpa using hz)
          exact ⟨u, by rw [show off + 1 + j = off + (j + 1) from by omega]; exact u1, u2⟩)
        refine ⟨v :: l, by simp [g1], fun j u hu => ?_⟩
        cases j with
        | zero => simp at hu; subst hu; exact ⟨by simpa using v1, v2, y, by simp, v3⟩
        | succ j =>
          simp at hu
          obtain ⟨a1, a2, a3⟩ := g2 j u hu
          exact ⟨by rw [show off + (j + 1) = off + 1 + j from by omega]; exact a1, a2, by simpa using a3⟩
    obtain ⟨lx, lx1, lx2⟩ := hx
    obtain ⟨l, l1, l2, l3, l4⟩ := rows_cells (ys := r) (off := off + s) (fun i y hy => by
      obtain ⟨a1, a2⟩ := h (i + 1) y (by simpa using hy)
      refine ⟨a1, fun j z hz => ?_⟩
      obtain ⟨v, v1, v2⟩ := a2 j z hz
      exact ⟨v, by rw [show off + s + i * s + j = off + (i + 1) * s + j from by rw [Nat.add_mul]; omega]; exact v1, v2⟩)
    refine ⟨lx ++ l, by simp [lx1, l1, Nat.add_mul]; omega, fun j v hv => ?_, fun i y hy => ?_, fun v hv => ?_⟩
    · by_cases hj : j < s
      · rw [List.getElem?_append_left (by omega)] at hv
        exact (lx2 j v hv).1
      · rw [List.getElem?_append_right (by omega), lx1] at hv
        rw [show off + j = off + s + (j - s) from by omega]
        exact l2 _ v hv
    · cases i with
      | zero =>
        simp at hy; subst hy
        refine ⟨h1, fun j z hz => ?_⟩
        have hj : j < lx.length := by rw [lx1, ← h1]; exact (List.getElem?_eq_some_iff.1 hz).1
        obtain ⟨a1, a2, y, a3, a4⟩ := lx2 j lx[j] (List.getElem?_eq_getElem hj)
        rw [hz] at a3; cases a3
        refine ⟨lx[j], ?_, a2, a4⟩
        simp [List.getElem?_append_left hj, hj]
      | succ i =>
        simp at hy
        obtain ⟨a1, a2⟩ := l3 i y hy
        refine ⟨a1, fun j z hz => ?_⟩
        obtain ⟨v, v1, v2⟩ := a2 j z hz
        refine ⟨v, ?_, v2⟩
        simp only [Nat.zero_add, List.getElem?_toArray] at v1 ⊢
        rw [List.getElem?_append_right (by rw [lx1, Nat.add_mul]; omega), lx1, ← v1]
        congr 1
        rw [Nat.add_mul]; omega
    · rcases List.mem_append.1 hv with hv | hv
      · obtain ⟨j, hj⟩ := List.getElem?_of_mem hv
        exact (lx2 j v hj).2.1
      · exact l4 v hv

theorem embed_rows {k s off : Nat} {xs : List (List DV)} (h : DRss (imm O ι) w k s off xs) : RowsAt O ι w k off s (embed xs) := by
  rw [DRss_iff] at h
  intro i x hx
  unfold embed at hx
  rw [List.getElem?_map] at hx
  cases hd : xs[i]? with
  | none => simp [hd] at hx
  | some r =>
    simp [hd] at hx; subst hx
    obtain ⟨g1, g2⟩ := h i r hd
    refine ⟨by simpa using g1, fun j y hy => ?_⟩
    rw [List.getElem?_map] at hy
    cases hr : r[j]? with
    | none => simp [hr] at hy
    | some z =>
      simp [hr] at hy; subst hy
      rw [DRs_iff] at g2
      obtain ⟨v, v1, v2, v3⟩ := g2 j z hr
      exact ⟨v, v1, v2, by simp only [R]; exact v3⟩
theorem RowsAt.slice {k base s : Nat} {data : List (List AV)} (h : RowsAt O ι w k base s data) (off len : Nat) : RowsAt O ι w k (base + off * s) s ((data.drop off).take len) := by
  intro i x hx
  rw [List.getElem?_take] at hx
  split at hx
  · rw [List.getElem?_drop] at hx
    obtain ⟨h1, h2⟩ := h (off + i) x hx
    refine ⟨h1, fun j y hy => ?_⟩
    obtain ⟨v, v1, v2⟩ := h2 j y hy
    exact ⟨v, by rw [show base + off * s + i * s + j = base + (off + i) * s + j from by rw [Nat.add_mul]; omega]; exact v1, v2⟩
  · cases hx

/-- What a slice holds, cell by cell. -/
structure Src (O : Nat → Prop) (ι : Inj) (w : World) (P : Program) (s0 : Nat) (ys : List (List AV)) (c : Value) (l : List Value) : Prop where
  len : l.length = ys.length * s0
  run : ∀ w2 : World, w2.heap = w.heap → (Builtin.firstCells s0 ys.length c).run P w2 = .ok l.toArray w2
  rows : RowsIn O ι w l.toArray 0 s0 ys
  one : ∀ v ∈ l, v.oneCell = true
theorem rowsOf_src (hH : HR O ι H w) (h0 : ∀ b B, H0 b = some B → H b = some B) {s0 : Nat} {x : AV} {c : Value} {ys : List (List AV)} (h : rowsOf H0 s0 x = some ys) (hx : R O ι w x c) :
    ∃ a cap l, c = .slice a ys.length cap ∧ ys.length ≤ cap ∧ Src O ι w P s0 ys c l := by
  have fin : ∀ {k off cap : Nat} {ys : List (List AV)}, ys.length ≤ cap → RowsAt O ι w k off s0 ys → ∃ a cap' l, Value.slice (some ⟨k, off, none⟩) ys.length cap = .slice a ys.length cap' ∧ ys.length ≤ cap' ∧ Src O ι w P s0 ys (.slice (some ⟨k, off, none⟩) ys.length cap) l := by
    intro k off cap ys hcap hr
    obtain ⟨l, l1, l2, l3, l4⟩ := rows_cells hr
    refine ⟨_, cap, l, rfl, hcap, l1, fun w2 hw2 => ?_, l3, l4⟩
    have := run_loadCells_list (P := P) w2 ⟨k, off, none⟩ l (fun j v hj => by rw [Addr.add_none, cell_of_heap (w := w) (by rw [hw2])]; exact l2 j v hj)
    simp only [Builtin.firstCells]
    rw [← l1]; exact this
  have emp : ∀ {a : Option Addr} {cap : Nat}, ∃ a' cap' l, Value.slice a 0 cap = .slice a' ([] : List (List AV)).length cap' ∧ ([] : List (List AV)).length ≤ cap' ∧ Src O ι w P s0 [] (.slice a 0 cap) l := by
    intro a cap
    refine ⟨a, cap, [], rfl, Nat.zero_le _, by simp, fun w2 _ => ?_, fun i x h => by simp at h, by simp⟩
    cases a with
    | none => simp [Builtin.firstCells]
    | some a => simp [Builtin.firstCells, loadCells, loadCellsFrom]
  cases x with
  | d y =>
    cases y with
    | lst s xs =>
      simp only [rowsOf] at h
      split at h
      · rename_i hs; subst hs
        simp at h; subst h
        simp only [R, DR] at hx
        obtain ⟨a, cap, rfl, hl, hx⟩ := hx
        rcases hx with rfl | ⟨k, off, rfl, _, _, hx⟩
        · exact emp
        · have := fin (cap := cap) (ys := embed xs) (by simpa [embed] using hl) (embed_rows hx)
          simpa [embed] using this
      · cases h
    | _ => simp [rowsOf] at h
  | ex s xs =>
    simp only [rowsOf] at h
    split at h
    · rename_i hs; subst hs
      simp at h; subst h
      simp only [R] at hx
      obtain ⟨a, rfl, hx⟩ := hx
      rcases hx with rfl | ⟨k, off, rfl, _, _, hx⟩
      · exact emp
      · have := fin (cap := xs.length) (ys := embed xs) (by simp [embed]) (embed_rows hx)
        simpa [embed] using this
    · cases h
  | nil s =>
    simp only [rowsOf] at h
    cases h
    simp only [R] at hx; subst hx
    exact emp
  | ref b ver off len =>
    simp only [rowsOf] at h
    cases hb : H0 b with
    | none => simp [hb] at h
    | some B =>
      cases B with
      | mp es => simp [hb] at h
      | row s ver' data =>
        simp only [hb] at h
        split at h
        · rename_i hc
          obtain ⟨rfl, hvv⟩ := hc
          simp at h; subst h
          simp only [R] at hx
          obtain ⟨e, he, hmp, hle, _, hat⟩ := hx
          obtain ⟨B, hB, hbr⟩ := hH.blk b e he
          rw [h0 b _ hb] at hB; cases hB
          obtain ⟨_, q2, q3, q4, q5, q6⟩ := hbr
          have hsl := hat (by omega)
          have hol : off + len ≤ data.length := by rw [← q4]; exact hsl.le
          have hyl : ((data.drop off).take len).length = len := by simp; omega
          unfold SliceAt at hsl
          cases hbk : e.blk with
          | none =>
            rw [hbk] at hsl
            obtain ⟨rfl, rfl, rfl⟩ := hsl
            simpa using emp (a := none) (cap := 0)
          | some k =>
            rw [hbk] at hsl
            obtain ⟨a, cap, rfl, hcap, h3, h4, h5, h6⟩ := hsl
            by_cases hz : len = 0
            · subst hz; simpa using emp (a := a) (cap := cap)
            · have ha := h6 (by omega)
              subst ha
              have := fin (cap := cap) (ys := (data.drop off).take len) (by omega) ((q6 k hbk).2.2.slice off len)
              rw [hyl] at this
              rw [q2, hyl]
              exact this
        · cases h
  | _ => simp [rowsOf] at h
end Go.AI
