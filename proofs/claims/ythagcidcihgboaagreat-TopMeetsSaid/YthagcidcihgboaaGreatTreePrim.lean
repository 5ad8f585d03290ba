/-
  Own work. What is owed of slices.Collect and of tree's iterator: the seat's configuration is sound.
-/
import Derived.Test.YthagcidcihgboaaGreatTreeColl
import Derived.Test.YthagcidcihgboaaGreatCfg
import Derived.KernelRfl
namespace Go.AI
open Go
set_option linter.unusedVariables false
set_option linter.unusedSimpArgs false
theorem rowOf_some {r : List DV} {x : TRow} (h : rowOf r = some x) : r = x.row := by
  unfold rowOf at h
  split at h
  · simp only [Option.some.injEq] at h; subst h; rfl
  · cases h
theorem rows_some {t : List (List DV)} {rows : List TRow} (h : mapO rowOf t = some rows) : t = rows.map TRow.row := by
  induction t generalizing rows with
  | nil => simp [mapO] at h; subst h; rfl
  | cons a t ih =>
    simp only [mapO] at h
    cases ha : rowOf a with
    | none => simp [ha] at h
    | some x =>
      cases ht : mapO rowOf t with
      | none => simp [ha, ht] at h
      | some l =>
        simp [ha, ht] at h
        subst h
        rw [List.map_cons, ← ih ht, rowOf_some ha]
theorem same_below {w w' : World} (h : Same w w') : RowKit.Below w.heap.size w w' := ⟨h.os, h.tape, h.output, h.size, h.heap⟩
theorem below_same {w w' : World} (h : RowKit.Below w.heap.size w w') : Same w w' := ⟨h.os, h.tape, h.output, h.size, h.block⟩
theorem Same.trans {a b c : World} (h : Same a b) (k : Same b c) : Same a c := ⟨k.os.trans h.os, k.tape.trans h.tape, k.output.trans h.output, Nat.le_trans h.size k.size, fun i hi => (k.heap i (Nat.lt_of_lt_of_le hi h.size)).trans (h.heap i hi)⟩
def dfl : TRow := ⟨0, 0, 0, false⟩
/-- What the iterator's boxes hold. -/
structure Boxes (w : World) (rows : List TRow) (pl : Nat) (c1 c2 : Value) (Bt ot Ba oa b off cap : Nat) : Prop where
  e1 : c1 = .pointer (some ⟨Bt, ot, none⟩)
  e2 : c2 = .pointer (some ⟨Ba, oa, none⟩)
  lt1 : Bt < w.heap.size
  lt2 : Ba < w.heap.size
  lt3 : b < w.heap.size
  bt : w.cell? ⟨Bt, ot, none⟩ = some (.slice (some ⟨b, off, none⟩) rows.length cap)
  ba : w.cell? ⟨Ba, oa, none⟩ = some (.int .i64 (pl : Int))
  le : rows.length ≤ cap
  cells : ∀ j, j < rows.length → ∀ i u, (rows.getD j dfl).cells[i]? = some u → w.cell? ⟨b, off + j * 4 + i, none⟩ = some u
theorem row_cells {im : Nat → Prop} {w : World} {k off : Nat} {r : TRow} (h : DRs im w k off r.row) : ∀ i u, r.cells[i]? = some u → w.cell? ⟨k, off + i, none⟩ = some u := by
  intro i u hu
  rw [DRs_iff] at h
  have key : ∀ v : Value, r.row[i]? = some (.v v) → w.cell? ⟨k, off + i, none⟩ = some v := fun v hv => by
    obtain ⟨c, h1, _, h2⟩ := h i _ hv
    simp only [DR] at h2
    rw [h1, h2]
  match i, hu with
  | 0, hu => simp [TRow.cells] at hu; subst hu; exact key _ rfl
  | 1, hu => simp [TRow.cells] at hu; subst hu; exact key _ rfl
  | 2, hu => simp [TRow.cells] at hu; subst hu; exact key _ rfl
  | 3, hu => simp [TRow.cells] at hu; subst hu; exact key _ rfl
  | i + 4, hu => simp [TRow.cells] at hu
theorem boxes_of {im : Nat → Prop} {w : World} {rows : List TRow} {pl : Nat} (hpl : pl < rows.length) {cs : List Value} (h : DRl im w [.ptr [.lst 4 (rows.map TRow.row)] 0, .ptr [.v (.int .i64 (pl : Int))] 0] cs) :
    ∃ c1 c2, cs = [c1, c2] ∧ ∃ Bt ot Ba oa b off cap, Boxes w rows pl c1 c2 Bt ot Ba oa b off cap := by
  simp only [DRl, DR, DRs] at h
  obtain ⟨c1, l1, rfl, ⟨Bt, ot, h1, hi1, hl1, ⟨v1, hv1, _, a, cap, hv1', hle, hrows⟩, _⟩, c2, l2, rfl, ⟨Ba, oa, h2, hi2, hl2, ⟨v2, hv2, _, hv2'⟩, _⟩, rfl⟩ := h
  refine ⟨c1, c2, rfl, ?_⟩
  rcases hrows with hnil | ⟨b, off, rfl, hi3, hl3, hss⟩
  · have : rows.length = 0 := by rw [← List.length_map (f := TRow.row), hnil]; rfl
    omega
  · rw [List.length_map] at hv1' hle
    refine ⟨Bt, ot, Ba, oa, b, off, cap, h1, h2, hl1, hl2, hl3, by rw [hv1, hv1'], by rw [hv2, hv2'], hle, ?_⟩
    have key : ∀ (l : List TRow) (o : Nat), DRss im w b 4 o (l.map TRow.row) → ∀ j, j < l.length → DRs im w b (o + j * 4) (l.getD j dfl).row := by
      intro l
      induction l with
      | nil => intro o _ j hj; simp at hj
      | cons x l ih =>
        intro o h j hj
        simp only [List.map_cons, DRss] at h
        cases j with
        | zero => simpa using h.2.1
        | succ j =>
          have := ih (o + 4) h.2.2 j (by simpa using hj)
          rw [show o + 4 + j * 4 = o + (j + 1) * 4 by omega] at this
          simpa using this
    intro j hj i u hu
    exact row_cells (key rows off hss j hj) i u hu
theorem Boxes.same {w w' : World} {rows : List TRow} {pl : Nat} {c1 c2 : Value} {Bt ot Ba oa b off cap : Nat} (h : Boxes w rows pl c1 c2 Bt ot Ba oa b off cap) (hs : Same w w') : Boxes w' rows pl c1 c2 Bt ot Ba oa b off cap := by
  have hc : ∀ k o v, w.cell? ⟨k, o, none⟩ = some v → w'.cell? ⟨k, o, none⟩ = some v := fun k o v hv => hs.turn.cell hv
  exact ⟨h.e1, h.e2, Nat.lt_of_lt_of_le h.lt1 hs.size, Nat.lt_of_lt_of_le h.lt2 hs.size, Nat.lt_of_lt_of_le h.lt3 hs.size, hc _ _ _ h.bt, hc _ _ _ h.ba, h.le, fun j hj i u hu => hc _ _ _ (h.cells j hj i u hu)⟩

/-! Those below a place, as the iterator comes to them. -/
theorem under_is {rows : List TRow} {pl k : Nat} (hpl : pl < rows.length) (hk : k ≤ rows.length - (pl + 1)) (h1 : ∀ j, j < k → (rows.getD pl dfl).depth < (rows.getD (pl + 1 + j) dfl).depth)
    (h2 : k = rows.length - (pl + 1) ∨ (rows.getD (pl + 1 + k) dfl).depth ≤ (rows.getD pl dfl).depth) :
    (underOf rows pl).map TRow.key = Proofs.upto (fun j => (rows.getD (pl + 1 + j) dfl).key) k ∧ (underOf rows pl).length = k := by
  have hg : rows[pl]? = some (rows.getD pl dfl) := by simp [hpl]
  unfold underOf
  rw [hg]
  simp only
  have key : ∀ (m k : Nat) (l : List TRow) , l.length = m → k ≤ m → (∀ j, j < k → (rows.getD pl dfl).depth < (l.getD j dfl).depth) → (k = m ∨ (l.getD k dfl).depth ≤ (rows.getD pl dfl).depth) →
      l.takeWhile (fun r => decide ((rows.getD pl dfl).depth < r.depth)) = l.take k := by
    intro m k l
    induction l generalizing m k with
    | nil => intro _ _ _ _; simp
    | cons x l ih =>
      intro hm hk h1 h2
      cases k with
      | zero =>
        simp at hm
        rcases h2 with h2 | h2
        · omega
        · have : ¬ (rows.getD pl dfl).depth < x.depth := by simpa using h2
          rw [List.takeWhile_cons, decide_eq_false this]
          simp
      | succ k =>
        have : (rows.getD pl dfl).depth < x.depth := by simpa using h1 0 (by omega)
        rw [List.takeWhile_cons, decide_eq_true this, List.take_succ_cons]
        simp only [if_true]
        congr 1
        simp at hm
        exact ih (m - 1) k (by omega) (by omega) (fun j hj => by simpa using h1 (j + 1) (by omega)) (h2.imp (fun h => by omega) (fun h => by simpa using h))
  have hl : (rows.drop (pl + 1)).length = rows.length - (pl + 1) := by simp
  have hget : ∀ j, (rows.drop (pl + 1)).getD j dfl = rows.getD (pl + 1 + j) dfl := fun j => by simp [List.getD_eq_getElem?_getD, List.getElem?_drop]
  rw [key _ k _ hl hk (fun j hj => by rw [hget]; exact h1 j hj) (h2.imp id fun h => by rw [hget]; exact h)]
  refine ⟨?_, by rw [List.length_take, hl]; omega⟩
  apply List.ext_getElem?
  intro i
  unfold Proofs.upto
  rw [List.getElem?_map, List.getElem?_map]
  by_cases hi : i < k
  · rw [List.getElem?_take_of_lt hi, List.getElem?_drop, List.getElem?_range hi]
    have hlt : pl + 1 + i < rows.length := by omega
    simp [hlt]
  · rw [List.getElem?_eq_none (by simp; omega), List.getElem?_eq_none (by simp; omega)]
    rfl
theorem known90 : Known cfg.P 175 := ⟨_, Go.Proofs.Tryz.func175, by kernel_rfl⟩
theorem known78 : Known cfg.P 133 := ⟨_, Go.Proofs.Tryz.func133, by kernel_rfl⟩
theorem enter90 (args : Array Value) (w : World) : (callFunc 175 args).run Go.Proofs.Tryz.prog w = .ok (.enter 175 args) w := by
  have h3 : (Go.Proofs.Tryz.f175.name == "runtime.NumGoroutine") = false := by kernel_rfl
  have h4 : Go.Proofs.Tryz.f175.body.isNone = false := by kernel_rfl
  simp only [callFunc, Sem.run_bind, Sem.run_pure, Result.andThen_ok, run_program, Go.Proofs.Tryz.func175, h3, h4]
  simp only [Bool.false_eq_true, if_false, Sem.run_pure]
theorem belowOf_some {g : Nat} {t : List (List DV)} {pl : Int} {ks : List (List DV)} (h : belowOf 175 g t pl = some ks) :
    g = 175 ∧ ∃ (rows : List TRow) (p : Nat), t = rows.map TRow.row ∧ pl = (p : Int) ∧ p < rows.length ∧ rows.length < 1099511627776 ∧ ks = (underOf rows p).map TRow.krow := by
  unfold belowOf at h
  split at h
  · rename_i hc
    obtain ⟨h1, h2, h3, h4⟩ := hc
    split at h
    · rename_i rows hr
      simp only [Option.some.injEq] at h
      have ht := rows_some hr
      have hl : t.length = rows.length := by rw [ht, List.length_map]
      exact ⟨h1, rows, pl.toNat, ht, by omega, by omega, by omega, h.symm⟩
    · cases h
  · cases h
theorem collOf_some {args : List AV} {r : AV} (h : collOf 175 args = some r) :
    ∃ (rows : List TRow) (p : Nat), args = [.d (.fn 175 [.ptr [.lst 4 (rows.map TRow.row)] 0, .ptr [.v (.int .i64 (p : Int))] 0])] ∧ p < rows.length ∧ rows.length < 1099511627776 ∧ r = .d (.lst 2 ((underOf rows p).map TRow.krow)) := by
  unfold collOf at h
  split at h
  · split at h
    · rename_i ks hk
      obtain ⟨rfl, rows, p, rfl, rfl, h1, h2, rfl⟩ := belowOf_some hk
      simp only [Option.some.injEq] at h
      exact ⟨rows, p, rfl, h1, h2, h.symm⟩
    · cases h
  · cases h
theorem gives_of {w : World} {rows : List TRow} {pl : Nat} {c1 c2 : Value} {Bt ot Ba oa b off cap : Nat} (hb : Boxes w rows pl c1 c2 Bt ot Ba oa b off cap) (hpl : pl < rows.length) (hbig : rows.length < 1099511627776) :
    Proofs.Coll.Gives 175 #[c1, c2] (fun ss => ss = (underOf rows pl).map TRow.key) rows.length w := by
  intro l J W hW hJ hY h0
  have hb' := hb.same (below_same hW)
  have := Proofs.Tryz.below1_in l Bt Ba ot oa w.heap.size b off rows.length cap pl (fun j => rows.getD j dfl) hpl hbig hb.le hb.lt3 hb.lt1 hb.lt2 J (fun _ _ => False) hJ
    (fun k W1 hk _ hJ1 => by
      obtain ⟨fn, tmps, assign, body, h1, h2⟩ := hY _ ((rows.getD (pl + 1 + k) dfl).obj, (rows.getD (pl + 1 + k) dfl).slot) W1 hJ1 (by rw [Proofs.upto_length]; omega)
      refine ⟨fn, tmps, assign, body, h1, h2.mono ?_⟩
      rintro e W' ⟨rfl, h3, h4⟩
      exact .inl ⟨rfl, by rw [Proofs.upto_succ]; exact h3, h4⟩)
    W hW.size hb'.bt hb'.ba hb'.cells h0
  rw [hb.e1, hb.e2]
  refine CallsIn.mono this ?_
  rintro e W' ⟨he, ⟨k, hk, h1, h2, h3⟩ | ⟨_, _, _, h⟩⟩
  · exact ⟨he, _, (under_is hpl hk h1 h2).1.symm, h3⟩
  · exact h.elim
theorem krow_cells : ∀ (rows : List TRow), Proofs.Coll.flat (rows.map TRow.key) = rows.flatMap fun r => [Value.int .i64 r.obj, Value.int .i64 r.slot]
  | [] => rfl
  | r :: rows => by
    have := krow_cells rows
    simp only [Proofs.Coll.flat, List.map_cons, List.flatMap_cons] at this ⊢
    rw [this]
    rfl
theorem drss_keys {im : Nat → Prop} {w : World} {g : Nat} : ∀ (rows : List TRow) (o : Nat) , (∀ j u, (rows.flatMap fun r => [Value.int .i64 r.obj, Value.int .i64 r.slot])[j]? = some u → w.cell? ⟨g, o + j, none⟩ = some u) → DRss im w g 2 o (rows.map TRow.krow)
  | [], o, _ => by simp [DRss]
  | r :: rows, o, h => by
    simp only [List.map_cons, DRss]
    refine ⟨rfl, ?_, drss_keys rows (o + 2) fun j u hu => ?_⟩
    · simp only [TRow.krow, DRs, DR]
      exact ⟨⟨_, by simpa using h 0 _ (by simp), rfl, rfl⟩, ⟨_, h 1 _ (by simp), rfl, rfl⟩, trivial⟩
    · rw [show o + 2 + j = o + (j + 2) by omega]
      exact h (j + 2) u (by simpa using hu)
theorem prim_ok : PrimOK cfg where
  prim := fun f args vs r O w hm he hH hr => by
    replace he : (if f = 133 then collOf 175 args else none) = some r := he
    split at he
    · rename_i hf
      subst hf
      obtain ⟨rows, p, rfl, hpl, hbig, rfl⟩ := collOf_some he
      refine ⟨known78, .d (.lst 2 ((underOf rows p).map TRow.krow)), noHeap, 0, rfl, ?_⟩
      simp only [Rl, R, DR] at hr
      obtain ⟨c, l', rfl, ⟨cs, rfl, hcs⟩, rfl⟩ := hr
      obtain ⟨c1, c2, rfl, Bt, ot, Ba, oa, b, off, cap, hb⟩ := boxes_of hpl hcs
      have hg := gives_of hb hpl hbig
      have hcall := Proofs.Coll.collect_in _ _ (enter90) _ rows.length (Nat.le_trans (Nat.le_of_lt hbig) (by decide)) (by omega) w hg
      refine (callsIn_wide.1 hcall).mono ?_
      rintro e w' ⟨v, ss, rfl, rfl, hrow, hnil, hbl⟩
      have hs := below_same hbl
      refine ⟨fun _ => none, ?_, ?_, hs.ex _, fun b h _ => absurd rfl h⟩
      · exact hH.same hs
      · simp only [R, DR]
        rw [List.length_map] at hrow
        rcases hrow.2 with ⟨rfl, h0⟩ | ⟨g, cap', cur, rfl, hbase, hg', hn, _, hsz, htake⟩
        · refine ⟨none, 0, by rw [List.length_map, h0], by rw [List.length_map, h0]; exact Nat.le_refl _, .inl ?_⟩
          exact List.eq_nil_of_length_eq_zero (by rw [List.length_map, h0])
        · refine ⟨some ⟨g, 0, none⟩, cap', by rw [List.length_map], by rw [List.length_map]; exact hn, .inr ⟨g, 0, rfl, ⟨(fun ⟨b, e, h, _⟩ => by cases h), fun hO => ?_⟩, (Array.getElem?_eq_some_iff.1 hg').1, ?_⟩⟩
          · have := hH.bar g hO
            omega
          · refine drss_keys _ 0 fun j u hu => ?_
            rw [← krow_cells, ← htake] at hu
            rw [Nat.zero_add]
            unfold World.cell?
            rw [hg']
            have : j < (underOf rows p).length * 2 := by
              rcases Nat.lt_or_ge j ((underOf rows p).length * 2) with h | h
              · exact h
              · rw [List.getElem?_eq_none (by simp; omega)] at hu; cases hu
            rw [List.getElem?_take_of_lt this] at hu
            simpa using hu
    · cases he
  iter := fun {g caps xs w cs} hg hcs => by
    unfold gather at hg
    replace hg : (match (if 133 = 133 then collOf 175 [.d (.fn g caps)] else none) with | some (.d (.lst _ xs)) => some xs | _ => none) = some xs := hg
    rw [if_pos rfl] at hg
    split at hg
    · rename_i s xs' hc
      simp only [Option.some.injEq] at hg
      subst hg
      obtain ⟨rows, p, hargs, hpl, hbig, hr⟩ := collOf_some hc
      simp only [List.cons.injEq, AV.d.injEq, DV.fn.injEq, and_true] at hargs
      obtain ⟨rfl, rfl⟩ := hargs
      simp only [AV.d.injEq, DV.lst.injEq] at hr
      obtain ⟨rfl, rfl⟩ := hr
      obtain ⟨c1, c2, rfl, Bt, ot, Ba, oa, b, off, cap, hb⟩ := boxes_of hpl hcs
      refine ⟨known90, fun l w1 Jx hs hJx hY => ?_⟩
      have hb' := hb.same hs
      have hne : (∃ k, k < rows.length - (p + 1) ∧ (rows.getD p dfl).depth < (rows.getD (p + 1 + 0) dfl).depth ∧ 0 ≤ k) → (underOf rows p).map TRow.krow ≠ [] := by
        rintro ⟨k, hk, h1, _⟩ h
        have h0 : underOf rows p = [] := by simpa using h
        have hg : rows[p]? = some (rows.getD p dfl) := by simp [hpl]
        unfold underOf at h0
        rw [hg] at h0
        simp only at h0
        have hd : rows.drop (p + 1) = rows.getD (p + 1) dfl :: rows.drop (p + 2) := by
          rw [List.drop_eq_getElem_cons (by omega)]
          congr 1
          simp [show p + 1 < rows.length by omega]
        rw [hd, List.takeWhile_cons, decide_eq_true (by simpa using h1)] at h0
        cases h0
      have := Proofs.Tryz.below1_in l Bt Ba ot oa w1.heap.size b off rows.length cap p (fun j => rows.getD j dfl) hpl hbig hb'.le hb'.lt3 hb'.lt1 hb'.lt2 (fun pre W => pre = [] ∧ Same w1 W) (fun _ W => Jx W)
        (fun pre A B h1 h2 => ⟨h1.1, Same.trans h1.2 (below_same h2)⟩)
        (fun k W hk hdeep hJ => by
          obtain ⟨fn, tmps, assign, body, h1, h2⟩ := hY (hne ⟨k, hk, hdeep 0 (by omega), Nat.zero_le _⟩) W (.agg #[.int .i64 (rows.getD (p + 1 + k) dfl).obj, .int .i64 (rows.getD (p + 1 + k) dfl).slot]) hJ.2
          refine ⟨fn, tmps, assign, body, h1, h2.mono ?_⟩
          rintro e W' ⟨rfl, h3⟩
          exact .inr ⟨rfl, h3⟩)
        w1 (Nat.le_refl _) hb'.bt hb'.ba hb'.cells ⟨rfl, Same.refl _⟩
      rw [hb.e1, hb.e2]
      have h2 := callsIn_wide (n := 0).2 (callsIn_wide.1 this)
      refine CallsIn.mono h2 ?_
      rintro e W' ⟨he, ⟨k, hk, h1, h2, h3, h4⟩ | ⟨k, hk, h1, h3⟩⟩
      · refine ⟨he, .inl ⟨?_, h4⟩⟩
        have h5 := congrArg List.length h3
        rw [Proofs.upto_length] at h5
        simp at h5
        subst h5
        have := (under_is hpl hk h1 h2).2
        rw [List.eq_nil_of_length_eq_zero this]
        rfl
      · exact ⟨he, .inr ⟨hne ⟨k, hk, h1 0 (by omega), Nat.zero_le _⟩, h3⟩⟩
    · cases hg
theorem readyM : ModesOK cfg := modes_ok' (l := modes) rfl (by kernel_rfl) (by kernel_rfl) prim_ok (sortOK_none (l := modes) rfl (by kernel_rfl))
theorem readyP : ProgOK cfg := prog_ok (by kernel_rfl) (by kernel_rfl)
end Go.AI
