/-
  Own work; the layings are what the kit's lay-plain.mjs printed for this seat. What is owed of tree's iterator, of slices.Sort and slices.Compact: the configuration of the seat links is sound.
-/
import Derived.Test.YtjmpflgdmnoinaaLinkIter
import Derived.Shelf.Sort.Plain
import Derived.Shelf.Slices.In.SortNone
import Derived.Shelf.Slices.CompactI
import Derived.Ground.Names2Prog
import Derived.Test.YtjmpflgdmnoinaaAiModes
import Derived.Test.YtjmpflgdmnoinaaCfg
import Derived.KernelRfl
namespace Go.Proofs
open Go.Shelf
def Try.lays189_ren : Go.Shelf.Ren := ⟨fun | 189 => 48 | 125 => 76 | 257 => 75 | 128 => 89 | 129 => 90 | 294 => 80 | 295 => 81 | 296 => 82 | 297 => 83 | 298 => 84 | 299 => 85 | 216 => 86 | 300 => 87 | 301 => 88 | 328 => 94 | 329 => 95 | 330 => 96 | 331 => 97 | 332 => 98 | 215 => 99 | 343 => 100 | n => n, fun | 28 => 54 | 3 => 3 | 46 => 129 | 0 => 0 | 51 => 145 | 53 => 115 | 4 => 4 | 183 => 138 | 182 => 137 | 131 => 48 | 5 => 5 | 9 => 9 | 218 => 148 | 222 => 152 | 228 => 154 | 229 => 155 | n => n, fun | n => n⟩
theorem Try.lays189 : Go.Proofs.Lays.n189 Try.prog Try.lays189_ren := {
  mixed := by kernel_rfl
  f125 := Try.func76.trans (congrArg some (by kernel_rfl))
  f128 := Try.func89.trans (congrArg some (by kernel_rfl))
  f129 := Try.func90.trans (congrArg some (by kernel_rfl))
  f189 := Try.func48.trans (congrArg some (by kernel_rfl))
  f215 := Try.func99.trans (congrArg some (by kernel_rfl))
  f216 := Try.func86.trans (congrArg some (by kernel_rfl))
  f257 := Try.func75.trans (congrArg some (by kernel_rfl))
  f294 := Try.func80.trans (congrArg some (by kernel_rfl))
  f295 := Try.func81.trans (congrArg some (by kernel_rfl))
  f296 := Try.func82.trans (congrArg some (by kernel_rfl))
  f297 := Try.func83.trans (congrArg some (by kernel_rfl))
  f298 := Try.func84.trans (congrArg some (by kernel_rfl))
  f299 := Try.func85.trans (congrArg some (by kernel_rfl))
  f300 := Try.func87.trans (congrArg some (by kernel_rfl))
  f301 := Try.func88.trans (congrArg some (by kernel_rfl))
  f328 := Try.func94.trans (congrArg some (by kernel_rfl))
  f329 := Try.func95.trans (congrArg some (by kernel_rfl))
  f330 := Try.func96.trans (congrArg some (by kernel_rfl))
  f331 := Try.func97.trans (congrArg some (by kernel_rfl))
  f332 := Try.func98.trans (congrArg some (by kernel_rfl))
  f343 := Try.func100.trans (congrArg some (by kernel_rfl))
  t0 := Try.underlying0
  a0 := Try.isAgg0
  z0 := Try.sizeOf0
  v0 := Try.zeroValue0
  t3 := Try.underlying3
  a3 := Try.isAgg3
  z3 := Try.sizeOf3
  v3 := Try.zeroValue3
  t4 := Try.underlying4
  a4 := Try.isAgg4
  z4 := Try.sizeOf4
  v4 := Try.zeroValue4
  t5 := Try.underlying5
  a5 := Try.isAgg5
  z5 := Try.sizeOf5
  v5 := Try.zeroValue5
  t9 := Try.underlying9
  a9 := Try.isAgg9
  z9 := Try.sizeOf9
  v9 := Try.zeroValue9
  t28 := Try.underlying54
  a28 := Try.isAgg54
  z28 := Try.sizeOf54
  v28 := Try.zeroValue54
  t46 := Try.underlying129
  a46 := Try.isAgg129
  z46 := Try.sizeOf129
  v46 := Try.zeroValue129
  t51 := Try.underlying145
  a51 := Try.isAgg145
  z51 := Try.sizeOf145
  v51 := Try.zeroValue145
  t53 := Try.underlying115
  a53 := Try.isAgg115
  z53 := Try.sizeOf115
  v53 := Try.zeroValue115
  t131 := Try.underlying48
  a131 := Try.isAgg48
  z131 := Try.sizeOf48
  v131 := Try.zeroValue48
  t182 := Try.underlying137
  a182 := Try.isAgg137
  z182 := Try.sizeOf137
  v182 := Try.zeroValue137
  t183 := Try.underlying138
  a183 := Try.isAgg138
  z183 := Try.sizeOf138
  v183 := Try.zeroValue138
  t218 := Try.underlying148
  a218 := Try.isAgg148
  z218 := Try.sizeOf148
  v218 := Try.zeroValue148
  t222 := Try.underlying152
  a222 := Try.isAgg152
  z222 := Try.sizeOf152
  v222 := Try.zeroValue152
  t228 := Try.underlying154
  a228 := Try.isAgg154
  z228 := Try.sizeOf154
  v228 := Try.zeroValue154
  t229 := Try.underlying155
  a229 := Try.isAgg155
  z229 := Try.sizeOf155
  v229 := Try.zeroValue155 }
def Try.laysNm220_ren : Go.Shelf.Ren := ⟨fun | 20 => 49 | n => n, fun | 22 => 54 | 3 => 3 | 4 => 4 | 0 => 0 | n => n, fun | n => n⟩
theorem Try.laysNm220 : Go.Proofs.Lays2.n20 Try.prog Try.laysNm220_ren := {
  mixed := by kernel_rfl
  f20 := Try.func49.trans (congrArg some (by kernel_rfl))
  t0 := Try.underlying0
  a0 := Try.isAgg0
  z0 := Try.sizeOf0
  v0 := Try.zeroValue0
  t3 := Try.underlying3
  a3 := Try.isAgg3
  z3 := Try.sizeOf3
  v3 := Try.zeroValue3
  t4 := Try.underlying4
  a4 := Try.isAgg4
  z4 := Try.sizeOf4
  v4 := Try.zeroValue4
  t22 := Try.underlying54
  a22 := Try.isAgg54
  z22 := Try.sizeOf54
  v22 := Try.zeroValue54
  i3 := by kernel_rfl }
end Go.Proofs
namespace Go.AI
open Go
set_option linter.unusedVariables false
set_option linter.unusedSimpArgs false
theorem rowOf_some {r : List DV} {x : TRow} (h : rowOf r = some x) : r = x.row := by
  unfold rowOf at h
  split at h
  · simp only [Option.some.injEq] at h; subst h; rfl
  · cases h
theorem rows_some {t : List (List DV)} {rows : List TRow} (h : mapO rowOf t = some rows) : t = rows.map TRow.row := by
  induction t generalizing rows with
  | nil => simp [mapO] at h; subst h; rfl
  | cons a t ih =>
    simp only [mapO] at h
    cases ha : rowOf a with
    | none => simp [ha] at h
    | some x =>
      cases ht : mapO rowOf t with
      | none => simp [ha, ht] at h
      | some l =>
        simp [ha, ht] at h
        subst h
        rw [List.map_cons, ← ih ht, rowOf_some ha]
theorem same_below {w w' : World} (h : Same w w') : RowKit.Below w.heap.size w w' := ⟨h.os, h.tape, h.output, h.size, h.heap⟩
theorem below_same {w w' : World} (h : RowKit.Below w.heap.size w w') : Same w w' := ⟨h.os, h.tape, h.output, h.size, h.block⟩
theorem Same.trans {a b c : World} (h : Same a b) (k : Same b c) : Same a c := ⟨k.os.trans h.os, k.tape.trans h.tape, k.output.trans h.output, Nat.le_trans h.size k.size, fun i hi => (k.heap i (Nat.lt_of_lt_of_le hi h.size)).trans (h.heap i hi)⟩
def dfl : TRow := ⟨0, 0, 0, false⟩
/-- What the iterator's boxes hold. -/
structure Boxes (w : World) (rows : List TRow) (pl : Nat) (c1 c2 : Value) (Bt ot Ba oa b off cap : Nat) : Prop where
  e1 : c1 = .pointer (some ⟨Bt, ot, none⟩)
  e2 : c2 = .pointer (some ⟨Ba, oa, none⟩)
  lt1 : Bt < w.heap.size
  lt2 : Ba < w.heap.size
  lt3 : b < w.heap.size
  bt : w.cell? ⟨Bt, ot, none⟩ = some (.slice (some ⟨b, off, none⟩) rows.length cap)
  ba : w.cell? ⟨Ba, oa, none⟩ = some (.int .i64 (pl : Int))
  le : rows.length ≤ cap
  cells : ∀ j, j < rows.length → ∀ i u, (rows.getD j dfl).cells[i]? = some u → w.cell? ⟨b, off + j * 4 + i, none⟩ = some u
theorem row_cells {im : Nat → Prop} {w : World} {k off : Nat} {r : TRow} (h : DRs im w k off r.row) : ∀ i u, r.cells[i]? = some u → w.cell? ⟨k, off + i, none⟩ = some u := by
  intro i u hu
  rw [DRs_iff] at h
  have key : ∀ v : Value, r.row[i]? = some (.v v) → w.cell? ⟨k, off + i, none⟩ = some v := fun v hv => by
    obtain ⟨c, h1, _, h2⟩ := h i _ hv
    simp only [DR] at h2
    rw [h1, h2]
  match i, hu with
  | 0, hu => simp [TRow.cells] at hu; subst hu; exact key _ rfl
  | 1, hu => simp [TRow.cells] at hu; subst hu; exact key _ rfl
  | 2, hu => simp [TRow.cells] at hu; subst hu; exact key _ rfl
  | 3, hu => simp [TRow.cells] at hu; subst hu; exact key _ rfl
  | i + 4, hu => simp [TRow.cells] at hu
theorem boxes_of {im : Nat → Prop} {w : World} {rows : List TRow} {pl : Nat} (hpl : pl < rows.length) {cs : List Value} (h : DRl im w [.ptr [.lst 4 (rows.map TRow.row)] 0, .ptr [.v (.int .i64 (pl : Int))] 0] cs) :
    ∃ c1 c2, cs = [c1, c2] ∧ ∃ Bt ot Ba oa b off cap, Boxes w rows pl c1 c2 Bt ot Ba oa b off cap := by
  simp only [DRl, DR, DRs] at h
  obtain ⟨c1, l1, rfl, ⟨Bt, ot, h1, hi1, hl1, ⟨v1, hv1, _, a, cap, hv1', hle, hrows⟩, _⟩, c2, l2, rfl, ⟨Ba, oa, h2, hi2, hl2, ⟨v2, hv2, _, hv2'⟩, _⟩, rfl⟩ := h
  refine ⟨c1, c2, rfl, ?_⟩
  rcases hrows with hnil | ⟨b, off, rfl, hi3, hl3, hss⟩
  · have : rows.length = 0 := by rw [← List.length_map (f := TRow.row), hnil]; rfl
    omega
  · rw [List.length_map] at hv1' hle
    refine ⟨Bt, ot, Ba, oa, b, off, cap, h1, h2, hl1, hl2, hl3, by rw [hv1, hv1'], by rw [hv2, hv2'], hle, ?_⟩
    have key : ∀ (l : List TRow) (o : Nat), DRss im w b 4 o (l.map TRow.row) → ∀ j, j < l.length → DRs im w b (o + j * 4) (l.getD j dfl).row := by
      intro l
      induction l with
      | nil => intro o _ j hj; simp at hj
      | cons x l ih =>
        intro o h j hj
        simp only [List.map_cons, DRss] at h
        cases j with
        | zero => simpa using h.2.1
        | succ j =>
          have := ih (o + 4) h.2.2 j (by simpa using hj)
          rw [show o + 4 + j * 4 = o + (j + 1) * 4 by omega] at this
          simpa using this
    intro j hj i u hu
    exact row_cells (key rows off hss j hj) i u hu
theorem Boxes.same {w w' : World} {rows : List TRow} {pl : Nat} {c1 c2 : Value} {Bt ot Ba oa b off cap : Nat} (h : Boxes w rows pl c1 c2 Bt ot Ba oa b off cap) (hs : Same w w') : Boxes w' rows pl c1 c2 Bt ot Ba oa b off cap := by
  have hc : ∀ k o v, w.cell? ⟨k, o, none⟩ = some v → w'.cell? ⟨k, o, none⟩ = some v := fun k o v hv => hs.turn.cell hv
  exact ⟨h.e1, h.e2, Nat.lt_of_lt_of_le h.lt1 hs.size, Nat.lt_of_lt_of_le h.lt2 hs.size, Nat.lt_of_lt_of_le h.lt3 hs.size, hc _ _ _ h.bt, hc _ _ _ h.ba, h.le, fun j hj i u hu => hc _ _ _ (h.cells j hj i u hu)⟩

/-! Those below a place, as the iterator comes to them. -/
theorem under_is {rows : List TRow} {pl k : Nat} (hpl : pl < rows.length) (hk : k ≤ rows.length - (pl + 1)) (h1 : ∀ j, j < k → (rows.getD pl dfl).depth < (rows.getD (pl + 1 + j) dfl).depth)
    (h2 : k = rows.length - (pl + 1) ∨ (rows.getD (pl + 1 + k) dfl).depth ≤ (rows.getD pl dfl).depth) :
    (underOf rows pl).map TRow.key = Proofs.upto (fun j => (rows.getD (pl + 1 + j) dfl).key) k ∧ (underOf rows pl).length = k := by
  have hg : rows[pl]? = some (rows.getD pl dfl) := by simp [hpl]
  unfold underOf
  rw [hg]
  simp only
  have key : ∀ (m k : Nat) (l : List TRow) , l.length = m → k ≤ m → (∀ j, j < k → (rows.getD pl dfl).depth < (l.getD j dfl).depth) → (k = m ∨ (l.getD k dfl).depth ≤ (rows.getD pl dfl).depth) →
      l.takeWhile (fun r => decide ((rows.getD pl dfl).depth < r.depth)) = l.take k := by
    intro m k l
    induction l generalizing m k with
    | nil => intro _ _ _ _; simp
    | cons x l ih =>
      intro hm hk h1 h2
      cases k with
      | zero =>
        simp at hm
        rcases h2 with h2 | h2
        · omega
        · have : ¬ (rows.getD pl dfl).depth < x.depth := by simpa using h2
          rw [List.takeWhile_cons, decide_eq_false this]
          simp
      | succ k =>
        have : (rows.getD pl dfl).depth < x.depth := by simpa using h1 0 (by omega)
        rw [List.takeWhile_cons, decide_eq_true this, List.take_succ_cons]
        simp only [if_true]
        congr 1
        simp at hm
        exact ih (m - 1) k (by omega) (by omega) (fun j hj => by simpa using h1 (j + 1) (by omega)) (h2.imp (fun h => by omega) (fun h => by simpa using h))
  have hl : (rows.drop (pl + 1)).length = rows.length - (pl + 1) := by simp
  have hget : ∀ j, (rows.drop (pl + 1)).getD j dfl = rows.getD (pl + 1 + j) dfl := fun j => by simp [List.getD_eq_getElem?_getD, List.getElem?_drop]
  rw [key _ k _ hl hk (fun j hj => by rw [hget]; exact h1 j hj) (h2.imp id fun h => by rw [hget]; exact h)]
  refine ⟨?_, by rw [List.length_take, hl]; omega⟩
  apply List.ext_getElem?
  intro i
  unfold Proofs.upto
  rw [List.getElem?_map, List.getElem?_map]
  by_cases hi : i < k
  · rw [List.getElem?_take_of_lt hi, List.getElem?_drop, List.getElem?_range hi]
    have hlt : pl + 1 + i < rows.length := by omega
    simp [hlt]
  · rw [List.getElem?_eq_none (by simp; omega), List.getElem?_eq_none (by simp; omega)]
    rfl
theorem known90 : Known cfg.P 70 := ⟨_, Go.Proofs.Try.func70, by kernel_rfl⟩
theorem enter90 (args : Array Value) (w : World) : (callFunc 70 args).run Go.Proofs.Try.prog w = .ok (.enter 70 args) w := by
  have h3 : (Go.Proofs.Try.f70.name == "runtime.NumGoroutine") = false := by kernel_rfl
  have h4 : Go.Proofs.Try.f70.body.isNone = false := by kernel_rfl
  simp only [callFunc, Sem.run_bind, Sem.run_pure, Result.andThen_ok, run_program, Go.Proofs.Try.func70, h3, h4]
  simp only [Bool.false_eq_true, if_false, Sem.run_pure]
theorem belowOf_some {g : Nat} {t : List (List DV)} {pl : Int} {ks : List (List DV)} (h : belowOf 70 g t pl = some ks) :
    g = 70 ∧ ∃ (rows : List TRow) (p : Nat), t = rows.map TRow.row ∧ pl = (p : Int) ∧ p < rows.length ∧ rows.length < 1099511627776 ∧ ks = (underOf rows p).map TRow.krow := by
  unfold belowOf at h
  split at h
  · rename_i hc
    obtain ⟨h1, h2, h3, h4⟩ := hc
    split at h
    · rename_i rows hr
      simp only [Option.some.injEq] at h
      have ht := rows_some hr
      have hl : t.length = rows.length := by rw [ht, List.length_map]
      exact ⟨h1, rows, pl.toNat, ht, by omega, by omega, by omega, h.symm⟩
    · cases h
  · cases h
theorem collOf_some {args : List AV} {r : AV} (h : collOf 70 args = some r) :
    ∃ (rows : List TRow) (p : Nat), args = [.d (.fn 70 [.ptr [.lst 4 (rows.map TRow.row)] 0, .ptr [.v (.int .i64 (p : Int))] 0])] ∧ p < rows.length ∧ rows.length < 1099511627776 ∧ r = .d (.lst 2 ((underOf rows p).map TRow.krow)) := by
  unfold collOf at h
  split at h
  · split at h
    · rename_i ks hk
      obtain ⟨rfl, rows, p, rfl, rfl, h1, h2, rfl⟩ := belowOf_some hk
      simp only [Option.some.injEq] at h
      exact ⟨rows, p, rfl, h1, h2, h.symm⟩
    · cases h
  · cases h
theorem prim_ok : PrimOK cfg where
  prim := fun f args vs r O w hm he hH hr => by
    replace hm : modeOf modes f = .prim := hm
    unfold modeOf at hm
    split at hm
    · rename_i m hl
      subst hm
      have := List.all_eq_true.1 (by kernel_rfl : noPrim modes = true) _ (lookup_mem hl)
      simp at this
    · cases hm
  iter := fun {g caps xs w cs} hg hcs => by
    unfold gather at hg
    replace hg : (match (if 999999 = 999999 then collOf 70 [.d (.fn g caps)] else none) with | some (.d (.lst _ xs)) => some xs | _ => none) = some xs := hg
    rw [if_pos rfl] at hg
    split at hg
    · rename_i s xs' hc
      simp only [Option.some.injEq] at hg
      subst hg
      obtain ⟨rows, p, hargs, hpl, hbig, hr⟩ := collOf_some hc
      simp only [List.cons.injEq, AV.d.injEq, DV.fn.injEq, and_true] at hargs
      obtain ⟨rfl, rfl⟩ := hargs
      simp only [AV.d.injEq, DV.lst.injEq] at hr
      obtain ⟨rfl, rfl⟩ := hr
      obtain ⟨c1, c2, rfl, Bt, ot, Ba, oa, b, off, cap, hb⟩ := boxes_of hpl hcs
      refine ⟨known90, fun l w1 Jx hs hJx hY => ?_⟩
      have hb' := hb.same hs
      have hne : (∃ k, k < rows.length - (p + 1) ∧ (rows.getD p dfl).depth < (rows.getD (p + 1 + 0) dfl).depth ∧ 0 ≤ k) → (underOf rows p).map TRow.krow ≠ [] := by
        rintro ⟨k, hk, h1, _⟩ h
        have h0 : underOf rows p = [] := by simpa using h
        have hg : rows[p]? = some (rows.getD p dfl) := by simp [hpl]
        unfold underOf at h0
        rw [hg] at h0
        simp only at h0
        have hd : rows.drop (p + 1) = rows.getD (p + 1) dfl :: rows.drop (p + 2) := by
          rw [List.drop_eq_getElem_cons (by omega)]
          congr 1
          simp [show p + 1 < rows.length by omega]
        rw [hd, List.takeWhile_cons, decide_eq_true (by simpa using h1)] at h0
        cases h0
      have := Proofs.Try.below1_in l Bt Ba ot oa w1.heap.size b off rows.length cap p (fun j => rows.getD j dfl) hpl hbig hb'.le hb'.lt3 hb'.lt1 hb'.lt2 (fun pre W => pre = [] ∧ Same w1 W) (fun _ W => Jx W)
        (fun pre A B h1 h2 => ⟨h1.1, Same.trans h1.2 (below_same h2)⟩)
        (fun k W hk hdeep hJ => by
          obtain ⟨fn, tmps, assign, body, h1, h2⟩ := hY (hne ⟨k, hk, hdeep 0 (by omega), Nat.zero_le _⟩) W (.agg #[.int .i64 (rows.getD (p + 1 + k) dfl).obj, .int .i64 (rows.getD (p + 1 + k) dfl).slot]) hJ.2
          refine ⟨fn, tmps, assign, body, h1, h2.mono ?_⟩
          rintro e W' ⟨rfl, h3⟩
          exact .inr ⟨rfl, h3⟩)
        w1 (Nat.le_refl _) hb'.bt hb'.ba hb'.cells ⟨rfl, Same.refl _⟩
      rw [hb.e1, hb.e2]
      have h2 := callsIn_wide (n := 0).2 (callsIn_wide.1 this)
      refine CallsIn.mono h2 ?_
      rintro e W' ⟨he, ⟨k, hk, h1, h2, h3, h4⟩ | ⟨k, hk, h1, h3⟩⟩
      · refine ⟨he, .inl ⟨?_, h4⟩⟩
        have h5 := congrArg List.length h3
        rw [Proofs.upto_length] at h5
        simp at h5
        subst h5
        have := (under_is hpl hk h1 h2).2
        rw [List.eq_nil_of_length_eq_zero this]
        rfl
      · exact ⟨he, .inr ⟨hne ⟨k, hk, h1 0 (by omega), Nat.zero_le _⟩, h3⟩⟩
    · cases hg
open Go.Proofs in
theorem sort_law : SortLaw cfg.P 48 where
  known := ⟨_, rfl, rfl⟩
  some_ := fun blk off cap zs w hH hb hz => Any.slices_Sort_int Try.lays189 blk off cap zs w hH hb hz
  none_ := fun p cap w => Any.slices_Sort_int_none Try.lays189 p cap w
open Go.Proofs in
theorem cut_law : CutLaw cfg.P 49 where
  known := ⟨_, rfl, rfl⟩
  some_ := fun blk off cap zs w hH hz hc => Any.slices_Compact_int Try.laysNm220 blk off cap zs w hH hz hc
  none_ := fun a cap w => Any.slices_Compact_int_empty Try.laysNm220 a cap w
def isSort : Nat × Mode → Option (Nat × Bool)
  | (f, .sort c) => some (f, c)
  | _ => none
theorem sort_ok : SortOK cfg := fun f cut ht => by
  have hl : modes.lookup f = some (.sort cut) := by
    have ht : modeOf modes f = .sort cut := ht
    unfold modeOf at ht
    split at ht
    · rename_i m h; rw [h, ht]
    · cases ht
  have hm := lookup_mem hl
  have hf : (f, cut) ∈ modes.filterMap isSort := List.mem_filterMap.2 ⟨_, hm, rfl⟩
  have he : modes.filterMap isSort = [(48, false), (49, true)] := by kernel_rfl
  rw [he] at hf
  simp only [List.mem_cons, List.not_mem_nil, or_false, Prod.mk.injEq] at hf
  rcases hf with ⟨rfl, rfl⟩ | ⟨rfl, rfl⟩
  · exact ⟨fun _ => sort_law, fun h => by cases h⟩
  · exact ⟨fun h => (by cases h), fun _ => cut_law⟩
theorem readyM : ModesOK cfg := modes_ok' (l := modes) rfl (by kernel_rfl) (by kernel_rfl) prim_ok sort_ok
theorem readyP : ProgOK cfg := prog_ok (by kernel_rfl) (by kernel_rfl)
end Go.AI
