/-
  Own work. slices.Sort and slices.Compact of one's own numbers: by the kit's contracts.
-/
import Derived.Test.YthagcidcihgboaaGreatAiOut
import Derived.Sort.Grow
namespace Go.AI
open Go
set_option linter.unusedVariables false
set_option linter.unusedSimpArgs false
variable {P : Program} {O : Nat → Prop} {ι : Inj} {H H0 : Heap} {w w' : World}

/-- The contracts, in the kit's words. -/
structure SortLaw (P : Program) (f : FuncId) : Prop where
  known : Known P f
  some_ : ∀ (blk off cap : Nat) (zs : List Int) (w : World), Sort.Holds (Value.int .i64) w blk off zs.toArray → blk < w.heap.size → zs.length < 4611686018427387904 →
    Calls P f #[.slice (some ⟨blk, off, none⟩) zs.length cap] w fun e w' => e = .returned (.tuple #[]) ∧ ∃ n os, w' = Sort.grow (Sort.putRow (Value.int .i64) (Sort.ahead w n) blk off (zs.mergeSort fun x y => decide (x ≤ y)).toArray) os
  none_ : ∀ (p : Option Addr) (cap : Nat) (w : World), Calls P f #[.slice p 0 cap] w fun e w' => e = .returned (.tuple #[]) ∧ w' = w
structure CutLaw (P : Program) (f : FuncId) : Prop where
  known : Known P f
  some_ : ∀ (blk off cap : Nat) (zs : List Int) (w : World), Sort.Holds (Value.int .i64) w blk off zs.toArray → zs.length ≤ 9223372036854775807 → zs.length ≤ cap →
    Calls P f #[.slice (some ⟨blk, off, none⟩) zs.length cap] w fun e w' => e = .returned (.slice (some ⟨blk, off, none⟩) (Lib.compact zs).length cap) ∧
      ∃ q, w' = Sort.putRow (Value.int .i64) (Sort.ahead w q) blk off (Lib.compact zs ++ List.replicate (zs.length - (Lib.compact zs).length) 0).toArray
  none_ : ∀ (a : Option Addr) (cap : Nat) (w : World), Calls P f #[.slice a 0 cap] w fun e w' => e = .returned (.slice a 0 cap) ∧ w' = w

theorem insI_perm (x : Int) : ∀ l : List Int, (insI x l).Perm (x :: l)
  | [] => .refl _
  | y :: r => by
    unfold insI
    split
    · exact .refl _
    · exact ((insI_perm x r).cons y).trans (.swap x y r)
theorem isort_perm : ∀ l : List Int, (isort l).Perm l
  | [] => .refl _
  | x :: r => (insI_perm x (isort r)).trans ((isort_perm r).cons x)
theorem insI_sorted (x : Int) : ∀ {l : List Int}, l.Pairwise (· ≤ ·) → (insI x l).Pairwise (· ≤ ·)
  | [], _ => by simp [insI]
  | y :: r, h => by
    have h2 := List.pairwise_cons.1 h
    unfold insI
    split
    · rename_i hxy
      refine List.pairwise_cons.2 ⟨fun z hz => ?_, h⟩
      rcases List.mem_cons.1 hz with rfl | hz
      · exact hxy
      · exact Int.le_trans hxy (h2.1 z hz)
    · rename_i hxy
      refine List.pairwise_cons.2 ⟨fun z hz => ?_, insI_sorted x h2.2⟩
      rcases List.mem_cons.1 ((insI_perm x r).mem_iff.1 hz) with rfl | hz
      · omega
      · exact h2.1 z hz
theorem isort_sorted : ∀ l : List Int, (isort l).Pairwise (· ≤ ·)
  | [] => .nil
  | x :: r => insI_sorted x (isort_sorted r)
theorem isort_eq (l : List Int) : (l.mergeSort fun x y => decide (x ≤ y)) = isort l := by
  refine List.Perm.eq_of_pairwise (le := (· ≤ ·)) (fun a b _ _ h1 h2 => Int.le_antisymm h1 h2) ?_ (isort_sorted l) ((List.mergeSort_perm l _).trans (isort_perm l).symm)
  refine (List.pairwise_mergeSort (le := fun x y : Int => decide (x ≤ y)) ?_ ?_ l).imp fun h => of_decide_eq_true h
  · intro a b c h1 h2
    simp only [decide_eq_true_eq] at *
    omega
  · intro a b
    simp only [Bool.or_eq_true, decide_eq_true_eq]
    omega
theorem isort_len (l : List Int) : (isort l).length = l.length := (isort_perm l).length_eq
theorem compact_le (l : List Int) : (Lib.compact l).length ≤ l.length := by
  unfold Lib.compact Lib.compactUpTo
  rw [List.length_map]
  exact Nat.le_trans (List.length_filter_le _ _) (by simp)
theorem asCells {data : List (List AV)} {l : List Int} (h : mapO asCell data = some l) : data = l.map cellOf := by
  induction data generalizing l with
  | nil => simp only [mapO, Option.some.injEq] at h; subst h; rfl
  | cons r data ih =>
    simp only [mapO] at h
    cases hr : asCell r with
    | none => simp [hr] at h
    | some n =>
      cases hd : mapO asCell data with
      | none => simp [hr, hd] at h
      | some l' =>
        simp only [hr, hd, Option.some.injEq] at h
        subst h
        rw [List.map_cons, ← ih hd]
        congr 1
        unfold asCell at hr
        split at hr
        · simp only [Option.some.injEq] at hr
          subst hr
          rfl
        · cases hr
theorem ints_in {cs : Array Value} {base : Nat} {zs : List Int} (h : ∀ j, j < zs.length → cs[base + j]? = some (.int .i64 (zs.toArray[j]!))) : RowsIn O ι w cs base 1 (zs.map cellOf) := by
  intro i x hx
  rw [List.getElem?_map] at hx
  cases hz : zs[i]? with
  | none => rw [hz] at hx; cases hx
  | some z =>
    rw [hz] at hx
    simp only [Option.map_some, Option.some.injEq] at hx
    subst hx
    refine ⟨rfl, fun j y hy => ?_⟩
    have hj : j = 0 := by
      have := (List.getElem?_eq_some_iff.1 hy).1
      simp [cellOf] at this
      exact this
    subst hj
    simp only [cellOf, List.getElem?_cons_zero, Option.some.injEq] at hy
    subst hy
    have hi := (List.getElem?_eq_some_iff.1 hz)
    refine ⟨.int .i64 z, ?_, rfl, ?_⟩
    · have := h i hi.1
      rw [Nat.mul_one, Nat.add_zero, this]
      congr 2
      rw [getElem!_pos _ i (by simpa using hi.1)]
      simpa using hi.2
    · simp only [R, DR]
theorem put_ints (hH : HR O ι H w) {b : Nat} {e : CB} (he : ι b = some e) {ver : Nat} {l zs : List Int} (hB : H b = some (.row 1 ver (l.map cellOf))) {k : Nat} (hk : e.blk = some k) (hl : zs.length = l.length) (n : Nat) (os : Array Obj) :
    HR O ι (hset H b (some (.row 1 ver (zs.map cellOf)))) (Sort.grow (Sort.putRow (Value.int .i64) (Sort.ahead w n) k e.base zs.toArray) os) ∧ Ex ι w ι (Sort.grow (Sort.putRow (Value.int .i64) (Sort.ahead w n) k e.base zs.toArray) os) := by
  obtain ⟨B, hB', hbr⟩ := hH.blk b e he
  rw [hB] at hB'; cases hB'
  obtain ⟨q1, q2, q3, q4, q5, q6⟩ := hbr
  obtain ⟨⟨cs, t, r1, r2⟩, r3, r4⟩ := q6 k hk
  rw [List.length_map] at q4
  have hkw : k < w.heap.size := (Array.getElem?_eq_some_iff.1 r1).1
  have hsz : (Sort.putRow (Value.int .i64) (Sort.ahead w n) k e.base zs.toArray).heap.size = w.heap.size := by simp [Sort.putRow, Sort.mapBlock, Sort.ahead]
  have hold : ∀ k2, k2 < w.heap.size → (Sort.grow (Sort.putRow (Value.int .i64) (Sort.ahead w n) k e.base zs.toArray) os).heap[k2]? = if k2 = k then some (.cells (Sort.putCells (Value.int .i64) e.base zs.toArray cs) t (0, 0)) else w.heap[k2]? := fun k2 h2 => by
    show ((Sort.putRow (Value.int .i64) (Sort.ahead w n) k e.base zs.toArray).heap ++ os)[k2]? = _
    rw [Array.getElem?_append_left (by rw [hsz]; exact h2)]
    show (w.heap.modify k _)[k2]? = _
    rw [Array.getElem?_modify]
    by_cases h : k = k2
    · subst h
      rw [if_pos rfl, if_pos rfl, r1]
      rfl
    · rw [if_neg h, if_neg (fun e => h e.symm)]
  have hget : ∀ j, (Sort.putCells (Value.int .i64) e.base zs.toArray cs)[j]? = if e.base ≤ j ∧ j < e.base + zs.length ∧ j < cs.size then some (.int .i64 (zs.toArray[j - e.base]!)) else cs[j]? := fun j => by
    simp only [Sort.putCells, Array.getElem?_mapIdx]
    cases hc : cs[j]? with
    | none =>
      have := Array.getElem?_eq_none_iff.1 hc
      rw [if_neg (by omega)]
      rfl
    | some v =>
      have := (Array.getElem?_eq_some_iff.1 hc).1
      simp only [Option.map_some, List.size_toArray]
      by_cases h : e.base ≤ j ∧ j < e.base + zs.length
      · rw [if_pos h, if_pos ⟨h.1, h.2, this⟩]
      · rw [if_neg h, if_neg (fun h' => h ⟨h'.1, h'.2.1⟩)]
  have hcsz : (Sort.putCells (Value.int .i64) e.base zs.toArray cs).size = cs.size := by simp [Sort.putCells]
  have hfit : e.base + zs.length ≤ cs.size ∧ zs.length ≤ e.cells := by
    rw [q2, Nat.mul_one] at r3
    omega
  generalize hW : Sort.grow (Sort.putRow (Value.int .i64) (Sort.ahead w n) k e.base zs.toArray) os = W at *
  have hh : W.heap[k]? = some (.cells (Sort.putCells (Value.int .i64) e.base zs.toArray cs) t (0, 0)) := by rw [hold k hkw, if_pos rfl]
  have ho : Only w W ((ι b).bind (·.blk)) e.base (e.base + e.cells) := by
    rw [he]
    simp only [Option.bind_some, hk]
    refine ⟨by rw [← hW]; rfl, by rw [← hW]; rfl, by rw [← hW]; rfl, ?_, fun k2 h2 hne => ?_, fun k2 cs2 t2 fz h2 hc2 => ?_⟩
    · rw [← hW]
      show w.heap.size ≤ ((Sort.putRow (Value.int .i64) (Sort.ahead w n) k e.base zs.toArray).heap ++ os).size
      rw [Array.size_append, hsz]
      omega
    · rw [hold k2 h2, if_neg (fun h => hne (by rw [h]))]
    · cases h2
      rw [r1] at hc2; cases hc2
      refine ⟨_, hh, hcsz, fun o hout => ?_⟩
      rw [hget o, if_neg (by omega)]
  have hr : ∀ e0, ι b = some e0 → e.base = e0.base ∧ e.base + e.cells = e0.base + e0.cells ∧ e0.mp = e.mp ∧ e0.ver ≤ e.ver ∧ (e0.ver = e.ver ∨ e0.mp = true → e = e0) := fun e0 h0 => by
    rw [he] at h0; cases h0; exact ⟨rfl, rfl, rfl, Nat.le_refl _, fun _ => rfl⟩
  have hk' : ∀ k2, e.blk = some k2 → w.heap.size ≤ k2 ∨ ∃ e0, ι b = some e0 ∧ e0.blk = some k2 ∧ e.base = e0.base ∧ e.cells = e0.cells := fun k2 h2 => .inr ⟨e, he, h2, rfl, rfl⟩
  have hx := Ex.upd hH ho hr hk'
  have := HR.upd (B' := .row 1 ver (zs.map cellOf)) hH ho hr hk' (by
    refine ⟨q1, q2, q3, by rw [q4, List.length_map, hl], fun h => (by rw [hk] at h; cases h), fun k2 h2 => ?_⟩
    rw [hk] at h2; cases h2
    refine ⟨⟨_, t, hh, by rw [hcsz]; exact r2⟩, r3, RowsIn.at (ι := ι) (w := w) ?_ hx hh⟩
    exact ints_in fun j hj => by rw [hget, if_pos ⟨by omega, by omega, by omega⟩, show e.base + j - e.base = j by omega])
  rw [iset_self he] at this hx
  exact ⟨this, hx⟩
theorem holds_ints (hH : HR O ι H w) {b : Nat} {e : CB} (he : ι b = some e) {ver : Nat} {l : List Int} (hB : H b = some (.row 1 ver (l.map cellOf))) {k : Nat} (hk : e.blk = some k) : Sort.Holds (Value.int .i64) w k e.base l.toArray ∧ k < w.heap.size := by
  obtain ⟨B, hB', hbr⟩ := hH.blk b e he
  rw [hB] at hB'; cases hB'
  obtain ⟨q1, q2, q3, q4, q5, q6⟩ := hbr
  obtain ⟨⟨cs, t, r1, r2⟩, r3, r4⟩ := q6 k hk
  refine ⟨fun j hj => ?_, (Array.getElem?_eq_some_iff.1 r1).1⟩
  have hj' : j < l.length := by simpa using hj
  obtain ⟨_, h2⟩ := r4 j (cellOf l[j]) (by rw [List.getElem?_map, List.getElem?_eq_getElem hj']; rfl)
  obtain ⟨v, v1, v2, v3⟩ := h2 0 (.d (.v (.int .i64 l[j]))) rfl
  simp only [R, DR] at v3
  subst v3
  refine ⟨?_, by simp [World.frozen?, r1]⟩
  rw [Nat.mul_one, Nat.add_zero] at v1
  rw [v1]
  congr 2
  rw [getElem!_pos _ j (by simpa using hj')]
  simp
theorem sort_calls (hH : HR O ι H w) (h0 : ∀ b B, H0 b = some B → H b = some B) {f : FuncId} {cut : Bool} (hs : cut = false → SortLaw P f) (hc : cut = true → CutLaw P f) {fr : Nat} {args : List AV} {as : List Value} {e : Eff} (hr : Rl O ι w args as) (he : sortA cut H0 args = some e) :
    Known P f ∧ OutR P O ι H w fr f as (.eff e) := by
  refine ⟨by cases cut with | false => exact (hs rfl).known | true => exact (hc rfl).known, ?_⟩
  unfold sortA at he
  split at he
  · rename_i b ver off len
    split at he
    · rename_i s ver' data hb
      split at he
      · rename_i l hl
        split at he
        · rename_i hcc
          obtain ⟨rfl, rfl, rfl, rfl, hbig⟩ := hcc
          simp only [Option.some.injEq] at he
          subst he
          have hd := asCells hl
          subst hd
          rw [List.length_map] at hr hbig
          simp only [Rl] at hr
          obtain ⟨c, l', rfl, hx, rfl⟩ := hr
          have hx0 := hx
          simp only [R] at hx
          obtain ⟨eb, heb, hm, hle, _, hat⟩ := hx
          have hB := h0 _ _ hb
          obtain ⟨B, hB', hbr⟩ := hH.blk b eb heb
          rw [hB] at hB'; cases hB'
          have hat := hat (by have := hbr.2.2.1; omega)
          have hbr2 := hbr
          obtain ⟨q1, q2, q3, q4, q5, q6⟩ := hbr2
          simp only [OutR]
          -- no elements
          have nil : ∀ a cap, c = .slice a 0 cap → l = [] → Calls P f [c].toArray w fun | .returned c, w' => ∃ ι', Post O ι H w (fun b => fr ≤ b ∧ b < fr + 16) (sortE cut b ver l) c w' ι' | _, _ => False := fun a cap hc' hn => by
            subst hn
            have hset0 : hset H b (some (.row 1 ver (([] : List Int).map cellOf))) = H := by
              funext x
              by_cases hxb : x = b
              · subst hxb; rw [hset_same]; exact hB.symm
              · rw [hset_ne _ _ hxb]
            cases cut with
            | false =>
              rw [hc']
              refine ((hs rfl).none_ a cap w).mono fun ex W h => ?_
              obtain ⟨rfl, rfl⟩ := h
              refine ⟨ι, ⟨?_, ?_, Ex.refl ι W, fun b h1 h2 => absurd h2 h1⟩⟩
              · have : writes H (sortE false b ver []).wr = H := by
                  exact hset0
                rw [this]; exact hH
              · simp only [sortE, R, DR]
            | true =>
              have hx0 := hx0
              rw [hc'] at hx0 ⊢
              refine ((hc rfl).none_ a cap w).mono fun ex W h => ?_
              obtain ⟨rfl, rfl⟩ := h
              refine ⟨ι, ⟨?_, ?_, Ex.refl ι W, fun b h1 h2 => absurd h2 h1⟩⟩
              · have : writes H (sortE true b ver []).wr = H := hset0
                rw [this]; exact hH
              · exact hx0
          by_cases hn : l = []
          · subst hn
            unfold SliceAt at hat
            cases hk : eb.blk with
            | none =>
              rw [hk] at hat
              exact nil none 0 hat.2.2 rfl
            | some k =>
              rw [hk] at hat
              obtain ⟨a, cap, h4, _⟩ := hat
              exact nil a cap h4 rfl
          · have hlp : 0 < l.length := List.length_pos_iff.2 hn
            unfold SliceAt at hat
            cases hk : eb.blk with
            | none =>
              have := q5 hk
              simp at this
              exact absurd this hn
            | some k =>
              rw [hk] at hat
              obtain ⟨a, cap, h4, h5, h6, h7, h8, h9⟩ := hat
              have h9 := h9 (by omega)
              subst h9
              subst h4
              rw [Nat.zero_mul, Nat.add_zero] at *
              obtain ⟨hh1, hh2⟩ := holds_ints hH heb hB hk
              cases cut with
              | false =>
                refine ((hs rfl).some_ k eb.base cap l w hh1 hh2 hbig).mono fun ex W h => ?_
                obtain ⟨rfl, n, os, rfl⟩ := h
                rw [isort_eq]
                obtain ⟨p1, p2⟩ := put_ints (zs := isort l) hH heb hB hk (isort_len l) n os
                exact ⟨ι, ⟨p1, by simp only [sortE, R, DR], p2, fun b h1 h2 => absurd h2 h1⟩⟩
              | true =>
                refine ((hc rfl).some_ k eb.base cap l w hh1 (by omega) h5).mono fun ex W h => ?_
                obtain ⟨rfl, q, rfl⟩ := h
                have hcl := compact_le l
                obtain ⟨p1, p2⟩ := put_ints (zs := Lib.compact l ++ List.replicate (l.length - (Lib.compact l).length) 0) hH heb hB hk (by simp; omega) q #[]
                rw [Sort.grow_empty] at p1 p2
                refine ⟨ι, ⟨p1, ?_, p2, fun b h1 h2 => absurd h2 h1⟩⟩
                simp only [sortE, R]
                refine ⟨eb, heb, hm, hle, ⟨_, _, rfl⟩, fun _ => ?_⟩
                unfold SliceAt
                rw [hk]
                refine ⟨some ⟨k, eb.base, none⟩, cap, rfl, by omega, by omega, h7, by simpa using h8, fun _ => by simp⟩
        · cases he
      · cases he
    · cases he
  · cases he
end Go.AI
