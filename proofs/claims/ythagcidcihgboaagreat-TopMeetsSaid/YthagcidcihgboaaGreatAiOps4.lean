/-
  Own work. Operation by operation: slices that are made, written in place, copied.
-/
import Derived.Test.YthagcidcihgboaaGreatAiOps3
namespace Go.AI
open Go
set_option linter.unusedVariables false
set_option linter.unusedSimpArgs false
variable {P : Program} {O : Nat → Prop} {ι : Inj} {H H0 : Heap} {w : World}

theorem new_names {ι : Inj} {b : Nat} {x : CB} {N : Nat → Prop} (hN : N b) : ∀ c, iset ι b (some x) c ≠ none → ι c = none → N c := by
  intro c h1 h2
  by_cases hc : c = b
  · subst hc; exact hN
  · rw [iset_ne _ _ hc] at h1; exact absurd h2 h1
theorem new_ref {ι' : Inj} {w' : World} {b ver s len n cells k : Nat} {c : Value} (h : ι' b = some ⟨some k, 0, s, ver, len, cells, false⟩) (cap : Nat) (hc : c = .slice (some ⟨k, 0, none⟩) n cap) (h1 : n = len) (h2 : n ≤ cap) (h3 : cap * s ≤ cells) : R O ι' w' (.ref b ver 0 n) c := by
  simp only [R]
  refine ⟨_, h, rfl, Nat.le_refl _, ⟨_, _, hc⟩, fun _ => ?_⟩
  unfold SliceAt
  simp only
  exact ⟨_, cap, hc, h2, by omega, by omega, by simpa using h3, fun _ => by simp⟩

/-- append to a slice whose capacity is its length, of something. -/
theorem append_new (hH : HR O ι H w) (h0 : ∀ b B, H0 b = some B → H b = some B) {t e0 u : TypeId} {s0 by0 fr len ty : Nat} {xs ys : List (List AV)} {y : AV} {cy : Value} {a : Option Addr} {N : Nat → Prop} (hN : N fr) (hf : ι fr = none) (ht : tsl P t = some (e0, s0, by0)) (hu : ∃ d, P.underlying u = some (.slice d))
    (hy : rowsOf H0 s0 y = some ys) (hyr : R O ι w y cy) {old : List Value} (hx : Src O ι w P s0 xs (.slice a len len) old) (hlen : len = xs.length) (hne : ys ≠ [])
    (hroom : (len + ys.length) * by0 ≤ room) (ts : Array TypeId) (hts : ts[0]? = some t) (hts1 : ts[1]? = some u) :
    Sim P O ι H w N (Builtin.append_ ts ty #[.slice a len len, cy]) ⟨.ref fr 0 0 (len + ys.length), [(fr, some (.row s0 0 (xs ++ ys)))]⟩ := by
  obtain ⟨ay, capy, l, rfl, hcapy, hsrc⟩ := rowsOf_src (P := P) hH h0 hy hyr
  have hpos : 0 < ys.length := List.length_pos_iff.2 hne
  have hold := hx.run w.drew rfl
  rw [← hlen] at hold
  obtain ⟨newCap, tail, t1, t2, t3⟩ := append_grows (P := P) (ty := ty) ht hu (by omega) hold (hsrc.run w.drew rfl) hroom ts hts hts1
  have hrows : RowsIn O ι w ((old ++ l).toArray ++ tail) 0 s0 (xs ++ ys) := by
    have := RowsIn.append (rest := tail.toList) hx.rows hsrc.rows hx.len hsrc.len
    have e4 : (old ++ l ++ tail.toList).toArray = (old ++ l).toArray ++ tail := by apply Array.ext'; simp
    rw [← e4]; exact this
  have hsize : ((old ++ l).toArray ++ tail).size = newCap * s0 := by
    simp only [Array.size_append, List.size_toArray, List.length_append, hx.len, hsrc.len, t2]
    rw [← Nat.add_mul, ← Nat.add_mul]
    congr 1; omega
  obtain ⟨p1, p2⟩ := grow_row (b := fr) (ver := 0) hH (fun e' h => by rw [hf] at h; cases h) e0 (w.drawn + 1) hrows (by
    rw [hsize]; exact Nat.mul_le_mul_right _ (by simp; omega))
  refine ⟨_, _, iset ι fr (some ⟨some w.heap.size, 0, s0, 0, (xs ++ ys).length, ((old ++ l).toArray ++ tail).size, false⟩), t3, ⟨by simpa only [writes] using p1, new_ref (iset_same ..) newCap rfl (by simp; omega) t1 (by rw [hsize]; exact Nat.le_refl _), p2, new_names hN⟩⟩
/-- append of nothing. -/
theorem append_none {t e0 u : TypeId} {s0 by0 ty len cap capy : Nat} {a ay : Option Addr} (ht : tsl P t = some (e0, s0, by0)) (hu : ∃ d, P.underlying u = some (.slice d)) (hcap : len ≤ cap) (ts : Array TypeId) (hts : ts[0]? = some t) (hts1 : ts[1]? = some u)
    (hrun : (Builtin.firstCells s0 0 (.slice ay 0 capy)).run P w = .ok (([] : List Value).toArray) w) : (Builtin.append_ ts ty #[.slice a len cap, .slice ay 0 capy]).run P w = .ok (.slice a len cap) w := by
  rw [append_room (P := P) ht hu (by omega) hrun ts hts hts1]
  cases a <;> simp [storeCells]

/-- Elements are written in place. -/
theorem over_get (data ys : List (List AV)) (n i : Nat) (h : n + ys.length ≤ data.length) : (overRows data n ys)[i]? = if i < n then data[i]? else if i < n + ys.length then ys[i - n]? else data[i]? := by
  have h1 : (data.take n).length = n := by simp; omega
  unfold overRows
  by_cases hi : i < n
  · rw [if_pos hi, List.getElem?_append_left (by omega), List.getElem?_take, if_pos hi]
  · rw [if_neg hi, List.getElem?_append_right (by omega), h1]
    by_cases hi2 : i < n + ys.length
    · rw [if_pos hi2, List.getElem?_append_left (by omega)]
    · rw [if_neg hi2, List.getElem?_append_right (by omega), List.getElem?_drop]
      congr 1
      omega
theorem over_row (hH : HR O ι H w) {b : Nat} {e : CB} (he : ι b = some e) {s ver n : Nat} {data ys : List (List AV)} (hB : H b = some (.row s ver data)) {k : Nat} (hk : e.blk = some k) {l : List Value} (hl : l.length = ys.length * s) (hr : RowsIn O ι w l.toArray 0 s ys) (ho : ∀ v ∈ l, v.oneCell = true)
    (hn : n + ys.length ≤ data.length) : ∃ w', (storeCells ⟨k, e.base + n * s, none⟩ l).run P w = .ok () w' ∧ HR O ι (hset H b (some (.row s ver (overRows data n ys)))) w' ∧ Ex ι w ι w' := by
  obtain ⟨B, hB', hbr⟩ := hH.blk b e he
  rw [hB] at hB'; cases hB'
  obtain ⟨q1, q2, q3, q4, q5, q6⟩ := hbr
  obtain ⟨⟨cs, tt, r1, r2⟩, r3, r4⟩ := q6 k hk
  have hmul : (n + ys.length) * s ≤ data.length * s := Nat.mul_le_mul_right _ hn
  rw [Nat.add_mul] at hmul
  rw [q4, q2] at r3
  have hfit : e.base + n * s + l.length ≤ cs.size := by rw [hl]; omega
  have hst := run_storeCells_at P k (e.base + n * s) tt l 0 cs w r1 (by simpa using hfit) (fun v hv => by rw [one_iff]; exact ho v hv)
  simp only [Nat.add_zero] at hst
  have hget : ∀ j, (cs.toList.take (e.base + n * s) ++ l ++ cs.toList.drop (e.base + n * s + l.length)).toArray[j]? = if j < e.base + n * s then cs[j]? else if j < e.base + n * s + l.length then l[j - (e.base + n * s)]? else cs[j]? := by
    intro j
    simpa using splice_get cs.toList l (e.base + n * s) j (by simpa using hfit)
  have hold := r4.rowsIn r1
  obtain ⟨p1, p2⟩ := put_row (data' := overRows data n ys) hH he hB hk r1 (cs' := (cs.toList.take (e.base + n * s) ++ l ++ cs.toList.drop (e.base + n * s + l.length)).toArray)
    (by simp; omega)
    (fun j hj => by
      rw [hget, hl]
      rcases hj with hj | hj
      · rw [if_pos (by omega)]
      · rw [if_neg (by omega), if_neg (by omega)])
    (by
      intro i x hx
      rw [over_get data ys n i hn] at hx
      by_cases hi : i < n
      · rw [if_pos hi] at hx
        obtain ⟨a1, a2⟩ := hold i x hx
        refine ⟨a1, fun j y hy => ?_⟩
        obtain ⟨v, v1, v2⟩ := a2 j y hy
        have hj : j < s := by rw [← a1]; exact (List.getElem?_eq_some_iff.1 hy).1
        have := row_in (s := s) hi
        exact ⟨v, by rw [hget, if_pos (by omega)]; exact v1, v2⟩
      · rw [if_neg hi] at hx
        by_cases hi2 : i < n + ys.length
        · rw [if_pos hi2] at hx
          obtain ⟨a1, a2⟩ := hr (i - n) x hx
          refine ⟨a1, fun j y hy => ?_⟩
          obtain ⟨v, v1, v2⟩ := a2 j y hy
          have hj : j < s := by rw [← a1]; exact (List.getElem?_eq_some_iff.1 hy).1
          have := row_in (s := s) (show i - n < ys.length by omega)
          have hm : i * s = n * s + (i - n) * s := by rw [← Nat.add_mul]; congr 1; omega
          refine ⟨v, ?_, v2⟩
          rw [hget, if_neg (by omega), if_pos (by rw [hl]; omega)]
          simp only [List.getElem?_toArray, Nat.zero_add] at v1
          rw [← v1]; congr 1; omega
        · rw [if_neg hi2] at hx
          obtain ⟨a1, a2⟩ := hold i x hx
          refine ⟨a1, fun j y hy => ?_⟩
          obtain ⟨v, v1, v2⟩ := a2 j y hy
          have hm : (n + ys.length) * s ≤ i * s := Nat.mul_le_mul_right _ (by omega)
          rw [Nat.add_mul] at hm
          exact ⟨v, by rw [hget, if_neg (by omega), if_neg (by rw [hl]; omega)]; exact v1, v2⟩)
    (by unfold overRows; simp; omega)
  exact ⟨_, by simpa using hst, p1, p2⟩
/-- .. behind a slice of one's own; or nothing is written. -/
theorem over_sim (hH : HR O ι H w) {b ver off len s ver' m : Nat} {data ys : List (List AV)} {a : Option Addr} {cap : Nat} (hx : R O ι w (.ref b ver off len) (.slice a len cap)) (hB : H b = some (.row s ver' data)) (hver : ver = ver') {l : List Value} (hl : l.length = ys.length * s) (hr : RowsIn O ι w l.toArray 0 s ys) (ho : ∀ v ∈ l, v.oneCell = true)
    (hs : s ≠ 0) (hn : off + m + ys.length ≤ data.length) (hm : 0 < ys.length → 0 < cap) :
    ∃ w', (match a with | some a => (storeCells (a.add (m * s)) l).run P w | none => .ok () w) = .ok () w' ∧ HR O ι (hset H b (some (.row s ver (overRows data (off + m) ys)))) w' ∧ Ex ι w ι w' := by
  subst hver
  simp only [R] at hx
  obtain ⟨e, he, hmp, hle, _, hat⟩ := hx
  obtain ⟨B, hB', hbr⟩ := hH.blk b e he
  rw [hB] at hB'; cases hB'
  obtain ⟨q1, q2, q3, q4, q5, q6⟩ := hbr
  have hsl := hat (by omega)
  by_cases hz : ys.length = 0
  · have hye : ys = [] := List.eq_nil_of_length_eq_zero hz
    subst hye
    have hll : l = [] := List.eq_nil_of_length_eq_zero (by rw [hl]; simp)
    subst hll
    have ho : overRows data (off + m) [] = data := by unfold overRows; simp
    rw [ho]
    have hh : hset H b (some (.row s ver data)) = H := by
      funext c
      by_cases hc : c = b
      · subst hc; rw [hset_same]; exact hB.symm
      · rw [hset_ne _ _ hc]
    rw [hh]
    refine ⟨w, ?_, hH, Ex.refl ..⟩
    cases a <;> simp [storeCells]
  · have hcap := hm (by omega)
    unfold SliceAt at hsl
    cases hbk : e.blk with
    | none =>
      rw [hbk] at hsl
      obtain ⟨_, _, h3⟩ := hsl
      cases h3; omega
    | some k =>
      rw [hbk] at hsl
      obtain ⟨a', cap', h1, h2, h3, h4, h5, h6⟩ := hsl
      cases h1
      have ha := h6 (by omega)
      subst ha
      obtain ⟨w', g1, g2, g3⟩ := over_row (P := P) (n := off + m) hH he hB hbk hl hr ho hn
      refine ⟨w', ?_, g2, g3⟩
      simp only [Addr.add_none]
      rw [q2, show e.base + off * s + m * s = e.base + (off + m) * s from by rw [Nat.add_mul]; omega]
      exact g1

theorem append_over (hH : HR O ι H w) (h0 : ∀ b B, H0 b = some B → H b = some B) {t e0 u : TypeId} {s0 by0 b ver off len s ver' ty : Nat} {data ys : List (List AV)} {y : AV} {c cy : Value} {N : Nat → Prop} (ht : tsl P t = some (e0, s0, by0)) (hu : ∃ d, P.underlying u = some (.slice d))
    (hy : rowsOf H0 s0 y = some ys) (hyr : R O ι w y cy) (hx : R O ι w (.ref b ver off len) c) (hb : H b = some (.row s ver' data)) (hver : ver = ver') (hs : s = s0) (hn : off + len + ys.length ≤ data.length)
    (ts : Array TypeId) (hts : ts[0]? = some t) (hts1 : ts[1]? = some u) :
    Sim P O ι H w N (Builtin.append_ ts ty #[c, cy]) ⟨.ref b ver off (len + ys.length), [(b, some (.row s ver (overRows data (off + len) ys)))]⟩ := by
  subst hs hver
  obtain ⟨ay, capy, l, rfl, hcapy, hsrc⟩ := rowsOf_src (P := P) hH h0 hy hyr
  have hx0 := hx
  simp only [R] at hx
  obtain ⟨e, he, hmp, hle, ⟨a, cap, rfl⟩, hat⟩ := hx
  obtain ⟨B, hB, hbr⟩ := hH.blk b e he
  rw [hb] at hB; cases hB
  obtain ⟨q1, q2, q3, q4, q5, q6⟩ := hbr
  have hsl := hat (by omega)
  obtain ⟨_, _, _, _, _, _, _, _, hs0, _⟩ := tsl_some ht
  have hcap : len + ys.length ≤ cap := by
    unfold SliceAt at hsl
    cases hbk : e.blk with
    | none =>
      rw [hbk] at hsl
      have := q5 hbk
      subst this
      simp only [List.length_nil] at hn; omega
    | some k =>
      rw [hbk] at hsl
      obtain ⟨a', cap', h1, h2, h3, h4, h5, h6⟩ := hsl
      cases h1
      omega
  obtain ⟨w', g1, g2, g3⟩ := over_sim (P := P) (m := len) hH hx0 hb rfl hsrc.len hsrc.rows hsrc.one hs0 hn (by omega)
  have hr := append_room (P := P) (ty := ty) ht hu hcap (hsrc.run w rfl) ts hts hts1 (a := a)
  refine ⟨.slice a (len + ys.length) cap, w', ι, ?_, ⟨by simpa only [writes] using g2, ?_, g3, fun _ h1 h2 => absurd h2 h1⟩⟩
  · rw [hr]
    cases a with
    | none => simp at g1; subst g1; rfl
    | some a => simp only at g1 ⊢; rw [g1]; rfl
  · simp only [R]
    refine ⟨e, he, hmp, hle, ⟨a, cap, rfl⟩, fun hq => ?_⟩
    unfold SliceAt at hsl ⊢
    cases hbk : e.blk with
    | none =>
      rw [hbk] at hsl
      obtain ⟨h1, h2, h3⟩ := hsl
      have := q5 hbk
      subst this
      simp only [List.length_nil] at hn
      cases h3
      have : ys.length = 0 := by omega
      exact ⟨h1, by omega, by simp [this]⟩
    | some k =>
      rw [hbk] at hsl
      obtain ⟨a', cap', h1, h2, h3, h4, h5, h6⟩ := hsl
      cases h1
      exact ⟨a, cap, rfl, hcap, by omega, h4, h5, h6⟩

theorem src_nil {s0 : Nat} : Src O ι w P s0 [] (.slice none 0 0) [] :=
  ⟨by simp, fun w2 _ => by simp [Builtin.firstCells], fun i x h => by simp at h, by simp⟩

theorem loadCellsFrom_take {a : Addr} : ∀ {n : Nat} {m i : Nat} {acc l : Array Value} {w : World}, (loadCellsFrom a i n acc).run P w = .ok l w → m ≤ n → (loadCellsFrom a i m acc).run P w = .ok (l.extract 0 (acc.size + m)) w ∧ acc.size + n = l.size
  | 0, m, i, acc, l, w, h, hm => by
    simp [loadCellsFrom] at h
    have : m = 0 := by omega
    subst this; subst h
    simp [loadCellsFrom]
  | n + 1, m, i, acc, l, w, h, hm => by
    simp only [loadCellsFrom, Sem.run_bind] at h
    cases hl : (load (a.add i)).run P w with
    | halt h' w' => rw [hl] at h; simp at h
    | ok v w' =>
      rw [hl] at h
      simp only [Result.andThen_ok] at h
      have hw : w' = w := by
        rw [run_load] at hl
        split at hl
        · cases hl; rfl
        · split at hl
          · cases hl; rfl
          · cases hl
      subst hw
      cases m with
      | zero =>
        obtain ⟨h1, h2⟩ := loadCellsFrom_take (m := 0) h (Nat.zero_le _)
        simp [loadCellsFrom] at h1
        refine ⟨?_, by simp at h2; omega⟩
        simp only [loadCellsFrom, Sem.run_pure]
        congr 1
        have h3 : acc = (acc.push v).extract 0 acc.size := by
          apply Array.ext'
          simp
        rw [h3]
        have h4 : acc.push v = l.extract 0 (acc.size + 1) := h1
        rw [h4]
        apply Array.ext'
        simp
      | succ m =>
        obtain ⟨h1, h2⟩ := loadCellsFrom_take (m := m) h (by omega)
        refine ⟨?_, by simp at h2; omega⟩
        simp only [loadCellsFrom, Sem.run_bind, hl, Result.andThen_ok]
        rw [h1]
        simp only [Array.size_push]
        congr 2
        omega
theorem loadCells_take {a : Addr} {n m : Nat} {l : List Value} (h : (loadCells a n).run P w = .ok l.toArray w) (hm : m ≤ n) : (loadCells a m).run P w = .ok (l.take m).toArray w := by
  have := (loadCellsFrom_take (P := P) h hm).1
  unfold loadCells
  rw [this]
  simp
/-- A builtin append. -/
theorem append_sim (hH : HR O ι H w) (h0 : ∀ b B, H0 b = some B → H b = some B) {t u : TypeId} {fr ty : Nat} {x y : AV} {c cy : Value} {e : Eff} {N : Nat → Prop} (hN : N fr) (hf : ι fr = none) (hu : ∃ d, P.underlying u = some (.slice d))
    (hx : R O ι w x c) (hyr : R O ι w y cy) (he : appendA P H0 fr t x y = some e) (ts : Array TypeId) (hts : ts[0]? = some t) (hts1 : ts[1]? = some u) : Sim P O ι H w N (Builtin.append_ ts ty #[c, cy]) e := by
  unfold appendA at he
  cases ht : tsl P t with
  | none => simp [ht] at he
  | some q =>
    obtain ⟨e0, s0, by0⟩ := q
    simp only [ht] at he
    cases hy : rowsOf H0 s0 y with
    | none => simp [hy] at he
    | some ys =>
      simp only [hy] at he
      cases x with
      | ref b ver off len =>
        simp only at he
        cases hb : H0 b with
        | none => simp [hb] at he
        | some B =>
          cases B with
          | mp es => simp [hb] at he
          | row s ver' data =>
            simp only [hb] at he
            split at he
            · rename_i hver
              split at he
              · rename_i hfull
                obtain ⟨rfl, hlen⟩ := hfull
                split at he
                · rename_i hc
                  simp at he; subst he
                  exact append_ref hH h0 ht hu hy hyr hx (h0 b _ hb) hver hlen hc.1 hc.2.1 ts hts hts1
                · cases he
              · split at he
                · rename_i hc
                  simp at he; subst he
                  exact append_over hH h0 ht hu hy hyr hx (h0 b _ hb) hver hc.1 hc.2 ts hts hts1
                · cases he
            · cases he
      | nil s =>
        simp only [R] at hx; subst hx
        simp only at he
        split at he
        · rename_i hemp
          simp at he; subst he
          have : ys = [] := by simpa using hemp
          subst this
          obtain ⟨ay, capy, l, rfl, hcapy, hsrc⟩ := rowsOf_src (P := P) hH h0 hy hyr
          have hll : l = [] := List.eq_nil_of_length_eq_zero (by rw [hsrc.len]; simp)
          subst hll
          exact .still hH (append_none ht hu (Nat.le_refl _) ts hts hts1 (hsrc.run w rfl)) (by simp [R])
        · rename_i hemp
          split at he
          · rename_i hc
            simp at he; subst he
            have hne : ys ≠ [] := by simpa using hemp
            have := append_new (P := P) (ty := ty) (xs := []) (len := 0) hH h0 hN hf ht hu hy hyr src_nil rfl hne (by simpa using hc.1) ts hts hts1
            simpa using this
          · cases he
      | ex s xs =>
        simp only at he
        have hx0 := hx
        simp only [R] at hx
        obtain ⟨a, rfl, _⟩ := hx
        split at he
        · rename_i hemp
          simp at he; subst he
          have : ys = [] := by simpa using hemp
          subst this
          obtain ⟨ay, capy, l, rfl, hcapy, hsrc⟩ := rowsOf_src (P := P) hH h0 hy hyr
          have hll : l = [] := List.eq_nil_of_length_eq_zero (by rw [hsrc.len]; simp)
          subst hll
          refine .still hH (append_none ht hu (Nat.le_refl _) ts hts hts1 (hsrc.run w rfl)) ?_
          simp only [R] at hx0
          obtain ⟨a', h1, h2⟩ := hx0
          cases h1
          simp only [R, DR]
          exact ⟨a, _, rfl, Nat.le_refl _, h2⟩
        · rename_i hemp
          split at he
          · rename_i hc
            obtain ⟨rfl, hc⟩ := hc
            simp at he; subst he
            have hne : ys ≠ [] := by simpa using hemp
            obtain ⟨a', cap', old, h1, h2, h3⟩ := rowsOf_src (P := P) (s0 := s) (ys := embed xs) hH h0 (by simp [rowsOf]) hx0
            have hel : (embed xs).length = xs.length := by simp [embed]
            exact append_new (P := P) (ty := ty) (xs := embed xs) hH h0 hN hf ht hu hy hyr h3 hel.symm hne hc.1 ts hts hts1
          · cases he
      | _ => simp at he

theorem copy_sim (hH : HR O ι H w) (h0 : ∀ b B, H0 b = some B → H b = some B) {t : TypeId} {ty : Nat} {x y : AV} {c cy : Value} {e : Eff} {N : Nat → Prop} (hx : R O ι w x c) (hyr : R O ι w y cy) (he : copyA P H0 t x y = some e) (ts : Array TypeId) (hts : ts[0]? = some t) :
    Sim P O ι H w N (Builtin.copy_ ts ty #[c, cy]) e := by
  unfold copyA at he
  cases ht : tsl P t with
  | none => simp [ht] at he
  | some q =>
    obtain ⟨e0, s0, by0⟩ := q
    simp only [ht] at he
    cases hy : rowsOf H0 s0 y with
    | none => simp [hy] at he
    | some ys =>
      cases x with
      | ref b ver off len =>
        simp only [hy] at he
        cases hb : H0 b with
        | none => simp [hb] at he
        | some B =>
          cases B with
          | mp es => simp [hb] at he
          | row s ver' data =>
            simp only [hb] at he
            split at he
            · rename_i hc
              obtain ⟨hver, rfl⟩ := hc
              simp at he; subst he
              obtain ⟨hsl, i, z, hi, hi1, hi2, hi3, hi4, hi5, hi6⟩ := tsl_some ht
              obtain ⟨ay, capy, l, rfl, hcapy, hsrc⟩ := rowsOf_src (P := P) hH h0 hy hyr
              have hx0 := hx
              simp only [R] at hx
              obtain ⟨e, he, hmp, hle, ⟨a, cap, rfl⟩, hat⟩ := hx
              obtain ⟨B, hB, hbr⟩ := hH.blk b e he
              rw [h0 b _ hb] at hB; cases hB
              obtain ⟨q1, q2, q3, q4, q5, q6⟩ := hbr
              have hsl2 := hat (by omega)
              have hol : off + len ≤ data.length := by rw [← q4]; exact hsl2.le
              -- the first of the source's elements
              have hn : (ys.take len).length = min ys.length len := by simp [Nat.min_comm]
              have hl : (l.take ((min ys.length len) * s)).length = (ys.take len).length * s := by
                rw [hn, List.length_take, hsrc.len]
                have : min ys.length len * s ≤ ys.length * s := Nat.mul_le_mul_right _ (Nat.min_le_left _ _)
                omega
              have hrows : RowsIn O ι w (l.take ((min ys.length len) * s)).toArray 0 s (ys.take len) := by
                intro i x hx
                rw [List.getElem?_take] at hx
                split at hx
                · rename_i hil
                  obtain ⟨a1, a2⟩ := hsrc.rows i x hx
                  have hiy : i < ys.length := (List.getElem?_eq_some_iff.1 hx).1
                  refine ⟨a1, fun j y hy => ?_⟩
                  obtain ⟨v, v1, v2⟩ := a2 j y hy
                  have hj : j < s := by rw [← a1]; exact (List.getElem?_eq_some_iff.1 hy).1
                  have := row_in (s := s) (show i < min ys.length len by omega)
                  refine ⟨v, ?_, v2⟩
                  simp only [List.getElem?_toArray, Nat.zero_add] at v1 ⊢
                  rw [List.getElem?_take, if_pos (by omega)]; exact v1
                · cases hx
              have hcapp : 0 < (ys.take len).length → 0 < cap := by
                intro hp
                rw [hn] at hp
                unfold SliceAt at hsl2
                cases hbk : e.blk with
                | none => rw [hbk] at hsl2; obtain ⟨_, h2, _⟩ := hsl2; omega
                | some k =>
                  rw [hbk] at hsl2
                  obtain ⟨a', cap', h1, h2, h3, h4, h5, h6⟩ := hsl2
                  cases h1; omega
              obtain ⟨w', g1, g2, g3⟩ := over_sim (P := P) (m := 0) hH hx0 (h0 b _ hb) hver hl hrows (fun v hv => hsrc.one v (List.mem_of_mem_take hv)) hi5 (by rw [hn]; omega) hcapp
              refine ⟨goInt (min ys.length len : Nat), w', ι, ?_, ⟨by simpa [writes] using g2, by simp only [R, DR]; rfl, g3, fun _ h1 h2 => absurd h2 h1⟩⟩
              have hfc : (Builtin.firstCells s (min ys.length len) (.slice ay ys.length capy)).run P w = .ok (l.take ((min ys.length len) * s)).toArray w := by
                have hrun := hsrc.run w rfl
                cases ay with
                | none =>
                  simp [Builtin.firstCells] at hrun ⊢
                  subst hrun; simp
                | some ad =>
                  simp only [Builtin.firstCells] at hrun ⊢
                  have : min ys.length len * s ≤ ys.length * s := Nat.mul_le_mul_right _ (Nat.min_le_left _ _)
                  exact loadCells_take hrun this
              unfold Builtin.copy_
              simp only [hts]
              simp [run_und hsl, run_sizeI hi, hi1, Builtin.lenOf]
              rw [show Nat.min ys.length len = min ys.length len from rfl, hfc]
              simp only [Result.andThen_ok]
              cases a with
              | none => simp at g1; subst g1; rfl
              | some a =>
                simp only [Nat.zero_mul] at g1
                rw [show a.add 0 = a from rfl] at g1
                simp [g1]
            · cases he
      | _ => simp [hy] at he
end Go.AI
