/-
  Own work. Operation by operation: append, copy, clear, clone.
-/
import Derived.Test.YthagcidcihgboaaGreatAiOps2
namespace Go.AI
open Go
set_option linter.unusedVariables false
set_option linter.unusedSimpArgs false
variable {P : Program} {O : Nat → Prop} {ι : Inj} {H H0 : Heap} {w : World}

theorem growBy_le : ∀ (rounds need c : Nat), 256 ≤ c → c < need → Builtin.growBy need rounds c ≤ 2 * need
  | 0, need, c, _, h => by simp [Builtin.growBy]; omega
  | r + 1, need, c, h1, h => by
    simp only [Builtin.growBy]
    rw [if_neg (by omega)]
    by_cases h2 : c + (c + 768) / 4 < need
    · exact growBy_le r need _ (by omega) h2
    · have : Builtin.growBy need r (c + (c + 768) / 4) = c + (c + 768) / 4 := by cases r <;> simp [Builtin.growBy]; omega
      rw [this]; omega
theorem nextcap_le {need old : Nat} (h : old < need) : Builtin.nextslicecap need old ≤ 2 * need := by
  unfold Builtin.nextslicecap
  split
  · omega
  · split
    · omega
    · exact growBy_le 4 need old (by omega) h

/-- A row gets another block, or its first. -/
theorem grow_row (hH : HR O ι H w) {b ver : Nat} (hv : ∀ e, ι b = some e → e.mp = false ∧ e.ver < ver) {cs : Array Value} (t : TypeId) (n : Nat) {s : Nat} {data : List (List AV)} (hd : RowsIn O ι w cs 0 s data) (hl : data.length * s ≤ cs.size) :
    HR O (iset ι b (some ⟨some w.heap.size, 0, s, ver, data.length, cs.size, false⟩)) (hset H b (some (.row s ver data))) { w with heap := w.heap.push (.cells cs t), drawn := n } ∧
    Ex ι w (iset ι b (some ⟨some w.heap.size, 0, s, ver, data.length, cs.size, false⟩)) { w with heap := w.heap.push (.cells cs t), drawn := n } := by
  obtain ⟨lo, hi, hlo⟩ : ∃ lo hi, ∀ e, ι b = some e → lo = e.base ∧ hi = e.base + e.cells := by
    cases h : ι b with
    | none => exact ⟨0, 0, fun e he => by cases he⟩
    | some e => exact ⟨e.base, e.base + e.cells, fun e' he => by cases he; exact ⟨rfl, rfl⟩⟩
  have ho : Only w { w with heap := w.heap.push (.cells cs t), drawn := n } ((ι b).bind (·.blk)) lo hi := Only.push w _ n _ _ _
  have hr : ∀ e, ι b = some e → lo = e.base ∧ hi = e.base + e.cells ∧ e.mp = (⟨some w.heap.size, 0, s, ver, data.length, cs.size, false⟩ : CB).mp ∧ e.ver ≤ (⟨some w.heap.size, 0, s, ver, data.length, cs.size, false⟩ : CB).ver ∧
      (e.ver = (⟨some w.heap.size, 0, s, ver, data.length, cs.size, false⟩ : CB).ver ∨ e.mp = true → (⟨some w.heap.size, 0, s, ver, data.length, cs.size, false⟩ : CB) = e) := fun e he => by
    obtain ⟨h1, h2⟩ := hv e he
    refine ⟨(hlo e he).1, (hlo e he).2, h1, Nat.le_of_lt h2, fun hq => ?_⟩
    rcases hq with hq | hq
    · simp at hq; omega
    · rw [h1] at hq; cases hq
  have hk : ∀ k, (⟨some w.heap.size, 0, s, ver, data.length, cs.size, false⟩ : CB).blk = some k → w.heap.size ≤ k ∨ ∃ e, ι b = some e ∧ e.blk = some k ∧ (0 : Nat) = e.base ∧ cs.size = e.cells := fun k hk => by
    simp at hk; exact .inl (by omega)
  have hx := Ex.upd hH ho hr hk
  refine ⟨HR.upd hH ho hr hk ?_, hx⟩
  have hh : ({ w with heap := w.heap.push (.cells cs t), drawn := n } : World).heap[w.heap.size]? = some (.cells cs t (0, 0)) := by simp
  refine ⟨rfl, rfl, rfl, rfl, fun h => by simp at h, fun k hk => ?_⟩
  simp at hk; subst hk
  exact ⟨⟨cs, t, hh, by simp⟩, hl, hd.at hx hh⟩
/-- A row of one's own is longer by some, in place (or by none). -/
theorem more_row (hH : HR O ι H w) {b : Nat} {e : CB} (he : ι b = some e) {s ver : Nat} {data data' : List (List AV)} (hB : H b = some (.row s ver data)) {k : Nat} (hk : e.blk = some k) {cs cs' : Array Value} {t : TypeId}
    (hc : w.heap[k]? = some (.cells cs t (0, 0))) (hsz : cs'.size = cs.size) (hout : ∀ o, o < e.base ∨ e.base + e.cells ≤ o → cs'[o]? = cs[o]?) (hd : RowsIn O ι w cs' e.base s data') (hl : data'.length * s ≤ e.cells) :
    HR O (iset ι b (some { e with ver := ver + 1, len := data'.length })) (hset H b (some (.row s (ver + 1) data'))) (w.setRow k cs') ∧ Ex ι w (iset ι b (some { e with ver := ver + 1, len := data'.length })) (w.setRow k cs') := by
  obtain ⟨B, hB', hbr⟩ := hH.blk b e he
  rw [hB] at hB'; cases hB'
  obtain ⟨q1, q2, q3, q4, q5, q6⟩ := hbr
  have hh := setRow_heap w k cs cs' t (0, 0) hc
  have ho : Only w (w.setRow k cs') ((ι b).bind (·.blk)) e.base (e.base + e.cells) := by
    rw [he]
    simp only [Option.bind_some, hk]
    refine ⟨rfl, rfl, rfl, by simp, fun k2 _ hne => setRow_other w k k2 cs' (fun h => hne (by rw [h])), fun k2 cs2 t2 fz h2 hc2 => ?_⟩
    cases h2
    rw [hc] at hc2; cases hc2
    exact ⟨cs', hh, hsz, hout⟩
  have hr : ∀ e0, ι b = some e0 → e.base = e0.base ∧ e.base + e.cells = e0.base + e0.cells ∧ e0.mp = ({ e with ver := ver + 1, len := data'.length } : CB).mp ∧ e0.ver ≤ ({ e with ver := ver + 1, len := data'.length } : CB).ver ∧
      (e0.ver = ({ e with ver := ver + 1, len := data'.length } : CB).ver ∨ e0.mp = true → ({ e with ver := ver + 1, len := data'.length } : CB) = e0) := fun e0 h0 => by
    rw [he] at h0; cases h0
    refine ⟨rfl, rfl, rfl, by simp; omega, fun hq => ?_⟩
    rcases hq with hq | hq
    · simp at hq; omega
    · rw [q1] at hq; cases hq
  have hk' : ∀ k2, ({ e with ver := ver + 1, len := data'.length } : CB).blk = some k2 → w.heap.size ≤ k2 ∨ ∃ e0, ι b = some e0 ∧ e0.blk = some k2 ∧ e.base = e0.base ∧ e.cells = e0.cells := fun k2 h2 => .inr ⟨e, he, h2, rfl, rfl⟩
  have hx := Ex.upd hH ho hr hk'
  refine ⟨HR.upd hH ho hr hk' ⟨q1, q2, rfl, rfl, fun h => (by rw [hk] at h; cases h), fun k2 h2 => ?_⟩, hx⟩
  rw [hk] at h2; cases h2
  obtain ⟨⟨cs0, t0, r1, r2⟩, r3, r4⟩ := q6 k hk
  rw [hc] at r1; cases r1
  exact ⟨⟨cs', t, hh, by rw [hsz]; exact r2⟩, by rw [q2]; exact hl, hd.at hx hh⟩
/-- A row that is nothing yet: it stays so. -/
theorem bump_virt (hH : HR O ι H w) {b : Nat} {e : CB} (he : ι b = some e) {s ver : Nat} {data : List (List AV)} (hB : H b = some (.row s ver data)) (hk : e.blk = none) (s' : Nat) :
    HR O (iset ι b (some ⟨none, e.base, s', ver + 1, 0, e.cells, false⟩)) (hset H b (some (.row s' (ver + 1) []))) w ∧ Ex ι w (iset ι b (some ⟨none, e.base, s', ver + 1, 0, e.cells, false⟩)) w := by
  obtain ⟨B, hB', hbr⟩ := hH.blk b e he
  rw [hB] at hB'; cases hB'
  obtain ⟨q1, q2, q3, q4, q5, q6⟩ := hbr
  have ho : Only w w ((ι b).bind (·.blk)) e.base (e.base + e.cells) := Only.refl ..
  have hr : ∀ e0, ι b = some e0 → e.base = e0.base ∧ e.base + e.cells = e0.base + e0.cells ∧ e0.mp = (⟨none, e.base, s', ver + 1, 0, e.cells, false⟩ : CB).mp ∧ e0.ver ≤ (⟨none, e.base, s', ver + 1, 0, e.cells, false⟩ : CB).ver ∧
      (e0.ver = (⟨none, e.base, s', ver + 1, 0, e.cells, false⟩ : CB).ver ∨ e0.mp = true → (⟨none, e.base, s', ver + 1, 0, e.cells, false⟩ : CB) = e0) := fun e0 h0 => by
    rw [he] at h0; cases h0
    refine ⟨rfl, rfl, q1, by simp; omega, fun hq => ?_⟩
    rcases hq with hq | hq
    · simp at hq; omega
    · rw [q1] at hq; cases hq
  have hk' : ∀ k2, (⟨none, e.base, s', ver + 1, 0, e.cells, false⟩ : CB).blk = some k2 → w.heap.size ≤ k2 ∨ ∃ e0, ι b = some e0 ∧ e0.blk = some k2 ∧ e.base = e0.base ∧ e.cells = e0.cells := fun k2 h2 => by cases h2
  exact ⟨HR.upd hH ho hr hk' ⟨rfl, rfl, rfl, rfl, fun _ => rfl, fun k h => by cases h⟩, Ex.upd hH ho hr hk'⟩

theorem RowsIn.append {cs l rest : List Value} {s : Nat} {xs ys : List (List AV)} (h1 : RowsIn O ι w cs.toArray 0 s xs) (h2 : RowsIn O ι w l.toArray 0 s ys) (hc : cs.length = xs.length * s) (hl : l.length = ys.length * s) :
    RowsIn O ι w (cs ++ l ++ rest).toArray 0 s (xs ++ ys) := by
  intro i x hx
  by_cases hi : i < xs.length
  · rw [List.getElem?_append_left hi] at hx
    obtain ⟨a1, a2⟩ := h1 i x hx
    refine ⟨a1, fun j y hy => ?_⟩
    obtain ⟨v, v1, v2⟩ := a2 j y hy
    have hj : j < s := by rw [← a1]; exact (List.getElem?_eq_some_iff.1 hy).1
    have := row_in (s := s) hi
    refine ⟨v, ?_, v2⟩
    simp only [List.getElem?_toArray, Nat.zero_add] at v1 ⊢
    rw [List.append_assoc, List.getElem?_append_left (by omega)]
    exact v1
  · rw [List.getElem?_append_right (by omega)] at hx
    obtain ⟨a1, a2⟩ := h2 (i - xs.length) x hx
    have hi2 : i - xs.length < ys.length := (List.getElem?_eq_some_iff.1 hx).1
    refine ⟨a1, fun j y hy => ?_⟩
    obtain ⟨v, v1, v2⟩ := a2 j y hy
    have hj : j < s := by rw [← a1]; exact (List.getElem?_eq_some_iff.1 hy).1
    have := row_in (s := s) hi2
    have hmul : i * s = xs.length * s + (i - xs.length) * s := by rw [← Nat.add_mul]; congr 1; omega
    refine ⟨v, ?_, v2⟩
    simp only [List.getElem?_toArray, Nat.zero_add] at v1 ⊢
    rw [List.append_assoc, List.getElem?_append_right (by omega), List.getElem?_append_left (by omega), ← v1]
    congr 1
    omega

/-- The model's append, to its run: in place. -/
theorem append_room {t e u : TypeId} {s0 by0 len cap n capy ty : Nat} {a ay : Option Addr} {l : List Value} (ht : tsl P t = some (e, s0, by0)) (hu : ∃ d, P.underlying u = some (.slice d)) (hcap : len + n ≤ cap)
    (hrun : (Builtin.firstCells s0 n (.slice ay n capy)).run P w = .ok l.toArray w) (ts : Array TypeId) (hts : ts[0]? = some t) (hts1 : ts[1]? = some u) :
    (Builtin.append_ ts ty #[.slice a len cap, .slice ay n capy]).run P w =
      match a with
      | some a => ((storeCells (a.add (len * s0)) l).run P w).andThen fun _ w' => .ok (.slice (some a) (len + n) cap) w'
      | none => .ok (.slice none (len + n) cap) w := by
  obtain ⟨hsl, i, z, hi, hi1, hi2, hi3, _⟩ := tsl_some ht
  obtain ⟨d, hd⟩ := hu
  unfold Builtin.append_
  simp only [hts, hts1]
  simp [run_und hsl, run_sizeI hi, hi1, run_und hd, Builtin.lenOf, hcap, hrun]
  cases a <;> simp
theorem append_grows {t e u : TypeId} {s0 by0 len cap n capy ty : Nat} {a ay : Option Addr} {l old : List Value} (ht : tsl P t = some (e, s0, by0)) (hu : ∃ d, P.underlying u = some (.slice d)) (hcap : cap < len + n)
    (hold : (Builtin.firstCells s0 len (.slice a len cap)).run P w.drew = .ok old.toArray w.drew)
    (hrun : (Builtin.firstCells s0 n (.slice ay n capy)).run P w.drew = .ok l.toArray w.drew) (hroom : (len + n) * by0 ≤ room) (ts : Array TypeId) (hts : ts[0]? = some t) (hts1 : ts[1]? = some u) :
    ∃ newCap tail, len + n ≤ newCap ∧ tail.size = (newCap - (len + n)) * s0 ∧
    (Builtin.append_ ts ty #[.slice a len cap, .slice ay n capy]).run P w = .ok (.slice (some ⟨w.heap.size, 0, none⟩) (len + n) newCap) { w with heap := w.heap.push (.cells ((old ++ l).toArray ++ tail) e), drawn := w.drawn + 1 } := by
  obtain ⟨hsl, i, z, hi, hi1, hi2, hi3, hi4, hi5, hi6⟩ := tsl_some ht
  obtain ⟨d, hd⟩ := hu
  refine ⟨(Question.appendCap (len + n) cap e).cut (w.tape w.drawn (.appendCap (len + n) cap e)), Builtin.zeroCells z.cells ((Question.appendCap (len + n) cap e).cut (w.tape w.drawn (.appendCap (len + n) cap e)) - (len + n)), ?_, ?_, ?_⟩
  · simp [Question.cut]
  · simp [Builtin.zeroCells, hi4]
  · have hnc := nextcap_le hcap
    have hb : Builtin.nextslicecap (len + n) cap * i.bytes ≤ 2 ^ 48 := by
      rw [hi2]
      calc _ ≤ (2 * (len + n)) * by0 := Nat.mul_le_mul_right _ hnc
        _ = 2 * ((len + n) * by0) := by rw [Nat.mul_assoc]
        _ ≤ 2 * room := Nat.mul_le_mul_left _ hroom
        _ ≤ 2 ^ 48 := by unfold room; decide
    unfold Builtin.append_
    simp only [hts, hts1]
    simp [run_und hsl, run_sizeI hi, hi1, run_und hd, Builtin.lenOf, Nat.not_le.2 hcap, run_typeInfo' hi, hi2, hi6, Nat.not_lt.2 (hi2 ▸ hb), Question.forced, hold, hrun, run_zero hi hi3, newRow]
    simp only [World.alloc, World.drew]
    congr 3
    apply Array.ext'
    simp

theorem SliceAt.full {e : CB} {len cap : Nat} {a : Option Addr} (h : SliceAt e 0 len (.slice a len cap)) (hl : len = e.len) : (e.blk = none ∧ len = 0 ∧ a = none ∧ cap = 0) ∨
    ∃ k, e.blk = some k ∧ len ≤ cap ∧ cap * e.s ≤ e.cells ∧ (cap ≠ 0 → a = some ⟨k, e.base, none⟩) := by
  unfold SliceAt at h
  cases hb : e.blk with
  | none =>
    rw [hb] at h
    obtain ⟨_, h2, h3⟩ := h
    cases h3
    exact .inl ⟨rfl, h2, rfl, rfl⟩
  | some k =>
    rw [hb] at h
    obtain ⟨a', cap', h1, h2, h3, h4, h5, h6⟩ := h
    cases h1
    refine .inr ⟨k, rfl, h2, by simpa using h5, fun hc => ?_⟩
    simpa using h6 hc

/-- append to a row of one's own, at its end. -/
theorem append_ref (hH : HR O ι H w) (h0 : ∀ b B, H0 b = some B → H b = some B) {t e0 u : TypeId} {s0 by0 b ver len s ver' ty : Nat} {data ys : List (List AV)} {y : AV} {c cy : Value} {N : Nat → Prop} (ht : tsl P t = some (e0, s0, by0)) (hu : ∃ d, P.underlying u = some (.slice d))
    (hy : rowsOf H0 s0 y = some ys) (hyr : R O ι w y cy) (hx : R O ι w (.ref b ver 0 len) c) (hb : H b = some (.row s ver' data)) (hver : ver = ver') (hlen : len = data.length) (hs : s = s0)
    (hroom : (len + ys.length) * by0 ≤ room) (ts : Array TypeId) (hts : ts[0]? = some t) (hts1 : ts[1]? = some u) :
    Sim P O ι H w N (Builtin.append_ ts ty #[c, cy]) ⟨.ref b (ver + 1) 0 (len + ys.length), [(b, some (.row s0 (ver + 1) (data ++ ys)))]⟩ := by
  subst hs hver
  obtain ⟨ay, capy, l, rfl, hcapy, hsrc⟩ := rowsOf_src (P := P) hH h0 hy hyr
  simp only [R] at hx
  obtain ⟨e, he, hmp, hle, ⟨a, cap, rfl⟩, hat⟩ := hx
  obtain ⟨B, hB, hbr⟩ := hH.blk b e he
  rw [hb] at hB; cases hB
  obtain ⟨q1, q2, q3, q4, q5, q6⟩ := hbr
  have hsl := hat (by omega)
  have hfull := hsl.full (by omega)
  have hnewR : ∀ {ι' : Inj} {w' : World} {e' : CB} {c' : Value}, ι' b = some e' → e'.mp = false → e'.ver = ver + 1 → (∃ a cap, c' = .slice a (len + ys.length) cap) → SliceAt e' 0 (len + ys.length) c' → R O ι' w' (.ref b (ver + 1) 0 (len + ys.length)) c' := by
    intro ι' w' e' c' h1 h2 h3 h4 h5
    simp only [R]
    exact ⟨e', h1, h2, by omega, h4, fun _ => h5⟩
  have hnew : ∀ (ι' : Inj) (x : CB), ι' = iset ι b (some x) → ∀ c, ι' c ≠ none → ι c = none → N c := by
    intro ι' x hι c h1 h2
    subst hι
    by_cases hc : c = b
    · subst hc; rw [he] at h2; cases h2
    · rw [iset_ne _ _ hc] at h1; exact absurd h2 h1
  by_cases hcap : len + ys.length ≤ cap
  · have hr := append_room (P := P) (ty := ty) ht hu hcap (hsrc.run w rfl) ts hts hts1 (a := a)
    rcases hfull with ⟨hbk, hl0, rfl, rfl⟩ | ⟨k, hbk, h1, h2, h3⟩
    · -- nothing yet, and nothing comes
      have hyl : ys.length = 0 := by omega
      have hye : ys = [] := List.eq_nil_of_length_eq_zero hyl
      subst hye
      have hde := q5 hbk
      subst hde
      obtain ⟨p1, p2⟩ := bump_virt hH he hb hbk s
      simp only at hr
      refine ⟨_, w, _, hr, ⟨by simpa [writes] using p1, hnewR (iset_same ..) rfl rfl ⟨_, _, rfl⟩ ?_, p2, hnew _ _ rfl⟩⟩
      exact ⟨rfl, by simp; omega, by simp; omega⟩
    · obtain ⟨⟨cs, tt, r1, r2⟩, r3, r4⟩ := q6 k hbk
      by_cases hc0 : cap = 0
      · have hyl : ys.length = 0 := by omega
        have hye : ys = [] := List.eq_nil_of_length_eq_zero hyl
        subst hye
        have hl0 : len = 0 := by omega
        subst hl0
        have hll : l = [] := List.eq_nil_of_length_eq_zero (by rw [hsrc.len]; simp)
        subst hll
        have hde : data = [] := List.eq_nil_of_length_eq_zero hlen.symm
        subst hde
        obtain ⟨p1, p2⟩ := more_row (data' := []) hH he hb hbk r1 rfl (fun _ _ => rfl) (fun i x h => by simp at h) (by simp)
        rw [setRow_self w k cs tt (0, 0) r1] at p1 p2
        have hr' : (Builtin.append_ ts ty #[.slice a 0 cap, .slice ay ([] : List (List AV)).length capy]).run P w = .ok (.slice a 0 cap) w := by
          rw [hr]; cases a <;> simp [storeCells]
        refine ⟨_, w, iset ι b (some { e with ver := ver + 1, len := ([] : List (List AV)).length }), hr', ⟨by simpa [writes] using p1, hnewR (iset_same ..) hmp rfl ⟨_, _, rfl⟩ ?_, p2, hnew _ _ rfl⟩⟩
        unfold SliceAt
        simp only [hbk]
        exact ⟨a, cap, rfl, Nat.zero_le _, by simp, by simp, by simpa using h2, fun h => absurd hc0 h⟩
      · have ha := h3 hc0
        subst ha
        rw [q2] at h2
        have hneed : (len + ys.length) * s ≤ cap * s := Nat.mul_le_mul_right _ hcap
        have hfit : e.base + len * s + l.length ≤ cs.size := by rw [hsrc.len]; rw [Nat.add_mul] at hneed; omega
        have hst := run_storeCells_at P k (e.base + len * s) tt l 0 cs w r1 (by simpa using hfit) (fun v hv => by rw [one_iff]; exact hsrc.one v hv)
        simp only [Nat.add_zero] at hst
        have hget : ∀ j, (cs.toList.take (e.base + len * s) ++ l ++ cs.toList.drop (e.base + len * s + l.length)).toArray[j]? = if j < e.base + len * s then cs[j]? else if j < e.base + len * s + l.length then l[j - (e.base + len * s)]? else cs[j]? := by
          intro j
          simpa using splice_get cs.toList l (e.base + len * s) j (by simpa using hfit)
        obtain ⟨p1, p2⟩ := more_row (data' := data ++ ys) hH he hb hbk r1 (cs' := (cs.toList.take (e.base + len * s) ++ l ++ cs.toList.drop (e.base + len * s + l.length)).toArray)
          (by simp; omega)
          (fun j hj => by
            rw [hget]
            rw [hsrc.len]
            rw [Nat.add_mul] at hneed
            rcases hj with hj | hj
            · rw [if_pos (by omega)]
            · rw [if_neg (by omega), if_neg (by omega)])
          (by
            intro i x hx
            by_cases hi : i < data.length
            · rw [List.getElem?_append_left hi] at hx
              obtain ⟨a1, a2⟩ := r4.rowsIn r1 i x hx
              refine ⟨a1, fun j y hy => ?_⟩
              obtain ⟨v, v1, v2⟩ := a2 j y hy
              have hj : j < s := by rw [← a1]; exact (List.getElem?_eq_some_iff.1 hy).1
              have := row_in (s := s) hi
              refine ⟨v, ?_, v2⟩
              rw [hget, if_pos (by rw [hlen]; omega)]
              exact v1
            · rw [List.getElem?_append_right (by omega)] at hx
              obtain ⟨a1, a2⟩ := hsrc.rows (i - data.length) x hx
              have hi2 : i - data.length < ys.length := (List.getElem?_eq_some_iff.1 hx).1
              refine ⟨a1, fun j y hy => ?_⟩
              obtain ⟨v, v1, v2⟩ := a2 j y hy
              have hj : j < s := by rw [← a1]; exact (List.getElem?_eq_some_iff.1 hy).1
              have := row_in (s := s) hi2
              have hmul : i * s = data.length * s + (i - data.length) * s := by rw [← Nat.add_mul]; congr 1; omega
              refine ⟨v, ?_, v2⟩
              rw [hget, if_neg (by rw [hlen]; omega), if_pos (by rw [hlen, hsrc.len]; omega)]
              simp only [List.getElem?_toArray, Nat.zero_add] at v1
              rw [← v1]; congr 1; rw [hlen]; omega)
          (by simp only [List.length_append, ← hlen]; omega)
        have hr' : (Builtin.append_ ts ty #[.slice (some ⟨k, e.base, none⟩) len cap, .slice ay ys.length capy]).run P w = .ok (.slice (some ⟨k, e.base, none⟩) (len + ys.length) cap) (w.setRow k (cs.toList.take (e.base + len * s) ++ l ++ cs.toList.drop (e.base + len * s + l.length)).toArray) := by
          rw [hr]
          simp only [Addr.add_none, hst, Result.andThen_ok]
        refine ⟨_, _, iset ι b (some { e with ver := ver + 1, len := (data ++ ys).length }), hr', ⟨by simpa only [writes] using p1, hnewR (iset_same ..) hmp rfl ⟨_, _, rfl⟩ ?_, p2, hnew _ _ rfl⟩⟩
        unfold SliceAt
        simp only [hbk]
        exact ⟨_, cap, rfl, hcap, by simp [← hlen], by simp [← hlen]; exact hcap, by simpa [q2] using h2, fun _ => by simp⟩
  · -- another block
    have hold : ∃ old : List Value, old.length = data.length * s ∧ (Builtin.firstCells s len (.slice a len cap)).run P w.drew = .ok old.toArray w.drew ∧ RowsIn O ι w old.toArray 0 s data := by
      rcases hfull with ⟨hbk, hl0, rfl, rfl⟩ | ⟨k, hbk, h1, h2, h3⟩
      · have := q5 hbk
        subst this
        subst hl0
        exact ⟨[], by simp, by simp [Builtin.firstCells], fun i x h => by simp at h⟩
      · by_cases hc0 : cap = 0
        · have : len = 0 := by omega
          subst this
          have hde : data = [] := List.eq_nil_of_length_eq_zero hlen.symm
          subst hde
          refine ⟨[], by simp, ?_, fun i x h => by simp at h⟩
          cases a with
          | none => simp [Builtin.firstCells]
          | some a => simp [Builtin.firstCells, loadCells, loadCellsFrom]
        · have ha := h3 hc0
          subst ha
          obtain ⟨⟨cs, tt, r1, r2⟩, r3, r4⟩ := q6 k hbk
          obtain ⟨old, l1, l2, l3, l4⟩ := rows_cells r4
          refine ⟨old, l1, ?_, l3⟩
          have := run_loadCells_list (P := P) w.drew ⟨k, e.base, none⟩ old (fun j v hj => by rw [Addr.add_none]; exact l2 j v hj)
          simp only [Builtin.firstCells]
          rw [hlen, ← l1]; exact this
    obtain ⟨old, o1, o2, o3⟩ := hold
    obtain ⟨newCap, tail, t1, t2, t3⟩ := append_grows (P := P) (ty := ty) ht hu (by omega) o2 (hsrc.run w.drew rfl) hroom ts hts hts1
    have hrows : RowsIn O ι w ((old ++ l).toArray ++ tail) 0 s (data ++ ys) := by
      have := RowsIn.append (rest := tail.toList) o3 hsrc.rows o1 hsrc.len
      have e4 : (old ++ l ++ tail.toList).toArray = (old ++ l).toArray ++ tail := by apply Array.ext'; simp
      rw [← e4]; exact this
    have hsize : ((old ++ l).toArray ++ tail).size = newCap * s := by
      simp only [Array.size_append, List.size_toArray, List.length_append, o1, hsrc.len, t2]
      rw [← Nat.add_mul, ← Nat.add_mul]
      congr 1; omega
    obtain ⟨p1, p2⟩ := grow_row (ver := ver + 1) hH (fun e' h => by rw [he] at h; cases h; exact ⟨hmp, by omega⟩) e0 (w.drawn + 1) hrows (by
      rw [hsize]; exact Nat.mul_le_mul_right _ (by simp; omega))
    refine ⟨_, _, _, t3, ⟨by simpa [writes] using p1, hnewR (iset_same ..) rfl rfl ⟨_, _, rfl⟩ ?_, p2, hnew _ _ rfl⟩⟩
    unfold SliceAt
    simp only
    refine ⟨_, newCap, rfl, t1, by simp [← hlen], by simp [← hlen]; exact t1, by rw [hsize]; simp, fun _ => by simp⟩
end Go.AI
