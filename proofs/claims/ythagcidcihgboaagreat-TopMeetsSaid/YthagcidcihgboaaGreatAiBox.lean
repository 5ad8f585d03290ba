/-
  Own work. A call in the caller's memory that is run over the blocks that its arguments reach; what comes of it is told of these alone.
-/
import Derived.Test.YthagcidcihgboaaGreatAiCell
namespace Go.AI
open Go
set_option linter.unusedVariables false
set_option linter.unusedSimpArgs false
section
variable {P : Program} {O O2 : Nat → Prop} {ι ι2 : Inj} {H H0 : Heap} {w w' : World}
theorem of_d (x : DV) (c : Value) (hi : ∀ k, k < w.heap.size → imm O ι k → imm O2 ι2 k) (h : R O ι w (.d x) c) : R O2 ι2 w (.d x) c := by
  simp only [R] at h ⊢
  exact DR.mono (Nat.le_refl _) (fun k hk h => ⟨rfl, hi k hk h⟩) x c h
mutual
theorem closed_R {F : List Nat} (hι : ∀ b, F.contains b = true → ∀ e, ι b = some e → ι2 b = some e) (hi : ∀ k, k < w.heap.size → imm O ι k → imm O2 ι2 k) : ∀ (n : Nat) (v : AV) (c : Value), closedV F n v = true → R O ι w v c → R O2 ι2 w v c
  | n, .d x, c, _, h => of_d x c hi h
  | n, .nil s, c, _, h => by simpa [R] using h
  | n, .ex s xs, c, _, h => by
    simp only [R] at h ⊢
    obtain ⟨a, rfl, h⟩ := h
    refine ⟨a, rfl, ?_⟩
    rcases h with h | ⟨k, off, rfl, him, hk, h⟩
    · exact .inl h
    · exact .inr ⟨k, off, rfl, hi k hk him, hk, DRss.mono (Nat.le_refl _) (fun k hk h => ⟨rfl, hi k hk h⟩) k s hk him xs off h⟩
  | n, .dead, c, _, _ => by simp [R]
  | n, .ref b ver off len, c, hc, h => by
    simp only [R] at h ⊢
    obtain ⟨e, he, h⟩ := h
    have hc : F.contains b = true := by cases n <;> simpa [closedV] using hc
    exact ⟨e, hι b hc e he, h⟩
  | n, .ptr b ver i o, c, hc, h => by
    simp only [R] at h ⊢
    obtain ⟨e, he, h⟩ := h
    have hc : F.contains b = true := by cases n <;> simpa [closedV] using hc
    exact ⟨e, hι b hc e he, h⟩
  | n, .map b, c, hc, h => by
    simp only [R] at h ⊢
    obtain ⟨e, k, he, h⟩ := h
    have hc : F.contains b = true := by cases n <;> simpa [closedV] using hc
    exact ⟨e, k, hι b hc e he, h⟩
  | n + 1, .agg cs, c, hc, h => by
    simp only [R] at h ⊢
    obtain ⟨l, rfl, h, ho⟩ := h
    exact ⟨l, rfl, closed_Rl hι hi n cs l (by simpa [closedV] using hc) h, ho⟩
  | n + 1, .tup cs, c, hc, h => by
    simp only [R] at h ⊢
    obtain ⟨l, rfl, h⟩ := h
    exact ⟨l, rfl, closed_Rl hι hi n cs l (by simpa [closedV] using hc) h⟩
  | n + 1, .fn f cs, c, hc, h => by
    simp only [R] at h ⊢
    obtain ⟨l, rfl, h⟩ := h
    exact ⟨l, rfl, closed_Rl hι hi n cs l (by simpa [closedV] using hc) h⟩
  | 0, .agg cs, c, hc, h => by simp [closedV] at hc
  | 0, .tup cs, c, hc, h => by simp [closedV] at hc
  | 0, .fn f cs, c, hc, h => by simp [closedV] at hc
theorem closed_Rl {F : List Nat} (hι : ∀ b, F.contains b = true → ∀ e, ι b = some e → ι2 b = some e) (hi : ∀ k, k < w.heap.size → imm O ι k → imm O2 ι2 k) : ∀ (n : Nat) (l : List AV) (cs : List Value), (∀ x ∈ l, closedV F n x = true) → Rl O ι w l cs → Rl O2 ι2 w l cs
  | n, [], cs, _, h => by simpa [Rl] using h
  | n, x :: r, cs, hc, h => by
    simp only [Rl] at h ⊢
    obtain ⟨v, l', rfl, h1, h2⟩ := h
    exact ⟨v, l', rfl, closed_R hι hi n x v (hc x (List.mem_cons_self ..)) h1, closed_Rl hι hi n r l' (fun y hy => hc y (List.mem_cons_of_mem _ hy)) h2⟩
end
theorem closed_B {F : List Nat} (hι : ∀ b, F.contains b = true → ∀ e, ι b = some e → ι2 b = some e) (hi : ∀ k, k < w.heap.size → imm O ι k → imm O2 ι2 k) {B : ABlk} (hc : closedB F (some B) = true) {e : CB} (h : BR O ι w e B) : BR O2 ι2 w e B := by
  cases B with
  | mp es => simp [closedB] at hc
  | row s ver data =>
    obtain ⟨h1, h2, h3, h4, h5, h6⟩ := h
    refine ⟨h1, h2, h3, h4, h5, fun k hk => ?_⟩
    obtain ⟨g1, g2, g3⟩ := h6 k hk
    refine ⟨g1, g2, fun i x hx => ?_⟩
    obtain ⟨q1, q2⟩ := g3 i x hx
    refine ⟨q1, fun j y hy => ?_⟩
    obtain ⟨v, r1, r2, r3⟩ := q2 j y hy
    refine ⟨v, r1, r2, closed_R hι hi 4 y v ?_ r3⟩
    unfold closedB at hc
    exact List.all_eq_true.1 (List.all_eq_true.1 hc x (List.mem_of_getElem? hx)) y (List.mem_of_getElem? hy)
theorem writes_box (Hc : Heap) : ∀ (F : List Nat) (H : Heap) (b : Nat), writes H (boxWr F Hc) b = if F.contains b = true then Hc b else H b
  | [], H, b => by simp [boxWr, writes]
  | c :: r, H, b => by
    have := writes_box Hc r (hset H c (Hc c)) b
    show writes (hset H c (Hc c)) (boxWr r Hc) b = _
    rw [this]
    by_cases h1 : r.contains b = true
    · rw [if_pos h1, if_pos (by simp only [List.contains_cons, h1, Bool.or_true])]
    · rw [if_neg h1]
      by_cases h2 : b = c
      · subst h2; rw [hset_same, if_pos (by simp)]
      · rw [hset_ne _ _ h2, if_neg]
        simp only [List.contains_cons, Bool.or_eq_true, not_or]
        exact ⟨by simpa using h2, h1⟩
theorem writes_new : ∀ (rows : List ABlk) (k : Nat) (H : Heap) (b : Nat), writes H (newWr k rows) b = if k ≤ b ∧ b < k + rows.length then rows[b - k]? else H b
  | [], k, H, b => by
    rw [if_neg (by simp)]; rfl
  | B :: r, k, H, b => by
    have := writes_new r (k + 1) (hset H k (some B)) b
    show writes (hset H k (some B)) (newWr (k + 1) r) b = _
    rw [this]
    by_cases h1 : k + 1 ≤ b ∧ b < k + 1 + r.length
    · rw [if_pos h1, if_pos (by simp only [List.length_cons]; omega), show b - k = (b - (k + 1)) + 1 by omega]
      rfl
    · rw [if_neg h1]
      by_cases h2 : b = k
      · subst h2
        rw [hset_same, if_pos (by simp only [List.length_cons]; omega), Nat.sub_self]; rfl
      · rw [hset_ne _ _ h2, if_neg (by simp only [List.length_cons]; omega)]
theorem idxN_some : ∀ {l : List Nat} {b i : Nat}, idxN l b = some i → l[i]? = some b
  | [], b, i, h => by simp [idxN] at h
  | a :: r, b, i, h => by
    unfold idxN at h
    split at h
    · rename_i hab; cases h; simp [hab]
    · split at h
      · rename_i j hj; cases h; simpa using idxN_some hj
      · cases h
theorem nodupB_get : ∀ {l : List Nat}, nodupB l = true → ∀ {i j b : Nat}, l[i]? = some b → l[j]? = some b → i = j
  | [], _, i, j, b, h, _ => by simp at h
  | a :: r, hn, i, j, b, h1, h2 => by
    unfold nodupB at hn
    simp only [Bool.and_eq_true] at hn
    have hna : ¬ a ∈ r := by simpa using hn.1
    cases i with
    | zero =>
      cases j with
      | zero => rfl
      | succ j =>
        simp at h1 h2
        subst h1
        exact absurd (List.mem_of_getElem? h2) hna
    | succ i =>
      cases j with
      | zero =>
        simp at h1 h2
        subst h2
        exact absurd (List.mem_of_getElem? h1) hna
      | succ j =>
        simp at h1 h2
        rw [nodupB_get hn.2 h1 h2]
/-- What the answer names anew. -/
structure NewR (F news : List Nat) (Hc : Heap) (fr : Nat) (ι2 ιf : Inj) : Prop where
  keep : ∀ b, F.contains b = true → ∀ e, ι2 b = some e → ιf b = some e
  new : ∀ i b, news[i]? = some b → ∀ e, ι2 b = some e → ιf (fr + i) = some { e with ver := 0 }
mutual
theorem conv_R {F news : List Nat} {Hc : Heap} {fr : Nat} (hH : HR O ι Hc w) (hN : NewR F news Hc fr ι ι2) (h1 : ∀ k, k < w.heap.size → imm O ι k → imm O2 ι2 k) (h2 : ∀ b e k, boxP F news b = true → e.mp = false → ι b = some e → e.blk = some k → imm O2 ι2 k) :
    ∀ (n : Nat) (v x : AV) (c : Value), boxConv F news Hc fr n v = some x → R O ι w v c → R O2 ι2 w x c
  | 0, v, x, c, h, _ => by simp [boxConv] at h
  | n + 1, .agg cs, x, c, h, hr => by
    simp only [boxConv] at h
    cases hm : mapO (boxConv F news Hc fr n) cs with
    | none => simp [hm] at h
    | some l =>
      simp [hm] at h; subst h
      simp only [R] at hr ⊢
      obtain ⟨cl, rfl, hr, ho⟩ := hr
      exact ⟨cl, rfl, convs_R hH hN h1 h2 n cs l cl hm hr, ho⟩
  | n + 1, .tup cs, x, c, h, hr => by
    simp only [boxConv] at h
    cases hm : mapO (boxConv F news Hc fr n) cs with
    | none => simp [hm] at h
    | some l =>
      simp [hm] at h; subst h
      simp only [R] at hr ⊢
      obtain ⟨cl, rfl, hr⟩ := hr
      exact ⟨cl, rfl, convs_R hH hN h1 h2 n cs l cl hm hr⟩
  | n + 1, .nil s, x, c, h, hr => by
    simp [boxConv] at h; subst h
    simpa [R] using hr
  | n + 1, .ref b ver off len, x, c, h, hr => by
    simp only [boxConv] at h
    split at h
    · rename_i hb
      simp at h; subst h
      simp only [R] at hr ⊢
      obtain ⟨e, he, hr⟩ := hr
      exact ⟨e, hN.keep b hb e he, hr⟩
    · split at h
      · rename_i i hi
        split at h
        · rename_i s ver' data hb
          split at h
          · rename_i hv
            simp at h; subst h
            simp only [R] at hr ⊢
            obtain ⟨e, he, hm, hle, ⟨a, cap, hc⟩, hat⟩ := hr
            obtain ⟨B, hB, hbr⟩ := hH.blk b e he
            rw [hb] at hB; cases hB
            obtain ⟨_, _, hve, _⟩ := hbr
            refine ⟨_, hN.new i b (idxN_some hi) e he, hm, Nat.le_refl _, ⟨a, cap, hc⟩, fun _ => ?_⟩
            have := hat (by rw [hv, hve])
            unfold SliceAt at this ⊢
            exact this
          · cases h
        · cases h
      · cases h
  | n + 1, .ptr b ver i o, x, c, h, hr => by
    simp only [boxConv] at h
    split at h
    · rename_i hb
      simp at h; subst h
      simp only [R] at hr ⊢
      obtain ⟨e, he, hr⟩ := hr
      exact ⟨e, hN.keep b hb e he, hr⟩
    · cases h
  | n + 1, .d y, x, c, h, hr => by
    simp only [boxConv] at h
    cases ht : toD (boxP F news) Hc 4 (.d y) with
    | none => simp [ht] at h
    | some z => simp [ht] at h; subst h; simp only [R]; exact toD_R hH _ h1 h2 4 _ z c ht hr
  | n + 1, .ex s xs, x, c, h, hr => by
    simp only [boxConv] at h
    cases ht : toD (boxP F news) Hc 4 (.ex s xs) with
    | none => simp [ht] at h
    | some z => simp [ht] at h; subst h; simp only [R]; exact toD_R hH _ h1 h2 4 _ z c ht hr
  | n + 1, .fn f caps, x, c, h, hr => by
    simp only [boxConv] at h
    cases ht : toD (boxP F news) Hc 4 (.fn f caps) with
    | none => simp [ht] at h
    | some z => simp [ht] at h; subst h; simp only [R]; exact toD_R hH _ h1 h2 4 _ z c ht hr
  | n + 1, .map b, x, c, h, hr => by simp [boxConv, toD] at h
  | n + 1, .dead, x, c, h, hr => by simp [boxConv, toD] at h
theorem convs_R {F news : List Nat} {Hc : Heap} {fr : Nat} (hH : HR O ι Hc w) (hN : NewR F news Hc fr ι ι2) (h1 : ∀ k, k < w.heap.size → imm O ι k → imm O2 ι2 k) (h2 : ∀ b e k, boxP F news b = true → e.mp = false → ι b = some e → e.blk = some k → imm O2 ι2 k) :
    ∀ (n : Nat) (vs l : List AV) (cl : List Value), mapO (boxConv F news Hc fr n) vs = some l → Rl O ι w vs cl → Rl O2 ι2 w l cl
  | n, [], l, cl, h, hr => by simp [mapO] at h; subst h; simpa [Rl] using hr
  | n, x :: r, l, cl, h, hr => by
    simp only [mapO] at h
    cases hx : boxConv F news Hc fr n x with
    | none => simp [hx] at h
    | some y =>
      cases hl : mapO (boxConv F news Hc fr n) r with
      | none => simp [hx, hl] at h
      | some t =>
        simp [hx, hl] at h; subst h
        simp only [Rl] at hr ⊢
        obtain ⟨v, l', rfl, q1, q2⟩ := hr
        exact ⟨v, l', rfl, conv_R hH hN h1 h2 n x y v hx q1, convs_R hH hN h1 h2 n r t l' hl q2⟩
end
theorem boxTop_lt : ∀ {F : List Nat} {b : Nat}, b ∈ F → b < boxTop F
  | a :: r, b, h => by
    unfold boxTop
    rcases List.mem_cons.1 h with rfl | h
    · exact Nat.lt_of_lt_of_le (Nat.lt_succ_self _) (Nat.le_max_left ..)
    · exact Nat.lt_of_lt_of_le (boxTop_lt h) (Nat.le_max_right ..)
theorem box_calls {K : Call} (hK : SoundK P K) (hH : HR O ι H w) (h0 : ∀ b B, H0 b = some B → H b = some B) {f : FuncId} {args : List AV} {as : List Value} {e : Eff} {fr : Nat} (hfr : ∀ b, fr ≤ b → b < fr + 16 → ι b = none) (hr : Rl O ι w args as) (he : boxCall K f args H0 fr = some e) :
    Known P f ∧ OutR P O ι H w fr f as (.eff e) := by
  unfold boxCall at he
  split at he
  case isFalse => cases he
  rename_i hok
  split at he
  case h_2 => cases he
  rename_i v Hc nx' hk
  generalize hF : args.flatMap (refsIn H0 4) = F at *
  unfold boxEnd at he
  split at he
  case isFalse => cases he
  rename_i hend
  generalize hnews : boxNews F v = news at *
  split at he
  case h_2 => cases he
  rename_i rows x hrows hconv
  simp only [Option.some.injEq] at he
  subst he
  unfold boxOK at hok
  simp only [Bool.and_eq_true] at hok hend
  obtain ⟨hok1, hok2⟩ := hok
  obtain ⟨⟨hend2, hnd⟩, hlen⟩ := hend
  have hlen := Nat.le_of_ble_eq_true hlen
  obtain ⟨hrl, hrow⟩ := mapO_some hrows
  have newsF : ∀ {i b : Nat}, news[i]? = some b → F.contains b = false := fun {i b} h => by
    have := List.mem_of_getElem? h
    rw [← hnews] at this
    unfold boxNews at this
    simpa using (List.mem_filter.1 this).2
  have inF : ∀ {b}, F.contains b = true → b ∈ F := fun h => by simpa using h
  have fF : ∀ {b}, b ∈ F → b < fr ∧ closedB F (H0 b) = true := fun {b} h => by
    have := List.all_eq_true.1 hok1 b h
    simp only [Bool.and_eq_true] at this
    exact ⟨Nat.lt_of_succ_le (by simpa [Nat.blt] using this.1), this.2⟩
  have blkF : ∀ {b}, F.contains b = true → ∃ B, H0 b = some B ∧ H b = some B ∧ closedB F (some B) = true := fun {b} h => by
    have := (fF (inF h)).2
    cases hb : H0 b with
    | none => rw [hb] at this; simp [closedB] at this
    | some B => exact ⟨B, rfl, h0 b B hb, by rw [hb] at this; exact this⟩
  generalize hι1 : (fun b => if F.contains b = true then ι b else none : Inj) = ι1
  generalize hO1 : (fun k => O k ∨ ∃ b e, ι b = some e ∧ e.blk = some k ∧ F.contains b = false : Nat → Prop) = O1
  have ι1_in : ∀ {b}, F.contains b = true → ι1 b = ι b := fun h => by rw [← hι1]; exact if_pos h
  have ι1_out : ∀ {b}, F.contains b = false → ι1 b = none := fun h => by rw [← hι1]; exact if_neg (by simp only [h]; exact Bool.false_ne_true)
  have ι1_some : ∀ {b e}, ι1 b = some e → F.contains b = true ∧ ι b = some e := fun {b e} h => by
    cases hb : F.contains b with
    | true => exact ⟨rfl, by rw [← ι1_in hb]; exact h⟩
    | false => rw [ι1_out hb] at h; cases h
  have O1_of : ∀ {k}, O k → O1 k := fun h => by rw [← hO1]; exact .inl h
  have O1_out : ∀ {b e k}, ι b = some e → e.blk = some k → F.contains b = false → O1 k := fun h1 h2 h3 => by rw [← hO1]; exact .inr ⟨_, _, h1, h2, h3⟩
  have imm1 : ∀ k, k < w.heap.size → imm O ι k → imm O1 ι1 k := fun k _ hi => by
    refine ⟨fun ⟨b, e, h1, h2⟩ => hi.1 ⟨b, e, (ι1_some h1).2, h2⟩, ?_⟩
    rw [← hO1]
    rintro (h | ⟨b, e, h1, h2, _⟩)
    · exact hi.2 h
    · exact hi.1 ⟨b, e, h1, h2⟩
  have hH1 : HR O1 ι1 (restr H0 F) w := by
    refine ⟨fun b e h => ?_, fun b b' e e' k h1 h2 h3 h4 => hH.inj b b' e e' k (ι1_some h1).2 (ι1_some h2).2 h3 h4, fun k hk => ?_, fun k hk => ?_⟩
    · obtain ⟨hb, h⟩ := ι1_some h
      obtain ⟨B, g1, g2, g3⟩ := blkF hb
      obtain ⟨B', g4, g5⟩ := hH.blk b e h
      rw [g2] at g4; cases g4
      refine ⟨B, by unfold restr; rw [if_pos hb]; exact g1, closed_B (fun b hb e he => by rw [ι1_in hb]; exact he) imm1 g3 g5⟩
    · obtain ⟨b, e, h1, h2⟩ := hk
      obtain ⟨hb, h1⟩ := ι1_some h1
      rw [← hO1]
      rintro (h | ⟨b', e', h3, h4, h5⟩)
      · exact hH.dis k ⟨b, e, h1, h2⟩ h
      · have := hH.inj b b' e e' k h1 h3 h2 h4
        subst this; rw [hb] at h5; cases h5
    · rw [← hO1] at hk
      rcases hk with h | ⟨b', e', h3, h4, _⟩
      · exact hH.bar k h
      · exact hH.lt b' e' k h3 h4
  have hr1 : Rl O1 ι1 w args as := closed_Rl (fun b hb e he => by rw [ι1_in hb]; exact he) imm1 4 args as (fun x hx => List.all_eq_true.1 hok2 x hx) hr
  have hfresh : ∀ b, boxTop F ≤ b → ι1 b = none := fun b hb => by
    cases hc : F.contains b with
    | true => have := boxTop_lt (inF hc); omega
    | false => exact ι1_out hc
  obtain ⟨c1, _, c3⟩ := hK f args as (restr H0 F) (boxTop F) v Hc nx' O1 ι1 w hk hH1 hr1 hfresh
  refine ⟨c3, c1.mono fun en w' hret => ?_⟩
  cases en with
  | returned c =>
    obtain ⟨ι2, d1, d2, d3, d4⟩ := hret
    generalize hιf : (fun b => if F.contains b = true then ι2 b else if fr ≤ b ∧ b < fr + news.length then (match news[b - fr]? with
      | some n => (match ι2 n with
        | some e => some { e with ver := 0 }
        | none => none)
      | none => none) else ι b : Inj) = ιf
    have f_in : ∀ {b}, F.contains b = true → ιf b = ι2 b := fun h => by rw [← hιf]; exact if_pos h
    have nF : ∀ {b}, fr ≤ b → F.contains b = false := fun {b} h => by
      cases hc : F.contains b with
      | false => rfl
      | true => have := (fF (inF hc)).1; omega
    have f_new : ∀ {i n : Nat}, news[i]? = some n → ιf (fr + i) = (match ι2 n with
        | some e => some { e with ver := 0 }
        | none => none) := fun {i n} h => by
      have hi : i < news.length := (List.getElem?_eq_some_iff.1 h).1
      rw [← hιf]
      show (if F.contains (fr + i) = true then _ else _) = _
      rw [if_neg (by simp only [nF (Nat.le_add_right fr i)]; exact Bool.false_ne_true), if_pos ⟨Nat.le_add_right .., by omega⟩, Nat.add_sub_cancel_left, h]
    have f_old : ∀ {b}, F.contains b = false → ¬ (fr ≤ b ∧ b < fr + news.length) → ιf b = ι b := fun h h' => by
      rw [← hιf]
      show (if F.contains _ = true then _ else _) = _
      rw [if_neg (by simp only [h]; exact Bool.false_ne_true), if_neg h']
    have ι_new : ∀ {b}, fr ≤ b ∧ b < fr + news.length → ι b = none := fun h => hfr _ h.1 (by omega)
    have f_out : ∀ {b e}, F.contains b = false → ι b = some e → ιf b = some e := fun {b e} h h' => by
      rw [f_old h fun hn => by rw [ι_new hn] at h'; cases h']; exact h'
    -- a name is a block's of the list, a new row's, or an old one
    have f_case : ∀ {b e}, ιf b = some e → (F.contains b = true ∧ ι2 b = some e) ∨ (∃ i n e0, b = fr + i ∧ news[i]? = some n ∧ ι2 n = some e0 ∧ e = { e0 with ver := 0 }) ∨ (F.contains b = false ∧ ι b = some e) := fun {b e} h => by
      cases hb : F.contains b with
      | true => exact .inl ⟨rfl, by rw [← f_in hb]; exact h⟩
      | false =>
        by_cases hn : fr ≤ b ∧ b < fr + news.length
        · right; left
          obtain ⟨i, rfl⟩ : ∃ i, b = fr + i := ⟨b - fr, by omega⟩
          have hi : i < news.length := by omega
          rw [f_new (List.getElem?_eq_getElem hi)] at h
          cases h2 : ι2 news[i] with
          | none => rw [h2] at h; cases h
          | some e0 =>
            rw [h2] at h
            exact ⟨i, news[i], e0, rfl, List.getElem?_eq_getElem hi, h2, (Option.some.inj h).symm⟩
        · right; right
          exact ⟨rfl, by rw [← f_old hb hn]; exact h⟩
    have own_f : ∀ {k}, owned ιf k → owned ι2 k ∨ ∃ b e, ι b = some e ∧ e.blk = some k ∧ F.contains b = false := fun {k} ⟨b, e, h1, h2⟩ => by
      rcases f_case h1 with ⟨_, h⟩ | ⟨i, n, e0, _, _, h, rfl⟩ | ⟨h, h'⟩
      · exact .inl ⟨b, e, h, h2⟩
      · exact .inl ⟨n, e0, h, h2⟩
      · exact .inr ⟨b, e, h', h2, h⟩
    -- a block of a name that stays behind is not touched
    have out1 : ∀ {b e k}, ι b = some e → e.blk = some k → F.contains b = false → ¬ owned ι1 k := fun {b e k} h1 h2 h3 ⟨b', e', g1, g2⟩ => by
      obtain ⟨g0, g1⟩ := ι1_some g1
      have := hH.inj b b' e e' k h1 g1 h2 g2
      subst this; rw [h3] at g0; cases g0
    have imm2 : ∀ k, k < w'.heap.size → imm O1 ι2 k → imm O ιf k := fun k _ hi => by
      refine ⟨fun ho => ?_, fun hO => hi.2 (O1_of hO)⟩
      rcases own_f ho with h | ⟨b, e, h1, h2, h3⟩
      · exact hi.1 h
      · exact hi.2 (O1_out h1 h2 h3)
    have hx : Ex ι w ιf w' := by
      refine ⟨d3.os, d3.tape, d3.output, d3.size, fun k hk hno => ?_, fun b e h => ?_, fun b e k h1 h2 => ?_⟩
      · have hno1 : ¬ owned ι1 k := fun ⟨b, e, h1, h2⟩ => hno ⟨b, e, (ι1_some h1).2, h2⟩
        obtain ⟨g1, g2⟩ := d3.keep k hk hno1
        refine ⟨g1, fun ho => ?_⟩
        rcases own_f ho with h | ⟨b, e, h1, h2, h3⟩
        · exact g2 h
        · exact hno ⟨b, e, h1, h2⟩
      · cases hb : F.contains b with
        | true =>
          obtain ⟨e', g1, g2⟩ := d3.old b e (by rw [ι1_in hb]; exact h)
          exact ⟨e', by rw [f_in hb]; exact g1, g2⟩
        | false => exact ⟨e, f_out hb h, rfl, Nat.le_refl _, fun _ => rfl⟩
      · cases hb : F.contains b with
        | true =>
          obtain ⟨g1, g2⟩ := d3.part b e k (by rw [ι1_in hb]; exact h1) h2
          have hno : ¬ owned ι2 k → ¬ owned ιf k := fun hn ho => by
            rcases own_f ho with h | ⟨b', e', h3, h4, h5⟩
            · exact hn h
            · have := hH.inj b b' e e' k h1 h3 h2 h4
              subst this; rw [hb] at h5; cases h5
          refine ⟨?_, g2⟩
          rcases g1 with h | ⟨b', e', h3, h4, h5⟩
          · exact .inl (hno h)
          · cases hb' : F.contains b' with
            | true => exact .inr ⟨b', e', by rw [f_in hb']; exact h3, h4, h5⟩
            | false =>
              by_cases hmem : b' ∈ news
              · obtain ⟨i, hi⟩ := List.getElem?_of_mem hmem
                exact .inr ⟨fr + i, { e' with ver := 0 }, by rw [f_new hi, h3], h4, h5⟩
              · left
                intro ho
                obtain ⟨b2, e2, q1, q2⟩ := ho
                rcases f_case q1 with ⟨hb2, q1⟩ | ⟨i, n, e0, _, hn, z1, rfl⟩ | ⟨hb2, q1⟩
                · have := d1.inj b' b2 e' e2 k h3 q1 h4 q2
                  subst this; rw [hb'] at hb2; cases hb2
                · have := d1.inj b' n e' e0 k h3 z1 h4 q2
                  subst this
                  exact hmem (List.mem_of_getElem? hn)
                · have := hH.inj b b2 e e2 k h1 q1 h2 q2
                  subst this; rw [hb] at hb2; cases hb2
        | false =>
          refine ⟨.inr ⟨b, e, f_out hb h1, h2, rfl, rfl⟩, fun cs t fz hcs => ?_⟩
          have := (d3.keep k (hH.lt b e k h1 h2) (out1 h1 h2 hb)).1
          exact ⟨cs, by rw [this]; exact hcs, rfl, fun _ _ => rfl⟩
    have hN : NewR F news Hc fr ι2 ιf := ⟨fun b hb e he => by rw [f_in hb]; exact he, fun i b hi e he => by rw [f_new hi, he]⟩
    have imm3 : ∀ b e k, boxP F news b = true → e.mp = false → ι2 b = some e → e.blk = some k → imm O ιf k := fun b e k hp _ he hk => by
      unfold boxP at hp
      simp only [Bool.and_eq_true] at hp
      have hb : F.contains b = false := by simpa using hp.1
      have hnb : ¬ b ∈ news := by simpa using hp.2
      refine ⟨fun ho => ?_, fun hO => d1.dis k ⟨b, e, he, hk⟩ (O1_of hO)⟩
      obtain ⟨b', e', g1, g2⟩ := ho
      rcases f_case g1 with ⟨hb', g1⟩ | ⟨i, n, e0, _, hn, z1, rfl⟩ | ⟨hb', g1⟩
      · have := d1.inj b b' e e' k he g1 hk g2
        subst this; rw [hb] at hb'; cases hb'
      · have := d1.inj b n e e0 k he z1 hk g2
        subst this
        exact hnb (List.mem_of_getElem? hn)
      · exact d1.dis k ⟨b, e, he, hk⟩ (O1_out g1 g2 hb')
    have hv : R O ιf w' x c := conv_R d1 hN imm2 imm3 4 v x c hconv d2
    have hrlen : rows.length = news.length := hrl
    refine ⟨ιf, ?_, hv, hx, fun b h1 h2 => ?_⟩
    · refine ⟨fun b e h => ?_, fun b b' e e' k h1 h2 h3 h4 => ?_, fun k hk hO => ?_, fun k hk => Nat.lt_of_lt_of_le (hH.bar k hk) d3.size⟩
      · rw [writes_append, writes_new, writes_box, hrlen]
        rcases f_case h with ⟨hb, h⟩ | ⟨i, n, e0, rfl, hn, z1, rfl⟩ | ⟨hb, h⟩
        · rw [if_neg (fun hc => by have := (fF (inF hb)).1; omega), if_pos hb]
          obtain ⟨B, g1, g2⟩ := d1.blk b e h
          refine ⟨B, g1, closed_B (fun b hb e he => by rw [f_in hb]; exact he) imm2 ?_ g2⟩
          have := List.all_eq_true.1 hend2 b (inF hb)
          rw [g1] at this; exact this
        · have hi : i < news.length := (List.getElem?_eq_some_iff.1 hn).1
          rw [if_pos ⟨Nat.le_add_right .., by omega⟩, Nat.add_sub_cancel_left]
          obtain ⟨B, hB, hBr⟩ := hrow i n hn
          refine ⟨B, hB, ?_⟩
          obtain ⟨B0, g1, g2⟩ := d1.blk n e0 z1
          unfold boxRow at hBr
          rw [g1] at hBr
          cases B0 with
          | mp es => cases hBr
          | row s ver data =>
            dsimp only at hBr
            split at hBr
            · rename_i d hd
              cases hBr
              obtain ⟨q1, q2, q3, q4, q5, q6⟩ := g2
              obtain ⟨hdl, hdd⟩ := mapO_some hd
              refine ⟨q1, q2, rfl, by rw [q4, hdl], fun hn => ?_, fun k hk => ?_⟩
              · have := q5 hn
                subst this
                exact List.eq_nil_of_length_eq_zero (by rw [hdl]; rfl)
              · obtain ⟨r1, r2, r3⟩ := q6 k hk
                refine ⟨r1, r2, fun j z hz => ?_⟩
                have hjd : j < data.length := by rw [← hdl]; exact (List.getElem?_eq_some_iff.1 hz).1
                obtain ⟨y, hy, hsn⟩ := hdd j _ (List.getElem?_eq_getElem hjd)
                rw [hy] at hz; cases hz
                obtain ⟨p1, p2⟩ := r3 j _ (List.getElem?_eq_getElem hjd)
                obtain ⟨hyl, hyy⟩ := mapO_some hsn
                refine ⟨by rw [hyl]; exact p1, fun j2 u hu => ?_⟩
                have hj2 : j2 < data[j].length := by rw [← hyl]; exact (List.getElem?_eq_some_iff.1 hu).1
                obtain ⟨u', hu', hsu⟩ := hyy j2 _ (List.getElem?_eq_getElem hj2)
                rw [hu'] at hu; cases hu
                obtain ⟨vv, v1, v2, v3⟩ := p2 j2 _ (List.getElem?_eq_getElem hj2)
                exact ⟨vv, v1, v2, snap_R d1 imm2 imm3 4 _ _ vv hsu v3⟩
            · cases hBr
        · rw [if_neg (fun hc => by rw [ι_new hc] at h; cases h), if_neg (by simp only [hb]; exact Bool.false_ne_true)]
          obtain ⟨B, g1, g2⟩ := hH.blk b e h
          exact ⟨B, g1, BR.mono hx g2 fun k hk => (d3.keep k (hH.lt b e k h hk) (out1 h hk hb)).1⟩
      · rcases f_case h1 with ⟨hb, h1⟩ | ⟨i, n, e0, rfl, hn, z1, rfl⟩ | ⟨hb, h1⟩ <;> rcases f_case h2 with ⟨hb', h2⟩ | ⟨i', n', e0', rfl, hn', z2, rfl⟩ | ⟨hb', h2⟩
        · exact d1.inj b b' e e' k h1 h2 h3 h4
        · have := d1.inj b n' e e0' k h1 z2 h3 h4
          subst this; rw [newsF hn'] at hb; cases hb
        · exact absurd (O1_out h2 h4 hb') (d1.dis k ⟨b, e, h1, h3⟩)
        · have := d1.inj n b' e0 e' k z1 h2 h3 h4
          subst this; rw [newsF hn] at hb'; cases hb'
        · have := d1.inj n n' e0 e0' k z1 z2 h3 h4
          subst this
          rw [nodupB_get hnd hn hn']
        · exact absurd (O1_out h2 h4 hb') (d1.dis k ⟨n, e0, z1, h3⟩)
        · exact absurd (O1_out h1 h3 hb) (d1.dis k ⟨b', e', h2, h4⟩)
        · exact absurd (O1_out h1 h3 hb) (d1.dis k ⟨n', e0', z2, h4⟩)
        · exact hH.inj b b' e e' k h1 h2 h3 h4
      · rcases own_f hk with h | ⟨b, e, h1, h2, h3⟩
        · exact d1.dis k h (O1_of hO)
        · exact hH.dis k ⟨b, e, h1, h2⟩ hO
    · cases hb : ιf b with
      | none => exact absurd hb h1
      | some e =>
        rcases f_case hb with ⟨hb, h⟩ | ⟨i, n, e0, rfl, hn, h, rfl⟩ | ⟨hb, h⟩
        · have := d4 b (by rw [h]; simp) (by rw [ι1_in hb]; exact h2)
          have := boxTop_lt (inF hb)
          omega
        · have hi : i < news.length := (List.getElem?_eq_some_iff.1 hn).1
          exact ⟨Nat.le_add_right .., by omega⟩
        · rw [h] at h2; cases h2
  | _ => exact hret.elim
end
end Go.AI
