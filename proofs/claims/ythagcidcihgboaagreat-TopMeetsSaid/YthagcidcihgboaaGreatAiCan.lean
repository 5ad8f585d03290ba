/-
  Own work. Versions begin anew: of the names from a number on, those that are up to date get version 0, the others are dead.
-/
import Derived.Test.YthagcidcihgboaaGreatAiDraw
namespace Go.AI
open Go
set_option linter.unusedVariables false
set_option linter.unusedSimpArgs false

def ican (lo : Nat) (ι : Inj) : Inj := fun b => match ι b with
  | some e => some (if lo ≤ b then { e with ver := 0 } else e)
  | none => none
theorem ican_some {lo : Nat} {ι : Inj} {b : Nat} {e : CB} (h : ican lo ι b = some e) : ∃ e0, ι b = some e0 ∧ e = if lo ≤ b then { e0 with ver := 0 } else e0 := by
  unfold ican at h
  cases hb : ι b with
  | none => simp [hb] at h
  | some e0 => simp [hb] at h; exact ⟨e0, rfl, h.symm⟩
theorem ican_of {lo : Nat} {ι : Inj} {b : Nat} {e : CB} (h : ι b = some e) : ican lo ι b = some (if lo ≤ b then { e with ver := 0 } else e) := by simp [ican, h]
theorem ican_low {lo : Nat} {ι : Inj} {b : Nat} (h : b < lo) : ican lo ι b = ι b := by
  unfold ican
  cases ι b with
  | none => rfl
  | some e => simp [Nat.not_le.2 h]
theorem ican_none {lo : Nat} {ι : Inj} {b : Nat} : ican lo ι b = none ↔ ι b = none := by
  unfold ican
  cases ι b <;> simp
theorem pick_blk (lo b : Nat) (e : CB) : (if lo ≤ b then { e with ver := 0 } else e).blk = e.blk := by split <;> rfl
theorem pick_mp (lo b : Nat) (e : CB) : (if lo ≤ b then { e with ver := 0 } else e).mp = e.mp := by split <;> rfl
theorem pick_s (lo b : Nat) (e : CB) : (if lo ≤ b then { e with ver := 0 } else e).s = e.s := by split <;> rfl
theorem pick_len (lo b : Nat) (e : CB) : (if lo ≤ b then { e with ver := 0 } else e).len = e.len := by split <;> rfl
theorem pick_base (lo b : Nat) (e : CB) : (if lo ≤ b then { e with ver := 0 } else e).base = e.base := by split <;> rfl
theorem pick_cells (lo b : Nat) (e : CB) : (if lo ≤ b then { e with ver := 0 } else e).cells = e.cells := by split <;> rfl
theorem owned_ican {lo : Nat} {ι : Inj} {k : Nat} : owned (ican lo ι) k ↔ owned ι k := by
  constructor
  · rintro ⟨b, e, h, hk⟩
    obtain ⟨e0, h0, rfl⟩ := ican_some h
    exact ⟨b, e0, h0, by rw [pick_blk] at hk; exact hk⟩
  · rintro ⟨b, e, h, hk⟩
    exact ⟨b, _, ican_of h, by rw [pick_blk]; exact hk⟩
theorem imm_ican {O : Nat → Prop} {lo : Nat} {ι : Inj} {k : Nat} : imm O (ican lo ι) k ↔ imm O ι k := by
  unfold imm; rw [owned_ican]
theorem imm_ican_eq (O : Nat → Prop) (lo : Nat) (ι : Inj) : imm O (ican lo ι) = imm O ι := funext fun _ => propext imm_ican

section
variable {O : Nat → Prop} {ι : Inj} {H : Heap} {w : World} {q : Bool} {lo : Nat}
mutual
theorem canV_R (hH : HR O ι H w) : ∀ (n : Nat) (v : AV) (c : Value), R O ι w v c → R O (ican lo ι) w (canV q lo H n v) c
  | 0, v, c, _ => by simp [canV, R]
  | n + 1, .d x, c, h => by
    simp only [canV, R] at h ⊢
    rw [imm_ican_eq]; exact h
  | n + 1, .nil s, c, h => by
    cases q with
    | true =>
      simp only [canV, if_true, R, DR] at h ⊢
      exact ⟨none, 0, h, Nat.le_refl _, .inl trivial⟩
    | false => simpa [canV, R] using h
  | n + 1, .ex s xs, c, h => by
    simp only [canV, R] at h ⊢
    rw [imm_ican_eq]; exact h
  | n + 1, .agg cs, c, h => by
    simp only [canV, R] at h ⊢
    obtain ⟨l, rfl, h, ho⟩ := h
    exact ⟨l, rfl, canVs_R hH n cs l h, ho⟩
  | n + 1, .tup vs, c, h => by
    simp only [canV, R] at h ⊢
    obtain ⟨l, rfl, h⟩ := h
    exact ⟨l, rfl, canVs_R hH n vs l h⟩
  | n + 1, .fn f caps, c, h => by
    simp only [canV, R] at h ⊢
    obtain ⟨l, rfl, h⟩ := h
    exact ⟨l, rfl, canVs_R hH n caps l h⟩
  | n + 1, .ref b ver off len, c, h => by
    simp only [canV]
    split
    · rename_i hb
      simp only [R] at h ⊢
      rw [ican_low hb]; exact h
    · rename_i hb
      have hb' : lo ≤ b := Nat.not_lt.1 hb
      split
      · rename_i s ver' data hrow
        split
        · rename_i hv
          simp only [R] at h ⊢
          obtain ⟨e, he, hm, hle, hsl, hat⟩ := h
          obtain ⟨B, hB, hbr⟩ := hH.blk b e he
          rw [hrow] at hB; cases hB
          simp only [BR] at hbr
          refine ⟨{ e with ver := 0 }, by rw [ican_of he, if_pos hb'], hm, Nat.zero_le _, hsl, fun _ => ?_⟩
          exact hat (by rw [hv]; exact hbr.2.2.1.symm)
        · simp [R]
      · simp [R]
  | n + 1, .ptr b ver i o, c, h => by
    simp only [canV]
    split
    · rename_i hb
      simp only [R] at h ⊢
      rw [ican_low hb]; exact h
    · rename_i hb
      have hb' : lo ≤ b := Nat.not_lt.1 hb
      split
      · rename_i s ver' data hrow
        split
        · rename_i hv
          simp only [R] at h ⊢
          obtain ⟨e, he, hm, hle, hsl, hat⟩ := h
          obtain ⟨B, hB, hbr⟩ := hH.blk b e he
          rw [hrow] at hB; cases hB
          simp only [BR] at hbr
          refine ⟨{ e with ver := 0 }, by rw [ican_of he, if_pos hb'], hm, Nat.zero_le _, hsl, fun _ => ?_⟩
          exact hat (by rw [hv]; exact hbr.2.2.1.symm)
        · simp [R]
      · simp [R]
  | n + 1, .map b, c, h => by
    simp only [canV, R] at h ⊢
    obtain ⟨e, k, he, hm, hk, hc⟩ := h
    exact ⟨_, k, ican_of he, by rw [pick_mp]; exact hm, by rw [pick_blk]; exact hk, hc⟩
  | n + 1, .dead, c, _ => by simp [canV, R]
theorem canVs_R (hH : HR O ι H w) : ∀ (n : Nat) (vs : List AV) (l : List Value), Rl O ι w vs l → Rl O (ican lo ι) w (vs.map (canV q lo H n)) l
  | n, [], l, h => by simpa [Rl] using h
  | n, x :: r, l, h => by
    simp only [List.map_cons, Rl] at h ⊢
    obtain ⟨v, l', rfl, q1, q2⟩ := h
    exact ⟨v, l', rfl, canV_R hH n x v q1, canVs_R hH n r l' q2⟩
end
theorem RowsAt.can (hH : HR O ι H w) {k base s : Nat} {data : List (List AV)} (h : RowsAt O ι w k base s data) : RowsAt O (ican lo ι) w k base s (data.map fun r => r.map (canV q lo H 4)) := by
  intro i x hx
  rw [List.getElem?_map] at hx
  cases hd : data[i]? with
  | none => simp [hd] at hx
  | some r =>
    simp [hd] at hx; subst hx
    obtain ⟨g1, g2⟩ := h i r hd
    refine ⟨by simpa using g1, fun j y hy => ?_⟩
    rw [List.getElem?_map] at hy
    cases hr : r[j]? with
    | none => simp [hr] at hy
    | some z =>
      simp [hr] at hy; subst hy
      obtain ⟨v, q1, q2, q3⟩ := g2 j z hr
      exact ⟨v, q1, q2, canV_R hH 4 z v q3⟩
theorem EntR.can (hH : HR O ι H w) : ∀ (es : List (AV × AV)) (l : List MapEntry), EntR O ι w es l → EntR O (ican lo ι) w (es.map fun e => (canV q lo H 4 e.1, canV q lo H 4 e.2)) l
  | [], l, h => by simpa [EntR] using h
  | x :: r, l, h => by
    simp only [List.map_cons, EntR] at h ⊢
    obtain ⟨m, l', rfl, q1, q2, q3⟩ := h
    exact ⟨m, l', rfl, canV_R hH 4 _ _ q1, canV_R hH 4 _ _ q2, EntR.can hH r l' q3⟩
theorem HR.can (hH : HR O ι H w) (lo : Nat) : HR O (ican lo ι) (canH q lo H) w where
  blk := fun b e he => by
    obtain ⟨e0, h0, rfl⟩ := ican_some he
    obtain ⟨B, hB, hb⟩ := hH.blk b e0 h0
    refine ⟨canB q lo H b B, by simp [canH, hB], ?_⟩
    cases B with
    | row s ver data =>
      simp only [canB, BR] at hb ⊢
      obtain ⟨q1, q2, q3, q4, q5, q6⟩ := hb
      refine ⟨by rw [pick_mp]; exact q1, by rw [pick_s]; exact q2, ?_, by rw [pick_len, List.length_map]; exact q4, fun hn => ?_, fun k hk => ?_⟩
      · by_cases hl : lo ≤ b
        · rw [if_pos hl, if_neg (Nat.not_lt.2 hl)]
        · rw [if_neg hl, if_pos (Nat.not_le.1 hl)]; exact q3
      · rw [pick_blk] at hn; rw [q5 hn]; rfl
      · rw [pick_blk] at hk
        rw [pick_base, pick_cells, pick_len, pick_s]
        obtain ⟨r1, r2, r3⟩ := q6 k hk
        exact ⟨r1, r2, r3.can hH⟩
    | mp es =>
      simp only [canB, BR] at hb ⊢
      obtain ⟨q1, k, l, c, q2, q3, q4⟩ := hb
      exact ⟨by rw [pick_mp]; exact q1, k, l, c, by rw [pick_blk]; exact q2, q3, q4.can hH⟩
  inj := fun b b' e e' k h h' hk hk' => by
    obtain ⟨e0, h0, rfl⟩ := ican_some h
    obtain ⟨e1, h1, rfl⟩ := ican_some h'
    rw [pick_blk] at hk hk'
    exact hH.inj b b' e0 e1 k h0 h1 hk hk'
  dis := fun k ho => hH.dis k (owned_ican.1 ho)
  bar := hH.bar
theorem R.can (hH : HR O ι H w) (lo : Nat) {v : AV} {c : Value} (h : R O ι w v c) : R O (ican lo ι) w (canV q lo H 4 v) c := canV_R hH 4 v c h
theorem Ex.can {ι' : Inj} {w' : World} (h : Ex ι w ι' w') (hlo : ∀ b, ι b ≠ none → b < lo) : Ex ι w (ican lo ι') w' where
  os := h.os
  tape := h.tape
  output := h.output
  size := h.size
  keep := fun k hk hi => ⟨(h.keep k hk hi).1, fun ho => (h.keep k hk hi).2 (owned_ican.1 ho)⟩
  old := fun b e he => by
    obtain ⟨e', he', h1⟩ := h.old b e he
    exact ⟨e', by rw [ican_low (hlo b (by rw [he]; simp))]; exact he', h1⟩
  part := fun b e k he hk => by
    obtain ⟨h1, h2⟩ := h.part b e k he hk
    refine ⟨?_, h2⟩
    rcases h1 with h1 | ⟨b', e', q1, q2, q3, q4⟩
    · exact .inl fun ho => h1 (owned_ican.1 ho)
    · exact .inr ⟨b', _, ican_of q1, by rw [pick_blk]; exact q2, by rw [pick_base]; exact q3, by rw [pick_cells]; exact q4⟩
end
section
variable {O : Nat → Prop} {ι ι0 : Inj} {H : Heap} {w w0 : World} {F : Fm} {nt nx : Nat} {T : Tmps} {a : Act}
theorem Inv.can (hI : Inv ι0 w0 O F nt ι H w T a nx) : Inv ι0 w0 O F nt (ican F.sb ι) (canH F.q F.sb H) w (canT F.q F.sb H T) a nx where
  hr := hI.hr.can _
  tr := fun t => R.can hI.hr _ (hI.tr t)
  ex := Ex.can hI.ex hI.named
  sz := hI.sz
  df := hI.df.sub fun k h => owned_ican.1 h
  fresh := fun b hb => ican_none.2 (hI.fresh b hb)
  low := fun b hb hne => hI.low b hb (fun h => hne (ican_none.2 h))
  old := hI.old
  named := hI.named
  names := hI.names
theorem Inv.more (hI : Inv ι0 w0 O F nt ι H w T a nx) {nx' : Nat} (h : nx ≤ nx') : Inv ι0 w0 O F nt ι H w T a nx' where
  hr := hI.hr
  tr := hI.tr
  ex := hI.ex
  sz := hI.sz
  df := hI.df
  fresh := fun b hb => hI.fresh b (Nat.le_trans h hb)
  low := hI.low
  old := hI.old
  named := hI.named
  names := ⟨hI.names.1, Nat.le_trans hI.names.2 h⟩
end
end Go.AI
