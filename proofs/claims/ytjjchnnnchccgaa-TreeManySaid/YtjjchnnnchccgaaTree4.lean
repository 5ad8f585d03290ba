/-
  Own work. Trees as lists: what stays a tree; who is below whom, by places.
-/
import Derived.Test.YtjjchnnnchccgaaTree3
namespace Go.AI
open Go
set_option linter.unusedVariables false
set_option linter.unusedSimpArgs false
namespace Trees
open Kit Ghost

def key (t : List TRow) (i : Nat) : K := kk (t.getD i dr)
/-- A list of rows is a tree. -/
structure GA (t : List TRow) (i : Nat) : Prop where
  uniq : ∀ j, j < i → key t j ≠ key t i
  ok : kOK (key t i) = true
  nn : 0 ≤ dd t i
  le : dd t i ≤ lim t i
structure GT (t : List TRow) : Prop where
  len : t.length ≤ 512
  at_ : ∀ i, i < t.length → GA t i
theorem mem_take_key (t : List TRow) (i : Nat) (hi : i ≤ t.length) (k : K) : k ∈ (t.take i).map kk ↔ ∃ j, j < i ∧ key t j = k := by
  constructor
  · intro h
    rw [List.mem_map] at h
    obtain ⟨r, hr, h⟩ := h
    rw [List.mem_take_iff_getElem] at hr
    obtain ⟨j, hj, rfl⟩ := hr
    exact ⟨j, by omega, by unfold key; rw [getD_lt t (by omega)]; exact h⟩
  · rintro ⟨j, hj, rfl⟩
    rw [List.mem_map]
    refine ⟨t[j]'(by omega), ?_, by unfold key; rw [getD_lt t (by omega)]⟩
    rw [List.mem_take_iff_getElem]
    exact ⟨j, by omega, rfl⟩
theorem goodAt_iff (t : List TRow) (i : Nat) (hi : i < t.length) : goodAt t i = true ↔ GA t i := by
  unfold goodAt
  simp only [Bool.and_eq_true, Bool.not_eq_true', decide_eq_true_eq, decide_eq_false_iff_not]
  constructor
  · rintro ⟨⟨⟨h1, h2⟩, h3⟩, h4⟩
    exact ⟨fun j hj e => h1 ((mem_take_key t i (by omega) _).2 ⟨j, hj, e⟩), h2, h3, h4⟩
  · rintro ⟨h1, h2, h3, h4⟩
    refine ⟨⟨⟨fun h => ?_, h2⟩, h3⟩, h4⟩
    obtain ⟨j, hj, e⟩ := (mem_take_key t i (by omega) _).1 h
    exact h1 j hj e
theorem tOK_iff (t : List TRow) : tOK t = true ↔ GT t := by
  unfold tOK
  rw [Bool.and_eq_true, decide_eq_true_eq, good_iff]
  exact ⟨fun h => ⟨h.1, fun i hi => (goodAt_iff t i hi).1 (h.2 i hi)⟩, fun h => ⟨h.len, fun i hi => (goodAt_iff t i hi).2 (h.at_ i hi)⟩⟩
theorem GT.inj {t : List TRow} (h : GT t) {i j : Nat} (hi : i < t.length) (hj : j < t.length) (e : key t i = key t j) : i = j := by
  rcases Nat.lt_trichotomy i j with hlt | heq | hgt
  · exact absurd e ((h.at_ j hj).uniq i hlt)
  · exact heq
  · exact absurd e.symm ((h.at_ i hi).uniq j hgt)
theorem fnd_key (t : List TRow) (k : K) : (fnd t k = -1 ∧ ∀ j, j < t.length → key t j ≠ k) ∨ ∃ i : Nat, i < t.length ∧ fnd t k = i ∧ key t i = k ∧ ∀ j, j < i → key t j ≠ k := by
  rcases fnd_cases t k with ⟨h1, h2⟩ | ⟨i, hi, h1, h2, h3⟩
  · exact .inl ⟨h1, fun j hj => by unfold key; rw [getD_lt t hj]; exact h2 _ (List.getElem_mem hj)⟩
  · exact .inr ⟨i, hi, h1, by unfold key; rw [getD_lt t hi]; exact h2, fun j hj => by unfold key; rw [getD_lt t (by omega)]; exact h3 j hj⟩
theorem GT.fnd {t : List TRow} (h : GT t) {i : Nat} (hi : i < t.length) {k : K} (hk : key t i = k) : fnd t k = i := by
  rcases fnd_key t k with ⟨_, h2⟩ | ⟨j, hj, h1, h2, _⟩
  · exact absurd hk (h2 i hi)
  · rw [h1, h.inj hj hi (h2.trans hk.symm)]
/-! Places of changed lists -/
theorem put_len (t : List TRow) (i : Nat) (r : TRow) (hi : i ≤ t.length) : (putAt t i r).length = t.length + 1 := by
  unfold putAt
  simp
  omega
theorem put_get (t : List TRow) (i : Nat) (r : TRow) (hi : i ≤ t.length) (j : Nat) : (putAt t i r).getD j dr = if j < i then t.getD j dr else if j = i then r else t.getD (j - 1) dr := by
  unfold putAt
  simp only [List.getD_eq_getElem?_getD]
  rw [List.append_assoc]
  by_cases h1 : j < i
  · rw [if_pos h1, List.getElem?_append_left (by simp; omega), List.getElem?_take_of_lt h1]
  · rw [if_neg h1, List.getElem?_append_right (by simp; omega)]
    have e : (t.take i).length = i := by simp; omega
    rw [e]
    by_cases h2 : j = i
    · subst h2; rw [if_pos rfl]; simp
    · rw [if_neg h2]
      obtain ⟨m, rfl⟩ : ∃ m, j = i + m + 1 := ⟨j - i - 1, by omega⟩
      rw [show i + m + 1 - i = m + 1 by omega]
      simp only [List.singleton_append, List.getElem?_cons_succ, List.getElem?_drop]
      rfl
theorem out_len (t : List TRow) (i : Nat) (hi : i < t.length) : (outAt t i).length = t.length - 1 := by
  unfold outAt
  simp
  omega
theorem out_get (t : List TRow) (i : Nat) (hi : i < t.length) (j : Nat) : (outAt t i).getD j dr = if j < i then t.getD j dr else t.getD (j + 1) dr := by
  unfold outAt
  simp only [List.getD_eq_getElem?_getD]
  by_cases h1 : j < i
  · rw [if_pos h1, List.getElem?_append_left (by simp; omega), List.getElem?_take_of_lt h1]
  · rw [if_neg h1, List.getElem?_append_right (by simp; omega), List.getElem?_drop]
    have e : (t.take i).length = i := by simp; omega
    rw [e, show i + 1 + (j - i) = j + 1 by omega]
theorem set_get (t : List TRow) (i : Nat) (r : TRow) (hi : i < t.length) (j : Nat) : (t.set i r).getD j dr = if j = i then r else t.getD j dr := by
  simp only [List.getD_eq_getElem?_getD, List.getElem?_set]
  by_cases h : i = j
  · subst h; simp [hi]
  · rw [if_neg h, if_neg (fun e => h e.symm)]
/-! What stays a tree -/
theorem put_good {t : List TRow} (h : GT t) {i : Nat} (hi : i ≤ t.length) {r : TRow} (hl : t.length < 512) (hk : kOK (kk r) = true) (hf : ∀ j, j < t.length → key t j ≠ kk r) (h0 : 0 ≤ r.depth) (h1 : r.depth ≤ lim t i)
    (h2 : i < t.length → dd t i ≤ r.depth + 1) : GT (putAt t i r) := by
  have hlen := put_len t i r hi
  have hg := put_get t i r hi
  refine ⟨by omega, fun j hj => ?_⟩
  rw [hlen] at hj
  have hkey : ∀ j, key (putAt t i r) j = if j < i then key t j else if j = i then kk r else key t (j - 1) := fun j => by
    unfold key
    rw [hg]
    split
    · rfl
    · split <;> rfl
  have hdd : ∀ j, dd (putAt t i r) j = if j < i then dd t j else if j = i then r.depth else dd t (j - 1) := fun j => by
    unfold dd
    rw [hg]
    split
    · rfl
    · split <;> rfl
  by_cases h3 : j < i
  · have ha := h.at_ j (by omega)
    refine ⟨fun m hm => ?_, ?_, ?_, ?_⟩
    · rw [hkey, hkey, if_pos (by omega), if_pos h3]; exact ha.uniq m hm
    · rw [hkey, if_pos h3]; exact ha.ok
    · rw [hdd, if_pos h3]; exact ha.nn
    · rw [hdd, if_pos h3]
      cases j with
      | zero => exact ha.le
      | succ j => simp only [lim]; rw [hdd, if_pos (by omega)]; exact ha.le
  · by_cases h4 : j = i
    · subst h4
      refine ⟨fun m hm => ?_, ?_, ?_, ?_⟩
      · rw [hkey, hkey, if_pos hm, if_neg h3, if_pos rfl]; exact hf m (by omega)
      · rw [hkey, if_neg h3, if_pos rfl]; exact hk
      · rw [hdd, if_neg h3, if_pos rfl]; exact h0
      · rw [hdd, if_neg h3, if_pos rfl]
        cases j with
        | zero => exact h1
        | succ j => simp only [lim]; rw [hdd, if_pos (by omega)]; exact h1
    · obtain ⟨q, rfl⟩ : ∃ q, j = q + 1 := ⟨j - 1, by omega⟩
      have ha := h.at_ q (by omega)
      have e1 : key (putAt t i r) (q + 1) = key t q := by rw [hkey, if_neg h3, if_neg h4]; rfl
      have e2 : dd (putAt t i r) (q + 1) = dd t q := by rw [hdd, if_neg h3, if_neg h4]; rfl
      refine ⟨fun m hm => ?_, by rw [e1]; exact ha.ok, by rw [e2]; exact ha.nn, ?_⟩
      · rw [e1, hkey]
        split
        · exact ha.uniq m (by omega)
        · split
          · exact fun e => hf q (by omega) e.symm
          · exact ha.uniq (m - 1) (by omega)
      · rw [e2]
        simp only [lim]
        rw [hdd]
        by_cases h5 : q = i
        · subst h5
          rw [if_neg (by omega), if_pos rfl]
          exact h2 (by omega)
        · rw [if_neg (by omega), if_neg h5]
          have := ha.le
          obtain ⟨p, rfl⟩ : ∃ p, q = p + 1 := ⟨q - 1, by omega⟩
          simpa [lim] using this
theorem set_good {t : List TRow} (h : GT t) {i : Nat} (hi : i < t.length) {r : TRow} (hk : kOK (kk r) = true) (hf : ∀ j, j < t.length → j ≠ i → key t j ≠ kk r) (hd : r.depth = dd t i) : GT (t.set i r) := by
  have hg := set_get t i r hi
  have hkey : ∀ j, key (t.set i r) j = if j = i then kk r else key t j := fun j => by
    unfold key; rw [hg]; split <;> rfl
  have hdd : ∀ j, dd (t.set i r) j = dd t j := fun j => by
    unfold dd; rw [hg]
    split
    · rename_i e; subst e; exact hd
    · rfl
  have hlim : ∀ j, lim (t.set i r) j = lim t j := fun j => by
    cases j with
    | zero => rfl
    | succ j => simp only [lim, hdd]
  refine ⟨by rw [List.length_set]; exact h.len, fun j hj => ?_⟩
  rw [List.length_set] at hj
  have ha := h.at_ j hj
  refine ⟨fun m hm => ?_, ?_, by rw [hdd]; exact ha.nn, by rw [hdd, hlim]; exact ha.le⟩
  · rw [hkey, hkey]
    by_cases h1 : m = i
    · rw [if_pos h1, if_neg (by omega)]; exact fun e => hf j hj (by omega) e.symm
    · rw [if_neg h1]
      by_cases h2 : j = i
      · rw [if_pos h2]; exact hf m (by omega) h1
      · rw [if_neg h2]; exact ha.uniq m hm
  · rw [hkey]
    split
    · exact hk
    · exact ha.ok
theorem out_good {t : List TRow} (h : GT t) {i : Nat} (hi : i < t.length) (hn : (underOf t i).length = 0) : GT (outAt t i) := by
  have hlen := out_len t i hi
  have hg := out_get t i hi
  have hkey : ∀ j, key (outAt t i) j = if j < i then key t j else key t (j + 1) := fun j => by
    unfold key; rw [hg]; split <;> rfl
  have hdd : ∀ j, dd (outAt t i) j = if j < i then dd t j else dd t (j + 1) := fun j => by
    unfold dd; rw [hg]; split <;> rfl
  refine ⟨by have := h.len; omega, fun j hj => ?_⟩
  rw [hlen] at hj
  by_cases h3 : j < i
  · have ha := h.at_ j (by omega)
    refine ⟨fun m hm => ?_, ?_, ?_, ?_⟩
    · rw [hkey, hkey, if_pos (by omega), if_pos h3]; exact ha.uniq m hm
    · rw [hkey, if_pos h3]; exact ha.ok
    · rw [hdd, if_pos h3]; exact ha.nn
    · rw [hdd, if_pos h3]
      cases j with
      | zero => exact ha.le
      | succ j => simp only [lim]; rw [hdd, if_pos (by omega)]; exact ha.le
  · have ha := h.at_ (j + 1) (by omega)
    refine ⟨fun m hm => ?_, ?_, ?_, ?_⟩
    · rw [hkey, hkey, if_neg h3]
      split
      · exact ha.uniq m (by omega)
      · exact ha.uniq (m + 1) (by omega)
    · rw [hkey, if_neg h3]; exact ha.ok
    · rw [hdd, if_neg h3]; exact ha.nn
    · rw [hdd, if_neg h3]
      by_cases h4 : j = i
      · subst h4
        obtain ⟨_, _, u3, _⟩ := under_spec hi
        rw [hn] at u3
        have h5 : dd t (j + 1) ≤ dd t j := by
          rcases u3 with u3 | u3
          · omega
          · exact u3
        have h6 := (h.at_ j hi).le
        cases j with
        | zero => simp only [lim] at h6 ⊢; omega
        | succ j => simp only [lim] at h6 ⊢; rw [hdd, if_pos (by omega)]; omega
      · have := ha.le
        obtain ⟨q, rfl⟩ : ∃ q, j = q + 1 := ⟨j - 1, by omega⟩
        simp only [lim] at this ⊢
        rw [hdd, if_neg (by omega)]
        exact this
theorem nil_good : GT [] := ⟨by simp, fun i hi => absurd hi (by simp)⟩
/-- What an act does to a tree. -/
theorem step_good {t : List TRow} (h : GT t) (x : Act) : GT (step t x).1 := by
  have hroot : ∀ k, GT (sRoot t k).1 := fun k => by
    unfold sRoot
    split
    · rename_i hc
      split
      · exact h
      · rename_i hf
        split
        · exact h
        · rename_i hl
          rcases fnd_key t k with ⟨_, h2⟩ | ⟨i, _, h1, _⟩
          · refine put_good h (Nat.le_refl _) (by omega) hc.2 h2 (Int.le_refl _) ?_ (fun h => absurd h (by omega))
            show 0 ≤ lim t t.length
            cases hn : t.length with
            | zero => exact Int.le_refl _
            | succ n => simp only [lim]; have := (h.at_ n (by omega)).nn; omega
          · omega
    · exact h
  have hins : ∀ f k, GT (sInsert t f k).1 := fun f k => by
    unfold sInsert
    split
    · rename_i hc
      split
      · exact h
      · rename_i hf
        split
        · exact h
        · rename_i hk
          split
          · exact h
          · rename_i hl
            rcases fnd_key t f with ⟨h1, _⟩ | ⟨i, hi, h1, h2, _⟩
            · omega
            · rcases fnd_key t k with ⟨_, g2⟩ | ⟨j, _, g1, _⟩
              · rw [h1, Int.toNat_natCast]
                refine put_good h (by omega) (by omega) hc.2.2 g2 ?_ (by simp only [lim]; exact Int.le_refl _) (fun hlt => ?_)
                · show 0 ≤ dd t i + 1
                  have := (h.at_ i hi).nn
                  omega
                · show dd t (i + 1) ≤ dd t i + 1 + 1
                  have := (h.at_ (i + 1) hlt).le
                  simp only [lim] at this
                  omega
              · omega
    · exact h
  have hrem : ∀ k, GT (sRemove t k).1 := fun k => by
    unfold sRemove
    split
    · split
      · exact h
      · rename_i hf
        split
        · rename_i hu
          rcases fnd_key t k with ⟨h1, _⟩ | ⟨i, hi, h1, _, _⟩
          · omega
          · rw [h1, Int.toNat_natCast] at hu ⊢
            exact out_good h hi hu
        · exact h
    · exact h
  have hmov : ∀ f k, GT (sMove t f k).1 := fun f k => by
    unfold sMove
    split
    · rename_i hc
      split
      · exact h
      · rename_i hf
        split
        · exact h
        · rename_i hk
          rcases fnd_key t f with ⟨h1, _⟩ | ⟨i, hi, h1, h2, _⟩
          · omega
          · rcases fnd_key t k with ⟨_, g2⟩ | ⟨j, _, g1, _⟩
            · rw [h1, Int.toNat_natCast]
              exact set_good h hi hc.2.2 (fun j hj _ => g2 j hj) rfl
            · omega
    · exact h
  have hmark : ∀ k on, GT (sMark t k on).1 := fun k on => by
    unfold sMark
    split
    · split
      · exact h
      · rename_i hf
        rcases fnd_key t k with ⟨h1, _⟩ | ⟨i, hi, h1, h2, _⟩
        · omega
        · rw [h1, Int.toNat_natCast]
          exact set_good h hi (h.at_ i hi).ok (fun j hj hne e => hne (h.inj hj hi e)) rfl
    · exact h
  unfold step
  split
  · exact hroot _
  · split
    · exact hins _ _
    · split
      · exact hrem _
      · split
        · exact hmov _ _
        · exact hmark _ _
/-! Who is below whom -/
def Dn (t : List TRow) (i j : Nat) : Prop := i < j ∧ j < t.length ∧ ∀ m, i < m → m ≤ j → dd t i < dd t m
theorem under_iff {t : List TRow} {i j : Nat} (hi : i < t.length) : (i < j ∧ j < i + 1 + (underOf t i).length) ↔ Dn t i j := by
  obtain ⟨u1, u2, u3, _⟩ := under_spec hi
  constructor
  · rintro ⟨h1, h2⟩
    exact ⟨h1, by omega, fun m h3 h4 => u2 m h3 (by omega)⟩
  · rintro ⟨h1, h2, h3⟩
    refine ⟨h1, ?_⟩
    rcases Nat.lt_or_ge j (i + 1 + (underOf t i).length) with h | h
    · exact h
    · rcases u3 with u3 | u3
      · omega
      · have := h3 _ (by omega) h
        omega
theorem des_iff {t : List TRow} (h : GT t) (a b : K) : des t a b = true ↔ ∃ i j, Dn t i j ∧ key t i = b ∧ key t j = a := by
  unfold des bel
  rw [decide_eq_true_eq]
  rcases fnd_key t b with ⟨h1, h2⟩ | ⟨i, hi, h1, h2, _⟩
  · rw [h1, if_pos (by omega)]
    constructor
    · intro hx; simp at hx
    · rintro ⟨i, j, ⟨g1, g2, _⟩, g3, _⟩
      exact absurd g3 (h2 i (by omega))
  · rw [h1, if_neg (by omega), Int.toNat_natCast]
    constructor
    · intro hx
      rw [List.mem_map] at hx
      obtain ⟨r, hr, he⟩ := hx
      obtain ⟨n, hn, rfl⟩ := List.mem_iff_getElem.1 hr
      rw [under_get hi hn] at he
      have hlt : i + 1 + n < t.length := by have := (under_spec hi).1; omega
      exact ⟨i, i + 1 + n, (under_iff hi).1 ⟨by omega, by omega⟩, h2, by unfold key; rw [getD_lt t hlt]; exact he⟩
    · rintro ⟨i', j, hd, g3, g4⟩
      obtain rfl : i' = i := h.inj (by have := hd.1; have := hd.2.1; omega) hi (g3.trans h2.symm)
      obtain ⟨q1, q2⟩ := (under_iff hi).2 hd
      rw [List.mem_map]
      have hn : j - (i' + 1) < (underOf t i').length := by omega
      refine ⟨(underOf t i')[j - (i' + 1)], List.getElem_mem hn, ?_⟩
      rw [under_get hi hn, ← g4]
      unfold key
      rw [getD_lt t hd.2.1]
      congr 2
      omega
theorem Dn.trans {t : List TRow} {i j m : Nat} (h : Dn t i j) (k : Dn t j m) : Dn t i m :=
  ⟨Nat.lt_trans h.1 k.1, k.2.1, fun q h1 h2 => by
    by_cases hq : q ≤ j
    · exact h.2.2 q h1 hq
    · have h3 := k.2.2 q (by omega) h2
      have h4 := h.2.2 j h.1 (Nat.le_refl _)
      omega⟩
theorem parI_some {t : List TRow} {d : Int} : ∀ {n p : Nat}, parI t d n = some p → p < n ∧ dd t p < d ∧ ∀ q, p < q → q < n → d ≤ dd t q
  | 0, p, h => by simp [parI] at h
  | n + 1, p, h => by
    simp only [parI] at h
    split at h
    · rename_i hlt
      simp only [Option.some.injEq] at h
      subst h
      exact ⟨by omega, hlt, fun q h1 h2 => absurd h1 (by omega)⟩
    · rename_i hge
      obtain ⟨h1, h2, h3⟩ := parI_some h
      refine ⟨by omega, h2, fun q h4 h5 => ?_⟩
      by_cases hq : q = n
      · subst hq; omega
      · exact h3 q h4 (by omega)
theorem parI_none {t : List TRow} {d : Int} : ∀ {n : Nat}, parI t d n = none → ∀ q, q < n → d ≤ dd t q
  | 0, h, q, hq => absurd hq (by omega)
  | n + 1, h, q, hq => by
    simp only [parI] at h
    split at h
    · cases h
    · rename_i hge
      by_cases hqn : q = n
      · subst hqn; omega
      · exact parI_none h q (by omega)
theorem par_dn {t : List TRow} {j p : Nat} (hj : j < t.length) (h : parI t (dd t j) j = some p) : Dn t p j := by
  obtain ⟨h1, h2, h3⟩ := parI_some h
  refine ⟨h1, hj, fun m h4 h5 => ?_⟩
  by_cases hm : m = j
  · subst hm; exact h2
  · have := h3 m h4 (by omega); omega
end Trees
end Go.AI
