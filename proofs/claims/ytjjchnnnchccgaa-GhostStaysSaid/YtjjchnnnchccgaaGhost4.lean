/-
  Own work. The ghosts' functions: the document's Add; who, above, all that befell.
-/
import Derived.Test.YtjjchnnnchccgaaGhost3
namespace Go.AI
open Go
set_option linter.unusedVariables false
set_option linter.unusedSimpArgs false
namespace Ghost
open Kit
theorem take_len_map {α : Type} (f : α → List DV) (l : List α) (n : Nat) (h : n = l.length) : (l.map f).take n = l.map f := by rw [h]; exact take_map_len f l
theorem radd_ok (g : G) (b : B) (hs : Small g) : ref14_Add.R (g.keys.map encK) (g.ids.map ei) (g.from_.map ei) b.kind b.key.obj b.key.slot b.from_.obj b.from_.slot = some (tA (addS g b)) := by
  refine ref14_Add.start _ _ _ _ _ _ _ _ _ ?_
  have hsk := hs.keys
  have hsi := hs.ids
  have hsf := hs.from_
  simp only [ris_ok g hs, rkey_ok, rfind_ok g b.key hs.keys, rfind_ok g b.from_ hs.keys, optAll_so]
  by_cases hlo : b.kind < 1 ∨ b.kind > 4
  · have hbd : bad b := by rcases hlo with h | h; exact .inl h; exact .inr (.inl h)
    rw [add_bad (.inr hbd), show (b.kind == 2) = false by simp; omega, show (b.kind == 3) = false by simp; omega]
    simp only [cF]
    cases hg : good g
    · rfl
    · simp only [Bool.not_true, cF]
      rcases hlo with h | h
      · rw [decide_eq_true h]; rfl
      · rw [decide_eq_true h]
        cases decide (b.kind < 1) <;> rfl
  have hk4 : b.kind = 1 ∨ b.kind = 2 ∨ b.kind = 3 ∨ b.kind = 4 := by omega
  cases hg : good g
  · rw [add_bad (.inl hg)]
    rcases hk4 with h | h | h | h <;> rw [h] <;> rfl
  have hl := (good_iff.1 hg).len
  have fin : ∀ u : Int, cond (decide (((g.from_.map ei).length : Int) ≥ 4096)) (tA (born g b.key u) = (tG g, (6, ())))
      (tA (born g b.key u) = (((g.keys.map encK ++ [encK b.key], (g.ids.map ei ++ [ei (g.from_.length : Int)], (g.from_.map ei ++ [ei u], ()))), (0, ())))) := by
    intro u
    unfold born
    by_cases h : 4096 ≤ g.from_.length
    · rw [if_pos h, decide_eq_true (by simp; omega)]; rfl
    · rw [if_neg h, decide_eq_false (by simp; omega)]
      unfold tA tG
      simp only [List.map_append, List.map_cons, List.map_nil, cF]
  rcases hk4 with h | h | h | h
  · rw [h]
    simp only [Int.reduceBEq, Int.reduceBNe, Int.reduceLT, Int.reduceGT, decide_false, Bool.not_true, cF, cT]
    cases hk : kOK b.key
    · rw [add_bad (.inr (.inr (.inr (.inl hk))))]; rfl
    have hb : ¬ bad b := by unfold bad; rw [hk]; simp; omega
    rw [add_root hg hb h]
    simp only [Bool.not_true, cF]
    by_cases h3 : 0 ≤ idx g.keys b.key
    · rw [if_pos h3, decide_eq_true (show idx g.keys b.key ≥ 0 from h3)]; rfl
    · rw [if_neg h3, decide_eq_false (show ¬ idx g.keys b.key ≥ 0 from h3)]
      have f := fin (-1)
      by_cases h9 : ((g.from_.map ei).length : Int) ≥ 4096
      · rw [decide_eq_true h9] at f ⊢; exact f
      · rw [decide_eq_false h9] at f ⊢
        simp only [cF, encK_is, List.take_succ_cons, List.take_zero, List.take_length, needs_iff, List.length_append, List.length_map, List.length_cons, List.length_nil] at f ⊢
        refine ⟨by omega, trivial, by omega, by omega, trivial, by omega, by omega, trivial, by omega, ?_⟩
        rw [f, List.take_of_length_le (by simp), List.take_of_length_le (by simp), List.take_of_length_le (by simp)]
        rfl
  · rw [h]
    simp only [Int.reduceBEq, Int.reduceBNe, Int.reduceLT, Int.reduceGT, decide_false, Bool.not_true, cF, cT]
    cases hk : kOK b.key
    · rw [add_bad (.inr (.inr (.inr (.inl hk))))]; rfl
    cases hk2 : kOK b.from_
    · rw [add_bad (.inr (.inr (.inr (.inr ⟨.inl h, hk2⟩))))]; rfl
    have hb : ¬ bad b := by unfold bad; rw [hk, hk2]; simp; omega
    rw [add_two hg hb (.inl h)]
    simp only [Bool.not_true, cF]
    by_cases h1 : idx g.keys b.from_ < 0
    · rw [if_pos h1, decide_eq_true h1]; rfl
    rw [if_neg h1, decide_eq_false h1]
    by_cases h3 : 0 ≤ idx g.keys b.key
    · rw [if_pos h3, decide_eq_true (show idx g.keys b.key ≥ 0 from h3)]; rfl
    · rw [if_neg h3, decide_eq_false (show ¬ idx g.keys b.key ≥ 0 from h3), if_neg (by omega)]
      rcases idx_cases g.keys b.from_ with ⟨h5, _⟩ | ⟨k, hkl, h5, _⟩
      · omega
      have hkd : k < g.ids.length := by omega
      rw [h5]
      have f := fin (g.ids.getD k 0)
      rw [show g.ids.getD k 0 = g.ids[k] by simp [List.getD, hkd]] at f
      rw [Int.toNat_natCast, show g.ids.getD k 0 = g.ids[k] by simp [List.getD, hkd]]
      by_cases h9 : ((g.from_.map ei).length : Int) ≥ 4096
      · rw [decide_eq_true h9] at f ⊢; exact f
      · rw [decide_eq_false h9] at f ⊢
        simp only [cF, needs_nat, Int.toNat_natCast, map_get _ _ _ hkd, optAll_so, n0_, encK_is, List.take_succ_cons, List.take_zero, List.take_length, needs_iff, List.length_append, List.length_map, List.length_cons, List.length_nil] at f ⊢
        refine ⟨by omega, by omega, trivial, by omega, by omega, trivial, by omega, by omega, trivial, by omega, ?_⟩
        rw [f, List.take_of_length_le (by simp), List.take_of_length_le (by simp), List.take_of_length_le (by simp)]
        rfl
  · rw [h]
    simp only [Int.reduceBEq, Int.reduceBNe, Int.reduceLT, Int.reduceGT, decide_false, Bool.not_true, cF, cT]
    cases hk : kOK b.key
    · rw [add_bad (.inr (.inr (.inr (.inl hk))))]; rfl
    cases hk2 : kOK b.from_
    · rw [add_bad (.inr (.inr (.inr (.inr ⟨.inr h, hk2⟩))))]; rfl
    have hb : ¬ bad b := by unfold bad; rw [hk, hk2]; simp; omega
    rw [add_two hg hb (.inr h)]
    simp only [Bool.not_true, cF]
    by_cases h1 : idx g.keys b.from_ < 0
    · rw [if_pos h1, decide_eq_true h1]; rfl
    rw [if_neg h1, decide_eq_false h1]
    by_cases h3 : 0 ≤ idx g.keys b.key
    · rw [if_pos h3, decide_eq_true (show idx g.keys b.key ≥ 0 from h3)]; rfl
    · rw [if_neg h3, decide_eq_false (show ¬ idx g.keys b.key ≥ 0 from h3), if_pos h]
      rcases idx_cases g.keys b.from_ with ⟨h5, _⟩ | ⟨k, hk, h5, _⟩
      · omega
      rw [h5]
      have e1 : (g.keys.map encK).set k (putD (encK g.keys[k]) 0 [.v (.int .i64 b.key.obj), .v (.int .i64 b.key.slot)]) = (g.keys.set k b.key).map encK := by rw [List.map_set]; rfl
      have e2 : ((g.keys.set k b.key).map encK).take g.keys.length = (g.keys.set k b.key).map encK := List.take_of_length_le (by simp)
      simp only [cF, Nat.zero_add, Int.toNat_natCast, List.length_map, map_get _ _ _ hk, optAll_so, e1, e2, needs_iff]
      exact ⟨by omega, ⟨by omega, by omega⟩, Nat.le_refl _, rfl⟩
  · rw [h]
    simp only [Int.reduceBEq, Int.reduceBNe, Int.reduceLT, Int.reduceGT, decide_false, Bool.not_true, cF, cT]
    cases hk : kOK b.key
    · rw [add_bad (.inr (.inr (.inr (.inl hk))))]; rfl
    have hb : ¬ bad b := by unfold bad; rw [hk]; simp; omega
    rw [add_die hg hb h]
    simp only [Bool.not_true, cF]
    by_cases h1 : idx g.keys b.key < 0
    · rw [if_pos h1, decide_eq_true h1]; rfl
    rw [if_neg h1, decide_eq_false h1]
    rcases idx_cases g.keys b.key with ⟨h5, _⟩ | ⟨k, hk, h5, h6⟩
    · omega
    clear h6
    rw [h5]
    have hw : IntKind.i64.wrap ((k : Int) + 1) = ((k + 1 : Nat) : Int) := wrap_succ (by omega)
    have hfin : tA (⟨del g.keys k, del g.ids k, g.from_⟩, 0) = (((g.keys.map encK).take k ++ (g.keys.map encK).drop (k + 1), ((g.ids.map ei).take k ++ (g.ids.map ei).drop (k + 1), (g.from_.map ei, ()))), (0, ())) := by
      unfold tA tG
      simp only [map_del]
    rw [Int.toNat_natCast, hfin]
    have hLK : (g.keys.map encK).length = g.keys.length := List.length_map _
    have hLI : (g.ids.map ei).length = g.keys.length := by rw [List.length_map, hl]
    generalize g.keys.map encK = LK at hLK ⊢
    generalize g.ids.map ei = LI at hLI ⊢
    generalize g.keys.length = n at hLK hLI hk hsk
    have tK : LK.take n = LK := List.take_of_length_le (by omega)
    have tI : LI.take n = LI := List.take_of_length_le (by omega)
    have mk : min k n = k := by omega
    simp only [cF, hw, Int.toNat_natCast, hLK, hLI, tK, tI, List.length_append, List.length_take, List.length_drop, mk, needs_iff]
    have sK : (LK.take k ++ LK.drop (k + 1)).take (k + (n - (k + 1))) = LK.take k ++ LK.drop (k + 1) := List.take_of_length_le (by simp only [List.length_append, List.length_take, List.length_drop]; omega)
    have sI : (LI.take k ++ LI.drop (k + 1)).take (k + (n - (k + 1))) = LI.take k ++ LI.drop (k + 1) := List.take_of_length_le (by simp only [List.length_append, List.length_take, List.length_drop]; omega)
    rw [sK, sI]
    repeat' apply And.intro
    all_goals first | omega | trivial | rfl
/-! Who, and who is above. -/
def whoS (g : G) (k : K) : Option Int := if idx g.keys k < 0 then none else if (g.ids.length : Int) ≤ idx g.keys k then none else g.ids[(idx g.keys k).toNat]?
def tW (o : Option Int) : Int × (Bool × Unit) := (o.getD 0, (o.isSome, ()))
theorem who_ok (g : G) (k : K) (hs : Small g) : ghost_Who.R (g.keys.map encK) (g.ids.map ei) (g.from_.map ei) k.obj k.slot = some (tW (whoS g k)) := by
  refine ghost_Who.start _ _ _ _ _ _ ?_
  simp only [index_ok g.keys k hs.keys, optAll_so, List.length_map]
  unfold whoS
  rcases idx_cases g.keys k with ⟨h1, _⟩ | ⟨i, hi, h1, _⟩
  · rw [h1]; rfl
  · rw [h1, decide_eq_false (by omega), if_neg (by omega)]
    by_cases h2 : (g.ids.length : Int) ≤ i
    · rw [if_pos h2, decide_eq_true h2]; rfl
    · have hid : i < g.ids.length := by omega
      rw [if_neg h2, decide_eq_false h2]
      simp only [cF, needs_nat, Int.toNat_natCast, map_get _ _ _ hid, optAll_so, n0_]
      rw [List.getElem?_eq_getElem hid]
      rfl
def aboveF (f : List Int) : Nat → Int → List Int
  | 0, _ => []
  | n + 1, id => if id < 0 ∨ (f.length : Int) ≤ id then [] else if f.getD id.toNat 0 < 0 ∨ id ≤ f.getD id.toNat 0 then [] else f.getD id.toNat 0 :: aboveF f n (f.getD id.toNat 0)
def aboveS (g : G) (id : Int) : List Int := aboveF g.from_ (id.toNat + 1) id
theorem above_loop (g : G) (hs : Small g) : ∀ (n : Nat) (id : Int) (acc : List Int), id.toNat < n → (id < g.from_.length → acc.length + id.toNat < 2000000) → acc.length < 2000000 →
    ghost_Above.H2 id (acc.map ei) (g.keys.map encK) (g.ids.map ei) (g.from_.map ei) ((acc ++ aboveF g.from_ n id).map ei, ())
  | 0, id, acc, h, _, _ => absurd h (by omega)
  | n + 1, id, acc, h, ha, ha2 => by
    have hsf := hs.from_
    refine ghost_Above.H2_step _ _ _ _ _ _ ?_
    rw [aboveF]
    simp only [List.length_map, take_map_len]
    by_cases h1 : id ≥ 0
    · rw [decide_eq_true h1]
      by_cases h2 : id < g.from_.length
      · rw [decide_eq_true h2]
        obtain ⟨i, rfl⟩ : ∃ i : Nat, id = i := ⟨id.toNat, by omega⟩
        have hi : i < g.from_.length := by omega
        have hac := ha h2
        simp only [cT, needs_nat, Int.toNat_natCast, map_get _ _ _ hi, optAll_so, n0_]
        rw [if_neg (by omega), show g.from_.getD i 0 = g.from_[i] by simp [List.getD, hi]]
        by_cases h3 : g.from_[i] < 0
        · rw [decide_eq_true h3, if_pos (.inl h3), List.append_nil]; rfl
        rw [decide_eq_false h3]
        by_cases h4 : g.from_[i] ≥ i
        · rw [decide_eq_true h4, if_pos (.inr h4), List.append_nil]; rfl
        rw [decide_eq_false h4, if_neg (by omega)]
        simp only [Int.toNat_natCast] at hac
        have nxt := above_loop g hs n g.from_[i] (acc ++ [g.from_[i]]) (by omega) (fun _ => by simp only [List.length_append, List.length_cons, List.length_nil]; omega) (by simp only [List.length_append, List.length_cons, List.length_nil]; omega)
        rw [List.append_assoc, List.map_append] at nxt
        simp only [cF, List.take_succ_cons, List.take_zero, needs_iff, List.length_append, List.length_map, List.length_cons, List.length_nil]
        exact ⟨trivial, by omega, nxt⟩
      · rw [decide_eq_false h2, if_pos (.inr (by omega)), List.append_nil]; rfl
    · rw [decide_eq_false h1, if_pos (.inl (by omega)), List.append_nil]; rfl
theorem above_ok (g : G) (id : Int) (hs : Small g) : ghost_Above.R (g.keys.map encK) (g.ids.map ei) (g.from_.map ei) id = some ((aboveS g id).map ei, ()) := by
  refine ghost_Above.start _ _ _ _ _ ?_
  have hsf := hs.from_
  have := above_loop g hs (id.toNat + 1) id [] (by omega) (fun h => by simp only [List.length_nil]; omega) (by decide)
  rw [List.nil_append] at this
  exact this
theorem above_len (f : List Int) : ∀ (n : Nat) (id : Int), (aboveF f n id).length ≤ n
  | 0, _ => Nat.le_refl _
  | n + 1, id => by
    rw [aboveF]
    split
    · exact Nat.zero_le _
    · split
      · exact Nat.zero_le _
      · rw [List.length_cons]; exact Nat.succ_le_succ (above_len f n _)
def descS (g : G) (a b : K) : Bool := match whoS g a, whoS g b with
  | some x, some y => decide (y ∈ aboveS g x)
  | _, _ => false
theorem above_small (g : G) (id : Int) (hs : Small g) : (aboveS g id).length < 1000000 := by
  unfold aboveS
  have hsf := hs.from_
  by_cases h : id.toNat + 1 < 1000000
  · have := above_len g.from_ (id.toNat + 1) id; omega
  · rw [aboveF, if_pos (.inr (by omega))]; decide
theorem desc_ok (g : G) (a b : K) (hs : Small g) : ghost_Descends.R (g.keys.map encK) (g.ids.map ei) (g.from_.map ei) a.obj a.slot b.obj b.slot = some (descS g a b, ()) := by
  refine ghost_Descends.start _ _ _ _ _ _ _ _ ?_
  simp only [who_ok g _ hs, optAll_so, tW]
  unfold descS
  cases whoS g a with
  | none => rfl
  | some x =>
    cases whoS g b with
    | none => rfl
    | some y =>
      simp only [Option.isSome_some, cT, Option.getD_some, above_ok g x hs, optAll_so, contains_ok _ _ (above_small g x hs)]
/-! All that befell. -/
def runF : G → Int → List B → G × Int
  | g, n, [] => (g, n)
  | g, n, b :: l => if (addS g b).2 = 0 then runF (addS g b).1 n l else runF g (n + 1) l
def g0 : G := ⟨[], [], []⟩
def runS (l : List B) : G × Int := runF g0 0 l
end Ghost
end Go.AI
