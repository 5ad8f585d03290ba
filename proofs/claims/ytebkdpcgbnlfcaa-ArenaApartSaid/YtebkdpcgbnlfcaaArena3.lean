/-
  Own work. The arenas' steps: take, drop, give, refer; both say the same.
-/
import Derived.Test.YtebkdpcgbnlfcaaArena2
namespace Go.AI
open Go
set_option linter.unusedVariables false
set_option linter.unusedSimpArgs false
namespace Arena
open Kit
abbrev AT := List (List DV) × (List (List DV) × Unit)
def tA (a : A) : AT := (a.things.map encT, (a.free.map encL, ()))
def t3 (r : A × Int × Int) : AT × (Int × (Int × Unit)) := (tA r.1, (r.2.1, (r.2.2, ())))
def t2 (r : A × Int) : AT × (Int × Unit) := (tA r.1, (r.2, ()))
def z0 : Th := ⟨0, 0, 0, 0, 0, 0, 0, 0⟩
def at_ (a : A) (p : Int) : Th := a.things.getD p.toNat z0
def putA (a : A) (p : Int) (t : Th) : A := { a with things := a.things.set p.toNat t }
def putL (a : A) (c : Int) (l : List Int) : A := { a with free := a.free.set c.toNat l }
theorem put_ok (a : A) (p ty gen refs start size water src val : Int) (hs : Small a) (hp : 0 ≤ p ∧ p < a.things.length) :
    arena_put.R (a.things.map encT) (a.free.map encL) p ty gen refs start size water src val = some (tA (putA a p ⟨ty, gen, refs, start, size, water, src, val⟩), ()) := by
  refine arena_put.start _ _ _ _ _ _ _ _ _ _ _ _ ?_
  have hi : p.toNat < a.things.length := by omega
  have h1 := hs.things
  simp only [List.length_map, Nat.zero_add, map_get _ _ _ hi, optAll_so, needs_iff]
  refine ⟨by omega, hp, Nat.le_refl _, ?_⟩
  have e1 : (a.things.map encT).set p.toNat (putD (encT a.things[p.toNat]) 0 [.v (.int .i64 ty), .v (.int .i64 gen), .v (.int .i64 refs), .v (.int .i64 start), .v (.int .i64 size), .v (.int .i64 water), .v (.int .i64 src), .v (.int .i64 val)]) = (a.things.set p.toNat ⟨ty, gen, refs, start, size, water, src, val⟩).map encT := by rw [List.map_set]; rfl
  rw [e1, show a.things.length = (a.things.set p.toNat ⟨ty, gen, refs, start, size, water, src, val⟩).length by simp, take_map_len]
  rfl
theorem set_ok (a : A) (p ty gen refs start size water src val : Int) (hs : Small a) (hp : 0 ≤ p ∧ p < a.things.length) :
    ref09_set.R (a.things.map encT) (a.free.map encL) p ty gen refs start size water src val = some (tA (putA a p ⟨ty, gen, refs, start, size, water, src, val⟩), ()) := by
  refine ref09_set.start _ _ _ _ _ _ _ _ _ _ _ _ ?_
  have hi : p.toNat < a.things.length := by omega
  have h1 := hs.things
  simp only [List.length_map, Nat.zero_add, map_get _ _ _ hi, optAll_so, needs_iff]
  refine ⟨by omega, hp, Nat.le_refl _, ?_⟩
  have e1 : (a.things.map encT).set p.toNat (putD (encT a.things[p.toNat]) 0 [.v (.int .i64 ty), .v (.int .i64 gen), .v (.int .i64 refs), .v (.int .i64 start), .v (.int .i64 size), .v (.int .i64 water), .v (.int .i64 src), .v (.int .i64 val)]) = (a.things.set p.toNat ⟨ty, gen, refs, start, size, water, src, val⟩).map encT := by rw [List.map_set]; rfl
  rw [e1, show a.things.length = (a.things.set p.toNat ⟨ty, gen, refs, start, size, water, src, val⟩).length by simp, take_map_len]
  rfl
theorem list_ok (a : A) (c : Int) (l : List Int) (hs : Small a) (hc : 0 ≤ c ∧ c < a.free.length) : arena_list.R (a.things.map encT) (a.free.map encL) c (l.map ei) = some (tA (putL a c l), ()) := by
  refine arena_list.start _ _ _ _ _ ?_
  have hi : c.toNat < a.free.length := by omega
  have h1 := hs.free
  simp only [List.length_map, Nat.zero_add, map_get _ _ _ hi, optAll_so, needs_iff]
  refine ⟨by omega, hc, Nat.le_refl _, ?_⟩
  have e1 : (a.free.map encL).set c.toNat (putD (encL a.free[c.toNat]) 0 [.lst 1 (l.map ei)]) = (a.free.set c.toNat l).map encL := by rw [List.map_set]; rfl
  rw [e1, show a.free.length = (a.free.set c.toNat l).length by simp, take_map_len]
  rfl
theorem rlist_ok (a : A) (c : Int) (l : List Int) (hs : Small a) (hc : 0 ≤ c ∧ c < a.free.length) : ref09_list.R (a.things.map encT) (a.free.map encL) c (l.map ei) = some (tA (putL a c l), ()) := by
  refine ref09_list.start _ _ _ _ _ ?_
  have hi : c.toNat < a.free.length := by omega
  have h1 := hs.free
  simp only [List.length_map, Nat.zero_add, map_get _ _ _ hi, optAll_so, needs_iff]
  refine ⟨by omega, hc, Nat.le_refl _, ?_⟩
  have e1 : (a.free.map encL).set c.toNat (putD (encL a.free[c.toNat]) 0 [.lst 1 (l.map ei)]) = (a.free.set c.toNat l).map encL := by rw [List.map_set]; rfl
  rw [e1, show a.free.length = (a.free.set c.toNat l).length by simp, take_map_len]
  rfl
def has (a : A) (p : Int) : Bool := decide (0 ≤ p) && (decide (p < a.things.length) && good a)
theorem has_iff {a : A} {p : Int} : has a p = true ↔ 0 ≤ p ∧ p < a.things.length ∧ good a = true := by unfold has; simp
theorem has_ok (a : A) (p : Int) (hs : Small a) : arena_has.R (a.things.map encT) (a.free.map encL) p = some (has a p, ()) := by
  refine arena_has.start _ _ _ _ ?_
  simp only [check_ok a hs, optAll_so, List.length_map]
  unfold has
  by_cases h1 : p ≥ 0
  · rw [decide_eq_true h1]
    by_cases h2 : p < a.things.length
    · rw [decide_eq_true h2]
      cases good a <;> rfl
    · rw [decide_eq_false h2]; rfl
  · rw [decide_eq_false h1]; rfl
theorem place_ok (a : A) (p : Int) (hs : Small a) : ref09_place.R (a.things.map encT) (a.free.map encL) p = some (has a p, ()) := by
  refine ref09_place.start _ _ _ _ ?_
  simp only [is_ok a hs, optAll_so, List.length_map]
  unfold has
  by_cases h1 : p ≥ 0
  · rw [decide_eq_true h1]
    by_cases h2 : p < a.things.length
    · rw [decide_eq_true h2]
      cases good a <;> rfl
    · rw [decide_eq_false h2]; cases good a <;> rfl
  · rw [decide_eq_false h1]; cases good a <;> rfl
def nextS (g : Int) : Int := if 0 ≤ g ∧ g < 4095 then g + 1 else -1
theorem isGen_ok (g : Int) : handle_isGen.R g = some (decide (0 ≤ g) && decide (g ≤ 4095), ()) := by
  refine handle_isGen.start _ _ ?_
  by_cases h : g ≥ 0
  · rw [decide_eq_true h]; rfl
  · rw [decide_eq_false h]; rfl
theorem next_ok (g : Int) : handle_Next.R g = some (nextS g, ()) := by
  refine handle_Next.start _ _ ?_
  simp only [isGen_ok, optAll_so]
  unfold nextS
  by_cases h1 : 0 ≤ g
  · by_cases h2 : g ≤ 4095
    · rw [decide_eq_true h1, decide_eq_true h2]
      by_cases h3 : g = 4095
      · subst h3; rfl
      · rw [show (g == 4095) = false by simpa using h3, if_pos (by omega), wrap_id (by omega) (by omega)]; rfl
    · rw [decide_eq_true h1, decide_eq_false h2, if_neg (by omega)]; rfl
  · rw [decide_eq_false h1, if_neg (by omega)]; rfl
theorem rnext_ok (g : Int) : ref08_Next.R g = some (nextS g, ()) := by
  refine ref08_Next.start _ _ ?_
  unfold nextS
  by_cases h1 : g < 0
  · rw [decide_eq_true h1, if_neg (by omega)]; rfl
  rw [decide_eq_false h1]
  by_cases h2 : g ≥ 4095
  · rw [decide_eq_true h2, if_neg (by omega)]; rfl
  · rw [decide_eq_false h2, if_pos (by omega), wrap_id (by omega) (by omega)]; rfl
theorem good_at {a : A} (h : good a = true) {l : List Int} (hl : l ∈ a.free) {p : Int} (hp : p ∈ l) : 0 ≤ p ∧ p < a.things.length := by
  have := okP_lt (((good_iff a).1 h).2.2.1 p (List.mem_flatten.2 ⟨l, hl, hp⟩))
  omega
def listOf (a : A) (c : Int) : List Int := a.free.getD c.toNat []
theorem listOf_eq {a : A} {c : Int} (h : c.toNat < a.free.length) : a.free[c.toNat] = listOf a c := by unfold listOf; rw [List.getD_eq_getElem?_getD, List.getElem?_eq_getElem h]; rfl
theorem at_eq {a : A} {c : Int} (h : c.toNat < a.things.length) : a.things[c.toNat] = at_ a c := by unfold at_; rw [List.getD_eq_getElem?_getD, List.getElem?_eq_getElem h]; rfl
def takeS (a : A) (c : Int) (t : Th) : A × Int × Int :=
  if 0 ≤ c ∧ c < a.free.length ∧ liveB t = true ∧ good a = true then
    match listOf a c with
    | [] => (a, 0, 5)
    | p :: r => (putA (putL a c r) p { t with gen := (at_ a p).gen, refs := 1 }, p, 0)
  else (a, 0, 2)
theorem putL_small {a : A} (hs : Small a) (c : Int) (l : List Int) (hl : l.length < 1000000) : Small (putL a c l) where
  things := hs.things
  free := by simpa [putL] using hs.free
  lists := fun m hm => by
    rcases List.mem_or_eq_of_mem_set hm with h | rfl
    · exact hs.lists m h
    · exact hl
theorem take_ok (a : A) (c : Int) (t : Th) (hs : Small a) : arena_Take.R (a.things.map encT) (a.free.map encL) c t.ty t.gen t.refs t.start t.size t.water t.src t.val = some (t3 (takeS a c t)) := by
  refine arena_Take.start _ _ _ _ _ _ _ _ _ _ _ _ ?_
  unfold takeS
  simp only [List.length_map, isLive_ok, check_ok a hs, optAll_so]
  by_cases h1 : c < 0
  · rw [decide_eq_true h1, if_neg (fun h => by omega)]; rfl
  rw [decide_eq_false h1]
  by_cases h2 : c ≥ (a.free.length : Int)
  · rw [decide_eq_true h2, if_neg (fun h => by omega)]; rfl
  rw [decide_eq_false h2]
  by_cases h3 : liveB t = false
  · rw [if_neg (fun h => by simp [h3] at h), h3]; rfl
  replace h3 : liveB t = true := by simpa using h3
  by_cases h4 : good a = false
  · rw [if_neg (fun h => by simp [h4] at h), h4, h3]; rfl
  replace h4 : good a = true := by simpa using h4
  rw [if_pos ⟨by omega, by omega, h3, h4⟩, h3, h4]
  have hc : c.toNat < a.free.length := by omega
  simp only [Bool.not_true, cF, er, show ((0 : Int) != 0) = false from rfl, needs_iff, map_get _ _ _ hc, optAll_so, l0_, listOf_eq hc, List.length_map]
  refine ⟨by omega, ?_⟩
  have hmem : listOf a c ∈ a.free := by rw [← listOf_eq hc]; exact List.getElem_mem hc
  have hlen := hs.lists _ hmem
  cases hl : listOf a c with
  | nil => rfl
  | cons p r =>
    rw [hl] at hmem hlen
    have hp := good_at h4 hmem (p := p) (by simp)
    have hpi : p.toNat < a.things.length := by omega
    simp only [List.length_cons] at hlen
    have e1 : ((((p :: r).length : Nat) : Int) == 0) = false := by simp; omega
    rw [e1]
    simp only [cF, List.map_cons, List.getElem?_cons_zero, optAll_so, n0_, map_get _ _ _ hpi, t1_, needs_iff, List.length_cons, at_eq hpi]
    refine ⟨by omega, by omega, ?_⟩
    have e2 : ((ei p :: r.map ei).take (Int.toNat ((r.length + 1 : Nat) : Int))).drop 1 = r.map ei := by
      rw [Int.toNat_natCast, List.take_of_length_le (by simp)]; rfl
    rw [e2, list_ok a c r hs ⟨by omega, by omega⟩]
    simp only [optAll_so]
    have hk := put_ok (putL a c r) p t.ty (at_ a p).gen 1 t.start t.size t.water t.src t.val (putL_small hs c r (by omega)) (by simpa [putL] using hp)
    rw [show (tA (putL a c r)).1 = (putL a c r).things.map encT from rfl, show (tA (putL a c r)).2.1 = (putL a c r).free.map encL from rfl, hk]
    rfl
theorem rtake_ok (a : A) (c : Int) (t : Th) (hs : Small a) : ref09_Take.R (a.things.map encT) (a.free.map encL) c t.ty t.gen t.refs t.start t.size t.water t.src t.val = some (t3 (takeS a c t)) := by
  refine ref09_Take.start _ _ _ _ _ _ _ _ _ _ _ _ ?_
  unfold takeS
  simp only [List.length_map, rLive_ok, is_ok a hs, optAll_so]
  by_cases h4 : good a = false
  · rw [if_neg (fun h => by simp [h4] at h), h4]; rfl
  replace h4 : good a = true := by simpa using h4
  rw [h4]
  by_cases h1 : c < 0
  · rw [decide_eq_true h1, if_neg (fun h => by omega)]; rfl
  rw [decide_eq_false h1]
  by_cases h2 : c ≥ (a.free.length : Int)
  · rw [decide_eq_true h2, if_neg (fun h => by omega)]; rfl
  rw [decide_eq_false h2]
  by_cases h3 : liveB t = false
  · rw [if_neg (fun h => by simp [h3] at h), h3]; rfl
  replace h3 : liveB t = true := by simpa using h3
  rw [if_pos ⟨by omega, by omega, h3, rfl⟩, h3]
  have hc : c.toNat < a.free.length := by omega
  simp only [Bool.not_true, cF, needs_iff, map_get _ _ _ hc, optAll_so, l0_, listOf_eq hc, List.length_map]
  refine ⟨by omega, ?_⟩
  have hmem : listOf a c ∈ a.free := by rw [← listOf_eq hc]; exact List.getElem_mem hc
  have hlen := hs.lists _ hmem
  cases hl : listOf a c with
  | nil => rfl
  | cons p r =>
    rw [hl] at hmem hlen
    have hp := good_at h4 hmem (p := p) (by simp)
    have hpi : p.toNat < a.things.length := by omega
    simp only [List.length_cons] at hlen
    have e1 : ((((p :: r).length : Nat) : Int) == 0) = false := by simp; omega
    rw [e1]
    simp only [cF, List.map_cons, List.getElem?_cons_zero, optAll_so, n0_, map_get _ _ _ hpi, t1_, needs_iff, List.length_cons, at_eq hpi]
    have e2 : ((ei p :: r.map ei).take (Int.toNat ((r.length + 1 : Nat) : Int))).drop 1 = r.map ei := by
      rw [Int.toNat_natCast, List.take_of_length_le (by simp)]; rfl
    rw [e2, List.take_length, rlist_ok a c r hs ⟨by omega, by omega⟩, List.length_map]
    refine ⟨by omega, by omega, by omega, by omega, by omega, ?_⟩
    simp only [optAll_so]
    have hk := set_ok (putL a c r) p t.ty (at_ a p).gen 1 t.start t.size t.water t.src t.val (putL_small hs c r (by omega)) (by simpa [putL] using hp)
    rw [show (tA (putL a c r)).1 = (putL a c r).things.map encT from rfl, show (tA (putL a c r)).2.1 = (putL a c r).free.map encL from rfl, hk]
    rfl
end Arena
end Go.AI
