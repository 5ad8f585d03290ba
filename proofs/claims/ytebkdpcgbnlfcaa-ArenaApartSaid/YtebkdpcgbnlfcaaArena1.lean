/-
  Own work. The arenas' functions: may an arena be, in plain lists.
-/
import Derived.Test.YtebkdpcgbnlfcaaToldA
import Derived.Test.YtebkdpcgbnlfcaaAiKit2
namespace Go.AI
open Go
set_option linter.unusedVariables false
set_option linter.unusedSimpArgs false
namespace Arena
open Kit

structure Th where
  ty : Int
  gen : Int
  refs : Int
  start : Int
  size : Int
  water : Int
  src : Int
  val : Int
  deriving DecidableEq
structure A where
  things : List Th
  free : List (List Int)
  deriving DecidableEq
def encT (t : Th) : List DV := [.v (.int .i64 t.ty), .v (.int .i64 t.gen), .v (.int .i64 t.refs), .v (.int .i64 t.start), .v (.int .i64 t.size), .v (.int .i64 t.water), .v (.int .i64 t.src), .v (.int .i64 t.val)]
def encL (l : List Int) : List DV := [.lst 1 (l.map ei)]
def encS (s : List Bool) : List DV := s.map fun b => .v (.bool b)
theorem t0_ (t : Th) : dInt .i64 (encT t) 0 = some t.ty := rfl
theorem t1_ (t : Th) : dInt .i64 (encT t) 1 = some t.gen := rfl
theorem t2_ (t : Th) : dInt .i64 (encT t) 2 = some t.refs := rfl
theorem t3_ (t : Th) : dInt .i64 (encT t) 3 = some t.start := rfl
theorem t4_ (t : Th) : dInt .i64 (encT t) 4 = some t.size := rfl
theorem t5_ (t : Th) : dInt .i64 (encT t) 5 = some t.water := rfl
theorem t6_ (t : Th) : dInt .i64 (encT t) 6 = some t.src := rfl
theorem t7_ (t : Th) : dInt .i64 (encT t) 7 = some t.val := rfl
theorem l0_ (l : List Int) : dLst 1 (encL l) 0 = some (l.map ei) := rfl
theorem n0_ (n : Int) : dInt .i64 (ei n) 0 = some n := rfl
theorem s_ (s : List Bool) (i : Nat) (h : i < s.length) : dBool (encS s) i = some s[i] := by
  unfold dBool encS
  rw [map_get _ _ _ h]
theorem s_put (s : List Bool) (i : Nat) (h : i < s.length) : putD (encS s) i [.v (.bool true)] = encS (s.set i true) := by
  unfold putD encS
  rw [List.set_eq_take_append_cons_drop, if_pos h]
  simp
theorem needs_nat (k : Nat) (p : Prop) : needs ((0 : Int) ≤ (k : Int)) p = p := by
  rw [needs_iff]; exact propext ⟨fun h => h.2, fun h => ⟨Int.natCast_nonneg k, h⟩⟩
theorem live_ok : law09_live.R = some (true, ()) := law09_live.closed
theorem num_ok (n : Int) : law09_num.R n = some (n, ()) := law09_num.start _ _ rfl
/-- An error's number. -/
def er (b : Bool) : Int := match b with
  | true => 0
  | false => 2

def liveB (t : Th) : Bool := decide (1 ≤ t.ty) && decide (t.ty ≤ 5)
def thingB (t : Th) : Bool := if liveB t then decide (0 ≤ t.gen) && decide (t.gen ≤ 4095) && decide (0 ≤ t.refs) else decide (t.ty = 0) && decide (-1 ≤ t.gen) && decide (t.gen ≤ 4095) && decide (t.refs = 0)
theorem isLive_ok (t : Th) : arena_isLive.R t.ty t.gen t.refs t.start t.size t.water t.src t.val = some (liveB t, ()) := by
  refine arena_isLive.start _ _ _ _ _ _ _ _ _ ?_
  unfold liveB
  by_cases h : t.ty > 0
  · rw [decide_eq_true h, decide_eq_true (show 1 ≤ t.ty by omega)]; simp
  · rw [decide_eq_false h, decide_eq_false (show ¬ 1 ≤ t.ty by omega)]; simp
theorem rLive_ok (t : Th) : ref09_Live.R t.ty t.gen t.refs t.start t.size t.water t.src t.val = some (liveB t, ()) := by
  refine ref09_Live.start _ _ _ _ _ _ _ _ _ ?_
  unfold liveB
  by_cases h : t.ty ≥ 1
  · rw [decide_eq_true h]; simp
  · rw [decide_eq_false h]; simp
theorem isThing_ok (t : Th) : arena_isThing.R t.ty t.gen t.refs t.start t.size t.water t.src t.val = some (thingB t, ()) := by
  refine arena_isThing.start _ _ _ _ _ _ _ _ _ ?_
  unfold thingB
  simp only [isLive_ok, optAll_so, cond_ite, decide_eq_true_eq, beq_iff_eq]
  repeat' split
  all_goals simp_all
  all_goals first | omega | rfl
def okP (th : List Th) (p : Int) : Bool := decide (0 ≤ p) && (match th[p.toNat]? with | some t => !liveB t && decide (t.gen ≠ -1) | none => false)
/-- Places of lists, one behind the other; which ones were seen. -/
def walkF (th : List Th) : List Bool → List Int → Bool
  | _, [] => true
  | s, p :: r => okP th p && (!(s.getD p.toNat false) && walkF th (s.set p.toNat true) r)
theorem okP_lt {th : List Th} {p : Int} (h : okP th p = true) : 0 ≤ p ∧ p.toNat < th.length := by
  unfold okP at h
  rw [Bool.and_eq_true, decide_eq_true_eq] at h
  refine ⟨h.1, ?_⟩
  by_cases hl : p.toNat < th.length
  · exact hl
  · rw [List.getElem?_eq_none (by omega)] at h; simp at h
theorem check_in (a : A) (hn : a.things.length ≤ 64) (l : List Int) (hl : l.length < 1000000) (ci : Nat) (rest : Bool → Bool) (G : List Bool → Bool)
    (nxt : ∀ s : List Bool, s.length = 64 → arena_Check.H13 a.things.length (a.free.map encL) a.free.length (IntKind.i64.wrap ((ci : Int) + 1)) (a.things.map encT) (a.free.map encL) [encS s] (er (G s), ()))
    (hG : ∀ s, G s = walkF a.things s (a.free.drop (ci + 1)).flatten) : ∀ (m j : Nat) (s : List Bool), j + m = l.length → s.length = 64 →
    arena_Check.H16 a.things.length (a.free.map encL) a.free.length ci (l.map ei) l.length j (a.things.map encT) (a.free.map encL) [encS s] (er (walkF a.things s (l.drop j ++ (a.free.drop (ci + 1)).flatten)), ()) := by
  intro m
  induction m with
  | zero =>
    intro j s hj hs
    refine arena_Check.H16_step _ _ _ _ _ _ _ _ _ _ _ ?_
    rw [decide_eq_false (by omega), List.drop_eq_nil_of_le (by omega), List.nil_append, ← hG]
    exact nxt s hs
  | succ m ih =>
    intro j s hj hs
    refine arena_Check.H16_step _ _ _ _ _ _ _ _ _ _ _ ?_
    have hjl : j < l.length := by omega
    rw [decide_eq_true (by omega), List.drop_eq_getElem_cons hjl, List.cons_append]
    simp only [cond_true, needs_nat, Int.toNat_natCast, map_get _ _ _ hjl, optAll_so, n0_, walkF]
    generalize l[j] = p
    by_cases h1 : p < 0
    · rw [decide_eq_true h1, show okP a.things p = false by unfold okP; rw [decide_eq_false (by omega)]; rfl]; rfl
    rw [decide_eq_false h1]
    by_cases h2 : p ≥ (a.things.length : Int)
    · rw [decide_eq_true h2, show okP a.things p = false by unfold okP; rw [List.getElem?_eq_none (by omega)]; simp]; rfl
    rw [decide_eq_false h2]
    have hp : p.toNat < a.things.length := by omega
    simp only [cF, Nat.zero_add, Nat.mul_one, List.getElem?_cons_zero, optAll_so, s_ s p.toNat (by omega), map_get _ _ _ hp, t0_, t1_, t2_, t3_, t4_, t5_, t6_, t7_, isLive_ok, needs_iff]
    refine ⟨⟨by omega, by omega⟩, ?_⟩
    have hd : s.getD p.toNat false = s[p.toNat]'(by omega) := by rw [List.getD_eq_getElem?_getD, List.getElem?_eq_getElem (by omega)]; rfl
    rw [hd]
    cases s[p.toNat]'(by omega)
    · have hk : okP a.things p = (!liveB a.things[p.toNat] && decide (a.things[p.toNat].gen ≠ -1)) := by
        unfold okP; rw [List.getElem?_eq_getElem hp, decide_eq_true (show 0 ≤ p by omega)]; rfl
      rw [hk]
      simp only [cF]
      refine ⟨by omega, ?_⟩
      cases liveB a.things[p.toNat]
      · simp only [cF]
        refine ⟨by omega, ?_⟩
        by_cases h3 : a.things[p.toNat].gen = -1
        · rw [show (a.things[p.toNat].gen == -1) = true by simpa using h3]
          simp [h3, er]
        · rw [show (a.things[p.toNat].gen == -1) = false by simpa using h3, decide_eq_true h3]
          simp only [cF, s_put s p.toNat (by omega), List.set_cons_zero, wrap_succ (show j < 4611686018427387904 by omega)]
          refine ⟨⟨by omega, by omega⟩, by unfold encS; rw [List.length_map]; omega, ?_⟩
          exact ih (j + 1) (s.set p.toNat true) (by omega) (by simpa using hs)
      · rfl
    · cases okP a.things p <;> rfl
theorem check_lists (a : A) (hn : a.things.length ≤ 64) (hf : a.free.length ≤ 64) (hl : ∀ l ∈ a.free, l.length < 1000000) : ∀ (m i : Nat) (s : List Bool), i + m = a.free.length → s.length = 64 →
    arena_Check.H13 a.things.length (a.free.map encL) a.free.length i (a.things.map encT) (a.free.map encL) [encS s] (er (walkF a.things s (a.free.drop i).flatten), ()) := by
  intro m
  induction m with
  | zero =>
    intro i s hi hs
    refine arena_Check.H13_step _ _ _ _ _ _ _ _ ?_
    rw [decide_eq_false (by omega), List.drop_eq_nil_of_le (by omega)]
    rfl
  | succ m ih =>
    intro i s hi hs
    refine arena_Check.H13_step _ _ _ _ _ _ _ _ ?_
    have hil : i < a.free.length := by omega
    rw [decide_eq_true (by omega), List.drop_eq_getElem_cons hil, List.flatten_cons]
    simp only [cond_true, needs_nat, Int.toNat_natCast, map_get _ _ _ hil, optAll_so, l0_, List.length_map]
    have h := check_in a hn a.free[i] (hl _ (List.getElem_mem hil)) i id (fun s => walkF a.things s (a.free.drop (i + 1)).flatten) (fun s hs => by
      rw [wrap_succ (show i < 4611686018427387904 by omega)]
      exact ih (i + 1) s (by omega) hs) (fun _ => rfl) a.free[i].length 0 s (by omega) hs
    rw [List.drop_zero] at h
    exact h
theorem check_things (a : A) (hn : a.things.length ≤ 64) (hf : a.free.length ≤ 64) (hl : ∀ l ∈ a.free, l.length < 1000000) : ∀ (m i : Nat), i + m = a.things.length →
    arena_Check.H6 a.things.length (a.things.map encT) a.things.length i (a.things.map encT) (a.free.map encL) (er ((a.things.drop i).all thingB && walkF a.things (List.replicate 64 false) a.free.flatten), ()) := by
  intro m
  induction m with
  | zero =>
    intro i hi
    refine arena_Check.H6_step _ _ _ _ _ _ _ ?_
    rw [decide_eq_false (by omega), List.drop_eq_nil_of_le (by omega)]
    simp only [cond_false, List.all_nil, Bool.true_and, List.length_map]
    exact check_lists a hn hf hl a.free.length 0 (List.replicate 64 false) (by omega) rfl
  | succ m ih =>
    intro i hi
    refine arena_Check.H6_step _ _ _ _ _ _ _ ?_
    have hil : i < a.things.length := by omega
    rw [decide_eq_true (by omega), List.drop_eq_getElem_cons hil]
    simp only [cond_true, needs_nat, Int.toNat_natCast, map_get _ _ _ hil, optAll_so, t0_, t1_, t2_, t3_, t4_, t5_, t6_, t7_, isThing_ok, List.all_cons, wrap_succ (show i < 4611686018427387904 by omega)]
    cases thingB a.things[i]
    · rfl
    · simp only [Bool.not_true, cond_false, Bool.true_and]
      exact ih (i + 1) (by omega)
def sizes (a : A) : Bool := decide (1 ≤ a.things.length) && (decide (a.things.length ≤ 64) && (decide (1 ≤ a.free.length) && decide (a.free.length ≤ 64)))
def good (a : A) : Bool := sizes a && (a.things.all thingB && walkF a.things (List.replicate 64 false) a.free.flatten)
/-- Sizes of what is looked at. -/
structure Small (a : A) : Prop where
  things : a.things.length < 1000000
  free : a.free.length < 1000000
  lists : ∀ l ∈ a.free, l.length < 1000000
theorem check_ok (a : A) (hs : Small a) : arena_Check.R (a.things.map encT) (a.free.map encL) = some (er (good a), ()) := by
  refine arena_Check.start _ _ _ ?_
  simp only [List.length_map]
  unfold good sizes
  by_cases h1 : (a.things.length : Int) < 1
  · rw [decide_eq_true h1, decide_eq_false (show ¬ 1 ≤ a.things.length by omega)]; simp [er]
  rw [decide_eq_false h1, decide_eq_true (show 1 ≤ a.things.length by omega)]
  by_cases h2 : (a.things.length : Int) > 64
  · rw [decide_eq_true h2, decide_eq_false (show ¬ a.things.length ≤ 64 by omega)]; simp [er]
  rw [decide_eq_false h2, decide_eq_true (show a.things.length ≤ 64 by omega)]
  by_cases h3 : (a.free.length : Int) < 1
  · rw [decide_eq_true h3, decide_eq_false (show ¬ 1 ≤ a.free.length by omega)]; simp [er]
  rw [decide_eq_false h3, decide_eq_true (show 1 ≤ a.free.length by omega)]
  by_cases h4 : (a.free.length : Int) > 64
  · rw [decide_eq_true h4, decide_eq_false (show ¬ a.free.length ≤ 64 by omega)]; simp [er]
  rw [decide_eq_false h4, decide_eq_true (show a.free.length ≤ 64 by omega)]
  simp only [cond_false, Bool.true_and]
  exact check_things a (by omega) (by omega) hs.lists a.things.length 0 (by omega)
end Arena
end Go.AI
