/-
  Own work. The histories' functions: what each answers, in plain lists.
-/
import Derived.Test.YtfnnhfghggfccaaTold
import Derived.Test.YtfnnhfghggfccaaAiKit2
namespace Go.AI
open Go
set_option linter.unusedVariables false
set_option linter.unusedSimpArgs false
namespace Hist
open Kit

structure Call where
  kind : Int
  a : Int
  b : Int
  rights : Int
  badge : Int
  ty : Int
  size : Int
  value : Int
  deriving DecidableEq
structure Rep where
  code : Int
  value : Int
  badge : Int
  cap : Bool
  deriving DecidableEq
def rep0 : Rep := ⟨0, 0, 0, false⟩
structure Span where
  core : Int
  call : Call
  st : Int
  en : Int
  rep : Rep
  deriving DecidableEq
structure Don where
  core : Int
  rep : Rep
  deriving DecidableEq
structure Event where
  kind : Int
  core : Int
  call : Call
  stamp : Int
  dones : List Don
  deriving DecidableEq
structure H where
  sp : List Span
  ev : List Event
  deriving DecidableEq
def encSpan (s : Span) : List DV := [.v (.int .i64 s.core), .v (.int .i64 s.call.kind), .v (.int .u64 s.call.a), .v (.int .u64 s.call.b), .v (.int .i64 s.call.rights), .v (.int .i64 s.call.badge), .v (.int .i64 s.call.ty), .v (.int .i64 s.call.size), .v (.int .i64 s.call.value), .v (.int .i64 s.st), .v (.int .i64 s.en), .v (.int .i64 s.rep.code), .v (.int .i64 s.rep.value), .v (.int .i64 s.rep.badge), .v (.bool s.rep.cap)]
def encDon (d : Don) : List DV := [.v (.int .i64 d.core), .v (.int .i64 d.rep.code), .v (.int .i64 d.rep.value), .v (.int .i64 d.rep.badge), .v (.bool d.rep.cap)]
def encEv (e : Event) : List DV := [.v (.int .i64 e.kind), .v (.int .i64 e.core), .v (.int .i64 e.call.kind), .v (.int .u64 e.call.a), .v (.int .u64 e.call.b), .v (.int .i64 e.call.rights), .v (.int .i64 e.call.badge), .v (.int .i64 e.call.ty), .v (.int .i64 e.call.size), .v (.int .i64 e.call.value), .v (.int .i64 e.stamp), .lst 5 (e.dones.map encDon)]
section cells
variable (s : Span) (d : Don) (e : Event)
theorem s0 : dInt .i64 (encSpan s) 0 = some s.core := rfl
theorem s1 : dInt .i64 (encSpan s) 1 = some s.call.kind := rfl
theorem s2 : dInt .u64 (encSpan s) 2 = some s.call.a := rfl
theorem s3 : dInt .u64 (encSpan s) 3 = some s.call.b := rfl
theorem s4 : dInt .i64 (encSpan s) 4 = some s.call.rights := rfl
theorem s5 : dInt .i64 (encSpan s) 5 = some s.call.badge := rfl
theorem s6 : dInt .i64 (encSpan s) 6 = some s.call.ty := rfl
theorem s7 : dInt .i64 (encSpan s) 7 = some s.call.size := rfl
theorem s8 : dInt .i64 (encSpan s) 8 = some s.call.value := rfl
theorem s9 : dInt .i64 (encSpan s) 9 = some s.st := rfl
theorem s10 : dInt .i64 (encSpan s) 10 = some s.en := rfl
theorem s11 : dInt .i64 (encSpan s) 11 = some s.rep.code := rfl
theorem s12 : dInt .i64 (encSpan s) 12 = some s.rep.value := rfl
theorem s13 : dInt .i64 (encSpan s) 13 = some s.rep.badge := rfl
theorem s14 : dBool (encSpan s) 14 = some s.rep.cap := rfl
theorem d0 : dInt .i64 (encDon d) 0 = some d.core := rfl
theorem d1 : dInt .i64 (encDon d) 1 = some d.rep.code := rfl
theorem d2 : dInt .i64 (encDon d) 2 = some d.rep.value := rfl
theorem d3 : dInt .i64 (encDon d) 3 = some d.rep.badge := rfl
theorem d4 : dBool (encDon d) 4 = some d.rep.cap := rfl
theorem e0 : dInt .i64 (encEv e) 0 = some e.kind := rfl
theorem e1 : dInt .i64 (encEv e) 1 = some e.core := rfl
theorem e2 : dInt .i64 (encEv e) 2 = some e.call.kind := rfl
theorem e3 : dInt .u64 (encEv e) 3 = some e.call.a := rfl
theorem e4 : dInt .u64 (encEv e) 4 = some e.call.b := rfl
theorem e5 : dInt .i64 (encEv e) 5 = some e.call.rights := rfl
theorem e6 : dInt .i64 (encEv e) 6 = some e.call.badge := rfl
theorem e7 : dInt .i64 (encEv e) 7 = some e.call.ty := rfl
theorem e8 : dInt .i64 (encEv e) 8 = some e.call.size := rfl
theorem e9 : dInt .i64 (encEv e) 9 = some e.call.value := rfl
theorem e10 : dInt .i64 (encEv e) 10 = some e.stamp := rfl
theorem e11 : dLst 5 (encEv e) 11 = some (e.dones.map encDon) := rfl
end cells
theorem eqSpan (a b : Span) : (a.core == b.core && (a.call.kind == b.call.kind && (a.call.a == b.call.a && (a.call.b == b.call.b && (a.call.rights == b.call.rights && (a.call.badge == b.call.badge && (a.call.ty == b.call.ty && (a.call.size == b.call.size && (a.call.value == b.call.value && (a.st == b.st && (a.en == b.en && (a.rep.code == b.rep.code && (a.rep.value == b.rep.value && (a.rep.badge == b.rep.badge && (a.rep.cap == b.rep.cap && true))))))))))))))) = decide (a = b) := by
  obtain ⟨a0, ⟨a1, a2, a3, a4, a5, a6, a7, a8⟩, a9, a10, ⟨a11, a12, a13, a14⟩⟩ := a
  obtain ⟨b0, ⟨b1, b2, b3, b4, b5, b6, b7, b8⟩, b9, b10, ⟨b11, b12, b13, b14⟩⟩ := b
  rw [Bool.eq_iff_iff]
  simp [and_assoc]
theorem eqCall (a b : Call) : (a.kind == b.kind && (a.a == b.a && (a.b == b.b && (a.rights == b.rights && (a.badge == b.badge && (a.ty == b.ty && (a.size == b.size && (a.value == b.value && true)))))))) = decide (a = b) := by
  obtain ⟨a1, a2, a3, a4, a5, a6, a7, a8⟩ := a
  obtain ⟨b1, b2, b3, b4, b5, b6, b7, b8⟩ := b
  rw [Bool.eq_iff_iff]
  simp
theorem eqDon (a b : Don) : (a.core == b.core && (a.rep.code == b.rep.code && (a.rep.value == b.rep.value && (a.rep.badge == b.rep.badge && (a.rep.cap == b.rep.cap && true))))) = decide (a = b) := by
  obtain ⟨a0, a11, a12, a13, a14⟩ := a
  obtain ⟨b0, b11, b12, b13, b14⟩ := b
  rw [Bool.eq_iff_iff]
  simp
theorem eqRep0 (a : Rep) : (a.code == 0 && (a.value == 0 && (a.badge == 0 && (a.cap == false && true)))) = decide (a = rep0) := by
  obtain ⟨a11, a12, a13, a14⟩ := a
  rw [Bool.eq_iff_iff]
  simp [rep0]
theorem live_ok : law18_live.R = some (true, ()) := law18_live.closed
theorem num_ok (n : Int) : law18_num.R n = some (n, ()) := law18_num.start _ _ rfl
def isCore (c : Int) : Prop := 0 ≤ c ∧ c < 64
instance (c : Int) : Decidable (isCore c) := inferInstanceAs (Decidable (0 ≤ c ∧ c < 64))
theorem core_ok (c : Int) : hist_isCore.R c = some (decide (isCore c), ()) := by
  refine hist_isCore.start _ _ ?_
  simp only [cond_ite, decide_eq_true_eq]
  have e : decide (isCore c) = (decide (0 ≤ c) && decide (c < 64)) := by rw [Bool.eq_iff_iff, Bool.and_eq_true, decide_eq_true_iff, decide_eq_true_iff, decide_eq_true_iff]; exact Iff.rfl
  rw [e]
  split
  · simp_all
  · rw [decide_eq_false (by omega)]; rfl
theorem ref_core_ok (c : Int) : ref18_core.R c = some (decide (isCore c), ()) := by
  refine ref18_core.start _ _ ?_
  simp only [cond_ite, decide_eq_true_eq]
  have e : decide (isCore c) = (decide (0 ≤ c) && decide (c < 64)) := by rw [Bool.eq_iff_iff, Bool.and_eq_true, decide_eq_true_iff, decide_eq_true_iff, decide_eq_true_iff]; exact Iff.rfl
  rw [e]
  split
  · simp_all
  · rw [decide_eq_false (by omega)]; rfl
def ahead (a b : Span) : Prop := a.en ≠ 0 ∧ a.en < b.st
instance (a b : Span) : Decidable (ahead a b) := inferInstanceAs (Decidable (a.en ≠ 0 ∧ a.en < b.st))
theorem ahead_ok (a b : Span) : hist_Ahead.R a.core a.call.kind a.call.a a.call.b a.call.rights a.call.badge a.call.ty a.call.size a.call.value a.st a.en a.rep.code a.rep.value a.rep.badge a.rep.cap b.core b.call.kind b.call.a b.call.b b.call.rights b.call.badge b.call.ty b.call.size b.call.value b.st b.en b.rep.code b.rep.value b.rep.badge b.rep.cap = some (decide (ahead a b), ()) := by
  refine hist_Ahead.start _ _ _ _ _ _ _ _ _ _ _ _ _ _ _ _ _ _ _ _ _ _ _ _ _ _ _ _ _ _ _ ?_
  simp only [cond_ite, bne_iff_ne]
  have e : decide (ahead a b) = (decide (a.en ≠ 0) && decide (a.en < b.st)) := by rw [Bool.eq_iff_iff, Bool.and_eq_true, decide_eq_true_iff, decide_eq_true_iff, decide_eq_true_iff]; exact Iff.rfl
  rw [e]
  split <;> simp_all
/-- The place of the last span of a core ahead of a place; -1: there is none. -/
def down (l : List Span) (c : Int) : Nat → Int
  | 0 => -1
  | n + 1 => if (l[n]?.map Span.core) = some c then (n : Int) else down l c n
theorem down_lt (l : List Span) (c : Int) : ∀ n, down l c n < n := by
  intro n
  induction n with
  | zero => simp [down]
  | succ n ih => unfold down; split <;> omega
theorem down_ge (l : List Span) (c : Int) : ∀ n, -1 ≤ down l c n := by
  intro n
  induction n with
  | zero => simp [down]
  | succ n ih => unfold down; split <;> omega
theorem of_ok (l : List Span) (c : Int) (hl : l.length < 1000000) : hist_of.R (l.map encSpan) c = some (down l c l.length, ()) := by
  refine hist_of.start _ _ _ ?_
  have key : ∀ n : Nat, n ≤ l.length → (0 < n ∨ l.length = 0) → hist_of.H3 (l.map encSpan) c n (down l c n, ()) := by
    intro n
    induction n with
    | zero =>
      intro _ h
      refine hist_of.H3_step _ _ _ _ ?_
      simp only [cond_ite, decide_eq_true_eq, List.length_map, beq_iff_eq]
      rw [if_neg (by omega), if_pos (by omega)]
      rfl
    | succ n ih =>
      intro h _
      refine hist_of.H3_step _ _ _ _ ?_
      rw [show ((n + 1 : Nat) : Int) - 1 = (n : Int) by omega, wrap_id (by omega) (by omega)]
      simp only [cond_ite, decide_eq_true_eq, List.length_map, beq_iff_eq, Int.toNat_natCast, map_get _ _ _ (by omega : n < l.length), optAll_so, s0, needs_iff]
      rw [if_pos (by omega)]
      refine ⟨by omega, ?_⟩
      unfold down
      rw [List.getElem?_eq_getElem (by omega)]
      simp only [Option.map_some, Option.some.injEq]
      split
      · rw [if_neg (by omega)]
      · split
        · have : n = 0 := by omega
          subst this
          rfl
        · exact ih (by omega) (by omega)
  have := key l.length (Nat.le_refl _) (by omega)
  simpa only [List.length_map] using this
theorem last_ok (l : List Span) (c : Int) (n : Nat) (hn : n ≤ l.length) (hl : l.length < 1000000) : ref18_last.R (l.map encSpan) c n = some (down l c n, ()) := by
  refine ref18_last.start _ _ _ _ ?_
  rw [wrap_id (by omega) (by omega)]
  have key : ∀ n : Nat, n ≤ l.length → ref18_last.H3 (l.map encSpan) c ((n : Int) - 1) (down l c n, ()) := by
    intro n
    induction n with
    | zero =>
      intro _
      refine ref18_last.H3_step _ _ _ _ ?_
      simp only [cond_ite, decide_eq_true_eq]
      rw [if_neg (by omega)]
      rfl
    | succ n ih =>
      intro h
      refine ref18_last.H3_step _ _ _ _ ?_
      rw [show ((n + 1 : Nat) : Int) - 1 = (n : Int) by omega]
      simp only [cond_ite, decide_eq_true_eq, List.length_map, beq_iff_eq, Int.toNat_natCast, map_get _ _ _ (by omega : n < l.length), optAll_so, s0, needs_iff]
      rw [if_pos (by omega)]
      refine ⟨by omega, ?_⟩
      unfold down
      rw [List.getElem?_eq_getElem (by omega)]
      simp only [Option.map_some, Option.some.injEq]
      split
      · rfl
      · rw [show IntKind.i64.wrap ((n : Int) - 1) = (n : Int) - 1 from ?_]
        · exact ih (by omega)
        · exact wrap_id (by omega) (by omega)
  exact key n hn
end Hist
end Go.AI
