/-
  Own work. Words for proofs about what functions answer: numbers, rows, lists of one kind.
-/
import Derived.Test.YtljhobohpnpedaaAiRead
namespace Go.AI
open Go
set_option linter.unusedVariables false
set_option linter.unusedSimpArgs false

theorem cond_ite (c : Bool) (A B : Prop) : cond c A B ↔ if c = true then A else B := by cases c <;> simp
theorem cond_iteB (c : Bool) (A B : Bool) : cond c A B = if c = true then A else B := by cases c <;> simp
theorem optAll_iff {α : Type} {o : Option α} {Q : α → Prop} : optAll o Q ↔ ∃ a, o = some a ∧ Q a := by
  cases o with
  | none => exact ⟨fun h => h.elim, fun ⟨a, h, _⟩ => by cases h⟩
  | some a => exact ⟨fun h => ⟨a, rfl, h⟩, fun ⟨b, h, hq⟩ => by cases h; exact hq⟩
theorem optAll_so {α : Type} {a : α} {Q : α → Prop} : optAll (some a) Q ↔ Q a := Iff.rfl
theorem wrap_eq (n : Int) : IntKind.i64.wrap n = if 9223372036854775808 ≤ n % 18446744073709551616 then n % 18446744073709551616 - 18446744073709551616 else n % 18446744073709551616 := by
  simp [IntKind.wrap, IntKind.bits, IntKind.signed]
theorem wrap_id {n : Int} (h0 : -9223372036854775808 ≤ n) (h1 : n < 9223372036854775808) : IntKind.i64.wrap n = n := by
  rw [wrap_eq]
  split <;> omega
theorem wrap_range (n : Int) : -9223372036854775808 ≤ IntKind.i64.wrap n ∧ IntKind.i64.wrap n < 9223372036854775808 := by
  rw [wrap_eq]
  split <;> omega
theorem wrap_succ {i : Nat} (h : i < 4611686018427387904) : IntKind.i64.wrap ((i : Int) + 1) = ((i + 1 : Nat) : Int) := by
  rw [wrap_id (by omega) (by omega)]; omega
theorem i64_range {n : Int} (h : (Lit.int .i64 n).wf = true) : -9223372036854775808 ≤ n ∧ n < 9223372036854775808 := by
  simp [Lit.wf, IntKind.min, IntKind.max, IntKind.bits, IntKind.signed] at h
  omega
/-- A number's row. -/
def ei (n : Int) : List DV := [.v (.int .i64 n)]
theorem map_get {α β : Type} (f : α → β) (l : List α) (i : Nat) (h : i < l.length) : (l.map f)[i]? = some (f l[i]) := by simp [h]
theorem map_get_none {α β : Type} (f : α → β) (l : List α) (i : Nat) (h : l.length ≤ i) : (l.map f)[i]? = none := by simp [h]

/-! ### Arguments of laws -/
theorem okR_nil {xs : List DV} (h : okR [] xs) : xs = [] := by cases xs with | nil => rfl | cons x r => simp [okR] at h
theorem okR_cons {k : TK} {ks : List TK} {xs : List DV} (h : okR (k :: ks) xs) : ∃ x r, xs = x :: r ∧ okC k x ∧ okR ks r := by
  cases xs with
  | nil => simp [okR] at h
  | cons x r => simp only [okR] at h; exact ⟨x, r, rfl, h.1, h.2⟩
theorem okC_int {k : IntKind} {x : DV} (h : okC (.int k) x) : ∃ n, x = .v (.int k n) ∧ (Lit.int k n).wf = true := by
  cases x with
  | v y =>
    cases y with
    | int k' n => simp only [okC] at h; obtain ⟨rfl, h⟩ := h; exact ⟨n, rfl, h⟩
    | _ => simp [okC] at h
  | _ => simp [okC] at h
theorem okC_bool {x : DV} (h : okC .bool x) : ∃ b, x = .v (.bool b) := by
  cases x with
  | v y =>
    cases y with
    | bool b => exact ⟨b, rfl⟩
    | _ => simp [okC] at h
  | _ => simp [okC] at h
theorem okC_lst {ks : List TK} {x : DV} (h : okC (.lst ks) x) : ∃ rows, x = .lst ks.length rows ∧ ∀ r ∈ rows, okR ks r := by
  cases x with
  | lst s rows => simp only [okC] at h; obtain ⟨rfl, h⟩ := h; exact ⟨rows, rfl, h⟩
  | _ => simp [okC] at h
theorem rows_typed {α : Type} (enc : α → List DV) (Q : α → Prop) : ∀ {rows : List (List DV)}, (∀ r ∈ rows, ∃ a, r = enc a ∧ Q a) → ∃ l : List α, rows = l.map enc ∧ ∀ a ∈ l, Q a
  | [], _ => ⟨[], rfl, by simp⟩
  | r :: rows, h => by
    obtain ⟨a, h1, h2⟩ := h r (List.mem_cons_self ..)
    obtain ⟨l, h3, h4⟩ := rows_typed enc Q (rows := rows) fun r' hr' => h r' (List.mem_cons_of_mem _ hr')
    exact ⟨a :: l, by rw [h1, h3]; rfl, fun b hb => by
      rcases List.mem_cons.1 hb with rfl | hb
      · exact h2
      · exact h4 b hb⟩
theorem ints_typed {rows : List (List DV)} (h : ∀ r ∈ rows, okR [.int .i64] r) : ∃ l : List Int, rows = l.map ei ∧ ∀ n ∈ l, (Lit.int .i64 n).wf = true := by
  refine rows_typed ei _ fun r hr => ?_
  obtain ⟨x, r', rfl, hx, hr'⟩ := okR_cons (h r hr)
  obtain rfl := okR_nil hr'
  obtain ⟨n, rfl, hn⟩ := okC_int hx
  exact ⟨n, rfl, hn⟩
theorem argsOK_nil {P : Program} {as : List AV} (h : ArgsOK P [] as) : as = [] := by cases as with | nil => rfl | cons a r => simp [ArgsOK] at h
theorem argsOK_cons {P : Program} {t : TypeId} {ts : List TypeId} {as : List AV} (h : ArgsOK P (t :: ts) as) : ∃ a r, as = a :: r ∧ ArgOK P t a ∧ ArgsOK P ts r := by
  cases as with
  | nil => simp [ArgsOK] at h
  | cons a r => simp only [ArgsOK] at h; exact ⟨a, r, rfl, h.1, h.2⟩
def isStructT (P : Program) (t : TypeId) : Bool := match P.underlying t with
  | some (.struct _) => true
  | _ => false
theorem arg_one {P : Program} {t : TypeId} {k : TK} {a : AV} (h : ArgOK P t a) (hk : tkT P 9 t = some [k]) (hs : isStructT P t = false) : ∃ x, a = .d x ∧ okC k x := by
  obtain ⟨ks, h1, h2⟩ := h
  rw [hk] at h1
  simp only [Option.some.injEq] at h1
  subst h1
  unfold isStructT at hs
  split at h2
  · rename_i fs hfs; rw [hfs] at hs; simp at hs
  · obtain ⟨k', x, h3, h4, h5⟩ := h2
    simp only [List.cons.injEq, and_true] at h3
    subst h3
    exact ⟨x, h5, h4⟩
theorem arg_struct {P : Program} {t : TypeId} {ks : List TK} {a : AV} (h : ArgOK P t a) (hk : tkT P 9 t = some ks) (hs : isStructT P t = true) : ∃ xs, a = .agg (xs.map .d) ∧ okR ks xs := by
  obtain ⟨ks', h1, h2⟩ := h
  rw [hk] at h1
  simp only [Option.some.injEq] at h1
  subst h1
  unfold isStructT at hs
  split at h2
  · obtain ⟨xs, h3, h4⟩ := h2
    exact ⟨xs, h4, h3⟩
  · rename_i hfs
    split at hs
    · rename_i fs hfs'; exact absurd hfs' (hfs fs)
    · cases hs
end Go.AI
