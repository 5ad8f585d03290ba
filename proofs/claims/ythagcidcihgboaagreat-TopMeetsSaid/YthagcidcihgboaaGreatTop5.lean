/-
  Own work. The law's memory with the kernel's blocks laid into it; calls of Run and rounds out of the law's frame.
-/
import Derived.Test.YthagcidcihgboaaGreatTopS
namespace Go.AI
open Go
set_option linter.unusedVariables false
set_option linter.unusedSimpArgs false
namespace Top
/-- The kernel's blocks laid into memory. -/
noncomputable def putAll (h : Tr ABlk) : List Nat → St → Tr ABlk
  | b :: F, x :: l => (putAll h F l).put b x
  | _, _ => h
theorem putAll_at (h : Tr ABlk) : ∀ (F : List Nat) (s : St) (x : Nat), F.length = s.length → hp (putAll h F s) x = if F.contains x = true then hp (trOf F s) x else hp h x
  | [], s, x, _ => by simp [putAll]
  | b :: F, [], x, hl => by simp at hl
  | b :: F, y :: s, x, hl => by
    show ((putAll h F s).put b y).get x = if (b :: F).contains x = true then ((trOf F s).put b y).get x else hp h x
    rw [Tr.get_put, Tr.get_put]
    by_cases e : x = b
    · subst e; simp
    · rw [if_neg e, if_neg e]
      have := putAll_at h F s x (by simpa using hl)
      show hp (putAll h F s) x = _
      rw [this]
      simp [e]
      rfl
theorem heap_is {h : Tr ABlk} {FK : List Nat} {s : St} {H : Heap} (hl : FK.length = s.length) (hA : Agr FK s H) (ho : ∀ x, FK.contains x = false → H x = hp h x) : H = hp (putAll h FK s) := by
  funext x
  rw [putAll_at h FK s x hl]
  cases hc : FK.contains x with
  | true => rw [if_pos rfl]; exact hA x hc
  | false => rw [if_neg Bool.false_ne_true]; exact ho x hc
/-- Memory out of a list. -/
noncomputable def ofL : List (Nat × ABlk) → Tr ABlk
  | [] => .lf
  | (b, x) :: r => (ofL r).put b (some x)
noncomputable def ofT : List (Nat × AV) → Tr AV
  | [] => .lf
  | (b, x) :: r => (ofT r).put b (some x)
theorem ofL_mem : ∀ (l : List (Nat × ABlk)) (x : Nat) (X : ABlk), hp (ofL l) x = some X → (x, X) ∈ l
  | [], x, X, h => by simp [ofL, hp, Tr.get_lf] at h
  | (b, Y) :: r, x, X, h => by
    have h : ((ofL r).put b (some Y)).get x = some X := h
    rw [Tr.get_put] at h
    by_cases e : x = b
    · subst e
      rw [if_pos rfl] at h
      cases h
      exact List.mem_cons_self ..
    · rw [if_neg e] at h
      exact List.mem_cons_of_mem _ (ofL_mem r x X h)
def flatL (lo : Nat) (l : List (Nat × ABlk)) : Bool := l.all fun x => Nat.blt x.1 lo && flatO lo (some x.2)
theorem flatL_H {lo : Nat} {l : List (Nat × ABlk)} (h : flatL lo l = true) : FlatH lo (hp (ofL l)) := fun b X hb => by
  have := List.all_eq_true.1 h (b, X) (ofL_mem l b X hb)
  simp only [Bool.and_eq_true] at this
  refine ⟨?_, this.2⟩
  have h1 := this.1
  simp [Nat.blt] at h1
  omega
theorem agr_of {FK : List Nat} {s : St} {h : Tr ABlk} (e : FK.map (hp h) = s) : Agr FK s (hp h) := fun x hx => by
  rw [← e, trOf_map, if_pos hx]
section
variable {F : Fm} {k : List AItem} {T : Tmps} {H : Heap} {nx : Nat} {Q : Tmps → Heap → Nat → Prop}
theorem mode_run : cfg.mode 13 = .inl := by kernel_rfl
theorem mode_rounds : cfg.mode 14 = .inl := by kernel_rfl
theorem typed_run (b v i o : Nat) (rows : List (List DV)) : typedFor cfg.P 13 [.ptr b v i o, .d (.lst 1 rows)] = [.ptr b v i o, .d (.lst 1 rows)] := by kernel_rfl
theorem typed_rounds (b v i o : Nat) (n : Int) : typedFor cfg.P 14 [.ptr b v i o, I n] = [.ptr b v i o, I n] := by kernel_rfl
/-- A call in the caller's memory. -/
theorem o_inl {o : Oper} {f : FuncId} {c : Go.Call} {args : List AV} {x : AV} {H' : Heap} {nx' : Nat} (ho : o.op = .call c) (hc : c.callee = .value (.func f)) (hf : f < bnd) (hm : cfg.mode f = .inl) (ha : c.args.toList.map (aeval T) = args) (ht : typedFor cfg.P f args = args) (he : callω cfg f args H nx = some (x, H', nx')) : operOut cfg (callω cfg) F T H nx o = some (.run x H' nx') := by
  have hv : aeval T (.func f) = .fn f [] := by
    show (if f < bnd then AV.fn f [] else AV.dead) = _
    rw [if_pos hf]
  unfold operOut
  rw [ho]
  dsimp only
  rw [hc]
  dsimp only
  rw [hv]
  dsimp only
  rw [if_pos hf, ha, ht, List.append_nil]
  unfold callOut
  rw [hm]
  dsimp only
  rw [he]
/-- A call by value of a function without arguments. -/
theorem o_val0 {o : Oper} {f : FuncId} {c : Go.Call} {b : Bool} (ho : o.op = .call c) (hc : c.callee = .value (.func f)) (hf : f < bnd) (hm : cfg.mode f = .pure) (ha : c.args.toList = []) (ht : typedFor cfg.P f [] = []) (he : valω cfg f [] = some (B b)) : operOut cfg (callω cfg) F T H nx o = some (.eff ⟨B b, []⟩) := by
  have hv : aeval T (.func f) = .fn f [] := by
    show (if f < bnd then AV.fn f [] else AV.dead) = _
    rw [if_pos hf]
  unfold operOut
  rw [ho]
  dsimp only
  rw [hc]
  dsimp only
  rw [hv]
  dsimp only
  rw [if_pos hf, ha, List.map_nil, ht, List.append_nil]
  unfold callOut
  rw [hm]
  dsimp only
  have : pureCall (byValue (callω cfg)) f [] H = some (B b, []) := by
    unfold pureCall
    have he' : byValue (callω cfg) f [] = some (B b) := he
    simp only [Go.AI.mapO, he']
    rfl
  rw [this]
end
end Top
end Go.AI
