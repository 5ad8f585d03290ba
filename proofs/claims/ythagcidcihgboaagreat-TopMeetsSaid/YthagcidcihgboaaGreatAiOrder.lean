/-
  Own work. What an operation looks at; which operations come before which.
-/
import Derived.Test.YthagcidcihgboaaGreatAiPlan
import Derived.Orders
namespace Go.AI
open Go
set_option linter.unusedVariables false
set_option linter.unusedSimpArgs false
variable {P : Program} {O : Nat → Prop} {ι ι0 : Inj} {H H0 : Heap} {w w' w0 : World}

theorem eff_congr {F : Fm} {fr : Nat} {ρ ρ' : Operand → AV} (o : Oper) (h : ∀ x ∈ o.op.operands, ρ x = ρ' x) : eff P F ρ H fr o = eff P F ρ' H fr o := by
  obtain ⟨dst, op, type, pos, after, guard⟩ := o
  have pairs : ∀ (t : TypeId) (ps : Array (Nat × Operand)), (∀ x ∈ ps.map (·.2), ρ x = ρ' x) → (ps.toList.map fun q => (q.1, tyFld P t q.1 (ρ q.2))) = (ps.toList.map fun q => (q.1, tyFld P t q.1 (ρ' q.2))) := fun t ps hp =>
    List.map_congr_left fun q hm => by rw [hp q.2 (Array.mem_map.2 ⟨q, by simpa using hm, rfl⟩)]
  have lists : ∀ (ps : Array Operand), (∀ x ∈ ps, ρ x = ρ' x) → ps.toList.map ρ = ps.toList.map ρ' := fun ps hp => List.map_congr_left fun x hm => hp x (by simpa using hm)
  cases op <;> simp only [Op.operands] at h <;> simp only [eff]
  case build t ps => rw [pairs t ps fun x hx => h x (by simpa using hx)]
  case buildSlice t n ps => rw [pairs t ps fun x hx => h x (by simpa using hx)]
  case makeFunc fn first captured =>
    cases fn <;> simp only [eff]
    rw [lists captured fun x hx => h x (by simp [hx]), lists first fun x hx => h x (by simp [hx])]
  case call c =>
    split
    · rename_i b hb
      rw [lists c.args fun x hx => h x (by simp [Call.operands, hx])]
    · rfl
  case slice t x lo hi mx => cases lo <;> cases hi <;> cases mx <;> simp_all
  case makeMap t r => cases r <;> simp_all
  all_goals (first | rfl | (simp_all; done))
theorem footOf_congr {F : Fm} {T T' : Tmps} (o : Oper) (h : ∀ x ∈ o.op.operands, aeval T x = aeval T' x) : footOf F T o = footOf F T' o := by
  obtain ⟨dst, op, type, pos, after, guard⟩ := o
  cases op <;> simp only [Op.operands] at h <;> simp only [footOf]
  case buildSlice t n ps =>
    simp only [List.flatMap]
    congr 1
    exact List.map_congr_left fun q hm => by rw [h q.2 (by simp; exact ⟨q.1, by simpa using hm⟩)]
  case call c =>
    have : (c.operands.toList.flatMap fun x => refs 4 (aeval T x)) = c.operands.toList.flatMap fun x => refs 4 (aeval T' x) := by
      simp only [List.flatMap]
      congr 1
      exact List.map_congr_left fun x hm => by rw [h x (by simpa using hm)]
    rw [this]
  all_goals (first | rfl | (simp_all; done))
theorem refsIn_congr {H H' : Heap} : ∀ (n : Nat) (v : AV), (∀ b ∈ refsIn H n v, H' b = H b) → refsIn H' n v = refsIn H n v
  | 0, v, _ => rfl
  | n + 1, v, h => by
    simp only [refsIn, List.flatMap]
    congr 1
    refine List.map_congr_left fun b hb => ?_
    have hin : ∀ c, c ∈ (b :: (match H b with
      | some (.row _ _ data) => data.flatMap fun r => r.flatMap (refsIn H n)
      | _ => [])) → c ∈ refsIn H (n + 1) v := fun c hc => by
      simp only [refsIn]
      exact List.mem_flatMap.2 ⟨b, hb, hc⟩
    have hbb := h b (hin b (List.mem_cons_self ..))
    simp only [List.flatMap] at hin
    rw [hbb]
    congr 1
    cases hB : H b with
    | none => rfl
    | some B =>
      cases B with
      | mp es => rfl
      | row s ver data =>
        rw [hB] at hin
        dsimp only at hin ⊢
        congr 1
        refine List.map_congr_left fun r hr => ?_
        congr 1
        refine List.map_congr_left fun x hx => ?_
        refine refsIn_congr n x fun c hc => h c (hin c (List.mem_cons_of_mem _ ?_))
        exact List.mem_flatten.2 ⟨_, List.mem_map.2 ⟨r, hr, rfl⟩, List.mem_flatten.2 ⟨_, List.mem_map.2 ⟨x, hx, rfl⟩, hc⟩⟩
theorem footH_congr {F : Fm} {T T' : Tmps} {H H' : Heap} (o : Oper) (h : ∀ x ∈ o.op.operands, aeval T x = aeval T' x) (hm : ∀ b ∈ footH F T' H' o, H b = H' b) : footH F T H o = footH F T' H' o := by
  unfold footH at hm ⊢
  rw [footOf_congr o h]
  congr 1
  obtain ⟨dst, op, type, pos, after, guard⟩ := o
  cases op with
  | call c =>
    have key : (∀ b ∈ c.operands.toList.flatMap (fun x => refsIn H' 4 (aeval T' x)), H b = H' b) → (c.operands.toList.flatMap fun x => refsIn H 4 (aeval T x)) = c.operands.toList.flatMap fun x => refsIn H' 4 (aeval T' x) := fun hk => by
      simp only [List.flatMap]
      congr 1
      refine List.map_congr_left fun x hx => ?_
      rw [h x (by simpa [Op.operands] using hx)]
      exact refsIn_congr 4 _ fun b hb => hk b (List.mem_flatMap.2 ⟨x, hx, hb⟩)
    dsimp only at hm ⊢
    split
    · rfl
    · rename_i hn
      refine key fun b hb => hm b (List.mem_append_right _ ?_)
      split
      · rename_i q hq; exact absurd hq (hn q)
      · exact hb
  | _ => rfl
theorem footH_of {F : Fm} {T : Tmps} {H : Heap} {o : Oper} {b : Nat} (h : b ∈ footOf F T o) : b ∈ footH F T H o := List.mem_append_left _ h
theorem operOut_congr {C : Cfg} {K : Call} {F : Fm} {T T' : Tmps} {fr : Nat} (o : Oper) (h : ∀ x ∈ o.op.operands, aeval T x = aeval T' x) : operOut C K F T H fr o = operOut C K F T' H fr o := by
  unfold operOut
  rw [eff_congr o h]
  split
  · rename_i c hc
    rw [hc] at h
    simp only [Op.operands] at h
    split
    · rename_i fo hfo
      have hv : aeval T fo = aeval T' fo := h fo (by simp [Call.operands, hfo])
      have ha : c.args.toList.map (aeval T) = c.args.toList.map (aeval T') := List.map_congr_left fun x hm => h x (by simp [Call.operands]; right; simpa using hm)
      rw [hv, ha]
    · rfl
  · rfl
/-- The numbers an operation looks at. -/
theorem looks_operand {ops : Array Oper} {o : Oper} {T T' : Tmps} (h : ∀ t ∈ o.looksAt ops, T t = T' t) : ∀ x ∈ o.op.operands, aeval T x = aeval T' x := by
  intro x hx
  cases x with
  | tmp t =>
    exact h t (by
      unfold Oper.looksAt
      exact List.mem_append_left _ (List.mem_filterMap.2 ⟨.tmp t, by simpa using hx, rfl⟩))
  | _ => rfl
theorem wanted_congr {ops : Array Oper} {o : Oper} {T T' : Tmps} (h : ∀ t ∈ o.looksAt ops, T t = T' t) : wantedA ops T o = wantedA ops T' o := by
  unfold wantedA
  cases hg : o.guard with
  | none => rfl
  | some gw =>
    obtain ⟨g, want⟩ := gw
    simp only
    cases ht : (ops[g]?).bind (·.dst) with
    | none => rfl
    | some t =>
      simp only
      rw [h t (by simp [Oper.looksAt, hg, ht])]

/-! ### What must come before -/
def oneB (look : Nat → Nat) (o : Oper) : Nat := o.after.foldl (fun s e => if Region.binds .any e then s ||| 2 ^ e.on ||| look e.on else s) 0
theorem fold_before : ∀ (l : List Oper) (A : Array Nat), (∀ i, i < A.size → (l.foldl (fun acc o => acc.push (oneB (fun i => acc.getD i 0) o)) A)[i]? = A[i]?) ∧
    ∀ j o, l[j]? = some o → ∃ A' : Array Nat, A'.size = A.size + j ∧ (∀ i, i < A'.size → (l.foldl (fun acc o => acc.push (oneB (fun i => acc.getD i 0) o)) A)[i]? = A'[i]?) ∧ (l.foldl (fun acc o => acc.push (oneB (fun i => acc.getD i 0) o)) A)[A.size + j]? = some (oneB (fun i => A'.getD i 0) o)
  | [], A => ⟨fun _ _ => rfl, fun j o h => by simp at h⟩
  | o :: l, A => by
    obtain ⟨h1, h2⟩ := fold_before l (A.push (oneB (fun i => A.getD i 0) o))
    simp only [List.foldl_cons]
    refine ⟨fun i hi => ?_, fun j o' ho => ?_⟩
    · rw [h1 i (by simp; omega), Array.getElem?_push, if_neg (by omega)]
    · cases j with
      | zero =>
        simp at ho; subst ho
        refine ⟨A, rfl, fun i hi => ?_, ?_⟩
        · rw [h1 i (by simp; omega), Array.getElem?_push, if_neg (by omega)]
        · rw [Nat.add_zero, h1 _ (by simp)]
          simp
      | succ j =>
        obtain ⟨A', g1, g2, g3⟩ := h2 j o' (by simpa using ho)
        refine ⟨A', by rw [g1]; simp; omega, g2, ?_⟩
        rw [show A.size + (j + 1) = (A.push (oneB (fun i => A.getD i 0) o)).size + j from by simp; omega]
        exact g3
theorem fold_bits {look : Nat → Nat} {p : Nat} : ∀ (l : List Edge) (s : Nat), (l.foldl (fun s e => if Region.binds .any e then s ||| 2 ^ e.on ||| look e.on else s) s).testBit p = true →
    s.testBit p = true ∨ ∃ e ∈ l, Region.binds .any e = true ∧ (e.on = p ∨ (look e.on).testBit p = true)
  | [], s, h => .inl h
  | e :: l, s, h => by
    simp only [List.foldl_cons] at h
    rcases fold_bits l _ h with h | ⟨e', h1, h2⟩
    · split at h
      · rename_i hb
        rw [Nat.testBit_or, Nat.testBit_or] at h
        simp only [Bool.or_eq_true] at h
        rcases h with (h | h) | h
        · exact .inl h
        · rw [Nat.testBit_two_pow] at h
          exact .inr ⟨e, List.mem_cons_self .., hb, .inl (by simpa using h)⟩
        · exact .inr ⟨e, List.mem_cons_self .., hb, .inr h⟩
      · exact .inl h
    · exact .inr ⟨e', List.mem_cons_of_mem _ h1, h2⟩
theorem before_bit {ops : Array Oper} {j p : Nat} (h : ((Region.before ops).getD j 0).testBit p = true) : ∃ o e, ops[j]? = some o ∧ e ∈ o.after.toList ∧ Region.binds .any e = true ∧ (e.on = p ∨ ((Region.before ops).getD e.on 0).testBit p = true) := by
  have hB : Region.before ops = ops.toList.foldl (fun acc o => acc.push (oneB (fun i => acc.getD i 0) o)) #[] := by
    unfold Region.before
    rw [← Array.foldl_toList]
    rfl
  obtain ⟨_, h2⟩ := fold_before ops.toList #[]
  rw [← hB] at h2
  cases ho : ops.toList[j]? with
  | none =>
    have hsz : (Region.before ops).size = ops.size := by
      rw [hB]
      have key : ∀ (l : List Oper) (A : Array Nat), (l.foldl (fun acc o => acc.push (oneB (fun i => acc.getD i 0) o)) A).size = A.size + l.length := by
        intro l
        induction l with
        | nil => intro A; simp
        | cons o l ih => intro A; rw [List.foldl_cons, ih, List.length_cons, Array.size_push]; omega
      rw [key]; simp
    have : ops.size ≤ j := by simpa using ho
    rw [Array.getD_eq_getD_getElem?, Array.getElem?_eq_none (by omega)] at h
    simp at h
  | some o =>
    obtain ⟨A', g1, g2, g3⟩ := h2 j o ho
    simp only [Array.size_empty, Nat.zero_add] at g1 g3
    rw [Array.getD_eq_getD_getElem?, g3] at h
    simp only [Option.getD_some, oneB] at h
    rw [← Array.foldl_toList] at h
    rcases fold_bits (look := fun i => A'.getD i 0) _ _ h with h | ⟨e, e1, e2, e3⟩
    · simp at h
    · refine ⟨o, e, by simpa using ho, e1, e2, e3.imp id fun h => ?_⟩
      by_cases hlt : e.on < A'.size
      · rw [Array.getD_eq_getD_getElem?, g2 _ hlt, ← Array.getD_eq_getD_getElem?]
        exact h
      · rw [Array.getD_eq_getD_getElem?, Array.getElem?_eq_none (by omega)] at h
        simp at h

/-- A region that draws its order, sound: checked once for each program. -/
def okDraw (ops : Array Oper) : Bool :=
  (ops.toList.zipIdx.all fun (o, j) => o.after.toList.all fun e => !Region.binds .any e || decide (e.on < j)) &&
  ((List.range ops.size).all fun j => match ops[j]? with
    | some oj => (List.range j).all fun i => match ops[i]? with
      | some oi => ((Region.before ops).getD j 0).testBit i || oi.apart ops oj
      | none => true
    | none => true) &&
  (ops.all fun o => match o.op with | .select .. => false | _ => true)
theorem okDraw_edge {ops : Array Oper} (h : okDraw ops = true) {j : Nat} {o : Oper} (ho : ops[j]? = some o) {e : Edge} (he : e ∈ o.after.toList) (hb : Region.binds .any e = true) : e.on < j := by
  unfold okDraw at h
  simp only [Bool.and_eq_true] at h
  have := List.all_eq_true.1 h.1.1 (o, j) (by
    rw [List.mem_iff_getElem?]
    exact ⟨j, by rw [List.getElem?_zipIdx]; simp [ho]⟩)
  have := List.all_eq_true.1 this e he
  simpa [hb] using this
theorem okDraw_pair {ops : Array Oper} (h : okDraw ops = true) {i j : Nat} {oi oj : Oper} (hi : ops[i]? = some oi) (hj : ops[j]? = some oj) (hij : i < j) : ((Region.before ops).getD j 0).testBit i = true ∨ oi.apart ops oj = true := by
  unfold okDraw at h
  simp only [Bool.and_eq_true] at h
  have hjs : j < ops.size := (Array.getElem?_eq_some_iff.1 hj).1
  have := List.all_eq_true.1 h.1.2 j (List.mem_range.2 hjs)
  rw [hj] at this
  simp only at this
  have := List.all_eq_true.1 this i (List.mem_range.2 hij)
  rw [hi] at this
  simpa using this
/-- What comes before comes earlier in the text, and stands where what comes after stands. -/
theorem before_lt {ops : Array Oper} (h : okDraw ops = true) : ∀ (j p : Nat), ((Region.before ops).getD j 0).testBit p = true → p < j := by
  intro j
  induction j using Nat.strongRecOn with
  | _ j ih =>
    intro p hp
    obtain ⟨o, e, h1, h2, h3, h4⟩ := before_bit hp
    have hlt := okDraw_edge h h1 h2 h3
    rcases h4 with h4 | h4
    · omega
    · have := ih e.on hlt p h4; omega
def Closed (ops : Array Oper) (L : Nat → Bool) : Prop := ∀ j o, ops[j]? = some o → L j = true → ∀ e ∈ o.after.toList, Region.binds .any e = true → L e.on = true
theorem closed_bit {ops : Array Oper} (h : okDraw ops = true) {L : Nat → Bool} (hL : Closed ops L) : ∀ (j p : Nat), (L j = true ∨ ∀ o, ops[j]? = some o → ∀ e ∈ o.after.toList, Region.binds .any e = true → L e.on = true) → ((Region.before ops).getD j 0).testBit p = true → L p = true := by
  intro j
  induction j using Nat.strongRecOn with
  | _ j ih =>
    intro p hj hp
    obtain ⟨o, e, h1, h2, h3, h4⟩ := before_bit hp
    have hlt := okDraw_edge h h1 h2 h3
    have he : L e.on = true := by
      rcases hj with hj | hj
      · exact hL j o h1 hj e h2 h3
      · exact hj o h1 e h2 h3
    rcases h4 with h4 | h4
    · rw [← h4]; exact he
    · exact ih e.on hlt p (.inl he) h4
end Go.AI
