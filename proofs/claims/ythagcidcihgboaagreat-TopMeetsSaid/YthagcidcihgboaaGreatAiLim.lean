/-
  Own work. The value interpreter without fuel: 'callω', 'Runs'; rules for what a function answers.
-/
import Derived.Test.YthagcidcihgboaaGreatAiRun
namespace Go.AI
open Go
set_option linter.unusedVariables false
set_option linter.unusedSimpArgs false

def KLe (K K' : Call) : Prop := ∀ f args H nx r, K f args H nx = some r → K' f args H nx = some r
/-- A question to a way of calling, and its answer. -/
structure Ask where
  f : FuncId
  args : List AV
  H : Heap
  nx : Nat
  r : AV × Heap × Nat
def Told (K : Call) (q : Ask) : Prop := K q.f q.args q.H q.nx = some q.r
/-- What is found out by finitely many questions. -/
def Uses {α : Type} (g : Call → Option α) : Prop := ∀ K r, g K = some r → ∃ qs : List Ask, (∀ q ∈ qs, Told K q) ∧ ∀ K', (∀ q ∈ qs, Told K' q) → g K' = some r
theorem Uses.le {α : Type} {g : Call → Option α} (h : Uses g) {K K' : Call} (hk : KLe K K') {r : α} (hr : g K = some r) : g K' = some r := by
  obtain ⟨qs, h1, h2⟩ := h K r hr
  exact h2 K' fun q hq => hk _ _ _ _ _ (h1 q hq)
theorem value_uses (f : FuncId) (args : List AV) : Uses fun K => byValue K f args := by
  intro K r h
  replace h : byValue K f args = some r := h
  unfold byValue at h
  split at h
  · rename_i v Hc nx hk
    refine ⟨[⟨f, args, noHeap, 0, (v, Hc, nx)⟩], by simpa [Told] using hk, fun K' hq => ?_⟩
    have hk' : K' f args noHeap 0 = some (v, Hc, nx) := hq _ (List.mem_singleton_self _)
    show byValue K' f args = some r
    unfold byValue
    rw [hk']; exact h
  · cases h
theorem pure_uses (f : FuncId) (args : List AV) (H : Heap) : Uses fun K => pureCall (byValue K) f args H := by
  intro K r h
  replace h : pureCall (byValue K) f args H = some r := h
  unfold pureCall at h
  cases hs : mapO (snap (args.flatMap (refsIn H 4)).contains H 4) args with
  | none => simp [hs] at h
  | some as =>
    simp only [hs] at h
    cases hv : byValue K f as with
    | none => simp [hv] at h
    | some v =>
      obtain ⟨qs, h1, h2⟩ := value_uses f as K v hv
      refine ⟨qs, h1, fun K' hq => ?_⟩
      have := h2 K' hq
      show pureCall (byValue K') f args H = some r
      unfold pureCall
      simp only [hs]
      rw [show byValue K' f as = some v from this]
      simpa [hv] using h
theorem cell_uses (f : FuncId) (args : List AV) (H : Heap) : Uses fun K => cellCall K f args H := by
  intro K r h
  replace h : cellCall K f args H = some r := h
  unfold cellCall at h
  split at h
  · rename_i b ver i o r'
    cases hb : H b with
    | none => simp [hb] at h
    | some B =>
      cases B with
      | mp es => simp [hb] at h
      | row s ver' data =>
        cases hs : mapO (snap (fun _ => false) H 4) r' with
        | none => simp [hb, hs] at h
        | some as =>
          simp only [hb, hs] at h
          by_cases hv : ver = ver'
          · rw [if_pos hv] at h
            cases hi : data[i]? with
            | none => simp [hi] at h
            | some cs =>
              simp only [hi] at h
              cases ho : cs[o]? with
              | none => simp [ho] at h
              | some x =>
                cases x with
                | d x =>
                  simp only [ho] at h
                  cases hk : K f (.ptr 0 0 0 0 :: as) (hset noHeap 0 (some (.row 1 0 [[.d x]]))) wide with
                  | none => simp [hk] at h
                  | some z =>
                    refine ⟨[⟨f, .ptr 0 0 0 0 :: as, hset noHeap 0 (some (.row 1 0 [[.d x]])), wide, z⟩], by simpa [Told] using hk, fun K' hq => ?_⟩
                    have hk' : K' f (.ptr 0 0 0 0 :: as) (hset noHeap 0 (some (.row 1 0 [[.d x]]))) wide = some z := hq _ (List.mem_singleton_self _)
                    show cellCall K' f (.ptr b ver i o :: r') H = some r
                    unfold cellCall
                    simp only [hb, hs]
                    rw [if_pos hv]
                    simp only [hi, ho]
                    rw [hk'] 
                    rw [hk] at h
                    exact h
                | _ => simp [ho] at h
          · rw [if_neg hv] at h; cases h
  · cases h
theorem own_uses (f : FuncId) (args : List AV) (H : Heap) : Uses fun K => ownCall K f args H := by
  intro K r h
  replace h : ownCall K f args H = some r := h
  unfold ownCall at h
  split at h
  · rename_i x g b ver ha
    split at h
    · rename_i x' s ver' data hx hb
      split at h
      · rename_i hv
        cases hk : K f [x', .fn g [.ptr 0 0 0 0]] (hset noHeap 0 (some (.row s 0 data))) wide with
        | none => simp [hk] at h
        | some z =>
          refine ⟨[⟨f, [x', .fn g [.ptr 0 0 0 0]], hset noHeap 0 (some (.row s 0 data)), wide, z⟩], by simpa [Told] using hk, fun K' hq => ?_⟩
          have hk' : K' f [x', .fn g [.ptr 0 0 0 0]] (hset noHeap 0 (some (.row s 0 data))) wide = some z := hq _ (List.mem_singleton_self _)
          show ownCall K' f args H = some r
          unfold ownCall
          simp only [ha, hx, hb]
          rw [if_pos hv, hk']
          rw [hk] at h
          exact h
      · cases h
    · cases h
  · cases h
theorem lend_uses (f : FuncId) (args : List AV) (H : Heap) : Uses fun K => lendCall K f args H := by
  intro K r h
  replace h : lendCall K f args H = some r := h
  unfold lendCall at h
  split at h
  · rename_i x g b ver ha
    split at h
    · rename_i x' s ver' data hx hb
      split at h
      · rename_i hv
        cases hk : K f [x', .fn g [.ptr 0 0 0 0]] (hset noHeap 0 (some (.row s 0 data))) wide with
        | none => simp [hk] at h
        | some z =>
          refine ⟨[⟨f, [x', .fn g [.ptr 0 0 0 0]], hset noHeap 0 (some (.row s 0 data)), wide, z⟩], by simpa [Told] using hk, fun K' hq => ?_⟩
          have hk' : K' f [x', .fn g [.ptr 0 0 0 0]] (hset noHeap 0 (some (.row s 0 data))) wide = some z := hq _ (List.mem_singleton_self _)
          show lendCall K' f args H = some r
          unfold lendCall
          simp only [ha, hx, hb]
          rw [if_pos hv, hk']
          rw [hk] at h
          exact h
      · cases h
    · cases h
  · cases h
theorem fresh_uses (f : FuncId) (args : List AV) (H : Heap) (fr : Nat) : Uses fun K => freshCall K f args H fr := by
  intro K r h
  replace h : freshCall K f args H fr = some r := h
  unfold freshCall at h
  split at h
  · rename_i as hs
    cases hk : K f as noHeap 0 with
    | none => simp [hk] at h
    | some z =>
      refine ⟨[⟨f, as, noHeap, 0, z⟩], by simpa [Told] using hk, fun K' hq => ?_⟩
      have hk' : K' f as noHeap 0 = some z := hq _ (List.mem_singleton_self _)
      show freshCall K' f args H fr = some r
      unfold freshCall
      simp only [hs]
      rw [hk']
      rw [hk] at h
      exact h
  · cases h
theorem box_uses (f : FuncId) (args : List AV) (H : Heap) (fr : Nat) : Uses fun K => boxCall K f args H fr := by
  intro K r h
  replace h : boxCall K f args H fr = some r := h
  unfold boxCall at h
  split at h
  · rename_i ho
    cases hk : K f args (restr H (args.flatMap (refsIn H 4))) (boxTop (args.flatMap (refsIn H 4))) with
    | none => simp [hk] at h
    | some z =>
      refine ⟨[⟨f, args, _, _, z⟩], by simpa [Told] using hk, fun K' hq => ?_⟩
      have hk' : K' f args (restr H (args.flatMap (refsIn H 4))) (boxTop (args.flatMap (refsIn H 4))) = some z := hq _ (List.mem_singleton_self _)
      show boxCall K' f args H fr = some r
      unfold boxCall
      rw [if_pos ho, hk']
      rw [hk] at h
      exact h
  · cases h
theorem call_uses (f : FuncId) (args : List AV) (H : Heap) (nx : Nat) : Uses fun K => K f args H nx := by
  intro K r h
  refine ⟨[⟨f, args, H, nx, r⟩], by simpa [Told] using h, fun K' hq => hq _ (List.mem_singleton_self _)⟩
theorem const_uses {α : Type} (x : Option α) : Uses fun _ => x := fun _ _ h => ⟨[], by simp, fun _ _ => h⟩
theorem Uses.bind {α β : Type} {g : Call → Option α} (hg : Uses g) {h : α → Call → Option β} (hh : ∀ a, Uses (h a)) {m : Call → Option β} (hm : ∀ K, m K = match g K with | some a => h a K | none => none) : Uses m := by
  intro K r hr
  rw [hm] at hr
  cases hk : g K with
  | none => simp [hk] at hr
  | some a =>
    simp only [hk] at hr
    obtain ⟨q1, a1, a2⟩ := hg K a hk
    obtain ⟨q2, b1, b2⟩ := hh a K r hr
    refine ⟨q1 ++ q2, fun q hq => (List.mem_append.1 hq).elim (a1 q) (b1 q), fun K' hq => ?_⟩
    rw [hm, a2 K' fun q h => hq q (List.mem_append_left _ h)]
    exact b2 K' fun q h => hq q (List.mem_append_right _ h)
theorem callOut_uses (C : Cfg) (f : FuncId) (args : List AV) (H : Heap) (fr : Nat) : Uses fun K => callOut C K f args H fr := by
  cases hm : C.mode f with
  | pure =>
    refine (pure_uses f args H).bind (h := fun a _ => match a with | (r, []) => some (.eff ⟨r, []⟩) | (r, p) => some (.frz r p)) (fun a => const_uses _) fun K => ?_
    unfold callOut
    simp only [hm]
    cases pureCall (byValue K) f args H with
    | none => rfl
    | some a =>
      obtain ⟨r, p⟩ := a
      cases p <;> rfl
  | inl =>
    refine (call_uses f args H fr).bind (h := fun a _ => some (.run a.1 a.2.1 a.2.2)) (fun a => const_uses _) fun K => ?_
    unfold callOut
    simp only [hm]
    cases K f args H fr with
    | none => rfl
    | some a => rfl
  | cell =>
    refine (cell_uses f args H).bind (h := fun a _ => some (.eff a)) (fun a => const_uses _) fun K => ?_
    unfold callOut
    simp only [hm]
    cases cellCall K f args H with
    | none => rfl
    | some a => rfl
  | own =>
    refine (own_uses f args H).bind (h := fun a _ => some (.eff a)) (fun a => const_uses _) fun K => ?_
    unfold callOut
    simp only [hm]
    cases ownCall K f args H with
    | none => rfl
    | some a => rfl
  | lend =>
    refine (lend_uses f args H).bind (h := fun a _ => some (.eff a)) (fun a => const_uses _) fun K => ?_
    unfold callOut
    simp only [hm]
    cases lendCall K f args H with
    | none => rfl
    | some a => rfl
  | fresh =>
    refine (fresh_uses f args H fr).bind (h := fun a _ => some (.eff a)) (fun a => const_uses _) fun K => ?_
    unfold callOut
    simp only [hm]
    cases freshCall K f args H fr with
    | none => rfl
    | some a => rfl
  | box =>
    refine (box_uses f args H fr).bind (h := fun a _ => some (.eff a)) (fun a => const_uses _) fun K => ?_
    unfold callOut
    simp only [hm]
    cases boxCall K f args H fr with
    | none => rfl
    | some a => rfl
  | clone t =>
    have : (fun K => callOut C K f args H fr) = fun _ => callOut C (fun _ _ _ _ => none) f args H fr := by funext K; unfold callOut; simp only [hm]
    rw [this]; exact const_uses _
  | sort ct =>
    have : (fun K => callOut C K f args H fr) = fun _ => callOut C (fun _ _ _ _ => none) f args H fr := by funext K; unfold callOut; simp only [hm]
    rw [this]; exact const_uses _
  | prim =>
    have : (fun K => callOut C K f args H fr) = fun _ => callOut C (fun _ _ _ _ => none) f args H fr := by funext K; unfold callOut; simp only [hm]
    rw [this]; exact const_uses _
theorem operOut_uses (C : Cfg) (F : Fm) (T : Tmps) (H : Heap) (fr : Nat) (o : Oper) : Uses fun K => operOut C K F T H fr o := by
  have noCall : (∀ K, operOut C K F T H fr o = match eff C.P F (aeval T) H fr o with | some e => some (.eff e) | none => none) → Uses fun K => operOut C K F T H fr o := by
    intro h
    have : (fun K => operOut C K F T H fr o) = fun _ => match eff C.P F (aeval T) H fr o with | some e => some (.eff e) | none => none := funext h
    rw [this]; exact const_uses _
  cases hop : o.op with
  | call c =>
    cases hc : c.callee with
    | value fo =>
      have h1 : ∀ (f : FuncId) (args : List AV), (∀ K, operOut C K F T H fr o = callOut C K f args H fr) → Uses fun K => operOut C K F T H fr o := by
        intro f args h
        have : (fun K => operOut C K F T H fr o) = fun K => callOut C K f args H fr := funext h
        rw [this]; exact callOut_uses C f args H fr
      have h2 : (∀ K, operOut C K F T H fr o = none) → Uses fun K => operOut C K F T H fr o := by
        intro h
        have : (fun K => operOut C K F T H fr o) = fun _ => none := funext h
        rw [this]; exact const_uses _
      cases hf : aeval T fo with
      | fn f caps =>
        by_cases hlt : f < bnd
        · exact h1 f _ fun K => by unfold operOut; simp only [hop, hc, hf, if_pos hlt]; rfl
        · cases hem : c.args.isEmpty with
          | true => exact h1 (f - bnd) caps fun K => by unfold operOut; simp only [hop, hc, hf, if_neg hlt, hem, if_true]
          | false => exact h2 fun K => by unfold operOut; simp only [hop, hc, hf, if_neg hlt, hem, Bool.false_eq_true, if_false]
      | d x =>
        cases x with
        | fn f caps =>
          by_cases hlt : f < bnd
          · exact h1 f _ fun K => by unfold operOut; simp only [hop, hc, hf, if_pos hlt]; rfl
          · exact h2 fun K => by unfold operOut; simp only [hop, hc, hf, if_neg hlt]
        | _ => exact h2 fun K => by unfold operOut; simp only [hop, hc, hf]
      | _ => exact h2 fun K => by unfold operOut; simp only [hop, hc, hf]
    | _ => exact noCall fun K => by unfold operOut; simp only [hop, hc]; rfl
  | _ => exact noCall fun K => by unfold operOut; simp only [hop]; rfl
theorem seqOps_uses (C : Cfg) (F : Fm) (ops : Array Oper) : ∀ (l : List Oper) (T : Tmps) (H : Heap) (nx : Nat), Uses fun K => seqOps C K F ops l T H nx
  | [], T, H, nx => const_uses _
  | o :: l, T, H, nx => by
    cases hw : wantedA ops T o with
    | none =>
      have : (fun K => seqOps C K F ops (o :: l) T H nx) = fun _ => none := by funext K; simp only [seqOps, hw]
      rw [this]; exact const_uses _
    | some b =>
      cases b with
      | false =>
        have : (fun K => seqOps C K F ops (o :: l) T H nx) = fun K => seqOps C K F ops l (putT T o.dst undefA) H (nx + wide) := by funext K; simp only [seqOps, hw]
        rw [this]; exact seqOps_uses C F ops l _ _ _
      | true =>
        cases hdp : isDeep F o with
        | true =>
          cases hdo : deepOut C.P F T H nx o with
          | none =>
            have : (fun K => seqOps C K F ops (o :: l) T H nx) = fun _ => none := by funext K; simp only [seqOps, hw, hdp, if_true, hdo]
            rw [this]; exact const_uses _
          | some e =>
            have : (fun K => seqOps C K F ops (o :: l) T H nx) = fun K => seqOps C K F ops l (putT T o.dst e.v) (writes H e.wr) (nx + wide) := by funext K; simp only [seqOps, hw, hdp, if_true, hdo]
            rw [this]; exact seqOps_uses C F ops l _ _ _
        | false =>
        refine (operOut_uses C F T H nx o).bind (h := fun out K => match out with
          | .eff e => seqOps C K F ops l (putT T o.dst e.v) (writes H e.wr) (nx + wide)
          | .frz v p => seqOps C K F ops l (putT (frzT p.contains H T) o.dst v) (frzK p.contains H) (nx + wide)
          | .run v H' nx' => seqOps C K F ops l (putT T o.dst v) H' nx') (fun out => ?_) fun K => ?_
        · cases out <;> exact seqOps_uses C F ops l _ _ _
        · simp only [seqOps, hw, hdp, Bool.false_eq_true, if_false]
          cases operOut C K F T H nx o with
          | none => rfl
          | some out => cases out <;> rfl
theorem drawOps_uses (C : Cfg) (F : Fm) (ops : Array Oper) (base : Nat) : ∀ (l : List Oper) (i : Nat) (T : Tmps) (H : Heap), Uses fun K => drawOps C K F ops base l i T H
  | [], i, T, H => const_uses _
  | o :: l, i, T, H => by
    cases hw : wantedA ops T o with
    | none =>
      have : (fun K => drawOps C K F ops base (o :: l) i T H) = fun _ => none := by funext K; simp only [drawOps, hw]
      rw [this]; exact const_uses _
    | some b =>
      cases b with
      | false =>
        have : (fun K => drawOps C K F ops base (o :: l) i T H) = fun K => drawOps C K F ops base l (i + 1) (putT T o.dst undefA) H := by funext K; simp only [drawOps, hw]
        rw [this]; exact drawOps_uses C F ops base l _ _ _
      | true =>
        refine (operOut_uses C F T (restr H (footH F T H o)) (base + i * wide) o).bind (h := fun out K => match out with
          | .eff e => match drawOps C K F ops base l (i + 1) (putT T o.dst e.v) (writes H e.wr) with
            | some (T', H', l') => some (T', H', ⟨i, footH F T H o, (e.wr.map (·.1)).filter fun b => b < base + i * wide || base + i * wide + wide ≤ b⟩ :: l')
            | none => none
          | .frz v p => match drawOps C K F ops base l (i + 1) (putT T o.dst v) (writes H (killed H p)) with
            | some (T', H', l') => if p.all (footH F T H o).contains then some (T', H', ⟨i, footH F T H o, p⟩ :: l') else none
            | none => none
          | .run v H' nx' => none) (fun out => ?_) fun K => ?_
        · cases out with
          | eff e =>
            refine (drawOps_uses C F ops base l (i + 1) (putT T o.dst e.v) (writes H e.wr)).bind (h := fun a _ => some (a.1, a.2.1, ⟨i, footH F T H o, (e.wr.map (·.1)).filter fun b => b < base + i * wide || base + i * wide + wide ≤ b⟩ :: a.2.2)) (fun _ => const_uses _) fun K => ?_
            simp only
            cases drawOps C K F ops base l (i + 1) (putT T o.dst e.v) (writes H e.wr) <;> rfl
          | frz v p =>
            refine (drawOps_uses C F ops base l (i + 1) (putT T o.dst v) (writes H (killed H p))).bind (h := fun a _ => if p.all (footH F T H o).contains then some (a.1, a.2.1, ⟨i, footH F T H o, p⟩ :: a.2.2) else none) (fun _ => const_uses _) fun K => ?_
            simp only
            cases drawOps C K F ops base l (i + 1) (putT T o.dst v) (writes H (killed H p)) <;> rfl
          | run v H' nx' => exact const_uses _
        · simp only [drawOps, hw]
          cases operOut C K F T (restr H (footH F T H o)) (base + i * wide) o with
          | none => rfl
          | some out => cases out <;> rfl
theorem region_uses (C : Cfg) (F : Fm) (ops : Array Oper) (draw : Bool) (T : Tmps) (H : Heap) (nx : Nat) : Uses fun K => region C K F ops draw T H nx := by
  cases draw with
  | true =>
    cases hso : isSolo ops with
    | true =>
      refine (drawOps_uses C F ops nx (ops.toList.take (ops.size - 1)) 0 T H).bind (h := fun a K => if footOk (Region.before ops) nx a.2.2 then seqOps C K F ops (ops.toList.drop (ops.size - 1)) a.1 a.2.1 (nx + ops.size * wide) else none) (fun a => ?_) fun K => ?_
      · cases hf : footOk (Region.before ops) nx a.2.2 with
        | true => simp only [if_true]; exact seqOps_uses C F ops _ _ _ _
        | false => simp only [Bool.false_eq_true, if_false]; exact const_uses _
      · simp only [region, if_true, hso]
        cases drawOps C K F ops nx (ops.toList.take (ops.size - 1)) 0 T H <;> rfl
    | false =>
      refine (drawOps_uses C F ops nx ops.toList 0 T H).bind (h := fun a _ => if footOk (Region.before ops) nx a.2.2 then some (a.1, a.2.1, nx + ops.size * wide) else none) (fun _ => const_uses _) fun K => ?_
      simp only [region, if_true, hso, Bool.false_eq_true, if_false]
      cases drawOps C K F ops nx ops.toList 0 T H <;> rfl
  | false =>
    have : (fun K => region C K F ops false T H nx) = fun K => seqOps C K F ops ops.toList T H nx := by funext K; simp [region]
    rw [this]; exact seqOps_uses C F ops ops.toList T H nx
theorem region_le {C : Cfg} {K K' : Call} (h : KLe K K') {F : Fm} {ops : Array Oper} {draw : Bool} {T : Tmps} {H : Heap} {nx : Nat} {r : Tmps × Heap × Nat} (hr : region C K F ops draw T H nx = some r) : region C K' F ops draw T H nx = some r := (region_uses C F ops draw T H nx).le h hr

/-! ### More fuel -/
theorem arun_region {C : Cfg} {F : Fm} {n : Nat} {id : Nat} {ops : Array Oper} {draw : Bool} {k : List AItem} {T : Tmps} {H : Heap} {nx : Nat} :
    arun C F (n + 1) (.code (.region id ops draw) :: k) T H nx = match region C (acall C n) F ops draw T H nx with | some (T', H', nx') => arun C F n k T' H' nx' | none => none := rfl
/-- A range over a function: its body's operations; what comes. -/
def rangeA (C : Cfg) (T : Tmps) (H : Heap) (f : Operand) (ps : Array Tmp) (assign body : Code) : Option (Array Oper × Option (List (List DV))) :=
  match quitOf ps assign body with
  | some ops => match mapO (snap (refsIn H 4 (aeval T f)).contains H 4) [aeval T f] with
    | some as => match fnD as with
      | some (g, caps) => some (ops, gather C g caps)
      | none => none
    | none => none
  | none => none
theorem arun_range {C : Cfg} {F : Fm} {n : Nat} {f : Operand} {ps : Array Tmp} {assign body : Code} {k : List AItem} {T : Tmps} {H : Heap} {nx : Nat} :
    arun C F (n + 1) (.code (.rangeFunc f ps assign body) :: k) T H nx = match rangeA C T H f ps assign body with
      | some (ops, xs) => (match xs with
        | some [] => arun C F n k T H nx
        | some (_ :: _) => (match region C (acall C n) (quitF F nx) ops false (deadT T ps.toList) H (nx + (F.lo - F.sb)) with
          | some (_, H', nx') => some (T, H', nx')
          | none => none)
        | none => none)
      | none => none := by
  rw [arun]
  unfold rangeA
  cases quitOf ps assign body with
  | none => rfl
  | some ops =>
    simp only
    cases mapO (snap (refsIn H 4 (aeval T f)).contains H 4) [aeval T f] with
    | none => rfl
    | some as =>
      simp only
      cases fnD as with
      | none => rfl
      | some gc =>
        obtain ⟨g, caps⟩ := gc
        simp only
        cases gather C g caps with
        | none => rfl
        | some xs => cases xs <;> rfl
theorem acall_of_arun {C : Cfg} {n m : Nat} (h : ∀ F k T H nx r, arun C F n k T H nx = some r → arun C F m k T H nx = some r) : KLe (acall C n) (acall C m) := by
  intro f args H nx r hr
  unfold acall at hr ⊢
  split at hr
  · rename_i fn hf
    try rw [hf]
    split at hr
    · rename_i c hb
      try simp only [hb]
      split at hr
      · rename_i hl
        rw [if_pos hl]
        split at hr
        · rename_i T' H' nx' ha
          rw [h _ _ _ _ _ _ ha]; exact hr
        · cases hr
      · cases hr
    · cases hr
  · cases hr
theorem arun_succ {C : Cfg} : ∀ (n : Nat) (F : Fm) (k : List AItem) (T : Tmps) (H : Heap) (nx : Nat) (r : Tmps × Heap × Nat), arun C F n k T H nx = some r → arun C F (n + 1) k T H nx = some r
  | 0, F, k, T, H, nx, r, h => by simp [arun] at h
  | n + 1, F, k, T, H, nx, r, h => by
    have ih := arun_succ (C := C) n
    cases k with
    | nil => simpa [arun] using h
    | cons x k =>
      cases x with
      | inBlock id => simp only [arun] at h ⊢; exact ih _ _ _ _ _ _ h
      | inScope c => simp only [arun] at h ⊢; exact ih _ _ _ _ _ _ h
      | inLoop c nx0 =>
        rw [arun] at h ⊢
        split at h
        · rename_i ht; rw [if_pos ht]; exact ih _ _ _ _ _ _ h
        · rename_i ht; rw [if_neg ht]; exact ih _ _ _ _ _ _ h
      | code c =>
        cases c with
        | region id ops draw =>
          rw [arun_region] at h ⊢
          split at h
          · rename_i T' H' nx' hr
            rw [region_le (acall_of_arun ih) hr]
            exact ih _ _ _ _ _ _ h
          · cases h
        | cond c p q =>
          rw [arun] at h ⊢
          split at h
          · rename_i t ht
            try rw [ht]
            try simp only
            split at h
            · rename_i hb; rw [if_pos hb]; exact ih _ _ _ _ _ _ h
            · rename_i hb; rw [if_neg hb]; exact ih _ _ _ _ _ _ h
          · cases h
        | exit id =>
          rw [arun] at h ⊢
          split at h
          · rename_i k' hk; (try rw [hk]); exact ih _ _ _ _ _ _ h
          · cases h
        | ret => simpa [arun] using h
        | skip => simp only [arun] at h ⊢; exact ih _ _ _ _ _ _ h
        | label l => simp only [arun] at h ⊢; exact ih _ _ _ _ _ _ h
        | seq a b => simp only [arun] at h ⊢; exact ih _ _ _ _ _ _ h
        | block a b => simp only [arun] at h ⊢; exact ih _ _ _ _ _ _ h
        | loop b => simp only [arun] at h ⊢; exact ih _ _ _ _ _ _ h
        | scope b => simp only [arun] at h ⊢; exact ih _ _ _ _ _ _ h
        | rangeFunc f ps assign body =>
          rw [arun_range] at h ⊢
          split at h
          · rename_i ops as' hq
            split at h
            · exact ih _ _ _ _ _ _ h
            · split at h
              · rename_i hr
                rw [region_le (acall_of_arun ih) hr]
                exact h
              · cases h
            · cases h
          · cases h
        | _ => simp [arun] at h
theorem arun_le {C : Cfg} {n m : Nat} (h : n ≤ m) {F : Fm} {k : List AItem} {T : Tmps} {H : Heap} {nx : Nat} {r : Tmps × Heap × Nat} (hr : arun C F n k T H nx = some r) : arun C F m k T H nx = some r := by
  induction h with
  | refl => exact hr
  | step _ ih => exact arun_succ _ _ _ _ _ _ _ ih
theorem acall_le {C : Cfg} {n m : Nat} (h : n ≤ m) : KLe (acall C n) (acall C m) := acall_of_arun fun _ _ _ _ _ _ hr => arun_le h hr

/-! ### Without fuel -/
open Classical in
noncomputable def callω (C : Cfg) : Call := fun f args H nx => if h : ∃ r n, acall C n f args H nx = some r then some h.choose else none
theorem callω_some {C : Cfg} {f : FuncId} {args : List AV} {H : Heap} {nx : Nat} {r : AV × Heap × Nat} : callω C f args H nx = some r ↔ ∃ n, acall C n f args H nx = some r := by
  unfold callω
  constructor
  · intro h
    split at h
    · rename_i hx
      simp at h; subst h
      exact hx.choose_spec
    · cases h
  · rintro ⟨n, hn⟩
    have hx : ∃ r n, acall C n f args H nx = some r := ⟨r, n, hn⟩
    rw [dif_pos hx]
    obtain ⟨m, hm⟩ := hx.choose_spec
    have h1 := acall_le (Nat.le_max_left n m) _ _ _ _ _ hn
    have h2 := acall_le (Nat.le_max_right n m) _ _ _ _ _ hm
    rw [h1] at h2
    exact congrArg some (Option.some.inj h2).symm
/-- Some round's. -/
theorem Uses.fin {α : Type} {g : Call → Option α} (h : Uses g) {C : Cfg} {r : α} (hr : g (callω C) = some r) : ∃ n, g (acall C n) = some r := by
  obtain ⟨qs, h1, h2⟩ := h _ r hr
  have key : ∀ qs : List Ask, (∀ q ∈ qs, Told (callω C) q) → ∃ n, ∀ q ∈ qs, Told (acall C n) q := by
    intro qs
    induction qs with
    | nil => intro _; exact ⟨0, by simp⟩
    | cons q qs ih =>
      intro hq
      obtain ⟨n, hn⟩ := ih fun q' h' => hq q' (List.mem_cons_of_mem _ h')
      obtain ⟨m, hm⟩ := callω_some.1 (hq q (List.mem_cons_self ..))
      refine ⟨max n m, fun q' h' => ?_⟩
      rcases List.mem_cons.1 h' with rfl | h'
      · exact acall_le (Nat.le_max_right n m) _ _ _ _ _ hm
      · exact acall_le (Nat.le_max_left n m) _ _ _ _ _ (hn q' h')
  obtain ⟨n, hn⟩ := key qs h1
  exact ⟨n, h2 _ hn⟩

/-- A run without fuel. -/
def Runs (C : Cfg) (F : Fm) (k : List AItem) (T : Tmps) (H : Heap) (nx : Nat) (r : Tmps × Heap × Nat) : Prop := ∃ n, arun C F n k T H nx = some r
def RunsO (C : Cfg) (F : Fm) (k : List AItem) (s : Option (Tmps × Heap × Nat)) (r : Tmps × Heap × Nat) : Prop := match s with | some (T, H, nx) => Runs C F k T H nx r | none => False
section
variable {C : Cfg} {F : Fm} {k : List AItem} {T : Tmps} {H : Heap} {nx : Nat} {r : Tmps × Heap × Nat}
theorem Runs.nil : Runs C F [] T H nx (T, H, nx) := ⟨1, by simp [arun]⟩
theorem Runs.ret : Runs C F (.code .ret :: k) T H nx (T, H, nx) := ⟨1, by simp [arun]⟩
theorem Runs.step {x : List AItem} {T' : Tmps} {H' : Heap} {nx' : Nat} (h : ∀ n, arun C F (n + 1) k T H nx = arun C F n x T' H' nx') (hr : Runs C F x T' H' nx' r) : Runs C F k T H nx r := by
  obtain ⟨n, hn⟩ := hr
  exact ⟨n + 1, by rw [h]; exact hn⟩
theorem Runs.skip (h : Runs C F k T H nx r) : Runs C F (.code .skip :: k) T H nx r := h.step fun _ => rfl
theorem Runs.label {l : Nat} (h : Runs C F k T H nx r) : Runs C F (.code (.label l) :: k) T H nx r := h.step fun _ => rfl
theorem Runs.inBlock {id : Nat} (h : Runs C F k T H nx r) : Runs C F (.inBlock id :: k) T H nx r := h.step fun _ => rfl
theorem Runs.inScope {c : Code} (h : Runs C F k T H nx r) : Runs C F (.inScope c :: k) T H nx r := h.step fun _ => rfl
theorem Runs.seq {a b : Code} (h : Runs C F (.code a :: .code b :: k) T H nx r) : Runs C F (.code (.seq a b) :: k) T H nx r := h.step fun _ => rfl
theorem Runs.block {id : Nat} {b : Code} (h : Runs C F (.code b :: .inBlock id :: k) T H nx r) : Runs C F (.code (.block id b) :: k) T H nx r := h.step fun _ => rfl
theorem Runs.loop {b : Code} (h : Runs C F (.code b :: .inLoop b (upN nx) :: k) (canT F.q F.sb H T) (canH F.q F.sb H) (upN nx) r) : Runs C F (.code (.loop b) :: k) T H nx r := h.step fun _ => rfl
theorem Runs.scope {b : Code} (h : Runs C F (.code b :: .inScope b :: k) T H nx r) : Runs C F (.code (.scope b) :: k) T H nx r := h.step fun _ => rfl
theorem Runs.round {b : Code} {nx0 : Nat} (ht : F.tr = true) (h : Runs C F (.code b :: .inLoop b nx0 :: k) (canT F.q F.sb (frzH (fun b => Nat.ble nx0 b) H) (frzT (fun b => Nat.ble nx0 b) H T)) (canH F.q F.sb (frzH (fun b => Nat.ble nx0 b) H)) nx0 r) : Runs C F (.inLoop b nx0 :: k) T H nx r :=
  h.step fun _ => by rw [arun]; rw [if_pos ht]
theorem Runs.round' {b : Code} {nx0 : Nat} (ht : F.tr = false) (h : Runs C F (.code b :: .inLoop b nx0 :: k) (canT F.q F.sb H T) (canH F.q F.sb H) nx r) : Runs C F (.inLoop b nx0 :: k) T H nx r :=
  h.step fun _ => by rw [arun]; rw [if_neg (by simp [ht])]
theorem Runs.exit {id : Nat} {k' : List AItem} (hk : exitToA id k = some k') (h : Runs C F k' T H nx r) : Runs C F (.code (.exit id) :: k) T H nx r := h.step fun _ => by simp only [arun, hk]
theorem Runs.cond {c : Operand} {a b : Code} {t : Bool} (hc : aeval T c = .d (.v (.bool t))) (h1 : t = true → Runs C F (.code a :: k) T H nx r) (h2 : t = false → Runs C F (.code b :: k) T H nx r) : Runs C F (.code (.cond c a b) :: k) T H nx r := by
  cases t with
  | true => exact (h1 rfl).step fun _ => by simp [arun, hc]
  | false => exact (h2 rfl).step fun _ => by simp [arun, hc]
theorem Runs.none {f : Operand} {ps : Array Tmp} {assign body : Code} {ops : Array Oper} (ha : rangeA C T H f ps assign body = some (ops, some [])) (h : Runs C F k T H nx r) : Runs C F (.code (.rangeFunc f ps assign body) :: k) T H nx r :=
  h.step fun n => by rw [arun_range, ha]
theorem Runs.quit {f : Operand} {ps : Array Tmp} {assign body : Code} {ops : Array Oper} {x : List DV} {xs : List (List DV)} (ha : rangeA C T H f ps assign body = some (ops, some (x :: xs))) {T' : Tmps} {H' : Heap} {nx' : Nat}
    (hr : Go.AI.region C (callω C) (quitF F nx) ops false (deadT T ps.toList) H (nx + (F.lo - F.sb)) = some (T', H', nx')) : Runs C F (.code (.rangeFunc f ps assign body) :: k) T H nx (T, H', nx') := by
  obtain ⟨n, hn⟩ := (region_uses C (quitF F nx) ops false (deadT T ps.toList) H (nx + (F.lo - F.sb))).fin hr
  exact ⟨n + 1, by rw [arun_range, ha]; simp only; rw [hn]⟩
theorem Runs.region {id : Nat} {ops : Array Oper} {draw : Bool} (h : RunsO C F k (Go.AI.region C (callω C) F ops draw T H nx) r) : Runs C F (.code (.region id ops draw) :: k) T H nx r := by
  unfold RunsO at h
  split at h
  · rename_i T' H' nx' hr
    obtain ⟨n, hn⟩ := (region_uses C F ops draw T H nx).fin hr
    obtain ⟨m, hm⟩ := h
    refine ⟨max n m + 1, ?_⟩
    rw [arun_region, region_le (acall_le (Nat.le_max_left n m)) hn]
    exact arun_le (Nat.le_max_right n m) hm
  · exact h.elim
end
theorem callω_of {C : Cfg} {f : FuncId} {fn : Func} {c : Code} {args : List AV} {H H' : Heap} {nx nx' : Nat} {T' : Tmps} {v : AV} (hf : C.P.funcs[f]? = some fn) (hb : fn.body = some c) (hl : args.length ≤ fn.ntmps)
    (hr : Runs C ⟨nx, nx + fn.ntmps, C.trim f, C.names f, C.virt f⟩ [.code c] (argsT args) H (nx + fn.ntmps) (T', H', nx')) (hv : resultsA C.P fn T' H' = some v) : callω C f args H nx = some (v, H', nx') := by
  obtain ⟨n, hn⟩ := hr
  refine callω_some.2 ⟨n, ?_⟩
  simp only [acall, hf, hb, hl, if_true, hn, hv]
/-- What a function answers, by value. -/
noncomputable def valω (C : Cfg) (f : FuncId) (args : List AV) : Option AV := byValue (callω C) f args
theorem soundω {C : Cfg} (hM : ModesOK C) (hC : ProgOK C) : SoundV C.P (fun _ => True) (valω C) := by
  intro f args as r O w hok he hH hr
  obtain ⟨n, hn⟩ := (value_uses f args).fin he
  exact SoundV.of (sound hM hC n) (fun _ => True) f args as r O w hok hn hH hr
end Go.AI
