/-
  Own work. Operation by operation: numbers, bools, comparisons.
-/
import Derived.Test.YthagcidcihgboaaGreatAiOps8
namespace Go.AI
open Go
set_option linter.unusedVariables false
set_option linter.unusedSimpArgs false
variable {P : Program} {O : Nat → Prop} {ι : Inj} {H H0 : Heap} {w : World}

theorem guard_int (op : BinOp) (t : TypeId) (ox oy : Operand) (k : IntKind) (a : Int) (b : Value) : (eqGuard op t ox oy (.int k a) b).run P w = .ok () w := by
  cases op <;> simp [eqGuard]
theorem guard_bool (op : BinOp) (t : TypeId) (ox oy : Operand) (a : Bool) (b : Value) : (eqGuard op t ox oy (.bool a) b).run P w = .ok () w := by
  cases op <;> simp [eqGuard]
theorem guard_str (op : BinOp) (t : TypeId) (ox oy : Operand) (a : ByteArray) (b : Value) : (eqGuard op t ox oy (.string a) b).run P w = .ok () w := by
  cases op <;> simp [eqGuard]
theorem guard_ptr (op : BinOp) (t : TypeId) (ox oy : Operand) (a : Option Addr) (b : Value) : (eqGuard op t ox oy (.pointer a) b).run P w = .ok () w := by
  cases op <;> simp [eqGuard]
theorem guard_agg {op : BinOp} {t : TypeId} (h : P.eqGuardType P.depth t = false) (ox oy : Operand) (a b : Array Value) : (eqGuard op t ox oy (.agg a) (.agg b)).run P w = .ok () w := by
  cases op <;> simp [eqGuard, h]
theorem intOp_run {op : BinOp} {t : TypeId} {k : IntKind} {a b : Int} {z : Value} (h : intOp op k a b = some z) (hs : op ≠ .shl ∧ op ≠ .shr) : (binOp op t (.int k a) (.int k b)).run P w = .ok z w := by
  cases op <;> simp [intOp, bitsOp] at h hs ⊢ <;> simp [binOp, Op.intArith, Op.intDiv, Op.intBits, Op.intCmp, h]
theorem shiftOp_run {op : BinOp} {t : TypeId} {k k' : IntKind} {a b : Int} {z : Value} (h : shiftOp op k a b = some z) : (binOp op t (.int k a) (.int k' b)).run P w = .ok z w := by
  unfold shiftOp at h
  split at h
  · cases h
  · rename_i hb
    cases op <;> simp at h <;> simp [binOp, Op.shift, hb, h]
theorem isPtrA_R {x : AV} {c : Value} (h : isPtrA x = true) (hr : R O ι w x c) : ∃ a, c = .pointer (some a) := by
  cases x with
  | d y =>
    cases y with
    | ptr r o =>
      simp only [R, DR] at hr
      obtain ⟨k, off, rfl, _⟩ := hr
      exact ⟨_, rfl⟩
    | _ => simp [isPtrA] at h
  | ptr b ver i o =>
    simp only [R] at hr
    obtain ⟨e, _, _, _, ⟨a, rfl⟩, _⟩ := hr
    exact ⟨a, rfl⟩
  | _ => simp [isPtrA] at h
theorem eq_bool {t : TypeId} (hu : P.underlying t = some .bool) (a b : Bool) : (Op.equal t (.bool a) (.bool b)).run P w = .ok (a == b) w := by
  obtain ⟨d, hd⟩ : ∃ d, 10000 = d + 1 := ⟨9999, rfl⟩
  unfold Op.equal Op.maxDepth
  rw [hd]
  simp [Op.equalIn, run_und hu]
theorem eq_nils {t e : TypeId} (hu : P.underlying t = some (.pointer e)) : (Op.equal t (.pointer none) (.pointer none)).run P w = .ok true w := by
  obtain ⟨d, hd⟩ : ∃ d, 10000 = d + 1 := ⟨9999, rfl⟩
  unfold Op.equal Op.maxDepth
  rw [hd]
  simp [Op.equalIn, run_und hu]
theorem eq_nil {t e : TypeId} (hu : P.underlying t = some (.pointer e)) (a : Addr) : (Op.equal t (.pointer (some a)) (.pointer none)).run P w = .ok false w := by
  obtain ⟨d, hd⟩ : ∃ d, 10000 = d + 1 := ⟨9999, rfl⟩
  unfold Op.equal Op.maxDepth
  rw [hd]
  simp [Op.equalIn, run_und hu]
theorem eql_run {t : TypeId} {a b : Value} {r : Bool} (h : (Op.equal t a b).run P w = .ok r w) (hb : binOp .eql t a b = (do pure (.bool (← Op.equal t a b)))) : (binOp .eql t a b).run P w = .ok (.bool r) w := by
  rw [hb]; simp [h]
theorem neq_run {t : TypeId} {a b : Value} {r : Bool} (h : (Op.equal t a b).run P w = .ok r w) (hb : binOp .neq t a b = (do pure (.bool (!(← Op.equal t a b))))) : (binOp .neq t a b).run P w = .ok (.bool (!r)) w := by
  rw [hb]; simp [h]
theorem bin_sim (hH : HR O ι H w) {op : BinOp} {t : TypeId} {ox oy : Operand} {x y : AV} {a b : Value} {v : AV} {N : Nat → Prop} (hx : R O ι w x a) (hy : R O ι w y b) (he : binA P op t x y = some v) :
    Sim P O ι H w N (do eqGuard op t ox oy a b; binOp op t a b) ⟨v, []⟩ := by
  unfold binA at he
  split at he
  · -- numbers
    rename_i k a' k' b'
    simp only [R, DR] at hx hy
    subst hx hy
    have key : ∃ z, v = .d (.v z) ∧ (binOp op t (.int k a') (.int k' b')).run P w = .ok z w := by
      split at he
      · cases hz : shiftOp .shl k a' b' with
        | none => simp [hz] at he
        | some z => simp [hz] at he; exact ⟨z, he.symm, shiftOp_run hz⟩
      · cases hz : shiftOp .shr k a' b' with
        | none => simp [hz] at he
        | some z => simp [hz] at he; exact ⟨z, he.symm, shiftOp_run hz⟩
      · rename_i h1 h2
        split at he
        · rename_i hk; subst hk
          cases hz : intOp op k a' b' with
          | none => simp [hz] at he
          | some z => simp [hz] at he; exact ⟨z, he.symm, intOp_run hz ⟨h1, h2⟩⟩
        · cases he
    obtain ⟨z, rfl, hz⟩ := key
    exact .still hH (cv := z) (by simp [guard_int, hz]) (by simp [R, DR])
  · -- bools
    rename_i a' b'
    simp only [R, DR] at hx hy
    subst hx hy
    split at he
    · rename_i hu
      simp at he; subst he
      exact .still hH (cv := .bool (a' == b')) (by simp [guard_bool, eql_run (eq_bool hu a' b') rfl]) (by simp [R, DR])
    · rename_i hu
      simp at he; subst he
      exact .still hH (cv := .bool (!(a' == b'))) (by simp [guard_bool, neq_run (eq_bool hu a' b') rfl]) (by simp [R, DR])
    · cases he
  · -- strings
    rename_i a' b'
    simp only [R, DR] at hx hy
    subst hx hy
    split at he
    · simp at he; subst he
      exact .still hH (cv := .bool (a'.toList == b'.toList)) (by simp [guard_str, binOp, Op.stringOp]) (by simp [R, DR])
    · simp at he; subst he
      exact .still hH (cv := .bool (!(a'.toList == b'.toList))) (by simp [guard_str, binOp, Op.stringOp]) (by simp [R, DR])
    · cases he
  · -- structs
    rename_i xs ys
    simp only [R] at hx hy
    obtain ⟨l, rfl, h1, _⟩ := hx
    obtain ⟨m, rfl, h2, _⟩ := hy
    cases hf : flatS P t with
    | none => simp [hf] at he
    | some ks =>
      simp only [hf] at he
      split at he
      · rename_i q hq
        simp at he; subst he
        obtain ⟨g1, g2⟩ := eq_struct (w := w) hf hq h1 h2
        exact .still hH (cv := .bool q) (by simp [guard_agg g2, eql_run (a := .agg l.toArray) (b := .agg m.toArray) g1 rfl]) (by simp [R, DR])
      · rename_i q hq
        simp at he; subst he
        obtain ⟨g1, g2⟩ := eq_struct (w := w) hf hq h1 h2
        exact .still hH (cv := .bool (!q)) (by simp [guard_agg g2, neq_run (a := .agg l.toArray) (b := .agg m.toArray) g1 rfl]) (by simp [R, DR])
      · cases he
  · -- two nil pointers
    simp only [R, DR] at hx hy
    subst hx hy
    split at he
    · rename_i hu
      simp at he; subst he
      exact .still hH (cv := .bool true) (by simp [guard_ptr, eql_run (eq_nils hu) rfl]) (by simp [R, DR])
    · rename_i hu
      simp at he; subst he
      exact .still hH (cv := .bool false) (by simp [guard_ptr, neq_run (eq_nils hu) rfl]) (by simp [R, DR])
    · cases he
  · -- a pointer, and nil
    rename_i x' _
    split at he
    · rename_i hp
      obtain ⟨a', rfl⟩ := isPtrA_R hp hx
      simp only [R, DR] at hy
      subst hy
      split at he
      · rename_i hu
        simp at he; subst he
        exact .still hH (cv := .bool false) (by simp [guard_ptr, eql_run (eq_nil hu a') rfl]) (by simp [R, DR])
      · rename_i hu
        simp at he; subst he
        exact .still hH (cv := .bool true) (by simp [guard_ptr, neq_run (eq_nil hu a') rfl]) (by simp [R, DR])
      · cases he
    · cases he
  · cases he

/-! ### Assignments -/
theorem nextVer_lt (hH : HR O ι H w) {b n : Nat} {e : CB} (h : nextVer H b = some n) (he : ι b = some e) : e.mp = false ∧ e.ver < n := by
  obtain ⟨B, hB, hbr⟩ := hH.blk b e he
  unfold nextVer at h
  rw [hB] at h
  cases B with
  | mp es => simp at h
  | row s v data =>
    simp at h
    obtain ⟨q1, q2, q3, _⟩ := hbr
    exact ⟨q1, by omega⟩
theorem nil_row (hH : HR O ι H w) {b n : Nat} (s : Nat) (h : nextVer H b = some n) :
    HR O (iset ι b (some ⟨none, 0, s, n, 0, 0, false⟩)) (hset H b (some (.row s n []))) w ∧ Ex ι w (iset ι b (some ⟨none, 0, s, n, 0, 0, false⟩)) w := by
  have hk : ∀ k, (⟨none, 0, s, n, 0, 0, false⟩ : CB).blk = some k → w.heap.size ≤ k ∨ ∃ e, ι b = some e ∧ e.blk = some k ∧ (0 : Nat) = e.base ∧ 0 = e.cells := fun k hk => by cases hk
  have hB : BR O (iset ι b (some ⟨none, 0, s, n, 0, 0, false⟩)) w ⟨none, 0, s, n, 0, 0, false⟩ (.row s n []) := ⟨rfl, rfl, rfl, rfl, fun _ => rfl, fun k hk => by cases hk⟩
  cases hb : ι b with
  | none =>
    have ho : Only w w ((ι b).bind (·.blk)) 0 0 := Only.refl ..
    have hr : ∀ e, ι b = some e → 0 = e.base ∧ 0 = e.base + e.cells ∧ e.mp = (⟨none, 0, s, n, 0, 0, false⟩ : CB).mp ∧ e.ver ≤ (⟨none, 0, s, n, 0, 0, false⟩ : CB).ver ∧
      (e.ver = (⟨none, 0, s, n, 0, 0, false⟩ : CB).ver ∨ e.mp = true → (⟨none, 0, s, n, 0, 0, false⟩ : CB) = e) := fun e he => by rw [hb] at he; cases he
    exact ⟨HR.upd hH ho hr hk hB, Ex.upd hH ho hr hk⟩
  | some e0 =>
    obtain ⟨h1, h2⟩ := nextVer_lt hH h hb
    have ho : Only w w ((ι b).bind (·.blk)) e0.base (e0.base + e0.cells) := Only.refl ..
    have hr : ∀ e, ι b = some e → e0.base = e.base ∧ e0.base + e0.cells = e.base + e.cells ∧ e.mp = (⟨none, 0, s, n, 0, 0, false⟩ : CB).mp ∧ e.ver ≤ (⟨none, 0, s, n, 0, 0, false⟩ : CB).ver ∧
      (e.ver = (⟨none, 0, s, n, 0, 0, false⟩ : CB).ver ∨ e.mp = true → (⟨none, 0, s, n, 0, 0, false⟩ : CB) = e) := fun e he => by
        rw [hb] at he; cases he
        refine ⟨rfl, rfl, h1, by simp; omega, fun hq => ?_⟩
        rcases hq with hq | hq
        · simp at hq; omega
        · rw [h1] at hq; cases hq
    exact ⟨HR.upd hH ho hr hk hB, Ex.upd hH ho hr hk⟩

/-- A row takes another name. -/
theorem move_row (hH : HR O ι H w) {b d n s ver : Nat} {data : List (List AV)} {e : CB} (he : ι b = some e) (hb : H b = some (.row s ver data)) (h : nextVer H d = some n) (hne : d ≠ b) :
    HR O (iset (iset ι b (some { e with blk := none, ver := ver + 1, len := 0 })) d (some { e with ver := n })) (hset (hset H b (some (.row s (ver + 1) []))) d (some (.row s n data))) w ∧
    Ex ι w (iset (iset ι b (some { e with blk := none, ver := ver + 1, len := 0 })) d (some { e with ver := n })) w := by
  obtain ⟨B, hB, hbr⟩ := hH.blk b e he
  rw [hb] at hB; cases hB
  obtain ⟨q1, q2, q3, q4, q5, q6⟩ := hbr
  have hd : ∀ e0, ι d = some e0 → e0.mp = false ∧ e0.ver < n := fun e0 h0 => nextVer_lt hH h h0
  have ib : iset (iset ι b (some { e with blk := none, ver := ver + 1, len := 0 })) d (some { e with ver := n }) b = some { e with blk := none, ver := ver + 1, len := 0 } := by
    rw [iset_ne _ _ (Ne.symm hne), iset_same]
  have id' : iset (iset ι b (some { e with blk := none, ver := ver + 1, len := 0 })) d (some { e with ver := n }) d = some { e with ver := n } := iset_same ..
  have ic : ∀ c, c ≠ b → c ≠ d → iset (iset ι b (some { e with blk := none, ver := ver + 1, len := 0 })) d (some { e with ver := n }) c = ι c := fun c h1 h2 => by
    rw [iset_ne _ _ h2, iset_ne _ _ h1]
  -- who owns what
  have own : ∀ c e' k, iset (iset ι b (some { e with blk := none, ver := ver + 1, len := 0 })) d (some { e with ver := n }) c = some e' → e'.blk = some k → (c = d ∧ e.blk = some k ∧ e' = { e with ver := n }) ∨ (c ≠ d ∧ c ≠ b ∧ ι c = some e') := by
    intro c e' k h1 h2
    by_cases c1 : c = d
    · subst c1
      rw [id'] at h1; cases h1
      exact .inl ⟨rfl, h2, rfl⟩
    · by_cases c2 : c = b
      · subst c2
        rw [ib] at h1; cases h1; cases h2
      · rw [ic c c2 c1] at h1
        exact .inr ⟨c1, c2, h1⟩
  have hx : Ex ι w (iset (iset ι b (some { e with blk := none, ver := ver + 1, len := 0 })) d (some { e with ver := n })) w := by
    refine ⟨rfl, rfl, rfl, Nat.le_refl _, fun k _ hi => ⟨rfl, ?_⟩, fun c e0 h0 => ?_, fun c e0 k h0 hk => ⟨?_, fun cs t fz hc => ⟨cs, hc, rfl, fun _ _ => rfl⟩⟩⟩
    · rintro ⟨c, e', h1, h2⟩
      rcases own c e' k h1 h2 with ⟨_, h3, _⟩ | ⟨_, _, h3⟩
      · exact hi ⟨b, e, he, h3⟩
      · exact hi ⟨c, e', h3, h2⟩
    · by_cases c1 : c = d
      · subst c1
        obtain ⟨g1, g2⟩ := hd e0 h0
        refine ⟨_, id', by simp [g1, q1], by simp; omega, fun hq => ?_⟩
        rcases hq with hq | hq
        · simp at hq; omega
        · rw [g1] at hq; cases hq
      · by_cases c2 : c = b
        · subst c2
          rw [he] at h0; cases h0
          refine ⟨_, ib, rfl, by simp; omega, fun hq => ?_⟩
          rcases hq with hq | hq
          · simp at hq; omega
          · rw [q1] at hq; cases hq
        · exact ⟨e0, by rw [ic c c2 c1]; exact h0, rfl, Nat.le_refl _, fun _ => rfl⟩
    · by_cases c2 : c = b
      · subst c2
        rw [he] at h0; cases h0
        exact .inr ⟨d, _, id', hk, rfl, rfl⟩
      · by_cases c1 : c = d
        · subst c1
          refine .inl ?_
          rintro ⟨c', e', h1, h2⟩
          rcases own c' e' k h1 h2 with ⟨_, h3, _⟩ | ⟨h3, h4, h5⟩
          · exact hne (hH.inj c b e0 e k h0 he hk h3)
          · exact h3 (hH.inj c' c e' e0 k h5 h0 h2 hk)
        · exact .inr ⟨c, e0, by rw [ic c c2 c1]; exact h0, hk, rfl, rfl⟩
  refine ⟨⟨fun c e' h1 => ?_, fun c c' e1 e2 k h1 h2 hk1 hk2 => ?_, fun k ⟨c, e', h1, h2⟩ => ?_, hH.bar⟩, hx⟩
  · by_cases c1 : c = d
    · subst c1
      rw [id'] at h1; cases h1
      refine ⟨_, hset_same .., ?_⟩
      have := BR.mono (e := e) (B := .row s ver data) hx ⟨q1, q2, q3, q4, q5, q6⟩ (fun _ _ => rfl)
      obtain ⟨r1, r2, r3, r4, r5, r6⟩ := this
      exact ⟨r1, r2, rfl, r4, r5, r6⟩
    · by_cases c2 : c = b
      · subst c2
        rw [ib] at h1; cases h1
        refine ⟨_, by rw [hset_ne _ _ c1, hset_same], ?_⟩
        exact ⟨q1, q2, rfl, rfl, fun _ => rfl, fun k hk => by cases hk⟩
      · rw [ic c c2 c1] at h1
        obtain ⟨B, hB, hbr⟩ := hH.blk c e' h1
        exact ⟨B, by rw [hset_ne _ _ c1, hset_ne _ _ c2]; exact hB, hbr.mono hx (fun _ _ => rfl)⟩
  · rcases own c e1 k h1 hk1 with ⟨a1, a2, _⟩ | ⟨a1, a2, a3⟩ <;> rcases own c' e2 k h2 hk2 with ⟨b1, b2, _⟩ | ⟨b1, b2, b3⟩
    · rw [a1, b1]
    · exact absurd (hH.inj c' b e2 e k b3 he hk2 a2) b2
    · exact absurd (hH.inj c b e1 e k a3 he hk1 b2) a2
    · exact hH.inj c c' e1 e2 k a3 b3 hk1 hk2
  · rcases own c e' k h1 h2 with ⟨_, h3, _⟩ | ⟨_, _, h3⟩
    · exact hH.dis k ⟨b, e, he, h3⟩
    · exact hH.dis k ⟨c, e', h3, h2⟩

theorem assign_sim (hH : HR O ι H w) {F : Fm} {t : TypeId} {dst : Option Tmp} {x : AV} {c : Value} {e : Eff} {N : Nat → Prop} (hx : R O ι w x c) (h0 : ∀ b ∈ refs 4 x, H0 b = H b) (h1 : ∀ d, dst = some d → H0 (F.sb + d) = H (F.sb + d))
    (hN : ∀ d, dst = some d → N (F.sb + d)) (he : assignA P F H0 t dst x = some e) : SimN P O ι H w N (Pure.pure (.value c)) e := by
  unfold assignA at he
  split at he
  · rename_i d s0
    split at he
    · split at he
      · rename_i e0 s by0 n ht hn
        simp at he; subst he
        have hn' : nextVer H (F.sb + d) = some n := by unfold nextVer at hn ⊢; rw [← h1 d rfl]; exact hn
        obtain ⟨g1, g2⟩ := nil_row hH s hn'
        simp only [R] at hx; subst hx
        refine ⟨.value (.slice none 0 0), .slice none 0 0, w, _, rfl, .inl rfl, ⟨by simpa only [writes] using g1, ?_, g2, new_names (hN d rfl)⟩⟩
        simp only [R]
        exact ⟨_, iset_same .., rfl, Nat.le_refl _, ⟨_, _, rfl⟩, fun _ => ⟨rfl, rfl, rfl⟩⟩
      · cases he
    · simp at he; subst he
      exact .pure hH (tyNil_R hx)
  · rename_i d b ver off len
    split at he
    · split at he
      · rename_i s ver' data n hb hn
        split at he
        · rename_i hc
          obtain ⟨rfl, rfl, hlen, hne⟩ := hc
          simp at he; subst he
          have hn' : nextVer H (F.sb + d) = some n := by unfold nextVer at hn ⊢; rw [← h1 d rfl]; exact hn
          have hb' : H b = some (.row s ver data) := by rw [← h0 b (by simp [refs])]; exact hb
          simp only [R] at hx
          obtain ⟨e, he, hmp, hle, hcc, hat⟩ := hx
          obtain ⟨B, hB, hbr⟩ := hH.blk b e he
          rw [hb'] at hB; cases hB
          obtain ⟨q1, q2, q3, q4, q5, q6⟩ := hbr
          obtain ⟨g1, g2⟩ := move_row hH he hb' hn' hne
          refine ⟨.value c, c, w, _, rfl, .inl rfl, ⟨by simpa only [writes] using g1, ?_, g2, ?_⟩⟩
          · simp only [R]
            exact ⟨_, iset_same .., hmp, Nat.le_refl _, hcc, fun _ => hat (by omega)⟩
          · intro c' k1 k2
            by_cases hc' : c' = F.sb + d
            · subst hc'; exact hN d rfl
            · rw [iset_ne _ _ hc'] at k1
              by_cases hb2 : c' = b
              · subst hb2; rw [he] at k2; cases k2
              · rw [iset_ne _ _ hb2] at k1; exact absurd k2 k1
        · simp at he; subst he
          exact .pure hH hx
      · simp at he; subst he
        exact .pure hH hx
    · simp at he; subst he
      exact .pure hH hx
  · simp at he; subst he
    exact .pure hH hx
end Go.AI
