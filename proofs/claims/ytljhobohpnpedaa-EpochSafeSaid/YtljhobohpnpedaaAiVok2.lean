/-
  Own work. The value interpreter over symbols is sound: operations.
-/
import Derived.Test.YtljhobohpnpedaaAiVok
namespace Go.AI
open Go
set_option linter.unusedVariables false
set_option linter.unusedSimpArgs false
variable {V : VHeap} {p : Nat → Bool} {β : Type} {r : β}

theorem run_stop {r : β} : (Tree.stop : Tree β).run = some r ↔ False := by simp [Tree.run]
theorem run_need {p : Prop} {i : Decidable p} {t : Tree β} : (Tree.need p i t).run = some r ↔ p ∧ t.run = some r := by
  simp only [Tree.run]
  by_cases h : p <;> simp [h]
theorem run_get {α : Type} {o : Option α} {k : α → Tree β} : (Tree.get o k).run = some r ↔ ∃ a, o = some a ∧ (k a).run = some r := by
  cases o with
  | none => exact ⟨(fun h => by cases h), (fun ⟨a, h, _⟩ => by cases h)⟩
  | some a => exact ⟨(fun h => ⟨a, rfl, h⟩), (fun ⟨b, h, h2⟩ => by cases h; exact h2)⟩
theorem run_ask {c : Bool} {t f : Tree β} : (Tree.ask c t f).run = some r ↔ (c = true ∧ t.run = some r) ∨ (c = false ∧ f.run = some r) := by
  simp only [Tree.run]
  cases c <;> simp
def denE (e : VEff) : Eff := ⟨e.v, denW e.wr⟩

theorem virtW_den : ∀ (k : Nat) (cs : List AV), denW (virtW k cs) = (virt k cs).2
  | _, [] => rfl
  | k, c :: r => by
    cases c with
    | nil s =>
      simp only [virtW, virt]
      show (k, some (ABlk.row s 0 (embed []))) :: denW _ = _
      rw [virtW_den]; rfl
    | _ => simp only [virtW, virt]; exact virtW_den k r
theorem vmkRow_ok {fr : Nat} {cs : List AV} {k : VEff → Tree β} (h : (vmkRow fr cs k).run = some r) : ∃ e, mkRow fr cs = some (denE e) ∧ (k e).run = some r := by
  unfold vmkRow at h
  split at h
  · rename_i hc
    refine ⟨_, ?_, h⟩
    unfold mkRow
    rw [if_pos hc]
    simp only [denE, denW, List.map_cons]
    have := virtW_den (fr + 1) cs
    unfold denW at this
    rw [this]
    rfl
  · exact (run_stop.1 h).elim
theorem vnextVer_eq (b : Nat) (hn : notMp (V b) = true) : nextVer (den V) b = some (vnextVer V b) := by
  unfold nextVer vnextVer
  cases hb : V b with
  | none => rw [den_none hb]
  | some B =>
    rw [den_some hb]
    cases B with
    | mp ag es => rw [hb] at hn; cases hn
    | raw s1 v1 rows1 => rfl
    | cell s v r => rfl
    | drow s v r => rfl
theorem still_ok {x : AV} {k : VEff → Tree β} (h : (k ⟨x, []⟩).run = some r) : ∃ e, some (⟨x, []⟩ : Eff) = some (denE e) ∧ (k e).run = some r := ⟨⟨x, []⟩, rfl, h⟩
theorem vwhole_ok {pt : Bool} {off len n : Nat} {t f : Tree β} (h : (vwhole pt off len n t f).run = some r) : ((off = 0 ∧ len = n) ∧ t.run = some r) ∨ (¬ (off = 0 ∧ len = n) ∧ f.run = some r) := by
  unfold vwhole at h
  cases pt with
  | true =>
    rcases run_ask.1 h with ⟨h1, h⟩ | ⟨h1, h⟩
    · exact .inl ⟨of_decide_eq_true h1, h⟩
    · exact .inr ⟨of_decide_eq_false h1, h⟩
  | false =>
    cases off with
    | zero =>
      obtain ⟨h1, h⟩ := run_need.1 h
      exact .inl ⟨⟨rfl, h1⟩, h⟩
    | succ m => exact .inr ⟨fun h1 => by simp at h1, h⟩
theorem vassign_ok {pt : Bool} {P : Program} {F : Fm} {t : TypeId} {dst : Option Tmp} {x : AV} {k : VEff → Tree β} (h : (vassign P pt F V t dst x k).run = some r) : ∃ e, assignA P F (den V) t dst x = some (denE e) ∧ (k e).run = some r := by
  unfold vassign at h
  unfold assignA
  split at h
  · rename_i d s0
    simp only
    split at h
    · rename_i hnm
      rw [if_pos hnm]
      split at h
      · rename_i e0 s by0 ht
        split at h
        · rename_i hn
          refine ⟨_, ?_, h⟩
          simp only [ht, vnextVer_eq _ hn]
          rfl
        · exact (run_stop.1 h).elim
      · exact (run_stop.1 h).elim
    · rename_i hnm
      rw [if_neg hnm]
      exact still_ok h
  · rename_i d b ver off len
    simp only
    split at h
    · rename_i hlo
      rw [if_pos hlo]
      cases hb : V b with
      | none =>
        rw [hb] at h
        rw [den_none hb]
        exact still_ok h
      | some B =>
        rw [hb] at h
        rw [den_some hb]
        cases B with
        | cell s v r' => exact (run_stop.1 h).elim
        | mp ag es => exact (run_stop.1 h).elim
        | raw s1 v1 rows1 => exact (run_stop.1 h).elim
        | drow s v xs =>
          simp only [VBlk.den, embed_len] at h ⊢
          split at h
          · rename_i hc
            split at h
            rotate_left
            · exact (run_stop.1 h).elim
            rename_i hn
            simp only [vnextVer_eq _ hn, embed_len]
            rcases vwhole_ok h with ⟨h1, h⟩ | ⟨h1, h⟩
            · rw [if_pos ⟨hc.1, h1.1, h1.2, hc.2⟩]
              rw [← h1.2] at h
              exact ⟨_, rfl, h⟩
            · rw [if_neg (fun h2 => h1 ⟨h2.2.1, h2.2.2.1⟩)]
              exact still_ok h
          · rename_i hc
            cases nextVer (den V) (F.sb + d) with
            | none => exact still_ok h
            | some n =>
              simp only
              rw [if_neg (fun h2 => hc ⟨h2.1, h2.2.2.2⟩)]
              exact still_ok h
    · rename_i hlo
      rw [if_neg hlo]
      exact still_ok h
  · rename_i h1 h2
    refine ⟨⟨x, []⟩, ?_, h⟩
    cases dst with
    | none => rfl
    | some d =>
      cases x with
      | nil s => exact absurd rfl (h1 d s rfl)
      | ref b ver off len => exact absurd rfl (h2 d b ver off len rfl)
      | _ => rfl
theorem dInt_some {k : IntKind} {r : List DV} {o : Nat} {n : Int} (h : dInt k r o = some n) : r[o]? = some (.v (.int k n)) := by
  unfold dInt at h
  split at h
  · rename_i k' m hr
    split at h
    · rename_i hk; subst hk; simp at h; subst h; exact hr
    · cases h
  · cases h
theorem dBool_some {r : List DV} {o : Nat} {n : Bool} (h : dBool r o = some n) : r[o]? = some (.v (.bool n)) := by
  unfold dBool at h
  split at h
  · rename_i m hr; simp at h; subst h; exact hr
  · cases h
theorem dStr_some {r : List DV} {o : Nat} {n : ByteArray} (h : dStr r o = some n) : r[o]? = some (.v (.string n)) := by
  unfold dStr at h
  split at h
  · rename_i h1; cases h; exact h1
  · cases h
theorem dLst_some {s : Nat} {r : List DV} {o : Nat} {xs : List (List DV)} (h : dLst s r o = some xs) : r[o]? = some (.lst s xs) := by
  unfold dLst at h
  split at h
  · rename_i s' ys hr
    split at h
    · rename_i hk; subst hk; simp at h; subst h; exact hr
    · cases h
  · cases h
theorem getCells_cons {r : List DV} {o n : Nat} {x : DV} {cs : List AV} (h : r[o]? = some x) (h1 : n = 0 ∧ cs = [] ∨ getCells (r.map .d) (o + 1) n = some cs) : getCells (r.map .d) o (n + 1) = some (.d x :: cs) := by
  have hlt : o < r.length := (List.getElem?_eq_some_iff.1 h).1
  have hx : r[o] = x := (List.getElem?_eq_some_iff.1 h).2
  have hd : (r.map AV.d).drop o = .d x :: (r.map AV.d).drop (o + 1) := by
    rw [List.drop_eq_getElem_cons (by simpa using hlt)]
    simp [hx]
  unfold getCells at h1 ⊢
  rcases h1 with ⟨rfl, rfl⟩ | h1
  · rw [if_pos (by simp; omega), hd]; simp
  · split at h1
    · rename_i hl
      simp at h1 hl
      rw [if_pos (by simp; omega), hd, List.take_succ_cons, h1]
    · cases h1
theorem vcells_ok : ∀ {ks : List CK} {row : List DV} {o : Nat} {k : List AV → Tree β}, (vcells ks row o k).run = some r → ∃ cs, (ks = [] ∧ cs = [] ∨ getCells (row.map .d) o ks.length = some cs) ∧ (k cs).run = some r
  | [], row, o, k, h => ⟨[], .inl ⟨rfl, rfl⟩, h⟩
  | c :: ks, row, o, k, h => by
    have fin : ∀ {x : DV}, row[o]? = some x → (vcells ks row (o + 1) fun l => k (.d x :: l)).run = some r → ∃ cs, ((c :: ks) = [] ∧ cs = [] ∨ getCells (row.map .d) o (c :: ks).length = some cs) ∧ (k cs).run = some r := by
      intro x hx h
      obtain ⟨cs, h1, h2⟩ := vcells_ok h
      exact ⟨_, .inr (getCells_cons hx (h1.imp (fun h => ⟨by rw [h.1]; rfl, h.2⟩) id)), h2⟩
    cases c with
    | int kd =>
      obtain ⟨z, h1, h⟩ := run_get.1 h
      exact fin (dInt_some h1) h
    | bool =>
      obtain ⟨z, h1, h⟩ := run_get.1 h
      exact fin (dBool_some h1) h
    | str =>
      obtain ⟨z, h1, h⟩ := run_get.1 h
      exact fin (dStr_some h1) h
    | lst s =>
      obtain ⟨z, h1, h⟩ := run_get.1 h
      exact fin (dLst_some h1) h
theorem vtyped_ok {P : Program} {t : TypeId} {n o : Nat} {row : List DV} {k : VEff → Tree β} (h : (vtyped P t n row o k).run = some r) :
    ∃ e, (match getCells (row.map .d) o n with | some cs => (match partA (tagg P t) cs with | some v => some (⟨v, []⟩ : Eff) | none => none) | none => none) = some (denE e) ∧ (k e).run = some r := by
  unfold vtyped at h
  split at h
  · rename_i c ks hk
    split at h
    · rename_i hl
      obtain ⟨cs, h1, h2⟩ := vcells_ok h
      rcases h1 with ⟨h1, _⟩ | h1
      · cases h1
      · rw [hl] at h1
        rw [h1]
        simp only
        split at h2
        · rename_i v hv
          rw [hv]; exact still_ok h2
        · exact (run_stop.1 h2).elim
    · exact (run_stop.1 h).elim
  · exact (run_stop.1 h).elim
theorem vload_ok {P : Program} {t : TypeId} {a : AV} {ρ : Operand → AV} {x : Operand} (ha : ρ x = a) {F : Fm} {fr : Nat} {o : Oper} (ho : o.op = .load t x) {k : VEff → Tree β} (h : (vload P V t a k).run = some r) : ∃ e, eff P F ρ (den V) fr o = some (denE e) ∧ (k e).run = some r := by
  obtain ⟨dst, op, type, pos, after, guard⟩ := o
  simp only at ho
  subst ho
  subst ha
  simp only [eff]
  unfold vload at h
  split at h
  · exact (run_stop.1 h).elim
  · rename_i n hn
    rw [hn]
    simp only
    have fin : ∀ {cells : List AV} {o' : Nat}, (match getCells cells o' n with | some cs => (match partA (tagg P t) cs with | some v => k ⟨v, []⟩ | none => Tree.stop) | none => Tree.stop).run = some r →
        ∃ e, (match getCells cells o' n with | some cs => (match partA (tagg P t) cs with | some v => some (⟨v, []⟩ : Eff) | none => none) | none => none) = some (denE e) ∧ (k e).run = some r := by
      intro cells o' h
      cases hg : getCells cells o' n with
      | none => simp [hg, Tree.run] at h
      | some cs =>
        rw [hg] at h
        simp only at h ⊢
        cases hp : partA (tagg P t) cs with
        | none => simp [hp, Tree.run] at h
        | some v => rw [hp] at h; exact still_ok h
    split at h
    · rename_i b ver i o' hp
      rw [hp]
      simp only
      cases hb : V b with
      | none => simp [hb, Tree.run] at h
      | some B =>
        rw [hb] at h
        rw [den_some hb]
        cases B with
        | cell s v r' =>
          simp only [VBlk.den] at h ⊢
          split at h
          · rename_i hc
            rw [if_pos hc.1]
            rw [hc.2]
            simp only [List.getElem?_cons_zero]
            exact fin h
          · exact (run_stop.1 h).elim
        | mp ag es => exact (run_stop.1 h).elim
        | raw s1 v1 rows1 => exact (run_stop.1 h).elim
        | drow s v xs =>
          simp only [VBlk.den] at h ⊢
          split at h
          · rename_i hc
            rw [if_pos hc]
            obtain ⟨row, h1, h2⟩ := run_get.1 h
            rw [embed_get, h1]
            simp only [Option.map_some]
            exact vtyped_ok h2
          · exact (run_stop.1 h).elim
    · rename_i y o' hp
      rw [hp]
      simp only
      exact vtyped_ok h
    · exact (run_stop.1 h).elim
end Go.AI
