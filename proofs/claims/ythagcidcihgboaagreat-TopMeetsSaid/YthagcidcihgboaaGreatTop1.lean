/-
  Own work. The kernel's blocks, a step of it over them, whoever calls: 'nxt'; heaps in which those blocks lie.
-/
import Derived.Test.YthagcidcihgboaaGreatCfg
import Derived.Test.YthagcidcihgboaaGreatAiReadL
import Derived.KernelRfl
namespace Go.AI
open Go
set_option linter.unusedVariables false
set_option linter.unusedSimpArgs false
namespace Top
def big : Nat := 3000
abbrev St := List (Option ABlk)
abbrev I (n : Int) : AV := .d (.v (.int .i64 n))
abbrev B (b : Bool) : AV := .d (.v (.bool b))
noncomputable def trOf : List Nat → St → Tr ABlk
  | b :: F, x :: l => (trOf F l).put b x
  | _, _ => .lf
theorem trOf_map (g : Nat → Option ABlk) : ∀ (F : List Nat) (x : Nat), hp (trOf F (F.map g)) x = if F.contains x = true then g x else none
  | [], x => by simp [trOf, hp, Tr.get_lf]
  | b :: F, x => by
    show ((trOf F (F.map g)).put b (g b)).get x = _
    rw [Tr.get_put]
    have := trOf_map g F x
    by_cases h : x = b
    · subst h; simp
    · rw [if_neg h]
      show hp (trOf F (F.map g)) x = _
      rw [this]
      simp [h]
theorem trOf_in : ∀ (F : List Nat) (s : St) (x : Nat) (b : ABlk), hp (trOf F s) x = some b → F.contains x = true
  | [], s, x, b, h => by simp [trOf, hp, Tr.get_lf] at h
  | c :: F, [], x, b, h => by simp [trOf, hp, Tr.get_lf] at h
  | c :: F, y :: s, x, b, h => by
    have h : ((trOf F s).put c y).get x = some b := h
    rw [Tr.get_put] at h
    by_cases e : x = c
    · subst e; simp
    · rw [if_neg e] at h
      have := trOf_in F s x b h
      simp only [List.contains_cons, this, Bool.or_true]
/-- Cells that name nothing from a number on. -/
def flatC (lo : Nat) : AV → Bool
  | .d _ => true
  | .nil _ => true
  | .ex _ _ => true
  | .dead => true
  | .ref b _ _ _ => Nat.blt b lo
  | .ptr b _ _ _ => Nat.blt b lo
  | _ => false
def flatO (lo : Nat) : Option ABlk → Bool
  | some (.row _ _ data) => data.all fun r => r.all (flatC lo)
  | _ => false
def reach (kp : AV) (c : Int) (H : Heap) : List Nat := [kp, I c].flatMap (refsIn H 4)
noncomputable def nxtF (kp : AV) (FK : List Nat) (FR : Nat) (c : Int) (H : Heap) (F : List Nat) : Option (Bool × St) :=
  if boxOK F [kp, I c] H FR = true then (match bcall cfg big 7 [kp, I c] (bcut H F) (boxTop F) with
    | some (.d (.v (.bool b)), hc, _) => if (F.all (fun x => closedB F (hp hc x)) && FK.all fun x => flatO FR (if F.contains x then hp hc x else H x)) = true then some (b, FK.map fun x => if F.contains x then hp hc x else H x) else none
    | _ => none) else none
/-- A step of a core, over the blocks of a list (no name of it from FR on): did it do something; the blocks then. -/
noncomputable def nxt (kp : AV) (FK : List Nat) (FR : Nat) (s : St) (c : Int) : Option (Bool × St) := nxtF kp FK FR c (hp (trOf FK s)) (reach kp c (hp (trOf FK s)))
/-- The blocks lie so in memory. -/
def Agr (FK : List Nat) (s : St) (H : Heap) : Prop := ∀ x, FK.contains x = true → H x = hp (trOf FK s) x
noncomputable def flatS (FK : List Nat) (FR : Nat) (s : St) : Bool := FK.all fun x => Nat.blt x FR && flatO FR (hp (trOf FK s) x)
/-- What a step does, whoever calls. -/
def Goes (kp : AV) (FK : List Nat) (FR : Nat) (s : St) (c : Int) (b : Bool) (s' : St) : Prop := flatS FK FR s' = true ∧ ∀ (H : Heap) (fr : Nat), Agr FK s H → FR ≤ fr → ∃ wr, boxCall (callω cfg) 7 [kp, I c] H fr = some ⟨B b, wr⟩ ∧ Agr FK s' (writes H wr) ∧ ∀ x, FK.contains x = false → writes H wr x = H x
theorem boxEnd_bool {F : List Nat} {Hc : Heap} {fr : Nat} {b : Bool} (h : (F.all fun x => closedB F (Hc x)) = true) : boxEnd F (B b) Hc fr = some ⟨B b, boxWr F Hc⟩ := by
  have hn : boxNews F (B b) = [] := rfl
  unfold boxEnd
  rw [hn, h]
  simp [nodupB, Go.AI.mapO, boxConv, toD, newWr, Nat.ble]
theorem fm_congr {α β : Type} {f g : α → List β} : ∀ (l : List α), (∀ x ∈ l, f x = g x) → l.flatMap f = l.flatMap g
  | [], _ => rfl
  | a :: r, h => by rw [List.flatMap_cons, List.flatMap_cons, h a (List.mem_cons_self ..), fm_congr r fun x hx => h x (List.mem_cons_of_mem _ hx)]
theorem nxt_goes {kp : AV} {FK : List Nat} {FR : Nat} {s s' : St} {c : Int} {b : Bool} (h : nxt kp FK FR s c = some (b, s')) (hlt : ∀ x, FK.contains x = true → x < FR) : Goes kp FK FR s c b s' := by
  unfold nxt nxtF at h
  generalize hH0 : hp (trOf FK s) = H0 at h
  generalize hF : reach kp c H0 = F at h
  split at h
  case isFalse => cases h
  rename_i hok
  split at h
  case h_2 => cases h
  rename_i v b' hc n hk
  split at h
  case isFalse => cases h
  rename_i hcl
  simp only [Bool.and_eq_true] at hcl
  obtain ⟨hcl, hfl⟩ := hcl
  simp only [Option.some.injEq, Prod.mk.injEq] at h
  obtain ⟨rfl, rfl⟩ := h
  have hok' := hok
  unfold boxOK at hok
  simp only [Bool.and_eq_true] at hok
  have hsub : ∀ x, F.contains x = true → FK.contains x = true := fun x hx => by
    have := List.all_eq_true.1 hok.1 x (by simpa using hx)
    simp only [Bool.and_eq_true] at this
    cases hb : H0 x with
    | none => rw [hb] at this; simp [closedB] at this
    | some y => exact trOf_in FK s x y (by rw [hH0]; exact hb)
  refine ⟨?_, fun H fr hA hfr => ?_⟩
  · unfold flatS
    refine List.all_eq_true.2 fun x hx => ?_
    have hx' : FK.contains x = true := by simpa using hx
    rw [trOf_map, if_pos hx']
    simp only [Bool.and_eq_true]
    exact ⟨by have := hlt x hx'; simp [Nat.blt]; omega, List.all_eq_true.1 hfl x hx⟩
  · have hA' : ∀ x, F.contains x = true → H x = H0 x := fun x hx => by rw [hA x (hsub x hx), hH0]
    have hreach : [kp, I c].flatMap (refsIn H 4) = F := by
      have : ∀ l : List AV, (∀ x ∈ l.flatMap (refsIn H0 4), H x = H0 x) → l.flatMap (refsIn H 4) = l.flatMap (refsIn H0 4) := fun l hl =>
        fm_congr l fun v hv => refsIn_congr _ v fun x hx => hl x (List.mem_flatMap.2 ⟨v, hv, hx⟩)
      refine (this [kp, I c] fun x hx => hA' x ?_).trans hF
      have hx2 : x ∈ F := by rw [← hF]; exact hx
      exact List.elem_iff.2 hx2
    have hcut : restr H F = restr H0 F := by
      funext x
      unfold restr
      by_cases hx : F.contains x = true
      · rw [if_pos hx, if_pos hx, hA' x hx]
      · rw [if_neg hx, if_neg hx]
    have hok2 : boxOK F [kp, I c] H fr = true := by
      unfold boxOK
      simp only [Bool.and_eq_true]
      refine ⟨List.all_eq_true.2 fun x hx => ?_, hok.2⟩
      have := List.all_eq_true.1 hok.1 x hx
      simp only [Bool.and_eq_true] at this ⊢
      rw [hA' x (by simpa using hx)]
      refine ⟨?_, this.2⟩
      have h1 := this.1
      simp [Nat.blt] at h1 ⊢
      omega
    have hcall := bcall_ok cfg big _ _ _ _ _ _ _ hk
    rw [hp_cut, ← hcut] at hcall
    refine ⟨boxWr F (hp hc), ?_, fun x hx => ?_, fun x hx => ?_⟩
    · unfold boxCall
      rw [hreach, if_pos hok2, hcall]
      exact boxEnd_bool hcl
    · rw [writes_box, trOf_map, if_pos hx]
      by_cases hF2 : F.contains x = true
      · rw [if_pos hF2, if_pos hF2]
      · rw [if_neg hF2, if_neg hF2, hA x hx, hH0]
    · rw [writes_box, if_neg]
      intro hF2
      rw [hsub x hF2] at hx; cases hx
/-! Memory at loop heads. -/
def FlatH (lo : Nat) (H : Heap) : Prop := ∀ b X, H b = some X → b < lo ∧ flatO lo (some X) = true
def FlatT (lo : Nat) (T : Tmps) : Prop := ∀ t, flatC lo (T t) = true
theorem canV_flat {lo : Nat} {H : Heap} {v : AV} (h : flatC lo v = true) : canV false lo H 4 v = v := by
  cases v with
  | ref b ver off len =>
    have : b < lo := Nat.lt_of_succ_le (by simpa [flatC, Nat.blt] using h)
    simp [canV, this]
  | ptr b ver i o =>
    have : b < lo := Nat.lt_of_succ_le (by simpa [flatC, Nat.blt] using h)
    simp [canV, this]
  | d x => rfl
  | nil s => rfl
  | ex s xs => rfl
  | dead => rfl
  | _ => simp [flatC] at h
theorem frzV_flat {lo nx0 : Nat} (hn : lo ≤ nx0) {H : Heap} {v : AV} (h : flatC lo v = true) : frzV (fun b => Nat.ble nx0 b) H 4 v = v := by
  cases v with
  | ref b ver off len =>
    have hb : b < lo := Nat.lt_of_succ_le (by simpa [flatC, Nat.blt] using h)
    have : Nat.ble nx0 b = false := by
      cases hc : Nat.ble nx0 b with
      | false => rfl
      | true => have := Nat.le_of_ble_eq_true hc; omega
    simp [frzV, this]
  | ptr b ver i o =>
    have hb : b < lo := Nat.lt_of_succ_le (by simpa [flatC, Nat.blt] using h)
    have : Nat.ble nx0 b = false := by
      cases hc : Nat.ble nx0 b with
      | false => rfl
      | true => have := Nat.le_of_ble_eq_true hc; omega
    simp [frzV, this]
  | d x => rfl
  | nil s => rfl
  | ex s xs => rfl
  | dead => rfl
  | _ => simp [flatC] at h
theorem map_flat {lo : Nat} {f : AV → AV} (hf : ∀ v, flatC lo v = true → f v = v) {data : List (List AV)} (h : (data.all fun r => r.all (flatC lo)) = true) : (data.map fun r => r.map f) = data := by
  have : ∀ r ∈ data, r.map f = r := fun r hr => by
    have h1 := List.all_eq_true.1 h r hr
    calc r.map f = r.map id := List.map_congr_left fun v hv => hf v (List.all_eq_true.1 h1 v hv)
      _ = r := List.map_id r
  calc (data.map fun r => r.map f) = data.map id := List.map_congr_left this
    _ = data := List.map_id data
theorem canT_flat {lo : Nat} {H : Heap} {T : Tmps} (h : FlatT lo T) : canT false lo H T = T := funext fun t => canV_flat (h t)
theorem frzT_flat {lo nx0 : Nat} (hn : lo ≤ nx0) {H : Heap} {T : Tmps} (h : FlatT lo T) : frzT (fun b => Nat.ble nx0 b) H T = T := funext fun t => frzV_flat hn (h t)
theorem canH_flat {lo : Nat} {H : Heap} (h : FlatH lo H) : canH false lo H = H := by
  funext b
  unfold canH
  cases hb : H b with
  | none => rfl
  | some X =>
    obtain ⟨h1, h2⟩ := h b X hb
    cases X with
    | mp es => simp [flatO] at h2
    | row s ver data =>
      simp only [canB, if_pos h1]
      rw [map_flat (fun v hv => canV_flat hv) h2]
theorem frzH_flat {lo nx0 : Nat} (hn : lo ≤ nx0) {H : Heap} (h : FlatH lo H) : frzH (fun b => Nat.ble nx0 b) H = H := by
  funext b
  unfold frzH
  cases hb : H b with
  | none => split <;> rfl
  | some X =>
    obtain ⟨h1, h2⟩ := h b X hb
    have : Nat.ble nx0 b = false := by
      cases hc : Nat.ble nx0 b with
      | false => rfl
      | true => have := Nat.le_of_ble_eq_true hc; omega
    simp only [this]
    cases X with
    | mp es => simp [flatO] at h2
    | row s ver data =>
      simp only [Bool.false_eq_true, if_false, frzB]
      rw [map_flat (fun v hv => frzV_flat hn hv) h2]
theorem flatC_le {lo lo' : Nat} (hl : lo ≤ lo') {v : AV} (h : flatC lo v = true) : flatC lo' v = true := by
  cases v with
  | ref b ver off len => simp [flatC, Nat.blt] at h ⊢; omega
  | ptr b ver i o => simp [flatC, Nat.blt] at h ⊢; omega
  | d x => rfl
  | nil s => rfl
  | ex s xs => rfl
  | dead => rfl
  | _ => simp [flatC] at h
theorem flatO_le {lo lo' : Nat} (hl : lo ≤ lo') {X : Option ABlk} (h : flatO lo X = true) : flatO lo' X = true := by
  cases X with
  | none => simp [flatO] at h
  | some X =>
    cases X with
    | mp es => simp [flatO] at h
    | row s ver data =>
      unfold flatO at h ⊢
      exact List.all_eq_true.2 fun r hr => List.all_eq_true.2 fun v hv => flatC_le hl (List.all_eq_true.1 (List.all_eq_true.1 h r hr) v hv)
/-- A step keeps memory flat. -/
theorem flat_goes {FK : List Nat} {FR lo : Nat} (hlo : FR ≤ lo) {s' : St} (hs : flatS FK FR s' = true) {H H' : Heap} (hH : FlatH lo H) (hA : Agr FK s' H') (ho : ∀ x, FK.contains x = false → H' x = H x) : FlatH lo H' := by
  intro b X hb
  cases hc : FK.contains b with
  | false => rw [ho b hc] at hb; exact hH b X hb
  | true =>
    have := List.all_eq_true.1 hs b (by simpa using hc)
    simp only [Bool.and_eq_true] at this
    rw [← hA b hc, hb] at this
    refine ⟨?_, flatO_le hlo this.2⟩
    have h1 := this.1
    simp [Nat.blt] at h1
    omega
end Top
end Go.AI
