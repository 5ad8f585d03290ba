/-
  Own work. The value interpreter over symbols is sound over the value interpreter: memory, operations.
-/
import Derived.Test.YtljhobohpnpedaaAiV
namespace Go.AI
open Go
set_option linter.unusedVariables false
set_option linter.unusedSimpArgs false
variable {V : VHeap} {p : Nat → Bool}

theorem mapO_map {α β γ : Type} {f : β → Option γ} {g : α → β} : ∀ {l : List α}, mapO f (l.map g) = mapO (fun a => f (g a)) l
  | [] => rfl
  | a :: l => by simp only [List.map_cons, mapO]; rw [mapO_map]
theorem mapO_id {α : Type} {f : α → Option α} (h : ∀ a, f a = some a) : ∀ {l : List α}, mapO f l = some l
  | [] => rfl
  | a :: l => by simp only [mapO, h, mapO_id h]
theorem mapO_d {H : Heap} {n : Nat} (r : List DV) : mapO (toD p H (n + 1)) (r.map .d) = some r := by
  rw [mapO_map]
  exact mapO_id fun a => rfl
theorem mapO_embed {H : Heap} {n : Nat} (xs : List (List DV)) : mapO (fun r => mapO (toD p H (n + 1)) r) (embed xs) = some xs := by
  unfold embed
  rw [mapO_map]
  exact mapO_id fun a => mapO_d a
theorem embed_cut (xs : List (List DV)) (off len : Nat) : ((embed xs).drop off).take len = embed ((xs.drop off).take len) := by
  unfold embed
  rw [List.map_take, List.map_drop]
theorem embed_get (xs : List (List DV)) (i : Nat) : (embed xs)[i]? = (xs[i]?).map (·.map AV.d) := by
  unfold embed
  rw [List.getElem?_map]
theorem embed_len (xs : List (List DV)) : (embed xs).length = xs.length := by simp [embed]
theorem den_none {b : Nat} (h : V b = none) : den V b = none := by simp [den, h, denO]
theorem den_some {b : Nat} {B : VBlk} (h : V b = some B) : den V b = some B.den := by simp [den, h, denO]
theorem toDV_eq : ∀ (n : Nat) (v : AV), toDV p V n v = toD p (den V) n v
  | 0, v => by cases v <;> simp only [toDV, toD]
  | n + 1, v => by
    have ih : toDV p V n = toD p (den V) n := funext (toDV_eq n)
    cases v with
    | ref b ver off len =>
      simp only [toDV, toD]
      cases hp : p b with
      | false => rfl
      | true =>
        simp only [if_true]
        cases hb : V b with
        | none => rw [den_none hb]
        | some B =>
          rw [den_some hb]
          cases B with
          | cell s v' r => simp only [VBlk.den]; rw [ih]; rfl
          | raw s v' rows => simp only [VBlk.den]; rw [ih]; rfl
          | drow s v' xs =>
            simp only [VBlk.den]
            split
            · cases n with
              | zero => simp only; rw [ih]; rfl
              | succ n => simp only; rw [embed_cut, mapO_embed]
            · rfl
          | mp ag es => rfl
    | ptr b ver i o =>
      simp only [toDV, toD]
      cases hp : p b with
      | false => rfl
      | true =>
        simp only [if_true]
        cases hb : V b with
        | none => rw [den_none hb]
        | some B =>
          rw [den_some hb]
          cases B with
          | cell s v' r => simp only [VBlk.den]; rw [ih]; rfl
          | raw s v' rows => simp only [VBlk.den]; rw [ih]; rfl
          | drow s v' xs =>
            simp only [VBlk.den]
            split
            · cases n with
              | zero => simp only; rw [ih]; rfl
              | succ n =>
                simp only
                rw [embed_get]
                cases xs[i]? with
                | none => rfl
                | some r => simp only [Option.map_some]; rw [mapO_d]
            · rfl
          | mp ag es => rfl
    | fn f caps => simp only [toDV, toD]; rw [ih]; rfl
    | _ => simp only [toDV, toD]
theorem frzVV_eq : ∀ (n : Nat) (v : AV), frzVV p V n v = frzV p (den V) n v
  | 0, v => by cases v <;> simp only [frzVV, frzV]
  | n + 1, v => by
    have ih : frzVV p V n = frzV p (den V) n := funext (frzVV_eq n)
    cases v with
    | ref b ver off len => simp only [frzVV, frzV]; rw [toDV_eq]; rfl
    | ptr b ver i o => simp only [frzVV, frzV]; rw [toDV_eq]; rfl
    | agg cs => simp only [frzVV, frzV]; rw [ih]
    | tup cs => simp only [frzVV, frzV]; rw [ih]
    | fn f cs => simp only [frzVV, frzV]; rw [ih]
    | _ => simp only [frzVV, frzV]
theorem snapV_eq : ∀ (n : Nat) (v : AV), snapV p V n v = snap p (den V) n v
  | 0, v => by cases v <;> simp only [snapV, snap]
  | n + 1, v => by
    have ih : snapV p V n = snap p (den V) n := funext (snapV_eq n)
    cases v with
    | agg cs => simp only [snapV, snap]; rw [ih]; rfl
    | tup cs => simp only [snapV, snap]; rw [ih]; rfl
    | _ => simp only [snapV, snap]; rw [toDV_eq]; rfl
theorem frzTV_eq (T : Tmps) : frzTV p V T = frzT p (den V) T := funext fun t => frzVV_eq 4 (T t)
theorem frz_embed {H : Heap} (xs : List (List DV)) : (embed xs).map (fun r => r.map (frzV p H 4)) = embed xs := by
  unfold embed
  rw [List.map_map]
  refine List.map_congr_left fun r _ => ?_
  simp only [Function.comp]
  rw [List.map_map]
  exact List.map_congr_left fun x _ => rfl
theorem frz_key (ag : Bool) (k : List DV) : frzV p (den V) 4 (keyAV ag k) = keyAV ag k := by
  cases ag with
  | true =>
    simp only [keyAV, frzV, List.map_map]
    congr 1
  | false =>
    match k with
    | [] => rfl
    | [x] => rfl
    | x :: y :: r => rfl
theorem frzBV_eq (B : VBlk) : (frzBV p V B).den = frzB p (den V) B.den := by
  cases B with
  | cell s v r =>
    simp only [frzBV, VBlk.den, frzB, List.map_cons, List.map_nil]
    rw [show frzVV p V 4 = frzV p (den V) 4 from funext (frzVV_eq 4)]
  | raw s v rows =>
    simp only [frzBV, VBlk.den, frzB]
    rw [show frzVV p V 4 = frzV p (den V) 4 from funext (frzVV_eq 4)]
  | drow s v xs => simp only [frzBV, VBlk.den, frzB]; rw [frz_embed]
  | mp ag es =>
    simp only [frzBV, VBlk.den, frzB, List.map_map]
    congr 1
    refine List.map_congr_left fun e _ => ?_
    simp only [Function.comp, entAV, frz_key]
    rfl
theorem frzHV_eq : den (frzHV p V) = frzH p (den V) := by
  funext b
  unfold den frzHV frzH
  cases hp : p b with
  | true => rfl
  | false =>
    simp only [Bool.false_eq_true, if_false]
    cases hb : V b with
    | none => simp [denO]
    | some B => simp only [denO]; rw [frzBV_eq]; rfl
theorem frzKV_eq : den (frzKV p V) = frzK p (den V) := by
  funext b
  have e1 : den (frzKV p V) b = denO (frzKV p V b) := rfl
  rw [e1]
  unfold frzKV frzK
  cases hb : V b with
  | none => rw [den_none hb]; rfl
  | some B =>
    rw [den_some hb]
    cases B with
    | mp ag es =>
      show some (frzBV p V (.mp ag es)).den = _
      rw [frzBV_eq]; rfl
    | cell s v r =>
      cases hp : p b with
      | true => simp [denO, VBlk.den, staleV, embed]
      | false =>
        simp only [Bool.false_eq_true, if_false, denO]
        rw [frzBV_eq]
        simp [VBlk.den]
    | raw s v r =>
      cases hp : p b with
      | true => simp [denO, VBlk.den, staleV, embed]
      | false =>
        simp only [Bool.false_eq_true, if_false, denO]
        rw [frzBV_eq]
        simp [VBlk.den]
    | drow s v r =>
      cases hp : p b with
      | true => simp [denO, VBlk.den, staleV, embed]
      | false =>
        simp only [Bool.false_eq_true, if_false, denO]
        rw [frzBV_eq]
        simp [VBlk.den]
theorem flat_embed {α : Type} (f : AV → List α) (hf : ∀ x, f (.d x) = []) (xs : List (List DV)) : ((embed xs).flatMap fun r => r.flatMap f) = [] := by
  rw [List.flatMap_eq_nil_iff]
  intro r hr
  unfold embed at hr
  obtain ⟨x, hx, rfl⟩ := List.mem_map.1 hr
  rw [List.flatMap_eq_nil_iff]
  intro y hy
  obtain ⟨z, hz, rfl⟩ := List.mem_map.1 hy
  exact hf z
theorem refsInV_eq : ∀ (n : Nat) (v : AV), refsInV V n v = refsIn (den V) n v
  | 0, v => by simp only [refsInV, refsIn]
  | n + 1, v => by
    have ih : refsInV V n = refsIn (den V) n := funext (refsInV_eq n)
    simp only [refsInV, refsIn]
    congr 1
    funext b
    cases hb : V b with
    | none => simp [den_none hb]
    | some B =>
      rw [den_some hb]
      cases B with
      | cell s v r => simp only [VBlk.den]; rw [ih]; simp
      | raw s v rows => simp only [VBlk.den]; rw [ih]
      | drow s v xs =>
        simp only [VBlk.den]
        rw [flat_embed]
        intro x
        cases n with
        | zero => rfl
        | succ n => simp [refsIn, refs]
      | mp ag es => rfl
theorem den_vset (V : VHeap) (b : Nat) (x : Option VBlk) : den (vset V b x) = hset (den V) b (denO x) := by
  funext c
  unfold den vset hset
  split <;> rfl
theorem den_vwrites : ∀ (l : VWr) (V : VHeap), den (vwrites V l) = writes (den V) (denW l)
  | [], V => rfl
  | (b, x) :: r, V => by
    simp only [vwrites, denW, List.map_cons, writes]
    rw [den_vwrites, den_vset]
    rfl
theorem den_vrestr (V : VHeap) (F : List Nat) : den (vrestr V F) = restr (den V) F := by
  funext b
  unfold den vrestr restr
  split <;> simp_all [denO]
theorem stale_den (B : VBlk) (hB : ∀ ag es, B ≠ .mp ag es) : ∃ s v d, B.den = .row s v d ∧ (staleV B).den = .row s (v + 1) [] := by
  cases B with
  | cell s v r => exact ⟨s, v, _, rfl, by simp [staleV, VBlk.den, embed]⟩
  | raw s v r => exact ⟨s, v, _, rfl, by simp [staleV, VBlk.den, embed]⟩
  | drow s v xs => exact ⟨s, v, _, rfl, by simp [staleV, VBlk.den, embed]⟩
  | mp ag es => exact absurd rfl (hB ag es)
theorem den_killed (V : VHeap) : ∀ p : List Nat, denW (killedV V p) = killed (den V) p
  | [] => rfl
  | b :: r => by
    have ih := den_killed V r
    unfold killedV killed at *
    cases hb : V b with
    | none =>
      have hd : den V b = none := den_none hb
      rw [List.filterMap_cons, List.filterMap_cons]
      simp only [hb, hd]
      exact ih
    | some B =>
      have hd := den_some hb
      rw [List.filterMap_cons, List.filterMap_cons]
      cases B with
      | mp ag es =>
        simp only [hb, hd, VBlk.den]
        exact ih
      | cell s v r =>
        simp only [hb, hd, VBlk.den]
        show (b, denO (some (staleV (.cell s v r)))) :: denW _ = _
        rw [ih]
        rfl
      | raw s v r =>
        simp only [hb, hd, VBlk.den]
        show (b, denO (some (staleV (.raw s v r)))) :: denW _ = _
        rw [ih]
        rfl
      | drow s v r =>
        simp only [hb, hd, VBlk.den]
        show (b, denO (some (staleV (.drow s v r)))) :: denW _ = _
        rw [ih]
        rfl
theorem keys_denW (l : VWr) : (denW l).map (·.1) = l.map (·.1) := by simp [denW, Function.comp]
end Go.AI
