/-
  Own work. The value interpreter over symbols is sound: stores, slices.
-/
import Derived.Test.YtljhobohpnpedaaAiVok2
namespace Go.AI
open Go
set_option linter.unusedVariables false
set_option linter.unusedSimpArgs false
variable {V : VHeap} {p : Nat → Bool} {β : Type} {r : β}

theorem asD_some {x : AV} {d : DV} (h : asD x = some d) : x = .d d := by
  cases x <;> simp [asD] at h
  rw [h]
theorem mapO_asD : ∀ {cs : List AV} {ds : List DV}, mapO asD cs = some ds → cs = ds.map .d
  | [], ds, h => by simp [mapO] at h; subst h; rfl
  | c :: cs, ds, h => by
    simp only [mapO] at h
    cases hc : asD c with
    | none => simp [hc] at h
    | some d =>
      cases hr : mapO asD cs with
      | none => simp [hc, hr] at h
      | some l =>
        simp [hc, hr] at h; subst h
        simp only [List.map_cons]
        rw [← asD_some hc, ← mapO_asD hr]
theorem virt_data : ∀ (ds : List DV) (k : Nat), virt k (ds.map .d) = (ds.map .d, [])
  | [], k => rfl
  | d :: ds, k => by simp only [List.map_cons, virt]; rw [virt_data]
theorem putCells_data (row ds : List DV) (o : Nat) : putCells (row.map .d) o (ds.map .d) = (putD row o ds).map .d := by
  unfold putCells putD
  simp only [List.map_append, List.map_take, List.map_drop, List.length_map]
theorem embed_set (xs : List (List DV)) (i : Nat) (row : List DV) : (embed xs).set i (row.map .d) = embed (xs.set i row) := by
  unfold embed
  rw [List.map_set]
theorem embed_over (xs ys : List (List DV)) (n : Nat) : overRows (embed xs) n (embed ys) = embed (overD xs n ys) := by
  unfold overRows overD embed
  simp only [List.map_append, List.map_take, List.map_drop, List.length_map]
theorem embed_append (xs ys : List (List DV)) : embed xs ++ embed ys = embed (xs ++ ys) := by simp [embed]
theorem tyNil_data {P : Program} {t : TypeId} {x : AV} {ds : List DV} (h : x.cells = ds.map .d) : (tyNil P t x).cells = ds.map .d := by
  cases x with
  | nil s =>
    simp only [AV.cells] at h
    cases ds with
    | nil => simp at h
    | cons a l => simp at h
  | _ => exact h
theorem nzA_data {vt : Bool} {x : AV} {ds : List DV} (h : x.cells = ds.map .d) : (nzA vt x).cells = ds.map .d := by
  cases vt with
  | true => cases x <;> simpa [nzA, nzL, AV.cells] using h
  | false =>
    cases x with
    | agg cs =>
      simp only [AV.cells] at h
      subst h
      simp only [nzA, nzL, AV.cells, Bool.not_false, if_true, List.map_map]
      rfl
    | nil s => 
      simp only [AV.cells] at h
      cases ds with
      | nil => cases h
      | cons d ds => simp at h
    | _ => simpa [nzA, deNil, AV.cells] using h
theorem vstore_ok {P : Program} {F : Fm} {fr : Nat} {t : TypeId} {ρ : Operand → AV} {a x : Operand} {o : Oper} (ho : o.op = .store t a x) {k : VEff → Tree β} (h : (vstore P F.vt V fr t (ρ a) (ρ x) k).run = some r) : ∃ e, eff P F ρ (den V) fr o = some (denE e) ∧ (k e).run = some r := by
  obtain ⟨dst, op, type, pos, after, guard⟩ := o
  simp only at ho
  subst ho
  simp only [eff]
  unfold vstore at h
  split at h
  · rename_i n b ver i o' hn hp
    simp only [hn, hp]
    cases hb : V b with
    | none => simp [hb, Tree.run] at h
    | some B =>
      rw [hb] at h
      rw [den_some hb]
      cases B with
      | mp ag es => exact (run_stop.1 h).elim
      | raw s1 v1 rows1 => exact (run_stop.1 h).elim
      | cell s v row =>
        simp only [VBlk.den] at h ⊢
        split at h
        · rename_i hc
          obtain ⟨c1, c2, c3, c4, c5, c6⟩ := hc
          subst c2
          rw [if_pos ⟨c1, c3, c4⟩]
          simp only [List.getElem?_cons_zero]
          rw [if_pos ⟨c5, c6⟩]
          refine ⟨_, ?_, h⟩
          simp only [denE, denW, List.map_cons, List.set_cons_zero]
          have := virtW_den fr (nzA F.vt (tyNil P t (ρ x))).cells
          unfold denW at this
          rw [this]
          rfl
        · exact (run_stop.1 h).elim
      | drow s v xs =>
        simp only [VBlk.den] at h ⊢
        split at h
        · rename_i hc
          rw [if_pos hc]
          split at h
          · rename_i ds hds
            obtain ⟨row, h1, h2⟩ := run_get.1 h
            rw [embed_get, h1]
            simp only [Option.map_some]
            have hcs := nzA_data (vt := F.vt) (tyNil_data (P := P) (t := t) (mapO_asD hds))
            obtain ⟨hon, h2⟩ := run_need.1 h2
            rw [if_pos ⟨by simpa using hon, by rw [hcs, virt_data]; simp⟩]
            refine ⟨_, ?_, h2⟩
            rw [hcs, virt_data, putCells_data, embed_set]
            rfl
          · exact (run_stop.1 h).elim
        · exact (run_stop.1 h).elim
  · exact (run_stop.1 h).elim
theorem rowsD_ok {s0 : Nat} {x : AV} {ys : List (List DV)} (h : rowsD V s0 x = some ys) : rowsOf (den V) s0 x = some (embed ys) := by
  unfold rowsD at h
  unfold rowsOf
  split at h
  · rename_i s xs
    simp only
    split at h
    · rename_i hs; simp at h; subst h; rw [if_pos hs]
    · cases h
  · rename_i s xs
    simp only
    split at h
    · rename_i hs; simp at h; subst h; rw [if_pos hs]
    · cases h
  · simp at h; subst h; rfl
  · rename_i b ver off len
    simp only
    cases hb : V b with
    | none => simp [hb] at h
    | some B =>
      rw [hb] at h
      rw [den_some hb]
      cases B with
      | cell s v row => simp at h
      | mp ag es => simp at h
      | raw s1 v1 rows1 => simp at h
      | drow s v xs =>
        simp only [VBlk.den] at h ⊢
        split at h
        · rename_i hc
          simp at h; subst h
          rw [if_pos hc, embed_cut]
        · cases h
  · cases h
theorem embed_nil {ys : List (List DV)} : (embed ys).isEmpty = ys.isEmpty := by cases ys <;> rfl
theorem vappend_ok {pt : Bool} {P : Program} {fr : Nat} {t : TypeId} {x y : AV} {k : VEff → Tree β} (h : (vappend P pt V fr t x y k).run = some r) : ∃ e, appendA P (den V) fr t x y = some (denE e) ∧ (k e).run = some r := by
  unfold vappend at h
  unfold appendA
  cases ht : tsl P t with
  | none => simp [ht, Tree.run] at h
  | some q =>
    obtain ⟨e0, s0, by0⟩ := q
    simp only [ht] at h ⊢
    cases hy : rowsD V s0 y with
    | none => simp [hy, Tree.run] at h
    | some ys =>
      simp only [hy] at h
      simp only [rowsD_ok hy]
      cases x with
      | ref b ver off len =>
        simp only at h ⊢
        cases hb : V b with
        | none => simp [hb, Tree.run] at h
        | some B =>
          rw [hb] at h
          rw [den_some hb]
          cases B with
          | cell s v row => simp [Tree.run] at h
          | mp ag es => simp [Tree.run] at h
          | raw s1 v1 rows1 => simp [Tree.run] at h
          | drow s v xs =>
            simp only [VBlk.den, embed_len] at h ⊢
            split at h
            · rename_i hc
              rw [if_pos hc.1]
              rcases vwhole_ok h with ⟨h1, h⟩ | ⟨h1, h⟩
              · rw [if_pos h1]
                obtain ⟨h2, h⟩ := run_need.1 h
                rw [List.length_append, ← h1.2] at h2 h
                rw [if_pos ⟨hc.2, h2⟩]
                refine ⟨_, ?_, h⟩
                rw [embed_append]; rfl
              · rw [if_neg h1]
                obtain ⟨h2, h⟩ := run_need.1 h
                rw [if_pos ⟨hc.2, h2⟩]
                refine ⟨_, ?_, h⟩
                rw [embed_over]; rfl
            · exact (run_stop.1 h).elim
      | nil s =>
        simp only [embed_nil, embed_len] at h ⊢
        rcases run_ask.1 h with ⟨h1, h⟩ | ⟨h1, h⟩
        · rw [if_pos h1]; exact still_ok h
        · rw [if_neg (by rw [h1]; simp)]
          obtain ⟨h2, h⟩ := run_need.1 h
          rw [if_pos h2]
          exact ⟨_, rfl, h⟩
      | ex s xs =>
        simp only [embed_nil, embed_len] at h ⊢
        split at h
        · rename_i hs
          rcases run_ask.1 h with ⟨h1, h⟩ | ⟨h1, h⟩
          · rw [if_pos h1]; exact still_ok h
          · rw [if_neg (by rw [h1]; simp)]
            obtain ⟨h2, h⟩ := run_need.1 h
            rw [List.length_append] at h2 h
            rw [if_pos ⟨hs, h2⟩]
            refine ⟨_, ?_, h⟩
            rw [embed_append]; rfl
        · exact (run_stop.1 h).elim
      | _ => exact (run_stop.1 h).elim
theorem vbounds_ok {n : Nat} {lo hi : Option AV} {k : Nat → Nat → Tree β} (h : (vbounds n lo hi k).run = some r) : ∃ l h', boundsA n lo hi = some (l, h') ∧ (k l h').run = some r := by
  unfold vbounds at h
  unfold boundsA
  split at h
  · rename_i hh ll h1 h2
    rw [h1, h2]
    obtain ⟨h3, h⟩ := run_need.1 h
    simp only
    rw [if_pos h3]
    exact ⟨_, _, rfl, h⟩
  · exact (run_stop.1 h).elim
theorem vslice_ok {P : Program} {t : TypeId} {x : AV} {lo hi mx : Option AV} {k : VEff → Tree β} (h : (vslice P V t x lo hi mx k).run = some r) : ∃ v, sliceA P (den V) t x lo hi mx = some v ∧ (k ⟨v, []⟩).run = some r := by
  unfold vslice at h
  unfold sliceA
  cases ht : tsl P t with
  | none => simp [ht, Tree.run] at h
  | some q =>
    obtain ⟨e0, s0, by0⟩ := q
    simp only [ht] at h ⊢
    cases mx with
    | none =>
      simp only at h ⊢
      cases x with
      | d y =>
        cases y with
        | lst s xs =>
          simp only at h ⊢
          split at h
          · rename_i hs
            rw [if_pos hs]
            obtain ⟨l, h', hb, h⟩ := vbounds_ok h
            rw [hb]; exact ⟨_, rfl, h⟩
          · exact (run_stop.1 h).elim
        | _ => exact (run_stop.1 h).elim
      | ex s xs =>
        simp only at h ⊢
        split at h
        · rename_i hs
          rw [if_pos hs]
          obtain ⟨l, h', hb, h⟩ := vbounds_ok h
          rw [hb]; exact ⟨_, rfl, h⟩
        · exact (run_stop.1 h).elim
      | nil s =>
        simp only at h ⊢
        obtain ⟨l, h', hb, h⟩ := vbounds_ok h
        rw [hb]; exact ⟨_, rfl, h⟩
      | ref b ver off len =>
        simp only at h ⊢
        cases hb : V b with
        | none => simp [hb, Tree.run] at h
        | some B =>
          rw [hb] at h
          rw [den_some hb]
          cases B with
          | cell s v row => simp [Tree.run] at h
          | mp ag es => simp [Tree.run] at h
          | raw s1 v1 rows1 => simp [Tree.run] at h
          | drow s v xs =>
            simp only [VBlk.den, embed_len] at h ⊢
            split at h
            · rename_i hs
              rw [if_pos hs]
              obtain ⟨l, h', hb, h⟩ := vbounds_ok h
              rw [hb]; exact ⟨_, rfl, h⟩
            · exact (run_stop.1 h).elim
      | _ => exact (run_stop.1 h).elim
    | some m =>
      simp only at h ⊢
      cases hi with
      | none =>
        split at h
        · rename_i h1; cases h1
        · rename_i h1; cases h1
        · rename_i h1; cases h1
        · exact (run_stop.1 h).elim
      | some hx =>
        cases x with
        | d y =>
          cases y with
          | lst s xs =>
            simp only at h ⊢
            cases em : asInt m with
            | none => simp [em, Tree.run] at h
            | some m' =>
              cases eh : asInt hx with
              | none => simp [em, eh, Tree.run] at h
              | some h' =>
                simp only [em, eh] at h ⊢
                split at h
                · rename_i hs
                  obtain ⟨h2, h⟩ := run_need.1 h
                  rw [if_pos ⟨hs, h2⟩]
                  obtain ⟨l, h3, hb, h⟩ := vbounds_ok h
                  rw [hb]; exact ⟨_, rfl, h⟩
                · exact (run_stop.1 h).elim
          | _ => exact (run_stop.1 h).elim
        | nil s =>
          simp only at h ⊢
          cases em : asInt m with
          | none => simp [em, Tree.run] at h
          | some m' =>
            cases eh : asInt hx with
            | none => simp [em, eh, Tree.run] at h
            | some h' =>
              simp only [em, eh] at h ⊢
              obtain ⟨h2, h⟩ := run_need.1 h
              rw [if_pos h2]
              obtain ⟨l, h3, hb, h⟩ := vbounds_ok h
              rw [hb]; exact ⟨_, rfl, h⟩
        | ref b ver off len =>
          simp only at h ⊢
          cases em : asInt m with
          | none => simp [em, Tree.run] at h
          | some m' =>
            cases eh : asInt hx with
            | none => simp [em, eh, Tree.run] at h
            | some h' =>
              cases hb : V b with
              | none => simp [em, eh, hb, Tree.run] at h
              | some B =>
                cases B with
                | cell s v row => simp [em, eh, hb, Tree.run] at h
                | mp ag es => simp [em, eh, hb, Tree.run] at h
                | raw s1 v1 rows1 => simp [em, eh, hb, Tree.run] at h
                | drow s v xs =>
                  simp only [em, eh, hb] at h
                  split at h
                  · rename_i hs
                    obtain ⟨h2, h⟩ := run_need.1 h
                    obtain ⟨l, h3, hbb, h⟩ := vbounds_ok h
                    obtain ⟨h4, h⟩ := run_need.1 h
                    simp only [em, eh, den_some hb, VBlk.den, embed_len]
                    rw [if_pos ⟨hs.1, hs.2, h2.1, h2.2⟩, hbb]
                    simp only
                    rw [if_neg h4]
                    exact ⟨_, rfl, h⟩
                  · exact (run_stop.1 h).elim
        | _ => exact (run_stop.1 h).elim
end Go.AI
