/-
  Own work. Calls that are given a cell.
-/
import Derived.Test.YthagcidcihgboaaGreatAiCall
namespace Go.AI
open Go
set_option linter.unusedVariables false
set_option linter.unusedSimpArgs false
variable {P : Program} {O : Nat → Prop} {ι : Inj} {H H0 : Heap} {w w' : World}

theorem cell_calls {K : Call} (hK : SoundK P K) (hH : HR O ι H w) (h0 : ∀ b B, H0 b = some B → H b = some B) {f : FuncId} {args : List AV} {as : List Value} {e : Eff} (fr : Nat) (hr : Rl O ι w args as) (he : cellCall K f args H0 = some e) :
    Known P f ∧ OutR P O ι H w fr f as (.eff e) := by
  unfold cellCall at he
  split at he
  · rename_i b ver i o r
    split at he
    · rename_i s ver' data as' hb hs
      split at he
      · rename_i hver
        split at he
        · rename_i cs hi
          split at he
          · rename_i x ho
            split at he
            · rename_i v Hc nx' hk
              split at he
              · rename_i v' y hv hc
                simp at he; subst he
                simp only [Rl] at hr
                obtain ⟨c0, cr, rfl, hp, hrest⟩ := hr
                simp only [R] at hp
                obtain ⟨e0, he0, hmp, hle, _, hat⟩ := hp
                obtain ⟨B, hB, hbr⟩ := hH.blk b e0 he0
                have hbb := h0 b _ hb
                rw [hbb] at hB; cases hB
                obtain ⟨q1, q2, q3, q4, q5, q6⟩ := hbr
                obtain ⟨k, hbk, rfl⟩ := hat (by omega)
                obtain ⟨⟨cs0, tt, r1, r2⟩, r3, r4⟩ := q6 k hbk
                obtain ⟨g1, g2⟩ := r4 i cs hi
                obtain ⟨vx, x1, x2, x3⟩ := g2 o _ ho
                have hos : o < s := by rw [← g1]; exact (List.getElem?_eq_some_iff.1 ho).1
                have hil : i < data.length := (List.getElem?_eq_some_iff.1 hi).1
                have hrow := row_in (s := s) hil
                have hkw : k < w.heap.size := (Array.getElem?_eq_some_iff.1 r1).1
                have hok : owned ι k := ⟨b, e0, he0, hbk⟩
                rw [q4, q2] at r3
                -- the callee's memory: one cell
                generalize hO' : (fun k' => O k' ∨ (owned ι k' ∧ k' ≠ k)) = O'
                generalize hι1 : iset (fun _ => none) 0 (some (⟨some k, e0.base + i * e0.s + o, 1, 0, 1, 1, false⟩ : CB)) = ι1
                have own1 : ∀ k2, owned ι1 k2 → k2 = k := by
                  rintro k2 ⟨b2, e2, h1, h2⟩
                  subst hι1
                  by_cases hb2 : b2 = 0
                  · subst hb2; rw [iset_same] at h1; cases h1; simp at h2; exact h2.symm
                  · rw [iset_ne _ _ hb2] at h1; cases h1
                have imm1 : ∀ k2, imm O ι k2 → imm O' ι1 k2 := by
                  intro k2 hi2
                  refine ⟨fun ho2 => ?_, ?_⟩
                  · have := own1 k2 ho2; subst this; exact hi2.1 hok
                  · subst hO'
                    rintro (h | ⟨h, _⟩)
                    · exact hi2.2 h
                    · exact hi2.1 h
                have hx1 : DR (imm O' ι1) w x vx := by
                  simp only [R] at x3
                  exact DR.mono (Nat.le_refl _) (fun k2 _ hi2 => ⟨rfl, imm1 k2 hi2⟩) x vx x3
                have hH1 : HR O' ι1 (hset noHeap 0 (some (.row 1 0 [[.d x]]))) w := by
                  refine ⟨fun b2 e2 h1 => ?_, fun b2 b3 e2 e3 k2 h1 h2 _ _ => ?_, fun k2 hk2 => ?_, fun k2 hk2 => ?_⟩
                  · subst hι1
                    by_cases hb2 : b2 = 0
                    · subst hb2; rw [iset_same] at h1; cases h1
                      refine ⟨_, hset_same .., rfl, rfl, rfl, rfl, (fun h => by cases h), fun k2 hk2 => ?_⟩
                      cases hk2
                      refine ⟨⟨cs0, tt, r1, by simp only [q2]; omega⟩, by simp, fun j z hz => ?_⟩
                      cases j with
                      | succ j => simp at hz
                      | zero =>
                        simp at hz; subst hz
                        refine ⟨rfl, fun j z hz => ?_⟩
                        cases j with
                        | succ j => simp at hz
                        | zero =>
                          simp at hz; subst hz
                          exact ⟨vx, by rw [q2]; simpa using x1, x2, by simp only [R]; exact hx1⟩
                    · rw [iset_ne _ _ hb2] at h1; cases h1
                  · subst hι1
                    by_cases hb2 : b2 = 0
                    · by_cases hb3 : b3 = 0
                      · rw [hb2, hb3]
                      · rw [iset_ne _ _ hb3] at h2; cases h2
                    · rw [iset_ne _ _ hb2] at h1; cases h1
                  · have := own1 k2 hk2; subst this; subst hO'
                    rintro (h | ⟨_, h⟩)
                    · exact hH.dis k2 hok h
                    · exact h rfl
                  · subst hO'
                    rcases hk2 with h | ⟨⟨b2, e2, h1, h2⟩, _⟩
                    · exact hH.bar k2 h
                    · exact hH.lt b2 e2 k2 h1 h2
                have hargs : Rl O' ι1 w (.ptr 0 0 0 0 :: as') (.pointer (some ⟨k, e0.base + i * e0.s + o, none⟩) :: cr) := by
                  simp only [Rl]
                  refine ⟨_, _, rfl, ?_, ?_⟩
                  · simp only [R]
                    subst hι1
                    exact ⟨_, iset_same .., rfl, Nat.le_refl _, ⟨_, rfl⟩, fun _ => ⟨k, rfl, by simp⟩⟩
                  · exact snaps_R (p := fun _ => false) hH (fun k2 _ hi2 => imm1 k2 hi2) (fun _ _ _ h => by cases h) 4 r as' cr (mapO_le (snap_le h0 4) hs) hrest
                have hfresh : ∀ b2, wide ≤ b2 → ι1 b2 = none := by
                  intro b2 h2
                  subst hι1
                  exact iset_ne _ _ (by unfold wide at h2; omega)
                obtain ⟨c1, _, c3⟩ := hK f _ _ _ wide v Hc nx' O' ι1 w hk hH1 hargs hfresh
                refine ⟨c3, c1.mono fun en w' hret => ?_⟩
                cases en with
                | returned c =>
                  obtain ⟨ι', d1, d2, d3, _⟩ := hret
                  have hι10 : ι1 0 = some ⟨some k, e0.base + i * e0.s + o, 1, 0, 1, 1, false⟩ := by subst hι1; exact iset_same ..
                  obtain ⟨e1, f1, f2, f3, f4⟩ := d3.old 0 _ hι10
                  obtain ⟨B1, hB1, hbr1⟩ := d1.blk 0 e1 f1
                  rw [hc] at hB1; cases hB1
                  obtain ⟨p1, p2, p3, p4, p5, p6⟩ := hbr1
                  have hee := f4 (.inl p3.symm)
                  subst hee
                  obtain ⟨_, _, s3⟩ := p6 k rfl
                  obtain ⟨_, s4⟩ := s3 0 _ rfl
                  obtain ⟨vy, y1, y2, y3⟩ := s4 0 _ rfl
                  simp only [Nat.zero_mul, Nat.add_zero] at y1
                  have imm2 : ∀ k2, imm O' ι' k2 → imm O ι k2 := by
                    intro k2 hi2
                    have hne : k2 ≠ k := fun h => hi2.1 (h ▸ ⟨0, _, f1, rfl⟩)
                    subst hO'
                    exact ⟨fun ho2 => hi2.2 (.inr ⟨ho2, hne⟩), fun hO2 => hi2.2 (.inl hO2)⟩
                  have hy : DR (imm O ι) w' y vy := by
                    simp only [R] at y3
                    exact DR.mono (Nat.le_refl _) (fun k2 _ hi2 => ⟨rfl, imm2 k2 hi2⟩) y vy y3
                  obtain ⟨_, t2⟩ := d3.part 0 _ k hι10 rfl
                  obtain ⟨cs1, u1, u2, u3⟩ := t2 cs0 tt (0, 0) r1
                  have honly : Only w w' ((ι b).bind (·.blk)) e0.base (e0.base + e0.cells) := by
                    rw [he0]
                    simp only [Option.bind_some, hbk]
                    refine ⟨d3.os, d3.tape, d3.output, d3.size, fun k2 hk2 hne => (d3.keep k2 hk2 fun ho2 => hne (by rw [own1 k2 ho2])).1, fun k2 cs2 t2 fz h2 hc2 => ?_⟩
                    cases h2
                    rw [r1] at hc2; cases hc2
                    refine ⟨cs1, u1, u2, fun j hj => u3 j ?_⟩
                    simp only
                    rw [q2]
                    omega
                  have hr' : ∀ e2, ι b = some e2 → e0.base = e2.base ∧ e0.base + e0.cells = e2.base + e2.cells ∧ e2.mp = e0.mp ∧ e2.ver ≤ e0.ver ∧ (e2.ver = e0.ver ∨ e2.mp = true → e0 = e2) := fun e2 h2 => by
                    rw [he0] at h2; cases h2; exact ⟨rfl, rfl, rfl, Nat.le_refl _, fun _ => rfl⟩
                  have hk' : ∀ k2, e0.blk = some k2 → w.heap.size ≤ k2 ∨ ∃ e2, ι b = some e2 ∧ e2.blk = some k2 ∧ e0.base = e2.base ∧ e0.cells = e2.cells := fun k2 h2 => .inr ⟨e0, he0, h2, rfl, rfl⟩
                  have hx := Ex.upd hH honly hr' hk'
                  have hself := iset_self he0
                  have hcell : ∀ j, w'.cell? ⟨k, j, none⟩ = cs1[j]? := fun j => cell_new u1 j
                  have hcell0 : ∀ j, w.cell? ⟨k, j, none⟩ = cs0[j]? := fun j => cell_new r1 j
                  have hnew := HR.upd (B' := .row s ver (data.set i (putCells cs o [.d y]))) hH honly hr' hk' (by
                    rw [hself] at hx ⊢
                    refine ⟨q1, q2, by rw [q3, hver], by rw [q4]; simp, fun h => (by rw [hbk] at h; cases h), fun k2 h2 => ?_⟩
                    rw [hbk] at h2; cases h2
                    refine ⟨⟨cs1, tt, u1, by rw [u2]; exact r2⟩, by rw [q4, q2]; exact r3, fun i2 z hz => ?_⟩
                    rw [List.getElem?_set] at hz
                    by_cases hii : i = i2
                    · subst hii
                      rw [if_pos rfl, if_pos hil] at hz
                      cases hz
                      refine ⟨by rw [putCells_len (by simp; omega), g1], fun j z hz => ?_⟩
                      rw [putCells_get (by simp; omega)] at hz
                      split at hz
                      · rename_i hj
                        simp at hj
                        have : j = o := by omega
                        subst this
                        simp at hz; subst hz
                        refine ⟨vy, ?_, y2, by simp only [R]; exact hy⟩
                        rw [q2] at y1
                        exact y1
                      · rename_i hj
                        simp at hj
                        obtain ⟨vz, z1, z2, z3⟩ := g2 j z hz
                        refine ⟨vz, ?_, z2, z3.mono hx⟩
                        rw [hcell, u3 _ (by simp only [q2]; omega), ← hcell0]; exact z1
                    · rw [if_neg hii] at hz
                      obtain ⟨a1, a2⟩ := r4 i2 z hz
                      refine ⟨a1, fun j z2 hz2 => ?_⟩
                      obtain ⟨vz, z1, z3, z4⟩ := a2 j z2 hz2
                      have hjs : j < s := by rw [← a1]; exact (List.getElem?_eq_some_iff.1 hz2).1
                      refine ⟨vz, ?_, z3, z4.mono hx⟩
                      have hap := mul_apart (o := o) (n := 1) hjs (by omega) (Ne.symm hii)
                      rw [hcell, u3 _ (by simp only [q2]; omega), ← hcell0]; exact z1)
                  rw [hself] at hnew hx
                  refine ⟨ι, by simpa only [writes] using hnew, ?_, hx, fun _ h1 h2 => absurd h2 h1⟩
                  refine snap_R (p := fun b => b != 0) (ι2 := ι) (O2 := O) d1 (fun k2 _ hi2 => imm2 k2 hi2) (fun b2 e2 k2 hp2 hm2 he2 hk2 => ?_) 4 v v' c hv d2
                  have hb2 : b2 ≠ 0 := by simpa using hp2
                  have hnk : k2 ≠ k := fun h => hb2 (d1.inj b2 0 e2 _ k2 he2 f1 hk2 (by rw [h]))
                  have hbig : ¬ k2 < w.heap.size := fun hlt => (d3.keep k2 hlt (fun ho2 => hnk (own1 k2 ho2))).2 ⟨b2, e2, he2, hk2⟩
                  exact ⟨fun ⟨b3, e3, h3, h4⟩ => hbig (hH.lt b3 e3 k2 h3 h4), fun hO2 => hbig (hH.bar k2 hO2)⟩
                | _ => exact hret.elim
              · cases he
            · cases he
          · cases he
        · cases he
      · cases he
    · cases he
  · cases he

/-! ### Calls that are given a function which holds a block -/
theorem own_calls {K : Call} (hK : SoundK P K) (hH : HR O ι H w) (h0 : ∀ b B, H0 b = some B → H b = some B) {f : FuncId} {args : List AV} {as : List Value} {e : Eff} (fr : Nat) (hr : Rl O ι w args as) (he : ownCall K f args H0 = some e) :
    Known P f ∧ OutR P O ι H w fr f as (.eff e) := by
  unfold ownCall at he
  split at he
  · rename_i x g b ver ha
    have hargs0 : args = [x, .fn g [.ptr b ver 0 0]] := by
      unfold ownArg at ha
      split at ha
      · simp only [Option.some.injEq, Prod.mk.injEq] at ha
        obtain ⟨rfl, rfl, rfl, rfl⟩ := ha
        rfl
      · cases ha
    subst hargs0
    split at he
    · rename_i x' s ver' data hs hb
      split at he
      · rename_i hv
        obtain ⟨hver, hall⟩ := hv
        split at he
        · rename_i v Hc nx' hk
          split at he
          · rename_i v' hv
            simp at he; subst he
            simp only [Rl, R] at hr
            obtain ⟨c0, cr, rfl, hx0, c1, cr1, rfl, ⟨cs, rfl, p0, pr, rfl, hp, rfl⟩, rfl⟩ := hr
            obtain ⟨e0, he0, hmp, hle, _, hat⟩ := hp
            obtain ⟨B, hB, hbr⟩ := hH.blk b e0 he0
            have hbb := h0 b _ hb
            rw [hbb] at hB; cases hB
            obtain ⟨q1, q2, q3, q4, q5, q6⟩ := hbr
            obtain ⟨k, hbk, rfl⟩ := hat (by omega)
            obtain ⟨⟨cs0, tt, r1, r2⟩, r3, r4⟩ := q6 k hbk
            have hkw : k < w.heap.size := (Array.getElem?_eq_some_iff.1 r1).1
            have hok : owned ι k := ⟨b, e0, he0, hbk⟩
            generalize hO' : (fun k' => O k' ∨ (owned ι k' ∧ k' ≠ k)) = O'
            generalize hι1 : iset (fun _ => none) 0 (some (⟨some k, e0.base, e0.s, 0, e0.len, e0.cells, false⟩ : CB)) = ι1
            have own1 : ∀ k2, owned ι1 k2 → k2 = k := by
              rintro k2 ⟨b2, e2, h1, h2⟩
              subst hι1
              by_cases hb2 : b2 = 0
              · subst hb2; rw [iset_same] at h1; cases h1; simp at h2; exact h2.symm
              · rw [iset_ne _ _ hb2] at h1; cases h1
            have imm1 : ∀ k2, imm O ι k2 → imm O' ι1 k2 := by
              intro k2 hi2
              refine ⟨fun ho2 => ?_, ?_⟩
              · have := own1 k2 ho2; subst this; exact hi2.1 hok
              · subst hO'
                rintro (h | ⟨h, _⟩)
                · exact hi2.2 h
                · exact hi2.1 h
            have hH1 : HR O' ι1 (hset noHeap 0 (some (.row s 0 data))) w := by
              refine ⟨fun b2 e2 h1 => ?_, fun b2 b3 e2 e3 k2 h1 h2 _ _ => ?_, fun k2 hk2 => ?_, fun k2 hk2 => ?_⟩
              · subst hι1
                by_cases hb2 : b2 = 0
                · subst hb2; rw [iset_same] at h1; cases h1
                  refine ⟨_, hset_same .., rfl, q2, rfl, q4, (fun h => by cases h), fun k2 hk2 => ?_⟩
                  cases hk2
                  refine ⟨⟨cs0, tt, r1, r2⟩, r3, fun j z hz => ?_⟩
                  obtain ⟨g1, g2⟩ := r4 j z hz
                  refine ⟨g1, fun j2 y hy => ?_⟩
                  obtain ⟨vx, x1, x2, x3⟩ := g2 j2 y hy
                  refine ⟨vx, x1, x2, ?_⟩
                  have hyd : isD y = true := by
                    have h1 := List.all_eq_true.1 hall z (List.mem_of_getElem? hz)
                    exact List.all_eq_true.1 h1 y (List.mem_of_getElem? hy)
                  cases y with
                  | d y =>
                    simp only [R] at x3 ⊢
                    exact DR.mono (Nat.le_refl _) (fun k2 _ hi2 => ⟨rfl, imm1 k2 hi2⟩) y vx x3
                  | _ => simp [isD] at hyd
                · rw [iset_ne _ _ hb2] at h1; cases h1
              · subst hι1
                by_cases hb2 : b2 = 0
                · by_cases hb3 : b3 = 0
                  · rw [hb2, hb3]
                  · rw [iset_ne _ _ hb3] at h2; cases h2
                · rw [iset_ne _ _ hb2] at h1; cases h1
              · have := own1 k2 hk2; subst this; subst hO'
                rintro (h | ⟨_, h⟩)
                · exact hH.dis k2 hok h
                · exact h rfl
              · subst hO'
                rcases hk2 with h | ⟨⟨b2, e2, h1, h2⟩, _⟩
                · exact hH.bar k2 h
                · exact hH.lt b2 e2 k2 h1 h2
            have hargs : Rl O' ι1 w [x', .fn g [.ptr 0 0 0 0]] [c0, fnV g [.pointer (some ⟨k, e0.base + 0 * e0.s + 0, none⟩)]] := by
              simp only [Rl, R]
              refine ⟨_, _, rfl, ?_, _, _, rfl, ⟨[_], rfl, _, _, rfl, ?_, rfl⟩, rfl⟩
              · exact snap_R (p := fun _ => false) hH (fun k2 _ hi2 => imm1 k2 hi2) (fun _ _ _ h => by cases h) 4 x x' c0 (snap_le h0 4 _ _ hs) hx0
              · subst hι1
                exact ⟨_, iset_same .., rfl, Nat.le_refl _, ⟨_, rfl⟩, fun _ => ⟨k, rfl, by simp⟩⟩
            have hfresh : ∀ b2, wide ≤ b2 → ι1 b2 = none := by
              intro b2 h2
              subst hι1
              exact iset_ne _ _ (by unfold wide at h2; omega)
            obtain ⟨c1, _, c3⟩ := hK f _ _ _ wide v Hc nx' O' ι1 w hk hH1 hargs hfresh
            refine ⟨c3, c1.mono fun en w' hret => ?_⟩
            cases en with
            | returned c =>
              obtain ⟨ι', d1, d2, d3, _⟩ := hret
              have hι10 : ι1 0 = some ⟨some k, e0.base, e0.s, 0, e0.len, e0.cells, false⟩ := by subst hι1; exact iset_same ..
              obtain ⟨_, t2⟩ := d3.part 0 _ k hι10 rfl
              obtain ⟨cs1, u1, u2, u3⟩ := t2 cs0 tt (0, 0) r1
              have honly : Only w w' ((ι b).bind (·.blk)) e0.base (e0.base + e0.cells) := by
                rw [he0]
                simp only [Option.bind_some, hbk]
                refine ⟨d3.os, d3.tape, d3.output, d3.size, fun k2 hk2 hne => (d3.keep k2 hk2 fun ho2 => hne (by rw [own1 k2 ho2])).1, fun k2 cs2 t2 fz h2 hc2 => ?_⟩
                cases h2
                rw [r1] at hc2; cases hc2
                exact ⟨cs1, u1, u2, fun j hj => u3 j hj⟩
              generalize he' : ({ e0 with blk := none, ver := e0.ver + 1, len := 0 } : CB) = e'
              have hr' : ∀ e2, ι b = some e2 → e0.base = e2.base ∧ e0.base + e0.cells = e2.base + e2.cells ∧ e2.mp = e'.mp ∧ e2.ver ≤ e'.ver ∧ (e2.ver = e'.ver ∨ e2.mp = true → e' = e2) := fun e2 h2 => by
                rw [he0] at h2; cases h2
                subst he'
                refine ⟨rfl, rfl, rfl, Nat.le_succ _, fun h => ?_⟩
                rcases h with h | h
                · simp only at h; omega
                · rw [hmp] at h; cases h
              have hk' : ∀ k2, e'.blk = some k2 → w.heap.size ≤ k2 ∨ ∃ e2, ι b = some e2 ∧ e2.blk = some k2 ∧ e'.base = e2.base ∧ e'.cells = e2.cells := fun k2 h2 => by
                subst he'; cases h2
              have hx := Ex.upd hH honly hr' hk'
              have hnew := HR.upd (B' := .row s (ver + 1) []) hH honly hr' hk' (by
                subst he'
                exact ⟨q1, q2, by simp only; omega, rfl, fun _ => rfl, fun k2 h2 => by cases h2⟩)
              have ownk : ∀ k2, owned (iset ι b (some e')) k2 → owned ι k2 ∧ k2 ≠ k := by
                rintro k2 ⟨b2, e2, h1, h2⟩
                by_cases hb2 : b2 = b
                · subst hb2
                  rw [iset_same] at h1; cases h1
                  subst he'; cases h2
                · rw [iset_ne _ _ hb2] at h1
                  refine ⟨⟨b2, e2, h1, h2⟩, fun e => hb2 (hH.inj b2 b e2 e0 k2 h1 he0 h2 (by rw [e]; exact hbk))⟩
              have immk : imm O (iset ι b (some e')) k := ⟨fun h => (ownk k h).2 rfl, hH.dis k hok⟩
              refine ⟨iset ι b (some e'), by simpa only [writes] using hnew, ?_, hx, fun b2 h1 h2 => ?_⟩
              · refine snap_R (p := fun b => b != 0) (ι2 := iset ι b (some e')) (O2 := O) d1 (fun k2 _ hi2 => ?_) (fun b2 e2 k2 hp2 hm2 he2 hk2 => ?_) 4 v v' c hv d2
                · refine ⟨fun h => hi2.2 ?_, fun h => hi2.2 ?_⟩
                  · subst hO'
                    exact .inr (ownk k2 h)
                  · subst hO'
                    exact .inl h
                · by_cases hkk : k2 = k
                  · subst hkk; exact immk
                  · have hbig : ¬ k2 < w.heap.size := fun hlt => (d3.keep k2 hlt (fun ho2 => hkk (own1 k2 ho2))).2 ⟨b2, e2, he2, hk2⟩
                    refine ⟨fun h => hbig ?_, fun hO2 => hbig (hH.bar k2 hO2)⟩
                    obtain ⟨⟨b3, e3, h3, h4⟩, _⟩ := ownk k2 h
                    exact hH.lt b3 e3 k2 h3 h4
              · by_cases hb2 : b2 = b
                · subst hb2; rw [he0] at h2; cases h2
                · rw [iset_ne _ _ hb2] at h1; exact absurd h2 h1
            | _ => exact hret.elim
          · cases he
        · cases he
      · cases he
    · cases he
  · cases he
theorem lend_calls {K : Call} (hK : SoundK P K) (hH : HR O ι H w) (h0 : ∀ b B, H0 b = some B → H b = some B) {f : FuncId} {args : List AV} {as : List Value} {e : Eff} (fr : Nat) (hr : Rl O ι w args as) (he : lendCall K f args H0 = some e) :
    Known P f ∧ OutR P O ι H w fr f as (.eff e) := by
  unfold lendCall at he
  split at he
  · rename_i x g b ver ha
    have hargs0 : args = [x, .fn g [.ptr b ver 0 0]] := by
      unfold ownArg at ha
      split at ha
      · simp only [Option.some.injEq, Prod.mk.injEq] at ha
        obtain ⟨rfl, rfl, rfl, rfl⟩ := ha
        rfl
      · cases ha
    subst hargs0
    split at he
    · rename_i x' s ver' data hs hb
      split at he
      · rename_i hv
        obtain ⟨hver, hall⟩ := hv
        split at he
        · rename_i v Hc nx' hk
          split at he
          · rename_i v' s2 v2 data' hv hc
            split at he
            case isFalse => cases he
            rename_i hcond
            obtain ⟨rfl, rfl, hdl, hall'⟩ := hcond
            simp at he; subst he
            simp only [Rl, R] at hr
            obtain ⟨c0, cr, rfl, hx0, c1, cr1, rfl, ⟨cs, rfl, p0, pr, rfl, hp, rfl⟩, rfl⟩ := hr
            obtain ⟨e0, he0, hmp, hle, _, hat⟩ := hp
            obtain ⟨B, hB, hbr⟩ := hH.blk b e0 he0
            have hbb := h0 b _ hb
            rw [hbb] at hB; cases hB
            obtain ⟨q1, q2, q3, q4, q5, q6⟩ := hbr
            obtain ⟨k, hbk, rfl⟩ := hat (by omega)
            obtain ⟨⟨cs0, tt, r1, r2⟩, r3, r4⟩ := q6 k hbk
            have hkw : k < w.heap.size := (Array.getElem?_eq_some_iff.1 r1).1
            have hok : owned ι k := ⟨b, e0, he0, hbk⟩
            generalize hO' : (fun k' => O k' ∨ (owned ι k' ∧ k' ≠ k)) = O'
            generalize hι1 : iset (fun _ => none) 0 (some (⟨some k, e0.base, e0.s, 0, e0.len, e0.cells, false⟩ : CB)) = ι1
            have own1 : ∀ k2, owned ι1 k2 → k2 = k := by
              rintro k2 ⟨b2, e2, h1, h2⟩
              subst hι1
              by_cases hb2 : b2 = 0
              · subst hb2; rw [iset_same] at h1; cases h1; simp at h2; exact h2.symm
              · rw [iset_ne _ _ hb2] at h1; cases h1
            have imm1 : ∀ k2, imm O ι k2 → imm O' ι1 k2 := by
              intro k2 hi2
              refine ⟨fun ho2 => ?_, ?_⟩
              · have := own1 k2 ho2; subst this; exact hi2.1 hok
              · subst hO'
                rintro (h | ⟨h, _⟩)
                · exact hi2.2 h
                · exact hi2.1 h
            have hH1 : HR O' ι1 (hset noHeap 0 (some (.row s2 0 data))) w := by
              refine ⟨fun b2 e2 h1 => ?_, fun b2 b3 e2 e3 k2 h1 h2 _ _ => ?_, fun k2 hk2 => ?_, fun k2 hk2 => ?_⟩
              · subst hι1
                by_cases hb2 : b2 = 0
                · subst hb2; rw [iset_same] at h1; cases h1
                  refine ⟨_, hset_same .., rfl, q2, rfl, q4, (fun h => by cases h), fun k2 hk2 => ?_⟩
                  cases hk2
                  refine ⟨⟨cs0, tt, r1, r2⟩, r3, fun j z hz => ?_⟩
                  obtain ⟨g1, g2⟩ := r4 j z hz
                  refine ⟨g1, fun j2 y hy => ?_⟩
                  obtain ⟨vx, x1, x2, x3⟩ := g2 j2 y hy
                  refine ⟨vx, x1, x2, ?_⟩
                  have hyd : isD y = true := by
                    have h1 := List.all_eq_true.1 hall z (List.mem_of_getElem? hz)
                    exact List.all_eq_true.1 h1 y (List.mem_of_getElem? hy)
                  cases y with
                  | d y =>
                    simp only [R] at x3 ⊢
                    exact DR.mono (Nat.le_refl _) (fun k2 _ hi2 => ⟨rfl, imm1 k2 hi2⟩) y vx x3
                  | _ => simp [isD] at hyd
                · rw [iset_ne _ _ hb2] at h1; cases h1
              · subst hι1
                by_cases hb2 : b2 = 0
                · by_cases hb3 : b3 = 0
                  · rw [hb2, hb3]
                  · rw [iset_ne _ _ hb3] at h2; cases h2
                · rw [iset_ne _ _ hb2] at h1; cases h1
              · have := own1 k2 hk2; subst this; subst hO'
                rintro (h | ⟨_, h⟩)
                · exact hH.dis k2 hok h
                · exact h rfl
              · subst hO'
                rcases hk2 with h | ⟨⟨b2, e2, h1, h2⟩, _⟩
                · exact hH.bar k2 h
                · exact hH.lt b2 e2 k2 h1 h2
            have hargs : Rl O' ι1 w [x', .fn g [.ptr 0 0 0 0]] [c0, fnV g [.pointer (some ⟨k, e0.base + 0 * e0.s + 0, none⟩)]] := by
              simp only [Rl, R]
              refine ⟨_, _, rfl, ?_, _, _, rfl, ⟨[_], rfl, _, _, rfl, ?_, rfl⟩, rfl⟩
              · exact snap_R (p := fun _ => false) hH (fun k2 _ hi2 => imm1 k2 hi2) (fun _ _ _ h => by cases h) 4 x x' c0 (snap_le h0 4 _ _ hs) hx0
              · subst hι1
                exact ⟨_, iset_same .., rfl, Nat.le_refl _, ⟨_, rfl⟩, fun _ => ⟨k, rfl, by simp⟩⟩
            have hfresh : ∀ b2, wide ≤ b2 → ι1 b2 = none := by
              intro b2 h2
              subst hι1
              exact iset_ne _ _ (by unfold wide at h2; omega)
            obtain ⟨c1, _, c3⟩ := hK f _ _ _ wide v Hc nx' O' ι1 w hk hH1 hargs hfresh
            refine ⟨c3, c1.mono fun en w' hret => ?_⟩
            cases en with
            | returned c =>
              obtain ⟨ι', d1, d2, d3, _⟩ := hret
              have hι10 : ι1 0 = some ⟨some k, e0.base, e0.s, 0, e0.len, e0.cells, false⟩ := by subst hι1; exact iset_same ..
              obtain ⟨e1, f1, f2, f3, f4⟩ := d3.old 0 _ hι10
              obtain ⟨B1, hB1, hbr1⟩ := d1.blk 0 e1 f1
              rw [hc] at hB1; cases hB1
              obtain ⟨p1, p2, p3, p4, p5, p6⟩ := hbr1
              have hee := f4 (.inl p3.symm)
              subst hee
              obtain ⟨_, _, rows'⟩ := p6 k rfl
              have imm2 : ∀ k2, imm O' ι' k2 → imm O ι k2 := by
                intro k2 hi2
                have hne : k2 ≠ k := fun h => hi2.1 (h ▸ ⟨0, _, f1, rfl⟩)
                subst hO'
                exact ⟨fun ho2 => hi2.2 (.inr ⟨ho2, hne⟩), fun hO2 => hi2.2 (.inl hO2)⟩
              obtain ⟨_, t2⟩ := d3.part 0 _ k hι10 rfl
              obtain ⟨cs1, u1, u2, u3⟩ := t2 cs0 tt (0, 0) r1
              have honly : Only w w' ((ι b).bind (·.blk)) e0.base (e0.base + e0.cells) := by
                rw [he0]
                simp only [Option.bind_some, hbk]
                refine ⟨d3.os, d3.tape, d3.output, d3.size, fun k2 hk2 hne => (d3.keep k2 hk2 fun ho2 => hne (by rw [own1 k2 ho2])).1, fun k2 cs2 t2 fz h2 hc2 => ?_⟩
                cases h2
                rw [r1] at hc2; cases hc2
                exact ⟨cs1, u1, u2, fun j hj => u3 j hj⟩
              have hr' : ∀ e2, ι b = some e2 → e0.base = e2.base ∧ e0.base + e0.cells = e2.base + e2.cells ∧ e2.mp = e0.mp ∧ e2.ver ≤ e0.ver ∧ (e2.ver = e0.ver ∨ e2.mp = true → e0 = e2) := fun e2 h2 => by
                rw [he0] at h2; cases h2; exact ⟨rfl, rfl, rfl, Nat.le_refl _, fun _ => rfl⟩
              have hk' : ∀ k2, e0.blk = some k2 → w.heap.size ≤ k2 ∨ ∃ e2, ι b = some e2 ∧ e2.blk = some k2 ∧ e0.base = e2.base ∧ e0.cells = e2.cells := fun k2 h2 => .inr ⟨e0, he0, h2, rfl, rfl⟩
              have hx := Ex.upd hH honly hr' hk'
              have hself := iset_self he0
              have hnew := HR.upd (B' := .row s2 ver data') hH honly hr' hk' (by
                rw [hself] at hx ⊢
                refine ⟨q1, q2, by rw [q3, hver], by rw [q4, hdl], fun h => (by rw [hbk] at h; cases h), fun k2 h2 => ?_⟩
                rw [hbk] at h2; cases h2
                refine ⟨⟨cs1, tt, u1, by rw [u2]; exact r2⟩, r3, fun j z hz => ?_⟩
                obtain ⟨g1, g2⟩ := rows' j z hz
                refine ⟨g1, fun j2 y hy => ?_⟩
                obtain ⟨vx, x1, x2, x3⟩ := g2 j2 y hy
                refine ⟨vx, x1, x2, ?_⟩
                have hyd : isD y = true := by
                  have h1 := List.all_eq_true.1 hall' z (List.mem_of_getElem? hz)
                  exact List.all_eq_true.1 h1 y (List.mem_of_getElem? hy)
                cases y with
                | d y =>
                  simp only [R] at x3 ⊢
                  exact DR.mono (Nat.le_refl _) (fun k2 _ hi2 => ⟨rfl, imm2 k2 hi2⟩) y vx x3
                | _ => simp [isD] at hyd)
              rw [hself] at hnew hx
              refine ⟨ι, by simpa only [writes] using hnew, ?_, hx, fun _ h1 h2 => absurd h2 h1⟩
              refine snap_R (p := fun b => b != 0) (ι2 := ι) (O2 := O) d1 (fun k2 _ hi2 => imm2 k2 hi2) (fun b2 e2 k2 hp2 hm2 he2 hk2 => ?_) 4 v v' c hv d2
              have hb2 : b2 ≠ 0 := by simpa using hp2
              have hnk : k2 ≠ k := fun h => hb2 (d1.inj b2 0 e2 _ k2 he2 f1 hk2 (by rw [h]))
              have hbig : ¬ k2 < w.heap.size := fun hlt => (d3.keep k2 hlt (fun ho2 => hnk (own1 k2 ho2))).2 ⟨b2, e2, he2, hk2⟩
              exact ⟨fun ⟨b3, e3, h3, h4⟩ => hbig (hH.lt b3 e3 k2 h3 h4), fun hO2 => hbig (hH.bar k2 hO2)⟩
            | _ => exact hret.elim
          · cases he
        · cases he
      · cases he
    · cases he
  · cases he

theorem all_data {im : Nat → Prop} {P' : AV → Value → Prop} {rest : List AV} (h : rest.all isD = true) : ∀ x ∈ rest, ∃ y, x = .d y := fun x hx => by
  have := List.all_eq_true.1 h x hx
  cases x with
  | d y => exact ⟨y, rfl⟩
  | _ => simp [isD] at this
theorem data_Rl {O2 : Nat → Prop} {ι2 : Inj} (hi : ∀ k, k < w.heap.size → imm O ι k → imm O2 ι2 k) : ∀ {rest : List AV} {l : List Value}, rest.all isD = true → Rl O ι w rest l → Rl O2 ι2 w rest l
  | [], l, _, h => h
  | x :: r, l, ha, h => by
    simp only [List.all_cons, Bool.and_eq_true] at ha
    simp only [Rl] at h ⊢
    obtain ⟨v, l', rfl, h1, h2⟩ := h
    refine ⟨v, l', rfl, ?_, data_Rl hi ha.2 h2⟩
    cases x with
    | d y =>
      simp only [R] at h1 ⊢
      exact DR.mono (Nat.le_refl _) (fun k2 hk2 hi2 => ⟨rfl, hi k2 hk2 hi2⟩) y v h1
    | _ => simp [isD] at ha
theorem fresh_calls {K : Call} (hK : SoundK P K) (hH : HR O ι H w) (h0 : ∀ b B, H0 b = some B → H b = some B) {f : FuncId} {args : List AV} {as : List Value} {e : Eff} {fr : Nat} (hfr : ∀ b, fr ≤ b → b < fr + 16 → ι b = none) (hr : Rl O ι w args as) (he : freshCall K f args H0 fr = some e) :
    Known P f ∧ OutR P O ι H w fr f as (.eff e) := by
  unfold freshCall at he
  split at he
  · rename_i as' hs
    split at he
    · rename_i v Hc nx' hk
      split at he
      · rename_i s data rest hv
        simp only [Option.some.injEq] at he
        subst he
        have ha := pure_args hH h0 hs hr
        obtain ⟨c1, _, c3⟩ := hK f as' as noHeap 0 v Hc nx' _ _ w hk (bar_none hH _) ha (fun _ _ => rfl)
        refine ⟨c3, c1.mono fun en w' hret => ?_⟩
        cases en with
        | returned c =>
          obtain ⟨ι', d1, d2, d3, _⟩ := hret
          have hsame := d3.same
          have hH' := hH.same hsame
          have hf0 : ι fr = none := hfr fr (Nat.le_refl _) (by omega)
          have big : ∀ k, k < w.heap.size → ¬ owned ι' k := fun k hk => (d3.keep k hk (fun ⟨b, e, h, _⟩ => by cases h)).2
          have bar : ∀ k, imm (Bar O ι fun _ => false) ι' k → ¬ O k ∧ ¬ owned ι k := fun k hi => ⟨fun hO => hi.2 (.inl hO), fun ⟨b, e, h1, h2⟩ => hi.2 (.inr ⟨b, e, h1, h2, .inl rfl⟩)⟩
          -- no row there yet
          have virtCase : ∀ c0 cs, c = .tuple (c0 :: cs : List Value).toArray → c0 = .slice none 0 0 → data = [] → rest.all isD = true → Rl (Bar O ι fun _ => false) ι' w' rest cs →
              ∃ ι2, Post O ι H w (fun b => fr ≤ b ∧ b < fr + 16) ⟨.tup (.ref fr 0 0 data.length :: rest), [(fr, some (.row s 0 data))]⟩ c w' ι2 := fun c0 cs hc hc0 hd hall hrl => by
            subst hd; subst hc0
            obtain ⟨g1, g2⟩ := new_virt hH' hf0 s
            refine ⟨_, ⟨by simpa only [writes] using g1, ?_, (hsame.ex ι).trans hH.lt g2, new_names ⟨Nat.le_refl _, by omega⟩⟩⟩
            simp only [R, Rl]
            refine ⟨_, hc, _, _, rfl, ⟨_, iset_same .., rfl, Nat.le_refl _, ⟨_, _, rfl⟩, fun _ => ⟨rfl, rfl, rfl⟩⟩, ?_⟩
            · refine data_Rl (fun k hk hi => ⟨?_, (bar k hi).1⟩) hall hrl
              rintro ⟨b, e, h1, h2⟩
              by_cases hb : b = fr
              · subst hb; rw [iset_same] at h1; cases h1; cases h2
              · rw [iset_ne _ _ hb] at h1; exact (bar k hi).2 ⟨b, e, h1, h2⟩
          unfold freshOf at hv
          split at hv
          · rename_i b ver off len rest0
            split at hv
            · rename_i s' ver' data' hb
              split at hv
              · rename_i hcc
                obtain ⟨rfl, rfl, rfl, hall, hall2⟩ := hcc
                simp only [Option.some.injEq, Prod.mk.injEq] at hv
                obtain ⟨rfl, rfl, rfl⟩ := hv
                simp only [R, Rl] at d2
                obtain ⟨l, hc, c0, cs, rfl, ⟨e, he, hm, hle, _, hat⟩, hrl⟩ := d2
                obtain ⟨B, hB, hbr⟩ := d1.blk b e he
                rw [hb] at hB; cases hB
                obtain ⟨q1, q2, q3, q4, q5, q6⟩ := hbr
                have hat := hat q3.symm
                cases hk2 : e.blk with
                | none =>
                  unfold SliceAt at hat
                  rw [hk2] at hat
                  exact virtCase c0 cs hc hat.2.2 (q5 hk2) hall2 hrl
                | some k =>
                  have hkbig : w.heap.size ≤ k := by
                    rcases Nat.lt_or_ge k w.heap.size with h | h
                    · exact absurd ⟨b, e, he, hk2⟩ (big k h)
                    · exact h
                  obtain ⟨r1, r2, r3⟩ := q6 k hk2
                  generalize he2 : (⟨some k, e.base, e.s, 0, e.len, e.cells, false⟩ : CB) = e2
                  have ho : Only w w' ((ι fr).bind (·.blk)) e.base (e.base + e.cells) := by
                    rw [hf0]
                    exact ⟨hsame.os, hsame.tape, hsame.output, hsame.size, fun k3 h3 _ => hsame.heap k3 h3, fun k3 _ _ _ h3 => by cases h3⟩
                  have hr2 : ∀ e0, ι fr = some e0 → e.base = e0.base ∧ e.base + e.cells = e0.base + e0.cells ∧ e0.mp = e2.mp ∧ e0.ver ≤ e2.ver ∧ (e0.ver = e2.ver ∨ e0.mp = true → e2 = e0) := fun e0 h => by rw [hf0] at h; cases h
                  have hk3 : ∀ k3, e2.blk = some k3 → w.heap.size ≤ k3 ∨ ∃ e0, ι fr = some e0 ∧ e0.blk = some k3 ∧ e2.base = e0.base ∧ e2.cells = e0.cells := fun k3 h3 => by
                    subst he2; cases h3; exact .inl hkbig
                  have himm : ∀ k3, imm (Bar O ι fun _ => false) ι' k3 → imm O (iset ι fr (some e2)) k3 := fun k3 hi => by
                    refine ⟨?_, (bar k3 hi).1⟩
                    rintro ⟨b4, e4, h1, h2⟩
                    by_cases hb4 : b4 = fr
                    · subst hb4; rw [iset_same] at h1; cases h1
                      subst he2
                      cases h2
                      exact hi.1 ⟨b, e, he, hk2⟩
                    · rw [iset_ne _ _ hb4] at h1; exact (bar k3 hi).2 ⟨b4, e4, h1, h2⟩
                  have hx := Ex.upd hH ho hr2 hk3
                  have hnew := HR.upd (B' := .row s' 0 data') hH ho hr2 hk3 (by
                    subst he2
                    refine ⟨rfl, q2, rfl, q4, fun h => (by cases h), fun k3 h3 => ?_⟩
                    cases h3
                    refine ⟨r1, r2, fun j z hz => ?_⟩
                    obtain ⟨g1, g2⟩ := r3 j z hz
                    refine ⟨g1, fun j2 y hy => ?_⟩
                    obtain ⟨vx, x1, x2, x3⟩ := g2 j2 y hy
                    refine ⟨vx, x1, x2, ?_⟩
                    have hyd : isD y = true := by
                      have h1 := List.all_eq_true.1 hall z (List.mem_of_getElem? hz)
                      exact List.all_eq_true.1 h1 y (List.mem_of_getElem? hy)
                    cases y with
                    | d y =>
                      simp only [R] at x3 ⊢
                      exact DR.mono (Nat.le_refl _) (fun k3 _ hi2 => ⟨rfl, himm k3 hi2⟩) y vx x3
                    | _ => simp [isD] at hyd)
                  refine ⟨_, ⟨by simpa only [writes] using hnew, ?_, hx, new_names ⟨Nat.le_refl _, by omega⟩⟩⟩
                  simp only [R, Rl]
                  unfold SliceAt at hat
                  rw [hk2] at hat
                  obtain ⟨a1, cap1, t1, t2⟩ := hat
                  refine ⟨_, hc, _, _, rfl, ⟨e2, iset_same .., by subst he2; rfl, by subst he2; exact Nat.le_refl _, ⟨_, _, t1⟩, fun _ => ?_⟩, data_Rl (fun k3 _ hi => himm k3 hi) hall2 hrl⟩
                  subst he2
                  unfold SliceAt
                  exact ⟨a1, cap1, t1, t2⟩
              · cases hv
            · cases hv
          · rename_i s' rest0
            split at hv
            · rename_i hall
              simp only [Option.some.injEq, Prod.mk.injEq] at hv
              obtain ⟨rfl, rfl, rfl⟩ := hv
              simp only [R, Rl] at d2
              obtain ⟨l, hc, c0, cs, rfl, hc0, hrl⟩ := d2
              exact virtCase c0 cs hc hc0 rfl hall hrl
            · cases hv
          · cases hv
        | _ => exact hret.elim
      · cases he
    · cases he
  · cases he
end Go.AI
