/-
  Own work. Operation by operation: slice expressions, addresses, fields, literals.
-/
import Derived.Test.YtljhobohpnpedaaAiOps5
namespace Go.AI
open Go
set_option linter.unusedVariables false
set_option linter.unusedSimpArgs false
variable {P : Program} {O : Nat → Prop} {ι : Inj} {H H0 : Heap} {w : World}

/-- Operands that may be missing. -/
def OR (O : Nat → Prop) (ι : Inj) (w : World) : Option AV → Option Value → Prop
  | none, none => True
  | some x, some c => R O ι w x c
  | _, _ => False
theorem asInt_R {x : AV} {c : Value} {n : Int} (h : asInt x = some n) (hr : R O ι w x c) : ∃ k, c = .int k n := by
  cases x with
  | d x =>
    cases x with
    | v a =>
      cases a <;> simp [asInt] at h
      subst h
      simp only [R, DR] at hr
      exact ⟨_, hr⟩
    | _ => simp [asInt] at h
  | _ => simp [asInt] at h
theorem boundsA_some {n l h : Nat} {lo hi : Option AV} (hb : boundsA n lo hi = some (l, h)) : ∃ hh ll, hiA n hi = some hh ∧ loA lo = some ll ∧ 0 ≤ ll ∧ ll ≤ hh ∧ hh ≤ n ∧ l = ll.toNat ∧ h = hh.toNat := by
  unfold boundsA at hb
  split at hb
  · rename_i hh ll h1 h2
    split at hb
    · rename_i hc
      simp at hb
      exact ⟨hh, ll, h1, h2, hc.1, hc.2.1, hc.2.2, hb.1.symm, hb.2.symm⟩
    · cases hb
  · cases hb
/-- A high bound, a low one, as the model reads them. -/
theorem hi_run {n cap len : Nat} {hi : Option AV} {hiv : Option Value} {hh : Int} (h1 : hiA n hi = some hh) (h0 : 0 ≤ hh) (hn : hh ≤ n) (hcap : n ≤ cap) (hhi : OR O ι w hi hiv) (hlen : hi = none → len = n) : hiv = none ∧ len = hh.toNat ∨ ∃ k, hiv = some (.int k hh) ∧ hh ≤ cap := by
  cases hi with
  | none =>
    cases hiv with
    | none =>
      simp [hiA] at h1
      have := hlen rfl
      left; exact ⟨rfl, by omega⟩
    | some v => exact hhi.elim
  | some x =>
    cases hiv with
    | none => exact hhi.elim
    | some v =>
      obtain ⟨k, rfl⟩ := asInt_R h1 hhi
      exact .inr ⟨k, rfl, by omega⟩
theorem lo_run {lo : Option AV} {lov : Option Value} {ll : Int} (h1 : loA lo = some ll) (hlo : OR O ι w lo lov) : lov = none ∧ ll = 0 ∨ ∃ k, lov = some (.int k ll) := by
  cases lo with
  | none =>
    cases lov with
    | none => simp [loA] at h1; exact .inl ⟨rfl, h1.symm⟩
    | some v => exact hlo.elim
  | some x =>
    cases lov with
    | none => exact hlo.elim
    | some v =>
      obtain ⟨k, rfl⟩ := asInt_R h1 hlo
      exact .inr ⟨k, rfl⟩
theorem bound_ok {k : IntKind} {i : Int} {y : Nat} {code : BoundsCode} (h0 : 0 ≤ i) (h1 : i ≤ y) : (Instr.sliceBound (.int k i) y code).run P w = .ok i.toNat w := by
  simp only [Instr.sliceBound, asIntOf, Sem.run_bind, Sem.run_pure, Result.andThen_ok]
  rw [if_pos ⟨h0, h1⟩]; rfl
theorem bounds_run {n l h cap len : Nat} {lo hi : Option AV} {lov hiv : Option Value} (hb : boundsA n lo hi = some (l, h)) (hlo : OR O ι w lo lov) (hhi : OR O ι w hi hiv) (hlen : hi = none → len = n) (hcap : n ≤ cap) (isS : Bool) :
    (Instr.sliceBounds isS len cap lov hiv none).run P w = .ok (l, h, cap) w ∧ l ≤ h ∧ h ≤ n := by
  obtain ⟨hh, ll, h1, h2, c1, c2, c3, rfl, rfl⟩ := boundsA_some hb
  refine ⟨?_, by omega, by omega⟩
  have hl : ll ≤ (hh.toNat : Int) := by omega
  have h0 : 0 ≤ hh := by omega
  rcases hi_run h1 (by omega) c3 hcap hhi hlen with ⟨rfl, rfl⟩ | ⟨k, rfl, g1⟩ <;> rcases lo_run h2 hlo with ⟨rfl, rfl⟩ | ⟨k2, rfl⟩
  · simp [Instr.sliceBounds]
  · simp [Instr.sliceBounds, bound_ok c1 hl]
  · simp [Instr.sliceBounds, bound_ok h0 g1]
  · simp [Instr.sliceBounds, bound_ok h0 g1, bound_ok c1 hl]
theorem bounds_run3 {n l h cap len m : Nat} {lo : Option AV} {hi : AV} {lov : Option Value} {hiv : Value} {k : IntKind} (hb : boundsA n lo (some hi) = some (l, h)) (hlo : OR O ι w lo lov) (hhi : R O ι w hi hiv) (hm : h ≤ m) (hcap : m ≤ cap) :
    (Instr.sliceBounds true len cap lov (some hiv) (some (.int k m))).run P w = .ok (l, h, m) w ∧ l ≤ h ∧ h ≤ n := by
  obtain ⟨hh, ll, h1, h2, c1, c2, c3, rfl, rfl⟩ := boundsA_some hb
  refine ⟨?_, by omega, by omega⟩
  have hl : ll ≤ (hh.toNat : Int) := by omega
  obtain ⟨k', rfl⟩ := asInt_R h1 hhi
  have h3 : hh ≤ (m : Int) := by omega
  have h4 : (m : Int) ≤ cap := by omega
  have h5 : 0 ≤ hh := by omega
  have hm0 : (0 : Int) ≤ m := by omega
  rcases lo_run h2 hlo with ⟨rfl, rfl⟩ | ⟨k2, rfl⟩
  · simp [Instr.sliceBounds, bound_ok h5 h3, bound_ok hm0 h4]
  · simp [Instr.sliceBounds, bound_ok h5 h3, bound_ok hm0 h4, bound_ok c1 hl]

theorem slice_val {s : Nat} {xs : List (List DV)} {a : Option Addr} {cap l h : Nat} (hx : R O ι w (.d (.lst s xs)) (.slice a xs.length cap)) (h1 : l ≤ h) (h2 : h ≤ xs.length) :
    R O ι w (.d (.lst s ((xs.take h).drop l))) (.slice (if cap = l then a else a.map (·.add (l * s))) (h - l) (cap - l)) := by
  simp only [R, DR] at hx ⊢
  obtain ⟨a', cap', e, hl, hx⟩ := hx
  cases e
  have hlen : ((xs.take h).drop l).length = h - l := by simp; omega
  refine ⟨_, _, by rw [hlen], by rw [hlen]; omega, ?_⟩
  by_cases hz : (xs.take h).drop l = []
  · exact .inl hz
  · right
    have hpos : 0 < h - l := by rw [← hlen]; exact List.length_pos_iff.2 hz
    rcases hx with rfl | ⟨k, off, rfl, hi, hk, hx⟩
    · simp at h2; omega
    · refine ⟨k, off + l * s, ?_, hi, hk, ?_⟩
      · rw [if_neg (by omega)]
        simp [Addr.add_none]
      · rw [DRss_iff] at hx ⊢
        intro i x hix
        rw [List.getElem?_drop, List.getElem?_take] at hix
        split at hix
        · obtain ⟨g1, g2⟩ := hx (l + i) x hix
          exact ⟨g1, by rw [show off + l * s + i * s = off + (l + i) * s from by rw [Nat.add_mul]; omega]; exact g2⟩
        · cases hix

theorem ex_lst' {s : Nat} {xs : List (List DV)} {c : Value} (h : R O ι w (.ex s xs) c) : R O ι w (.d (.lst s xs)) c := by
  simp only [R, DR] at h ⊢
  obtain ⟨a, h1, h2⟩ := h
  exact ⟨a, _, h1, Nat.le_refl _, h2⟩
theorem slice_sim (hH : HR O ι H w) (h0 : ∀ b B, H0 b = some B → H b = some B) {t : TypeId} {x v : AV} {c : Value} {lo hi mx : Option AV} {lov hiv mxv : Option Value} {N : Nat → Prop} (hx : R O ι w x c) (hlo : OR O ι w lo lov) (hhi : OR O ι w hi hiv) (hmx : OR O ι w mx mxv) (he : sliceA P H0 t x lo hi mx = some v) :
    Sim P O ι H w N (Instr.sliceAt t c lov hiv mxv) ⟨v, []⟩ := by
  unfold sliceA at he
  cases ht : tsl P t with
  | none => simp [ht] at he
  | some q =>
    obtain ⟨e0, s0, by0⟩ := q
    obtain ⟨hsl, i0, z, hi0, hi1, _, _, _, _, _⟩ := tsl_some ht
    have hat : ∀ c, (Instr.sliceAt t c lov hiv mxv).run P w = (Instr.slice t c lov hiv mxv).run P w := by
      intro c
      simp [Instr.sliceAt, run_und hsl]
    simp only [ht] at he
    cases mx with
    | none =>
      cases mxv with
      | some v => exact hmx.elim
      | none =>
      simp only at he
      have base : ∀ {a : Option Addr} {len cap l h n : Nat}, boundsA n lo hi = some (l, h) → (hi = none → len = n) → n ≤ cap →
          (Instr.sliceAt t (.slice a len cap) lov hiv none).run P w = .ok (.slice (if cap = l then a else a.map (·.add (l * s0))) (h - l) (cap - l)) w ∧ l ≤ h ∧ h ≤ n := by
        intro a len cap l h n hb hlen hcap
        obtain ⟨g1, g2, g3⟩ := bounds_run (P := P) hb hlo hhi hlen hcap true
        refine ⟨?_, g2, g3⟩
        rw [hat]
        simp [Instr.slice, run_und hsl, g1, run_sizeI hi0, hi1]
      cases x with
      | d x =>
        cases x with
        | lst s xs =>
          simp only at he
          split at he
          · rename_i hs; subst hs
            cases hb : boundsA xs.length lo hi with
            | none => simp [hb] at he
            | some q =>
              obtain ⟨l, h⟩ := q
              simp [hb] at he; subst he
              have hx0 := hx
              simp only [R, DR] at hx
              obtain ⟨a, cap, rfl, hl, _⟩ := hx
              obtain ⟨g1, g2, g3⟩ := base (a := a) hb (fun _ => rfl) hl
              exact .still hH g1 (slice_val hx0 g2 g3)
          · cases he
        | _ => simp at he
      | ex s xs =>
        simp only at he
        split at he
        · rename_i hs; subst hs
          cases hb : boundsA xs.length lo hi with
          | none => simp [hb] at he
          | some q =>
            obtain ⟨l, h⟩ := q
            simp [hb] at he; subst he
            simp only [R] at hx
            obtain ⟨a, rfl, hx⟩ := hx
            obtain ⟨g1, g2, g3⟩ := base (a := a) hb (fun _ => rfl) (Nat.le_refl _)
            exact .still hH g1 (slice_val (by simp only [R, DR]; exact ⟨a, _, rfl, Nat.le_refl _, hx⟩) g2 g3)
        · cases he
      | nil s =>
        simp only at he
        cases hb : boundsA 0 lo hi with
        | none => simp [hb] at he
        | some q =>
          obtain ⟨l, h⟩ := q
          simp [hb] at he; subst he
          simp only [R] at hx; subst hx
          obtain ⟨g1, g2, g3⟩ := base (a := none) hb (fun _ => rfl) (Nat.le_refl _)
          refine .still hH g1 ?_
          have : h = 0 := by omega
          have : l = 0 := by omega
          subst_vars
          simp [R]
      | ref b ver off len =>
        simp only at he
        cases hb0 : H0 b with
        | none => simp [hb0] at he
        | some B =>
          cases B with
          | mp es => simp [hb0] at he
          | row s ver' data =>
            simp only [hb0] at he
            split at he
            · rename_i hc
              obtain ⟨rfl, hver⟩ := hc
              cases hb : boundsA (data.length - off) lo (some (hiOr len hi)) with
              | none => simp [hb] at he
              | some q =>
                obtain ⟨l, h⟩ := q
                simp [hb] at he; subst he
                have hx0 := hx
                simp only [R] at hx
                obtain ⟨e, he, hmp, hle, ⟨a, cap, rfl⟩, hsat⟩ := hx
                obtain ⟨B, hB, hbr⟩ := hH.blk b e he
                rw [h0 b _ hb0] at hB; cases hB
                obtain ⟨q1, q2, q3, q4, q5, q6⟩ := hbr
                have hsl2 := hsat (by omega)
                have hol : off + len ≤ data.length := by rw [← q4]; exact hsl2.le
                have hcap : data.length - off ≤ cap := by
                  unfold SliceAt at hsl2
                  cases hbk : e.blk with
                  | none => have := q5 hbk; subst this; simp
                  | some k =>
                    rw [hbk] at hsl2
                    obtain ⟨a', cap', h1, h2, h3, h4, h5, h6⟩ := hsl2
                    cases h1; omega
                have hrun : (Instr.sliceAt t (.slice a len cap) lov hiv none).run P w = .ok (.slice (if cap = l then a else a.map (·.add (l * s))) (h - l) (cap - l)) w ∧ l ≤ h ∧ h ≤ data.length - off := by
                  cases hi with
                  | some hx => exact base hb (fun h => by cases h) hcap
                  | none =>
                    cases hiv with
                    | some v => exact hhi.elim
                    | none =>
                      obtain ⟨g1, g2, g3⟩ := bounds_run (P := P) (len := len) (hiv := some (.int .i64 len)) hb hlo (by simp [OR, hiOr, R, DR]) (fun h => by cases h) hcap true
                      refine ⟨?_, g2, g3⟩
                      have hh : h = len := by
                        obtain ⟨hh, ll, b1, _, _, _, _, _, rfl⟩ := boundsA_some hb
                        simp [hiA, hiOr, asInt] at b1; omega
                      subst hh
                      have g4 : (Instr.sliceBounds true h cap lov none none).run P w = .ok (l, h, cap) w := by
                        rw [← g1]
                        unfold Instr.sliceBounds
                        have : h ≤ cap := by omega
                        simp [Instr.sliceBound, asIntOf, this]
                      rw [hat]
                      simp [Instr.slice, run_und hsl, g4, run_sizeI hi0, hi1]
                obtain ⟨g1, g2, g3⟩ := hrun
                refine .still hH g1 ?_
                simp only [R]
                refine ⟨e, he, hmp, hle, ⟨_, _, rfl⟩, fun hq => ?_⟩
                have hsl3 := hsat hq
                unfold SliceAt at hsl3 ⊢
                cases hbk : e.blk with
                | none =>
                  rw [hbk] at hsl3
                  obtain ⟨h1, h2, h3⟩ := hsl3
                  have := q5 hbk
                  subst this
                  cases h3
                  simp at g3
                  have : l = 0 := by omega
                  subst g3 this
                  simp [h1]
                | some k =>
                  rw [hbk] at hsl3
                  obtain ⟨a', cap', h1, h2, h3, h4, h5, h6⟩ := hsl3
                  cases h1
                  refine ⟨_, cap - l, rfl, by omega, by omega, by omega, ?_, fun hne => ?_⟩
                  · rw [show off + l + (cap - l) = off + cap from by omega]; exact h5
                  · rw [if_neg (by omega), h6 (by omega)]
                    simp only [Option.map_some, Addr.add_none]
                    rw [q2, Nat.add_mul, Nat.add_assoc]
            · cases he
      | _ => simp at he
    | some m =>
      cases mxv with
      | none => exact hmx.elim
      | some mv =>
      simp only at he
      -- with a bound on the capacity
      have base : ∀ {a : Option Addr} {len cap l h n : Nat} {hx : AV} {m' h' : Int}, hi = some hx → asInt m = some m' → asInt hx = some h' → boundsA n lo hi = some (l, h) → n ≤ cap → h' ≤ m' → m' ≤ cap →
          (Instr.sliceAt t (.slice a len cap) lov hiv (some mv)).run P w = .ok (.slice (if m'.toNat = l then a else a.map (·.add (l * s0))) (h - l) (m'.toNat - l)) w ∧ l ≤ h ∧ h ≤ n ∧ (h : Int) = h' := by
        intro a len cap l h n hx m' h' e1 e2 e3 hb hcap hm1 hm2
        subst e1
        cases hiv with
        | none => exact hhi.elim
        | some hv =>
          obtain ⟨k1, rfl⟩ := asInt_R e2 hmx
          obtain ⟨hh, ll, b1, _, b3, b4, _, _, rfl⟩ := boundsA_some hb
          have hhh : hh = h' := by simp [hiA, e3] at b1; exact b1.symm
          subst hhh
          obtain ⟨g1, g2, g3⟩ := bounds_run3 (P := P) (len := len) (k := k1) (m := m'.toNat) (cap := cap) hb hlo hhi (by omega) (by omega)
          refine ⟨?_, g2, g3, by omega⟩
          rw [hat]
          have : (m'.toNat : Int) = m' := by omega
          rw [this] at g1
          simp [Instr.slice, run_und hsl, g1, run_sizeI hi0, hi1]
      cases x with
      | d x =>
        cases x with
        | lst s xs =>
          cases hi with
          | none => simp at he
          | some hx' =>
            cases em : asInt m with
            | none => simp [em] at he
            | some m' =>
              cases eh : asInt hx' with
              | none => simp [em, eh] at he
              | some h' =>
                simp only [em, eh] at he
                split at he
                · rename_i hc
                  obtain ⟨rfl, rfl⟩ := hc
                  cases hb : boundsA xs.length lo (some hx') with
                  | none => simp [hb] at he
                  | some q =>
                    obtain ⟨l, h⟩ := q
                    simp [hb] at he; subst he
                    have hx0 := hx
                    simp only [R, DR] at hx
                    obtain ⟨a, cap, rfl, hl, hx⟩ := hx
                    have hle : m' ≤ cap := by
                      obtain ⟨hh, ll, b1, _, _, _, b5, _, _⟩ := boundsA_some hb
                      simp [hiA, eh] at b1; omega
                    obtain ⟨g1, g2, g3, g4⟩ := base (a := a) (len := xs.length) rfl em eh hb hl (Int.le_refl _) hle
                    have := slice_val hx0 g2 g3
                    refine .still hH g1 ?_
                    have hmh : m'.toNat = h := by omega
                    rw [hmh]
                    simp only [R]
                    have hlen : ((xs.take h).drop l).length = h - l := by simp; omega
                    rw [hlen]
                    refine ⟨_, rfl, ?_⟩
                    by_cases hz : (xs.take h).drop l = []
                    · exact .inl hz
                    · right
                      have hpos : 0 < h - l := by rw [← hlen]; exact List.length_pos_iff.2 hz
                      simp only [R, DR, hlen] at this
                      obtain ⟨a2, cap2, q1, q2, q3⟩ := this
                      cases q1
                      rcases q3 with q3 | q3
                      · exact absurd q3 hz
                      · rw [if_neg (by omega)] at q3
                        rw [if_neg (by omega)]
                        exact q3
                · cases he
        | _ => simp at he
      | nil s =>
        cases hi with
        | none => simp at he
        | some hx' =>
          cases em : asInt m with
          | none => simp [em] at he
          | some m' =>
            cases eh : asInt hx' with
            | none => simp [em, eh] at he
            | some h' =>
              simp only [em, eh] at he
              split at he
              · rename_i hc; subst hc
                cases hb : boundsA 0 lo (some hx') with
                | none => simp [hb] at he
                | some q =>
                  obtain ⟨l, h⟩ := q
                  simp [hb] at he; subst he
                  simp only [R] at hx; subst hx
                  have hle : m' ≤ (0 : Nat) := by
                    obtain ⟨hh, ll, b1, _, _, _, b5, _, _⟩ := boundsA_some hb
                    simp [hiA, eh] at b1; omega
                  obtain ⟨g1, g2, g3, g4⟩ := base (a := none) (len := 0) rfl em eh hb (Nat.le_refl _) (Int.le_refl _) hle
                  refine .still hH g1 ?_
                  have : h = 0 := by omega
                  have : l = 0 := by omega
                  have hm0 : m'.toNat = 0 := by omega
                  subst h l
                  simp [R, hm0]
              · cases he
      | ref b ver off len =>
        cases hi with
        | none => simp at he
        | some hx' =>
          cases em : asInt m with
          | none => simp [em] at he
          | some m' =>
            cases eh : asInt hx' with
            | none => simp [em, eh] at he
            | some h' =>
              cases hb0 : H0 b with
              | none => simp [em, eh, hb0] at he
              | some B =>
                cases B with
                | mp es => simp [em, eh, hb0] at he
                | row s ver' data =>
                  simp only [em, eh, hb0] at he
                  split at he
                  · rename_i hc
                    obtain ⟨rfl, hver, hm1, hm2⟩ := hc
                    cases hb : boundsA (data.length - off) lo (some hx') with
                    | none => simp [hb] at he
                    | some q =>
                      obtain ⟨l, h⟩ := q
                      simp only [hb] at he
                      simp only [R] at hx
                      obtain ⟨e, hie, hmp, hle, ⟨a, cap, rfl⟩, hsat⟩ := hx
                      obtain ⟨B, hB, hbr⟩ := hH.blk b e hie
                      rw [h0 b _ hb0] at hB; cases hB
                      obtain ⟨q1, q2, q3, q4, q5, q6⟩ := hbr
                      have hsl2 := hsat (by omega)
                      have hol : off + len ≤ data.length := by rw [← q4]; exact hsl2.le
                      have hcap : data.length - off ≤ cap := by
                        unfold SliceAt at hsl2
                        cases hbk : e.blk with
                        | none => have := q5 hbk; subst this; simp
                        | some k =>
                          rw [hbk] at hsl2
                          obtain ⟨a', cap', h1, h2, h3, h4, h5, h6⟩ := hsl2
                          cases h1; omega
                      obtain ⟨g1, g2, g3, g4⟩ := base (a := a) (len := len) rfl em eh hb hcap hm1 (by omega)
                      split at he
                      · rename_i hl
                        obtain ⟨rfl, rfl⟩ := hl
                        simp at he; subst he
                        refine .still hH g1 ?_
                        have hml : m'.toNat = l := by omega
                        have hv : (Value.slice (if m'.toNat = l then a else Option.map (fun x => x.add (l * s)) a) (l - l) (m'.toNat - l)) = .slice a 0 0 := by simp [hml]
                        rw [hv]
                        simp only [R]
                        exact ⟨a, rfl, Or.inl trivial⟩
                      · simp at he; subst he
                        exact .still hH g1 (by simp [R])
                  · cases he
      | ex s xs =>
        cases hi with
        | none => simp at he
        | some hx' =>
          cases em : asInt m with
          | none => simp [em] at he
          | some m' =>
            cases eh : asInt hx' with
            | none => simp [em, eh] at he
            | some h' =>
              simp only [em, eh] at he
              split at he
              · rename_i hc
                obtain ⟨rfl, rfl⟩ := hc
                cases hb : boundsA xs.length lo (some hx') with
                | none => simp [hb] at he
                | some q =>
                  obtain ⟨l, h⟩ := q
                  simp [hb] at he; subst he
                  have hx0 := ex_lst' hx
                  have hx := ex_lst' hx
                  simp only [R, DR] at hx
                  obtain ⟨a, cap, rfl, hl, hx⟩ := hx
                  have hle : m' ≤ cap := by
                    obtain ⟨hh, ll, b1, _, _, _, b5, _, _⟩ := boundsA_some hb
                    simp [hiA, eh] at b1; omega
                  obtain ⟨g1, g2, g3, g4⟩ := base (a := a) (len := xs.length) rfl em eh hb hl (Int.le_refl _) hle
                  have := slice_val hx0 g2 g3
                  refine .still hH g1 ?_
                  have hmh : m'.toNat = h := by omega
                  rw [hmh]
                  simp only [R]
                  have hlen : ((xs.take h).drop l).length = h - l := by simp; omega
                  rw [hlen]
                  refine ⟨_, rfl, ?_⟩
                  by_cases hz : (xs.take h).drop l = []
                  · exact .inl hz
                  · right
                    have hpos : 0 < h - l := by rw [← hlen]; exact List.length_pos_iff.2 hz
                    simp only [R, DR, hlen] at this
                    obtain ⟨a2, cap2, q1, q2, q3⟩ := this
                    cases q1
                    rcases q3 with q3 | q3
                    · exact absurd q3 hz
                    · rw [if_neg (by omega)] at q3
                      rw [if_neg (by omega)]
                      exact q3
              · cases he
      | _ => simp at he
end Go.AI
