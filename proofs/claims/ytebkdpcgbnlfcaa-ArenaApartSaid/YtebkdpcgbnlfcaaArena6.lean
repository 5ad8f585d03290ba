/-
  Own work. The arenas' places: what they are; a good arena stays one; who turns.
-/
import Derived.Test.YtebkdpcgbnlfcaaArena5
import Derived.Test.YtebkdpcgbnlfcaaToldAS
namespace Go.AI
open Go
set_option linter.unusedVariables false
set_option linter.unusedSimpArgs false
namespace Arena
open Kit
inductive St
  | no | live | retired | free | limbo
  deriving DecidableEq
def St.b : St → ByteArray
  | .no => ByteArray.mk #[]
  | .live => ByteArray.mk #[108, 105, 118, 101]
  | .retired => ByteArray.mk #[114, 101, 116, 105, 114, 101, 100]
  | .free => ByteArray.mk #[102, 114, 101, 101]
  | .limbo => ByteArray.mk #[108, 105, 109, 98, 111]
theorem st_beq (s t : St) : (s.b.toList == t.b.toList) = decide (s = t) := by
  cases s <;> cases t <;> kernel_rfl
theorem no_b : ByteArray.mk #[] = St.no.b := rfl
theorem live_b : ByteArray.mk #[108, 105, 118, 101] = St.live.b := rfl
theorem retired_b : ByteArray.mk #[114, 101, 116, 105, 114, 101, 100] = St.retired.b := rfl
theorem free_b : ByteArray.mk #[102, 114, 101, 101] = St.free.b := rfl
theorem limbo_b : ByteArray.mk #[108, 105, 109, 98, 111] = St.limbo.b := rfl
def stT (a : A) (p : Int) (t : Th) : St := if liveB t = true then .live else if t.gen = -1 then .retired else if freeB a p = true then .free else .limbo
def stS (a : A) (p : Int) : St := if p < 0 ∨ (a.things.length : Int) ≤ p then .no else stT a p (at_ a p)
theorem state_ok (a : A) (p : Int) (hs : Small a) : arena_State.R (a.things.map encT) (a.free.map encL) p = some ((stS a p).b, ()) := by
  refine arena_State.start _ _ _ _ ?_
  unfold stS
  rw [List.length_map]
  by_cases h1 : p < 0
  · rw [decide_eq_true h1, if_pos (.inl h1)]; rfl
  rw [decide_eq_false h1]
  by_cases h2 : p ≥ (a.things.length : Int)
  · rw [decide_eq_true h2, if_pos (.inr h2)]; rfl
  rw [decide_eq_false h2, if_neg (by omega)]
  have hpi : p.toNat < a.things.length := by omega
  simp only [cF, needs_iff, map_get _ _ _ hpi, optAll_so, t0_, t1_, t2_, t3_, t4_, t5_, t6_, t7_, isLive_ok, isFree_ok a p hs, at_eq hpi]
  refine ⟨by omega, ?_⟩
  unfold stT
  by_cases h3 : liveB (at_ a p) = true
  · rw [if_pos h3, h3]; rfl
  rw [if_neg h3, show liveB (at_ a p) = false by simpa using h3]
  simp only [cF]
  refine ⟨by omega, ?_⟩
  by_cases h4 : (at_ a p).gen = -1
  · rw [if_pos h4, show ((at_ a p).gen == -1) = true by simpa using h4]; rfl
  rw [if_neg h4, show ((at_ a p).gen == -1) = false by simpa using h4]
  by_cases h5 : freeB a p = true
  · rw [if_pos h5, h5]; rfl
  · rw [if_neg h5, show freeB a p = false by simpa using h5]; rfl
/-! A good one stays good. -/
theorem at_mem {a : A} {p : Int} (h : 0 ≤ p ∧ p < a.things.length) : at_ a p ∈ a.things := by
  have hpi : p.toNat < a.things.length := by omega
  rw [← at_eq hpi]; exact List.getElem_mem hpi
theorem okP_iff {a : A} {p : Int} : okP a.things p = true ↔ 0 ≤ p ∧ p < a.things.length ∧ liveB (at_ a p) = false ∧ (at_ a p).gen ≠ -1 := by
  constructor
  · intro h
    have hl := okP_lt h
    unfold okP at h
    rw [List.getElem?_eq_getElem hl.2, at_eq hl.2] at h
    simp at h
    exact ⟨hl.1, by omega, h.2.1, h.2.2⟩
  · rintro ⟨h1, h2, h3, h4⟩
    have hpi : p.toNat < a.things.length := by omega
    unfold okP
    rw [List.getElem?_eq_getElem hpi, at_eq hpi]
    simp [h1, h3, h4]
theorem at_put (a : A) (q p : Int) (t : Th) (hq : 0 ≤ q ∧ q < a.things.length) (hp : 0 ≤ p) : at_ (putA a q t) p = if p = q then t else at_ a p := by
  unfold at_ putA
  simp only [List.getD_eq_getElem?_getD, List.getElem?_set]
  by_cases h : p = q
  · subst h; rw [if_pos rfl, if_pos rfl, if_pos (by omega)]; rfl
  · rw [if_neg h, if_neg (by omega)]
theorem sizes_put {a : A} {q : Int} {t : Th} : sizes (putA a q t) = sizes a := by unfold sizes putA; simp
theorem sizes_list {a : A} {c : Int} {l : List Int} : sizes (putL a c l) = sizes a := by unfold sizes putL; simp
theorem good_put {a : A} (h : good a = true) {p : Int} (hp : 0 ≤ p ∧ p < a.things.length) (hf : p ∉ a.free.flatten) {t : Th} (ht : thingB t = true) : good (putA a p t) = true := by
  obtain ⟨h1, h2, h3, h4⟩ := (good_iff a).1 h
  refine (good_iff _).2 ⟨by rw [sizes_put]; exact h1, fun u hu => ?_, fun q hq => ?_, h4⟩
  · rcases List.mem_or_eq_of_mem_set hu with hu | rfl
    · exact h2 u hu
    · exact ht
  · have hk := okP_iff.1 (h3 q hq)
    have hne : q ≠ p := fun e => hf (e ▸ hq)
    refine okP_iff.2 ⟨hk.1, by simpa [putA] using hk.2.1, ?_⟩
    rw [at_put a p q t hp hk.1, if_neg hne]
    exact hk.2.2
/-- The other lists. -/
def rest (f : List (List Int)) (i : Nat) : List Int := (f.take i).flatten ++ (f.drop (i + 1)).flatten
theorem flat_perm (f : List (List Int)) (i : Nat) (h : i < f.length) : f.flatten.Perm (f[i] ++ rest f i) := by
  have e : f.flatten = (f.take i).flatten ++ (f[i] ++ (f.drop (i + 1)).flatten) := by
    rw [← List.flatten_cons, ← List.drop_eq_getElem_cons h, ← List.flatten_append, List.take_append_drop]
  rw [e]
  unfold rest
  rw [← List.append_assoc, ← List.append_assoc]
  exact List.perm_append_comm.append_right _
theorem rest_set (f : List (List Int)) (i : Nat) (l : List Int) : rest (f.set i l) i = rest f i := by
  unfold rest
  rw [List.take_set_of_le (Nat.le_refl _), List.drop_set_of_lt (Nat.lt_succ_self _)]
theorem flat_set (f : List (List Int)) (i : Nat) (h : i < f.length) (l : List Int) : (f.set i l).flatten.Perm (l ++ rest f i) := by
  have h' : i < (f.set i l).length := by simpa using h
  have := flat_perm (f.set i l) i h'
  rw [rest_set, List.getElem_set_self] at this
  exact this
theorem good_list {a : A} (h : good a = true) {c : Int} {l : List Int} (hk : ∀ p ∈ (putL a c l).free.flatten, okP a.things p = true) (hn : (putL a c l).free.flatten.Nodup) : good (putL a c l) = true := by
  obtain ⟨h1, h2, h3, h4⟩ := (good_iff a).1 h
  exact (good_iff _).2 ⟨by rw [sizes_list]; exact h1, h2, hk, hn⟩
theorem cut_perm {a : A} {c : Int} (hc : 0 ≤ c ∧ c < a.free.length) {p : Int} {r : List Int} (hl : listOf a c = p :: r) : a.free.flatten.Perm (p :: (putL a c r).free.flatten) := by
  have hi : c.toNat < a.free.length := by omega
  have e1 := flat_perm a.free c.toNat hi
  rw [listOf_eq hi, hl] at e1
  have e2 := flat_set a.free c.toNat hi r
  exact e1.trans ((List.Perm.cons p e2).symm)
theorem more_perm {a : A} {c : Int} (hc : 0 ≤ c ∧ c < a.free.length) (p : Int) : (putL a c (listOf a c ++ [p])).free.flatten.Perm (p :: a.free.flatten) := by
  have hi : c.toNat < a.free.length := by omega
  have e1 := flat_perm a.free c.toNat hi
  rw [listOf_eq hi] at e1
  have e2 := flat_set a.free c.toNat hi (listOf a c ++ [p])
  refine e2.trans (List.Perm.trans ?_ (List.Perm.cons p e1.symm))
  rw [List.append_assoc]
  exact List.perm_middle
def Refs (a : A) (M : Int) : Prop := ∀ t ∈ a.things, t.refs ≤ M
theorem refs_put {a : A} {M : Int} (h : Refs a M) {N : Int} (hMN : M ≤ N) {p : Int} {t : Th} (ht : t.refs ≤ N) : Refs (putA a p t) N := fun u hu => by
  rcases List.mem_or_eq_of_mem_set hu with hu | rfl
  · exact Int.le_trans (h u hu) hMN
  · exact ht
theorem refs_more {a : A} {M N : Int} (h : Refs a M) (hMN : M ≤ N) : Refs a N := fun t ht => Int.le_trans (h t ht) hMN
/-- Who turns. -/
def Allowed (a b : A) (q : Int) : Prop := (stS a q = .free ∧ stS b q = .live) ∨ (stS a q = .live ∧ stS b q = .limbo) ∨ (stS a q = .live ∧ stS b q = .retired ∧ (at_ a q).gen = 4095) ∨ (stS a q = .limbo ∧ stS b q = .free)
def Turn (a b : A) : Prop := ∃ q : Int, (∀ p : Int, 0 ≤ p → p ≠ q → stS b p = stS a p) ∧ (stS b q = stS a q ∨ Allowed a b q)
theorem Turn.rfl' (a : A) : Turn a a := ⟨0, fun _ _ _ => rfl, .inl rfl⟩
theorem st_in {a : A} {p : Int} (h : 0 ≤ p ∧ p < a.things.length) : stS a p = stT a p (at_ a p) := by unfold stS; rw [if_neg (by omega)]
/-- What a step leaves. -/
structure Left (a b : A) (M : Int) : Prop where
  good : good b = true
  refs : Refs b (M + 100)
  turn : Turn a b
theorem Left.rfl' {a : A} (h : Arena.good a = true) {M : Int} (hr : Refs a M) : Left a a M := ⟨h, refs_more hr (by omega), Turn.rfl' a⟩
theorem free_put (a : A) (q p : Int) (t : Th) : freeB (putA a q t) p = freeB a p := rfl
theorem st_put_ne {a : A} {q p : Int} {t : Th} (hq : 0 ≤ q ∧ q < a.things.length) (hp : 0 ≤ p) (hne : p ≠ q) : stS (putA a q t) p = stS a p := by
  unfold stS
  rw [at_put a q p t hq hp, if_neg hne, show (putA a q t).things.length = a.things.length by simp [putA]]
  rfl
theorem st_put_eq {a : A} {q : Int} {t : Th} (hq : 0 ≤ q ∧ q < a.things.length) : stS (putA a q t) q = stT a q t := by
  rw [st_in (by simpa [putA] using hq), at_put a q q t hq hq.1, if_pos rfl]
  rfl
theorem st_list {a : A} {c : Int} {l : List Int} {p : Int} (h : freeB (putL a c l) p = freeB a p) : stS (putL a c l) p = stS a p := by
  unfold stS stT
  rw [h]
  rfl
theorem thing_live {t : Th} (h : thingB t = true) (hl : liveB t = true) : 0 ≤ t.gen ∧ t.gen ≤ 4095 ∧ 0 ≤ t.refs := by
  unfold thingB at h
  rw [if_pos hl] at h
  simp at h
  omega
theorem thing_dead {t : Th} (h : thingB t = true) (hl : liveB t = false) : t.ty = 0 ∧ -1 ≤ t.gen ∧ t.gen ≤ 4095 ∧ t.refs = 0 := by
  unfold thingB at h
  rw [hl] at h
  simp at h
  omega
theorem take_left {a : A} (h : good a = true) {M : Int} (hM : 1 ≤ M) (hr : Refs a M) (c : Int) (t : Th) : Left a (takeS a c t).1 M := by
  unfold takeS
  split
  · rename_i hh
    split
    · exact Left.rfl' h hr
    · rename_i p r hl
      have hc : 0 ≤ c ∧ c < a.free.length := ⟨hh.1, hh.2.1⟩
      have pm := cut_perm hc hl
      obtain ⟨h1, h2, h3, h4⟩ := (good_iff a).1 h
      have hnd := pm.nodup_iff.1 h4
      rw [List.nodup_cons] at hnd
      have hpk := h3 p (pm.mem_iff.2 List.mem_cons_self)
      have hp := okP_iff.1 hpk
      have hg : good (putL a c r) = true := good_list h (fun q hq => h3 q (pm.mem_iff.2 (List.mem_cons_of_mem _ hq))) hnd.2
      have hd := thing_dead (h2 _ (at_mem ⟨hp.1, hp.2.1⟩)) hp.2.2.1
      have hp' : 0 ≤ p ∧ p < (putL a c r).things.length := ⟨hp.1, hp.2.1⟩
      have hg' := hp.2.2.2
      have htl : liveB { t with gen := (at_ a p).gen, refs := 1 } = true := hh.2.2.1
      refine ⟨good_put hg hp' hnd.1 ?_, refs_put (a := putL a c r) hr (by omega) (by show (1 : Int) ≤ _; omega), p, fun q hq hne => ?_, .inr (.inl ⟨?_, ?_⟩)⟩
      · unfold thingB
        rw [if_pos htl]
        simp
        omega
      · rw [st_put_ne hp' hq hne]
        refine st_list ?_
        unfold freeB
        exact decide_eq_decide.2 ⟨fun hm => pm.mem_iff.2 (List.mem_cons_of_mem _ hm), fun hm => (List.mem_cons.1 (pm.mem_iff.1 hm)).resolve_left hne⟩
      · rw [st_in ⟨hp.1, hp.2.1⟩]
        unfold stT
        rw [if_neg (by rw [hp.2.2.1]; simp), if_neg hg', if_pos (by unfold freeB; exact decide_eq_true (pm.mem_iff.2 List.mem_cons_self))]
      · rw [st_put_eq hp']
        unfold stT
        rw [if_pos htl]
  · exact Left.rfl' h hr
theorem live_out {a : A} (h : good a = true) {p : Int} (hl : liveB (at_ a p) = true) : p ∉ a.free.flatten := fun hm => by
  have := okP_iff.1 (((good_iff a).1 h).2.2.1 p hm)
  rw [hl] at this
  exact absurd this.2.2.1 (by simp)
theorem drop_left {a : A} (h : good a = true) {M : Int} (hM : 1 ≤ M) (hr : Refs a M) (p : Int) : Left a (dropS a p).1 M := by
  unfold dropS
  split
  · rename_i hh
    obtain ⟨h1, h2, _⟩ := hh
    have hp := has_iff.1 h1
    have hp' : 0 ≤ p ∧ p < a.things.length := ⟨hp.1, hp.2.1⟩
    have ho := live_out h h2
    have hth := thing_live (((good_iff a).1 h).2.1 _ (at_mem hp')) h2
    have hs : stS a p = .live := by rw [st_in hp']; unfold stT; rw [if_pos h2]
    have hf : freeB a p = false := by unfold freeB; exact decide_eq_false ho
    refine ⟨good_put h hp' ho ?_, refs_put hr (by omega) (by show (0 : Int) ≤ _; omega), p, fun q hq hne => st_put_ne hp' hq hne, .inr ?_⟩
    · unfold thingB liveB nextS
      simp
      split <;> omega
    · unfold Allowed
      rw [st_put_eq hp', hs]
      unfold stT
      rw [if_neg (show ¬ liveB ⟨0, nextS (at_ a p).gen, 0, 0, 0, 0, -1, 0⟩ = true by unfold liveB; simp)]
      by_cases hg : (at_ a p).gen = 4095
      · rw [if_pos (show nextS (at_ a p).gen = -1 by unfold nextS; rw [if_neg (by omega)])]
        exact .inr (.inr (.inl ⟨rfl, rfl, hg⟩))
      · rw [if_neg (show ¬ nextS (at_ a p).gen = -1 by unfold nextS; rw [if_pos (by omega)]; omega), hf]
        exact .inr (.inl ⟨rfl, rfl⟩)
  · exact Left.rfl' h hr
theorem give_left {a : A} (h : good a = true) {M : Int} (hM : 1 ≤ M) (hr : Refs a M) (c p : Int) : Left a (giveS a c p).1 M := by
  unfold giveS
  split
  · rename_i hh
    split
    · exact Left.rfl' h hr
    · rename_i hg
      obtain ⟨c1, c2, h1, h2, h3⟩ := hh
      have hp := has_iff.1 h1
      have hp' : 0 ≤ p ∧ p < a.things.length := ⟨hp.1, hp.2.1⟩
      have pm := more_perm ⟨c1, c2⟩ p
      obtain ⟨g1, g2, g3, g4⟩ := (good_iff a).1 h
      have hnf : p ∉ a.free.flatten := by unfold freeB at h3; simpa using h3
      have ok : okP a.things p = true := okP_iff.2 ⟨hp.1, hp.2.1, h2, hg⟩
      refine ⟨good_list h (fun q hq => ?_) (pm.nodup_iff.2 (List.nodup_cons.2 ⟨hnf, g4⟩)), refs_more (a := a) hr (by omega), p, fun q hq hne => st_list ?_, .inr (.inr (.inr (.inr ⟨?_, ?_⟩)))⟩
      · rcases List.mem_cons.1 (pm.mem_iff.1 hq) with rfl | hm
        · exact ok
        · exact g3 q hm
      · unfold freeB
        exact decide_eq_decide.2 ⟨fun hm => (List.mem_cons.1 (pm.mem_iff.1 hm)).resolve_left hne, fun hm => pm.mem_iff.2 (List.mem_cons_of_mem _ hm)⟩
      · rw [st_in hp']
        unfold stT
        rw [if_neg (by rw [h2]; simp), if_neg hg, if_neg (by rw [h3]; simp)]
      · rw [st_in (show 0 ≤ p ∧ p < (putL a c (listOf a c ++ [p])).things.length from hp')]
        unfold stT
        rw [show at_ (putL a c (listOf a c ++ [p])) p = at_ a p from rfl, if_neg (by rw [h2]; simp), if_neg hg, if_pos (by unfold freeB; exact decide_eq_true (pm.mem_iff.2 List.mem_cons_self))]
  · exact Left.rfl' h hr
theorem refer_left {a : A} (h : good a = true) {M : Int} (hM : 1 ≤ M ∧ M ≤ 4000000000000000000) (hr : Refs a M) (p b : Int) : Left a (referS a p b).1 M := by
  unfold referS
  split
  · rename_i hh
    obtain ⟨h1, h2, h3, h4, h5⟩ := hh
    have hp := has_iff.1 h1
    have hp' : 0 ≤ p ∧ p < a.things.length := ⟨hp.1, hp.2.1⟩
    have ho := live_out h h2
    have hth := thing_live (((good_iff a).1 h).2.1 _ (at_mem hp')) h2
    have hrm := hr _ (at_mem hp')
    have hw : IntKind.i64.wrap ((at_ a p).refs + b) = (at_ a p).refs + b := wrap_id (by omega) (by omega)
    have hl2 : liveB { at_ a p with refs := IntKind.i64.wrap ((at_ a p).refs + b) } = true := h2
    refine ⟨good_put h hp' ho ?_, refs_put hr (by omega) ?_, p, fun q hq hne => st_put_ne hp' hq hne, .inl ?_⟩
    · unfold thingB
      rw [if_pos hl2]
      simp [hw]
      omega
    · show IntKind.i64.wrap ((at_ a p).refs + b) ≤ _
      rw [hw]; omega
    · rw [st_put_eq hp', st_in hp']
      unfold stT
      rw [if_pos hl2, if_pos h2]
  · exact Left.rfl' h hr
theorem does_left {a : A} (h : good a = true) {M : Int} (hM : 1 ≤ M ∧ M ≤ 4000000000000000000) (hr : Refs a M) (x : Act) : Left a (doesS a x).1 M := by
  unfold doesS
  split
  · exact take_left h hM.1 hr _ _
  · split
    · exact drop_left h hM.1 hr _
    · split
      · exact give_left h hM.1 hr _ _
      · exact refer_left h hM hr _ _
theorem does_err (a : A) (x : Act) (h : (doesS a x).2.2 ≠ 0) : (doesS a x).1 = a := by
  revert h
  unfold doesS takeS dropS giveS referS
  repeat' split
  all_goals simp
end Arena
end Go.AI
