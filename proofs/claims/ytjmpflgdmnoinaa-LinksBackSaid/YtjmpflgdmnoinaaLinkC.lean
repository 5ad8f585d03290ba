/-
  Own work. links: the laws (XLink5 to XLink8, XLinkV).
-/
import Derived.Test.YtjmpflgdmnoinaaLinkB
namespace Go.AI
open Go
set_option linter.unusedVariables false
set_option linter.unusedSimpArgs false
namespace Links
open Kit Ghost Trees

theorem gs_ne {L : List Int} {a b : Nat} {v : Int} (h : a ≠ b) : (L.set a v).getD b 0 = L.getD b 0 := by
  rw [List.getD_eq_getElem?_getD, List.getElem?_set_ne h, ← List.getD_eq_getElem?_getD]
theorem gs_eq {L : List Int} {a : Nat} {v : Int} (h : a < L.length) : (L.set a v).getD a 0 = v := by
  rw [List.getD_eq_getElem?_getD, List.getElem?_set_self h]
  rfl
theorem at_eq {L : List Int} (hL : L.length = 4096) {k : K} (hk : cd k ≠ 0) {f : Int} (h0 : 0 ≤ f) (h1 : f ≤ 5) : at_ L k f = L.getD (sl k f).toNat 0 := by
  have := sl_range hk h0 h1
  unfold at_
  rw [if_neg (by omega)]
theorem sl_ne {j k : K} {g f : Int} (hj : cd j ≠ 0) (hk : cd k ≠ 0) (hg : 0 ≤ g ∧ g ≤ 5) (hf : 0 ≤ f ∧ f ≤ 5) (h : ¬ (j = k ∧ g = f)) : (sl j g).toNat ≠ (sl k f).toNat := by
  have h1 := sl_range hj hg.1 hg.2
  have h2 := sl_range hk hf.1 hf.2
  intro e
  exact h (sl_inj hj hk hg hf (by omega))
/-- Keys that have codes, each once. -/
structure Dst (T : List TRow) : Prop where
  inj : ∀ i j, i < T.length → j < T.length → key T i = key T j → i = j
  cod : ∀ i, i < T.length → cd (key T i) ≠ 0
def pv (T : List TRow) (i : Nat) : Int := if 0 < i then cd (key T (i - 1)) else 0
def nv (T : List TRow) (i : Nat) : Int := if i + 1 < T.length then cd (key T (i + 1)) else 0
def mv (T : List TRow) (i : Nat) : Int := bt (T.getD i dr).mark
theorem stp_other {T : List TRow} {L : List Int} (hL : L.length = 4096) {i : Nat} {k : K} (hk : cd k ≠ 0) (hne : key T i ≠ k) {f : Int} (h0 : 0 ≤ f) (h1 : f ≤ 5) : at_ (stp T L i) k f = at_ L k f := by
  rw [at_eq (by rw [stp_len]; exact hL) hk h0 h1, at_eq hL hk h0 h1]
  unfold stp
  split
  · rfl
  · rename_i hc
    have n : ∀ g : Int, 0 ≤ g → g ≤ 5 → (sl (key T i) g).toNat ≠ (sl k f).toNat := fun g g0 g1 => sl_ne hc hk ⟨g0, g1⟩ ⟨h0, h1⟩ (fun h => hne h.1)
    rw [gs_ne (n 5 (by omega) (by omega)), gs_ne (n 4 (by omega) (by omega))]
    simp only []
    split <;> split
    · rw [gs_ne (n 3 (by omega) (by omega)), gs_ne (n 2 (by omega) (by omega)), gs_ne (n 3 (by omega) (by omega)), gs_ne (n 2 (by omega) (by omega)), gs_ne (n 1 (by omega) (by omega))]
    · rw [gs_ne (n 3 (by omega) (by omega)), gs_ne (n 3 (by omega) (by omega)), gs_ne (n 2 (by omega) (by omega)), gs_ne (n 1 (by omega) (by omega))]
    · rw [gs_ne (n 2 (by omega) (by omega)), gs_ne (n 3 (by omega) (by omega)), gs_ne (n 2 (by omega) (by omega)), gs_ne (n 1 (by omega) (by omega))]
    · rw [gs_ne (n 3 (by omega) (by omega)), gs_ne (n 2 (by omega) (by omega)), gs_ne (n 1 (by omega) (by omega))]
theorem stp_self {T : List TRow} {L : List Int} (hL : L.length = 4096) {i : Nat} (hc : cd (key T i) ≠ 0) :
    at_ (stp T L i) (key T i) 2 = pv T i ∧ at_ (stp T L i) (key T i) 3 = nv T i ∧ at_ (stp T L i) (key T i) 4 = dd T i ∧ at_ (stp T L i) (key T i) 5 = mv T i := by
  have hl : (stp T L i).length = 4096 := by rw [stp_len]; exact hL
  have r : ∀ g : Int, 0 ≤ g → g ≤ 5 → 16 ≤ sl (key T i) g ∧ sl (key T i) g < 3584 := fun g g0 g1 => sl_range hc g0 g1
  have n : ∀ g f : Int, 0 ≤ g → g ≤ 5 → 0 ≤ f → f ≤ 5 → g ≠ f → (sl (key T i) g).toNat ≠ (sl (key T i) f).toNat := fun g f g0 g1 f0 f1 hne => sl_ne hc hc ⟨g0, g1⟩ ⟨f0, f1⟩ (fun h => hne h.2)
  have r2 := r 2 (by omega) (by omega)
  have r3 := r 3 (by omega) (by omega)
  have r4 := r 4 (by omega) (by omega)
  have r5 := r 5 (by omega) (by omega)
  rw [at_eq hl hc (by omega) (by omega), at_eq hl hc (by omega) (by omega), at_eq hl hc (by omega) (by omega), at_eq hl hc (by omega) (by omega)]
  unfold stp pv nv mv
  rw [if_neg hc]
  refine ⟨?_, ?_, ?_, ?_⟩
  · rw [gs_ne (n 5 2 (by omega) (by omega) (by omega) (by omega) (by omega)), gs_ne (n 4 2 (by omega) (by omega) (by omega) (by omega) (by omega))]
    simp only []
    split <;> split
    · rw [gs_ne (n 3 2 (by omega) (by omega) (by omega) (by omega) (by omega)), gs_eq (by simp only [List.length_set]; omega)]
    · rw [gs_ne (n 3 2 (by omega) (by omega) (by omega) (by omega) (by omega)), gs_ne (n 3 2 (by omega) (by omega) (by omega) (by omega) (by omega)), gs_eq (by simp only [List.length_set]; omega)]
    · rw [gs_eq (by simp only [List.length_set]; omega)]
    · rw [gs_ne (n 3 2 (by omega) (by omega) (by omega) (by omega) (by omega)), gs_eq (by simp only [List.length_set]; omega)]
  · rw [gs_ne (n 5 3 (by omega) (by omega) (by omega) (by omega) (by omega)), gs_ne (n 4 3 (by omega) (by omega) (by omega) (by omega) (by omega))]
    simp only []
    split <;> split
    · rw [gs_eq (by simp only [List.length_set]; omega)]
    · rw [gs_eq (by simp only [List.length_set]; omega)]
    · rw [gs_ne (n 2 3 (by omega) (by omega) (by omega) (by omega) (by omega)), gs_eq (by simp only [List.length_set]; omega)]
    · rw [gs_eq (by simp only [List.length_set]; omega)]
  · rw [gs_ne (n 5 4 (by omega) (by omega) (by omega) (by omega) (by omega)), gs_eq]
    simp only []
    split <;> split <;> (simp only [List.length_set]; omega)
  · rw [gs_eq]
    simp only []
    split <;> split <;> (simp only [List.length_set]; omega)
theorem lay_out {T : List TRow} {k : K} (hk : cd k ≠ 0) {f : Int} (h0 : 0 ≤ f) (h1 : f ≤ 5) : ∀ (n i : Nat) (L : List Int), L.length = 4096 → (∀ j, i ≤ j → j < i + n → key T j ≠ k) → at_ (lay T n i L) k f = at_ L k f
  | 0, _, _, _, _ => rfl
  | n + 1, i, L, hL, h => by
    unfold lay
    rw [lay_out hk h0 h1 n (i + 1) _ (by rw [stp_len]; exact hL) (fun j a b => h j (by omega) (by omega)), stp_other hL hk (h i (Nat.le_refl _) (by omega)) h0 h1]
theorem lay_in {T : List TRow} (hd : Dst T) : ∀ (n i : Nat) (L : List Int) (j : Nat), L.length = 4096 → i + n = T.length → i ≤ j → j < T.length →
    at_ (lay T n i L) (key T j) 2 = pv T j ∧ at_ (lay T n i L) (key T j) 3 = nv T j ∧ at_ (lay T n i L) (key T j) 4 = dd T j ∧ at_ (lay T n i L) (key T j) 5 = mv T j
  | 0, i, L, j, hL, hn, h1, h2 => absurd h2 (by omega)
  | n + 1, i, L, j, hL, hn, h1, h2 => by
    have hl : (stp T L i).length = 4096 := by rw [stp_len]; exact hL
    unfold lay
    by_cases hij : i = j
    · subst hij
      have ho : ∀ f : Int, 0 ≤ f → f ≤ 5 → at_ (lay T n (i + 1) (stp T L i)) (key T i) f = at_ (stp T L i) (key T i) f := fun f f0 f1 =>
        lay_out (hd.cod i h2) f0 f1 n (i + 1) _ hl fun j a b e => by have := hd.inj j i (by omega) h2 e; omega
      rw [ho 2 (by omega) (by omega), ho 3 (by omega) (by omega), ho 4 (by omega) (by omega), ho 5 (by omega) (by omega)]
      exact stp_self hL (hd.cod i h2)
    · exact lay_in hd n (i + 1) _ j hl (by omega) (by omega) h2
section
variable {T : List TRow} (hd : Dst T)
include hd
theorem c2 {j : Nat} (hj : j < T.length) : at_ (cellsOf T) (key T j) 2 = pv T j := (lay_in hd T.length 0 base j base_ok.1.len (by omega) (by omega) hj).1
theorem c3 {j : Nat} (hj : j < T.length) : at_ (cellsOf T) (key T j) 3 = nv T j := (lay_in hd T.length 0 base j base_ok.1.len (by omega) (by omega) hj).2.1
theorem c4 {j : Nat} (hj : j < T.length) : at_ (cellsOf T) (key T j) 4 = dd T j := (lay_in hd T.length 0 base j base_ok.1.len (by omega) (by omega) hj).2.2.1
theorem c5 {j : Nat} (hj : j < T.length) : at_ (cellsOf T) (key T j) 5 = mv T j := (lay_in hd T.length 0 base j base_ok.1.len (by omega) (by omega) hj).2.2.2
end
theorem c0 {T : List TRow} {k : K} (hk : cd k ≠ 0) (hn : ∀ j, j < T.length → key T j ≠ k) {f : Int} (h0 : 0 ≤ f) (h1 : f ≤ 5) : at_ (cellsOf T) k f = 0 := by
  unfold cellsOf
  rw [lay_out hk h0 h1 _ _ _ base_ok.1.len (fun j _ h => hn j (by omega)), at_eq base_ok.1.len hk h0 h1]
  have hr := sl_range hk h0 h1
  refine base_ok.1.z _ (by omega) ?_
  have hp := cd_pos hk
  rw [sl_eq hk h0 h1]
  have e : (64 * k.obj + 16 + 6 * k.slot + f).toNat = 64 * k.obj.toNat + (16 + 6 * k.slot.toNat + f.toNat) := by omega
  rw [e, Nat.mul_add_mod, Nat.mod_eq_of_lt (by omega)]
  omega
/-! Writes, as functions of slots and fields -/
def upd (A : K → Int → Int) (j : K) (g v : Int) : K → Int → Int := fun k f => if j = k ∧ g = f then v else A k f
def Eqv (A B : K → Int → Int) : Prop := ∀ k, cd k ≠ 0 → ∀ f, 2 ≤ f → f ≤ 5 → A k f = B k f
theorem put_at {L : List Int} (hL : L.length = 4096) {j : K} (hj : cd j ≠ 0) {g : Int} (hg : 2 ≤ g ∧ g ≤ 5) (v : Int) : Eqv (at_ (put1 L (sl j g, v))) (upd (at_ L) j g v) := by
  intro k hk f h0 h1
  have r := sl_range hj (show 0 ≤ g by omega) hg.2
  have hs : put1 L (sl j g, v) = L.set (sl j g).toNat v := by unfold put1; rw [if_pos ⟨by show 0 ≤ sl j g; omega, by show sl j g < _; omega⟩]
  rw [hs, at_eq (by rw [List.length_set]; exact hL) hk (by omega) h1]
  unfold upd
  split
  · rename_i h
    rw [h.1, h.2]
    rw [h.1, h.2] at r
    exact gs_eq (by omega)
  · rename_i h
    rw [gs_ne (sl_ne hj hk ⟨by omega, hg.2⟩ ⟨by omega, h1⟩ h), at_eq hL hk (by omega) h1]
theorem Eqv.upd {A B : K → Int → Int} (h : Eqv A B) (j : K) (g v : Int) : Eqv (upd A j g v) (upd B j g v) := by
  intro k hk f h0 h1
  unfold Links.upd
  rw [h k hk f h0 h1]
theorem Eqv.trans {A B C : K → Int → Int} (h : Eqv A B) (g : Eqv B C) : Eqv A C := fun k hk f h0 h1 => (h k hk f h0 h1).trans (g k hk f h0 h1)
theorem Eqv.symm {A B : K → Int → Int} (h : Eqv A B) : Eqv B A := fun k hk f h0 h1 => (h k hk f h0 h1).symm
/-- A write: to a field of a slot. -/
structure Wt where
  k : K
  f : Int
  v : Int
def Wt.ok (w : Wt) : Prop := cd w.k ≠ 0 ∧ 2 ≤ w.f ∧ w.f ≤ 5
def Wt.pr (w : Wt) : Int × Int := (sl w.k w.f, w.v)
def upds (A : K → Int → Int) (W : List Wt) : K → Int → Int := W.foldl (fun A w => upd A w.k w.f w.v) A
theorem Eqv.upds {A B : K → Int → Int} (h : Eqv A B) : ∀ W : List Wt, Eqv (upds A W) (upds B W)
  | [] => h
  | w :: W => Eqv.upds (h.upd w.k w.f w.v) W
theorem app_at : ∀ (W : List Wt) (L : List Int), L.length = 4096 → (∀ w ∈ W, w.ok) → Eqv (at_ (app L (W.map Wt.pr))) (upds (at_ L) W)
  | [], L, _, _ => fun k _ f _ _ => rfl
  | w :: W, L, hL, h => by
    have hw := h w (List.mem_cons_self ..)
    have h1 := put_at hL hw.1 ⟨hw.2.1, hw.2.2⟩ w.v
    have h2 := app_at W (put1 L w.pr) (by rw [put1_len]; exact hL) (fun x hx => h x (List.mem_cons_of_mem _ hx))
    unfold app at h2 ⊢
    rw [List.map_cons, List.foldl_cons]
    refine h2.trans ?_
    unfold upds
    rw [List.foldl_cons]
    exact Eqv.upds h1 W
theorem app_other : ∀ (W : List Wt) (L : List Int) (p : Nat), L.length = 4096 → (∀ w ∈ W, w.ok) → (∀ k f, cd k ≠ 0 → 2 ≤ f → f ≤ 5 → (sl k f).toNat ≠ p) → (app L (W.map Wt.pr)).getD p 0 = L.getD p 0
  | [], L, p, _, _, _ => rfl
  | w :: W, L, p, hL, h, hp => by
    have hw := h w (List.mem_cons_self ..)
    have h2 := app_other W (put1 L w.pr) p (by rw [put1_len]; exact hL) (fun x hx => h x (List.mem_cons_of_mem _ hx)) hp
    unfold app at h2 ⊢
    rw [List.map_cons, List.foldl_cons, h2]
    have r := sl_range hw.1 (show 0 ≤ w.f by have := hw.2.1; omega) hw.2.2
    have hs : put1 L w.pr = L.set (sl w.k w.f).toNat w.v := by unfold put1 Wt.pr; rw [if_pos ⟨by show 0 ≤ sl w.k w.f; omega, by show sl w.k w.f < _; omega⟩]
    rw [hs, gs_ne (hp w.k w.f hw.1 hw.2.1 hw.2.2)]
/-- Cells that are alike in all fields of slots, and otherwise, are the same. -/
theorem cells_ext {X Y : List Int} (hX : X.length = 4096) (hY : Y.length = 4096) (h : Eqv (at_ X) (at_ Y)) (ho : ∀ p : Nat, (∀ k f, cd k ≠ 0 → 2 ≤ f → f ≤ 5 → (sl k f).toNat ≠ p) → X.getD p 0 = Y.getD p 0) : X = Y := by
  refine List.ext_getElem (by omega) fun p h1 h2 => ?_
  have key : X.getD p 0 = Y.getD p 0 := by
    by_cases hp : ∀ k f, cd k ≠ 0 → 2 ≤ f → f ≤ 5 → (sl k f).toNat ≠ p
    · exact ho p hp
    · obtain ⟨k, hp⟩ := Classical.not_forall.1 hp
      obtain ⟨f, hp⟩ := Classical.not_forall.1 hp
      obtain ⟨hk, hp⟩ := Classical.not_imp.1 hp
      obtain ⟨h0, hp⟩ := Classical.not_imp.1 hp
      obtain ⟨h5, hp⟩ := Classical.not_imp.1 hp
      have hp := Classical.not_not.1 hp
      have := h k hk f h0 h5
      rw [at_eq hX hk (by omega) h5, at_eq hY hk (by omega) h5, hp] at this
      exact this
  rw [List.getD_eq_getElem?_getD, List.getD_eq_getElem?_getD, List.getElem?_eq_getElem h1, List.getElem?_eq_getElem h2] at key
  simpa using key
end Links
namespace Links
open Kit Ghost Trees

theorem kof_ok {x : Int} {n : K} (h : kof x = some n) : cd n ≠ 0 := by
  unfold kof at h
  split at h
  · simp only [Option.some.injEq] at h
    subst h
    rw [cd_eq (by unfold dk; simp only; omega)]
    unfold dk
    simp only
    omega
  · cases h
def nextT (T : List TRow) (i : Nat) : Option K := if i + 1 < T.length then some (key T (i + 1)) else none
def prevT (T : List TRow) (i : Nat) : Option K := if 0 < i then some (key T (i - 1)) else none
theorem lk_next {T : List TRow} (hd : Dst T) {i : Nat} (hi : i < T.length) : lk (cellsOf T) (key T i) 3 = nextT T i := by
  unfold lk nextT
  rw [c3 hd hi]
  unfold nv
  split
  · rename_i h; exact kof_cd (hd.cod _ h)
  · exact kof_zero
theorem lk_prev {T : List TRow} (hd : Dst T) {i : Nat} (hi : i < T.length) : lk (cellsOf T) (key T i) 2 = prevT T i := by
  unfold lk prevT
  rw [c2 hd hi]
  unfold pv
  split
  · rename_i h; exact kof_cd (hd.cod _ (by omega))
  · exact kof_zero
/-! The writes, as such -/
def oneW (o : Option K) (f v : Int) : List Wt := match o with
  | some n => [⟨n, f, v⟩]
  | none => []
def insT (L : List Int) (a b : K) : List Wt := [⟨b, 2, cd a⟩, ⟨b, 3, at_ L a 3⟩, ⟨b, 4, up (at_ L a 4)⟩, ⟨b, 5, 0⟩, ⟨a, 3, cd b⟩] ++ oneW (lk L a 3) 2 (cd b)
theorem ins_is (L : List Int) (a b : K) : insW L a b = (insT L a b).map Wt.pr := by
  unfold insW insT oneW
  cases lk L a 3 <;> rfl
theorem oneW_ok {L : List Int} {a : K} {g f v : Int} (hf : 2 ≤ f ∧ f ≤ 5) : ∀ w ∈ oneW (lk L a g) f v, w.ok := by
  intro w hw
  unfold oneW at hw
  split at hw
  · rename_i n hn
    simp only [List.mem_cons, List.not_mem_nil, or_false] at hw
    subst hw
    exact ⟨kof_ok hn, hf⟩
  · cases hw
theorem ins_ok (L : List Int) {a b : K} (ha : cd a ≠ 0) (hb : cd b ≠ 0) : ∀ w ∈ insT L a b, w.ok := by
  intro w hw
  unfold insT at hw
  rcases List.mem_append.1 hw with hw | hw
  · simp only [List.mem_cons, List.not_mem_nil, or_false] at hw
    rcases hw with rfl | rfl | rfl | rfl | rfl
    · exact ⟨hb, by show (2 : Int) ≤ 2 ∧ (2 : Int) ≤ 5; omega⟩
    · exact ⟨hb, by show (2 : Int) ≤ 3 ∧ (3 : Int) ≤ 5; omega⟩
    · exact ⟨hb, by show (2 : Int) ≤ 4 ∧ (4 : Int) ≤ 5; omega⟩
    · exact ⟨hb, by show (2 : Int) ≤ 5 ∧ (5 : Int) ≤ 5; omega⟩
    · exact ⟨ha, by show (2 : Int) ≤ 3 ∧ (3 : Int) ≤ 5; omega⟩
  · exact oneW_ok (by omega) w hw
def wipT (k : K) : List Wt := [⟨k, 2, 0⟩, ⟨k, 3, 0⟩, ⟨k, 4, 0⟩, ⟨k, 5, 0⟩]
theorem wip_ok {k : K} (hk : cd k ≠ 0) : ∀ w ∈ wipT k, w.ok := by
  intro w hw
  unfold wipT at hw
  simp only [List.mem_cons, List.not_mem_nil, or_false] at hw
  rcases hw with rfl | rfl | rfl | rfl
  · exact ⟨hk, by show (2 : Int) ≤ 2 ∧ (2 : Int) ≤ 5; omega⟩
  · exact ⟨hk, by show (2 : Int) ≤ 3 ∧ (3 : Int) ≤ 5; omega⟩
  · exact ⟨hk, by show (2 : Int) ≤ 4 ∧ (4 : Int) ≤ 5; omega⟩
  · exact ⟨hk, by show (2 : Int) ≤ 5 ∧ (5 : Int) ≤ 5; omega⟩
def remT (L : List Int) (k : K) : List Wt := oneW (lk L k 2) 3 (at_ L k 3) ++ oneW (lk L k 3) 2 (at_ L k 2) ++ wipT k
theorem rem_is (L : List Int) (k : K) : remW L k = (remT L k).map Wt.pr := by
  unfold remW remT oneW
  cases lk L k 2 <;> cases lk L k 3 <;> rfl
theorem rem_ok (L : List Int) {k : K} (hk : cd k ≠ 0) : ∀ w ∈ remT L k, w.ok := by
  intro w hw
  unfold remT at hw
  rcases List.mem_append.1 hw with hw | hw
  · rcases List.mem_append.1 hw with hw | hw
    · exact oneW_ok (by omega) w hw
    · exact oneW_ok (by omega) w hw
  · exact wip_ok hk w hw
def movT (L : List Int) (a b : K) : List Wt := [⟨b, 2, at_ L a 2⟩, ⟨b, 3, at_ L a 3⟩, ⟨b, 4, at_ L a 4⟩, ⟨b, 5, at_ L a 5⟩] ++ oneW (lk L a 2) 3 (cd b) ++ oneW (lk L a 3) 2 (cd b) ++ wipT a
theorem mov_is (L : List Int) (a b : K) : movW L a b = (movT L a b).map Wt.pr := by
  unfold movW movT oneW
  cases lk L a 2 <;> cases lk L a 3 <;> rfl
theorem mov_ok (L : List Int) {a b : K} (ha : cd a ≠ 0) (hb : cd b ≠ 0) : ∀ w ∈ movT L a b, w.ok := by
  intro w hw
  unfold movT at hw
  rcases List.mem_append.1 hw with hw | hw
  · rcases List.mem_append.1 hw with hw | hw
    · rcases List.mem_append.1 hw with hw | hw
      · simp only [List.mem_cons, List.not_mem_nil, or_false] at hw
        rcases hw with rfl | rfl | rfl | rfl
        · exact ⟨hb, by show (2 : Int) ≤ 2 ∧ (2 : Int) ≤ 5; omega⟩
        · exact ⟨hb, by show (2 : Int) ≤ 3 ∧ (3 : Int) ≤ 5; omega⟩
        · exact ⟨hb, by show (2 : Int) ≤ 4 ∧ (4 : Int) ≤ 5; omega⟩
        · exact ⟨hb, by show (2 : Int) ≤ 5 ∧ (5 : Int) ≤ 5; omega⟩
      · exact oneW_ok (by omega) w hw
    · exact oneW_ok (by omega) w hw
  · exact wip_ok ha w hw
/-! What a list of writes leaves at a slot's field -/
theorem upds_app (A : K → Int → Int) (W V : List Wt) : upds A (W ++ V) = upds (upds A W) V := by unfold upds; rw [List.foldl_append]
theorem upds_one (A : K → Int → Int) (o : Option K) (f v : Int) (k : K) (g : Int) : upds A (oneW o f v) k g = if o = some k ∧ f = g then v else A k g := by
  unfold oneW
  cases o with
  | none => simp [upds]
  | some n => simp [upds, upd]
theorem upds_wip (A : K → Int → Int) (j k : K) (g : Int) (hg : 2 ≤ g ∧ g ≤ 5) : upds A (wipT j) k g = if j = k then 0 else A k g := by
  unfold wipT upds
  simp only [List.foldl_cons, List.foldl_nil, upd]
  by_cases h : j = k
  · have : g = 2 ∨ g = 3 ∨ g = 4 ∨ g = 5 := by omega
    rcases this with rfl | rfl | rfl | rfl <;> simp [h]
  · simp [h]
/-- A list's keys and fields behind a change. -/
theorem fld_u {u : List TRow} (hu : Dst u) {k : K} {j : Nat} (hj : j < u.length) (e : key u j = k) : at_ (cellsOf u) k 2 = pv u j ∧ at_ (cellsOf u) k 3 = nv u j ∧ at_ (cellsOf u) k 4 = dd u j ∧ at_ (cellsOf u) k 5 = mv u j := by
  subst e
  exact ⟨c2 hu hj, c3 hu hj, c4 hu hj, c5 hu hj⟩
theorem four {A B : K → Int → Int} {k : K} {f : Int} (h0 : 2 ≤ f) (h1 : f ≤ 5) (a2 : A k 2 = B k 2) (a3 : A k 3 = B k 3) (a4 : A k 4 = B k 4) (a5 : A k 5 = B k 5) : A k f = B k f := by
  have : f = 2 ∨ f = 3 ∨ f = 4 ∨ f = 5 := by omega
  rcases this with rfl | rfl | rfl | rfl <;> assumption
section ins
variable {T : List TRow} (hd : Dst T) {i : Nat} (hi : i < T.length) {b : K} (hb : cd b ≠ 0) (hn : ∀ j, j < T.length → key T j ≠ b) {d : Int}
abbrev insU (T : List TRow) (i : Nat) (b : K) (d : Int) : List TRow := putAt T (i + 1) ⟨b.obj, b.slot, d, false⟩
include hi in
theorem insU_get (j : Nat) : (insU T i b d).getD j dr = if j < i + 1 then T.getD j dr else if j = i + 1 then ⟨b.obj, b.slot, d, false⟩ else T.getD (j - 1) dr := put_get T (i + 1) _ (by omega) j
include hi in
theorem insU_key (j : Nat) : key (insU T i b d) j = if j < i + 1 then key T j else if j = i + 1 then b else key T (j - 1) := by
  unfold key
  rw [insU_get hi]
  split
  · rfl
  · split <;> rfl
include hi in
theorem insU_len : (insU T i b d).length = T.length + 1 := put_len T (i + 1) _ (by omega)
include hd hi hb hn in
theorem insU_dst : Dst (insU T i b d) := by
  refine ⟨fun x y hx hy e => ?_, fun x hx => ?_⟩
  · rw [insU_len hi] at hx hy
    rw [insU_key hi, insU_key hi] at e
    by_cases x1 : x < i + 1
    · rw [if_pos x1] at e
      by_cases y1 : y < i + 1
      · rw [if_pos y1] at e; exact hd.inj x y (by omega) (by omega) e
      · rw [if_neg y1] at e
        by_cases y2 : y = i + 1
        · rw [if_pos y2] at e; exact absurd e (hn x (by omega))
        · rw [if_neg y2] at e; have := hd.inj x (y - 1) (by omega) (by omega) e; omega
    · rw [if_neg x1] at e
      by_cases x2 : x = i + 1
      · rw [if_pos x2] at e
        by_cases y1 : y < i + 1
        · rw [if_pos y1] at e; exact absurd e.symm (hn y (by omega))
        · rw [if_neg y1] at e
          by_cases y2 : y = i + 1
          · omega
          · rw [if_neg y2] at e; exact absurd e.symm (hn (y - 1) (by omega))
      · rw [if_neg x2] at e
        by_cases y1 : y < i + 1
        · rw [if_pos y1] at e; have := hd.inj (x - 1) y (by omega) (by omega) e; omega
        · rw [if_neg y1] at e
          by_cases y2 : y = i + 1
          · rw [if_pos y2] at e; exact absurd e (hn (x - 1) (by omega))
          · rw [if_neg y2] at e; have := hd.inj (x - 1) (y - 1) (by omega) (by omega) e; omega
  · rw [insU_len hi] at hx
    rw [insU_key hi]
    split
    · exact hd.cod x (by omega)
    · split
      · exact hb
      · exact hd.cod (x - 1) (by omega)
include hd hi hb hn in
theorem ins_eqv (hup : up (dd T i) = d) : Eqv (at_ (app (cellsOf T) (insW (cellsOf T) (key T i) b))) (at_ (cellsOf (insU T i b d))) := by
  have hu := insU_dst (d := d) hd hi hb hn
  have hl := insU_len (b := b) (d := d) hi
  rw [ins_is]
  refine (app_at _ _ (cells_len T) (ins_ok _ (hd.cod i hi) hb)).trans ?_
  intro k hk f h0 h1
  have hW : ∀ g, upds (at_ (cellsOf T)) (insT (cellsOf T) (key T i) b) k g = if nextT T i = some k ∧ 2 = g then cd b else if key T i = k ∧ 3 = g then cd b else if b = k ∧ 5 = g then 0 else if b = k ∧ 4 = g then d else if b = k ∧ 3 = g then nv T i else if b = k ∧ 2 = g then cd (key T i) else at_ (cellsOf T) k g := by
    intro g
    unfold insT
    rw [upds_app, upds_one, lk_next hd hi, c3 hd hi, c4 hd hi, hup]
    rfl
  have n23 : ∀ (p : Prop), (p ∧ (2 : Int) = 3) = False := fun p => by simp
  by_cases hkb : b = k
  · subst hkb
    obtain ⟨u2, u3, u4, u5⟩ := fld_u hu (k := b) (j := i + 1) (by omega) (by rw [insU_key hi, if_neg (by omega), if_pos rfl])
    have hne : key T i ≠ b := hn i hi
    have hnn : nextT T i ≠ some b := by
      unfold nextT
      split
      · rename_i h; simpa using hn (i + 1) h
      · simp
    refine four h0 h1 ?_ ?_ ?_ ?_ <;> rw [hW]
    · rw [if_neg (fun h => hnn h.1), if_neg (fun h => hne h.1), if_neg (by simp), if_neg (by simp), if_neg (by simp), if_pos ⟨rfl, rfl⟩, u2]
      unfold pv
      rw [if_pos (by omega), insU_key hi, if_pos (by omega)]
      rfl
    · rw [if_neg (by simp), if_neg (fun h => hne h.1), if_neg (by simp), if_neg (by simp), if_pos ⟨rfl, rfl⟩, u3]
      unfold nv
      rw [hl]
      by_cases h : i + 1 < T.length
      · rw [if_pos h, if_pos (by omega), insU_key hi, if_neg (by omega), if_neg (by omega)]; rfl
      · rw [if_neg h, if_neg (by omega)]
    · rw [if_neg (by simp), if_neg (by simp), if_neg (by simp), if_pos ⟨rfl, rfl⟩, u4]
      unfold dd
      rw [insU_get hi, if_neg (by omega), if_pos rfl]
    · rw [if_neg (by simp), if_neg (by simp), if_pos ⟨rfl, rfl⟩, u5]
      unfold mv
      rw [insU_get hi, if_neg (by omega), if_pos rfl]
      rfl
  by_cases hex : ∃ j, j < T.length ∧ key T j = k
  · obtain ⟨j, hj, rfl⟩ := hex
    obtain ⟨t2, t3, t4, t5⟩ := fld_u hd hj rfl
    have hnx : nextT T i = some (key T j) ↔ i + 1 = j := by
      unfold nextT
      constructor
      · intro h
        split at h
        · rename_i h1; simp only [Option.some.injEq] at h; exact hd.inj _ _ h1 hj h
        · cases h
      · rintro rfl; rw [if_pos hj]
    have hix : key T i = key T j ↔ i = j := ⟨fun h => hd.inj _ _ hi hj h, fun h => by rw [h]⟩
    by_cases hji : j < i + 1
    · obtain ⟨u2, u3, u4, u5⟩ := fld_u hu (k := key T j) (j := j) (by omega) (by rw [insU_key hi, if_pos hji])
      refine four h0 h1 ?_ ?_ ?_ ?_ <;> rw [hW]
      · rw [if_neg (fun h => by have := hnx.1 h.1; omega), if_neg (by simp), if_neg (by simp), if_neg (by simp), if_neg (by simp), if_neg (fun h => hkb h.1), t2, u2]
        unfold pv
        split
        · rw [insU_key hi, if_pos (by omega)]
        · rfl
      · rw [if_neg (by simp)]
        by_cases hij : i = j
        · rw [if_pos ⟨hix.2 hij, rfl⟩, u3]
          unfold nv
          rw [if_pos (by omega), insU_key hi, if_neg (by omega), if_pos (by omega)]
        · rw [if_neg (fun h => hij (hix.1 h.1)), if_neg (by simp), if_neg (by simp), if_neg (fun h => hkb h.1), if_neg (by simp), t3, u3]
          unfold nv
          rw [if_pos (by omega), if_pos (by omega), insU_key hi, if_pos (by omega)]
      · rw [if_neg (by simp), if_neg (by simp), if_neg (by simp), if_neg (fun h => hkb h.1), if_neg (by simp), if_neg (by simp), t4, u4]
        unfold dd
        rw [insU_get hi, if_pos hji]
      · rw [if_neg (by simp), if_neg (by simp), if_neg (fun h => hkb h.1), if_neg (by simp), if_neg (by simp), if_neg (by simp), t5, u5]
        unfold mv
        rw [insU_get hi, if_pos hji]
    · obtain ⟨u2, u3, u4, u5⟩ := fld_u hu (k := key T j) (j := j + 1) (by omega) (by rw [insU_key hi, if_neg (by omega), if_neg (by omega)]; rfl)
      refine four h0 h1 ?_ ?_ ?_ ?_ <;> rw [hW]
      · by_cases hij : i + 1 = j
        · rw [if_pos ⟨hnx.2 hij, rfl⟩, u2]
          unfold pv
          rw [if_pos (by omega), insU_key hi, if_neg (by omega), if_pos (by omega)]
        · rw [if_neg (fun h => hij (hnx.1 h.1)), if_neg (by simp), if_neg (by simp), if_neg (by simp), if_neg (by simp), if_neg (fun h => hkb h.1), t2, u2]
          unfold pv
          rw [if_pos (by omega), if_pos (by omega), insU_key hi, if_neg (by omega), if_neg (by omega)]
          rfl
      · rw [if_neg (by simp), if_neg (fun h => by have := hix.1 h.1; omega), if_neg (by simp), if_neg (by simp), if_neg (fun h => hkb h.1), if_neg (by simp), t3, u3]
        unfold nv
        rw [hl]
        by_cases h : j + 1 < T.length
        · rw [if_pos h, if_pos (by omega), insU_key hi, if_neg (by omega), if_neg (by omega)]; rfl
        · rw [if_neg h, if_neg (by omega)]
      · rw [if_neg (by simp), if_neg (by simp), if_neg (by simp), if_neg (fun h => hkb h.1), if_neg (by simp), if_neg (by simp), t4, u4]
        unfold dd
        rw [insU_get hi, if_neg (by omega), if_neg (by omega)]
        rfl
      · rw [if_neg (by simp), if_neg (by simp), if_neg (fun h => hkb h.1), if_neg (by simp), if_neg (by simp), if_neg (by simp), t5, u5]
        unfold mv
        rw [insU_get hi, if_neg (by omega), if_neg (by omega)]
        rfl
  · have hno : ∀ j, j < T.length → key T j ≠ k := fun j hj e => hex ⟨j, hj, e⟩
    have hnn : nextT T i ≠ some k := by
      unfold nextT
      split
      · rename_i h; simpa using hno (i + 1) h
      · simp
    rw [hW, if_neg (fun h => hnn h.1), if_neg (fun h => hno i hi h.1), if_neg (fun h => hkb h.1), if_neg (fun h => hkb h.1), if_neg (fun h => hkb h.1), if_neg (fun h => hkb h.1)]
    rw [c0 hk hno (by omega) h1, c0 hk (fun j hj => ?_) (by omega) h1]
    rw [hl] at hj
    rw [insU_key hi]
    split
    · exact hno j (by omega)
    · split
      · exact hkb
      · exact hno (j - 1) (by omega)
end ins
/-! Remove -/
section rem
variable {T : List TRow} (hd : Dst T) {i : Nat} (hi : i < T.length)
include hi in
theorem outU_key (j : Nat) : key (outAt T i) j = if j < i then key T j else key T (j + 1) := by
  unfold key
  rw [out_get T i hi]
  split <;> rfl
include hd hi in
theorem outU_dst : Dst (outAt T i) := by
  have hl := out_len T i hi
  refine ⟨fun x y hx hy e => ?_, fun x hx => ?_⟩
  · rw [hl] at hx hy
    rw [outU_key hi, outU_key hi] at e
    by_cases x1 : x < i
    · rw [if_pos x1] at e
      by_cases y1 : y < i
      · rw [if_pos y1] at e; exact hd.inj x y (by omega) (by omega) e
      · rw [if_neg y1] at e; have := hd.inj x (y + 1) (by omega) (by omega) e; omega
    · rw [if_neg x1] at e
      by_cases y1 : y < i
      · rw [if_pos y1] at e; have := hd.inj (x + 1) y (by omega) (by omega) e; omega
      · rw [if_neg y1] at e; have := hd.inj (x + 1) (y + 1) (by omega) (by omega) e; omega
  · rw [hl] at hx
    rw [outU_key hi]
    split
    · exact hd.cod x (by omega)
    · exact hd.cod (x + 1) (by omega)
include hd hi in
theorem rem_eqv {L : List Int} (hL : L.length = 4096) (hLe : Eqv (at_ L) (at_ (cellsOf T))) : Eqv (at_ (app L (remW L (key T i)))) (at_ (cellsOf (outAt T i))) := by
  have hu := outU_dst hd hi
  have hl := out_len T i hi
  have ha := hd.cod i hi
  rw [rem_is]
  refine (app_at _ _ hL (rem_ok _ ha)).trans ?_
  intro k hk f h0 h1
  have l2 : lk L (key T i) 2 = prevT T i := by unfold lk; rw [hLe _ ha 2 (by omega) (by omega)]; exact lk_prev hd hi
  have l3 : lk L (key T i) 3 = nextT T i := by unfold lk; rw [hLe _ ha 3 (by omega) (by omega)]; exact lk_next hd hi
  have hW : ∀ g, 2 ≤ g ∧ g ≤ 5 → upds (at_ L) (remT L (key T i)) k g = if key T i = k then 0 else if nextT T i = some k ∧ 2 = g then pv T i else if prevT T i = some k ∧ 3 = g then nv T i else at_ (cellsOf T) k g := by
    intro g hg
    unfold remT
    rw [upds_app, upds_wip _ _ _ _ hg, upds_app, upds_one, upds_one, l2, l3, hLe _ ha 2 (by omega) (by omega), hLe _ ha 3 (by omega) (by omega), c2 hd hi, c3 hd hi, hLe k hk g hg.1 hg.2]
  by_cases hex : ∃ j, j < T.length ∧ key T j = k
  · obtain ⟨j, hj, rfl⟩ := hex
    by_cases hij : i = j
    · subst hij
      rw [hW f ⟨h0, h1⟩, if_pos rfl, c0 hk (fun j hj => ?_) (by omega) h1]
      rw [hl] at hj
      rw [outU_key hi]
      split
      · intro e; have := hd.inj j i (by omega) hi e; omega
      · intro e; have := hd.inj (j + 1) i (by omega) hi e; omega
    obtain ⟨t2, t3, t4, t5⟩ := fld_u hd hj rfl
    have hnx : nextT T i = some (key T j) ↔ i + 1 = j := by
      unfold nextT
      constructor
      · intro h
        split at h
        · rename_i h1; simp only [Option.some.injEq] at h; exact hd.inj _ _ h1 hj h
        · cases h
      · rintro rfl; rw [if_pos hj]
    have hpx : prevT T i = some (key T j) ↔ j + 1 = i := by
      unfold prevT
      constructor
      · intro h
        split at h
        · rename_i h1; simp only [Option.some.injEq] at h; have := hd.inj _ _ (by omega) hj h; omega
        · cases h
      · rintro rfl; rw [if_pos (by omega)]; rfl
    have hne : key T i ≠ key T j := fun e => hij (hd.inj _ _ hi hj e)
    by_cases hji : j < i
    · obtain ⟨u2, u3, u4, u5⟩ := fld_u hu (k := key T j) (j := j) (by omega) (by rw [outU_key hi, if_pos hji])
      refine four h0 h1 ?_ ?_ ?_ ?_ <;> rw [hW _ (by omega), if_neg hne]
      · rw [if_neg (fun h => by have := hnx.1 h.1; omega), if_neg (by simp), t2, u2]
        unfold pv
        split
        · rw [outU_key hi, if_pos (by omega)]
        · rfl
      · rw [if_neg (by simp)]
        by_cases hp : j + 1 = i
        · rw [if_pos ⟨hpx.2 hp, rfl⟩, u3]
          unfold nv
          rw [hl]
          by_cases h : i + 1 < T.length
          · rw [if_pos h, if_pos (by omega), outU_key hi, if_neg (by omega)]; rw [hp]
          · rw [if_neg h, if_neg (by omega)]
        · rw [if_neg (fun h => hp (hpx.1 h.1)), t3, u3]
          unfold nv
          rw [if_pos (by omega), if_pos (by omega), outU_key hi, if_pos (by omega)]
      · rw [if_neg (by simp), if_neg (by simp), t4, u4]
        unfold dd
        rw [out_get T i hi, if_pos hji]
      · rw [if_neg (by simp), if_neg (by simp), t5, u5]
        unfold mv
        rw [out_get T i hi, if_pos hji]
    · obtain ⟨m, rfl⟩ : ∃ m, j = m + 1 := ⟨j - 1, by omega⟩
      obtain ⟨u2, u3, u4, u5⟩ := fld_u hu (k := key T (m + 1)) (j := m) (by omega) (by rw [outU_key hi, if_neg (by omega)])
      refine four h0 h1 ?_ ?_ ?_ ?_ <;> rw [hW _ (by omega), if_neg hne]
      · by_cases hp : i + 1 = m + 1
        · rw [if_pos ⟨hnx.2 hp, rfl⟩, u2]
          obtain rfl : i = m := by omega
          unfold pv
          split
          · rw [outU_key hi, if_pos (by omega)]
          · rfl
        · rw [if_neg (fun h => hp (hnx.1 h.1)), if_neg (by simp), t2, u2]
          unfold pv
          rw [if_pos (by omega), if_pos (by omega), outU_key hi, if_neg (by omega)]
          rw [show m - 1 + 1 = m by omega, show m + 1 - 1 = m by omega]
      · rw [if_neg (by simp), if_neg (fun h => by have := hpx.1 h.1; omega), t3, u3]
        unfold nv
        rw [hl]
        by_cases h : m + 1 + 1 < T.length
        · rw [if_pos h, if_pos (by omega), outU_key hi, if_neg (by omega)]
        · rw [if_neg h, if_neg (by omega)]
      · rw [if_neg (by simp), if_neg (by simp), t4, u4]
        unfold dd
        rw [out_get T i hi, if_neg (by omega)]
      · rw [if_neg (by simp), if_neg (by simp), t5, u5]
        unfold mv
        rw [out_get T i hi, if_neg (by omega)]
  · have hno : ∀ j, j < T.length → key T j ≠ k := fun j hj e => hex ⟨j, hj, e⟩
    have hnn : nextT T i ≠ some k := by
      unfold nextT
      split
      · rename_i h; simpa using hno (i + 1) h
      · simp
    have hpp : prevT T i ≠ some k := by
      unfold prevT
      split
      · rename_i h; simpa using hno (i - 1) (by omega)
      · simp
    rw [hW f ⟨h0, h1⟩, if_neg (hno i hi), if_neg (fun h => hnn h.1), if_neg (fun h => hpp h.1), c0 hk hno (by omega) h1, c0 hk (fun j hj => ?_) (by omega) h1]
    rw [hl] at hj
    rw [outU_key hi]
    split
    · exact hno j (by omega)
    · exact hno (j + 1) (by omega)
end rem
/-! Move -/
section mov
variable {T : List TRow} (hd : Dst T) {i : Nat} (hi : i < T.length) {b : K} (hb : cd b ≠ 0) (hn : ∀ j, j < T.length → key T j ≠ b)
abbrev movU (T : List TRow) (i : Nat) (b : K) : List TRow := T.set i ⟨b.obj, b.slot, dd T i, (T.getD i dr).mark⟩
include hi in
theorem movU_get (j : Nat) : (movU T i b).getD j dr = if j = i then ⟨b.obj, b.slot, dd T i, (T.getD i dr).mark⟩ else T.getD j dr := set_get T i _ hi j
include hi in
theorem movU_key (j : Nat) : key (movU T i b) j = if j = i then b else key T j := by
  unfold key
  rw [movU_get hi]
  split <;> rfl
theorem movU_len : (movU T i b).length = T.length := List.length_set ..
include hd hi hb hn in
theorem movU_dst : Dst (movU T i b) := by
  refine ⟨fun x y hx hy e => ?_, fun x hx => ?_⟩
  · rw [movU_len] at hx hy
    rw [movU_key hi, movU_key hi] at e
    by_cases x1 : x = i
    · rw [if_pos x1] at e
      by_cases y1 : y = i
      · omega
      · rw [if_neg y1] at e; exact absurd e.symm (hn y hy)
    · rw [if_neg x1] at e
      by_cases y1 : y = i
      · rw [if_pos y1] at e; exact absurd e (hn x hx)
      · rw [if_neg y1] at e; exact hd.inj x y hx hy e
  · rw [movU_len] at hx
    rw [movU_key hi]
    split
    · exact hb
    · exact hd.cod x hx
include hd hi hb hn in
theorem mov_eqv {L : List Int} (hL : L.length = 4096) (hLe : Eqv (at_ L) (at_ (cellsOf T))) : Eqv (at_ (app L (movW L (key T i) b))) (at_ (cellsOf (movU T i b))) := by
  have hu := movU_dst hd hi hb hn
  have hl : (movU T i b).length = T.length := movU_len
  have ha := hd.cod i hi
  rw [mov_is]
  refine (app_at _ _ hL (mov_ok _ ha hb)).trans ?_
  intro k hk f h0 h1
  have l2 : lk L (key T i) 2 = prevT T i := by unfold lk; rw [hLe _ ha 2 (by omega) (by omega)]; exact lk_prev hd hi
  have l3 : lk L (key T i) 3 = nextT T i := by unfold lk; rw [hLe _ ha 3 (by omega) (by omega)]; exact lk_next hd hi
  have hW : ∀ g, 2 ≤ g ∧ g ≤ 5 → upds (at_ L) (movT L (key T i) b) k g = if key T i = k then 0 else if nextT T i = some k ∧ 2 = g then cd b else if prevT T i = some k ∧ 3 = g then cd b else if b = k ∧ 5 = g then mv T i else if b = k ∧ 4 = g then dd T i else if b = k ∧ 3 = g then nv T i else if b = k ∧ 2 = g then pv T i else at_ (cellsOf T) k g := by
    intro g hg
    unfold movT
    rw [upds_app, upds_wip _ _ _ _ hg, upds_app, upds_one, upds_app, upds_one, l2, l3, hLe _ ha 2 (by omega) (by omega), hLe _ ha 3 (by omega) (by omega), hLe _ ha 4 (by omega) (by omega), hLe _ ha 5 (by omega) (by omega), c2 hd hi, c3 hd hi, c4 hd hi, c5 hd hi, ← hLe k hk g hg.1 hg.2]
    rfl
  have hai : key T i ≠ b := hn i hi
  have hnn : nextT T i ≠ some b := by
    unfold nextT
    split
    · rename_i h; simpa using hn (i + 1) h
    · simp
  have hpp : prevT T i ≠ some b := by
    unfold prevT
    split
    · rename_i h; simpa using hn (i - 1) (by omega)
    · simp
  by_cases hkb : b = k
  · subst hkb
    obtain ⟨u2, u3, u4, u5⟩ := fld_u hu (k := b) (j := i) (by omega) (by rw [movU_key hi, if_pos rfl])
    refine four h0 h1 ?_ ?_ ?_ ?_ <;> rw [hW _ (by omega), if_neg hai, if_neg (fun h => hnn h.1), if_neg (fun h => hpp h.1)]
    · rw [if_neg (by simp), if_neg (by simp), if_neg (by simp), if_pos ⟨rfl, rfl⟩, u2]
      unfold pv
      split
      · rw [movU_key hi, if_neg (by omega)]
      · rfl
    · rw [if_neg (by simp), if_neg (by simp), if_pos ⟨rfl, rfl⟩, u3]
      unfold nv
      rw [hl]
      split
      · rw [movU_key hi, if_neg (by omega)]
      · rfl
    · rw [if_neg (by simp), if_pos ⟨rfl, rfl⟩, u4]
      conv => rhs; unfold dd
      rw [movU_get hi, if_pos rfl]
    · rw [if_pos ⟨rfl, rfl⟩, u5]
      conv => rhs; unfold mv
      rw [movU_get hi, if_pos rfl]
      rfl
  by_cases hex : ∃ j, j < T.length ∧ key T j = k
  · obtain ⟨j, hj, rfl⟩ := hex
    by_cases hij : i = j
    · subst hij
      rw [hW f ⟨h0, h1⟩, if_pos rfl, c0 hk (fun j hj => ?_) (by omega) h1]
      rw [hl] at hj
      rw [movU_key hi]
      split
      · exact fun e => hai e.symm
      · intro e; have := hd.inj j i hj hi e; omega
    obtain ⟨t2, t3, t4, t5⟩ := fld_u hd hj rfl
    have hnx : nextT T i = some (key T j) ↔ i + 1 = j := by
      unfold nextT
      constructor
      · intro h
        split at h
        · rename_i h1; simp only [Option.some.injEq] at h; exact hd.inj _ _ h1 hj h
        · cases h
      · rintro rfl; rw [if_pos hj]
    have hpx : prevT T i = some (key T j) ↔ j + 1 = i := by
      unfold prevT
      constructor
      · intro h
        split at h
        · rename_i h1; simp only [Option.some.injEq] at h; have := hd.inj _ _ (by omega) hj h; omega
        · cases h
      · rintro rfl; rw [if_pos (by omega)]; rfl
    have hne : key T i ≠ key T j := fun e => hij (hd.inj _ _ hi hj e)
    obtain ⟨u2, u3, u4, u5⟩ := fld_u hu (k := key T j) (j := j) (by omega) (by rw [movU_key hi, if_neg (fun h => hij h.symm)])
    refine four h0 h1 ?_ ?_ ?_ ?_ <;> rw [hW _ (by omega), if_neg hne]
    · by_cases hp : i + 1 = j
      · rw [if_pos ⟨hnx.2 hp, rfl⟩, u2]
        unfold pv
        rw [if_pos (by omega), movU_key hi, if_pos (by omega)]
      · rw [if_neg (fun h => hp (hnx.1 h.1)), if_neg (by simp), if_neg (by simp), if_neg (by simp), if_neg (by simp), if_neg (fun h => hkb h.1), t2, u2]
        unfold pv
        split
        · rw [movU_key hi, if_neg (by omega)]
        · rfl
    · rw [if_neg (by simp)]
      by_cases hp : j + 1 = i
      · rw [if_pos ⟨hpx.2 hp, rfl⟩, u3]
        unfold nv
        rw [hl, if_pos (by omega), movU_key hi, if_pos (by omega)]
      · rw [if_neg (fun h => hp (hpx.1 h.1)), if_neg (by simp), if_neg (by simp), if_neg (fun h => hkb h.1), if_neg (by simp), t3, u3]
        unfold nv
        rw [hl]
        split
        · rw [movU_key hi, if_neg (by omega)]
        · rfl
    · rw [if_neg (by simp), if_neg (by simp), if_neg (by simp), if_neg (fun h => hkb h.1), if_neg (by simp), if_neg (by simp), t4, u4]
      conv => rhs; unfold dd
      rw [movU_get hi, if_neg (fun h => hij h.symm)]
      rfl
    · rw [if_neg (by simp), if_neg (by simp), if_neg (fun h => hkb h.1), if_neg (by simp), if_neg (by simp), if_neg (by simp), t5, u5]
      conv => rhs; unfold mv
      rw [movU_get hi, if_neg (fun h => hij h.symm)]
      rfl
  · have hno : ∀ j, j < T.length → key T j ≠ k := fun j hj e => hex ⟨j, hj, e⟩
    have hnn : nextT T i ≠ some k := by
      unfold nextT
      split
      · rename_i h; simpa using hno (i + 1) h
      · simp
    have hpp : prevT T i ≠ some k := by
      unfold prevT
      split
      · rename_i h; simpa using hno (i - 1) (by omega)
      · simp
    rw [hW f ⟨h0, h1⟩, if_neg (hno i hi), if_neg (fun h => hnn h.1), if_neg (fun h => hpp h.1), if_neg (fun h => hkb h.1), if_neg (fun h => hkb h.1), if_neg (fun h => hkb h.1), if_neg (fun h => hkb h.1), c0 hk hno (by omega) h1, c0 hk (fun j hj => ?_) (by omega) h1]
    rw [hl] at hj
    rw [movU_key hi]
    split
    · exact hkb
    · exact hno j hj
end mov
end Links
namespace Links
open Kit Ghost Trees

/-! Trees of keys that have codes -/
def Cod (T : List TRow) : Prop := ∀ r ∈ T, cd (kk r) ≠ 0
theorem dst_of {T : List TRow} (h : GT T) (hc : Cod T) : Dst T := ⟨fun i j hi hj e => h.inj hi hj e, fun i hi => by unfold key; rw [getD_lt T hi]; exact hc _ (List.getElem_mem hi)⟩
theorem put_cod {T : List TRow} (h : Cod T) {i : Nat} {r : TRow} (hr : cd (kk r) ≠ 0) : Cod (putAt T i r) := by
  intro x hx
  unfold putAt at hx
  rcases List.mem_append.1 hx with hx | hx
  · rcases List.mem_append.1 hx with hx | hx
    · exact h x (List.mem_of_mem_take hx)
    · simp only [List.mem_cons, List.not_mem_nil, or_false] at hx; subst hx; exact hr
  · exact h x (List.mem_of_mem_drop hx)
theorem out_cod {T : List TRow} (h : Cod T) {i : Nat} : Cod (outAt T i) := by
  intro x hx
  unfold outAt at hx
  rcases List.mem_append.1 hx with hx | hx
  · exact h x (List.mem_of_mem_take hx)
  · exact h x (List.mem_of_mem_drop hx)
theorem set_cod {T : List TRow} (h : Cod T) {i : Nat} {r : TRow} (hr : cd (kk r) ≠ 0) : Cod (T.set i r) := by
  intro x hx
  rcases List.mem_or_eq_of_mem_set hx with hx | rfl
  · exact h x hx
  · exact hr
def kind (n : Int) : Int := if n = 0 ∨ n = 2 ∨ n = 3 ∨ n = 4 then n else 1
def gstep (T : List TRow) (x : Trees.Act) : List TRow :=
  if cd x.a = 0 ∨ (x.kind ≠ 0 ∧ x.kind ≠ 2 ∧ x.kind ≠ 4 ∧ cd x.b = 0) then T else (Trees.step T ⟨kind x.kind, x.a, x.b, true⟩).1
theorem step_len (t : List TRow) (x : Trees.Act) : (Trees.step t x).1.length ≤ t.length + 1 := by
  unfold Trees.step sRoot sInsert sRemove sMove sMark putAt outAt
  repeat' split
  all_goals simp
  all_goals omega
theorem gstep_len (T : List TRow) (x : Trees.Act) : (gstep T x).length ≤ T.length + 1 := by
  unfold gstep
  split
  · omega
  · exact step_len _ _
theorem gstep_good {T : List TRow} (h : GT T) (x : Trees.Act) : GT (gstep T x) := by
  unfold gstep
  split
  · exact h
  · exact step_good h _
theorem gstep_cod {T : List TRow} (h : Cod T) (hg : GT T) (x : Trees.Act) : Cod (gstep T x) := by
  unfold gstep
  split
  · exact h
  · rename_i hc
    have ha : cd x.a ≠ 0 := fun e => hc (.inl e)
    have hb : x.kind ≠ 0 → x.kind ≠ 2 → x.kind ≠ 4 → cd x.b ≠ 0 := fun h1 h2 h3 e => hc (.inr ⟨h1, h2, h3, e⟩)
    unfold Trees.step
    simp only []
    split
    · unfold sRoot
      split
      · split
        · exact h
        · split
          · exact h
          · exact put_cod h ha
      · exact h
    · rename_i k0
      have k0' : x.kind ≠ 0 := fun e => k0 (by unfold kind; rw [if_pos (.inl e), e])
      split
      · rename_i k1
        have hb' : cd x.b ≠ 0 := hb k0' (fun e => by unfold kind at k1; rw [if_pos (by omega), e] at k1; omega) (fun e => by unfold kind at k1; rw [if_pos (by omega), e] at k1; omega)
        unfold sInsert
        split
        · split
          · exact h
          · split
            · exact h
            · split
              · exact h
              · exact put_cod h hb'
        · exact h
      · rename_i k1
        split
        · unfold sRemove
          split
          · split
            · exact h
            · split
              · exact out_cod h
              · exact h
          · exact h
        · rename_i k2
          have k2' : x.kind ≠ 2 := fun e => k2 (by unfold kind; rw [if_pos (by omega), e])
          split
          · rename_i k3
            have hb' : cd x.b ≠ 0 := hb k0' k2' (fun e => by unfold kind at k3; rw [if_pos (by omega), e] at k3; omega)
            unfold sMove
            split
            · split
              · exact h
              · split
                · exact h
                · exact set_cod h hb'
            · exact h
          · unfold sMark
            split
            · split
              · exact h
              · rename_i hf
                refine set_cod h ?_
                rcases fnd_key T x.a with ⟨e1, _⟩ | ⟨i, hi, e1, e2, _⟩
                · omega
                · rw [e1, Int.toNat_natCast]
                  have : cd (key T i) ≠ 0 := by rw [e2]; exact ha
                  exact this
            · exact h
def encB (x : Trees.Act) : List DV := [.v (.int .i64 x.kind), .v (.int .i64 x.a.obj), .v (.int .i64 x.a.slot), .v (.int .i64 x.b.obj), .v (.int .i64 x.b.slot)]
theorem b0_ (x : Trees.Act) : dInt .i64 (encB x) 0 = some x.kind := rfl
theorem b1_ (x : Trees.Act) : dInt .i64 (encB x) 1 = some x.a.obj := rfl
theorem b2_ (x : Trees.Act) : dInt .i64 (encB x) 2 = some x.a.slot := rfl
theorem b3_ (x : Trees.Act) : dInt .i64 (encB x) 3 = some x.b.obj := rfl
theorem b4_ (x : Trees.Act) : dInt .i64 (encB x) 4 = some x.b.slot := rfl
def grow (l : List Trees.Act) : List TRow := l.foldl gstep []
theorem grow_fine (l : List Trees.Act) : GT (grow l) ∧ Cod (grow l) ∧ (grow l).length ≤ l.length := by
  have key : ∀ (l : List Trees.Act) (T : List TRow), GT T → Cod T → GT (l.foldl gstep T) ∧ Cod (l.foldl gstep T) ∧ (l.foldl gstep T).length ≤ T.length + l.length := by
    intro l
    induction l with
    | nil => intro T h1 h2; exact ⟨h1, h2, by simp⟩
    | cons x l ih =>
      intro T h1 h2
      obtain ⟨g1, g2, g3⟩ := ih (gstep T x) (gstep_good h1 x) (gstep_cod h2 h1 x)
      refine ⟨g1, g2, ?_⟩
      have := gstep_len T x
      simp only [List.foldl_cons, List.length_cons] at g3 ⊢
      omega
  have := key l [] nil_good (fun r hr => by cases hr)
  simpa [grow] using this
theorem grown_loop (l : List Trees.Act) (hl : l.length < 1000000) : ∀ (n i : Nat) (T : List TRow), i + n = l.length → GT T → law24_grown.H4 (l.map encB) (enc T) (i : Int) (enc ((l.drop i).foldl gstep T), ()) := by
  intro n
  induction n with
  | zero =>
    intro i T hi hg
    refine law24_grown.H4_step _ _ _ _ ?_
    rw [List.length_map, decide_eq_false (by omega), List.drop_of_length_le (by omega)]
    exact rfl
  | succ n ih =>
    intro i T hi hg
    have hil : i < l.length := by omega
    have hT : T.length < 1000000 := by have := hg.len; omega
    refine law24_grown.H4_step _ _ _ _ ?_
    rw [List.length_map, decide_eq_true (show (i : Int) < (l.length : Int) by omega), List.drop_eq_getElem_cons hil]
    simp only [cT, needs_nat, Int.toNat_natCast, map_get _ _ _ hil, optAll_so, b0_, b1_, b2_, b3_, b4_, rcode_ok, wrap_succ (show i < 4611686018427387904 by omega), root_ok T _ hT, Trees.insert_ok T _ _ hT, remove_ok T _ hT, move_ok T _ _ hT, mark_ok T _ _ hT, List.foldl_cons, rtup]
    have go : ∀ T' : List TRow, gstep T l[i] = T' → law24_grown.H4 (l.map encB) (enc T') ((i + 1 : Nat) : Int) (enc ((l.drop (i + 1)).foldl gstep (gstep T l[i])), ()) := by
      rintro T' rfl
      exact ih (i + 1) _ (by omega) (gstep_good hg _)
    generalize l[i] = x at go ⊢
    by_cases ha : cd x.a = 0
    · rw [show (cd x.a == 0) = true by simp [ha]]
      exact go T (by unfold gstep; rw [if_pos (.inl ha)])
    rw [show (cd x.a == 0) = false from beq_false_of_ne ha]
    simp only [cF]
    have hact : ∀ (q : Int) (T' : List TRow), ¬ (x.kind ≠ 0 ∧ x.kind ≠ 2 ∧ x.kind ≠ 4 ∧ cd x.b = 0) → kind x.kind = q → (Trees.step T ⟨q, x.a, x.b, true⟩).1 = T' → gstep T x = T' := by
      intro q T' h1 h2 h3
      unfold gstep
      rw [if_neg (fun h => h.elim ha h1), h2]
      exact h3
    by_cases k0 : x.kind = 0
    · rw [show (x.kind != 0) = false by simp [k0], show (x.kind == 0) = true by simp [k0]]
      simp only [cF, cT]
      exact go _ (hact 0 _ (fun h => h.1 k0) (by unfold kind; rw [if_pos (.inl k0), k0]) rfl)
    rw [show (x.kind != 0) = true by simp [k0], show (x.kind == 0) = false by simp [k0]]
    simp only [cF, cT]
    by_cases k2 : x.kind = 2
    · rw [show (x.kind != 2) = false by simp [k2], show (x.kind == 2) = true by simp [k2]]
      simp only [cF, cT]
      exact go _ (hact 2 _ (fun h => h.2.1 k2) (by unfold kind; rw [if_pos (by omega), k2]) rfl)
    rw [show (x.kind != 2) = true by simp [k2], show (x.kind == 2) = false by simp [k2]]
    simp only [cF, cT]
    by_cases k4 : x.kind = 4
    · rw [show (x.kind != 4) = false by simp [k4], show (x.kind == 4) = true by simp [k4], show (x.kind == 3) = false by simp [k4]]
      simp only [cF, cT]
      exact go _ (hact 4 _ (fun h => h.2.2.1 k4) (by unfold kind; rw [if_pos (by omega), k4]) rfl)
    rw [show (x.kind != 4) = true by simp [k4], show (x.kind == 4) = false by simp [k4]]
    simp only [cF, cT]
    by_cases hb : cd x.b = 0
    · rw [show (cd x.b == 0) = true by simp [hb]]
      exact go T (by unfold gstep; rw [if_pos (.inr ⟨k0, k2, k4, hb⟩)])
    rw [show (cd x.b == 0) = false from beq_false_of_ne hb]
    simp only [cF]
    by_cases k3 : x.kind = 3
    · rw [show (x.kind == 3) = true by simp [k3]]
      simp only [cT]
      exact go _ (hact 3 _ (fun h => hb h.2.2.2) (by unfold kind; rw [if_pos (by omega), k3]) rfl)
    rw [show (x.kind == 3) = false by simp [k3]]
    simp only [cF]
    exact go _ (hact 1 _ (fun h => hb h.2.2.2) (by unfold kind; rw [if_neg (by omega)]) rfl)
theorem grown_ok (l : List Trees.Act) (hl : l.length < 1000000) : law24_grown.R (l.map encB) = some (enc (grow l), ()) := law24_grown.start _ _ (grown_loop l hl l.length 0 [] (by omega) nil_good)
/-! Who is below -/
theorem blw_congr {L M : List Int} (h : Eqv (at_ L) (at_ M)) (d : Int) : ∀ (n : Nat) (o : Option K), (∀ k, o = some k → cd k ≠ 0) → blw L d n o = blw M d n o
  | 0, _, _ => rfl
  | n + 1, none, _ => rfl
  | n + 1, some x, hx => by
    have hc := hx x rfl
    simp only [blw]
    rw [h x hc 4 (by omega) (by omega)]
    have e : lk L x 3 = lk M x 3 := by unfold lk; rw [h x hc 3 (by omega) (by omega)]
    rw [e, blw_congr h d n (lk M x 3) (fun k hk => kof_ok hk)]
theorem blw_rows {T : List TRow} (hd : Dst T) (d : Int) : ∀ (n m : Nat), T.length ≤ m + n → blw (cellsOf T) d n (if m < T.length then some (key T m) else none) = ((T.drop m).takeWhile fun r => decide (d < r.depth)).map kk
  | 0, m, h => by
    rw [List.drop_of_length_le (by omega)]; rfl
  | n + 1, m, h => by
    by_cases hm : m < T.length
    · rw [if_pos hm, List.drop_eq_getElem_cons hm]
      simp only [blw]
      rw [c4 hd hm, List.takeWhile_cons]
      have hdm : dd T m = T[m].depth := by unfold dd; rw [getD_lt T hm]
      rw [hdm]
      by_cases hlt : d < T[m].depth
      · rw [if_pos hlt, decide_eq_true hlt, lk_next hd hm]
        have := blw_rows hd d n (m + 1) (by omega)
        unfold nextT
        rw [this]
        simp only [if_true, List.map_cons]
        congr 1
        unfold key
        rw [getD_lt T hm]
      · rw [if_neg hlt, decide_eq_false hlt]
        rfl
    · rw [if_neg hm, List.drop_of_length_le (by omega)]
      rfl
theorem below_eq {T : List TRow} (hd : Dst T) (hl : T.length ≤ 400) (a : K) (ha : cd a ≠ 0) : blw (cellsOf T) (at_ (cellsOf T) a 4) 448 (lk (cellsOf T) a 3) = (bel T a).map kk := by
  unfold bel
  rcases fnd_key T a with ⟨h1, h2⟩ | ⟨i, hi, h1, rfl, _⟩
  · rw [h1, if_pos (by omega)]
    have e : lk (cellsOf T) a 3 = none := by unfold lk; rw [c0 ha h2 (by omega) (by omega)]; exact kof_zero
    rw [e]
    rfl
  · rw [h1, if_neg (by omega), Int.toNat_natCast, lk_next hd hi, c4 hd hi]
    have := blw_rows hd (dd T i) 448 (i + 1) (by omega)
    unfold nextT
    rw [this]
    unfold underOf
    rw [List.getElem?_eq_getElem hi]
    have hdi : dd T i = T[i].depth := by unfold dd; rw [getD_lt T hi]
    rw [hdi]
theorem leaf_eq {T : List TRow} (hd : Dst T) {i : Nat} (hi : i < T.length) (hu : (underOf T i).length = 0) : leafS (cellsOf T) (key T i) = true := by
  unfold leafS
  rw [lk_next hd hi]
  unfold nextT
  obtain ⟨u1, u2, u3, _⟩ := under_spec hi
  split
  · rename_i x hx
    split at hx
    · rename_i h
      simp only [Option.some.injEq] at hx
      subst hx
      rw [c4 hd h, c4 hd hi]
      rw [hu] at u3
      rcases u3 with u3 | u3
      · omega
      · exact decide_eq_true u3
    · cases hx
  · rfl
/-! The law -/
section law
variable {T : List TRow} (hg : GT T) (hc : Cod T) (hl : T.length ≤ 60) {a b : K} (ha : cd a ≠ 0) (hb : cd b ≠ 0) (hlive : law24_live.R = some (true, ()))
theorem kok_of {k : K} (h : cd k ≠ 0) : kOK k = true := by
  have := cd_pos h
  unfold kOK
  simp
  omega
include hg hc hl ha hlive in
theorem rest_ok : (optAll (links_Below.R ((cellsOf T).map ei) a.obj a.slot) fun (c25 : (List (List DV) × Unit)) =>
                    optAll (ref13_Below.R (enc T) a.obj a.slot) fun (c26 : (List (List DV) × Unit)) =>
                    optAll (ref06_Same.R (c25).1 (c26).1) fun (c27 : (Bool × Unit)) =>
                    cond ((c27).1) (
                      optAll (law24_live.R) fun (c28 : (Bool × Unit)) =>
                      ((true, ()) : Bool × Unit) = ((c28).1, ())) (
                      ((true, ()) : Bool × Unit) = (false, ()))) := by
  have hd := dst_of hg hc
  rw [below_w, below_eq hd (by omega) a ha, rbelow_ok T a (by omega)]
  simp only [optAll_so, krow_map]
  rw [keys_same_ok _ _ (by have := under_len T a; simp; omega) (by have := under_len T a; simp; omega), decide_eq_true rfl, hlive]
  exact rfl
theorem wr_len (L : List Int) (a b : K) : (insW L a b).length < 1000000 ∧ (remW L a).length < 1000000 ∧ (movW L a b).length < 1000000 := by
  unfold insW remW movW wipeW
  refine ⟨?_, ?_, ?_⟩
  · split <;> simp
  · split <;> split <;> simp
  · split <;> split <;> simp
include hg hc hl ha hb hlive in
theorem mov_ok_ : (optAll (tree_Move.R (enc T) a.obj a.slot b.obj b.slot) fun (c21 : (List (List DV) × (Int × Unit))) =>
                cond ((((c21).2).1 == (0 : Int))) (
                  optAll (links_Move.R ((cellsOf T).map ei) a.obj a.slot b.obj b.slot) fun (c22 : (List (List DV) × Unit)) =>
                  optAll (layout_Apply.R ((cellsOf T).map ei) (c22).1) fun (c23 : (List (List DV) × Unit)) =>
                  optAll (law24_alike.R (c23).1 (c21).1) fun (c24 : (Bool × Unit)) =>
                  cond ((!(c24).1)) (
                    ((true, ()) : Bool × Unit) = (false, ())) (
                    optAll (links_Below.R ((cellsOf T).map ei) a.obj a.slot) fun (c25 : (List (List DV) × Unit)) =>
                    optAll (ref13_Below.R (enc T) a.obj a.slot) fun (c26 : (List (List DV) × Unit)) =>
                    optAll (ref06_Same.R (c25).1 (c26).1) fun (c27 : (Bool × Unit)) =>
                    cond ((c27).1) (
                      optAll (law24_live.R) fun (c28 : (Bool × Unit)) =>
                      ((true, ()) : Bool × Unit) = ((c28).1, ())) (
                      ((true, ()) : Bool × Unit) = (false, ())))) (
                  optAll (links_Below.R ((cellsOf T).map ei) a.obj a.slot) fun (c29 : (List (List DV) × Unit)) =>
                  optAll (ref13_Below.R (enc T) a.obj a.slot) fun (c30 : (List (List DV) × Unit)) =>
                  optAll (ref06_Same.R (c29).1 (c30).1) fun (c31 : (Bool × Unit)) =>
                  cond ((c31).1) (
                    optAll (law24_live.R) fun (c32 : (Bool × Unit)) =>
                    ((true, ()) : Bool × Unit) = ((c32).1, ())) (
                    ((true, ()) : Bool × Unit) = (false, ())))) := by
  have hd := dst_of hg hc
  have hT : T.length < 1000000 := by omega
  have hrest := rest_ok hg hc hl ha hlive
  rw [move_ok T a b hT]
  simp only [optAll_so, rtup]
  by_cases he : (sMove T a b).2 = 0
  · rw [show ((sMove T a b).2 == 0) = true by simp [he]]
    simp only [cT]
    unfold sMove at he ⊢
    by_cases h1 : tOK T = true ∧ kOK a = true ∧ kOK b = true
    · rw [if_pos h1] at he ⊢
      by_cases h2 : fnd T a < 0
      · rw [if_pos h2] at he; cases he
      · rw [if_neg h2] at he ⊢
        by_cases h3 : 0 ≤ fnd T b
        · rw [if_pos h3] at he; cases he
        · rw [if_neg h3]
          rcases fnd_key T a with ⟨e1, _⟩ | ⟨i, hi, e1, rfl, _⟩
          · omega
          · rcases fnd_key T b with ⟨_, hn⟩ | ⟨j, _, e2, _⟩
            · rw [e1, Int.toNat_natCast]
              have hab : key T i ≠ b := hn i hi
              rw [move_w _ _ _ (cells_len T) ha hb hab]
              simp only [optAll_so]
              rw [apply_ok _ _ (by rw [cells_len]; omega) (wr_len _ _ _).2.2]
              simp only [optAll_so]
              have hu : (movU T i b).length < 1000000 := by rw [movU_len]; omega
              rw [alike_ok _ (cellsOf (movU T i b)) _ (cells_ok _ hu) (by rw [app_len, cells_len]) (cells_len _) (mov_eqv hd hi hb hn (cells_len T) (fun _ _ _ _ _ => rfl))]
              simp only [optAll_so, Bool.not_true, cF]
              exact hrest
            · omega
    · rw [if_neg h1] at he; cases he
  · rw [show ((sMove T a b).2 == 0) = false by simp [he]]
    simp only [cF]
    exact hrest
include hg hc hl ha hb hlive in
theorem rem_ok_ : (optAll (tree_Remove.R (enc T) a.obj a.slot) fun (c16 : (List (List DV) × (Int × Unit))) =>
          cond ((((c16).2).1 == (0 : Int))) (
            optAll (links_Leaf.R ((cellsOf T).map ei) a.obj a.slot) fun (c17 : (Bool × Unit)) =>
            cond ((!(c17).1)) (
              ((true, ()) : Bool × Unit) = (false, ())) (
              optAll (links_Remove.R ((cellsOf T).map ei) a.obj a.slot) fun (c18 : (List (List DV) × Unit)) =>
              optAll (layout_Apply.R ((cellsOf T).map ei) (c18).1) fun (c19 : (List (List DV) × Unit)) =>
              optAll (law24_alike.R (c19).1 (c16).1) fun (c20 : (Bool × Unit)) =>
              cond ((!(c20).1)) (
                ((true, ()) : Bool × Unit) = (false, ())) (
                optAll (tree_Move.R (enc T) a.obj a.slot b.obj b.slot) fun (c21 : (List (List DV) × (Int × Unit))) =>
                cond ((((c21).2).1 == (0 : Int))) (
                  optAll (links_Move.R ((cellsOf T).map ei) a.obj a.slot b.obj b.slot) fun (c22 : (List (List DV) × Unit)) =>
                  optAll (layout_Apply.R ((cellsOf T).map ei) (c22).1) fun (c23 : (List (List DV) × Unit)) =>
                  optAll (law24_alike.R (c23).1 (c21).1) fun (c24 : (Bool × Unit)) =>
                  cond ((!(c24).1)) (
                    ((true, ()) : Bool × Unit) = (false, ())) (
                    optAll (links_Below.R ((cellsOf T).map ei) a.obj a.slot) fun (c25 : (List (List DV) × Unit)) =>
                    optAll (ref13_Below.R (enc T) a.obj a.slot) fun (c26 : (List (List DV) × Unit)) =>
                    optAll (ref06_Same.R (c25).1 (c26).1) fun (c27 : (Bool × Unit)) =>
                    cond ((c27).1) (
                      optAll (law24_live.R) fun (c28 : (Bool × Unit)) =>
                      ((true, ()) : Bool × Unit) = ((c28).1, ())) (
                      ((true, ()) : Bool × Unit) = (false, ())))) (
                  optAll (links_Below.R ((cellsOf T).map ei) a.obj a.slot) fun (c29 : (List (List DV) × Unit)) =>
                  optAll (ref13_Below.R (enc T) a.obj a.slot) fun (c30 : (List (List DV) × Unit)) =>
                  optAll (ref06_Same.R (c29).1 (c30).1) fun (c31 : (Bool × Unit)) =>
                  cond ((c31).1) (
                    optAll (law24_live.R) fun (c32 : (Bool × Unit)) =>
                    ((true, ()) : Bool × Unit) = ((c32).1, ())) (
                    ((true, ()) : Bool × Unit) = (false, ())))))) (
            optAll (tree_Move.R (enc T) a.obj a.slot b.obj b.slot) fun (c33 : (List (List DV) × (Int × Unit))) =>
            cond ((((c33).2).1 == (0 : Int))) (
              optAll (links_Move.R ((cellsOf T).map ei) a.obj a.slot b.obj b.slot) fun (c34 : (List (List DV) × Unit)) =>
              optAll (layout_Apply.R ((cellsOf T).map ei) (c34).1) fun (c35 : (List (List DV) × Unit)) =>
              optAll (law24_alike.R (c35).1 (c33).1) fun (c36 : (Bool × Unit)) =>
              cond ((!(c36).1)) (
                ((true, ()) : Bool × Unit) = (false, ())) (
                optAll (links_Below.R ((cellsOf T).map ei) a.obj a.slot) fun (c37 : (List (List DV) × Unit)) =>
                optAll (ref13_Below.R (enc T) a.obj a.slot) fun (c38 : (List (List DV) × Unit)) =>
                optAll (ref06_Same.R (c37).1 (c38).1) fun (c39 : (Bool × Unit)) =>
                cond ((c39).1) (
                  optAll (law24_live.R) fun (c40 : (Bool × Unit)) =>
                  ((true, ()) : Bool × Unit) = ((c40).1, ())) (
                  ((true, ()) : Bool × Unit) = (false, ())))) (
              optAll (links_Below.R ((cellsOf T).map ei) a.obj a.slot) fun (c41 : (List (List DV) × Unit)) =>
              optAll (ref13_Below.R (enc T) a.obj a.slot) fun (c42 : (List (List DV) × Unit)) =>
              optAll (ref06_Same.R (c41).1 (c42).1) fun (c43 : (Bool × Unit)) =>
              cond ((c43).1) (
                optAll (law24_live.R) fun (c44 : (Bool × Unit)) =>
                ((true, ()) : Bool × Unit) = ((c44).1, ())) (
                ((true, ()) : Bool × Unit) = (false, ()))))) := by
  have hd := dst_of hg hc
  have hT : T.length < 1000000 := by omega
  have hmov := mov_ok_ hg hc hl ha hb hlive
  rw [remove_ok T a hT]
  simp only [optAll_so, rtup]
  by_cases he : (sRemove T a).2 = 0
  · rw [show ((sRemove T a).2 == 0) = true by simp [he]]
    simp only [cT]
    unfold sRemove at he ⊢
    by_cases h1 : tOK T = true ∧ kOK a = true
    · rw [if_pos h1] at he ⊢
      by_cases h2 : fnd T a < 0
      · rw [if_pos h2] at he; cases he
      · rw [if_neg h2] at he ⊢
        rcases fnd_key T a with ⟨e1, _⟩ | ⟨i, hi, e1, rfl, _⟩
        · omega
        · rw [e1, Int.toNat_natCast] at he ⊢
          by_cases h3 : (underOf T i).length = 0
          · rw [if_pos h3] at he ⊢
            rw [leaf_ok, leaf_eq hd hi h3]
            simp only [optAll_so, Bool.not_true, cF]
            rw [remove_w _ _ (cells_len T) ha]
            simp only [optAll_so]
            rw [apply_ok _ _ (by rw [cells_len]; omega) (wr_len _ _ ⟨0, 0⟩).2.1]
            simp only [optAll_so]
            have hu : (outAt T i).length < 1000000 := by rw [out_len T i hi]; omega
            rw [alike_ok _ (cellsOf (outAt T i)) _ (cells_ok _ hu) (by rw [app_len, cells_len]) (cells_len _) (rem_eqv hd hi (cells_len T) (fun _ _ _ _ _ => rfl))]
            simp only [optAll_so, Bool.not_true, cF]
            exact hmov
          · rw [if_neg h3] at he; cases he
    · rw [if_neg h1] at he; cases he
  · rw [show ((sRemove T a).2 == 0) = false by simp [he]]
    simp only [cF]
    exact hmov
include hg hc hl ha hb hlive in
theorem tree_end (n : Int) (hn : ¬ n < (T.length : Int)) : law24_LinksTree.H6 (enc T) n a.obj a.slot b.obj b.slot (true, ()) := by
  have hd := dst_of hg hc
  have hT : T.length < 1000000 := by omega
  have hrem := rem_ok_ hg hc hl ha hb hlive
  refine law24_LinksTree.H6_step _ _ _ _ _ _ _ ?_
  rw [enc_len, decide_eq_false hn]
  simp only [cF]
  rw [cells_ok T hT, Trees.insert_ok T a b hT]
  simp only [optAll_so, rtup]
  by_cases he : (sInsert T a b).2 = 0
  · rw [show ((sInsert T a b).2 == 0) = true by simp [he]]
    simp only [cT]
    unfold sInsert at he ⊢
    by_cases h1 : tOK T = true ∧ kOK a = true ∧ kOK b = true
    · rw [if_pos h1] at he ⊢
      by_cases h2 : fnd T a < 0
      · rw [if_pos h2] at he; cases he
      · rw [if_neg h2] at he ⊢
        by_cases h3 : 0 ≤ fnd T b
        · rw [if_pos h3] at he; cases he
        · rw [if_neg h3] at he ⊢
          rw [if_neg (by omega)]
          rcases fnd_key T a with ⟨e1, _⟩ | ⟨i, hi, e1, rfl, _⟩
          · omega
          · rcases fnd_key T b with ⟨_, hn⟩ | ⟨j, _, e2, _⟩
            · rw [e1, Int.toNat_natCast]
              have hab : key T i ≠ b := hn i hi
              rw [Links.insert_ok _ _ _ (cells_len T) ha hb hab]
              simp only [optAll_so]
              rw [apply_ok _ _ (by rw [cells_len]; omega) (wr_len _ _ _).1]
              simp only [optAll_so]
              have hu : (insU T i b (dd T i + 1)).length < 1000000 := by rw [insU_len hi]; omega
              have hds := dd_small ((tOK_iff T).2 hg) hi
              have hup : up (dd T i) = dd T i + 1 := by unfold up; rw [if_pos (by omega), w64 (by omega) (by omega)]
              rw [alike_ok _ (cellsOf (insU T i b (dd T i + 1))) _ (cells_ok _ hu) (by rw [app_len, cells_len]) (cells_len _) (ins_eqv hd hi hb hn hup)]
              simp only [optAll_so, Bool.not_true, cF]
              exact hrem
            · omega
    · rw [if_neg h1] at he; cases he
  · rw [show ((sInsert T a b).2 == 0) = false by simp [he]]
    simp only [cF]
    exact hrem
include hg hc hl ha hb hlive in
theorem tree_loop : ∀ (n i : Nat), i + n = T.length → law24_LinksTree.H6 (enc T) (i : Int) a.obj a.slot b.obj b.slot (true, ()) := by
  intro n
  induction n with
  | zero => intro i hi; exact tree_end hg hc hl ha hb hlive i (by omega)
  | succ n ih =>
    intro i hi
    have hil : i < T.length := by omega
    refine law24_LinksTree.H6_step _ _ _ _ _ _ _ ?_
    rw [enc_len, decide_eq_true (show (i : Int) < (T.length : Int) by omega)]
    simp only [cT, needs_nat, Int.toNat_natCast, enc_get T i hil, optAll_so, t0_, hlive, wrap_succ (show i < 4611686018427387904 by omega)]
    by_cases h : T[i].obj > 3
    · rw [decide_eq_true h]
      exact True.intro
    · rw [decide_eq_false h]
      simp only [cF]
      exact ih (i + 1) (by omega)
end law
theorem tree_law (hlive : law24_live.R = some (true, ())) (l : List Trees.Act) (a b : K) : law24_LinksTree.R (l.map encB) a.obj a.slot b.obj b.slot = some (true, ()) := by
  refine law24_LinksTree.start _ _ _ _ _ _ ?_
  rw [List.length_map, hlive, rcode_ok, rcode_ok]
  simp only [optAll_so]
  by_cases h1 : (l.length : Int) > 60
  · rw [decide_eq_true h1]; exact True.intro
  rw [decide_eq_false h1]
  by_cases h2 : a.obj > 3
  · rw [decide_eq_true h2]; exact True.intro
  rw [decide_eq_false h2]
  by_cases h3 : b.obj > 3
  · rw [decide_eq_true h3]; exact True.intro
  rw [decide_eq_false h3]
  by_cases h4 : cd a = 0
  · rw [show (cd a == 0) = true by simp [h4]]; exact True.intro
  rw [show (cd a == 0) = false from beq_false_of_ne h4]
  by_cases h5 : cd b = 0
  · rw [show (cd b == 0) = true by simp [h5]]; exact True.intro
  rw [show (cd b == 0) = false from beq_false_of_ne h5, grown_ok l (by omega)]
  simp only [cF, optAll_so]
  obtain ⟨g1, g2, g3⟩ := grow_fine l
  exact tree_loop g1 g2 (by omega) h4 h5 hlive (grow l).length 0 (by omega)
end Links
namespace Links
open Kit Ghost Trees

/-! One between two -/
def k0 : K := ⟨0, 0⟩
def k1 : K := ⟨0, 1⟩
def k2 : K := ⟨0, 2⟩
def k3 : K := ⟨0, 3⟩
def T0 : List TRow := [⟨0, 0, 0, false⟩, ⟨0, 1, 0, false⟩]
def U0 : List TRow := [⟨0, 0, 0, false⟩, ⟨0, 2, 1, false⟩, ⟨0, 1, 0, false⟩]
theorem t0_dst : Dst T0 := ⟨fun i j hi hj e => by
  match i, j, hi, hj with
  | 0, 0, _, _ => rfl
  | 1, 1, _, _ => rfl
  | 0, 1, _, _ => exact absurd e (by decide)
  | 1, 0, _, _ => exact absurd e (by decide)
  | i + 2, _, hi, _ => exact absurd hi (by simp [T0])
  | _, j + 2, _, hj => exact absurd hj (by simp [T0]), fun i hi => by
  match i, hi with
  | 0, _ => decide
  | 1, _ => decide
  | i + 2, hi => exact absurd hi (by simp [T0])⟩
theorem u0_is : insU T0 0 k2 1 = U0 := rfl
theorem u0_dst : Dst U0 := by
  rw [← u0_is]
  refine insU_dst t0_dst (by decide) (by decide) fun j hj => ?_
  match j, hj with
  | 0, _ => decide
  | 1, _ => decide
  | j + 2, hj => exact absurd hj (by simp [T0])
noncomputable def M0 : List Int := app (cellsOf T0) (insW (cellsOf T0) k0 k2)
theorem m0_len : M0.length = 4096 := by unfold M0; rw [app_len, cells_len]
theorem m0_eqv : Eqv (at_ M0) (at_ (cellsOf U0)) := by
  have := ins_eqv (d := 1) t0_dst (i := 0) (by decide) (b := k2) (by decide) (fun j hj => by
    match j, hj with
    | 0, _ => decide
    | 1, _ => decide
    | j + 2, hj => exact absurd hj (by simp [T0])) rfl
  exact this
theorem m0_next {i : Nat} (hi : i < U0.length) : lk M0 (key U0 i) 3 = nextT U0 i := by
  unfold lk
  rw [m0_eqv _ (u0_dst.cod i hi) 3 (by omega) (by omega)]
  exact lk_next u0_dst hi
theorem m0_prev {i : Nat} (hi : i < U0.length) : lk M0 (key U0 i) 2 = prevT U0 i := by
  unfold lk
  rw [m0_eqv _ (u0_dst.cod i hi) 2 (by omega) (by omega)]
  exact lk_prev u0_dst hi
theorem m0_depth {i : Nat} (hi : i < U0.length) : at_ M0 (key U0 i) 4 = dd U0 i := by
  rw [m0_eqv _ (u0_dst.cod i hi) 4 (by omega) (by omega)]
  exact c4 u0_dst hi
theorem guards : layout_Guard.R 30 = some (28, ()) ∧ layout_Guard.R 31 = some (28, ()) ∧ layout_Guard.R 32 = some (28, ()) ∧ layout_Guard.R 33 = some (28, ()) ∧ layout_Guard.R 19 = some (16, ()) ∧ layout_Guard.R 24 = some (22, ()) := by
  refine ⟨ret_closed (n := 400) (v := .d (.v (.int .i64 28))) (by kernel_rfl) (by kernel_rfl), ret_closed (n := 400) (v := .d (.v (.int .i64 28))) (by kernel_rfl) (by kernel_rfl), ret_closed (n := 400) (v := .d (.v (.int .i64 28))) (by kernel_rfl) (by kernel_rfl), ret_closed (n := 400) (v := .d (.v (.int .i64 28))) (by kernel_rfl) (by kernel_rfl), ret_closed (n := 400) (v := .d (.v (.int .i64 16))) (by kernel_rfl) (by kernel_rfl), ret_closed (n := 400) (v := .d (.v (.int .i64 22))) (by kernel_rfl) (by kernel_rfl)⟩
theorem touch_step (W : List (Int × Int)) (i : Nat) (hi : i < W.length) (hW : W.length < 1000) (g : Int) (hg : layout_Guard.R W[i].1 = some (g, ())) (h0 : 0 ≤ g) (G : List Int) (hG : G.length < 1000) (c : List (List DV) × Unit)
    (h : links_Touched.H3 ((G ++ [g]).map ei) (W.map encW) W.length ((i + 1 : Nat) : Int) c) : links_Touched.H3 (G.map ei) (W.map encW) W.length (i : Int) c := by
  refine links_Touched.H3_step _ _ _ _ _ ?_
  rw [decide_eq_true (show (i : Int) < (W.length : Int) by omega)]
  simp only [cT, needs_nat, Int.toNat_natCast, map_get _ _ _ hi, optAll_so, w0_, w1_, hg, wrap_succ (show i < 4611686018427387904 by omega)]
  rw [decide_eq_true (show g ≥ 0 from h0)]
  simp only [cT, needs_iff, List.length_append, List.length_map]
  have hlen : ([[DV.v (Value.int IntKind.i64 g)]].take 1).length = 1 := rfl
  rw [hlen]
  refine ⟨trivial, by omega, ?_⟩
  rw [List.map_append] at h
  exact h
theorem touched_ok : ∃ r, links_Touched.R ((insW (cellsOf T0) k0 k2).map encW) = some (r, ()) ∧ r.length = 3 := by
  have hins : ∃ x y z u v w, insW (cellsOf T0) k0 k2 = [(30, x), (31, y), (32, z), (33, u), (19, v), (24, w)] := by
    have hk : lk (cellsOf T0) k0 3 = some k1 := lk_next t0_dst (i := 0) (by decide)
    unfold insW
    rw [hk]
    exact ⟨_, _, _, _, _, _, rfl⟩
  obtain ⟨x, y, z, u, v, w, hins⟩ := hins
  rw [hins]
  obtain ⟨g1, g2, g3, g4, g5, g6⟩ := guards
  refine ⟨([16, 22, 28] : List Int).map cellOfD, links_Touched.start _ _ ?_, rfl⟩
  · rw [List.length_map]
    have e : ∀ c, links_Touched.H3 (([28, 28, 28, 28, 16, 22] : List Int).map ei) (([(30, x), (31, y), (32, z), (33, u), (19, v), (24, w)] : List (Int × Int)).map encW) ((6 : Nat) : Int) ((6 : Nat) : Int) c → links_Touched.H3 [] (([(30, x), (31, y), (32, z), (33, u), (19, v), (24, w)] : List (Int × Int)).map encW) ((6 : Nat) : Int) 0 c := by
      intro c h
      exact touch_step [(30, x), (31, y), (32, z), (33, u), (19, v), (24, w)] 0 (by simp) (by simp) 28 g1 (by omega) [] (by simp) c
        (touch_step [(30, x), (31, y), (32, z), (33, u), (19, v), (24, w)] 1 (by simp) (by simp) 28 g2 (by omega) [28] (by simp) c
        (touch_step [(30, x), (31, y), (32, z), (33, u), (19, v), (24, w)] 2 (by simp) (by simp) 28 g3 (by omega) [28, 28] (by simp) c
        (touch_step [(30, x), (31, y), (32, z), (33, u), (19, v), (24, w)] 3 (by simp) (by simp) 28 g4 (by omega) [28, 28, 28] (by simp) c
        (touch_step [(30, x), (31, y), (32, z), (33, u), (19, v), (24, w)] 4 (by simp) (by simp) 16 g5 (by omega) [28, 28, 28, 28] (by simp) c
        (touch_step [(30, x), (31, y), (32, z), (33, u), (19, v), (24, w)] 5 (by simp) (by simp) 22 g6 (by omega) [28, 28, 28, 28, 16] (by simp) c h)))))
    refine e _ ?_
    refine links_Touched.H3_step _ _ _ _ _ ?_
    rw [show decide (((6 : Nat) : Int) < ((6 : Nat) : Int)) = false from rfl]
    simp only [cF, needs_iff]
    refine ⟨⟨trivial, trivial, by decide⟩, ?_⟩
    rw [show mapO asCellD (([28, 28, 28, 28, 16, 22] : List Int).map ei) = some [28, 28, 28, 28, 16, 22] from rfl]
    simp only [optAll_so]
    refine ⟨⟨trivial, by decide, by decide⟩, ?_⟩
    rw [show mapO asCellD (List.map cellOfD (isort [28, 28, 28, 28, 16, 22])) = some [16, 22, 28, 28, 28, 28] from rfl]
    exact rfl
theorem live_ok : law24_live.R = some (true, ()) := by
  refine law24_live.start _ ?_
  have hcells := cells_ok T0 (by decide)
  have hcells' : law24_cells.R (([[(DV.v (Value.int IntKind.i64 0)), (DV.v (Value.int IntKind.i64 0)), (DV.v (Value.int IntKind.i64 0)), (DV.v (Value.bool false))], [(DV.v (Value.int IntKind.i64 0)), (DV.v (Value.int IntKind.i64 1)), (DV.v (Value.int IntKind.i64 0)), (DV.v (Value.bool false))]]).take 2) = some ((cellsOf T0).map ei, ()) := hcells
  simp only [rkey_ok, optAll_so]
  rw [hcells']
  simp only [optAll_so]
  have hi : links_Insert.R ((cellsOf T0).map ei) 0 0 0 2 = some ((insW (cellsOf T0) k0 k2).map encW, ()) := Links.insert_ok (cellsOf T0) k0 k2 (cells_len _) (by decide) (by decide) (by decide)
  rw [hi]
  simp only [optAll_so]
  rw [apply_ok _ _ (by rw [cells_len]; omega) (wr_len _ _ _).1]
  simp only [optAll_so]
  have hn : links_Next.R (M0.map ei) 0 0 = some (ktup (some k2)) := by
    have := next_ok M0 k0
    rw [show lk M0 k0 3 = some k2 from m0_next (i := 0) (by decide)] at this
    exact this
  have hp : links_Prev.R (M0.map ei) 0 1 = some (ktup (some k2)) := by
    have := prev_ok M0 k1
    rw [show lk M0 k1 2 = some k2 from m0_prev (i := 2) (by decide)] at this
    exact this
  have hM : app (cellsOf T0) (insW (cellsOf T0) k0 k2) = M0 := rfl
  rw [hM, hn, hp]
  simp only [optAll_so, ktup, k2]
  have hl6 : (((insW (cellsOf T0) k0 ⟨0, 2⟩).map encW).length : Int) = 6 := by
    have hk : lk (cellsOf T0) k0 3 = some k1 := lk_next t0_dst (i := 0) (by decide)
    unfold insW
    rw [hk]
    rfl
  rw [show ((((insW (cellsOf T0) k0 ⟨0, 2⟩).map encW).length : Int) == 6) = true by rw [hl6]; rfl]
  simp only [cT]
  rw [show ((0 : Int) == 0 && ((2 : Int) == 2 && true)) = true from rfl]
  simp only [cT]
  have hb : links_Below.R (M0.map ei) 0 0 = some ([k2].map encK, ()) := by
    have := below_w M0 k0
    rw [show lk M0 k0 3 = some k2 from m0_next (i := 0) (by decide), show at_ M0 k0 4 = 0 from m0_depth (i := 0) (by decide)] at this
    rw [blw_congr m0_eqv 0 448 (some k2) (fun k hk => by simp only [Option.some.injEq] at hk; subst hk; decide)] at this
    have e := blw_rows u0_dst 0 448 1 (by decide)
    rw [if_pos (by decide)] at e
    rw [show key U0 1 = k2 from rfl] at e
    rw [e] at this
    exact this
  rw [hb]
  simp only [optAll_so]
  have hs : ref06_Same.R ([k2].map encK) (([[(DV.v (Value.int IntKind.i64 0)), (DV.v (Value.int IntKind.i64 2))]]).take 1) = some (true, ()) := by
    have := keys_same_ok [k2] [k2] (by simp) (by simp)
    rw [decide_eq_true rfl] at this
    exact this
  rw [hs]
  simp only [optAll_so, cT]
  have hf : links_Leaf.R (M0.map ei) 0 2 = some (true, ()) := by
    have := leaf_ok M0 k2
    unfold leafS at this
    rw [show lk M0 k2 3 = some k1 from m0_next (i := 1) (by decide)] at this
    simp only at this
    rw [show at_ M0 k1 4 = 0 from m0_depth (i := 2) (by decide), show at_ M0 k2 4 = 1 from m0_depth (i := 1) (by decide)] at this
    exact this
  have hf0 : links_Leaf.R (M0.map ei) 0 0 = some (false, ()) := by
    have := leaf_ok M0 k0
    unfold leafS at this
    rw [show lk M0 k0 3 = some k2 from m0_next (i := 0) (by decide)] at this
    simp only at this
    rw [show at_ M0 k2 4 = 1 from m0_depth (i := 1) (by decide), show at_ M0 k0 4 = 0 from m0_depth (i := 0) (by decide)] at this
    exact this
  rw [hf, hf0]
  simp only [optAll_so, cT, Bool.not_false]
  obtain ⟨r, hr, hr3⟩ := touched_ok
  have hr' : links_Touched.R ((insW (cellsOf T0) k0 ⟨0, 2⟩).map encW) = some (r, ()) := hr
  rw [hr']
  simp only [optAll_so]
  rw [show ((r.length : Int) == 3) = true by rw [hr3]; rfl]
  simp only [cT]
  have hrm : links_Remove.R (M0.map ei) 0 2 = some ((remW M0 k2).map encW, ()) := remove_w M0 k2 m0_len (by decide)
  rw [hrm]
  simp only [optAll_so]
  have hr6 : ((((remW M0 k2).map encW).length : Int) == 6) = true := by
    unfold remW
    rw [show lk M0 k2 2 = some k0 from m0_prev (i := 1) (by decide), show lk M0 k2 3 = some k1 from m0_next (i := 1) (by decide)]
    rfl
  rw [hr6]
  simp only [cT]
  have hmv : links_Move.R (M0.map ei) 0 2 0 3 = some ((movW M0 k2 k3).map encW, ()) := move_w M0 k2 k3 m0_len (by decide) (by decide) (by decide)
  rw [hmv]
  simp only [optAll_so]
  have hm10 : ((((movW M0 k2 k3).map encW).length : Int) == 10) = true := by
    unfold movW
    rw [show lk M0 k2 2 = some k0 from m0_prev (i := 1) (by decide), show lk M0 k2 3 = some k1 from m0_next (i := 1) (by decide)]
    rfl
  rw [hm10]
  simp only [cT]
  have hin : links_Insert.R [] 0 2 0 2 = some ([], ()) := insert_nil ⟨0, 2⟩ ⟨0, 2⟩
  rw [hin]
  exact rfl
/-! Back again -/
theorem put_out (T : List TRow) (i : Nat) (hi : i ≤ T.length) (r : TRow) : outAt (putAt T i r) i = T := by
  unfold outAt putAt
  have hl : (T.take i).length = i := by simp; omega
  rw [List.append_assoc]
  have e1 : (T.take i ++ ([r] ++ T.drop i)).take i = T.take i := by
    rw [List.take_append_of_le_length (by omega), List.take_of_length_le (by omega)]
  have e2 : (T.take i ++ ([r] ++ T.drop i)).drop (i + 1) = T.drop i := by
    rw [List.drop_append]
    rw [List.drop_of_length_le (by omega), hl]
    simp
  rw [e1, e2, List.take_append_drop]
theorem set_back (T : List TRow) (i : Nat) (hi : i < T.length) (b : K) : movU (movU T i b) i (key T i) = T := by
  unfold movU
  rw [List.set_set]
  have h1 : dd (T.set i ⟨b.obj, b.slot, dd T i, (T.getD i dr).mark⟩) i = dd T i := by
    have := movU_get (T := T) (b := b) hi i
    rw [if_pos rfl] at this
    show ((movU T i b).getD i dr).depth = _
    rw [this]
  have h2 : ((T.set i ⟨b.obj, b.slot, dd T i, (T.getD i dr).mark⟩).getD i dr).mark = (T.getD i dr).mark := by
    have := movU_get (T := T) (b := b) hi i
    rw [if_pos rfl] at this
    show ((movU T i b).getD i dr).mark = _
    rw [this]
  rw [h1, h2]
  have h3 : (⟨(key T i).obj, (key T i).slot, dd T i, (T.getD i dr).mark⟩ : TRow) = T[i] := by
    unfold key dd kk
    rw [getD_lt T hi]
  rw [h3]
  exact List.set_getElem_self hi
theorem app_same {L : List Int} (hL : L.length = 4096) {W : List Wt} (hW : ∀ w ∈ W, w.ok) (p : Nat) (hp : ∀ k f, cd k ≠ 0 → 2 ≤ f → f ≤ 5 → (sl k f).toNat ≠ p) : (app L (W.map Wt.pr)).getD p 0 = L.getD p 0 := app_other W L p hL hW hp
section back
variable {T : List TRow} (hd : Dst T) {i : Nat} (hi : i < T.length) {b : K} (hb : cd b ≠ 0) (hn : ∀ j, j < T.length → key T j ≠ b)
include hd hi hb hn in
theorem ins_back (hup : up (dd T i) = dd T i + 1) : app (app (cellsOf T) (insW (cellsOf T) (key T i) b)) (remW (app (cellsOf T) (insW (cellsOf T) (key T i) b)) b) = cellsOf T := by
  have hu := insU_dst (d := dd T i + 1) hd hi hb hn
  have hl := insU_len (b := b) (d := dd T i + 1) hi
  have hL : (app (cellsOf T) (insW (cellsOf T) (key T i) b)).length = 4096 := by rw [app_len, cells_len]
  have h1 := ins_eqv (d := dd T i + 1) hd hi hb hn hup
  have hk : key (insU T i b (dd T i + 1)) (i + 1) = b := by rw [insU_key hi, if_neg (by omega), if_pos rfl]
  have h2 := rem_eqv hu (i := i + 1) (by omega) hL h1
  rw [hk, put_out T (i + 1) (by omega)] at h2
  refine cells_ext (by rw [app_len, hL]) (cells_len T) h2 fun p hp => ?_
  rw [rem_is, app_same hL (rem_ok _ hb) p hp, ins_is, app_same (cells_len T) (ins_ok _ (hd.cod i hi) hb) p hp]
include hd hi hb hn in
theorem mov_back : app (app (cellsOf T) (movW (cellsOf T) (key T i) b)) (movW (app (cellsOf T) (movW (cellsOf T) (key T i) b)) b (key T i)) = cellsOf T := by
  have hu := movU_dst hd hi hb hn
  have hl : (movU T i b).length = T.length := movU_len
  have hL : (app (cellsOf T) (movW (cellsOf T) (key T i) b)).length = 4096 := by rw [app_len, cells_len]
  have h1 := mov_eqv hd hi hb hn (cells_len T) (fun _ _ _ _ _ => rfl)
  have hk : key (movU T i b) i = b := by rw [movU_key hi, if_pos rfl]
  have hai : key T i ≠ b := hn i hi
  have hn2 : ∀ j, j < (movU T i b).length → key (movU T i b) j ≠ key T i := by
    intro j hj
    rw [hl] at hj
    rw [movU_key hi]
    split
    · exact fun e => hai e.symm
    · intro e; have := hd.inj j i hj hi e; omega
  have h2 := mov_eqv hu (i := i) (by omega) (hd.cod i hi) hn2 hL h1
  rw [hk, set_back T i hi b] at h2
  refine cells_ext (by rw [app_len, hL]) (cells_len T) h2 fun p hp => ?_
  rw [mov_is (app (cellsOf T) (movW (cellsOf T) (key T i) b)) b (key T i), app_same hL (mov_ok _ hb (hd.cod i hi)) p hp, mov_is, app_same (cells_len T) (mov_ok _ (hd.cod i hi) hb) p hp]
end back
theorem back_law (l : List Trees.Act) (a b : K) : law24_LinksBack.R (l.map encB) a.obj a.slot b.obj b.slot = some (true, ()) := by
  refine law24_LinksBack.start _ _ _ _ _ _ ?_
  rw [List.length_map, live_ok]
  simp only [optAll_so]
  by_cases h1 : (l.length : Int) > 60
  · rw [decide_eq_true h1]; exact True.intro
  rw [decide_eq_false h1, grown_ok l (by omega)]
  simp only [cF, optAll_so]
  obtain ⟨hg, hc, hl⟩ := grow_fine l
  generalize grow l = T at hg hc hl ⊢
  have hT : T.length < 1000000 := by omega
  have hd := dst_of hg hc
  rw [cells_ok T hT, find_ok T a hT, find_ok T b hT, rcode_ok, rcode_ok]
  simp only [optAll_so]
  rcases fnd_key T a with ⟨e1, _⟩ | ⟨i, hi, e1, rfl, _⟩
  · rw [e1]
    exact True.intro
  rw [e1, ftup_nat]
  simp only [Bool.not_true, cF]
  by_cases hjb : ∃ j : Nat, fnd T b = j
  · obtain ⟨j, e2⟩ := hjb
    rw [e2, ftup_nat]
    exact True.intro
  rcases fnd_key T b with ⟨e2, hn⟩ | ⟨j, _, e2, _⟩
  · rw [e2, ftup_neg]
    simp only [cF]
    by_cases hb : cd b = 0
    · rw [show (cd b == 0) = true by simp [hb]]; exact True.intro
    have ha := hd.cod i hi
    rw [show (cd b == 0) = false from beq_false_of_ne hb, show (cd (key T i) == 0) = false from beq_false_of_ne ha]
    simp only [cF]
    have hab : key T i ≠ b := hn i hi
    have hds := dd_small ((tOK_iff T).2 hg) hi
    have hup : up (dd T i) = dd T i + 1 := by unfold up; rw [if_pos (by omega), w64 (by omega) (by omega)]
    have hL1 : (app (cellsOf T) (insW (cellsOf T) (key T i) b)).length = 4096 := by rw [app_len, cells_len]
    have hL2 : (app (cellsOf T) (movW (cellsOf T) (key T i) b)).length = 4096 := by rw [app_len, cells_len]
    rw [Links.insert_ok _ _ _ (cells_len T) ha hb hab, move_w _ _ _ (cells_len T) ha hb hab]
    simp only [optAll_so]
    rw [apply_ok _ _ (by rw [cells_len]; omega) (wr_len _ _ _).1, apply_ok _ _ (by rw [cells_len]; omega) (wr_len _ _ _).2.2]
    simp only [optAll_so]
    rw [remove_w _ _ hL1 hb]
    simp only [optAll_so]
    rw [apply_ok _ _ (by omega) (wr_len _ _ ⟨0, 0⟩).2.1, ins_back hd hi hb hn hup]
    simp only [optAll_so]
    rw [move_w _ _ _ hL2 hb ha (Ne.symm hab)]
    simp only [optAll_so]
    rw [apply_ok _ _ (by omega) (wr_len _ _ _).2.2, mov_back hd hi hb hn]
    simp only [optAll_so, List.length_map]
    rw [show (((app (cellsOf T) (insW (cellsOf T) (key T i) b)).length : Int) == ((cellsOf T).length : Int)) = true by rw [hL1, cells_len]; rfl]
    simp only [cT]
    rw [same_refl _ (by rw [cells_len]; omega)]
    exact True.intro
  · exact absurd ⟨j, e2⟩ hjb
end Links
namespace Links
open Kit Ghost Trees
theorem k_typed {xs : List DV} (h : okR [.int .i64, .int .i64] xs) : ∃ p, xs = encK p := by
  obtain ⟨c0, r, rfl, h0, h⟩ := okR_cons h
  obtain ⟨c1, r, rfl, h1, h⟩ := okR_cons h
  obtain rfl := okR_nil h
  obtain ⟨v0, rfl, _⟩ := okC_int h0
  obtain ⟨v1, rfl, _⟩ := okC_int h1
  exact ⟨⟨v0, v1⟩, rfl⟩
theorem a_k {a : AV} (h : ArgOK cfg.P 24 a) : ∃ p : K, a = .agg ((encK p).map .d) := by
  obtain ⟨xs, rfl, hxs⟩ := arg_struct h (by kernel_rfl : tkT cfg.P 9 24 = some [.int .i64, .int .i64]) (by kernel_rfl)
  obtain ⟨p, rfl⟩ := k_typed hxs
  exact ⟨p, rfl⟩
theorem act_typed {xs : List DV} (h : okR [.int .i64, .int .i64, .int .i64, .int .i64, .int .i64] xs) : ∃ p, xs = encB p := by
  obtain ⟨c0, r, rfl, h0, h⟩ := okR_cons h
  obtain ⟨c1, r, rfl, h1, h⟩ := okR_cons h
  obtain ⟨c2, r, rfl, h2, h⟩ := okR_cons h
  obtain ⟨c3, r, rfl, h3, h⟩ := okR_cons h
  obtain ⟨c4, r, rfl, h4, h⟩ := okR_cons h
  obtain rfl := okR_nil h
  obtain ⟨v0, rfl, _⟩ := okC_int h0
  obtain ⟨v1, rfl, _⟩ := okC_int h1
  obtain ⟨v2, rfl, _⟩ := okC_int h2
  obtain ⟨v3, rfl, _⟩ := okC_int h3
  obtain ⟨v4, rfl, _⟩ := okC_int h4
  exact ⟨⟨v0, ⟨v1, v2⟩, ⟨v3, v4⟩, true⟩, rfl⟩
theorem acts_typed {rows : List (List DV)} (h : ∀ r ∈ rows, okR [.int .i64, .int .i64, .int .i64, .int .i64, .int .i64] r) : ∃ l : List Trees.Act, rows = l.map encB := by
  obtain ⟨l, h1, _⟩ := rows_typed encB (fun _ => True) fun r hr => by
    obtain ⟨p, hp⟩ := act_typed (h r hr)
    exact ⟨p, hp, trivial⟩
  exact ⟨l, h1⟩
theorem a_acts {a : AV} (h : ArgOK cfg.P 22 a) : ∃ l : List Trees.Act, a = .d (.lst 5 (l.map encB)) := by
  obtain ⟨x, rfl, hx⟩ := arg_one h (by kernel_rfl : tkT cfg.P 9 22 = some [.lst [.int .i64, .int .i64, .int .i64, .int .i64, .int .i64]]) (by kernel_rfl)
  obtain ⟨rows, rfl, hrows⟩ := okC_lst hx
  obtain ⟨l, rfl⟩ := acts_typed hrows
  exact ⟨l, rfl⟩
theorem tree_val (vs : List AV) (h : ArgsOK cfg.P [22, 24, 24] vs) : valω cfg 3 vs = some (.d (.v (.bool true))) := by
  obtain ⟨x0, r, rfl, h0, h⟩ := argsOK_cons h
  obtain ⟨x1, r, rfl, h1, h⟩ := argsOK_cons h
  obtain ⟨x2, r, rfl, h2, h⟩ := argsOK_cons h
  obtain rfl := argsOK_nil h
  obtain ⟨l, rfl⟩ := a_acts h0
  obtain ⟨a, rfl⟩ := a_k h1
  obtain ⟨b, rfl⟩ := a_k h2
  exact val_of_ret (tree_law live_ok l a b)
theorem back_val (vs : List AV) (h : ArgsOK cfg.P [22, 24, 24] vs) : valω cfg 4 vs = some (.d (.v (.bool true))) := by
  obtain ⟨x0, r, rfl, h0, h⟩ := argsOK_cons h
  obtain ⟨x1, r, rfl, h1, h⟩ := argsOK_cons h
  obtain ⟨x2, r, rfl, h2, h⟩ := argsOK_cons h
  obtain rfl := argsOK_nil h
  obtain ⟨l, rfl⟩ := a_acts h0
  obtain ⟨a, rfl⟩ := a_k h1
  obtain ⟨b, rfl⟩ := a_k h2
  exact val_of_ret (back_law l a b)
end Links
end Go.AI
