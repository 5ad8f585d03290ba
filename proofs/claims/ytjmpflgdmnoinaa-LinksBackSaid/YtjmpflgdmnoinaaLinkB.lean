/-
  Own work. links: a tree's cells (XLinkN, XLinkM, XLink3, XLink4).
-/
import Derived.Test.YtjmpflgdmnoinaaLinkA
import Derived.Test.YtjmpflgdmnoinaaToldE
namespace Go.AI
open Go
set_option linter.unusedVariables false
set_option linter.unusedSimpArgs false
set_option maxRecDepth 100000
namespace Links
def iv (n : Int) : DV := .v (.int .i64 n)
def thv (a b c : Int) : List DV := [iv a, iv 0, iv b, iv 0, iv c, iv 0, iv (-1), iv 0]
def things : List (List DV) := thv 2 3 0 :: thv 1 1 64 :: thv 4 1 0 :: List.replicate 53 (thv 0 0 0)
def frees : List (List DV) := [[.lst 1 ((List.range 53).map fun (i : Nat) => [iv ((i : Int) + 3)])]]
def capv (a b c : Int) : List DV := [iv a, iv b, iv 0, iv c, iv 0]
def nodes : List (List DV) := [.lst 5 (capv 1 15 1 :: capv 4 15 2 :: List.replicate 6 (capv 0 0 0))] :: List.replicate 55 [.lst 5 []]
def tree0 : List (List DV) := [[iv 0, iv 0, iv 0, .v (.bool false)], [iv 0, iv 1, iv 0, .v (.bool false)]]
def ports : List (List DV) := List.replicate 56 [iv 0, iv 0, .lst 8 []]
def limbos : List (List DV) := [[.lst 1 []]]
def roots : List (List DV) := [[iv 0]]
def sweeps : List (List DV) := [[.v (.bool false), iv 0, iv 0, .v (.bool false)]]
theorem new_ok : ref17_New.R 1 56 64 1 = some ((things, (frees, (nodes, (tree0, (ports, (limbos, (roots, (sweeps, ())))))))), (0, ())) :=
  ret_closed (n := 20000) (v := .tup [.agg [.d (.lst 8 things), .d (.lst 1 frees), .d (.lst 1 nodes), .d (.lst 4 tree0), .d (.lst 3 ports), .d (.lst 1 limbos), .d (.lst 1 roots), .d (.lst 4 sweeps)], .d (.v (.int .i64 0))]) (by kernel_rfl) (by kernel_rfl)
end Links
namespace Links
open Kit
theorem bit_ex (x i : Int) (h : 0 ≤ i) : ∃ n, ref01_Bit.R x i = some (n, ()) := ⟨_, ref01_Bit.start _ _ _ (needs_iff.2 ⟨h, rfl⟩)⟩
theorem field_ex (lo w : Int) : ∃ q, ref01_Field.R lo w = some (q, ()) ∧ (q = true → 1 ≤ w ∧ w ≤ 64 ∧ 0 ≤ lo ∧ lo ≤ 63) := by
  by_cases h1 : w ≥ 1
  · by_cases h2 : w ≤ 64
    · by_cases h3 : lo ≥ 0
      · refine ⟨decide (lo ≤ IntKind.i64.wrap (64 - w)), ref01_Field.start _ _ _ (by rw [decide_eq_true h1, decide_eq_true h2, decide_eq_true h3]; exact rfl), fun hq => ?_⟩
        have := of_decide_eq_true hq
        rw [wrap_id (by omega) (by omega)] at this
        omega
      · exact ⟨false, ref01_Field.start _ _ _ (by rw [decide_eq_true h1, decide_eq_true h2, decide_eq_false h3]; exact rfl), fun h => by cases h⟩
    · exact ⟨false, ref01_Field.start _ _ _ (by rw [decide_eq_true h1, decide_eq_false h2]; exact rfl), fun h => by cases h⟩
  · exact ⟨false, ref01_Field.start _ _ _ (by rw [decide_eq_false h1]; exact rfl), fun h => by cases h⟩
theorem put11 (x lo w v : Int) (hlo : 0 ≤ lo ∧ lo ≤ 63) : ∀ (n i : Nat) (acc : Int), i + n = 64 → ∃ r, ref01_Put.H11 x lo w v acc i r := by
  intro n
  induction n with
  | zero =>
    intro i acc hi
    exact ⟨(acc, (0, ())), ref01_Put.H11_step _ _ _ _ _ _ _ (by rw [decide_eq_false (by omega)]; exact rfl)⟩
  | succ n ih =>
    intro i acc hi
    obtain ⟨b, hb⟩ := bit_ex x i (by omega)
    by_cases h1 : (i : Int) ≥ lo
    · by_cases h2 : (i : Int) < IntKind.i64.wrap (lo + w)
      · obtain ⟨d, hd⟩ := bit_ex v (IntKind.i64.wrap ((i : Int) - lo)) (by rw [wrap_id (by omega) (by omega)]; omega)
        obtain ⟨r, hr⟩ := ih (i + 1) (IntKind.u64.wrap (acc + (IntKind.u64.wrap (d * ((2 : Int) ^ (min (Int.toNat i) 64)))))) (by omega)
        refine ⟨r, ref01_Put.H11_step _ _ _ _ _ _ _ ?_⟩
        rw [decide_eq_true (show (i : Int) < 64 by omega), hb, decide_eq_true h1, decide_eq_true h2, hd, wrap_succ (show i < 4611686018427387904 by omega)]
        simp only [cT, cF, optAll_so]
        exact needs_iff.2 ⟨by omega, hr⟩
      · obtain ⟨r, hr⟩ := ih (i + 1) (IntKind.u64.wrap (acc + (IntKind.u64.wrap (b * ((2 : Int) ^ (min (Int.toNat i) 64)))))) (by omega)
        refine ⟨r, ref01_Put.H11_step _ _ _ _ _ _ _ ?_⟩
        rw [decide_eq_true (show (i : Int) < 64 by omega), hb, decide_eq_true h1, decide_eq_false h2, wrap_succ (show i < 4611686018427387904 by omega)]
        simp only [cT, cF, optAll_so]
        exact needs_iff.2 ⟨by omega, hr⟩
    · obtain ⟨r, hr⟩ := ih (i + 1) (IntKind.u64.wrap (acc + (IntKind.u64.wrap (b * ((2 : Int) ^ (min (Int.toNat i) 64)))))) (by omega)
      refine ⟨r, ref01_Put.H11_step _ _ _ _ _ _ _ ?_⟩
      rw [decide_eq_true (show (i : Int) < 64 by omega), hb, decide_eq_false h1, wrap_succ (show i < 4611686018427387904 by omega)]
      simp only [cT, cF, optAll_so]
      exact needs_iff.2 ⟨by omega, hr⟩
theorem put5 (x lo w v : Int) (hlo : 0 ≤ lo ∧ lo ≤ 63) : ∀ (n i : Nat), i + n = 64 → ∃ r, ref01_Put.H5 x lo w v i r := by
  intro n
  induction n with
  | zero =>
    intro i hi
    obtain ⟨r, hr⟩ := put11 x lo w v hlo 64 0 0 (by omega)
    exact ⟨r, ref01_Put.H5_step _ _ _ _ _ _ (by rw [decide_eq_false (by omega)]; exact hr)⟩
  | succ n ih =>
    intro i hi
    obtain ⟨b, hb⟩ := bit_ex v i (by omega)
    obtain ⟨r, hr⟩ := ih (i + 1) (by omega)
    by_cases h : (b == 1) = true
    · refine ⟨(0, (10, ())), ref01_Put.H5_step _ _ _ _ _ _ ?_⟩
      rw [decide_eq_true (show (i : Int) < 64 by omega), hb]
      simp only [cT, optAll_so, h]
    · refine ⟨r, ref01_Put.H5_step _ _ _ _ _ _ ?_⟩
      rw [decide_eq_true (show (i : Int) < 64 by omega), hb, wrap_succ (show i < 4611686018427387904 by omega)]
      simp only [cT, optAll_so, Bool.eq_false_iff.2 h, cF]
      exact hr
theorem put_ex (x lo w v : Int) : ∃ r, ref01_Put.R x lo w v = some r := by
  obtain ⟨q, hq, hf⟩ := field_ex lo w
  cases q with
  | false => exact ⟨(0, (2, ())), ref01_Put.start _ _ _ _ _ (by rw [hq]; exact rfl)⟩
  | true =>
    obtain ⟨h1, h2, h3, h4⟩ := hf rfl
    obtain ⟨m, rfl⟩ := Int.eq_ofNat_of_zero_le (show 0 ≤ w by omega)
    obtain ⟨r, hr⟩ := put5 x lo m v ⟨h3, h4⟩ (64 - m) m (by omega)
    exact ⟨r, ref01_Put.start _ _ _ _ _ (by rw [hq]; exact hr)⟩
theorem word9 (A B D : List Int) (hA : A.length = 5) (hB : B.length = 5) (hD : D.length = 5) : ∀ (n i : Nat) (acc : Int), i + n = 5 → ∃ r, ref03_Word.H9 acc 5 5 5 i (A.map ei) (B.map ei) (D.map ei) r := by
  intro n
  induction n with
  | zero =>
    intro i acc hi
    exact ⟨(acc, (0, ())), ref03_Word.H9_step _ _ _ _ _ _ _ _ _ (by rw [decide_eq_false (by omega)]; exact rfl)⟩
  | succ n ih =>
    intro i acc hi
    obtain ⟨p, hp⟩ := put_ex acc (A[i]'(by omega)) (B[i]'(by omega)) (IntKind.u64.wrap (D[i]'(by omega)))
    obtain ⟨r, hr⟩ := ih (i + 1) p.1 (by omega)
    refine ⟨r, ref03_Word.H9_step _ _ _ _ _ _ _ _ _ ?_⟩
    have e : ∀ x : Int, dInt .i64 (ei x) 0 = some x := fun _ => rfl
    rw [decide_eq_true (show (i : Int) < 5 by omega)]
    simp only [cT, needs_iff, Nat.zero_add, Int.toNat_natCast, map_get ei A i (by omega), map_get ei B i (by omega), map_get ei D i (by omega), optAll_so, e, hp, wrap_succ (show i < 4611686018427387904 by omega)]
    exact ⟨by omega, by omega, by omega, hr⟩
theorem word_of (a b c d e : Int) (h : ref03_Is.R a b c d e = some (true, ())) : ∃ w, ref03_Word.R a b c d e = some w := by
  obtain ⟨r, hr⟩ := word9 [0, 4, 8, 24, 34] [4, 4, 16, 10, 12] [a, b, c, d, e] rfl rfl rfl 5 0 0 (by omega)
  exact ⟨r, ref03_Word.start _ _ _ _ _ _ (by rw [h]; exact hr)⟩
theorem word0_ex : ∃ w, ref03_Word.R 0 0 0 0 0 = some w := word_of _ _ _ _ _ (ret_closed (n := 400) (v := .d (.v (.bool true))) (by kernel_rfl) (by kernel_rfl))
theorem word1_ex : ∃ w, ref03_Word.R 1 15 0 1 0 = some w := word_of _ _ _ _ _ (ret_closed (n := 400) (v := .d (.v (.bool true))) (by kernel_rfl) (by kernel_rfl))
theorem word2_ex : ∃ w, ref03_Word.R 4 15 0 2 0 = some w := word_of _ _ _ _ _ (ret_closed (n := 400) (v := .d (.v (.bool true))) (by kernel_rfl) (by kernel_rfl))
end Links
namespace Links
open Kit Ghost Trees

theorem live_ok_ (a b c d e f g h : Int) : ∃ x, ref09_Live.R a b c d e f g h = some (x, ()) := by
  by_cases h1 : a ≥ 1
  · exact ⟨decide (a ≤ 5), ref09_Live.start _ _ _ _ _ _ _ _ _ (by rw [decide_eq_true h1]; exact rfl)⟩
  · exact ⟨false, ref09_Live.start _ _ _ _ _ _ _ _ _ (by rw [decide_eq_false h1]; exact rfl)⟩
theorem object_ok (o f : Int) (ho : 0 ≤ o ∧ o < 56) (hf : 0 ≤ f ∧ f ≤ 15) : ref23_Object.R o f = some (64 * o + f, ()) := by
  refine ref23_Object.start _ _ _ ?_
  rw [decide_eq_false (show ¬ o < 0 by omega), decide_eq_false (show ¬ o ≥ 56 by omega), decide_eq_false (show ¬ f < 0 by omega), decide_eq_false (show ¬ f > 15 by omega)]
  simp only [cF]
  rw [w64 (n := 64 * o) (by omega) (by omega), w64 (by omega) (by omega)]
theorem things_len : things.length = 56 := by decide
theorem ports_len : ports.length = 56 := by decide
theorem nodes_len : nodes.length = 56 := by decide
theorem thing_get (i : Nat) (h : i < 56) : ∃ a b c, things[i]? = some (thv a b c) := by
  unfold things
  match i, h with
  | 0, _ => exact ⟨_, _, _, rfl⟩
  | 1, _ => exact ⟨_, _, _, rfl⟩
  | 2, _ => exact ⟨_, _, _, rfl⟩
  | i + 3, h =>
    refine ⟨0, 0, 0, ?_⟩
    simp only [List.getElem?_cons_succ]
    rw [List.getElem?_replicate, if_pos (by omega)]
theorem port_get (i : Nat) (h : i < 56) : ports[i]? = some [iv 0, iv 0, .lst 8 []] := by
  unfold ports
  rw [List.getElem?_replicate, if_pos h]
/-- Cells of slots are empty. -/
structure Zs (L : List Int) : Prop where
  len : L.length = 4096
  z : ∀ i : Nat, i < 3584 → 16 ≤ i % 64 → L.getD i 0 = 0
theorem Zs.set {L : List Int} (h : Zs L) (o f : Int) (ho : 0 ≤ o ∧ o < 56) (hf : 0 ≤ f ∧ f ≤ 15) (v : Int) : Zs (L.set (64 * o + f).toNat v) where
  len := by rw [List.length_set]; exact h.len
  z := fun i hi hm => by
    rw [List.getD_eq_getElem?_getD, List.getElem?_set_ne (by omega), ← List.getD_eq_getElem?_getD]
    exact h.z i hi hm
theorem set_row (L : List Int) (n : Nat) (v : Int) : (L.map ei).set n [DV.v (.int .i64 v)] = (L.set n v).map ei := by rw [List.map_set]; rfl
abbrev E6 (o : Int) (t : List (List DV)) (L : List Int) (b9 : List (List DV)) (c : List (List DV) × (Int × Unit)) : Prop := ref23_Encode.H6_1048576 4096 o things frees nodes t ports limbos roots sweeps (L.map ei) b9 c
abbrev E17 (o i : Int) (t : List (List DV)) (L : List Int) (a b d : Int) (V : List Int) (c : List (List DV) × (Int × Unit)) : Prop := ref23_Encode.H17 4096 o 10 i things frees nodes t ports limbos roots sweeps (L.map ei) a 0 b 0 d 0 (-1) 0 (V.map ei) c
theorem e17 (o : Nat) (ho : o < 56) (a b d : Int) (V : List Int) (hV : V.length = 10) : ∀ (n i : Nat) (L : List Int), i + n = 10 → Zs L →
    ∃ L', Zs L' ∧ ∀ t c, E6 ((o + 1 : Nat) : Int) t L' (V.map ei) c → E17 o i t L a b d V c := by
  intro n
  induction n with
  | zero =>
    intro i L hi hz
    have hz1 := hz.set o 8 (by omega) (by omega) 0
    have hz2 := hz1.set o 10 (by omega) (by omega) 0
    have hz3 := hz2.set o 11 (by omega) (by omega) 0
    refine ⟨_, hz3, fun t c h => ?_⟩
    refine ref23_Encode.H17_step _ _ _ _ _ _ _ _ _ _ _ _ _ _ _ _ _ _ _ _ _ _ _ ?_
    rw [decide_eq_false (by omega)]
    simp only [cF, object_ok o 8 (by omega) (by omega), object_ok o 10 (by omega) (by omega), object_ok o 11 (by omega) (by omega), optAll_so, needs_iff, Nat.zero_add, ports_len]
    have hl := hz.len
    refine ⟨by omega, ?_⟩
    rw [map_get _ _ _ (show (64 * (o : Int) + 8).toNat < L.length by omega)]
    simp only [optAll_so]
    refine ⟨Nat.le_refl _, ?_⟩
    rw [decide_eq_true (show (o : Int) < ((56 : Nat) : Int) by omega)]
    simp only [cT, needs_nat, Int.toNat_natCast, port_get o ho, optAll_so, putD_ei]
    rw [show dInt IntKind.i64 [iv 0, iv 0, DV.lst 8 []] 0 = some 0 from rfl, show dInt IntKind.i64 [iv 0, iv 0, DV.lst 8 []] 1 = some 0 from rfl, show dLst 8 [iv 0, iv 0, DV.lst 8 []] 2 = some [] from rfl]
    simp only [optAll_so, needs_iff]
    refine ⟨by omega, by omega, ?_⟩
    rw [← List.map_set, map_get _ _ _ (show (64 * (o : Int) + 10).toNat < (L.set (64 * (o : Int) + 8).toNat 0).length by rw [List.length_set]; omega)]
    simp only [optAll_so, putD_ei]
    refine ⟨Nat.le_refl _, by omega, ?_⟩
    rw [← List.map_set, map_get _ _ _ (show (64 * (o : Int) + 11).toNat < ((L.set (64 * (o : Int) + 8).toNat 0).set (64 * (o : Int) + 10).toNat 0).length by rw [List.length_set, List.length_set]; omega)]
    simp only [optAll_so, putD_ei]
    refine ⟨Nat.le_refl _, ?_⟩
    rw [show decide ((0 : Int) < ((([] : List (List DV)).length : Nat) : Int)) = false from rfl]
    simp only [cF]
    rw [wrap_succ (show o < 4611686018427387904 by omega), ← List.map_set]
    exact h
  | succ n ih =>
    intro i L hi hz
    have hi10 : i < V.length := by omega
    obtain ⟨L', h1, h2⟩ := ih (i + 1) _ (by omega) (hz.set o i (by omega) (by omega) V[i])
    refine ⟨L', h1, fun t c h => ?_⟩
    refine ref23_Encode.H17_step _ _ _ _ _ _ _ _ _ _ _ _ _ _ _ _ _ _ _ _ _ _ _ ?_
    rw [decide_eq_true (show (i : Int) < ((10 : Nat) : Int) by omega)]
    have hl := hz.len
    simp only [cT, object_ok o i (by omega) (by omega), optAll_so, needs_iff, Nat.zero_add, Int.toNat_natCast, map_get _ _ _ hi10, ei0]
    refine ⟨by omega, by omega, ?_⟩
    rw [map_get _ _ _ (show (64 * (o : Int) + i).toNat < L.length by omega)]
    simp only [optAll_so, putD_ei]
    refine ⟨Nat.le_refl _, ?_⟩
    rw [wrap_succ (show i < 4611686018427387904 by omega), ← List.map_set]
    exact h2 t c h
theorem th0 (a b c : Int) : dInt .i64 (thv a b c) 0 = some a := rfl
theorem th1 (a b c : Int) : dInt .i64 (thv a b c) 1 = some 0 := rfl
theorem th2 (a b c : Int) : dInt .i64 (thv a b c) 2 = some b := rfl
theorem th3 (a b c : Int) : dInt .i64 (thv a b c) 3 = some 0 := rfl
theorem th4 (a b c : Int) : dInt .i64 (thv a b c) 4 = some c := rfl
theorem th5 (a b c : Int) : dInt .i64 (thv a b c) 5 = some 0 := rfl
theorem th6 (a b c : Int) : dInt .i64 (thv a b c) 6 = some (-1) := rfl
theorem th7 (a b c : Int) : dInt .i64 (thv a b c) 7 = some 0 := rfl
/-- An object's fields: from the counting on. -/
theorem e11 (o : Nat) (ho : o < 56) (a b d : Int) (b9 : List (List DV)) : ∀ (n j : Nat) (kids : Int) (L : List Int), j + n = 56 → Zs L →
    ∃ (L' V : List Int), Zs L' ∧ V.length = 10 ∧ ∀ t c, E6 ((o + 1 : Nat) : Int) t L' (V.map ei) c → ref23_Encode.H11_2097152 4096 o kids j things frees nodes t ports limbos roots sweeps (L.map ei) a 0 b 0 d 0 (-1) 0 b9 c := by
  intro n
  induction n with
  | zero =>
    intro j kids L hj hz
    obtain ⟨L', h1, h2⟩ := e17 o ho a b d [0, a, 0, b, 0, d, 0, 0, 0, kids] rfl 10 0 L (by omega) hz
    refine ⟨L', [0, a, 0, b, 0, d, 0, 0, 0, kids], h1, rfl, fun t c h => ?_⟩
    refine ref23_Encode.H11_2097152_step _ _ _ _ _ _ _ _ _ _ _ _ _ _ _ _ _ _ _ _ _ _ _ ?_
    rw [decide_eq_false (by rw [things_len]; omega)]
    exact h2 t c h
  | succ n ih =>
    intro j kids L hj hz
    obtain ⟨x, y, z, hg⟩ := thing_get j (by omega)
    obtain ⟨lv, hlv⟩ := live_ok_ x 0 y 0 z 0 (-1) 0
    obtain ⟨L', V, h1, h1', h2⟩ := ih (j + 1) kids L (by omega) hz
    refine ⟨L', V, h1, h1', fun t c h => ?_⟩
    refine ref23_Encode.H11_2097152_step _ _ _ _ _ _ _ _ _ _ _ _ _ _ _ _ _ _ _ _ _ _ _ ?_
    rw [decide_eq_true (by rw [things_len]; omega)]
    simp only [cT, needs_nat, Int.toNat_natCast, hg, optAll_so, th0, th1, th2, th3, th4, th5, th6, th7, hlv]
    rw [show ((-1 : Int) == (o : Int)) = false from beq_false_of_ne (by omega), wrap_succ (show j < 4611686018427387904 by omega)]
    cases lv with
    | true => exact h2 t c h
    | false => exact h2 t c h
/-- All objects. -/
theorem e6 : ∀ (n o : Nat) (L : List Int) (b9 : List (List DV)), o + n = 56 → Zs L →
    ∃ L' b, Zs L' ∧ ∀ t c, ref23_Encode.H24_2097152 4096 0 things frees nodes t ports limbos roots sweeps (L'.map ei) b c → E6 o t L b9 c := by
  intro n
  induction n with
  | zero =>
    intro o L b9 ho hz
    refine ⟨L, b9, hz, fun t c h => ?_⟩
    refine ref23_Encode.H6_1048576_step _ _ _ _ _ _ _ _ _ _ _ _ _ ?_
    rw [decide_eq_false (by rw [things_len]; omega)]
    exact h
  | succ n ih =>
    intro o L b9 ho hz
    obtain ⟨x, y, z, hg⟩ := thing_get o (by omega)
    obtain ⟨L1, V, g1, g2, g3⟩ := e11 o (by omega) x y z b9 56 0 0 L (by omega) hz
    obtain ⟨L', b, h1, h2⟩ := ih (o + 1) L1 (V.map ei) (by omega) g1
    refine ⟨L', b, h1, fun t c h => ?_⟩
    refine ref23_Encode.H6_1048576_step _ _ _ _ _ _ _ _ _ _ _ _ _ ?_
    rw [decide_eq_true (by rw [things_len]; omega)]
    simp only [cT, needs_nat, Int.toNat_natCast, hg, optAll_so, th0, th1, th2, th3, th4, th5, th6, th7]
    exact g3 t c (h2 t c h)
/-- .. the first one. -/
theorem e11' (a b d : Int) : ∀ (n j : Nat) (kids : Int) (L : List Int), j + n = 56 → Zs L →
    ∃ (L' V : List Int), Zs L' ∧ V.length = 10 ∧ ∀ t c, E6 1 t L' (V.map ei) c → ref23_Encode.H11 4096 0 kids j things frees nodes t ports limbos roots sweeps (L.map ei) a 0 b 0 d 0 (-1) 0 c := by
  intro n
  induction n with
  | zero =>
    intro j kids L hj hz
    obtain ⟨L', h1, h2⟩ := e17 0 (by omega) a b d [0, a, 0, b, 0, d, 0, 0, 0, kids] rfl 10 0 L (by omega) hz
    refine ⟨L', [0, a, 0, b, 0, d, 0, 0, 0, kids], h1, rfl, fun t c h => ?_⟩
    refine ref23_Encode.H11_step _ _ _ _ _ _ _ _ _ _ _ _ _ _ _ _ _ _ _ _ _ _ ?_
    rw [decide_eq_false (by rw [things_len]; omega)]
    exact h2 t c h
  | succ n ih =>
    intro j kids L hj hz
    obtain ⟨x, y, z, hg⟩ := thing_get j (by omega)
    obtain ⟨lv, hlv⟩ := live_ok_ x 0 y 0 z 0 (-1) 0
    obtain ⟨L', V, h1, h1', h2⟩ := ih (j + 1) kids L (by omega) hz
    refine ⟨L', V, h1, h1', fun t c h => ?_⟩
    refine ref23_Encode.H11_step _ _ _ _ _ _ _ _ _ _ _ _ _ _ _ _ _ _ _ _ _ _ ?_
    rw [decide_eq_true (by rw [things_len]; omega)]
    simp only [cT, needs_nat, Int.toNat_natCast, hg, optAll_so, th0, th1, th2, th3, th4, th5, th6, th7, hlv]
    rw [show ((-1 : Int) == (0 : Int)) = false from rfl, wrap_succ (show j < 4611686018427387904 by omega)]
    cases lv with
    | true => exact h2 t c h
    | false => exact h2 t c h
theorem enc_start : ∃ L' b, Zs L' ∧ ∀ t c, ref23_Encode.H24_2097152 4096 0 things frees nodes t ports limbos roots sweeps (L'.map ei) b c → ref23_Encode.R things frees nodes t ports limbos roots sweeps = some c := by
  have hz0 : Zs (List.replicate 4096 0) := ⟨List.length_replicate, fun i hi hm => by rw [List.getD_eq_getElem?_getD, List.getElem?_replicate, if_pos (by omega)]; rfl⟩
  obtain ⟨x, y, z, hg⟩ := thing_get 0 (by omega)
  obtain ⟨L1, V, g1, g2, g3⟩ := e11' x y z 56 0 0 _ (by omega) hz0
  obtain ⟨L', b, h1, h2⟩ := e6 55 1 L1 (V.map ei) (by omega) g1
  refine ⟨L', b, h1, fun t c h => ?_⟩
  refine ref23_Encode.start _ _ _ _ _ _ _ _ _ ?_
  have hf : ref23_Fits.R things frees nodes t ports limbos roots sweeps = some (true, ()) := ref23_Fits.start _ _ _ _ _ _ _ _ _ (by
    rw [things_len, show decide (((56 : Nat) : Int) ≤ 56) = true from rfl]
    exact rfl)
  rw [hf]
  simp only [optAll_so, Bool.not_true, cF]
  refine ref23_Encode.H6_step _ _ _ _ _ _ _ _ _ _ _ _ ?_
  rw [decide_eq_true (by rw [things_len]; decide)]
  simp only [cT, needs_iff, show Int.toNat 0 = 0 from rfl, hg, optAll_so, th0, th1, th2, th3, th4, th5, th6, th7]
  refine ⟨Int.le_refl _, ?_⟩
  have := g3 t c (h2 t c h)
  have e : (List.replicate 4096 (0 : Int)).map ei = List.replicate 4096 [DV.v (Value.int IntKind.i64 0)] := by rw [List.map_replicate]; rfl
  rw [e] at this
  exact this
end Links
namespace Links
open Kit Ghost Trees

theorem get_zero (k : K) (h : k.obj < 0 ∨ 56 ≤ k.obj) : ref12_Get.R nodes k.obj k.slot = some ((0, (0, (0, (0, (0, ()))))), (false, ())) := by
  refine ref12_Get.start _ _ _ _ ?_
  rw [nodes_len]
  rcases h with h | h
  · rw [decide_eq_true h]; exact rfl
  · rw [decide_eq_false (show ¬ k.obj < 0 by omega), decide_eq_true (show k.obj ≥ ((56 : Nat) : Int) by omega)]; exact rfl
theorem nodes_at (i : Nat) (h : i + 1 < 56) : nodes[i + 1]? = some [.lst 5 []] := by
  unfold nodes
  simp only [List.getElem?_cons_succ]
  rw [List.getElem?_replicate, if_pos (by omega)]
theorem getw (k : K) : ∃ (w : Int × (Int × Unit)) (g : (Int × (Int × (Int × (Int × (Int × Unit))))) × (Bool × Unit)), ref12_Get.R nodes k.obj k.slot = some g ∧ ref03_Word.R ((g).1).1 (((g).1).2).1 ((((g).1).2).2).1 (((((g).1).2).2).2).1 ((((((g).1).2).2).2).2).1 = some w := by
  obtain ⟨w0, word0⟩ := word0_ex
  obtain ⟨w1, word1⟩ := word1_ex
  obtain ⟨w2, word2⟩ := word2_ex
  by_cases h : k.obj < 0 ∨ 56 ≤ k.obj
  · exact ⟨_, _, get_zero k h, word0⟩
  obtain ⟨o, s⟩ := k
  simp only at h ⊢
  obtain ⟨n, rfl⟩ := Int.eq_ofNat_of_zero_le (show 0 ≤ o by omega)
  have hn : n < 56 := by omega
  cases n with
  | succ n =>
    refine ⟨_, _, ref12_Get.start _ _ _ ((0, (0, (0, (0, (0, ()))))), (false, ())) ?_, word0⟩
    rw [nodes_len, decide_eq_false (show ¬ ((n + 1 : Nat) : Int) < 0 by omega), decide_eq_false (show ¬ ((n + 1 : Nat) : Int) ≥ ((56 : Nat) : Int) by omega)]
    simp only [cF, needs_nat, Int.toNat_natCast, nodes_at n hn, optAll_so]
    rw [show dLst 5 [DV.lst 5 []] 0 = some [] from rfl]
    exact True.intro
  | zero =>
    have h0 : nodes[0]? = some [.lst 5 (capv 1 15 1 :: capv 4 15 2 :: List.replicate 6 (capv 0 0 0))] := rfl
    have hl : ∀ c, (s < 0 ∨ 8 ≤ s → c = ((0, (0, (0, (0, (0, ()))))), (false, ()))) → (∀ m : Nat, s = m → m < 8 → optAll ((capv 1 15 1 :: capv 4 15 2 :: List.replicate 6 (capv 0 0 0))[m]?) fun r4 =>
        optAll ((dInt IntKind.i64 r4 0)) fun (z5 : Int) => optAll ((dInt IntKind.i64 r4 1)) fun (z6 : Int) => optAll ((dInt IntKind.i64 r4 2)) fun (z7 : Int) => optAll ((dInt IntKind.i64 r4 3)) fun (z8 : Int) => optAll ((dInt IntKind.i64 r4 4)) fun (z9 : Int) =>
        c = ((z5, (z6, (z7, (z8, (z9, ()))))), (true, ()))) → ref12_Get.R nodes ((0 : Nat) : Int) s = some c := by
      intro c h1 h2
      refine ref12_Get.start _ _ _ _ ?_
      rw [nodes_len, decide_eq_false (show ¬ ((0 : Nat) : Int) < 0 by omega), decide_eq_false (show ¬ ((0 : Nat) : Int) ≥ ((56 : Nat) : Int) by omega)]
      simp only [cF, needs_nat, Int.toNat_natCast, h0, optAll_so]
      rw [show dLst 5 [DV.lst 5 (capv 1 15 1 :: capv 4 15 2 :: List.replicate 6 (capv 0 0 0))] 0 = some (capv 1 15 1 :: capv 4 15 2 :: List.replicate 6 (capv 0 0 0)) from rfl]
      simp only [optAll_so]
      rw [show ((((capv 1 15 1 :: capv 4 15 2 :: List.replicate 6 (capv 0 0 0)).length : Nat) : Int) != 8) = false from rfl]
      simp only [cF]
      by_cases h3 : s < 0
      · rw [decide_eq_true h3]; exact h1 (.inl h3)
      · rw [decide_eq_false h3]
        by_cases h4 : s ≥ 8
        · rw [decide_eq_true h4]; exact h1 (.inr h4)
        · rw [decide_eq_false h4]
          simp only [cF, needs_iff]
          obtain ⟨m, rfl⟩ := Int.eq_ofNat_of_zero_le (show 0 ≤ s by omega)
          refine ⟨by omega, ?_⟩
          have := h2 m rfl (by omega)
          rw [Int.toNat_natCast]
          exact this
    by_cases hs : s < 0 ∨ 8 ≤ s
    · exact ⟨_, _, hl _ (fun _ => rfl) (fun m hm h8 => absurd hs (by omega)), word0⟩
    · obtain ⟨m, rfl⟩ := Int.eq_ofNat_of_zero_le (show 0 ≤ s by omega)
      have hm : m < 8 := by omega
      match m, hm with
      | 0, _ => exact ⟨_, _, hl ((1, (15, (0, (1, (0, ()))))), (true, ())) (fun h => absurd h (by omega)) (fun j hj h8 => by
          obtain rfl : j = 0 := by omega
          exact rfl), word1⟩
      | 1, _ => exact ⟨_, _, hl ((4, (15, (0, (2, (0, ()))))), (true, ())) (fun h => absurd h (by omega)) (fun j hj h8 => by
          obtain rfl : j = 1 := by omega
          exact rfl), word2⟩
      | m + 2, hm => exact ⟨_, _, hl ((0, (0, (0, (0, (0, ()))))), (true, ())) (fun h => absurd h (by omega)) (fun j hj h8 => by
          obtain rfl : j = m + 2 := by omega
          simp only [List.getElem?_cons_succ]
          rw [List.getElem?_replicate, if_pos (by omega)]
          exact rfl), word0⟩
noncomputable def wd (k : K) : Int := ((getw k).choose).1
theorem wd_ok (k : K) : ∃ g e, ref12_Get.R nodes k.obj k.slot = some g ∧ ref03_Word.R ((g).1).1 (((g).1).2).1 ((((g).1).2).2).1 (((((g).1).2).2).2).1 ((((((g).1).2).2).2).2).1 = some (wd k, e) := by
  obtain ⟨g, h1, h2⟩ := (getw k).choose_spec
  exact ⟨g, (getw k).choose.2, h1, h2⟩
theorem swept_ok (t : List (List DV)) (o s : Int) : ref23_swept.R things frees nodes t ports limbos roots sweeps o s = some (false, ()) := by
  refine ref23_swept.start _ _ _ _ _ _ _ _ _ _ _ ?_
  refine ref23_swept.H3_step _ _ _ _ _ _ _ _ _ _ _ _ ?_
  rw [show decide ((0 : Int) < ((sweeps.length : Nat) : Int)) = true from rfl]
  simp only [cT, needs_iff, show Int.toNat 0 = 0 from rfl]
  refine ⟨Int.le_refl _, ?_⟩
  rw [show sweeps[0]? = some [.v (.bool false), iv 0, iv 0, .v (.bool false)] from rfl]
  simp only [optAll_so]
  rw [show dBool [.v (.bool false), iv 0, iv 0, .v (.bool false)] 0 = some false from rfl]
  simp only [optAll_so, cF]
  refine ref23_swept.H3_step _ _ _ _ _ _ _ _ _ _ _ _ ?_
  rw [show IntKind.i64.wrap (0 + 1) = 1 from rfl, show decide ((1 : Int) < ((sweeps.length : Nat) : Int)) = false from rfl]
  exact rfl
def bt (b : Bool) : Int := match b with
  | true => 1
  | false => 0
theorem bit_ok (b : Bool) : ref23_bit.R b = some (bt b, ()) := by
  refine ref23_bit.start _ _ ?_
  cases b <;> exact rfl
theorem rcodeT (r : TRow) : ref23_Code.R r.obj r.slot = some (cd (kk r), ()) := rcode_ok (kk r)
theorem rslotT (r : TRow) (f : Int) : ref23_Slot.R r.obj r.slot f = some (sl (kk r) f, ()) := rslot_ok (kk r) f
theorem get4 {L : List Int} (hL : L.length = 4096) {n : Nat} (h : n < 4096) : (L.map ei)[n]? = some (ei (L.getD n 0)) := by
  rw [map_get _ _ _ (by omega), List.getD_eq_getElem?_getD, List.getElem?_eq_getElem (by omega)]
  rfl
/-- A branch's fields are laid. -/
noncomputable def stp (T : List TRow) (L : List Int) (i : Nat) : List Int :=
  if cd (key T i) = 0 then L else
    ((fun A => if i + 1 < T.length then A.set (sl (key T i) 3).toNat (cd (key T (i + 1))) else A)
      ((fun A => if 0 < i then A.set (sl (key T i) 2).toNat (cd (key T (i - 1))) else A)
        (((L.set (sl (key T i) 1).toNat (IntKind.i64.wrap (wd (key T i)))).set (sl (key T i) 2).toNat 0).set (sl (key T i) 3).toNat 0))).set (sl (key T i) 4).toNat (dd T i) |>.set (sl (key T i) 5).toNat (bt (T.getD i dr).mark)
theorem stp_len (T : List TRow) (L : List Int) (i : Nat) : (stp T L i).length = L.length := by
  unfold stp
  split
  · rfl
  · simp only []
    split <;> split <;> simp
theorem e24 (T : List TRow) (hT : T.length < 1000000) (i : Nat) (hi : i < T.length) (L : List Int) (hL : L.length = 4096) (b : List (List DV)) (c : List (List DV) × (Int × Unit))
    (h : ref23_Encode.H24_2097152 4096 ((i + 1 : Nat) : Int) things frees nodes (enc T) ports limbos roots sweeps ((stp T L i).map ei) b c) : ref23_Encode.H24_2097152 4096 (i : Int) things frees nodes (enc T) ports limbos roots sweeps (L.map ei) b c := by
  have hkey : key T i = kk T[i] := by unfold key; rw [getD_lt T hi]
  have hdd : dd T i = T[i].depth := by unfold dd; rw [getD_lt T hi]
  have hmk : (T.getD i dr).mark = T[i].mark := by rw [getD_lt T hi]
  unfold stp at h
  rw [hkey, hdd, hmk] at h
  refine ref23_Encode.H24_2097152_step _ _ _ _ _ _ _ _ _ _ _ _ _ ?_
  rw [enc_len, decide_eq_true (show (i : Int) < (T.length : Int) by omega)]
  simp only [cT, needs_nat, Int.toNat_natCast, enc_get T i hi, optAll_so, t0_, t1_, t2_, t3_, rcodeT, rslotT, swept_ok, bit_ok, Nat.zero_add, wrap_succ (show i < 4611686018427387904 by omega)]
  by_cases hc : cd (kk T[i]) = 0
  · rw [hc]
    rw [if_pos hc] at h
    exact h
  rw [if_neg hc] at h
  rw [show (cd (kk T[i]) == 0) = false from beq_false_of_ne hc]
  obtain ⟨g, e, hg, hw⟩ := wd_ok (kk T[i])
  have hg' : ref12_Get.R nodes T[i].obj T[i].slot = some g := hg
  have hL0 : L.length = 4096 := hL
  have r1 := sl_range hc (show (0 : Int) ≤ 1 by omega) (by omega)
  have r2 := sl_range hc (show (0 : Int) ≤ 2 by omega) (by omega)
  have r3 := sl_range hc (show (0 : Int) ≤ 3 by omega) (by omega)
  have r4 := sl_range hc (show (0 : Int) ≤ 4 by omega) (by omega)
  have r5 := sl_range hc (show (0 : Int) ≤ 5 by omega) (by omega)
  simp only [cF, hg', optAll_so, hw, needs_iff]
  generalize e0 : L = A0 at h ⊢
  have hA0 : A0.length = 4096 := by rw [← e0]; exact hL
  refine ⟨⟨by omega, by omega⟩, ?_⟩
  rw [get4 hA0 (by omega)]
  simp only [optAll_so, putD_ei, ← List.map_set]
  refine ⟨Nat.le_refl _, ?_⟩
  generalize eA1 : A0.set (sl (kk T[i]) 1).toNat (IntKind.i64.wrap (wd (kk T[i]))) = A1 at h ⊢
  have hA1 : A1.length = 4096 := by rw [← eA1, List.length_set]; exact hA0
  refine ⟨⟨by omega, by omega⟩, ?_⟩
  rw [get4 hA1 (by omega)]
  simp only [optAll_so, putD_ei, ← List.map_set]
  refine ⟨Nat.le_refl _, ?_⟩
  generalize eA2 : A1.set (sl (kk T[i]) 2).toNat 0 = A2 at h ⊢
  have hA2 : A2.length = 4096 := by rw [← eA2, List.length_set]; exact hA1
  refine ⟨⟨by omega, by omega⟩, ?_⟩
  rw [get4 hA2 (by omega)]
  simp only [optAll_so, putD_ei, ← List.map_set]
  refine ⟨Nat.le_refl _, ?_⟩
  generalize eA3 : A2.set (sl (kk T[i]) 3).toNat 0 = A3 at h ⊢
  have hA3 : A3.length = 4096 := by rw [← eA3, List.length_set]; exact hA2
  simp only [] at h
  by_cases hp : 0 < i
  · rw [decide_eq_true (show (i : Int) > 0 by omega)]
    have hi1 : i - 1 < T.length := by omega
    have hk0 : key T (i - 1) = kk T[i - 1] := by unfold key; rw [getD_lt T hi1]
    rw [if_pos hp, hk0] at h
    rw [wrap_pred (show i < 9223372036854775807 by omega) hp]
    simp only [cT, Int.toNat_natCast, enc_get T (i - 1) hi1, optAll_so, t0_, t1_, rcodeT]
    refine ⟨by omega, ⟨by omega, by omega⟩, ?_⟩
    rw [get4 hA3 (by omega)]
    simp only [optAll_so, putD_ei, ← List.map_set]
    refine ⟨Nat.le_refl _, ?_⟩
    generalize e4 : A3.set (sl (kk T[i]) 2).toNat (cd (kk T[i - 1])) = A4 at h ⊢
    have hA4 : A4.length = 4096 := by rw [← e4, List.length_set]; exact hA3
    by_cases hn : i + 1 < T.length
    · rw [decide_eq_true (show ((i + 1 : Nat) : Int) < (T.length : Int) by omega)]
      have hk1 : key T (i + 1) = kk T[i + 1] := by unfold key; rw [getD_lt T hn]
      rw [if_pos hn, hk1] at h
      simp only [cT, Int.toNat_natCast, enc_get T (i + 1) hn, optAll_so, t0_, t1_, rcodeT]
      refine ⟨⟨by omega, by omega⟩, ?_⟩
      rw [get4 hA4 (by omega)]
      simp only [optAll_so, putD_ei, ← List.map_set]
      refine ⟨Nat.le_refl _, ?_⟩
      generalize eB : A4.set (sl (kk T[i]) 3).toNat (cd (kk T[i + 1])) = B at h ⊢
      have hB : B.length = 4096 := by rw [← eB, List.length_set]; exact hA4
      refine ⟨⟨by omega, by omega⟩, ?_⟩
      rw [get4 hB (by omega)]
      simp only [optAll_so, putD_ei, ← List.map_set]
      refine ⟨Nat.le_refl _, ?_⟩
      generalize eD : B.set (sl (kk T[i]) 4).toNat T[i].depth = D at h ⊢
      have hD : D.length = 4096 := by rw [← eD, List.length_set]; exact hB
      refine ⟨⟨by omega, by omega⟩, ?_⟩
      rw [get4 hD (by omega)]
      simp only [optAll_so, putD_ei, ← List.map_set]
      refine ⟨Nat.le_refl _, ?_⟩
      rw [show IntKind.i64.wrap (2 * bt false) = 0 from rfl, Int.add_zero, w64 (n := bt T[i].mark) (by cases T[i].mark <;> decide) (by cases T[i].mark <;> decide)]
      exact h
    · rw [decide_eq_false (show ¬ ((i + 1 : Nat) : Int) < (T.length : Int) by omega)]
      rw [if_neg hn] at h
      simp only [cF]
      refine ⟨⟨by omega, by omega⟩, ?_⟩
      rw [get4 hA4 (by omega)]
      simp only [optAll_so, putD_ei, ← List.map_set]
      refine ⟨Nat.le_refl _, ?_⟩
      generalize eD : A4.set (sl (kk T[i]) 4).toNat T[i].depth = D at h ⊢
      have hD : D.length = 4096 := by rw [← eD, List.length_set]; exact hA4
      refine ⟨⟨by omega, by omega⟩, ?_⟩
      rw [get4 hD (by omega)]
      simp only [optAll_so, putD_ei, ← List.map_set]
      refine ⟨Nat.le_refl _, ?_⟩
      rw [show IntKind.i64.wrap (2 * bt false) = 0 from rfl, Int.add_zero, w64 (n := bt T[i].mark) (by cases T[i].mark <;> decide) (by cases T[i].mark <;> decide)]
      exact h
  · rw [decide_eq_false (show ¬ (i : Int) > 0 by omega)]
    rw [if_neg hp] at h
    simp only [cF]
    by_cases hn : i + 1 < T.length
    · rw [decide_eq_true (show ((i + 1 : Nat) : Int) < (T.length : Int) by omega)]
      have hk1 : key T (i + 1) = kk T[i + 1] := by unfold key; rw [getD_lt T hn]
      rw [if_pos hn, hk1] at h
      simp only [cT, Int.toNat_natCast, enc_get T (i + 1) hn, optAll_so, t0_, t1_, rcodeT]
      refine ⟨⟨by omega, by omega⟩, ?_⟩
      rw [get4 hA3 (by omega)]
      simp only [optAll_so, putD_ei, ← List.map_set]
      refine ⟨Nat.le_refl _, ?_⟩
      generalize eB : A3.set (sl (kk T[i]) 3).toNat (cd (kk T[i + 1])) = B at h ⊢
      have hB : B.length = 4096 := by rw [← eB, List.length_set]; exact hA3
      refine ⟨⟨by omega, by omega⟩, ?_⟩
      rw [get4 hB (by omega)]
      simp only [optAll_so, putD_ei, ← List.map_set]
      refine ⟨Nat.le_refl _, ?_⟩
      generalize eD : B.set (sl (kk T[i]) 4).toNat T[i].depth = D at h ⊢
      have hD : D.length = 4096 := by rw [← eD, List.length_set]; exact hB
      refine ⟨⟨by omega, by omega⟩, ?_⟩
      rw [get4 hD (by omega)]
      simp only [optAll_so, putD_ei, ← List.map_set]
      refine ⟨Nat.le_refl _, ?_⟩
      rw [show IntKind.i64.wrap (2 * bt false) = 0 from rfl, Int.add_zero, w64 (n := bt T[i].mark) (by cases T[i].mark <;> decide) (by cases T[i].mark <;> decide)]
      exact h
    · rw [decide_eq_false (show ¬ ((i + 1 : Nat) : Int) < (T.length : Int) by omega)]
      rw [if_neg hn] at h
      simp only [cF]
      refine ⟨⟨by omega, by omega⟩, ?_⟩
      rw [get4 hA3 (by omega)]
      simp only [optAll_so, putD_ei, ← List.map_set]
      refine ⟨Nat.le_refl _, ?_⟩
      generalize eD : A3.set (sl (kk T[i]) 4).toNat T[i].depth = D at h ⊢
      have hD : D.length = 4096 := by rw [← eD, List.length_set]; exact hA3
      refine ⟨⟨by omega, by omega⟩, ?_⟩
      rw [get4 hD (by omega)]
      simp only [optAll_so, putD_ei, ← List.map_set]
      refine ⟨Nat.le_refl _, ?_⟩
      rw [show IntKind.i64.wrap (2 * bt false) = 0 from rfl, Int.add_zero, w64 (n := bt T[i].mark) (by cases T[i].mark <;> decide) (by cases T[i].mark <;> decide)]
      exact h

/-- The branches, one behind the other. -/
noncomputable def lay (T : List TRow) : Nat → Nat → List Int → List Int
  | 0, _, L => L
  | n + 1, i, L => lay T n (i + 1) (stp T L i)
theorem lay_len (T : List TRow) : ∀ (n i : Nat) (L : List Int), (lay T n i L).length = L.length
  | 0, _, _ => rfl
  | n + 1, i, L => by unfold lay; rw [lay_len, stp_len]
theorem e24s (T : List TRow) (hT : T.length < 1000000) (b : List (List DV)) : ∀ (n i : Nat) (L : List Int), i + n = T.length → L.length = 4096 →
    ref23_Encode.H24_2097152 4096 (i : Int) things frees nodes (enc T) ports limbos roots sweeps (L.map ei) b ((lay T n i L).map ei, (0, ())) := by
  intro n
  induction n with
  | zero =>
    intro i L hi hL
    refine ref23_Encode.H24_2097152_step _ _ _ _ _ _ _ _ _ _ _ _ _ ?_
    rw [enc_len, decide_eq_false (by omega)]
    simp only [cF]
    refine ref23_Encode.H40_3145728_step _ _ _ _ _ _ _ _ _ _ _ _ _ ?_
    rw [show decide ((0 : Int) < ((sweeps.length : Nat) : Int)) = true from rfl]
    simp only [cT, needs_iff, show Int.toNat 0 = 0 from rfl]
    refine ⟨Int.le_refl _, ?_⟩
    rw [show sweeps[0]? = some [.v (.bool false), iv 0, iv 0, .v (.bool false)] from rfl]
    simp only [optAll_so]
    rw [show dBool [.v (.bool false), iv 0, iv 0, .v (.bool false)] 0 = some false from rfl]
    simp only [optAll_so, cF]
    refine ref23_Encode.H40_3145728_step _ _ _ _ _ _ _ _ _ _ _ _ _ ?_
    rw [show IntKind.i64.wrap (0 + 1) = 1 from rfl, show decide ((1 : Int) < ((sweeps.length : Nat) : Int)) = false from rfl]
    simp only [cF]
    rw [List.take_of_length_le (by rw [List.length_map]; omega)]
    rfl
  | succ n ih =>
    intro i L hi hL
    exact e24 T hT i (by omega) L hL b _ (ih (i + 1) (stp T L i) (by omega) (by rw [stp_len]; exact hL))
/-- What the cells are before the branches. -/
noncomputable def base : List Int := enc_start.choose
theorem base_ok : Zs base ∧ ∀ T : List TRow, T.length < 1000000 → ref23_Encode.R things frees nodes (enc T) ports limbos roots sweeps = some ((lay T T.length 0 base).map ei, (0, ())) := by
  obtain ⟨b, h1, h2⟩ := enc_start.choose_spec
  exact ⟨h1, fun T hT => h2 (enc T) _ (e24s T hT b T.length 0 base (by omega) h1.len)⟩
/-- A tree's cells. -/
noncomputable def cellsOf (T : List TRow) : List Int := lay T T.length 0 base
theorem cells_ok (T : List TRow) (hT : T.length < 1000000) : law24_cells.R (enc T) = some ((cellsOf T).map ei, ()) := by
  refine law24_cells.start _ _ ?_
  rw [new_ok]
  simp only [optAll_so]
  rw [base_ok.2 T hT]
  exact rfl
theorem cells_len (T : List TRow) : (cellsOf T).length = 4096 := by unfold cellsOf; rw [lay_len]; exact base_ok.1.len
end Links
end Go.AI
