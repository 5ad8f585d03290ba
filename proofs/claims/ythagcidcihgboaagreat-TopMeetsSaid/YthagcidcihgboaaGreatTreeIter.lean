/-
  Own work. tree's iterator over those below a place: its contract; slices.Collect of it.
-/
import Derived.RangeFuncNested
import Derived.RangeFuncBound
import Derived.RangeFuncCalls
import Derived.RangeFuncLeaves
import Derived.Shelf.Abstract
import Derived.Shelf.RegionOpen
import Derived.WalkKit
import Derived.OwnWalkIn
import Derived.TacticsInMore
import Derived.LoopNIn
import Derived.LoopIn
import Derived.Maps.AppendAt
import Derived.Test.YthagcidcihgboaaGreatTreeIterA
namespace Go.Proofs
open Go.RowKit Go.Shelf
set_option linter.unusedVariables false
set_option linter.unusedSimpArgs false
attribute [local go_sem] Oper.semAt_some

def upto {α : Type} (f : Nat → α) (k : Nat) : List α := (List.range k).map f
theorem upto_length {α : Type} (f : Nat → α) (k : Nat) : (upto f k).length = k := by simp [upto]
theorem upto_succ {α : Type} (f : Nat → α) (k : Nat) : upto f (k + 1) = upto f k ++ [f k] := by simp [upto, List.range_succ]

set_option maxRecDepth 100000 in
set_option maxHeartbeats 4000000 in
theorem Tryz.below1_in (l Bt Ba ot oa n₀ b off len cap pl : Nat) (rows : Nat → AI.TRow) (hat : pl < len) (hbig : len < 1099511627776) (hcap : len ≤ cap) (hb : b < n₀) (hBtn : Bt < n₀) (hBan : Ba < n₀) (J Jx : List (Int × Int) → World → Prop)
    (hJ : ∀ pre A B, J pre A → Below A.heap.size A B → J pre B)
    (hY : ∀ k W, k < len - (pl + 1) → (∀ j, j < k + 1 → (rows pl).depth < (rows (pl + 1 + j)).depth) → J (upto (fun j => (rows (pl + 1 + j)).key) k) W →
      YieldAt Fence.wide 0 Tryz.prog l #[.agg #[.int .i64 (rows (pl + 1 + k)).obj, .int .i64 (rows (pl + 1 + k)).slot]] W fun e W' =>
      (e = .returned (.bool true) ∧ J (upto (fun j => (rows (pl + 1 + j)).key) (k + 1)) W' ∧ Below n₀ W W') ∨ (e = .returned (.bool false) ∧ Jx (upto (fun j => (rows (pl + 1 + j)).key) (k + 1)) W'))
    (W : World) (hn₀ : n₀ ≤ W.heap.size) (hBt : W.cell? ⟨Bt, ot, none⟩ = some (.slice (some ⟨b, off, none⟩) len cap)) (hBa : W.cell? ⟨Ba, oa, none⟩ = some (.int .i64 (pl : Int)))
    (hc : ∀ j, j < len → ∀ i u, (rows j).cells[i]? = some u → W.cell? ⟨b, off + j * 4 + i, none⟩ = some u) (h0 : J [] W) :
    CallsIn Fence.wide 1 Tryz.prog 175 #[.func (.yield l) #[] #[], .pointer (some ⟨Bt, ot, none⟩), .pointer (some ⟨Ba, oa, none⟩)] W fun e W' => (∃ v, e = .returned v) ∧
      ((∃ k, k ≤ len - (pl + 1) ∧ (∀ j, j < k → (rows pl).depth < (rows (pl + 1 + j)).depth) ∧ (k = len - (pl + 1) ∨ (rows (pl + 1 + k)).depth ≤ (rows pl).depth) ∧ J (upto (fun j => (rows (pl + 1 + j)).key) k) W') ∨
       (∃ k, k < len - (pl + 1) ∧ (∀ j, j < k + 1 → (rows pl).depth < (rows (pl + 1 + j)).depth) ∧ Jx (upto (fun j => (rows (pl + 1 + j)).key) (k + 1)) W')) := by
  refine callsIn_of_wp Tryz.func175 rfl trivial ?_ rfl
  simp only [Tryz.ntmps175, List.size_toArray, List.length_cons, List.length_nil, Nat.reduceAdd, Nat.reduceSub, Array.replicate_succ, Array.replicate_zero, List.push_toArray, List.append_toArray, List.nil_append, List.cons_append]
  by_cases hcp : cap = pl + 1
  · obtain rfl : len = pl + 1 := by omega
    subst hcp
    gi_wp2
    gi_loopw [11] (fun i wr => i = .int .i64 0 ∧ J [] wr) (fun _ _ => 0)
    case atStart => exact ⟨rfl, h0⟩
    case round =>
      obtain ⟨rfl, hJs⟩ := hrel
      gi_wp2
      go_end0
      exact ⟨⟨_, rfl⟩, .inl ⟨0, by omega, fun j hj => absurd hj (by omega), .inl (by omega), hJs⟩⟩
  · gi_wp2
    gi_loopw [11] (fun i wr => ∃ k : Nat, k ≤ len - (pl + 1) ∧ i = .int .i64 k ∧ (∀ j, j < k → (rows pl).depth < (rows (pl + 1 + j)).depth) ∧ J (upto (fun j => (rows (pl + 1 + j)).key) k) wr ∧ Below n₀ W wr)
      (fun i _ => len - (intOf i).toNat)
    case atStart => exact ⟨0, Nat.zero_le _, rfl, fun j hj => absurd hj (by omega), h0, Below.refl _ _⟩
    case round =>
      obtain ⟨k, hk, rfl, hdeep, hJs, hnx⟩ := hrel
      by_cases hlt : k < len - (pl + 1)
      · have hcx : ∀ i u, (rows (pl + 1 + k)).cells[i]? = some u → wr.cell? ⟨b, off + (pl + 1) * 4 + k * 4 + i, none⟩ = some u := fun i u hu => by
          have := (hnx.cell (p := ⟨b, off + (pl + 1 + k) * 4 + i, none⟩) hb).trans (hc (pl + 1 + k) (by omega) i u hu)
          rwa [show off + (pl + 1 + k) * 4 + i = off + (pl + 1) * 4 + k * 4 + i by omega] at this
        have hc0 : wr.cell? ⟨b, off + (pl + 1) * 4 + k * 4, none⟩ = some (.int .i64 (rows (pl + 1 + k)).obj) := hcx 0 _ rfl
        have hc1 := hcx 1 _ rfl
        have hc2 := hcx 2 _ rfl
        have hc3 := hcx 3 _ rfl
        clear hcx
        have hbt := (hnx.cell (p := ⟨Bt, ot, none⟩) hBtn).trans hBt
        have hba := (hnx.cell (p := ⟨Ba, oa, none⟩) hBan).trans hBa
        have hd := (hnx.cell (p := ⟨b, off + pl * 4 + 2, none⟩) hb).trans (hc pl hat 2 _ rfl)
        gi_wp2
        obtain ⟨r1, hr1⟩ : ∃ r1, rows (pl + 1 + k) = r1 := ⟨_, rfl⟩
        obtain ⟨r0, hr0⟩ : ∃ r0, rows pl = r0 := ⟨_, rfl⟩
        rw [hr1]
        rw [hr1] at hc0 hc1 hc2 hc3
        rw [hr0] at hd
        obtain ⟨B5, hB5⟩ : ∃ B5, wr.heap.size = B5 := ⟨_, rfl⟩
        obtain ⟨W2, hW2⟩ : ∃ W2, wr.alloc (.cells #[.int .i64 r1.obj, .int .i64 r1.slot, .int .i64 r1.depth, .bool r1.mark] 144) = W2 := ⟨_, rfl⟩
        have h50 : W2.cell? ⟨B5, 0, none⟩ = some (.int .i64 r1.obj) := by rw [← hW2, ← hB5]; unfold World.cell?; rw [World.alloc_heap_new]; rfl
        have h51 : W2.cell? ⟨B5, 1, none⟩ = some (.int .i64 r1.slot) := by rw [← hW2, ← hB5]; unfold World.cell?; rw [World.alloc_heap_new]; rfl
        have h52 : W2.cell? ⟨B5, 2, none⟩ = some (.int .i64 r1.depth) := by rw [← hW2, ← hB5]; unfold World.cell?; rw [World.alloc_heap_new]; rfl
        have hB2 : Below wr.heap.size wr W2 := by rw [← hW2]; exact (Below.refl _ wr).alloc (Nat.le_refl _) _
        have hwn : n₀ ≤ wr.heap.size := Nat.le_trans hn₀ hnx.size
        have hbt2 := (hB2.cell (p := ⟨Bt, ot, none⟩) (by show Bt < _; omega)).trans hbt
        have hba2 := (hB2.cell (p := ⟨Ba, oa, none⟩) (by show Ba < _; omega)).trans hba
        have hd2 := (hB2.cell (p := ⟨b, off + pl * 4 + 2, none⟩) (by show b < _; omega)).trans hd
        rw [hW2, hB5]
        have hJ2 : J (upto (fun j => (rows (pl + 1 + j)).key) k) W2.drew := hJ _ wr _ hJs (by exact hB2.drew)
        have hBd : Below n₀ W W2.drew := hnx.trans ((hB2.drew).mono hwn)
        clear hc0 hc1 hc2 hc3 hbt hba hd hW2
        have mixed : Tryz.prog.follows .mixedOrders = true := by kernel_rfl
        refine wpIn_region_any mixed ?_
        obtain ⟨e, he⟩ : ∃ e : Below1.Env, e = ⟨l, Bt, Ba, ot, oa, B5, b, off, len, cap, pl, r1.obj, r1.slot, r1.depth, r0.depth, .slice (some ⟨b, off, none⟩) len cap, .int .i64 pl, .int .i64 (pl + 1), .slice (some ⟨b, off + (pl + 1) * 4, none⟩) (len - (pl + 1)) (cap - (pl + 1)), .int .i64 ((len - (pl + 1) : Nat) : Int), .int .i64 k, .bool true, .pointer (some ⟨b, off + (pl + 1) * 4 + k * 4, none⟩), .agg #[.int .i64 r1.obj, .int .i64 r1.slot, .int .i64 r1.depth, .bool r1.mark], u15, u16, u17, u18, u19, u20, u21, u22, u23, u24, u25, u26, u27, u28, u29, u30⟩ := ⟨_, rfl⟩
        have hF : Below1.Facts e W2.drew := by subst he; exact ⟨h50, h51, h52, hbt2, hba2, hd2, hat, hbig⟩
        by_cases hdep : r1.depth ≤ r0.depth
        · have hdd : decide (e.d1 ≤ e.d0) = true := by subst he; simpa using hdep
          have hs := @Below1.sA_000000000000000 e W2.drew 1
          subst he
          refine hs hF hdd ?_
          clear hs
          simp only [Below1.Fr]
          gi_wp2
          refine bodyPost_ret (results_none rfl _ _ _) rfl ?_
          exact ⟨⟨_, rfl⟩, .inl ⟨k, hk, fun j hj => by have := hdeep j hj; rwa [hr0] at this, .inr (by rw [hr1]; exact hdep), hJ2⟩⟩
        · have hdd : decide (e.d1 ≤ e.d0) = false := by subst he; simpa using hdep
          have hdeep' : ∀ j, j < k + 1 → (rows pl).depth < (rows (pl + 1 + j)).depth := fun j hj => by
            by_cases hjk : j < k
            · exact hdeep j hjk
            · obtain rfl : j = k := by omega
              rw [hr0, hr1]; omega
          have hYk := hY k _ hlt hdeep' hJ2
          rw [hr1] at hYk
          obtain ⟨fn, tmps, assign, body, hy, hR⟩ := hYk
          have hs := @Below1.sB_000000000000000 e W2.drew 1
          subst he
          refine hs hF hdd ?_
          clear hs
          refine wpAnyIn_all (rs := [12]) (by kernel_rfl) (by simp) ?_
          intro i hi
          simp only [List.mem_cons, List.not_mem_nil, or_false] at hi
          subst hi
          refine wpOpIn_step (o := Below1.ops[12]) rfl (fun K' hK => ?_)
          simp only [Below1.ops, Below1.opsOf, Below1.part, Below1.whole, Tryz.f175, Below1.Fr]
          go_simp
          refine hR.mono ?_
          rintro en W3 (⟨rfl, hJ3, hk3⟩ | ⟨rfl, hJx3⟩)
          · refine hK _ _ (Below1.sB_111111111111100 (r := true) (e := ⟨l, Bt, Ba, ot, oa, B5, b, off, len, cap, pl, r1.obj, r1.slot, r1.depth, r0.depth, .slice (some ⟨b, off, none⟩) len cap, .int .i64 pl, .int .i64 (pl + 1), .slice (some ⟨b, off + (pl + 1) * 4, none⟩) (len - (pl + 1)) (cap - (pl + 1)), .int .i64 ((len - (pl + 1) : Nat) : Int), .int .i64 k, .bool true, .pointer (some ⟨b, off + (pl + 1) * 4 + k * 4, none⟩), .agg #[.int .i64 r1.obj, .int .i64 r1.slot, .int .i64 r1.depth, .bool r1.mark], u15, u16, u17, u18, u19, u20, u21, u22, u23, u24, u25, u26, u27, u28, u29, u30⟩) ?_)
            clear hK
            simp only [Below1.Fr]
            gi_wp2
            go_roundw
            case rel => exact ⟨k + 1, by omega, by simp, hdeep', hJ3, hBd.trans hk3⟩
            case measure => simp [intOf]; omega
          · refine hK _ _ (Below1.sB_111111111111100 (r := false) (e := ⟨l, Bt, Ba, ot, oa, B5, b, off, len, cap, pl, r1.obj, r1.slot, r1.depth, r0.depth, .slice (some ⟨b, off, none⟩) len cap, .int .i64 pl, .int .i64 (pl + 1), .slice (some ⟨b, off + (pl + 1) * 4, none⟩) (len - (pl + 1)) (cap - (pl + 1)), .int .i64 ((len - (pl + 1) : Nat) : Int), .int .i64 k, .bool true, .pointer (some ⟨b, off + (pl + 1) * 4 + k * 4, none⟩), .agg #[.int .i64 r1.obj, .int .i64 r1.slot, .int .i64 r1.depth, .bool r1.mark], u15, u16, u17, u18, u19, u20, u21, u22, u23, u24, u25, u26, u27, u28, u29, u30⟩) ?_)
            clear hK
            simp only [Below1.Fr]
            gi_wp2
            refine bodyPost_ret (results_none rfl _ _ _) rfl ?_
            exact ⟨⟨_, rfl⟩, .inr ⟨k, hlt, fun j hj => by have := hdeep' j hj; rwa [hr0] at this, hJx3⟩⟩
      · obtain rfl : k = len - (pl + 1) := by omega
        gi_wp2
        go_end0
        exact ⟨⟨_, rfl⟩, .inl ⟨_, Nat.le_refl _, hdeep, .inl rfl, hJs⟩⟩
end Go.Proofs
