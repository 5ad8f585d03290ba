/-
  Own work. TopMeets, at any arguments: true.
-/
import Derived.Test.YthagcidcihgboaaGreatTop7
import Derived.Test.YthagcidcihgboaaGreatTopL
namespace Go.AI
open Go
set_option linter.unusedVariables false
set_option linter.unusedSimpArgs false
namespace Top
theorem hKK : BLe KK (callω cfg) := bcall_ok cfg big
theorem bgo_to {F : Fm} {m : Nat} {s s' : BS} {Q : Tmps → Heap → Nat → Prop} (h : bgo cfg KK F m s = some s') (hr : RunsTo F s'.k (tm s'.t) (hp s'.h) s'.nx Q) : RunsTo F s.k (tm s.t) (hp s.h) s.nx Q := by
  obtain ⟨x, y, z, h1, h2⟩ := hr
  exact ⟨x, y, z, bgo_ok hKK h (x, y, z) h1, h2⟩
theorem seqOps_append {K : Call} {F : Fm} {ops : Array Oper} : ∀ (l1 l2 : List Oper) (T : Tmps) (H : Heap) (nx : Nat) {T' : Tmps} {H' : Heap} {nx' : Nat}, seqOps cfg K F ops l1 T H nx = some (T', H', nx') → seqOps cfg K F ops (l1 ++ l2) T H nx = seqOps cfg K F ops l2 T' H' nx'
  | [], l2, T, H, nx, T', H', nx', h => by
    simp only [seqOps, Option.some.injEq, Prod.mk.injEq] at h
    obtain ⟨rfl, rfl, rfl⟩ := h
    rfl
  | o :: l1, l2, T, H, nx, T', H', nx', h => by
    rw [List.cons_append]
    unfold seqOps at h
    conv => lhs; unfold seqOps
    cases hw : wantedA ops T o with
    | none => rw [hw] at h; cases h
    | some b =>
      rw [hw] at h
      cases b with
      | false => exact seqOps_append l1 l2 _ _ _ h
      | true =>
        dsimp only at h ⊢
        cases hd : isDeep F o with
        | true =>
          rw [hd] at h
          simp only [if_true] at h ⊢
          cases he : deepOut cfg.P F T H nx o with
          | none => rw [he] at h; cases h
          | some e => rw [he] at h; exact seqOps_append l1 l2 _ _ _ h
        | false =>
          rw [hd] at h
          simp only [Bool.false_eq_true, if_false] at h ⊢
          cases he : operOut cfg K F T H nx o with
          | none => rw [he] at h; cases h
          | some x =>
            rw [he] at h
            cases x with
            | eff e => exact seqOps_append l1 l2 _ _ _ h
            | frz v p => exact seqOps_append l1 l2 _ _ _ h
            | run v H2 nx2 => exact seqOps_append l1 l2 _ _ _ h
theorem cut25 {F : Fm} {v : Int} {t t1 t2 : Tr AV} {h h1 h2 : Tr ABlk} {nx nx1 nx2 : Nat} (e1 : bseq cfg KK F g25 (g25.toList.take 20) t h nx = some (t1, h1, nx1)) (q1 : tm t1 99 = I v) (q2 : tm t1 100 = I v) (hw : wantedA g25 (tm t1) cheat = some true) (e2 : bseq cfg KK F g25 (cheat :: g25.toList.drop 21) t1 h1 nx1 = some (t2, h2, nx2)) :
    seqOps cfg (callω cfg) F g25 g25.toList (tm t) (hp h) nx = some (tm t2, hp h2, nx2) := by
  have a1 := bseq_ok hKK _ _ _ _ _ _ _ e1
  have a2 := bseq_ok hKK _ _ _ _ _ _ _ e2
  rw [g25_split, seqOps_append _ _ _ _ _ a1]
  have hw' : wantedA g25 (tm t1) op20 = some true := hw
  have hc : operOut cfg (callω cfg) F (tm t1) (hp h1) nx1 cheat = some (.eff ⟨B false, []⟩) := by
    unfold operOut
    rw [cheat_is]
    simp [eff, cheat_is, aeval, constA]
  have ho : operOut cfg (callω cfg) F (tm t1) (hp h1) nx1 op20 = some (.eff ⟨B false, []⟩) := by
    simp [operOut, op20_is, eff, aeval, q1, q2, binA, intOp]
  unfold seqOps at a2 ⊢
  rw [hw] at a2
  rw [hw']
  simp only [cheat_deep, op20_deep, Bool.false_eq_true, if_false, hc, ho] at a2 ⊢
  exact a2
theorem fn4 : cfg.P.funcs[4]? = some Go.Proofs.Tryz.f4 := by kernel_rfl
theorem bd4 : Go.Proofs.Tryz.f4.body = some w4 := by kernel_rfl
theorem nt4 : Go.Proofs.Tryz.f4.ntmps = 117 := by kernel_rfl
theorem tr4 : cfg.trim 4 = true := by kernel_rfl
theorem nm4 : cfg.names 4 = [] := by kernel_rfl
theorem vt4 : cfg.virt 4 = false := by kernel_rfl
theorem re4 (T : Tmps) (H : Heap) : resultsA cfg.P Go.Proofs.Tryz.f4 T H = some (T 6) := by kernel_rfl
theorem mode_live : cfg.mode 6 = .pure := by kernel_rfl
theorem typed_live : typedFor cfg.P 6 [] = [] := by kernel_rfl
noncomputable def g2r : Array Oper := opsC (partC [1, 0, 1, 0, 0] w4)
theorem c19a_is : c19a = .seq (.region 2 g2r false) .ret := by kernel_rfl
noncomputable def g12 : Array Oper := opsC (partC [0] (Aof 9))
noncomputable def g13 : Array Oper := opsC (partC [0] (Aof 10))
noncomputable def g16 : Array Oper := opsC (partC [0] (Aof 13))
noncomputable def g17 : Array Oper := opsC (partC [0] (Aof 14))
noncomputable def g27 : Array Oper := opsC (partC [0] (Aof 18))
theorem A9 : Aof 9 = .seq (.region 12 g12 false) (Aof 10) := by kernel_rfl
theorem A10 : Aof 10 = .seq (.region 13 g13 false) (Aof 11) := by kernel_rfl
theorem A13 : Aof 13 = .seq (.region 16 g16 false) (Aof 14) := by kernel_rfl
theorem A14 : Aof 14 = .seq (.region 17 g17 false) (Aof 15) := by kernel_rfl
theorem A18 : Aof 18 = .seq (.region 27 g27 false) .ret := by kernel_rfl
abbrev QT (T : Tmps) (H : Heap) (nx : Nat) : Prop := T 6 = B true
section
variable {T : Tmps} {H : Heap} {nx : Nat}
/-- The last lines: live(). -/
theorem last_go (hl : valω cfg 6 [] = some (B true)) : RunsTo F4 [.code (Aof 18)] T H nx QT := by
  rw [A18]
  refine RunsTo.seq (RunsTo.seqs ?_)
  conv in (Array.toList g27) => whnf
  refine Seqs.step ⟨B true, []⟩ rfl rfl (o_val0 rfl rfl (by decide) mode_live rfl typed_live hl) ?_
  refine Seqs.step ⟨B true, []⟩ rfl rfl (o_assign rfl rfl) (Seqs.nil (RunsTo.ret rfl))
theorem ends_go {v : Int} {s0 : BS} (hl : valω cfg 6 [] = some (B true)) (he : Ends v s0) : RunsTo F4 s0.k (tm s0.t) (hp s0.h) s0.nx QT := by
  obtain ⟨k, t, t1, t2, h, h1, h2, nx, nx1, nx2, u, a1, a2, a3, a4, a5, a6, a7, a8⟩ := he.ex
  refine bgo_to a1 ?_
  refine RunsTo.seqs ⟨_, _, _, cut25 a2 a3 a4 a5 a6, ?_⟩
  refine bgo_to a7 ?_
  rw [a8]
  exact last_go hl
end
/-- Run, then rounds, out of the law's frame. -/
theorem both_go {FK : List Nat} {FR : Nat} {S : St → Prop} (hS : Closed kp FK FR S) (hlen : ∀ s, S s → FK.length = s.length) {fin : List St} (hfl : ∀ s ∈ fin, FK.length = s.length)
    (hR : ∀ s, S s → ∃ m s', m < 60000 ∧ Rounds kp FK FR s m s' ∧ s' ∈ fin) {rows : List (List DV)} (hrows : ∀ r ∈ rows, ∃ c : Int, r = [.v (.int .i64 c)]) (hrl : rows.length ≤ 600) {s : St} (hs : S s) {h : Tr ABlk} {nx : Nat} (hA : Agr FK s (hp h)) (hnx : FR ≤ nx) (hH : FlatH nx (hp h)) :
    ∃ ra H1 s', callω cfg 13 [kp, .d (.lst 1 rows)] (hp h) nx = some (ra, H1, n13 nx) ∧ s' ∈ fin ∧ callω cfg 14 [kp, I 2] H1 (n13 nx + wide) = some (.tup [], hp (putAll h FK s'), n14 (n13 nx + wide)) := by
  obtain ⟨ra, H1, s1, c1, hs1, hA1, ho1, hf1⟩ := run_call hS hrows (by omega) hs hnx hA hH
  obtain ⟨m, s', hm, hr, hfin⟩ := hR s1 hs1
  have hle : nx ≤ n13 nx + wide := by
    have := upN_le (nx + 20 + wide + wide + wide + wide)
    unfold n13; omega
  have hf1' : FlatH (n13 nx + wide) H1 := fun b X hb => ⟨Nat.lt_of_lt_of_le (hf1 b X hb).1 hle, flatO_le hle (hf1 b X hb).2⟩
  obtain ⟨H2, c2, hA2, ho2, hf2⟩ := rounds_call hS.ptr hS.low hr hm (nx := n13 nx + wide) (by omega) hA1 hf1'
  refine ⟨ra, H1, s', c1, hfin, ?_⟩
  rw [c2]
  rw [heap_is (h := h) (hfl s' hfin) hA2 fun x hx => by rw [ho2 x hx, ho1 x hx]]
theorem len_t1 (v : Int) : ∀ s ∈ all_t1 v, FKt1.length = s.length := by
  have : (all_t1 v).all (fun s => FKt1.length == s.length) = true := by kernel_rfl
  exact fun s hs => by simpa using List.all_eq_true.1 this s hs
theorem len_f1 (v : Int) : ∀ s ∈ all_f1 v, FKf1.length = s.length := by
  have : (all_f1 v).all (fun s => FKf1.length == s.length) = true := by kernel_rfl
  exact fun s hs => by simpa using List.all_eq_true.1 this s hs
theorem len_t2 (v : Int) : ∀ s ∈ all_t2 v, FKt2.length = s.length := by
  have : (all_t2 v).all (fun s => FKt2.length == s.length) = true := by kernel_rfl
  exact fun s hs => by simpa using List.all_eq_true.1 this s hs
theorem len_f2 (v : Int) : ∀ s ∈ all_f2 v, FKf2.length = s.length := by
  have : (all_f2 v).all (fun s => FKf2.length == s.length) = true := by kernel_rfl
  exact fun s hs => by simpa using List.all_eq_true.1 this s hs
theorem lenf_t1 (v : Int) : ∀ s ∈ fin_t1 v, FKt1.length = s.length := by
  have : (fin_t1 v).all (fun s => FKt1.length == s.length) = true := by kernel_rfl
  exact fun s hs => by simpa using List.all_eq_true.1 this s hs
theorem lenf_f1 (v : Int) : ∀ s ∈ fin_f1 v, FKf1.length = s.length := by
  have : (fin_f1 v).all (fun s => FKf1.length == s.length) = true := by kernel_rfl
  exact fun s hs => by simpa using List.all_eq_true.1 this s hs
theorem lenf_t2 (v : Int) : ∀ s ∈ fin_t2 v, FKt2.length = s.length := by
  have : (fin_t2 v).all (fun s => FKt2.length == s.length) = true := by kernel_rfl
  exact fun s hs => by simpa using List.all_eq_true.1 this s hs
theorem lenf_f2 (v : Int) : ∀ s ∈ fin_f2 v, FKf2.length = s.length := by
  have : (fin_f2 v).all (fun s => FKf2.length == s.length) = true := by kernel_rfl
  exact fun s hs => by simpa using List.all_eq_true.1 this s hs
theorem all_ends_t (v : Int) (rows : List (List DV)) (ra rb : AV) : ∀ s ∈ fin_t2 v, Ends v ⟨[.code (Aof 15)], t18t v rows ra rb, putAll (ofL (h16t v)) FKt2 s, 6291536⟩ := by
  intro s hs
  unfold fin_t2 at hs
  rcases List.mem_cons.1 hs with rfl | hs
  · exact end_t_36 v rows ra rb
  rcases List.mem_cons.1 hs with rfl | hs
  · exact end_t_37 v rows ra rb
  rcases List.mem_cons.1 hs with rfl | hs
  · exact end_t_38 v rows ra rb
  rcases List.mem_cons.1 hs with rfl | hs
  · exact end_t_39 v rows ra rb
  rcases List.mem_cons.1 hs with rfl | hs
  · exact end_t_40 v rows ra rb
  rcases List.mem_cons.1 hs with rfl | hs
  · exact end_t_41 v rows ra rb
  rcases List.mem_cons.1 hs with rfl | hs
  · exact end_t_42 v rows ra rb
  exact absurd hs List.not_mem_nil
theorem all_ends_f (v : Int) (rows : List (List DV)) (ra rb : AV) : ∀ s ∈ fin_f2 v, Ends v ⟨[.code (Aof 15)], t18f v rows ra rb, putAll (ofL (h16f v)) FKf2 s, 6291536⟩ := by
  intro s hs
  unfold fin_f2 at hs
  rcases List.mem_cons.1 hs with rfl | hs
  · exact end_f_28 v rows ra rb
  rcases List.mem_cons.1 hs with rfl | hs
  · exact end_f_29 v rows ra rb
  rcases List.mem_cons.1 hs with rfl | hs
  · exact end_f_30 v rows ra rb
  rcases List.mem_cons.1 hs with rfl | hs
  · exact end_f_31 v rows ra rb
  rcases List.mem_cons.1 hs with rfl | hs
  · exact end_f_32 v rows ra rb
  rcases List.mem_cons.1 hs with rfl | hs
  · exact end_f_33 v rows ra rb
  exact absurd hs List.not_mem_nil
theorem bd_run : 13 < bnd := by decide
theorem bd_rounds : 14 < bnd := by decide
section
variable (hl : valω cfg 6 [] = some (B true)) (v : Int) (rows : List (List DV)) (hrows : ∀ r ∈ rows, ∃ c : Int, r = [.v (.int .i64 c)])
include hl hrows
theorem walk_t : RunsTo F4 [.code w4] (argsT [I v, .d (.lst 1 rows), B true]) noHeap 117 QT := by
  rw [← tm_args, ← hp_lf]
  refine bgo_to (x1t v rows) ?_
  show RunsTo F4 (.code (partC [1, 0, 1] w4) :: [.code (Aof 2)]) _ _ _ QT
  rw [cnd_is]
  by_cases hn : (rows.length : Int) > 600
  · refine RunsTo.condT ?_ ?_
    · show B (decide ((rows.length : Int) > 600)) = B true
      rw [decide_eq_true hn]
    rw [c19a_is]
    refine RunsTo.seq (RunsTo.seqs ?_)
    conv in (Array.toList g2r) => whnf
    refine Seqs.step ⟨B true, []⟩ rfl rfl (o_val0 rfl rfl (by decide) mode_live rfl typed_live hl) ?_
    exact Seqs.step ⟨B true, []⟩ rfl rfl (o_assign rfl rfl) (Seqs.nil (RunsTo.ret rfl))
  · refine RunsTo.condF ?_ ?_
    · show B (decide ((rows.length : Int) > 600)) = B false
      rw [decide_eq_false hn]
    have hrl : rows.length ≤ 600 := by omega
    refine bgo_to (s := ⟨[.code .skip, .code (Aof 2)], t1t v rows, .lf, _⟩) (x12t v rows) ?_
    show RunsTo F4 [.code (Aof 9)] (tm (t12t v rows)) (hp (ofL (h12t v))) 2543 QT
    obtain ⟨ra, H1, s', c1, hs', c2⟩ := both_go (closed_t1 v) (len_t1 v) (lenf_t1 v) (fun s hs => rounds_t1 v s hs) hrows hrl (in_t1_0 v) (h := ofL (h12t v)) (nx := 2543 + wide + wide) (agr_of (s12t v)) (by decide) (flatL_H (fl12t v))
    have hs' : s' = t1_11 v := by
      unfold fin_t1 at hs'
      simpa using hs'
    subst hs'
    rw [A9]
    refine RunsTo.seq (RunsTo.seqs ?_)
    conv in (Array.toList g12) => whnf
    refine Seqs.step ⟨kp, []⟩ rfl rfl (o_move rfl rfl) ?_
    refine Seqs.step ⟨.d (.lst 1 rows), []⟩ rfl rfl (o_move rfl rfl) ?_
    refine Seqs.run rfl rfl (o_inl rfl rfl bd_run mode_run rfl (typed_run _ _ _ _ _) c1) (Seqs.nil ?_)
    rw [A10]
    refine RunsTo.seq (RunsTo.seqs ?_)
    conv in (Array.toList g13) => whnf
    refine Seqs.step ⟨kp, []⟩ rfl rfl (o_move rfl rfl) ?_
    refine Seqs.run rfl rfl (o_inl rfl rfl bd_rounds mode_rounds rfl (typed_rounds _ _ _ _ _) c2) (Seqs.nil ?_)
    have hT : putT (putT (putT (putT (putT (tm (t12t v rows)) (some 43) kp) (some 44) (.d (.lst 1 rows))) (some 45) ra) (some 46) kp) (some 47) (.tup []) = tm (t14t v rows ra) := by
      unfold t14t
      simp only [tm_put]
    refine (show RunsTo F4 [.code (Aof 11)] (putT (putT (putT (putT (putT (tm (t12t v rows)) (some 43) kp) (some 44) (.d (.lst 1 rows))) (some 45) ra) (some 46) kp) (some 47) (.tup [])) (hp (putAll (ofL (h12t v)) FKt1 (t1_11 v))) (n14 (n13 (2543 + wide + wide) + wide)) QT from ?_)
    rw [hT]
    refine bgo_to (s := ⟨[.code (Aof 11)], t14t v rows ra, putAll (ofL (h12t v)) FKt1 (t1_11 v), 3145808⟩) (x16t v rows ra) ?_
    show RunsTo F4 [.code (Aof 13)] (tm (t16t v rows ra)) (hp (ofL (h16t v))) 3147447 QT
    obtain ⟨rb, H2, s2, d1, hs2, d2⟩ := both_go (closed_t2 v) (len_t2 v) (lenf_t2 v) (fun s hs => rounds_t2 v s hs) hrows hrl (in_t2_0 v) (h := ofL (h16t v)) (nx := 3147447 + wide + wide) (agr_of (s16t v)) (by decide) (flatL_H (fl16t v))
    rw [A13]
    refine RunsTo.seq (RunsTo.seqs ?_)
    conv in (Array.toList g16) => whnf
    refine Seqs.step ⟨kp, []⟩ rfl rfl (o_move rfl rfl) ?_
    refine Seqs.step ⟨.d (.lst 1 rows), []⟩ rfl rfl (o_move rfl rfl) ?_
    refine Seqs.run rfl rfl (o_inl rfl rfl bd_run mode_run rfl (typed_run _ _ _ _ _) d1) (Seqs.nil ?_)
    rw [A14]
    refine RunsTo.seq (RunsTo.seqs ?_)
    conv in (Array.toList g17) => whnf
    refine Seqs.step ⟨kp, []⟩ rfl rfl (o_move rfl rfl) ?_
    refine Seqs.run rfl rfl (o_inl rfl rfl bd_rounds mode_rounds rfl (typed_rounds _ _ _ _ _) d2) (Seqs.nil ?_)
    have hT2 : putT (putT (putT (putT (putT (tm (t16t v rows ra)) (some 57) kp) (some 58) (.d (.lst 1 rows))) (some 59) rb) (some 60) kp) (some 61) (.tup []) = tm (t18t v rows ra rb) := by
      unfold t18t
      simp only [tm_put]
    refine (show RunsTo F4 [.code (Aof 15)] (putT (putT (putT (putT (putT (tm (t16t v rows ra)) (some 57) kp) (some 58) (.d (.lst 1 rows))) (some 59) rb) (some 60) kp) (some 61) (.tup [])) (hp (putAll (ofL (h16t v)) FKt2 s2)) (n14 (n13 (3147447 + wide + wide) + wide)) QT from ?_)
    rw [hT2]
    exact ends_go hl (all_ends_t v rows ra rb s2 hs2)
theorem walk_f : RunsTo F4 [.code w4] (argsT [I v, .d (.lst 1 rows), B false]) noHeap 117 QT := by
  rw [← tm_args, ← hp_lf]
  refine bgo_to (x1f v rows) ?_
  show RunsTo F4 (.code (partC [1, 0, 1] w4) :: [.code (Aof 2)]) _ _ _ QT
  rw [cnd_is]
  by_cases hn : (rows.length : Int) > 600
  · refine RunsTo.condT ?_ ?_
    · show B (decide ((rows.length : Int) > 600)) = B true
      rw [decide_eq_true hn]
    rw [c19a_is]
    refine RunsTo.seq (RunsTo.seqs ?_)
    conv in (Array.toList g2r) => whnf
    refine Seqs.step ⟨B true, []⟩ rfl rfl (o_val0 rfl rfl (by decide) mode_live rfl typed_live hl) ?_
    exact Seqs.step ⟨B true, []⟩ rfl rfl (o_assign rfl rfl) (Seqs.nil (RunsTo.ret rfl))
  · refine RunsTo.condF ?_ ?_
    · show B (decide ((rows.length : Int) > 600)) = B false
      rw [decide_eq_false hn]
    have hrl : rows.length ≤ 600 := by omega
    refine bgo_to (s := ⟨[.code .skip, .code (Aof 2)], t1f v rows, .lf, _⟩) (x12f v rows) ?_
    show RunsTo F4 [.code (Aof 9)] (tm (t12f v rows)) (hp (ofL (h12f v))) 2511 QT
    obtain ⟨ra, H1, s', c1, hs', c2⟩ := both_go (closed_f1 v) (len_f1 v) (lenf_f1 v) (fun s hs => rounds_f1 v s hs) hrows hrl (in_f1_0 v) (h := ofL (h12f v)) (nx := 2511 + wide + wide) (agr_of (s12f v)) (by decide) (flatL_H (fl12f v))
    have hs' : s' = f1_13 v := by
      unfold fin_f1 at hs'
      simpa using hs'
    subst hs'
    rw [A9]
    refine RunsTo.seq (RunsTo.seqs ?_)
    conv in (Array.toList g12) => whnf
    refine Seqs.step ⟨kp, []⟩ rfl rfl (o_move rfl rfl) ?_
    refine Seqs.step ⟨.d (.lst 1 rows), []⟩ rfl rfl (o_move rfl rfl) ?_
    refine Seqs.run rfl rfl (o_inl rfl rfl bd_run mode_run rfl (typed_run _ _ _ _ _) c1) (Seqs.nil ?_)
    rw [A10]
    refine RunsTo.seq (RunsTo.seqs ?_)
    conv in (Array.toList g13) => whnf
    refine Seqs.step ⟨kp, []⟩ rfl rfl (o_move rfl rfl) ?_
    refine Seqs.run rfl rfl (o_inl rfl rfl bd_rounds mode_rounds rfl (typed_rounds _ _ _ _ _) c2) (Seqs.nil ?_)
    have hT : putT (putT (putT (putT (putT (tm (t12f v rows)) (some 43) kp) (some 44) (.d (.lst 1 rows))) (some 45) ra) (some 46) kp) (some 47) (.tup []) = tm (t14f v rows ra) := by
      unfold t14f
      simp only [tm_put]
    refine (show RunsTo F4 [.code (Aof 11)] (putT (putT (putT (putT (putT (tm (t12f v rows)) (some 43) kp) (some 44) (.d (.lst 1 rows))) (some 45) ra) (some 46) kp) (some 47) (.tup [])) (hp (putAll (ofL (h12f v)) FKf1 (f1_13 v))) (n14 (n13 (2511 + wide + wide) + wide)) QT from ?_)
    rw [hT]
    refine bgo_to (s := ⟨[.code (Aof 11)], t14f v rows ra, putAll (ofL (h12f v)) FKf1 (f1_13 v), 3145808⟩) (x16f v rows ra) ?_
    show RunsTo F4 [.code (Aof 13)] (tm (t16f v rows ra)) (hp (ofL (h16f v))) 3147447 QT
    obtain ⟨rb, H2, s2, d1, hs2, d2⟩ := both_go (closed_f2 v) (len_f2 v) (lenf_f2 v) (fun s hs => rounds_f2 v s hs) hrows hrl (in_f2_0 v) (h := ofL (h16f v)) (nx := 3147447 + wide + wide) (agr_of (s16f v)) (by decide) (flatL_H (fl16f v))
    rw [A13]
    refine RunsTo.seq (RunsTo.seqs ?_)
    conv in (Array.toList g16) => whnf
    refine Seqs.step ⟨kp, []⟩ rfl rfl (o_move rfl rfl) ?_
    refine Seqs.step ⟨.d (.lst 1 rows), []⟩ rfl rfl (o_move rfl rfl) ?_
    refine Seqs.run rfl rfl (o_inl rfl rfl bd_run mode_run rfl (typed_run _ _ _ _ _) d1) (Seqs.nil ?_)
    rw [A14]
    refine RunsTo.seq (RunsTo.seqs ?_)
    conv in (Array.toList g17) => whnf
    refine Seqs.step ⟨kp, []⟩ rfl rfl (o_move rfl rfl) ?_
    refine Seqs.run rfl rfl (o_inl rfl rfl bd_rounds mode_rounds rfl (typed_rounds _ _ _ _ _) d2) (Seqs.nil ?_)
    have hT2 : putT (putT (putT (putT (putT (tm (t16f v rows ra)) (some 57) kp) (some 58) (.d (.lst 1 rows))) (some 59) rb) (some 60) kp) (some 61) (.tup []) = tm (t18f v rows ra rb) := by
      unfold t18f
      simp only [tm_put]
    refine (show RunsTo F4 [.code (Aof 15)] (putT (putT (putT (putT (putT (tm (t16f v rows ra)) (some 57) kp) (some 58) (.d (.lst 1 rows))) (some 59) rb) (some 60) kp) (some 61) (.tup [])) (hp (putAll (ofL (h16f v)) FKf2 s2)) (n14 (n13 (3147447 + wide + wide) + wide)) QT from ?_)
    rw [hT2]
    exact ends_go hl (all_ends_f v rows ra rb s2 hs2)
theorem meets_run (first : Bool) : RunsTo F4 [.code w4] (argsT [I v, .d (.lst 1 rows), B first]) noHeap 117 QT := by
  cases first with
  | true => exact walk_t hl v rows hrows
  | false => exact walk_f hl v rows hrows
theorem meets_val (first : Bool) : valω cfg 4 [I v, .d (.lst 1 rows), B first] = some (B true) := by
  obtain ⟨T', H', nx', hr, h6⟩ := meets_run hl v rows hrows first
  have hc := callω_of (nx := 0) (args := [I v, .d (.lst 1 rows), B first]) fn4 bd4 (by rw [nt4]; exact Nat.le_of_ble_eq_true rfl) (by rw [nt4, tr4, nm4, vt4]; exact hr) (re4 T' H')
  unfold valω byValue
  rw [hc]
  rw [show T' 6 = B true from h6]
  rfl
end
end Top
end Go.AI
namespace Go.AI
open Go
set_option linter.unusedVariables false
set_option linter.unusedSimpArgs false
set_option linter.constructorNameAsVariable false
namespace Top
theorem tk2 : tkT cfg.P 9 2 = some [.int .i64] := by kernel_rfl
theorem tk25 : tkT cfg.P 9 25 = some [.lst [.int .i64]] := by kernel_rfl
theorem tk4 : tkT cfg.P 9 4 = some [.bool] := by kernel_rfl
theorem un2 : cfg.P.underlying 2 = some (.int .i64) := by kernel_rfl
theorem un4 : cfg.P.underlying 4 = some .bool := by kernel_rfl
theorem arg_int {a : AV} (h : ArgOK cfg.P 2 a) : ∃ n : Int, a = I n := by
  obtain ⟨ks, hk, h⟩ := h
  rw [tk2] at hk
  cases hk
  rw [un2] at h
  obtain ⟨k, x, hk, hx, rfl⟩ := h
  cases hk
  cases x with
  | v x =>
    cases x with
    | int k' n =>
      simp only [okC] at hx
      obtain ⟨rfl, _⟩ := hx
      exact ⟨n, rfl⟩
    | _ => simp [okC] at hx
  | _ => simp [okC] at hx
theorem arg_bool {a : AV} (h : ArgOK cfg.P 4 a) : ∃ b : Bool, a = B b := by
  obtain ⟨ks, hk, h⟩ := h
  rw [tk4] at hk
  cases hk
  rw [un4] at h
  obtain ⟨k, x, hk, hx, rfl⟩ := h
  cases hk
  cases x with
  | v x =>
    cases x with
    | bool b => exact ⟨b, rfl⟩
    | _ => simp [okC] at hx
  | _ => simp [okC] at hx
theorem arg_ints {a : AV} (h : ArgOK cfg.P 25 a) : ∃ rows : List (List DV), a = .d (.lst 1 rows) ∧ ∀ r ∈ rows, ∃ c : Int, r = [.v (.int .i64 c)] := by
  obtain ⟨ks, hk, h⟩ := h
  rw [tk25] at hk
  cases hk
  rw [U25] at h
  obtain ⟨k, x, hk, hx, rfl⟩ := h
  cases hk
  cases x with
  | lst s rows =>
    simp only [okC] at hx
    obtain ⟨rfl, hr⟩ := hx
    refine ⟨rows, rfl, fun r hr2 => ?_⟩
    have h1 := hr r hr2
    cases r with
    | nil => simp [okR] at h1
    | cons y ys =>
      cases ys with
      | cons z zs => simp [okR] at h1
      | nil =>
        simp only [okR, and_true] at h1
        cases y with
        | v y =>
          cases y with
          | int k' n =>
            simp only [okC] at h1
            obtain ⟨rfl, _⟩ := h1
            exact ⟨n, rfl⟩
          | _ => simp [okC] at h1
        | _ => simp [okC] at h1
  | _ => simp [okC] at hx
theorem topMeets_val (vs : List AV) (h : ArgsOK cfg.P [2, 25, 4] vs) : valω cfg 4 vs = some (.d (.v (.bool true))) := by
  cases vs with
  | nil => exact h.elim
  | cons a vs =>
    obtain ⟨h1, h⟩ := h
    cases vs with
    | nil => exact h.elim
    | cons b vs =>
      obtain ⟨h2, h⟩ := h
      cases vs with
      | nil => exact h.elim
      | cons c vs =>
        obtain ⟨h3, h⟩ := h
        cases vs with
        | cons d vs => exact h.elim
        | nil =>
          obtain ⟨v, rfl⟩ := arg_int h1
          obtain ⟨rows, rfl, hrows⟩ := arg_ints h2
          obtain ⟨first, rfl⟩ := arg_bool h3
          exact meets_val live_val v rows hrows first
end Top
end Go.AI
