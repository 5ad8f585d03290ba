/-
  Own work, printed by gen_live.py. live() is true.
-/
import Derived.Test.YthagcidcihgboaaGreatTop5
import Derived.Test.YthagcidcihgboaaGreatTopLE1
import Derived.Test.YthagcidcihgboaaGreatTopLE2
namespace Go.AI
open Go
set_option linter.unusedVariables false
set_option linter.unusedSimpArgs false
namespace Top
theorem rnds_more {kp : AV} {FK : List Nat} {FR : Nat} (hlt : ∀ x, FK.contains x = true → x < FR) : ∀ {m : Nat} {s s' f : St} {k : Nat}, rnds kp FK FR m s = some s' → Rounds kp FK FR s' k f → Rounds kp FK FR s (k + m) f
  | 0, s, s', f, k, h, hR => by
    simp only [rnds, Option.some.injEq] at h
    subst h; exact hR
  | m + 1, s, s', f, k, h, hR => by
    unfold rnds at h
    cases h0 : nxt kp FK FR s 0 with
    | none => rw [h0] at h; cases h
    | some x =>
      obtain ⟨b0, s1⟩ := x
      rw [h0] at h
      unfold rndA at h
      dsimp only at h
      cases h1 : nxt kp FK FR s1 1 with
      | none => rw [h1] at h; cases h
      | some y =>
        obtain ⟨b1, s2⟩ := y
        rw [h1] at h
        unfold rndB at h
        dsimp only at h
        cases hb : (b1 || b0) with
        | false => rw [hb] at h; cases h
        | true =>
          rw [hb] at h
          exact .more (nxt_goes h0 hlt) (nxt_goes h1 hlt) hb (rnds_more hlt h hR)
theorem top_l : boxTop FKl = FRl := by kernel_rfl
theorem lt_l : ∀ x, FKl.contains x = true → x < FRl := fun x hx => by
  rw [← top_l]; exact boxTop_lt (List.elem_iff.1 hx)
theorem rl_all : Rounds kpl FKl FRl live_0 116 live_116 := (rnds_more lt_l rl_0 (rnds_more lt_l rl_3 (rnds_more lt_l rl_6 (rnds_more lt_l rl_9 (rnds_more lt_l rl_12 (rnds_more lt_l rl_15 (rnds_more lt_l rl_18 (rnds_more lt_l rl_24 (rnds_more lt_l rl_30 (rnds_more lt_l rl_33 (rnds_more lt_l rl_36 (rnds_more lt_l rl_42 (rnds_more lt_l rl_48 (rnds_more lt_l rl_54 (rnds_more lt_l rl_60 (rnds_more lt_l rl_66 (rnds_more lt_l rl_72 (rnds_more lt_l rl_78 (rnds_more lt_l rl_84 (rnds_more lt_l rl_87 (rnds_more lt_l rl_90 (rnds_more lt_l rl_96 (rnds_more lt_l rl_102 (rnds_more lt_l rl_108 (rnds_more lt_l rl_114 (.stop (nxt_goes rl_end0 lt_l) (nxt_goes rl_end1 lt_l)))))))))))))))))))))))))))
noncomputable def w6 : Code := codeOf Go.Proofs.Tryz.f6
noncomputable def Al (n : Nat) : Code := partC (List.replicate n 1) w6
abbrev F6 : Fm := ⟨0, 59, true, [], false⟩
noncomputable def KL : BCall := bcall cfg big
theorem hKL : BLe KL (callω cfg) := bcall_ok cfg big
theorem xl : bgo cfg KL F6 13 ⟨[.code w6], .lf, .lf, 59⟩ = some ⟨[.code (Al 5)], ofT tlive, ofL hlive, 3267⟩ := by kernel_rfl
theorem sl : FKl.map (hp (ofL hlive)) = live_0 := by kernel_rfl
theorem fll : flatL 3283 hlive = true := by kernel_rfl
noncomputable def gl6 : Array Oper := opsC (partC [0] (Al 5))
theorem Al5 : Al 5 = .seq (.region 6 gl6 false) (Al 6) := by kernel_rfl
noncomputable def tl6 : Tr AV := bputT (bputT (ofT tlive) (some 29) kpl) (some 30) (.tup [])
noncomputable def Xl : BS := ⟨[.code (Al 6)], tl6, putAll (ofL hlive) FKl live_116, 2097232⟩
noncomputable def Ul : BS := match bgo cfg KL F6 4 Xl with | some s => s | none => ⟨[], .lf, .lf, 0⟩
theorem ul : bgo cfg KL F6 4 Xl = some Ul ∧ Ul.k = [.code .ret] ∧ tm Ul.t 0 = B true := ⟨by kernel_rfl, by kernel_rfl, by kernel_rfl⟩
theorem fn6 : cfg.P.funcs[6]? = some Go.Proofs.Tryz.f6 := by kernel_rfl
theorem bd6 : Go.Proofs.Tryz.f6.body = some w6 := by kernel_rfl
theorem nt6 : Go.Proofs.Tryz.f6.ntmps = 59 := by kernel_rfl
theorem tr6 : cfg.trim 6 = true := by kernel_rfl
theorem nm6 : cfg.names 6 = [] := by kernel_rfl
theorem vt6 : cfg.virt 6 = false := by kernel_rfl
theorem re6 (T : Tmps) (H : Heap) : resultsA cfg.P Go.Proofs.Tryz.f6 T H = some (T 0) := by kernel_rfl
theorem bdr : 14 < bnd := by decide
theorem live_run : RunsTo F6 [.code w6] (argsT []) noHeap 59 fun T' _ _ => T' 0 = B true := by
  have go : ∀ {m : Nat} {s s' : BS} {Q : Tmps → Heap → Nat → Prop}, bgo cfg KL F6 m s = some s' → RunsTo F6 s'.k (tm s'.t) (hp s'.h) s'.nx Q → RunsTo F6 s.k (tm s.t) (hp s.h) s.nx Q := fun h hr => by
    obtain ⟨x, y, z, h1, h2⟩ := hr
    exact ⟨x, y, z, bgo_ok hKL h (x, y, z) h1, h2⟩
  rw [← tm_args, ← hp_lf]
  refine go (s := ⟨[.code w6], .lf, .lf, 59⟩) xl ?_
  show RunsTo F6 [.code (Al 5)] (tm (ofT tlive)) (hp (ofL hlive)) 3267 _
  obtain ⟨H', c1, hA, ho, _⟩ := rounds_call (kp := kpl) ⟨_, _, _, _, rfl⟩ (by kernel_rfl) rl_all (by omega) (nx := 3267 + wide) (H := hp (ofL hlive)) (by decide) (agr_of sl) (flatL_H fll)
  rw [heap_is (h := ofL hlive) (by kernel_rfl) hA ho] at c1
  rw [Al5]
  refine RunsTo.seq (RunsTo.seqs ?_)
  conv in (Array.toList gl6) => whnf
  refine Seqs.step ⟨kpl, []⟩ rfl rfl (o_move rfl rfl) ?_
  refine Seqs.run rfl rfl (o_inl rfl rfl bdr mode_rounds rfl (typed_rounds _ _ _ _ _) c1) (Seqs.nil ?_)
  have hT : putT (putT (tm (ofT tlive)) (some 29) kpl) (some 30) (.tup []) = tm tl6 := by
    unfold tl6
    simp only [tm_put]
  refine (show RunsTo F6 [.code (Al 6)] (putT (putT (tm (ofT tlive)) (some 29) kpl) (some 30) (.tup [])) (hp (putAll (ofL hlive) FKl live_116)) (n14 (3267 + wide)) _ from ?_)
  rw [hT]
  refine go (s := Xl) ul.1 ?_
  rw [ul.2.1]
  exact RunsTo.ret ul.2.2
theorem live_val : valω cfg 6 [] = some (B true) := by
  obtain ⟨T', H', nx', hr, h6⟩ := live_run
  have hc := callω_of (nx := 0) (args := []) fn6 bd6 (by rw [nt6]; exact Nat.le_of_ble_eq_true rfl) (by rw [nt6, tr6, nm6, vt6]; exact hr) (re6 T' H')
  unfold valω byValue
  rw [hc]
  rw [h6]
  rfl
end Top
end Go.AI
