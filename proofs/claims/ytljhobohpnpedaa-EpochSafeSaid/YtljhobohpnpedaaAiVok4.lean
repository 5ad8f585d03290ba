/-
  Own work. The value interpreter over symbols is sound: addresses, literals, every operation that is no call of a function.
-/
import Derived.Test.YtljhobohpnpedaaAiVok3
namespace Go.AI
open Go
set_option linter.unusedVariables false
set_option linter.unusedSimpArgs false
variable {V : VHeap} {p : Nat → Bool} {β : Type} {r : β}

theorem vindex_ok {P : Program} {F : Fm} {fr : Nat} {t : TypeId} {ρ : Operand → AV} {x ix : Operand} {o : Oper} (ho : o.op = .indexAddr t x ix) {k : VEff → Tree β} (h : (vindex P V t (ρ x) (ρ ix) k).run = some r) : ∃ e, eff P F ρ (den V) fr o = some (denE e) ∧ (k e).run = some r := by
  obtain ⟨dst, op, type, pos, after, guard⟩ := o
  simp only at ho
  subst ho
  simp only [eff]
  unfold vindex at h
  cases hi : asInt (ρ ix) with
  | none => simp [hi, Tree.run] at h
  | some i =>
    simp only [hi] at h ⊢
    split at h
    · rename_i e0 hu
      simp only [hu]
      cases ht : tsl P t with
      | none => simp [ht, Tree.run] at h
      | some q =>
        obtain ⟨e1, s0, by0⟩ := q
        simp only [ht] at h ⊢
        have byv : ∀ {s : Nat} {xs : List (List DV)}, (if s = s0 then Tree.need (0 ≤ i) inferInstance (Tree.get xs[i.toNat]? fun r => k ⟨.d (.ptr r 0), []⟩) else Tree.stop).run = some r →
            ∃ e, (if s = s0 ∧ 0 ≤ i then (match xs[i.toNat]? with | some r => some (⟨.d (.ptr r 0), []⟩ : Eff) | none => none) else none) = some (denE e) ∧ (k e).run = some r := by
          intro s xs h
          split at h
          · rename_i hs
            obtain ⟨h1, h⟩ := run_need.1 h
            obtain ⟨row, h2, h⟩ := run_get.1 h
            rw [if_pos ⟨hs, h1⟩, h2]
            exact still_ok h
          · exact (run_stop.1 h).elim
        split at h
        · rename_i s xs hx
          simp only [hx]
          exact byv h
        · rename_i s xs hx
          simp only [hx]
          exact byv h
        · rename_i b ver off len hx
          simp only [hx]
          cases hb : V b with
          | none => simp [hb, Tree.run] at h
          | some B =>
            rw [hb] at h
            rw [den_some hb]
            cases B with
            | cell s v row => simp [Tree.run] at h
            | mp ag es => simp [Tree.run] at h
            | raw s1 v1 rows1 => simp [Tree.run] at h
            | drow s v xs =>
              simp only [VBlk.den] at h ⊢
              split at h
              · rename_i hc
                obtain ⟨h1, h⟩ := run_need.1 h
                rw [if_pos ⟨hc.1, hc.2, h1.1, h1.2⟩]
                exact still_ok h
              · exact (run_stop.1 h).elim
        · exact (run_stop.1 h).elim
    · rename_i hne
      split at h
      · rename_i n s b ver j o' ht hx
        simp only [ht, hx]
        obtain ⟨h1, h⟩ := run_need.1 h
        rw [if_pos h1]
        exact still_ok h
      · exact (run_stop.1 h).elim
theorem vrows_ok {q : Nat → Bool} {rows : List (List AV)} {xs : List (List DV)} (h : vrows q V rows = some xs) : (rows.map fun r => r.map fun v => deNil (frzV q (den V) 4 v)) = embed xs := by
  unfold vrows at h
  have inner : ∀ (r : List AV) (x : List DV), mapO (fun v => asD (deNil (frzVV q V 4 v))) r = some x → (r.map fun v => deNil (frzV q (den V) 4 v)) = x.map .d := by
    intro r x h
    rw [← mapO_map (f := asD)] at h
    rw [← mapO_asD h]
    exact List.map_congr_left fun v _ => by rw [frzVV_eq]
  induction rows generalizing xs with
  | nil => simp [mapO] at h; subst h; rfl
  | cons r rows ih =>
    simp only [mapO] at h
    cases hr : mapO (fun v => asD (deNil (frzVV q V 4 v))) r with
    | none => simp [hr] at h
    | some y =>
      simp only [hr] at h
      split at h
      · rename_i l hl
        simp at h; subst h
        simp only [List.map_cons, embed]
        rw [inner r y hr]
        have := ih hl
        unfold embed at this
        rw [this]
      · cases h
theorem vbuildSlice_ok {P : Program} {F : Fm} {fr : Nat} {t : TypeId} {n : Nat} {ρ : Operand → AV} {ps : Array (Nat × Operand)} {o : Oper} (ho : o.op = .buildSlice t n ps) {k : VEff → Tree β} (h : (vbuildSlice P F V fr t n (ps.toList.map fun q => (q.1, tyFld P t q.1 (ρ q.2))) k).run = some r) :
    ∃ e, eff P F ρ (den V) fr o = some (denE e) ∧ (k e).run = some r := by
  obtain ⟨dst, op, type, pos, after, guard⟩ := o
  simp only at ho
  subst ho
  simp only [eff]
  unfold vbuildSlice at h
  cases ht : tsl P t with
  | none => simp [ht, Tree.run] at h
  | some q =>
    obtain ⟨e0, s, by0⟩ := q
    simp only [ht] at h ⊢
    split at h
    · rename_i rows hr
      simp only [hr]
      split at h
      · rename_i hc
        rw [if_pos ⟨hc.1, hc.2.1⟩, if_pos hc.2.2]
        split at h
        · rename_i xs hx
          refine ⟨_, ?_, h⟩
          rw [vrows_ok hx]
          simp only [denE, denW, List.map_cons]
          have := den_killed V (refsOf rows)
          unfold denW at this
          rw [this]
          rfl
        · exact (run_stop.1 h).elim
      · exact (run_stop.1 h).elim
    · exact (run_stop.1 h).elim
theorem replicate_embed (n : Nat) (z : List DV) : List.replicate n (z.map AV.d) = embed (List.replicate n z) := by simp [embed]
theorem vmakeSlice_ok {P : Program} {F : Fm} {fr : Nat} {t : TypeId} {ρ : Operand → AV} {l c : Operand} {o : Oper} (ho : o.op = .makeSlice t l c) {k : VEff → Tree β} (h : (vmakeSlice P F fr t (ρ l) (ρ c) k).run = some r) : ∃ e, eff P F ρ (den V) fr o = some (denE e) ∧ (k e).run = some r := by
  obtain ⟨dst, op, type, pos, after, guard⟩ := o
  simp only at ho
  subst ho
  simp only [eff]
  unfold vmakeSlice at h
  cases ht : tsl P t with
  | none => simp [ht, Tree.run] at h
  | some q =>
    obtain ⟨e0, s, by0⟩ := q
    simp only [ht] at h ⊢
    split at h
    · rename_i z n m hz hn hm
      simp only [hz, hn, hm]
      split at h
      · rename_i hc
        split at h
        · rename_i zd hzd
          obtain ⟨h1, h⟩ := run_need.1 h
          rw [if_pos ⟨h1.1, h1.2.1, h1.2.2.1, h1.2.2.2, hc.1⟩, if_pos hc.2]
          refine ⟨_, ?_, h⟩
          rw [← mapO_map (f := asD)] at hzd
          rw [mapO_asD hzd, replicate_embed]
          rfl
        · exact (run_stop.1 h).elim
      · exact (run_stop.1 h).elim
    · exact (run_stop.1 h).elim
theorem embed_take (xs : List (List DV)) (n : Nat) : (embed xs).take n = embed (xs.take n) := by unfold embed; rw [List.map_take]
theorem vcopy_ok {P : Program} {t : TypeId} {x y : AV} {k : VEff → Tree β} (h : (vcopy P V t x y k).run = some r) : ∃ e, copyA P (den V) t x y = some (denE e) ∧ (k e).run = some r := by
  unfold vcopy at h
  unfold copyA
  cases ht : tsl P t with
  | none => simp [ht, Tree.run] at h
  | some q =>
    obtain ⟨e0, s0, by0⟩ := q
    simp only [ht] at h ⊢
    split at h
    · rename_i ys b ver off len hy
      simp only [rowsD_ok hy]
      cases hb : V b with
      | none => simp [hb, Tree.run] at h
      | some B =>
        rw [hb] at h
        rw [den_some hb]
        cases B with
        | cell s v row => simp [Tree.run] at h
        | mp ag es => simp [Tree.run] at h
        | raw s1 v1 rows1 => simp [Tree.run] at h
        | drow s v xs =>
          simp only [VBlk.den, embed_len] at h ⊢
          split at h
          · rename_i hc
            rw [if_pos hc]
            refine ⟨_, ?_, h⟩
            rw [embed_take, embed_over]; rfl
          · exact (run_stop.1 h).elim
    · exact (run_stop.1 h).elim
theorem vclear_ok {P : Program} {t : TypeId} {x : AV} {k : VEff → Tree β} (h : (vclear P V t x k).run = some r) : ∃ e, clearA P (den V) t x = some (denE e) ∧ (k e).run = some r := by
  unfold vclear at h
  unfold clearA
  cases ht : tsl P t with
  | none => simp [ht, Tree.run] at h
  | some q =>
    obtain ⟨e0, s0, by0⟩ := q
    simp only [ht] at h ⊢
    split at h
    · rename_i z b ver off len hz
      simp only [hz]
      split at h
      · rename_i s v xs zd hb hzd
        rw [den_some hb]
        simp only [VBlk.den]
        split at h
        · rename_i hc
          rw [if_pos hc]
          refine ⟨_, ?_, h⟩
          rw [mapO_asD hzd, replicate_embed, embed_over]; rfl
        · exact (run_stop.1 h).elim
      · exact (run_stop.1 h).elim
    · exact (run_stop.1 h).elim
theorem vbuiltin_ok {pt : Bool} {P : Program} {fr : Nat} {b : Builtin} {ts : List TypeId} {args : List AV} {k : VEff → Tree β} (h : (vbuiltin P pt V fr b ts args k).run = some r) : ∃ e, builtinA P (den V) fr b ts args = some (denE e) ∧ (k e).run = some r := by
  unfold vbuiltin at h
  split at h
  · rename_i t u l x y
    simp only [builtinA]
    split at h
    · exact (run_stop.1 h).elim
    · rename_i hu
      rw [if_neg hu]
      split at h
      · rename_i e hd
        simp only [hd]
        exact vappend_ok h
      · exact (run_stop.1 h).elim
  · exact vcopy_ok h
  · exact vclear_ok h
  · rename_i h1 h2 h3
    split at h
    · rename_i v hv
      refine ⟨⟨v, []⟩, ?_, h⟩
      rw [show denE ⟨v, []⟩ = (⟨v, []⟩ : Eff) from rfl, ← hv]
      unfold builtinA
      split
      · rename_i t u l x y; exact absurd rfl (h1 t u l x y rfl rfl)
      · rfl
      · rename_i t l x y; exact absurd rfl (h2 t l x y rfl rfl)
      · rename_i t l x; exact absurd rfl (h3 t l x rfl rfl)
      · rfl
      · rfl
      · rfl
    · exact (run_stop.1 h).elim
/-- What is known of bools is so. -/
theorem vpick_ok {P : Program} {F : Fm} {fr : Nat} {ρ : Operand → AV} {c a b : Operand} {o : Oper} (ho : o.op = .pick c a b) {k : VEff → Tree β} (h : (vpick (ρ c) (ρ a) (ρ b) k).run = some r) : ∃ e, eff P F ρ (den V) fr o = some (denE e) ∧ (k e).run = some r := by
  obtain ⟨dst, op, type, pos, after, guard⟩ := o
  simp only at ho
  subst ho
  simp only [eff]
  unfold vpick at h
  split at h
  · rename_i t hc
    simp only [hc]
    split at h
    · rename_i x y hx hy
      rw [hx, hy]
      refine ⟨_, ?_, h⟩
      cases t <;> rfl
    · rcases run_ask.1 h with ⟨h1, h⟩ | ⟨h1, h⟩
      · subst h1; exact still_ok h
      · subst h1; exact still_ok h
  · exact (run_stop.1 h).elim
theorem plain_ok {P : Program} {F : Fm} {fr : Nat} {ρ : Operand → AV} {o : Oper} (hp : plainOp o.op = true) (H : Heap) : eff P F ρ noHeap fr o = eff P F ρ H fr o := by
  obtain ⟨dst, op, type, pos, after, guard⟩ := o
  cases op <;> simp [plainOp] at hp <;> simp only [eff]
  rename_i f first caps
  cases f <;> simp only [eff]
theorem vnum_ok {P : Program} {op : BinOp} {t : TypeId} {x y : AV} {k : VEff → Tree β} (h : (vnum op x y k).run = some r) : ∃ e, (match binA P op t x y with | some v => some (⟨v, []⟩ : Eff) | none => none) = some (denE e) ∧ (k e).run = some r := by
  unfold vnum at h
  split at h
  · rename_i kd a kd' b
    split at h
    · split at h
      · rename_i hk
        obtain ⟨h1, h⟩ := run_need.1 h
        simp only [binA, intOp, if_pos hk, if_neg h1]
        exact still_ok h
      · exact (run_stop.1 h).elim
    · split at h
      · rename_i hk
        obtain ⟨h1, h⟩ := run_need.1 h
        simp only [binA, intOp, if_pos hk, if_neg h1]
        exact still_ok h
      · exact (run_stop.1 h).elim
    · obtain ⟨h1, h⟩ := run_need.1 h
      simp only [binA, shiftOp, if_neg (Int.not_lt.2 h1)]
      exact still_ok h
    · obtain ⟨h1, h⟩ := run_need.1 h
      simp only [binA, shiftOp, if_neg (Int.not_lt.2 h1)]
      exact still_ok h
    · exact (run_stop.1 h).elim
  · exact (run_stop.1 h).elim
theorem keyD_eq {v : AV} {ag : Bool} {kd : List DV} (h : keyD v = some (ag, kd)) : v = keyAV ag kd := by
  unfold keyD at h
  split at h
  · split at h
    · rename_i cs l hl
      cases h
      rw [mapO_asD hl]; rfl
    · cases h
  · cases h; rfl
  · cases h
theorem mapHas_ok {ks : Option (List Bool)} {kd : List DV} {es : List (List DV × DV)} {z : Bool} (h : mapHas ks kd es = some z) :
    keyOk ks (keyAV ks.isSome kd) = true ∧ ∃ q, findA ks (keyAV ks.isSome kd) (es.map (entAV ks.isSome)) = some q ∧ q.getD (.d (.v (.bool false))) = .d (.v (.bool z)) := by
  unfold mapHas at h
  split at h
  · rename_i hk
    refine ⟨hk, ?_⟩
    split at h
    · rename_i hf; cases h; exact ⟨_, hf, rfl⟩
    · rename_i b hf; cases h; exact ⟨_, hf, rfl⟩
    · cases h
  · cases h
theorem mapPutD_ok {ks : Option (List Bool)} {kd : List DV} {v : DV} : ∀ {es es' : List (List DV × DV)}, mapPutD ks kd v es = some es' → putA ks (keyAV ks.isSome kd) (.d v) (es.map (entAV ks.isSome)) = some (es'.map (entAV ks.isSome))
  | [], es', h => by simp [mapPutD] at h; subst h; rfl
  | e :: es, es', h => by
    simp only [mapPutD] at h
    simp only [List.map_cons, putA]
    have e1 : (entAV ks.isSome e).1 = keyAV ks.isSome e.1 := rfl
    rw [e1]
    cases hk : keyEq ks (keyAV ks.isSome kd) (keyAV ks.isSome e.1) with
    | none => simp [hk] at h
    | some b =>
      cases b with
      | true => simp [hk] at h; subst h; rfl
      | false =>
        simp only [hk] at h ⊢
        cases hp : mapPutD ks kd v es with
        | none => simp [hp] at h
        | some l =>
          simp [hp] at h; subst h
          rw [mapPutD_ok hp]; rfl
theorem vmakeMap_ok {P : Program} {F : Fm} {fr : Nat} {t : TypeId} {ρ : Operand → AV} {x : Option Operand} {o : Oper} (ho : o.op = .makeMap t x) {k : VEff → Tree β} (h : (vmakeMap P fr t (x.map ρ) k).run = some r) : ∃ e, eff P F ρ (den V) fr o = some (denE e) ∧ (k e).run = some r := by
  obtain ⟨dst, op, type, pos, after, guard⟩ := o
  simp only at ho
  subst ho
  simp only [eff]
  unfold vmakeMap at h
  split at h
  · rename_i ks z ht
    simp only [ht]
    cases x with
    | none =>
      simp only [Option.map_none] at h ⊢
      exact ⟨_, rfl, h⟩
    | some y =>
      simp only [Option.map_some] at h ⊢
      split at h
      · rename_i n hn
        simp only [hn]
        exact ⟨_, rfl, h⟩
      · exact (run_stop.1 h).elim
  · exact (run_stop.1 h).elim
theorem vlookup_ok {P : Program} {F : Fm} {fr : Nat} {t : TypeId} {ρ : Operand → AV} {x y : Operand} {ok : Bool} {o : Oper} (ho : o.op = .lookup t x y ok) {k : VEff → Tree β} (h : (vlookup P V t (ρ x) (ρ y) ok k).run = some r) : ∃ e, eff P F ρ (den V) fr o = some (denE e) ∧ (k e).run = some r := by
  obtain ⟨dst, op, type, pos, after, guard⟩ := o
  simp only at ho
  subst ho
  simp only [eff]
  unfold vlookup at h
  split at h
  · exact (run_stop.1 h).elim
  · split at h
    · rename_i ks b ag kd ht hx hk
      simp only [ht, hx]
      split at h
      · rename_i ag' es hb
        split at h
        · rename_i hc
          obtain ⟨rfl, rfl⟩ := hc
          obtain ⟨z, hz, h⟩ := run_get.1 h
          obtain ⟨h1, q, h2, h3⟩ := mapHas_ok hz
          simp only [den_some hb, VBlk.den, keyD_eq hk, h1, h2, if_true]
          refine ⟨_, ?_, h⟩
          simp only [Bool.false_eq_true, if_false, h3]
          rfl
        · exact (run_stop.1 h).elim
      · exact (run_stop.1 h).elim
    · exact (run_stop.1 h).elim
theorem vmapUpdate_ok {P : Program} {F : Fm} {fr : Nat} {t : TypeId} {ρ : Operand → AV} {m y x : Operand} {o : Oper} (ho : o.op = .mapUpdate t m y x) {k : VEff → Tree β} (h : (vmapUpdate P V t (ρ m) (ρ y) (ρ x) k).run = some r) : ∃ e, eff P F ρ (den V) fr o = some (denE e) ∧ (k e).run = some r := by
  obtain ⟨dst, op, type, pos, after, guard⟩ := o
  simp only at ho
  subst ho
  simp only [eff]
  unfold vmapUpdate at h
  split at h
  · rename_i ks z b ag kd d ht hx hk hd
    simp only [ht, hx, hd]
    split at h
    · rename_i ag' es hb
      split at h
      · rename_i hc
        obtain ⟨rfl, rfl⟩ := hc
        obtain ⟨es', hz, h⟩ := run_get.1 h
        unfold mapPut at hz
        split at hz
        · rename_i h1
          simp only [den_some hb, VBlk.den, keyD_eq hk, h1, mapPutD_ok hz, if_true]
          exact ⟨_, rfl, h⟩
        · cases hz
      · exact (run_stop.1 h).elim
    · exact (run_stop.1 h).elim
  · exact (run_stop.1 h).elim
theorem veff_ok {pt : Bool} {P : Program} {F : Fm} {fr : Nat} {ρ : Operand → AV} {o : Oper} {k : VEff → Tree β} (h : (veff P pt F ρ V fr o k).run = some r) : ∃ e, eff P F ρ (den V) fr o = some (denE e) ∧ (k e).run = some r := by
  have plainCase : ∀ {op : Op}, o.op = op → (if plainOp op then vplain P F ρ fr o k else Tree.stop).run = some r → ∃ e, eff P F ρ (den V) fr o = some (denE e) ∧ (k e).run = some r := by
    intro op hop h
    split at h
    · rename_i hp
      rw [← plain_ok (by rw [hop]; exact hp) (den V)]
      unfold vplain at h
      split at h
      · rename_i v hv
        rw [hv]; exact still_ok h
      · exact (run_stop.1 h).elim
    · exact (run_stop.1 h).elim
  cases hop : o.op with
  | assign x =>
    have h' : (vassign P pt F V o.type o.dst (ρ x) k).run = some r := by unfold veff at h; simpa only [hop] using h
    have := vassign_ok h'
    obtain ⟨dst, op, type, pos, after, guard⟩ := o
    simp only at hop
    subst hop
    simpa only [eff] using this
  | pick c a b =>
    have h' : (vpick (ρ c) (ρ a) (ρ b) k).run = some r := by unfold veff at h; simpa only [hop] using h
    exact vpick_ok hop h'
  | alloc t =>
    unfold veff at h
    simp only [hop] at h
    obtain ⟨dst, op, type, pos, after, guard⟩ := o
    simp only at hop
    subst hop
    simp only [eff]
    split at h
    · rename_i z hz
      simp only [hz]
      split at h
      · rename_i n zd hn hzd
        have hz' := mapO_asD hzd
        refine ⟨_, ?_, h⟩
        rw [hz']
        have hnz : nzL F.vt (zd.map AV.d) = zd.map AV.d := by
          unfold nzL
          split
          · rw [List.map_map]; rfl
          · rfl
        rw [hnz]
        unfold mkRow
        rw [virt_data]
        simp [denE, denW, denO, VBlk.den, embed]
      · exact vmkRow_ok h
    · exact (run_stop.1 h).elim
  | box t x =>
    unfold veff at h
    simp only [hop] at h
    obtain ⟨dst, op, type, pos, after, guard⟩ := o
    simp only at hop
    subst hop
    simp only [eff]
    split at h
    · rename_i hz
      rw [if_pos hz]
      exact vmkRow_ok h
    · exact (run_stop.1 h).elim
  | buildSlice t n ps =>
    have h' : (vbuildSlice P F V fr t n (ps.toList.map fun q => (q.1, tyFld P t q.1 (ρ q.2))) k).run = some r := by unfold veff at h; simpa only [hop] using h
    exact vbuildSlice_ok hop h'
  | load t a =>
    have h' : (vload P V t (ρ a) k).run = some r := by unfold veff at h; simpa only [hop] using h
    exact vload_ok rfl hop h'
  | store t a x =>
    have h' : (vstore P F.vt V fr t (ρ a) (ρ x) k).run = some r := by unfold veff at h; simpa only [hop] using h
    exact vstore_ok hop h'
  | binOp op t x y u =>
    unfold veff at h
    simp only [hop] at h
    obtain ⟨dst, op', type, pos, after, guard⟩ := o
    simp only at hop
    subst hop
    simp only [eff]
    split at h
    · exact vnum_ok h
    · exact vnum_ok h
    · exact vnum_ok h
    · exact vnum_ok h
    · split at h
      · rename_i v hv
        rw [hv]; exact still_ok h
      · exact (run_stop.1 h).elim
  | makeSlice t l c =>
    have h' : (vmakeSlice P F fr t (ρ l) (ρ c) k).run = some r := by unfold veff at h; simpa only [hop] using h
    exact vmakeSlice_ok hop h'
  | slice t x lo hi mx =>
    have h' : (vslice P V t (ρ x) (lo.map ρ) (hi.map ρ) (mx.map ρ) k).run = some r := by unfold veff at h; simpa only [hop] using h
    obtain ⟨v, h1, h2⟩ := vslice_ok h'
    obtain ⟨dst, op', type, pos, after, guard⟩ := o
    simp only at hop
    subst hop
    simp only [eff, h1]
    exact still_ok h2
  | indexAddr t x ix =>
    have h' : (vindex P V t (ρ x) (ρ ix) k).run = some r := by unfold veff at h; simpa only [hop] using h
    exact vindex_ok hop h'
  | makeMap t x =>
    have h' : (vmakeMap P fr t (x.map ρ) k).run = some r := by unfold veff at h; simpa only [hop] using h
    exact vmakeMap_ok hop h'
  | lookup t x y ok =>
    have h' : (vlookup P V t (ρ x) (ρ y) ok k).run = some r := by unfold veff at h; simpa only [hop] using h
    exact vlookup_ok hop h'
  | mapUpdate t m y x =>
    have h' : (vmapUpdate P V t (ρ m) (ρ y) (ρ x) k).run = some r := by unfold veff at h; simpa only [hop] using h
    exact vmapUpdate_ok hop h'
  | call c =>
    unfold veff at h
    simp only [hop] at h
    obtain ⟨dst, op', type, pos, after, guard⟩ := o
    simp only at hop
    subst hop
    simp only [eff]
    split at h
    · rename_i b hb
      simp only [hb]
      exact vbuiltin_ok h
    · exact (run_stop.1 h).elim
  | _ =>
    unfold veff at h
    simp only [hop] at h
    exact plainCase hop h
end Go.AI
