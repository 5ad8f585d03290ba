/-
  Own work. The value interpreter over symbols is sound: calls.
-/
import Derived.Test.YtljhobohpnpedaaAiVok4
namespace Go.AI
open Go
set_option linter.unusedVariables false
set_option linter.unusedSimpArgs false
variable {V : VHeap} {p : Nat → Bool} {β : Type} {r : β}

theorem CK.enc_dec {c : CK} {x : DV} {a : c.ty} (h : c.dec x = some a) : c.enc a = x := by
  cases c with
  | int k =>
    replace h : decInt k x = some a := h
    show DV.v (.int k a) = x
    unfold decInt at h
    split at h
    · split at h
      · rename_i hk; cases h; subst hk; rfl
      · cases h
    · cases h
  | bool =>
    replace h : decBool x = some a := h
    show DV.v (.bool a) = x
    unfold decBool at h
    split at h
    · cases h; rfl
    · cases h
  | str =>
    replace h : decStr x = some a := h
    show DV.v (.string a) = x
    unfold decStr at h
    split at h
    · cases h; rfl
    · cases h
  | lst s =>
    replace h : decLst s x = some a := h
    show DV.lst s a = x
    unfold decLst at h
    split at h
    · split at h
      · rename_i hk; cases h; subst hk; rfl
      · cases h
    · cases h
theorem encL_decL : ∀ {l : List CK} {vs : List AV} {a : tyL l}, decL l vs = some a → encL l a = vs
  | [], [], a, h => rfl
  | [], _ :: _, a, h => by simp [decL] at h
  | c :: r, [], a, h => by simp [decL] at h
  | c :: r, v :: l, a, h => by
    cases v with
    | d x =>
      cases hc : c.dec x with
      | none => simp [decL, hc] at h
      | some a' =>
        cases hd : decL r l with
        | none => simp [decL, hc, hd] at h
        | some b' =>
          simp only [decL, hc, hd] at h
          cases h
          show AV.d (c.enc a') :: encL r b' = _
          rw [CK.enc_dec hc, encL_decL hd]
    | _ => simp [decL] at h
theorem Sh.enc_dec {s : Sh} {v : AV} {a : s.ty} (h : s.dec v = some a) : s.enc a = v := by
  cases s with
  | one c =>
    replace h : decD c v = some a := h
    unfold decD at h
    split at h
    · show AV.d (c.enc a) = _
      rw [CK.enc_dec h]
    · cases h
  | agg cs =>
    replace h : decA cs v = some a := h
    unfold decA at h
    split at h
    · show AV.agg (encL cs a) = _
      rw [encL_decL h]
    · cases h
theorem encT_decT : ∀ {l : List Sh} {vs : List AV} {a : tyS l}, decT l vs = some a → encT l a = vs
  | [], [], a, h => rfl
  | [], _ :: _, a, h => by simp [decT] at h
  | c :: r, [], a, h => by simp [decT] at h
  | c :: r, v :: l, a, h => by
    cases hc : c.dec v with
    | none => simp [decT, hc] at h
    | some a' =>
      cases hd : decT r l with
      | none => simp [decT, hc, hd] at h
      | some b' =>
        simp only [decT, hc, hd] at h
        cases h
        show c.enc a' :: encT r b' = _
        rw [Sh.enc_dec hc, encT_decT hd]
theorem encS_decS {l : List Sh} {v : AV} {a : tyS l} (h : decS l v = some a) : encS l a = v := by
  unfold decS at h
  unfold encS
  cases ho : isOne l with
  | true =>
    rw [ho] at h
    simp only at h
    rw [encT_decT h]
  | false =>
    rw [ho] at h
    simp only at h
    split at h
    · rename_i vs
      have h1 := encT_decT h
      rw [h1]
      have hl : ∀ {l : List Sh} {a : tyS l}, (encT l a).length = l.length := by
        intro l
        induction l with
        | nil => intro a; rfl
        | cons c r ih => intro a; simp only [encT, List.length_cons, ih]
      match vs, h1 with
      | [], _ => rfl
      | [x], h1 =>
        have := hl (l := l) (a := a)
        rw [h1] at this
        match l, this with
        | [_], _ => simp [isOne] at ho
      | _ :: _ :: _, _ => rfl
    · cases h
theorem vpureW_ok {P : Program} {K : FuncId → List AV → Option AV} {f : FuncId} {args : List AV} {k : AV → List Nat → Tree β} (h : (vpureW P K f args V k).run = some r) : ∃ v q, pureCall K f args (den V) = some (v, q) ∧ (k v q).run = some r := by
  unfold vpureW at h
  have e1 : args.flatMap (refsInV V 4) = args.flatMap (refsIn (den V) 4) := by
    rw [show refsInV V 4 = refsIn (den V) 4 from funext (refsInV_eq 4)]
  rw [e1] at h
  split at h
  · rename_i as hs
    split at h
    · rename_i sh hsh
      obtain ⟨c, h1, h⟩ := run_get.1 h
      unfold retOf at h1
      split at h1
      · rename_i v hv
        rw [encS_decS h1] at h
        refine ⟨v, _, ?_, h⟩
        unfold pureCall
        rw [show snapV (args.flatMap (refsIn (den V) 4)).contains V 4 = snap (args.flatMap (refsIn (den V) 4)).contains (den V) 4 from funext (snapV_eq 4)] at hs
        rw [hs]
        simp only [hv]
      · cases h1
    · exact (run_stop.1 h).elim
  · exact (run_stop.1 h).elim
theorem vclone_ok {P : Program} {fr : Nat} {t : TypeId} {args : List AV} {k : VEff → Tree β} (h : (vclone P V fr t args k).run = some r) : ∃ e, cloneA P (den V) fr t args = some (denE e) ∧ (k e).run = some r := by
  unfold vclone at h
  unfold cloneA
  split at h
  · rename_i e0 s0 by0 x ht
    simp only [ht]
    split at h
    · rename_i ys hy
      rw [rowsD_ok hy]
      obtain ⟨h1, h⟩ := run_need.1 h
      simp only [embed_len]
      rw [if_pos h1]
      exact ⟨_, rfl, h⟩
    · exact (run_stop.1 h).elim
  · exact (run_stop.1 h).elim
theorem asCell_d (r : List DV) : asCell (r.map .d) = asCellD r := by
  unfold asCell asCellD
  match r with
  | [] => rfl
  | [.v (.int k n)] => cases k <;> rfl
  | [.v (.bool _)] => rfl
  | [.lst _ _] => rfl
  | [.ptr _ _] => rfl
  | [.fn _ _] => rfl
  | _ :: _ :: _ => simp
  | [.v x] => cases x <;> first | rfl | (rename_i k n; cases k <;> rfl)
theorem vsort_ok {cut : Bool} {args : List AV} {k : VEff → Tree β} (h : (vsort cut V args k).run = some r) : ∃ e, sortA cut (den V) args = some (denE e) ∧ (k e).run = some r := by
  unfold vsort at h
  unfold sortA
  split at h
  · rename_i b ver off len
    cases hb : V b with
    | none => simp [hb, Tree.run] at h
    | some B =>
      rw [hb] at h
      simp only [den_some hb]
      cases B with
      | cell s v row => simp [Tree.run] at h
      | mp ag es => simp [Tree.run] at h
      | raw s1 v1 rows1 => simp [Tree.run] at h
      | drow s v xs =>
        simp only [VBlk.den] at h ⊢
        split at h
        · rename_i hc
          obtain ⟨h1, h⟩ := run_need.1 h
          obtain ⟨l, h2, h⟩ := run_get.1 h
          have e1 : mapO asCell (embed xs) = some l := by
            unfold embed
            rw [mapO_map, ← h2]
            congr 1
            funext a
            exact asCell_d a
          rw [e1]
          simp only [embed_len]
          rw [if_pos ⟨hc.1, hc.2, h1.1, h1.2.1, h1.2.2⟩]
          refine ⟨_, ?_, h⟩
          cases cut <;>
          · simp only [sortE, vsortE, denE, denW, List.map_cons, List.map_nil, denO, VBlk.den, embed, List.map_map]
            rfl
        · exact (run_stop.1 h).elim
  · exact (run_stop.1 h).elim
theorem vcell_ok {C : Cfg} {f : FuncId} {args : List AV} {k : VEff → Tree β} (h : (vcell C f args V k).run = some r) : ∃ e, cellCall (callω C) f args (den V) = some (denE e) ∧ (k e).run = some r := by
  unfold vcell at h
  unfold cellCall
  split at h
  · rename_i b ver i o rest
    split at h
    · rename_i s v xs as hb hs
      rw [show snapV (fun _ => false) V 4 = snap (fun _ => false) (den V) 4 from funext (snapV_eq 4)] at hs
      simp only [den_some hb, VBlk.den, hs]
      split at h
      · rename_i hv
        rw [if_pos hv]
        have hsome : ∃ sh, shapesOf C.P f = some sh := by
          cases hsh : shapesOf C.P f with
          | none => rw [hsh] at h; exact (run_stop.1 h).elim
          | some sh => exact ⟨sh, rfl⟩
        obtain ⟨sh, hsh⟩ := hsome
        rw [hsh] at h
        dsimp only at h
        obtain ⟨cs, h1, h⟩ := run_get.1 h
        obtain ⟨n, h2, h⟩ := run_get.1 h
        obtain ⟨z, h3, h⟩ := run_get.1 h
        replace h2 := dInt_some h2
        have e1 : (cs.map AV.d)[o]? = some (.d (.v (.int .i64 n))) := by rw [List.getElem?_map, h2]; rfl
        simp only [embed_get, h1, Option.map_some, e1]
        obtain ⟨y0, hy0, h3⟩ : ∃ y, cellω C f (.v (.int .i64 n)) as = some (encS sh z.1, y) ∧ y = .v (.int .i64 z.2) := by
          unfold cellT at h3
          split at h3
          · rename_i v y hc
            split at h3
            · rename_i c hd
              split at h3
              · rename_i m hm
                simp only [Option.some.injEq] at h3
                subst h3
                refine ⟨y, by rw [hc, encS_decS hd], ?_⟩
                have := CK.enc_dec (c := .int .i64) hm
                exact this.symm
              · cases h3
            · cases h3
          · cases h3
        subst h3
        replace h3 := hy0
        unfold cellω at h3
        split at h3
        · rename_i v0 Hc nx hk
          rw [hk]
          simp only
          split at h3
          · rename_i v' y hv' hy
            simp only [Option.some.injEq, Prod.mk.injEq] at h3
            obtain ⟨e3, e4⟩ := h3
            subst e4
            rw [e3] at hv'
            simp only [hv', hy]
            refine ⟨_, ?_, h⟩
            have := putCells_data cs [.v (.int .i64 z.2)] o
            simp only [List.map_cons, List.map_nil] at this
            rw [this, embed_set]
            rfl
          · cases h3
        · cases h3
      · exact (run_stop.1 h).elim
    · exact (run_stop.1 h).elim
  · exact (run_stop.1 h).elim
theorem ownBlk_den {ver : Nat} {B B' : VBlk} (h : ownBlk ver B = some B') : ∃ data, B.den = .row B.size ver data ∧ (data.all fun r => r.all isD) = true ∧ B'.den = .row B.size 0 data := by
  cases B with
  | mp ag es => simp [ownBlk] at h
  | raw s1 v1 rows1 => simp [ownBlk] at h
  | drow s v xs =>
    simp only [ownBlk] at h
    split at h
    · rename_i hv
      subst hv
      simp only [Option.some.injEq] at h
      subst h
      refine ⟨embed xs, rfl, ?_, rfl⟩
      simp only [embed, List.all_map, List.all_eq_true]
      intro r _
      simp [isD]
    · cases h
  | cell s v r =>
    simp only [ownBlk] at h
    split at h
    · rename_i hv
      obtain ⟨hv, ha⟩ := hv
      subst hv
      simp only [Option.some.injEq] at h
      subst h
      exact ⟨[r], rfl, by simpa using ha, rfl⟩
    · cases h
theorem vown_ok {C : Cfg} {f : FuncId} {args : List AV} {k : VEff → Tree β} (h : (vown C f args V k).run = some r) : ∃ e, ownCall (callω C) f args (den V) = some (denE e) ∧ (k e).run = some r := by
  unfold vown at h
  unfold ownCall
  split at h
  · rename_i x g b ver ha
    simp only [ha]
    split at h
    · rename_i x' B hs hb
      rw [snapV_eq] at hs
      simp only [hs, den_some hb]
      split at h
      · rename_i B' sh hB hsh
        obtain ⟨data, e1, e2, e3⟩ := ownBlk_den hB
        obtain ⟨c, h1, h⟩ := run_get.1 h
        unfold ownT at h1
        split at h1
        · rename_i v hv
          unfold ownω at hv
          rw [e3] at hv
          split at hv
          · rename_i v0 Hc nx hk
            simp only [e1, e2, hk, hv, and_self, if_true]
            refine ⟨_, ?_, h⟩
            rw [encS_decS h1]
            rfl
          · cases hv
        · cases h1
      · exact (run_stop.1 h).elim
    · exact (run_stop.1 h).elim
  · exact (run_stop.1 h).elim

theorem vlend_ok {C : Cfg} {f : FuncId} {args : List AV} {k : VEff → Tree β} (h : (vlend C f args V k).run = some r) : ∃ e, lendCall (callω C) f args (den V) = some (denE e) ∧ (k e).run = some r := by
  unfold vlend at h
  unfold lendCall
  split at h
  · rename_i x g b ver ha
    simp only [ha]
    split at h
    · rename_i x' B hs hb
      rw [snapV_eq] at hs
      simp only [hs, den_some hb]
      split at h
      · rename_i B' sh hB hsh
        obtain ⟨data, e1, e2, e3⟩ := ownBlk_den hB
        obtain ⟨c, h1, h⟩ := run_get.1 h
        obtain ⟨h2, h⟩ := run_need.1 h
        unfold lendT at h1
        rw [e3] at h1 h2
        split at h1
        · rename_i v0 Hc nx hk
          split at h1
          · rename_i r0 hv
            unfold ansD at h1
            simp only at h1
            split at h1
            · rename_i c0 hc0
              obtain rfl : c = (c0, Hc 0) := (Option.some.inj h1).symm
              replace h2 : Hc 0 = _ := h2
              simp only [e1, e2, hk, hv, h2, and_self, if_true]
              refine ⟨_, ?_, h⟩
              rw [encS_decS hc0]
              simp only [denE, denW, denO, List.map_cons, List.map_nil, e1]
            · cases h1
          · cases h1
        · cases h1
      · exact (run_stop.1 h).elim
    · exact (run_stop.1 h).elim
  · exact (run_stop.1 h).elim
theorem data_id {α : Type} {g : AV → Option AV} (hg : ∀ y, g (.d y) = some (.d y)) : ∀ {l r : List AV}, l.all isD = true → mapO g l = some r → r = l
  | [], r, _, h => by simp only [mapO, Option.some.injEq] at h; exact h.symm
  | x :: l, r, ha, h => by
    simp only [List.all_cons, Bool.and_eq_true] at ha
    cases x with
    | d y =>
      simp only [mapO, hg] at h
      cases hm : mapO g l with
      | none => simp [hm] at h
      | some r' =>
        simp only [hm, Option.some.injEq] at h
        rw [← h, data_id (α := α) hg ha.2 hm]
    | _ => simp [isD] at ha
theorem data_emb {g : AV → Option DV} (hg : ∀ y, g (.d y) = some y) : ∀ {l : List AV} {r : List DV}, l.all isD = true → mapO g l = some r → l = r.map .d
  | [], r, _, h => by simp only [mapO, Option.some.injEq] at h; subst h; rfl
  | x :: l, r, ha, h => by
    simp only [List.all_cons, Bool.and_eq_true] at ha
    cases x with
    | d y =>
      simp only [mapO, hg] at h
      cases hm : mapO g l with
      | none => simp [hm] at h
      | some r' =>
        simp only [hm, Option.some.injEq] at h
        rw [← h, List.map_cons, ← data_emb hg ha.2 hm]
    | _ => simp [isD] at ha
theorem data_embs {g : AV → Option DV} (hg : ∀ y, g (.d y) = some y) : ∀ {l : List (List AV)} {r : List (List DV)}, (l.all fun x => x.all isD) = true → mapO (fun x => mapO g x) l = some r → l = embed r
  | [], r, _, h => by simp only [mapO, Option.some.injEq] at h; subst h; rfl
  | x :: l, r, ha, h => by
    simp only [List.all_cons, Bool.and_eq_true] at ha
    simp only [mapO] at h
    cases hx : mapO g x with
    | none => simp [hx] at h
    | some x' =>
      cases hm : mapO (fun x => mapO g x) l with
      | none => simp [hx, hm] at h
      | some r' =>
        simp only [hx, hm, Option.some.injEq] at h
        rw [← h, data_emb hg ha.1 hx, data_embs hg ha.2 hm]
        rfl
theorem fresh_snap {H : Heap} {v r : AV} {s : Nat} {data : List (List AV)} {rest : List AV} (h : freshOf H v = some (s, data, rest)) (hs : snap allB H 4 v = some r) : ∃ xs, data = embed xs ∧ r = .tup (.d (.lst s xs) :: rest) := by
  have hd : ∀ n y, snap allB H (n + 1) (.d y) = some (.d y) := fun n y => rfl
  unfold freshOf at h
  split at h
  · rename_i b ver off len rest0
    split at h
    · rename_i s' ver' data' hb
      split at h
      · rename_i hc
        obtain ⟨rfl, rfl, rfl, h1, h2⟩ := hc
        simp only [Option.some.injEq, Prod.mk.injEq] at h
        obtain ⟨rfl, rfl, rfl⟩ := h
        simp only [snap, mapO, toD, allB, if_true, hb, List.drop_zero, List.take_length] at hs
        cases hx : mapO (fun r => mapO (toD allB H 3) r) data' with
        | none => simp [hx] at hs
        | some xs =>
          cases hm : mapO (snap allB H 3) rest0 with
          | none => simp [hx, hm] at hs
          | some rest' =>
            simp only [hx, hm, Option.some.injEq] at hs
            refine ⟨xs, data_embs (fun y => rfl) h1 hx, ?_⟩
            rw [← hs, data_id (α := Unit) (g := snap allB H 3) (fun y => rfl) h2 hm]
      · cases h
    · cases h
  · rename_i s' rest0
    split at h
    · rename_i h2
      simp only [Option.some.injEq, Prod.mk.injEq] at h
      obtain ⟨rfl, rfl, rfl⟩ := h
      simp only [snap, mapO, toD] at hs
      cases hm : mapO (snap allB H 3) rest0 with
      | none => simp [hm] at hs
      | some rest' =>
        simp only [hm, Option.some.injEq] at hs
        exact ⟨[], rfl, by rw [← hs, data_id (α := Unit) (g := snap allB H 3) (fun y => rfl) h2 hm]⟩
    · cases h
  · cases h
theorem vfresh_ok {C : Cfg} {f : FuncId} {args : List AV} {fr : Nat} {k : VEff → Tree β} (h : (vfresh C f args V fr k).run = some r) : ∃ e, freshCall (callω C) f args (den V) fr = some (denE e) ∧ (k e).run = some r := by
  unfold vfresh at h
  unfold freshCall
  split at h
  · rename_i as hs
    rw [show snapV (fun _ => false) V 4 = snap (fun _ => false) (den V) 4 from funext (snapV_eq 4)] at hs
    simp only [hs]
    split at h
    · rename_i sh hsh
      obtain ⟨c, h1, h⟩ := run_get.1 h
      unfold freshT at h1
      split at h1
      · rename_i v Hc nx hk
        split at h1
        · rename_i z r0 hf hv
          obtain ⟨s, data, rest⟩ := z
          obtain ⟨xs, rfl, rfl⟩ := fresh_snap hf hv
          rw [encS_decS h1] at h
          simp only at h
          simp only [hk, hf, embed_len]
          refine ⟨_, ?_, h⟩
          simp only [denE, denW, denO, List.map_cons, List.map_nil, VBlk.den]
        · cases h1
      · cases h1
    · exact (run_stop.1 h).elim
  · exact (run_stop.1 h).elim
end Go.AI
