/-
  Own work. An operation that is no call of a function: 'eff' is what the model does.
-/
import Derived.Test.YtljhobohpnpedaaAiOps9
import Derived.Calls
namespace Go.AI
open Go
set_option linter.unusedVariables false
set_option linter.unusedSimpArgs false
variable {P : Program} {O : Nat → Prop} {ι : Inj} {H H0 : Heap} {w : World}

/-- A frame's values. -/
def TR (O : Nat → Prop) (ι : Inj) (w : World) (T : Tmps) (a : Act) : Prop := ∀ t, R O ι w (T t) (a.tmps.getD t undef)
theorem constA_R (x : Value) : R O ι w (constA x) x := by
  unfold constA
  split <;> simp [R, DR]
theorem aeval_R {T : Tmps} {a : Act} (h : TR O ι w T a) (x : Operand) : R O ι w (aeval T x) (a.eval x) := by
  cases x with
  | tmp t => exact h t
  | const v => exact constA_R v
  | global g => simp [aeval, R]
  | func f => simp only [aeval, Act.eval, R]; exact ⟨[], by simp, by simp [Rl]⟩
theorem aevals_R {T : Tmps} {a : Act} (h : TR O ι w T a) : ∀ l : List Operand, Rl O ι w (l.map (aeval T)) (l.map a.eval)
  | [] => by simp [Rl]
  | x :: r => by simp only [List.map_cons, Rl]; exact ⟨_, _, rfl, aeval_R h x, aevals_R h r⟩
theorem Post.weaken {N N' : Nat → Prop} {e : Eff} {cv : Value} {w' : World} {ι' : Inj} (h : Post O ι H w N e cv w' ι') (hn : ∀ b, N b → N' b) : Post O ι H w N' e cv w' ι' :=
  ⟨h.hr, h.val, h.ex, fun b h1 h2 => hn b (h.new b h1 h2)⟩
theorem SimN.weaken {N N' : Nat → Prop} {s : Sem Next} {e : Eff} (h : SimN P O ι H w N s e) (hn : ∀ b, N b → N' b) : SimN P O ι H w N' s e := by
  obtain ⟨nx, cv, w', ι', h1, h2, h3⟩ := h
  exact ⟨nx, cv, w', ι', h1, h2, h3.weaken hn⟩
theorem SimN.of_eq {N : Nat → Prop} {s s' : Sem Next} {e : Eff} (h : SimN P O ι H w N s e) (hs : s'.run P w = s.run P w) : SimN P O ι H w N s' e := by
  obtain ⟨nx, cv, w', ι', h1, h2, h3⟩ := h
  exact ⟨nx, cv, w', ι', by rw [hs]; exact h1, h2, h3⟩
theorem lenA_R {x : AV} {c : Value} {n : Int} (h : lenA x = some n) (hr : R O ι w x c) : ∃ (a : Option Addr) (m cap : Nat), c = .slice a m cap ∧ n = m := by
  cases x with
  | d y =>
    cases y with
    | lst s xs =>
      simp [lenA] at h
      simp only [R, DR] at hr
      obtain ⟨a, cap, rfl, _⟩ := hr
      exact ⟨a, _, cap, rfl, h.symm⟩
    | _ => simp [lenA] at h
  | ex s xs =>
    simp [lenA] at h
    simp only [R] at hr
    obtain ⟨a, rfl, _⟩ := hr
    exact ⟨a, _, _, rfl, h.symm⟩
  | nil s =>
    simp [lenA] at h
    simp only [R] at hr; subst hr
    exact ⟨none, 0, 0, rfl, by simp [h.symm]⟩
  | ref b ver off len =>
    simp [lenA] at h
    simp only [R] at hr
    obtain ⟨e, _, _, _, ⟨a, cap, rfl⟩, _⟩ := hr
    exact ⟨a, len, cap, rfl, h.symm⟩
  | _ => simp [lenA] at h
theorem two_args {T : Tmps} {l : Array Operand} {x y : AV} (h : l.toList.map (aeval T) = [x, y]) : ∃ ox oy, l = #[ox, oy] ∧ x = aeval T ox ∧ y = aeval T oy := by
  obtain ⟨l⟩ := l
  match l, h with
  | [a, b], h => simp at h; exact ⟨a, b, rfl, h.1.symm, h.2.symm⟩
theorem one_arg {T : Tmps} {l : Array Operand} {x : AV} (h : l.toList.map (aeval T) = [x]) : ∃ ox, l = #[ox] ∧ x = aeval T ox := by
  obtain ⟨l⟩ := l
  match l, h with
  | [a], h => simp at h; exact ⟨a, rfl, h.symm⟩
theorem minmax_R {l : List AV} {cs : List Value} {mx : Bool} {n : Int} (h : minmaxA mx l = some n) (hr : Rl O ι w l cs) : ∃ a b, cs = [.int .i64 a, .int .i64 b] ∧ n = (if mx then (if b > a then b else a) else (if b < a then b else a)) := by
  unfold minmaxA at h
  split at h
  · rename_i a b
    simp at h
    simp only [Rl, R, DR] at hr
    obtain ⟨v, l', rfl, rfl, v2, l2, rfl, rfl, rfl⟩ := hr
    exact ⟨a, b, rfl, h.symm⟩
  · cases h
theorem PR_of {T : Tmps} {a : Act} (h : TR O ι w T a) (t : TypeId) : ∀ ps : List (Nat × Operand), PR O ι w (ps.map fun q => (q.1, tyFld P t q.1 (aeval T q.2))) (ps.map fun q => (q.1, a.eval q.2))
  | [] => by simp [PR]
  | q :: r => by
    simp only [List.map_cons, PR]
    exact ⟨_, _, rfl, tyFld_R (aeval_R h q.2), PR_of h t r⟩
theorem OR_map {T : Tmps} {a : Act} (h : TR O ι w T a) (x : Option Operand) : OR O ι w (x.map (aeval T)) (x.map a.eval) := by
  cases x with
  | none => simp [OR]
  | some x => simp only [Option.map_some, OR]; exact aeval_R h x

theorem bltin_sim (hH : HR O ι H w) (h0 : ∀ b B, H0 b = some B → H b = some B) {fr : Nat} (hfr : ∀ b, fr ≤ b → b < fr + 16 → ι b = none) {T : Tmps} {a : Act} (hT : TR O ι w T a) {b : Builtin} {ts : Array TypeId} {args : Array Operand} {ty : TypeId} {consts : Array Bool} {e : Eff}
    (he : builtinA P H0 fr b ts.toList (args.toList.map (aeval T)) = some e) : SimN P O ι H w (fun b => fr ≤ b ∧ b < fr + 16) (builtin b ts ty consts (args.map a.eval)) e := by
  unfold builtinA at he
  split at he
  · rename_i t u r x y hts hargs
    obtain ⟨ox, oy, rfl, rfl, rfl⟩ := two_args hargs
    have hm : Array.map a.eval #[ox, oy] = #[a.eval ox, a.eval oy] := by simp
    rw [hm]
    split at he
    · cases he
    · split at he
      · rename_i d hu
        have h1 : ts[0]? = some t := by rw [← Array.getElem?_toList, hts]; rfl
        have h2 : ts[1]? = some u := by rw [← Array.getElem?_toList, hts]; rfl
        exact (append_sim hH h0 (N := fun b => fr ≤ b ∧ b < fr + 16) ⟨Nat.le_refl _, by omega⟩ (hfr fr (Nat.le_refl _) (by omega)) ⟨d, hu⟩ (aeval_R hT ox) (aeval_R hT oy) he ts h1 h2).value
      · cases he
  · rename_i t r x hts hargs
    obtain ⟨ox, rfl, rfl⟩ := one_arg hargs
    have hm : Array.map a.eval #[ox] = #[a.eval ox] := by simp
    rw [hm]
    have h1 : ts[0]? = some t := by rw [← Array.getElem?_toList, hts]; rfl
    split at he
    · rename_i d hu
      split at he
      · rename_i n hn
        simp at he; subst he
        obtain ⟨a', m, cap, hc, rfl⟩ := lenA_R hn (aeval_R hT ox)
        refine (Sim.still (P := P) hH (s := Builtin.len_ ts ty #[a.eval ox]) (v := .d (.v (.int .i64 m))) (cv := goInt m) ?_ (by simp [R, DR, goInt])).value
        rw [hc]
        simp [Builtin.len_, h1, run_und hu]
      · cases he
    · rename_i s hu hx
      simp at he; subst he
      have hc := aeval_R hT ox
      rw [hx] at hc
      simp only [R, DR] at hc
      refine (Sim.still (P := P) hH (s := Builtin.len_ ts ty #[a.eval ox]) (v := .d (.v (.int .i64 s.size))) (cv := goInt s.size) ?_ (by simp [R, DR, goInt])).value
      rw [hc]
      simp [Builtin.len_, h1, run_und hu]
    · cases he
  · rename_i t r x y hts hargs
    obtain ⟨ox, oy, rfl, rfl, rfl⟩ := two_args hargs
    have hm : Array.map a.eval #[ox, oy] = #[a.eval ox, a.eval oy] := by simp
    rw [hm]
    have h1 : ts[0]? = some t := by rw [← Array.getElem?_toList, hts]; rfl
    exact (copy_sim hH h0 (aeval_R hT ox) (aeval_R hT oy) he ts h1).value
  · rename_i t r x hts hargs
    obtain ⟨ox, rfl, rfl⟩ := one_arg hargs
    have hm : Array.map a.eval #[ox] = #[a.eval ox] := by simp
    rw [hm]
    have h1 : ts[0]? = some t := by rw [← Array.getElem?_toList, hts]; rfl
    exact (clear_sim hH h0 (aeval_R hT ox) he ts ty h1).value
  · split at he
    · rename_i n hn
      simp at he; subst he
      obtain ⟨p, q, hc, rfl⟩ := minmax_R hn (aevals_R hT args.toList)
      refine (Sim.still (P := P) hH (s := Builtin.min_ ts ty (args.map a.eval)) (cv := .int .i64 (if q < p then q else p)) ?_ (by simp [R, DR])).value
      simp [Builtin.min_, Array.toList_map, hc, Builtin.min2]
    · cases he
  · split at he
    · rename_i n hn
      simp at he; subst he
      obtain ⟨p, q, hc, rfl⟩ := minmax_R hn (aevals_R hT args.toList)
      refine (Sim.still (P := P) hH (s := Builtin.max_ ts ty (args.map a.eval)) (cv := .int .i64 (if q > p then q else p)) ?_ (by simp [R, DR])).value
      simp [Builtin.max_, Array.toList_map, hc, Builtin.max2]
    · cases he
  · cases he

/-- The names that an operation may give. -/
def NN (F : Fm) (fr : Nat) (o : Oper) (b : Nat) : Prop := (fr ≤ b ∧ b < fr + 16) ∨ ∃ d, o.dst = some d ∧ b = F.sb + d
theorem eff_sim (hH : HR O ι H w) (h0 : ∀ b B, H0 b = some B → H b = some B) {F : Fm} {fr : Nat} (hfr : ∀ b, fr ≤ b → b < fr + 16 → ι b = none) {T : Tmps} {a : Act} (hT : TR O ι w T a) {o : Oper} (hf : ∀ b ∈ footOf F T o, H0 b = H b) {e : Eff}
    (he : eff P F (aeval T) H0 fr o = some e) : SimN P O ι H w (NN F fr o) (execOp a.eval o) e := by
  have wk : ∀ {s : Sem Next}, SimN P O ι H w (fun b => fr ≤ b ∧ b < fr + 16) s e → SimN P O ι H w (NN F fr o) s e := fun h => h.weaken fun b hb => .inl hb
  have hfr0 : ι fr = none := hfr fr (Nat.le_refl _) (by omega)
  have hN : fr ≤ fr ∧ fr < fr + 16 := ⟨Nat.le_refl _, by omega⟩
  obtain ⟨dst, op, type, pos, after, guard⟩ := o
  cases op with
  | move x =>
    simp [eff] at he; subst he
    exact .pure hH (aeval_R hT x)
  | assign x =>
    simp only [eff] at he
    refine assign_sim (F := F) (dst := dst) (t := type) (H0 := H0) hH (aeval_R hT x) (fun b hb => hf b ?_) (fun d hd => hf _ ?_) (fun d hd => .inr ⟨d, hd, rfl⟩) he
    · simp only [footOf]; exact List.mem_append_right _ hb
    · simp only [footOf]; rw [show dst = some d from hd]; simp
  | pick c x y =>
    simp only [eff] at he
    have hc := aeval_R hT c
    split at he
    · rename_i t ht
      simp at he; subst he
      rw [ht] at hc
      simp only [R, DR] at hc
      refine (SimN.pure hH (v := if t = true then aeval T x else aeval T y) (cv := if t = true then a.eval x else a.eval y) (by cases t <;> simp [aeval_R hT])).of_eq ?_
      simp [execOp, hc, asBool]
    · cases he
  | alloc t =>
    simp only [eff] at he
    split at he
    · rename_i z hz
      exact wk (alloc_sim hH hfr hz (fun _ h => nzL_R h) he).value
    · cases he
  | box t x =>
    simp only [eff] at he
    split at he
    · rename_i hok
      exact wk (box_sim hH hfr (nzA_R (tyNil_R (P := P) (t := t) (aeval_R hT x))) (by rw [nzA_ok, tyNil_ok]; exact hok) he).value
    · cases he
  | build t ps =>
    simp only [eff] at he
    split at he
    · rename_i v hv
      simp at he; subst he
      have := build_sim (P := P) (N := NN F fr ⟨dst, .build t ps, type, pos, after, guard⟩) hH (PR_of hT t ps.toList) hv
      refine SimN.of_eq this.value ?_
      simp only [execOp]
      congr 3
      apply Array.ext'
      simp
    · cases he
  | buildSlice t n ps =>
    simp only [eff] at he
    split at he
    · rename_i e0 s by0 ht
      split at he
      · rename_i rows hr
        split at he
        · rename_i hc
          obtain ⟨c1, c2⟩ := hc
          have harr : (ps.map fun (i, x) => (i, a.eval x)) = ((ps.toList.map fun q => (q.1, a.eval q.2)).toArray) := by apply Array.ext'; simp
          have hrefs : ∀ b ∈ refsOf rows, H0 b = H b := by
            intro b hb
            apply hf
            have key : ∀ (i : Nat) (l : List (Nat × Operand)) (rows : List (List AV)), rowsAre s i (l.map fun q => (q.1, tyFld P t q.1 (aeval T q.2))) = some rows → ∀ b ∈ refsOf rows, b ∈ l.flatMap fun q => (aeval T q.2).cells.flatMap (refs 4) := by
              intro i l
              induction l generalizing i with
              | nil => intro rows h b hb; simp [rowsAre] at h; subst h; simp [refsOf] at hb
              | cons q r ih =>
                intro rows h b hb
                simp only [List.map_cons, rowsAre] at h
                split at h
                · split at h
                  · rename_i l' hl'
                    simp at h; subst h
                    simp only [refsOf, List.flatMap_cons, List.mem_append] at hb ⊢
                    rcases hb with hb | hb
                    · left
                      have tn : ∀ v : AV, ∀ b ∈ (tyFld P t q.1 v).cells.flatMap (refs 4), b ∈ v.cells.flatMap (refs 4) := by
                        intro v b hb
                        have hn : ∀ t' (v' : AV), b ∈ (tyNil P t' v').cells.flatMap (refs 4) → b ∈ v'.cells.flatMap (refs 4) := by
                          intro t' v' h; cases v' <;> first | exact h | simp [tyNil, AV.cells, refs] at h
                        unfold tyFld at hb
                        split at hb
                        · split at hb
                          · exact hn _ _ hb
                          · exact hb
                        · exact hn _ _ hb
                        · exact hn _ _ hb
                        · exact hb
                      exact tn _ b hb
                    · right; exact ih _ _ hl' b hb
                  · cases h
                · cases h
            simp only [footOf]
            exact key 0 ps.toList rows hr b hb
          split at he
          · simp at he; subst he
            refine wk (SimN.of_eq (buildSlice_frz (H0 := H0) hH hN hfr0 ht c2 hr (PR_of hT t ps.toList) c1 hrefs).value ?_)
            simp only [execOp]
            rw [harr]
          · simp at he; subst he
            refine wk (SimN.of_eq (buildSlice_sim hH hN hfr0 ht c2 hr (PR_of hT t ps.toList) c1).value ?_)
            simp only [execOp]
            rw [harr]
        · cases he
      · cases he
    · cases he
  | load t x =>
    simp only [eff] at he
    have hx := aeval_R hT x
    split at he
    · cases he
    · rename_i n hn
      split at he
      · rename_i b ver i o' hp
        rw [hp] at hx
        split at he
        · rename_i s ver' data hb
          split at he
          · rename_i hv
            split at he
            · rename_i r hr
              split at he
              · rename_i cs hcs
                split at he
                · rename_i v hpv
                  simp at he; subst he
                  exact (load_ptr hH hn hx (h0 _ _ hb) hv hr hcs hpv).value
                · cases he
              · cases he
            · cases he
          · cases he
        · cases he
      · rename_i y o' hp
        rw [hp] at hx
        split at he
        · rename_i cs hcs
          split at he
          · rename_i v hpv
            simp at he; subst he
            exact (load_dptr hH hn hx hcs hpv).value
          · cases he
        · cases he
      · cases he
  | store t x y =>
    simp only [eff] at he
    have hx := aeval_R hT x
    split at he
    · rename_i n b ver i o' hn hp
      rw [hp] at hx
      split at he
      · rename_i s ver' data hb
        split at he
        · rename_i hc
          obtain ⟨c1, c2, c3⟩ := hc
          split at he
          · rename_i r hr
            split at he
            · rename_i hc2
              simp at he; subst he
              have := store_sim (P := P) hH hfr hn hx (h0 _ _ hb) c1 hr hc2.1 (nzA_R (tyNil_R (P := P) (t := t) (aeval_R hT y))) (by rw [nzA_ok, tyNil_ok]; exact c2) (by rw [nzA_cells, tyNil_cells]; exact c3) hc2.2
              exact wk this
            · cases he
          · cases he
        · cases he
      · cases he
    · cases he
  | nilCheck x =>
    simp only [eff] at he
    have hx := aeval_R hT x
    split at he
    · rename_i b ver i o' hp
      simp at he; subst he
      rw [hp] at hx
      have hx0 := hx
      simp only [R] at hx
      obtain ⟨e', _, _, _, ⟨ad, hc⟩, _⟩ := hx
      exact (SimN.pure hH hx0).of_eq (by simp [execOp, hc])
    · rename_i y o' hp
      simp at he; subst he
      rw [hp] at hx
      have hx0 := hx
      simp only [R, DR] at hx
      obtain ⟨k, off, hc, _⟩ := hx
      exact (SimN.pure hH hx0).of_eq (by simp [execOp, hc])
    · rename_i f l hp
      simp at he; subst he
      rw [hp] at hx
      have hx0 := hx
      simp only [R] at hx
      obtain ⟨cs, hc, _⟩ := hx
      exact (SimN.pure hH hx0).of_eq (by simp [execOp, hc])
    · rename_i f l hp
      simp at he; subst he
      rw [hp] at hx
      have hx0 := hx
      simp only [R, DR] at hx
      obtain ⟨cs, hc, _⟩ := hx
      exact (SimN.pure hH hx0).of_eq (by simp [execOp, hc])
    · cases he
  | binOp op t x y yt =>
    simp only [eff] at he
    split at he
    · rename_i v hv
      simp at he; subst he
      exact (bin_sim hH (aeval_R hT x) (aeval_R hT y) hv).value
    · cases he
  | unOp op t x =>
    simp only [eff] at he
    have hx := aeval_R hT x
    split at he
    · rename_i b hb
      simp at he; subst he
      rw [hb] at hx
      simp only [R, DR] at hx
      exact (Sim.still (P := P) hH (s := Op.unary .not (a.eval x)) (cv := .bool (!b)) (by rw [hx]; rfl) (by simp [R, DR])).value
    · rename_i k n hb
      simp at he; subst he
      rw [hb] at hx
      simp only [R, DR] at hx
      exact (Sim.still (P := P) hH (s := Op.unary .neg (a.eval x)) (cv := .int k (k.wrap (0 - n))) (by rw [hx]; rfl) (by simp [R, DR])).value
    · cases he
  | convert s t x =>
    simp only [eff] at he
    have hx := aeval_R hT x
    split at he
    · rename_i k0 k k1 n h1 h2 hb
      simp at he; subst he
      rw [hb] at hx
      simp only [R, DR] at hx
      exact (Sim.still (P := P) hH (s := convert s t (a.eval x)) (cv := .int k (k.wrap n)) (by simp [convert, hx, run_und h1, run_und h2, Conv.intToInt]) (by simp [R, DR])).value
    · cases he
  | makeFunc f first caps =>
    cases f with
    | func f =>
      simp only [eff] at he
      split at he
      · rename_i hem
        simp at he; subst he
        have h1 : first = #[] := by simpa using hem
        subst h1
        refine (SimN.pure hH (v := .fn f (caps.toList.map (aeval T))) (cv := .func (.func f) #[] (caps.map a.eval)) ?_).of_eq (by simp [execOp, Instr.makeFunc])
        simp only [R]
        exact ⟨caps.toList.map a.eval, by rw [← Array.toList_map, Array.toArray_toList], aevals_R hT caps.toList⟩
      · cases he
    | _ => simp [eff] at he
  | makeSlice t l c =>
    simp only [eff] at he
    split at he
    · rename_i e0 s by0 ht
      split at he
      · rename_i z n m hz hn hm
        split at he
        · rename_i hc
          obtain ⟨rfl, c1, c2, c3, c4⟩ := hc
          simp at he; subst he
          obtain ⟨k, hk⟩ := asInt_R hn (aeval_R hT l)
          obtain ⟨k', hk'⟩ := asInt_R hm (aeval_R hT c)
          have := makeSlice_sim (P := P) (N := fun b => fr ≤ b ∧ b < fr + 16) (k := k) (k' := k') hH F.tr hN hfr0 ht hz c1 c2 c4
          refine wk (SimN.of_eq this.value ?_)
          simp only [execOp, hk, hk']
        · cases he
      · cases he
    · cases he
  | slice t x lo hi mx =>
    simp only [eff] at he
    split at he
    · rename_i v hv
      simp at he; subst he
      exact (slice_sim hH h0 (aeval_R hT x) (OR_map hT lo) (OR_map hT hi) (OR_map hT mx) hv).value
    · cases he
  | fieldAddr t x k =>
    simp only [eff] at he
    have hx := aeval_R hT x
    split at he
    · rename_i off n ag ht
      split at he
      · cases he
      · rename_i hn
        split at he
        · rename_i b ver i o' hp
          simp at he; subst he
          rw [hp] at hx
          exact (fieldAddr_ptr hH ht hn hx).value
        · rename_i y o' hp
          simp at he; subst he
          rw [hp] at hx
          exact (fieldAddr_dptr hH ht hn hx).value
        · cases he
    · cases he
  | field t x k =>
    simp only [eff] at he
    have hx := aeval_R hT x
    split at he
    · rename_i off n ag cs ht hp
      rw [hp] at hx
      split at he
      · rename_i l hl
        split at he
        · rename_i v hv
          simp at he; subst he
          exact (field_sim hH ht hx hl hv).value
        · cases he
      · cases he
    · cases he
  | indexAddr t x ix =>
    simp only [eff] at he
    have hx := aeval_R hT x
    split at he
    · cases he
    · rename_i i hi
      obtain ⟨k, hk⟩ := asInt_R hi (aeval_R hT ix)
      have hex : execOp a.eval ⟨dst, .indexAddr t x ix, type, pos, after, guard⟩ = (do pure (.value (← Instr.indexAt t (a.eval x) (.int k i)))) := by simp only [execOp, hk]
      rw [hex]
      split at he
      · split at he
        · rename_i e0 s0 by0 ht
          split at he
          · rename_i s xs hp
            rw [hp] at hx
            split at he
            · rename_i hc
              obtain ⟨rfl, c1⟩ := hc
              split at he
              · rename_i r hr
                simp at he; subst he
                exact (index_val hH ht hx c1 hr).value
              · cases he
            · cases he
          · rename_i s xs hp
            rw [hp] at hx
            split at he
            · rename_i hc
              obtain ⟨rfl, c1⟩ := hc
              split at he
              · rename_i r hr
                simp at he; subst he
                exact (index_val hH ht (ex_lst hx) c1 hr).value
              · cases he
            · cases he
          · rename_i b ver off len hp
            rw [hp] at hx
            split at he
            · rename_i s ver' data hb
              split at he
              · rename_i hc
                obtain ⟨rfl, c1, c2, c3⟩ := hc
                simp at he; subst he
                exact (index_ref hH h0 ht hx hb c1 c2 c3).value
              · cases he
            · cases he
          · cases he
        · cases he
      · split at he
        · rename_i n s b ver j o' ht hp
          rw [hp] at hx
          split at he
          · rename_i hc
            simp at he; subst he
            exact (index_arr hH ht hx hc.1 hc.2).value
          · cases he
        · cases he
  | extract x i =>
    simp only [eff] at he
    have hx := aeval_R hT x
    split at he
    · rename_i vs hp
      rw [hp] at hx
      split at he
      · rename_i v hv
        simp at he; subst he
        simp only [R] at hx
        obtain ⟨l, hc, hr⟩ := hx
        obtain ⟨u, hu, hru⟩ := Rl_get hr hv
        exact (Sim.still (P := P) hH (s := Instr.extract (a.eval x) i) (by rw [hc]; simp [Instr.extract, hu]) hru).value
      · cases he
    · cases he
  | call c =>
    simp only [eff] at he
    split at he
    · rename_i b hb
      have := bltin_sim (P := P) (ty := type) (consts := c.args.map fun | .const _ => true | _ => false) hH h0 hfr hT he
      refine wk (SimN.of_eq this ?_)
      simp [execOp, resolve, hb, invoke]
      rfl
    · cases he
  | _ => simp [eff] at he
end Go.AI
