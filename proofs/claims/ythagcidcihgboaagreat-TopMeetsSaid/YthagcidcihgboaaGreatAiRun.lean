/-
  Own work. Whole functions: what the value interpreter answers, the machine answers.
-/
import Derived.Test.YthagcidcihgboaaGreatAiRange
namespace Go.AI
open Go
set_option linter.unusedVariables false
set_option linter.unusedSimpArgs false
variable {P : Program} {O : Nat → Prop} {ι ι0 : Inj} {H H0 : Heap} {w w' w0 : World}

/-- A program's code, checked once. -/
def okOps (nt : Nat) (ops : Array Oper) (draw : Bool) : Bool := (ops.toList.all fun o => match o.dst with | some d => Nat.blt d nt | none => true) && (!draw || okDraw ops)
def okCode (nt : Nat) : Code → Bool
  | .seq a b => okCode nt a && okCode nt b
  | .cond _ a b => okCode nt a && okCode nt b
  | .block _ c => okCode nt c
  | .loop c => okCode nt c
  | .scope c => okCode nt c
  | .region _ ops draw => okOps nt ops draw
  | .rangeFunc _ _ _ b => okCode nt b
  | _ => true
structure ProgOK (C : Cfg) : Prop where
  code : ∀ (f : FuncId) (fn : Func) (c : Code), C.P.funcs[f]? = some fn → fn.body = some c → okCode fn.ntmps c = true
  mixed : C.P.follows .mixedOrders = true

def itemOf : AItem → Item
  | .code c => .code c
  | .inBlock id => .inBlock id
  | .inLoop b _ => .inLoop b
  | .inScope b => .inScope b
def okItem (F : Fm) (nt : Nat) : AItem → Prop
  | .code c => okCode nt c = true
  | .inLoop b nx => okCode nt b = true ∧ F.lo ≤ nx
  | _ => True
theorem exit_items {F : Fm} {nt id : Nat} : ∀ {k k' : List AItem}, exitToA id k = some k' → (∀ x ∈ k, okItem F nt x) → exitTo id (k.map itemOf) = some (k'.map itemOf) ∧ ∀ x ∈ k', okItem F nt x
  | [], k', h, _ => by simp [exitToA] at h
  | x :: k, k', h, hk => by
    have hrest := fun h => exit_items (F := F) (nt := nt) (id := id) (k := k) (k' := k') h fun y hy => hk y (List.mem_cons_of_mem _ hy)
    cases x with
    | inBlock id' =>
      simp only [exitToA] at h
      simp only [List.map_cons, itemOf, exitTo]
      split at h
      · rename_i hid
        cases h
        have : id' = id := by simpa using hid
        subst this
        exact ⟨by simp, fun y hy => hk y (List.mem_cons_of_mem _ hy)⟩
      · rename_i hid
        have : ¬ id' = id := by simpa using hid
        obtain ⟨h1, h2⟩ := hrest h
        refine ⟨?_, h2⟩
        have hne : (id == id') = false := by simp; exact fun e => this e.symm
        simp [hne, this, h1]
    | _ =>
      simp only [exitToA] at h
      obtain ⟨h1, h2⟩ := hrest h
      exact ⟨by simp only [List.map_cons, itemOf, exitTo]; exact h1, h2⟩

section
variable {F : Fm} {nt nx : Nat} {T : Tmps} {a : Act}
theorem Inv.cut (hI : Inv ι0 w0 O F nt ι H w T a nx) {nx0 : Nat} (h : F.lo ≤ nx0) : Inv ι0 w0 O F nt (icut (fun b => Nat.ble nx0 b) ι) (frzH (fun b => Nat.ble nx0 b) H) w (frzT (fun b => Nat.ble nx0 b) H T) a nx0 where
  hr := hI.hr.cut
  tr := fun t => R.cut hI.hr (hI.tr t)
  ex := Ex.cut hI.ex (fun b e he => by
    have := hI.named b (by rw [he]; simp)
    have := hI.names
    cases hb : Nat.ble nx0 b with
    | false => rfl
    | true => have := Nat.le_of_ble_eq_true hb; omega) hI.hr.inj
  sz := hI.sz
  df := hI.df.sub fun k h => let ⟨b, e, h1, h2⟩ := h; ⟨b, e, (icut_some h1).2, h2⟩
  fresh := fun b hb => by simp [icut, Nat.ble_eq_true_of_le hb]
  low := fun b hb hne => by
    cases hι : icut (fun b => Nat.ble nx0 b) ι b with
    | none => exact absurd hι hne
    | some e => exact hI.low b hb (by rw [(icut_some hι).2]; simp)
  old := hI.old
  named := hI.named
  names := ⟨hI.names.1, h⟩
end

theorem load_addr {t : TypeId} {v : Value} {c : Value} (h : (Instr.loadAt t v).run P w = .ok c w) : (do loadVar t (← asAddr v) : Sem Value).run P w = .ok c w := by
  cases v with
  | pointer a =>
    cases a with
    | none => simp [Instr.loadAt, Instr.sureAddr, stuck] at h
    | some a => simpa [Instr.loadAt, Instr.sureAddr, asAddr] using h
  | _ => simp [Instr.loadAt, Instr.sureAddr, stuck] at h
/-- A result variable's value. -/
def resVal (tmps : Array Value) : ResultVar → Sem Value
  | .tmp t => pure (tmps.getD t undef)
  | .cell x t => do loadVar t (← asAddr (tmps.getD x undef))
theorem results_eq (fn : Func) (tmps : Array Value) : results fn tmps = (do let vs ← fn.results.mapM (resVal tmps); pure (if h : vs.size = 1 then vs[0] else .tuple vs)) := by
  unfold results
  have : (fun | .tmp t => pure (tmps.getD t undef) | .cell a t => do loadVar t (← asAddr (tmps.getD a undef)) : ResultVar → Sem Value) = resVal tmps := by
    funext r; cases r <;> rfl
  rw [← this]
  rfl
theorem result_run (hH : HR O ι H w) {T : Tmps} {a : Act} (hT : TR O ι w T a) {r : ResultVar} {v : AV} (h : resultOf P H T r = some v) :
    ∃ c, (resVal a.tmps r).run P w = .ok c w ∧ R O ι w v c := by
  cases r with
  | tmp t =>
    simp [resultOf] at h; subst h
    exact ⟨_, rfl, hT t⟩
  | cell x t =>
    simp only [resultOf, loadA] at h
    split at h
    · rename_i e he
      simp at h; subst h
      simp only [eff] at he
      have hx := hT x
      split at he
      · cases he
      · rename_i n hn
        split at he
        · rename_i b ver i o' hp
          rw [hp] at hx
          split at he
          · rename_i s ver' data hb
            split at he
            · rename_i hv
              split at he
              · rename_i r hr
                split at he
                · rename_i cs hcs
                  split at he
                  · rename_i v hpv
                    simp at he; subst he
                    obtain ⟨c, g1, g2⟩ := load_ptr_run (P := P) hH hn hx hb hv hr hcs hpv
                    exact ⟨c, load_addr g1, g2⟩
                  · cases he
                · cases he
              · cases he
            · cases he
          · cases he
        · rename_i y o' hp
          rw [hp] at hx
          split at he
          · rename_i cs hcs
            split at he
            · rename_i v hpv
              simp at he; subst he
              obtain ⟨c, g1, g2⟩ := load_dptr_run (P := P) hn hx hcs hpv
              exact ⟨c, load_addr g1, g2⟩
            · cases he
          · cases he
        · cases he
    · cases h
theorem results_run (hH : HR O ι H w) {T : Tmps} {a : Act} (hT : TR O ι w T a) : ∀ {rs : List ResultVar} {vs : List AV}, mapO (resultOf P H T) rs = some vs →
    ∃ cs : List Value, (rs.mapM (resVal a.tmps)).run P w = .ok cs w ∧ Rl O ι w vs cs
  | [], vs, h => by simp [mapO] at h; subst h; exact ⟨[], by simp, by simp [Rl]⟩
  | r :: rs, vs, h => by
    simp only [mapO] at h
    cases hr : resultOf P H T r with
    | none => simp [hr] at h
    | some v =>
      cases hm : mapO (resultOf P H T) rs with
      | none => simp [hr, hm] at h
      | some t =>
        simp [hr, hm] at h; subst h
        obtain ⟨c, g1, g2⟩ := result_run (P := P) hH hT hr
        obtain ⟨cs, g3, g4⟩ := results_run hH hT hm
        refine ⟨c :: cs, ?_, by simp only [Rl]; exact ⟨c, cs, rfl, g2, g4⟩⟩
        simp only [List.mapM_cons, Sem.run_bind, g1, Result.andThen_ok, g3, Sem.run_pure]
theorem resultsA_run (hH : HR O ι H w) {T : Tmps} {a : Act} (hT : TR O ι w T a) {fn : Func} {v : AV} (h : resultsA P fn T H = some v) : ∃ c, (results fn a.tmps).run P w = .ok c w ∧ R O ι w v c := by
  have key : ∀ vs, mapO (resultOf P H T) fn.results.toList = some vs → ∃ cs : List Value, Rl O ι w vs cs ∧ (results fn a.tmps).run P w = .ok (if h : cs.toArray.size = 1 then cs.toArray[0] else .tuple cs.toArray) w := by
    intro vs hvs
    obtain ⟨cs, g1, g2⟩ := results_run (P := P) hH hT hvs
    refine ⟨cs, g2, ?_⟩
    rw [results_eq]
    have : fn.results = fn.results.toList.toArray := by simp
    rw [this, List.mapM_toArray]
    simp only [Sem.run_bind, Sem.run_map, g1, Result.andThen_ok, Sem.run_pure]
  unfold resultsA at h
  split at h
  · rename_i v' hvs
    cases h
    obtain ⟨cs, g1, g2⟩ := key _ hvs
    simp only [Rl] at g1
    obtain ⟨c, l', rfl, h1, rfl⟩ := g1
    exact ⟨c, by rw [g2]; simp, h1⟩
  · rename_i vs hne hvs
    cases h
    obtain ⟨cs, g1, g2⟩ := key _ hvs
    have hl := Rl_length g1
    refine ⟨.tuple cs.toArray, ?_, by simp only [R]; exact ⟨cs, rfl, g1⟩⟩
    rw [g2, dif_neg]
    intro h1
    have : vs.length = 1 := by rw [← hl]; simpa using h1
    match vs, this with
    | [x], _ => exact hne x rfl
  · cases h

/-- A run of a frame. -/
def RunOK (C : Cfg) (n : Nat) : Prop := ∀ (F : Fm) (nt : Nat) (k : List AItem) (T : Tmps) (H : Heap) (nx : Nat) (T' : Tmps) (H' : Heap) (nx' : Nat) (O : Nat → Prop) (ι0 : Inj) (w0 : World) (ι : Inj) (w : World) (a : Act),
  arun C F n k T H nx = some (T', H', nx') → (∀ x ∈ k, okItem F nt x) → Inv ι0 w0 O F nt ι H w T a nx → ∀ (b : Frame) (cs : List Frame),
    ∃ ι' w' a' todo, Steps C.P (lone (b.at a (k.map itemOf)) cs w) (lone { b.at a' todo with mode := .returning } cs w') ∧ Inv ι0 w0 O F nt ι' H' w' T' a' nx'
theorem acall_sound {C : Cfg} (hC : ProgOK C) {n : Nat} (hR : RunOK C n) : SoundK C.P (acall C n) := by
  intro f args as H nx v H' nx' O ι w he hH hr hfresh
  unfold acall at he
  split at he
  · rename_i fn hf
    split at he
    · rename_i c hb
      split at he
      · rename_i hlen
        split at he
        · rename_i T' H1 nx1 hrun
          split at he
          · rename_i v' hv
            simp only [Option.some.injEq, Prod.mk.injEq] at he
            obtain ⟨rfl, rfl, rfl⟩ := he
            have hal := Rl_length hr
            have hI : Inv ι w O ⟨nx, nx + fn.ntmps, C.trim f, C.names f, C.virt f⟩ fn.ntmps ι H w (argsT args) { tmps := as.toArray ++ Array.replicate (fn.ntmps - as.toArray.size) undef, defers := [] } (nx + fn.ntmps) := by
              refine ⟨hH, fun t => ?_, Ex.refl .., by simp; omega, trivial, fun b hb => hfresh b (by omega), fun b _ h => h, hH.lt, fun b h => ?_, ⟨Nat.le_refl _, Nat.le_refl _⟩⟩
              · unfold argsT
                cases ht : args[t]? with
                | some x =>
                  obtain ⟨c, h1, h2⟩ := Rl_get hr ht
                  have hlt : t < as.length := (List.getElem?_eq_some_iff.1 h1).1
                  have : (as.toArray ++ Array.replicate (fn.ntmps - as.toArray.size) undef).getD t undef = c := by
                    rw [Array.getD_eq_getD_getElem?, Array.getElem?_append_left (by simpa using hlt)]
                    simp [h1]
                  rw [this]; exact h2
                | none =>
                  have hge : as.length ≤ t := by rw [hal]; simpa using ht
                  have : (as.toArray ++ Array.replicate (fn.ntmps - as.toArray.size) undef).getD t undef = undef := by
                    rw [Array.getD_eq_getD_getElem?, Array.getElem?_append_right (by simpa using hge), Array.getElem?_replicate]
                    split <;> rfl
                  rw [this]
                  simp [undefA, R, DR]
              · cases h2 : Nat.lt_or_ge b nx with
                | inl h3 => exact h3
                | inr h3 => exact absurd (hfresh b h3) h
            have hcode := hC.code f fn c hf hb
            have hend : ∀ cs, ∃ ι' w' a' todo, Steps C.P (lone (Frame.enter C.P f as.toArray .normal) cs w) (lone { ({ (default : Frame) with fn := f, kind := .normal } : Frame).at a' todo with mode := .returning } cs w') ∧ Inv ι w O ⟨nx, nx + fn.ntmps, C.trim f, C.names f, C.virt f⟩ fn.ntmps ι' H1 w' T' a' nx1 := by
              intro cs
              obtain ⟨ι', w', a', todo, h1, h2⟩ := hR _ _ _ _ _ _ _ _ _ O ι w ι w _ hrun (fun x hx => by simp at hx; subst hx; exact hcode) hI { (default : Frame) with fn := f, kind := .normal } cs
              refine ⟨ι', w', a', todo, ?_, h2⟩
              have henter : Frame.enter C.P f as.toArray .normal = ({ (default : Frame) with fn := f, kind := .normal } : Frame).at { tmps := as.toArray ++ Array.replicate (fn.ntmps - as.toArray.size) undef, defers := [] } [.code c] := by
                simp [Frame.enter, Frame.at, hf, hb]
              rw [henter]
              exact h1
            refine ⟨fun cs => ?_, ?_, fn, hf, by rw [hb]; rfl⟩
            · obtain ⟨ι', w', a', todo, h1, h2⟩ := hend cs
              have hleave := marks_leave (P := C.P) (fn := fn) (tmps := a'.tmps) (Rp := RetOK O ι w H1 nx nx1 v') h2.old a'.defers w' h2.df h2.hr h2.ex fun w'' k1 k2 k3 => by
                obtain ⟨c', g1, g2⟩ := resultsA_run (P := C.P) k1 (fun t => (h2.tr t).turn k3) hv
                refine ⟨c', g1, ⟨ι', k1, g2, k2, fun b h3 h4 => ⟨?_, ?_⟩⟩⟩
                · cases Nat.lt_or_ge b nx with
                  | inl h5 => exact absurd h4 (h2.low b h5 h3)
                  | inr h5 => exact h5
                · cases Nat.lt_or_ge b nx1 with
                  | inl h5 => exact h5
                  | inr h5 => exact absurd (h2.fresh b h5) h3
              obtain ⟨e, w'', fr', k1, k2, k3, k4⟩ := leaves_stepsInM (F := Fence.wide) (n := 0) (P := C.P) a'.defers .returning w' { ({ (default : Frame) with fn := f, kind := .normal } : Frame).at a' todo with mode := .returning } cs rfl rfl rfl hf rfl trivial (room_wide _) hleave
              exact ⟨e, w'', fr', k1, Comes.of_steps h1 (comesIn_wide.1 k2), k3, k4⟩
            · obtain ⟨ι', w', a', todo, h1, h2⟩ := hend []
              have := h2.names.2
              simp only at this
              omega
          · cases he
        · cases he
      · cases he
    · cases he
  · cases he
theorem region_wp {C : Cfg} (hM : ModesOK C) (hC : ProgOK C) {K : Call} (hK : SoundK C.P K) {F : Fm} {nt : Nat} {ops : Array Oper} {draw : Bool} (hok : okOps nt ops draw = true) {T T' : Tmps} {H' : Heap} {nx nx' : Nat} (he : region C K F ops draw T H nx = some (T', H', nx')) {a : Act} (hI : Inv ι0 w0 O F nt ι H w T a nx) (id : Nat) :
    (Code.region id ops draw).wp C.P (fun e a' w' => e = .normal ∧ ∃ ι', Inv ι0 w0 O F nt ι' H' w' T' a' nx') a w := by
  unfold okOps at hok
  simp only [Bool.and_eq_true] at hok
  have hd : ∀ o ∈ ops.toList, ∀ d : Nat, o.dst = some d → d < nt := by
    intro o ho d hd
    have := List.all_eq_true.1 hok.1 o ho
    rw [show o.dst = some d from hd] at this
    exact Nat.le_of_ble_eq_true this
  unfold region at he
  cases draw with
  | true =>
    simp only [if_true] at he
    cases hso : isSolo ops with
    | true =>
      rw [hso] at he
      simp only [if_true] at he
      split at he
      · rename_i T1 H1 l hdr
        split at he
        · rename_i hf
          exact solo_wp hM hC.mixed hK hd (by simpa using hok.2) hso hdr hf he hI (fun ι' w' a' h => ⟨rfl, ι', h⟩)
        · cases he
      · cases he
    | false =>
      rw [hso] at he
      simp only [Bool.false_eq_true, if_false] at he
      split at he
      · rename_i T1 H1 l hdr
        split at he
        · rename_i hf
          simp only [Option.some.injEq, Prod.mk.injEq] at he
          obtain ⟨rfl, rfl, rfl⟩ := he
          exact draw_wp hM hC.mixed hK hd (by simpa using hok.2) hdr hf hI (fun ι' w' a' h => ⟨rfl, ι', h⟩)
        · cases he
      · cases he
  | false =>
    simp only [Bool.false_eq_true, if_false] at he
    refine wp_region ?_
    have := seq_wp (ι0 := ι0) (w0 := w0) (O := O) hM hK hd (Q := fun e a' w' => e = .normal ∧ ∃ ι', Inv ι0 w0 O F nt ι' H' w' T' a' nx') ops.toList 0 ι H w T a nx (by simp) he hI (fun ι' w' a' h => ⟨rfl, ι', h⟩)
    rw [List.range_eq_range']
    simpa using this
theorem cond_R {T : Tmps} {a : Act} (hT : TR O ι w T a) {c : Operand} {t : Bool} (h : aeval T c = .d (.v (.bool t))) : a.eval c = .bool t := by
  have := aeval_R hT c
  rw [h] at this
  simpa [R, DR] using this
theorem quit_ok {nt : Nat} {ps : Array Tmp} {assign body : Code} {ops : Array Oper} (h : quitOf ps assign body = some ops) (hc : okCode nt body = true) : assign = .skip ∧ ∀ o ∈ ops.toList, ∀ d : Nat, o.dst = some d → d < nt := by
  unfold quitOf at h
  split at h
  · refine ⟨rfl, ?_⟩
    split at h
    · unfold quits at h
      split at h
      · split at h
        · simp only [Option.some.injEq] at h
          subst h
          simp only [okCode, okOps, Bool.and_eq_true] at hc
          intro o ho d hd
          have := List.all_eq_true.1 hc.1.1 o ho
          rw [hd] at this
          exact Nat.le_of_ble_eq_true this
        · cases h
      · cases h
    · cases h
  · cases h
theorem run_sound {C : Cfg} (hM : ModesOK C) (hC : ProgOK C) : ∀ n, RunOK C n
  | 0 => by
    intro F nt k T H nx T' H' nx' O ι0 w0 ι w a he
    simp [arun] at he
  | n + 1 => by
    have ih := run_sound hM hC n
    intro F nt k T H nx T' H' nx' O ι0 w0 ι w a he hk hI b cs
    have go : ∀ {m : Machine} {k2 : List AItem} {T2 : Tmps} {H2 : Heap} {nx2 : Nat} {ι2 : Inj} {w2 : World} {a2 : Act}, Steps C.P m (lone (b.at a2 (k2.map itemOf)) cs w2) → arun C F n k2 T2 H2 nx2 = some (T', H', nx') → (∀ x ∈ k2, okItem F nt x) → Inv ι0 w0 O F nt ι2 H2 w2 T2 a2 nx2 →
        ∃ ι' w' a' todo, Steps C.P m (lone { b.at a' todo with mode := .returning } cs w') ∧ Inv ι0 w0 O F nt ι' H' w' T' a' nx' := by
      intro m k2 T2 H2 nx2 ι2 w2 a2 hs he2 hk2 hI2
      obtain ⟨ι', w', a', todo, h1, h2⟩ := ih F nt k2 T2 H2 nx2 T' H' nx' O ι0 w0 ι2 w2 a2 he2 hk2 hI2 b cs
      exact ⟨ι', w', a', todo, hs.trans h1, h2⟩
    cases k with
    | nil =>
      simp [arun] at he
      obtain ⟨rfl, rfl, rfl⟩ := he
      exact ⟨ι, w, a, [], .one step_end, hI⟩
    | cons x k =>
      have hkr : ∀ y ∈ k, okItem F nt y := fun y hy => hk y (List.mem_cons_of_mem _ hy)
      have hx := hk x (List.mem_cons_self ..)
      have two : ∀ {p q : AItem} {k : List AItem}, okItem F nt p → okItem F nt q → (∀ y ∈ k, okItem F nt y) → ∀ y ∈ p :: q :: k, okItem F nt y := by
        intro p q k h1 h2 h3 y hy
        rcases List.mem_cons.1 hy with rfl | hy
        · exact h1
        · rcases List.mem_cons.1 hy with rfl | hy
          · exact h2
          · exact h3 y hy
      have one : ∀ {p : AItem} {k : List AItem}, okItem F nt p → (∀ y ∈ k, okItem F nt y) → ∀ y ∈ p :: k, okItem F nt y := by
        intro p k h1 h3 y hy
        rcases List.mem_cons.1 hy with rfl | hy
        · exact h1
        · exact h3 y hy
      cases x with
      | inBlock id =>
        simp only [arun] at he
        exact go (.one step_inBlock) he hkr hI
      | inScope c =>
        simp only [arun] at he
        exact go (.one step_inScope) he hkr hI
      | inLoop c nx0 =>
        simp only [arun] at he
        obtain ⟨h1, h2⟩ := hx
        split at he
        · exact go (k2 := .code c :: .inLoop c nx0 :: k) (.one step_inLoop) he (two h1 ⟨h1, h2⟩ hkr) (hI.cut h2).can
        · exact go (k2 := .code c :: .inLoop c nx0 :: k) (.one step_inLoop) he (two h1 ⟨h1, h2⟩ hkr) hI.can
      | code c =>
        have hx' : okCode nt c = true := hx
        cases c with
        | skip => simp only [arun] at he; exact go (.one step_skip) he hkr hI
        | label l => simp only [arun] at he; exact go (.one step_label) he hkr hI
        | ret =>
          simp [arun] at he
          obtain ⟨rfl, rfl, rfl⟩ := he
          exact ⟨ι, w, a, _, .one step_ret, hI⟩
        | seq p q =>
          simp only [okCode, Bool.and_eq_true] at hx'
          simp only [arun] at he
          exact go (k2 := .code p :: .code q :: k) (.one step_seq) he (two (p := .code p) (q := .code q) hx'.1 hx'.2 hkr) hI
        | block id p =>
          simp only [okCode] at hx'
          simp only [arun] at he
          exact go (k2 := .code p :: .inBlock id :: k) (.one step_block) he (two (p := .code p) (q := .inBlock id) hx' trivial hkr) hI
        | loop p =>
          simp only [okCode] at hx'
          simp only [arun] at he
          have hup : nx ≤ upN nx := by unfold upN; omega
          exact go (k2 := .code p :: .inLoop p (upN nx) :: k) (.one step_loop) he (two (p := .code p) (q := .inLoop p (upN nx)) hx' ⟨hx', Nat.le_trans hI.names.2 hup⟩ hkr) (hI.can.more hup)
        | scope p =>
          simp only [okCode] at hx'
          simp only [arun] at he
          exact go (k2 := .code p :: .inScope p :: k) (.one step_scope) he (two (p := .code p) (q := .inScope p) hx' trivial hkr) hI
        | exit id =>
          simp only [arun] at he
          split at he
          · rename_i k' hk'
            obtain ⟨h1, h2⟩ := exit_items (F := F) (nt := nt) hk' hkr
            exact go (.one (step_exit h1)) he h2 hI
          · cases he
        | cond c p q =>
          simp only [okCode, Bool.and_eq_true] at hx'
          simp only [arun] at he
          split at he
          · rename_i t ht
            have hc := cond_R hI.tr ht
            have hs := step_cond (P := C.P) (b := b) (k := k.map itemOf) (cs := cs) (w := w) (x := p) (y := q) hc
            cases t with
            | true =>
              simp only [if_true] at he hs
              exact go (k2 := .code p :: k) (.one hs) he (one (p := .code p) hx'.1 hkr) hI
            | false =>
              simp only [Bool.false_eq_true, if_false] at he hs
              exact go (k2 := .code q :: k) (.one hs) he (one (p := .code q) hx'.2 hkr) hI
          · cases he
        | region id ops draw =>
          simp only [okCode] at hx'
          simp only [arun] at he
          split at he
          · rename_i T1 H1 nx1 hreg
            obtain ⟨e, a1, w1, ⟨he1, ι1, hI1⟩, harr⟩ := region_wp hM hC (acall_sound hC ih) hx' (K := acall C n) hreg hI id b (k.map itemOf) cs
            subst he1
            exact go harr he hkr hI1
          · cases he
        | rangeFunc f ps assign body =>
          simp only [okCode] at hx'
          simp only [arun] at he
          split at he
          · rename_i ops hq
            split at he
            · rename_i as has
              split at he
              · rename_i g caps hfn
                obtain ⟨rfl, hbody⟩ : assign = .skip ∧ (∀ o ∈ ops.toList, ∀ d : Nat, o.dst = some d → d < nt) := quit_ok hq hx'
                split at he
                · rename_i hg
                  obtain ⟨e, a1, w1, hpost, harr⟩ := range_wp (T1 := T) (H1 := H) (nx1 := nx) hM (acall_sound hC ih) hbody hq has hfn hg hI (fun h => absurd rfl h) b (k.map itemOf) cs
                  rcases hpost with ⟨_, rfl, hI1⟩ | ⟨h, _⟩
                  · exact go harr he hkr hI1
                  · exact absurd rfl h
                · rename_i x xs hg
                  split at he
                  · rename_i T1 H1 nx1 hreg
                    simp only [Option.some.injEq, Prod.mk.injEq] at he
                    obtain ⟨rfl, rfl, rfl⟩ := he
                    obtain ⟨e, a1, w1, hpost, harr⟩ := range_wp hM (K := acall C n) (acall_sound hC ih) hbody hq has hfn hg hI (fun _ => hreg) b (k.map itemOf) cs
                    rcases hpost with ⟨h, _⟩ | ⟨_, rfl, ι', hI1⟩
                    · cases h
                    · obtain ⟨todo, hs⟩ := harr
                      exact ⟨ι', w1, a1, todo, hs, hI1⟩
                  · cases he
                · cases he
              · cases he
            · cases he
          · cases he
        | _ => simp [arun] at he
theorem sound {C : Cfg} (hM : ModesOK C) (hC : ProgOK C) (n : Nat) : SoundK C.P (acall C n) := acall_sound hC (run_sound hM hC n)
end Go.AI
