/-
  Own work. A frame's state; operations one after the other.
-/
import Derived.Test.YthagcidcihgboaaGreatAiTurn
namespace Go.AI
open Go
set_option linter.unusedVariables false
set_option linter.unusedSimpArgs false
variable {P : Program} {O : Nat → Prop} {ι ι0 : Inj} {H H0 : Heap} {w w' w0 : World}

/-- A frame's state: how the interpreter's stands to the machine's. -/
structure Inv (ι0 : Inj) (w0 : World) (O : Nat → Prop) (F : Fm) (nt : Nat) (ι : Inj) (H : Heap) (w : World) (T : Tmps) (a : Act) (nx : Nat) : Prop where
  hr : HR O ι H w
  tr : TR O ι w T a
  ex : Ex ι0 w0 ι w
  sz : a.tmps.size = nt
  df : Marks w0 ι w a.defers
  fresh : ∀ b, nx ≤ b → ι b = none
  low : ∀ b, b < F.sb → ι b ≠ none → ι0 b ≠ none
  old : ∀ b e k, ι0 b = some e → e.blk = some k → k < w0.heap.size
  named : ∀ b, ι0 b ≠ none → b < F.sb
  names : F.sb + nt ≤ F.lo ∧ F.lo ≤ nx

section
variable {F : Fm} {nt nx : Nat} {T : Tmps} {a : Act}
theorem Inv.skip (hI : Inv ι0 w0 O F nt ι H w T a nx) {o : Oper} (hd : ∀ d : Nat, o.dst = some d → d < nt) : Inv ι0 w0 O F nt ι H w (putT T o.dst undefA) (a.put o.dst undef) (nx + wide) where
  hr := hI.hr
  tr := hI.tr.put (fun d h => by rw [hI.sz]; exact hd d h) (by simp [undefA, R, DR])
  ex := hI.ex
  sz := by rw [put_size]; exact hI.sz
  df := by rw [put_defers]; exact hI.df
  fresh := fun b hb => hI.fresh b (by omega)
  low := hI.low
  old := hI.old
  named := hI.named
  names := ⟨hI.names.1, by have := hI.names.2; omega⟩
theorem Inv.eff (hI : Inv ι0 w0 O F nt ι H w T a nx) {o : Oper} (hd : ∀ d : Nat, o.dst = some d → d < nt) {e : Eff} {cv : Value} {ι' : Inj} (hp : Post O ι H w (NN F nx o) e cv w' ι') :
    Inv ι0 w0 O F nt ι' (writes H e.wr) w' (putT T o.dst e.v) (a.put o.dst cv) (nx + wide) where
  hr := hp.hr
  tr := (hI.tr.mono hp.ex).put (fun d h => by rw [hI.sz]; exact hd d h) hp.val
  ex := Ex.trans hI.old hI.ex hp.ex
  sz := by rw [put_size]; exact hI.sz
  df := by rw [put_defers]; exact hI.df.ex hp.ex
  fresh := fun b hb => by
    cases h : ι' b with
    | none => rfl
    | some e' =>
      have hw : wide = 16 := rfl
      rcases hp.new b (by rw [h]; simp) (hI.fresh b (by omega)) with h1 | ⟨d, h1, h2⟩
      · omega
      · have := hd d h1; have := hI.names; omega
  low := fun b hb h => by
    cases hι : ι b with
    | some e' => exact hI.low b hb (by rw [hι]; simp)
    | none =>
      have := hI.names
      rcases hp.new b h hι with h1 | ⟨d, h1, h2⟩ <;> omega
  old := hI.old
  named := hI.named
  names := ⟨hI.names.1, by have := hI.names.2; omega⟩
theorem Inv.deep (hI : Inv ι0 w0 O F nt ι H w T a nx) {o : Oper} (hd : ∀ d : Nat, o.dst = some d → d < nt) {g : Nat} (hg : F.sb ≤ g ∧ g < nx) {e : Eff} {cv : Value} {ι' : Inj} (hp : Post O ι H w (fun b => b = g) e cv w' ι') :
    Inv ι0 w0 O F nt ι' (writes H e.wr) w' (putT T o.dst e.v) (a.put o.dst cv) (nx + wide) where
  hr := hp.hr
  tr := (hI.tr.mono hp.ex).put (fun d h => by rw [hI.sz]; exact hd d h) hp.val
  ex := Ex.trans hI.old hI.ex hp.ex
  sz := by rw [put_size]; exact hI.sz
  df := by rw [put_defers]; exact hI.df.ex hp.ex
  fresh := fun b hb => by
    cases h : ι' b with
    | none => rfl
    | some e' =>
      have h1 := hp.new b (by rw [h]; simp) (hI.fresh b (by omega))
      omega
  low := fun b hb h => by
    cases hι : ι b with
    | some e' => exact hI.low b hb (by rw [hι]; simp)
    | none =>
      have h1 := hp.new b h hι
      omega
  old := hI.old
  named := hI.named
  names := ⟨hI.names.1, by have := hI.names.2; omega⟩
/-- An empty row that is given a name for good. -/
theorem deep_did {P : Program} (hI : Inv ι0 w0 O F nt ι H w T a nx) {o : Oper} (hdp : isDeep F o = true) {e : Eff} (he : deepOut P F T H nx o = some e) :
    ∃ g, (F.sb ≤ g ∧ g < nx) ∧ Did P o a w fun cv w' => ∃ ι', Post O ι H w (fun b => b = g) e cv w' ι' := by
  obtain ⟨dst, op, type, pos, after, guard⟩ := o
  unfold isDeep at hdp
  unfold deepOut at he
  cases op with
  | buildSlice t n ps =>
    cases n with
    | succ n => cases hdp
    | zero =>
      simp only [Bool.and_eq_true] at hdp
      have hps : ps = #[] := by simpa using hdp.2
      subst hps
      simp only at he
      split at he
      · rename_i e0 s by0 g ht hg
        split at he
        · rename_i hc
          simp only [Option.some.injEq] at he
          subst he
          have hsb : F.sb ≤ g := by
            unfold deepName at hg
            split at hg
            · split at hg
              · simp only [Option.some.injEq] at hg; omega
              · cases hg
            · cases hg
          have hnone : ι g = none := by
            cases h : ι g with
            | none => rfl
            | some e' =>
              obtain ⟨B, hB, _⟩ := hI.hr.blk g e' h
              rw [hB] at hc
              exact absurd hc.1 (by simp)
          refine ⟨g, ⟨hsb, hc.2⟩, SimN.did ?_⟩
          have := buildSlice_sim (P := P) (N := fun b => b = g) (n := 0) (l := []) (ps := []) (rows := []) hI.hr rfl hnone ht (by simp) (by simp [rowsAre]) (by simp [PR]) rfl
          refine SimN.of_eq this.value ?_
          simp [execOp]
        · cases he
      · cases he
  | _ => cases hdp
theorem ikill_names {p : Nat → Bool} {b : Nat} : ikill p ι b ≠ none → ι b ≠ none := fun h h' => h (ikill_none.2 h')
theorem Inv.frz (hI : Inv ι0 w0 O F nt ι H w T a nx) {o : Oper} (hd : ∀ d : Nat, o.dst = some d → d < nt) {v : AV} {cv : Value} {p : Nat → Bool} (hs : Same w w') (hv : R O (ikill p ι) w' v cv) :
    Inv ι0 w0 O F nt (ikill p ι) (frzK p H) w' (putT (frzT p H T) o.dst v) (a.put o.dst cv) (nx + wide) where
  hr := (hI.hr.same hs).frzK
  tr := TR.put (fun t => R.frzK (hI.hr.same hs) ((hI.tr t).mono (hs.ex ι))) (fun d h => by rw [hI.sz]; exact hd d h) hv
  ex := Ex.trans hI.old (Ex.trans hI.old hI.ex (hs.ex ι)) (Ex.kill (hI.hr.same hs) p)
  sz := by rw [put_size]; exact hI.sz
  df := by rw [put_defers]; exact (hI.df.ex (hs.ex ι)).ex (Ex.kill (hI.hr.same hs) p)
  fresh := fun b hb => ikill_none.2 (hI.fresh b (by omega))
  low := fun b hb h => hI.low b hb (ikill_names h)
  old := hI.old
  named := hI.named
  names := ⟨hI.names.1, by have := hI.names.2; omega⟩
theorem Inv.run (hI : Inv ι0 w0 O F nt ι H w T a nx) {o : Oper} (hd : ∀ d : Nat, o.dst = some d → d < nt) {v : AV} {cv : Value} {ι' : Inj} {H' : Heap} {nx' : Nat} (hr : HR O ι' H' w') (hv : R O ι' w' v cv) (hx : Ex ι w ι' w')
    (hn : ∀ b, ι' b ≠ none → ι b = none → nx ≤ b ∧ b < nx') (hle : nx ≤ nx') : Inv ι0 w0 O F nt ι' H' w' (putT T o.dst v) (a.put o.dst cv) nx' where
  hr := hr
  tr := (hI.tr.mono hx).put (fun d h => by rw [hI.sz]; exact hd d h) hv
  ex := Ex.trans hI.old hI.ex hx
  sz := by rw [put_size]; exact hI.sz
  df := by rw [put_defers]; exact hI.df.ex hx
  fresh := fun b hb => by
    cases h : ι' b with
    | none => rfl
    | some e' => have := hn b (by rw [h]; simp) (hI.fresh b (by omega)); omega
  low := fun b hb h => by
    cases hι : ι b with
    | some e' => exact hI.low b hb (by rw [hι]; simp)
    | none => have := hn b h hι; have := hI.names; omega
  old := hI.old
  named := hI.named
  names := ⟨hI.names.1, by have := hI.names.2; omega⟩
end

theorem seq_wp {C : Cfg} (hM : ModesOK C) {K : Call} (hK : SoundK C.P K) {F : Fm} {nt : Nat} {ops : Array Oper} (hd : ∀ o ∈ ops.toList, ∀ d : Nat, o.dst = some d → d < nt) {Q : Exit → Act → World → Prop} {T' : Tmps} {H' : Heap} {nx' : Nat} :
    ∀ (l : List Oper) (i : Nat) (ι : Inj) (H : Heap) (w : World) (T : Tmps) (a : Act) (nx : Nat), ops.toList.drop i = l → seqOps C K F ops l T H nx = some (T', H', nx') → Inv ι0 w0 O F nt ι H w T a nx →
      (∀ ι' w' a', Inv ι0 w0 O F nt ι' H' w' T' a' nx' → Q .normal a' w') → wpOps C.P ops Q (List.range' i l.length) a w
  | [], i, ι, H, w, T, a, nx, _, he, hI, hQ => by
    simp [seqOps] at he
    obtain ⟨rfl, rfl, rfl⟩ := he
    simpa [wpOps] using hQ ι w a hI
  | o :: l, i, ι, H, w, T, a, nx, hl, he, hI, hQ => by
    have ho : ops[i]? = some o := by
      have := congrArg (·[0]?) hl
      simpa using this
    have hmem : o ∈ ops.toList := by
      have : o ∈ ops.toList.drop i := by rw [hl]; simp
      exact List.mem_of_mem_drop this
    have hdo := hd o hmem
    have hl' : ops.toList.drop (i + 1) = l := by
      have := congrArg (List.drop 1) hl
      simpa [Nat.add_comm] using this
    simp only [List.length_cons, List.range'_succ, wpOps, ho]
    have hrest : ∀ (ι : Inj) (H : Heap) (w : World) (T : Tmps) (a : Act) (nx : Nat), seqOps C K F ops l T H nx = some (T', H', nx') → Inv ι0 w0 O F nt ι H w T a nx →
      (∀ ι' w' a', Inv ι0 w0 O F nt ι' H' w' T' a' nx' → Q .normal a' w') → wpOps C.P ops Q (List.range' (i + 1) l.length) a w := fun ι H w T a nx => seq_wp hM hK hd l (i + 1) ι H w T a nx hl'
    simp only [seqOps] at he
    cases hw : wantedA ops T o with
    | none => simp [hw] at he
    | some b =>
      have hwr := wanted_R hI.tr hw
      rw [hwr]
      cases b with
      | false =>
        simp only [hw] at he
        simp only [Bool.false_eq_true, if_false]
        exact hrest ι H w _ _ _ he (hI.skip hdo) hQ
      | true =>
        simp only [hw] at he
        simp only [if_true]
        refine .inl ?_
        cases hdp : isDeep F o with
        | true =>
          rw [hdp] at he
          simp only [if_true] at he
          cases hout : deepOut C.P F T H nx o with
          | none => simp [hout] at he
          | some e =>
            simp only [hout] at he
            obtain ⟨g, hg, hdid⟩ := deep_did hI hdp hout
            refine hdid _ Q fun cv w1 hΦ => ?_
            obtain ⟨ι', hp⟩ := hΦ
            exact hrest ι' _ w1 _ _ _ he (hI.deep hdo hg hp) hQ
        | false =>
        rw [hdp] at he
        simp only [Bool.false_eq_true, if_false] at he
        cases hout : operOut C K F T H nx o with
        | none => simp [hout] at he
        | some out =>
          have hdid := operOut_did hM hK hI.hr (fun _ _ h => h) (fun b h1 h2 => hI.fresh b h1) hI.tr (fun _ _ => rfl) (fun v H1 nx1 _ => ⟨rfl, hI.fresh⟩) hout
          refine hdid _ Q fun cv w1 hΦ => ?_
          cases out with
          | eff e =>
            obtain ⟨ι', hp⟩ := hΦ
            simp only [hout] at he
            exact hrest ι' _ w1 _ _ _ he (hI.eff hdo hp) hQ
          | frz v p =>
            obtain ⟨h1, h2⟩ := hΦ
            simp only [hout] at he
            exact hrest _ _ w1 _ _ _ he (hI.frz hdo h1 h2) hQ
          | run v H1 nx1 =>
            obtain ⟨h0, ι', h1, h2, h3, h4⟩ := hΦ
            simp only [hout] at he
            exact hrest ι' H1 w1 _ _ _ he (hI.run hdo h1 h2 h3 h4 h0) hQ
end Go.AI
