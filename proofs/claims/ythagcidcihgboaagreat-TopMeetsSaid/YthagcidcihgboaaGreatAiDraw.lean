/-
  Own work. A region that draws its order: whatever comes, the end is the text's.
-/
import Derived.Test.YthagcidcihgboaaGreatAiOrder
namespace Go.AI
open Go
set_option linter.unusedVariables false
set_option linter.unusedSimpArgs false
variable {P : Program} {O : Nat → Prop} {ι ι0 : Inj} {H H0 : Heap} {w w' w0 : World}

section
variable {F : Fm} {nt nx : Nat} {T : Tmps} {a : Act}
theorem Inv.drawn (hI : Inv ι0 w0 O F nt ι H w T a nx) (n : Nat) : Inv ι0 w0 O F nt ι H { w with drawn := n } T a nx where
  hr := hI.hr.drawn n
  tr := hI.tr.mono (Ex.drawn hI.hr n)
  ex := Ex.trans hI.old hI.ex (Ex.drawn hI.hr n)
  sz := hI.sz
  df := hI.df.ex (Ex.drawn hI.hr n)
  fresh := hI.fresh
  low := hI.low
  old := hI.old
  named := hI.named
  names := hI.names
theorem Inv.weaken (hI : Inv ι0 w0 O F nt ι H w T a nx) {nx' : Nat} (h : nx ≤ nx') : Inv ι0 w0 O F nt ι H w T a nx' where
  hr := hI.hr
  tr := hI.tr
  ex := hI.ex
  sz := hI.sz
  df := hI.df
  fresh := fun b hb => hI.fresh b (by omega)
  low := hI.low
  old := hI.old
  named := hI.named
  names := ⟨hI.names.1, by have := hI.names.2; omega⟩
theorem Inv.effAt (hI : Inv ι0 w0 O F nt ι H w T a nx) {fr : Nat} (hf1 : F.lo ≤ fr) (hf2 : fr + 16 ≤ nx) {o : Oper} (hd : ∀ d : Nat, o.dst = some d → d < nt) {e : Eff} {cv : Value} {ι' : Inj} (hp : Post O ι H w (NN F fr o) e cv w' ι') :
    Inv ι0 w0 O F nt ι' (writes H e.wr) w' (putT T o.dst e.v) (a.put o.dst cv) nx where
  hr := hp.hr
  tr := (hI.tr.mono hp.ex).put (fun d h => by rw [hI.sz]; exact hd d h) hp.val
  ex := Ex.trans hI.old hI.ex hp.ex
  sz := by rw [put_size]; exact hI.sz
  df := by rw [put_defers]; exact hI.df.ex hp.ex
  fresh := fun b hb => by
    cases h : ι' b with
    | none => rfl
    | some e' =>
      rcases hp.new b (by rw [h]; simp) (hI.fresh b hb) with h1 | ⟨d, h1, h2⟩
      · omega
      · have := hd d h1; have := hI.names; omega
  low := fun b hb h => by
    cases hι : ι b with
    | some e' => exact hI.low b hb (by rw [hι]; simp)
    | none =>
      have := hI.names
      rcases hp.new b h hι with h1 | ⟨d, h1, h2⟩ <;> omega
  old := hI.old
  named := hI.named
  names := hI.names
theorem Inv.killAt (hI : Inv ι0 w0 O F nt ι H w T a nx) {o : Oper} (hd : ∀ d : Nat, o.dst = some d → d < nt) {v : AV} {cv : Value} {p : List Nat} {Hk : Heap} (hk : ∀ b ∈ p, Hk b = H b) (hs : Same w w') (hv : R O (ikill p.contains ι) w' v cv) :
    Inv ι0 w0 O F nt (ikill p.contains ι) (writes H (killed Hk p)) w' (putT T o.dst v) (a.put o.dst cv) nx where
  hr := HR.killed (hI.hr.same hs) hk
  tr := TR.put ((hI.tr.mono (hs.ex ι)).mono (Ex.kill (hI.hr.same hs) _)) (fun d h => by rw [hI.sz]; exact hd d h) hv
  ex := Ex.trans hI.old (Ex.trans hI.old hI.ex (hs.ex ι)) (Ex.kill (hI.hr.same hs) _)
  sz := by rw [put_size]; exact hI.sz
  df := by rw [put_defers]; exact (hI.df.ex (hs.ex ι)).ex (Ex.kill (hI.hr.same hs) _)
  fresh := fun b hb => ikill_none.2 (hI.fresh b hb)
  low := fun b hb h => hI.low b hb (ikill_names h)
  old := hI.old
  named := hI.named
  names := hI.names
theorem Inv.skipAt (hI : Inv ι0 w0 O F nt ι H w T a nx) {o : Oper} (hd : ∀ d : Nat, o.dst = some d → d < nt) : Inv ι0 w0 O F nt ι H w (putT T o.dst undefA) (a.put o.dst undef) nx where
  hr := hI.hr
  tr := hI.tr.put (fun d h => by rw [hI.sz]; exact hd d h) (by simp [undefA, R, DR])
  ex := hI.ex
  sz := by rw [put_size]; exact hI.sz
  df := by rw [put_defers]; exact hI.df
  fresh := hI.fresh
  low := hI.low
  old := hI.old
  named := hI.named
  names := hI.names
end

theorem footOk_in {bef : Array Nat} {base : Nat} {l : List Foot} (h : footOk bef base l = true) {y : Foot} (hy : y ∈ l) {b : Nat} (hb : b ∈ y.rd ∨ b ∈ y.wr) : b < base ∨ (bef.getD y.i 0).testBit ((b - base) / wide) = true := by
  unfold footOk at h
  have := List.all_eq_true.1 h y hy
  simp only [Bool.and_eq_true] at this
  have := List.all_eq_true.1 this.1 b (List.mem_append.2 hb)
  simpa using this
theorem footOk_two {bef : Array Nat} {base : Nat} {l : List Foot} (h : footOk bef base l = true) {x y : Foot} (hx : x ∈ l) (hy : y ∈ l) (hxy : x.i < y.i) :
    (bef.getD y.i 0).testBit x.i = true ∨ (∀ b ∈ x.wr, b ∉ y.rd ∧ b ∉ y.wr) ∧ ∀ b ∈ y.wr, b ∉ x.rd := by
  unfold footOk at h
  have := List.all_eq_true.1 h y hy
  simp only [Bool.and_eq_true] at this
  have := List.all_eq_true.1 this.2 x hx
  simp only [Bool.or_eq_true, Bool.and_eq_true, decide_eq_true_eq] at this
  rcases this with (h1 | h1) | ⟨h1, h2⟩
  · omega
  · exact .inl h1
  · refine .inr ⟨fun b hb => ?_, fun b hb => ?_⟩
    · have := List.all_eq_true.1 h1 b hb
      simpa using this
    · have := List.all_eq_true.1 h2 b hb
      simpa using this
theorem own_div {base j b : Nat} (h1 : base + j * wide ≤ b) (h2 : b < base + j * wide + wide) : (b - base) / wide = j := by
  unfold wide at *
  omega

/-- A state on the way. -/
def DI (ι0 : Inj) (w0 : World) (O : Nat → Prop) (F : Fm) (nt base : Nat) (ops : Array Oper) (rs : List Rec) (T : Tmps) (H : Heap) (L : Nat → Bool) (a : Act) (w : World) : Prop :=
  ∃ ι, Inv ι0 w0 O F nt ι (hsel L rs 0 H) w (tsel L ops.toList rs 0 T) a (base + ops.size * wide) ∧ ∀ i, i < ops.size → L i = false → ∀ b, base + i * wide ≤ b → b < base + i * wide + wide → ι b = none

theorem restr_le {H : Heap} {l : List Nat} : ∀ b B, restr H l b = some B → H b = some B := by
  intro b B h
  unfold restr at h
  split at h
  · exact h
  · cases h
theorem restr_in {H : Heap} {l : List Nat} {b : Nat} (h : b ∈ l) : restr H l b = H b := by
  unfold restr
  rw [if_pos (by simpa using h)]

theorem draw_step {C : Cfg} (hM : ModesOK C) {K : Call} (hK : SoundK C.P K) {F : Fm} {nt base : Nat} {ops : Array Oper} (hd : ∀ o ∈ ops.toList, ∀ d : Nat, o.dst = some d → d < nt) (hok : okDraw ops = true) {rs : List Rec} {T : Tmps} {l : List Foot} (hlen : rs.length ≤ ops.toList.length) (hlo : F.lo ≤ base)
    (hrs : ∀ (j : Nat) o r, ops.toList[j]? = some o → rs[j]? = some r → RecOK C K F ops base l j o (tsel (fun x => decide (x < j)) ops.toList rs 0 T) (hsel (fun x => decide (x < j)) rs 0 H) r)
    (hfoot : footOk (Region.before ops) base l = true) {Q : Exit → Act → World → Prop} {L : Nat → Bool} (hL : Closed ops L) {a : Act} {w : World} (hI : DI ι0 w0 O F nt base ops rs T H L a w) {j : Nat} {o : Oper} (ho : ops[j]? = some o) {r : Rec} (hr : rs[j]? = some r) (hj : L j = false)
    (hrd : ∀ e ∈ o.after.toList, Region.binds .any e = true → L e.on = true) {K' : Act → World → Prop} (hK' : ∀ a' w', DI ι0 w0 O F nt base ops rs T H (fun x => x == j || L x) a' w' → K' a' w') : wpOp C.P ops Q j K' a w := by
  obtain ⟨ι, hI, hfree⟩ := hI
  have hjs : j < ops.size := (Array.getElem?_eq_some_iff.1 ho).1
  have ho' : ops.toList[j]? = some o := by simpa using ho
  have hdo := hd o (List.mem_of_getElem? ho')
  have hbefore : ∀ p, ((Region.before ops).getD j 0).testBit p = true → L p = true := fun p hp => closed_bit hok hL j p (.inr fun o' h' => by rw [ho] at h'; cases h'; exact hrd) hp
  have hafter : ∀ p, L p = true → ((Region.before ops).getD p 0).testBit j = true → False := fun p hp hb => by
    have := closed_bit hok hL p j (.inl hp) hb
    rw [hj] at this; cases this
  have hrec := hrs j o r ho' hr
  -- what it looks at stands as in the text's order
  have hlooks : ∀ t ∈ o.looksAt ops, tsel L ops.toList rs 0 T t = tsel (fun x => decide (x < j)) ops.toList rs 0 T t := by
    intro t ht
    refine tsel_congr (fun p q hq hdq => ?_) rfl
    have hq' : ops[p]? = some q := by simpa using hq
    rw [Nat.zero_add]
    rcases Nat.lt_trichotomy p j with hlt | heq | hgt
    · rw [decide_eq_true hlt]
      rcases okDraw_pair hok hq' ho hlt with h | h
      · exact hbefore p h
      · exact absurd ht ((Oper.apart_spec h).1 t hdq)
    · subst heq; rw [hj]; simp
    · rw [decide_eq_false (by omega)]
      cases hp : L p with
      | false => rfl
      | true =>
        rcases okDraw_pair hok ho hq' hgt with h | h
        · exact (hafter p hp h).elim
        · exact absurd ht ((Oper.apart_spec h).2.2 t hdq)
  have hops := looks_operand hlooks
  have hwant := wanted_congr hlooks
  have hdsts : ∀ p q t, ops.toList[p]? = some q → j < p → L (0 + p) = true → q.dst = some t → o.dst ≠ some t := by
    intro p q t hq hlt hp hdq hdo'
    have hq' : ops[p]? = some q := by simpa using hq
    rw [Nat.zero_add] at hp
    rcases okDraw_pair hok ho hq' hlt with h | h
    · exact hafter p hp h
    · exact (Oper.apart_spec h).2.1 t hdo' hdq
  have hTins := tsel_insert (T := T) (i := 0) (k := j) (j := j) (by omega) ho' hr hj hdsts
  unfold wpOp
  simp only [ho]
  rcases hrec with ⟨hw, rfl⟩ | ⟨hw, out, wrj, hout, hent, hkeys, hcase⟩
  · -- not wanted
    rw [← hwant] at hw
    rw [wanted_R hI.tr hw]
    simp only [Bool.false_eq_true, if_false]
    refine hK' _ _ ⟨ι, ?_, fun i hi hLi => hfree i hi (by simp at hLi; exact hLi.2)⟩
    rw [hTins, hsel_insert (i := 0) (j := j) (by omega) hr hj (fun p q _ _ _ x hx => by cases hx)]
    exact hI.skipAt hdo
  · rw [← hwant] at hw
    rw [wanted_R hI.tr hw]
    simp only [if_true]
    refine .inl ?_
    -- memory, where it looks
    have hmem : ∀ b ∈ footH F (tsel (fun x => decide (x < j)) ops.toList rs 0 T) (hsel (fun x => decide (x < j)) rs 0 H) o, hsel L rs 0 H b = hsel (fun x => decide (x < j)) rs 0 H b := by
      intro b hb
      refine hsel_congr (fun p s hs hkey => ?_) rfl
      rw [Nat.zero_add]
      by_cases hpj : p = j
      · subst hpj; rw [hj]; simp
      obtain ⟨x, hx, hxb⟩ := hkey
      have hps : p < ops.toList.length := Nat.lt_of_lt_of_le (List.getElem?_eq_some_iff.1 hs).1 hlen
      have hrecp := hrs p ops.toList[p] s (List.getElem?_eq_getElem hps) hs
      rcases hrecp with ⟨_, rfl⟩ | ⟨_, _, wrp, _, hentp, hkeysp, _⟩
      · cases hx
      have hbase : base ≤ b → ((Region.before ops).getD j 0).testBit ((b - base) / wide) = true := fun hge => by
        rcases footOk_in hfoot hent (.inl hb) with h | h
        · omega
        · exact h
      rcases hkeysp x hx with hk | ⟨hk1, hk2⟩
      · rw [hxb] at hk
        rcases Nat.lt_or_gt_of_ne hpj with hlt | hgt
        · rw [decide_eq_true hlt]
          rcases footOk_two hfoot hentp hent hlt with h | ⟨h, _⟩
          · exact hbefore p h
          · exact absurd hb (h b hk).1
        · rw [decide_eq_false (by omega)]
          cases hp : L p with
          | false => rfl
          | true =>
            rcases footOk_two hfoot hent hentp hgt with h | ⟨_, h⟩
            · exact (hafter p hp h).elim
            · exact absurd hb (h b hk)
      · rw [hxb] at hk1 hk2
        have := hbase (by omega)
        rw [own_div hk1 hk2] at this
        rw [hbefore p this, decide_eq_true (before_lt hok j p this)]
    have hfoot_eq : footH F (tsel L ops.toList rs 0 T) (hsel L rs 0 H) o = footH F (tsel (fun x => decide (x < j)) ops.toList rs 0 T) (hsel (fun x => decide (x < j)) rs 0 H) o := footH_congr o hops hmem
    have hrestr : restr (hsel L rs 0 H) (footH F (tsel L ops.toList rs 0 T) (hsel L rs 0 H) o) = restr (hsel (fun x => decide (x < j)) rs 0 H) (footH F (tsel (fun x => decide (x < j)) ops.toList rs 0 T) (hsel (fun x => decide (x < j)) rs 0 H) o) := by
      rw [hfoot_eq]
      funext b
      by_cases hb : b ∈ footH F (tsel (fun x => decide (x < j)) ops.toList rs 0 T) (hsel (fun x => decide (x < j)) rs 0 H) o
      · rw [restr_in hb, restr_in hb]; exact hmem b hb
      · unfold restr
        rw [if_neg (by simpa using hb), if_neg (by simpa using hb)]
    have hHins := hsel_insert (H := H) (i := 0) (k := j) (j := j) (by omega) hr hj (fun p q hq hlt hp x hx y hy hxy => by
      rw [Nat.zero_add] at hp
      have hps : p < ops.toList.length := Nat.lt_of_lt_of_le (List.getElem?_eq_some_iff.1 hq).1 hlen
      have hrecp := hrs p ops.toList[p] q (List.getElem?_eq_getElem hps) hq
      rcases hrecp with ⟨_, rfl⟩ | ⟨_, _, wrp, _, hentp, hkeysp, _⟩
      · cases hy
      rcases hkeys x hx with hx1 | ⟨hx1, hx2⟩ <;> rcases hkeysp y hy with hy1 | ⟨hy1, hy2⟩
      · rcases footOk_two hfoot hent hentp hlt with h | ⟨h, _⟩
        · exact hafter p hp h
        · exact (h x.1 hx1).2 (by rw [hxy]; exact hy1)
      · rw [← hxy] at hy1 hy2
        rcases footOk_in hfoot hent (.inr hx1) with h | h
        · omega
        · rw [own_div hy1 hy2] at h
          have := before_lt hok j p h; omega
      · rw [hxy] at hx1 hx2
        rcases footOk_in hfoot hentp (.inr hy1) with h | h
        · omega
        · rw [own_div hx1 hx2] at h
          exact hafter p hp h
      · rw [hxy] at hx1 hx2
        have h1 := own_div hx1 hx2
        have h2 := own_div hy1 hy2
        omega)
    have hout' : operOut C K F (tsel L ops.toList rs 0 T) (restr (hsel L rs 0 H) (footH F (tsel L ops.toList rs 0 T) (hsel L rs 0 H) o)) (base + j * wide) o = some out := by
      rw [hrestr, operOut_congr o hops]; exact hout
    have hw16 : wide = 16 := rfl
    have hmul : j * wide + wide ≤ ops.size * wide := row_in hjs
    have hdid := operOut_did hM hK hI.hr restr_le (fun b h1 h2 => hfree j hjs hj b h1 (by rw [hw16]; exact h2)) hI.tr (fun b hb => restr_in (footH_of hb)) (fun v H1 nx1 h => by
      subst h
      rcases hcase with h | ⟨p, h, _⟩ <;> cases h) hout'
    refine hdid _ Q fun cv w1 hΦ => hK' _ _ ?_
    rcases hcase with rfl | ⟨p, rfl, hwr, hpf⟩
    · obtain ⟨ι', hp⟩ := hΦ
      refine ⟨ι', ?_, fun i hi hLi b hb1 hb2 => ?_⟩
      · rw [hTins, hHins]
        exact hI.effAt (fr := base + j * wide) (by omega) (by omega) hdo hp
      · simp at hLi
        have hnone := hfree i hi hLi.2 b hb1 hb2
        cases h : ι' b with
        | none => rfl
        | some e' =>
          rcases hp.new b (by rw [h]; simp) hnone with h1 | ⟨d, h1, h2⟩
          · have e1 := own_div hb1 hb2
            have e2 := own_div (base := base) (j := j) (b := b) h1.1 (by rw [hw16]; exact h1.2)
            exact absurd (e1.symm.trans e2) hLi.1
          · have := hdo d h1; have := hI.names; omega
    · obtain ⟨h1, h2⟩ := hΦ
      refine ⟨ikill p.contains ι, ?_, fun i hi hLi b hb1 hb2 => ikill_none.2 (hfree i hi (by simp at hLi; exact hLi.2) b hb1 hb2)⟩
      rw [hTins, hHins, hwr]
      exact hI.killAt hdo (fun b hb => (hmem b (hpf b hb)).symm) h1 h2

theorem DI.ext {F : Fm} {nt base : Nat} {ops : Array Oper} {rs : List Rec} {T : Tmps} {L L' : Nat → Bool} {a : Act} (hlen : rs.length ≤ ops.toList.length) (h : ∀ i, i < ops.size → L i = L' i) (hI : DI ι0 w0 O F nt base ops rs T H L a w) : DI ι0 w0 O F nt base ops rs T H L' a w := by
  obtain ⟨ι, h1, h2⟩ := hI
  refine ⟨ι, ?_, fun i hi hL => h2 i hi (by rw [h i hi]; exact hL)⟩
  rw [← tsel_ext (L := L) (fun j hj => by rw [Nat.zero_add]; exact h j (by simpa using hj)), ← hsel_ext (L := L) (fun j hj => by rw [Nat.zero_add]; exact h j (by have := Nat.lt_of_lt_of_le hj hlen; simpa using this))]
  exact h1
theorem countP_lt {p q : Nat → Bool} : ∀ {l : List Nat} {j : Nat}, j ∈ l → (∀ x, q x = true → p x = true) → p j = true → q j = false → l.countP q < l.countP p
  | [], j, h, _, _, _ => by cases h
  | x :: l, j, h, hqp, hp, hq => by
    have hle : ∀ l : List Nat, l.countP q ≤ l.countP p := fun l => List.countP_mono_left fun x _ => hqp x
    rw [List.countP_cons, List.countP_cons]
    rcases List.mem_cons.1 h with rfl | h
    · have := hle l
      simp [hp, hq]; omega
    · have := countP_lt h hqp hp hq
      cases hqx : q x with
      | false => simp; split <;> omega
      | true => simp [hqp x hqx]; exact this
theorem draw_any {C : Cfg} (hM : ModesOK C) {K : Call} (hK : SoundK C.P K) {F : Fm} {nt base : Nat} {ops : Array Oper} (hd : ∀ o ∈ ops.toList, ∀ d : Nat, o.dst = some d → d < nt) (hok : okDraw ops = true) {rs : List Rec} {T : Tmps} {l : List Foot} (hlen : rs.length = ops.toList.length) (hlo : F.lo ≤ base)
    (hrs : ∀ (j : Nat) o r, ops.toList[j]? = some o → rs[j]? = some r → RecOK C K F ops base l j o (tsel (fun x => decide (x < j)) ops.toList rs 0 T) (hsel (fun x => decide (x < j)) rs 0 H) r)
    (hfoot : footOk (Region.before ops) base l = true) {Q : Exit → Act → World → Prop} (hQ : ∀ a w, DI ι0 w0 O F nt base ops rs T H (fun _ => true) a w → Q .normal a w) :
    ∀ (fuel : Nat) (listed : Array Bool) (a : Act) (w : World), listed.size = ops.size → Closed ops (fun i => listed.getD i false) → (List.range ops.size).countP (fun i => !listed.getD i false) ≤ fuel → DI ι0 w0 O F nt base ops rs T H (fun i => listed.getD i false) a w → wpAny C.P .any ops Q fuel listed a w := by
  have done : ∀ (listed : Array Bool) (a : Act) (w : World), (∀ i, i < ops.size → listed.getD i false = true) → DI ι0 w0 O F nt base ops rs T H (fun i => listed.getD i false) a w → Q .normal a w := fun listed a w hall hI =>
    hQ a w (hI.ext (Nat.le_of_eq hlen) fun i hi => by rw [hall i hi])
  have getDs : ∀ (listed : Array Bool), listed.size = ops.size → ∀ i, i < ops.size → listed.getD i true = listed.getD i false := by
    intro listed hs i hi
    simp [Array.getD, hs, hi]
  intro fuel
  induction fuel with
  | zero =>
    intro listed a w hs hL hc hI
    have hall : ∀ i, i < ops.size → listed.getD i false = true := by
      intro i hi
      cases h : listed.getD i false with
      | true => rfl
      | false =>
        have : 0 < (List.range ops.size).countP (fun i => !listed.getD i false) := List.countP_pos_iff.2 ⟨i, List.mem_range.2 hi, by simp only [h]; rfl⟩
        omega
    refine ⟨?_, done listed a w hall hI⟩
    cases hr : Region.ready .any ops listed with
    | nil => rfl
    | cons j r =>
      have hj : j ∈ Region.ready .any ops listed := by rw [hr]; exact List.mem_cons_self ..
      obtain ⟨h1, o, h2, _⟩ := mem_ready.1 hj
      have hjs : j < ops.size := (Array.getElem?_eq_some_iff.1 h2).1
      rw [getDs listed hs j hjs, hall j hjs] at h1; cases h1
  | succ fuel ih =>
    intro listed a w hs hL hc hI
    refine ⟨fun hr => done listed a w ?_ hI, fun j hj => ?_⟩
    · intro i
      induction i using Nat.strongRecOn with
      | _ i ihi =>
        intro hi
        cases h : listed.getD i false with
        | true => rfl
        | false =>
          have : i ∈ Region.ready .any ops listed := by
            rw [mem_ready]
            refine ⟨by rw [getDs listed hs i hi]; exact h, ops[i], Array.getElem?_eq_getElem hi, fun e he hb => ?_⟩
            have hlt := okDraw_edge hok (Array.getElem?_eq_getElem hi) (by simpa using he) hb
            exact ihi e.on hlt (by omega)
          rw [hr] at this; cases this
    · obtain ⟨h1, o, h2, h3⟩ := mem_ready.1 hj
      have hjs : j < ops.size := (Array.getElem?_eq_some_iff.1 h2).1
      rw [getDs listed hs j hjs] at h1
      have hset : ∀ x, (listed.setIfInBounds j true).getD x false = (x == j || listed.getD x false) := by
        intro x
        by_cases hx : x = j
        · subst hx
          simp [hs, hjs]
        · have : (x == j) = false := by simpa using hx
          rw [this, Bool.false_or, getD_set_ne false (Ne.symm hx)]
      obtain ⟨r, hr⟩ : ∃ r, rs[j]? = some r := ⟨_, List.getElem?_eq_getElem (by rw [hlen]; simpa using hjs)⟩
      refine draw_step hM hK hd hok (Nat.le_of_eq hlen) hlo hrs hfoot hL hI h2 hr h1 (fun e he hb => h3 e (by simpa using he) hb) (fun a' w' hI' => ih _ a' w' (by simp [hs]) ?_ ?_ ?_)
      · intro x q hq hLx e he hb
        have hor : (x == j) = true ∨ listed.getD x false = true := by
          have hh : (listed.setIfInBounds j true).getD x false = true := hLx
          rw [hset, Bool.or_eq_true] at hh
          exact hh
        have hgoal : listed.getD e.on false = true → (fun i => (listed.setIfInBounds j true).getD i false) e.on = true := by
          intro h
          show (listed.setIfInBounds j true).getD e.on false = true
          rw [hset, h, Bool.or_true]
        apply hgoal
        rcases hor with hx | hx
        · have : x = j := by simpa using hx
          subst this
          rw [h2] at hq; cases hq
          exact h3 e (by simpa using he) hb
        · exact hL x q hq hx e he hb
      · have := countP_lt (p := fun i => !listed.getD i false) (q := fun i => !(listed.setIfInBounds j true).getD i false) (List.mem_range.2 hjs) (fun x hx => by
          simp only [hset] at hx
          simp at hx ⊢
          exact hx.2) (by simp only [h1]; rfl) (by simp only [hset]; simp)
        omega
      · exact hI'.ext (Nat.le_of_eq hlen) fun i _ => (hset i).symm

/-- A region that draws its order. -/
theorem draw_wp {C : Cfg} (hM : ModesOK C) (hmix : C.P.follows .mixedOrders = true) {K : Call} (hK : SoundK C.P K) {F : Fm} {nt base : Nat} {ops : Array Oper} (hd : ∀ o ∈ ops.toList, ∀ d : Nat, o.dst = some d → d < nt) (hok : okDraw ops = true) {T T' : Tmps} {H' : Heap} {l : List Foot}
    (he : drawOps C K F ops base ops.toList 0 T H = some (T', H', l)) (hfoot : footOk (Region.before ops) base l = true) {a : Act} (hI : Inv ι0 w0 O F nt ι H w T a base) {id : Nat} {Q : Exit → Act → World → Prop}
    (hQ : ∀ ι' w' a', Inv ι0 w0 O F nt ι' H' w' T' a' (base + ops.size * wide) → Q .normal a' w') : (Code.region id ops true).wp C.P Q a w := by
  obtain ⟨rs, h1, h2, h3, h4⟩ := draw_plan he
  refine wp_region_any hmix (draw_any (ι0 := ι0) (w0 := w0) (O := O) (T := T) (H := H) hM hK hd hok h1 hI.names.2 (fun j o r ho hr => by simpa using h4 j o r ho hr) hfoot (fun a' w' hDI => ?_) ops.size _ a _ (by simp) ?_ ?_ ?_)
  · obtain ⟨ι', g1, _⟩ := hDI
    refine hQ ι' w' a' ?_
    rw [h2, h3]
    have hsz : ops.toList.length = ops.size := by simp
    rw [tsel_ext (L' := fun _ => true) (fun j hj => by simp only [decide_eq_true_eq]; omega), hsel_ext (L' := fun _ => true) (fun j hj => by simp only [decide_eq_true_eq]; omega)]
    exact g1
  · intro j o _ hL
    simp [Array.getD_eq_getD_getElem?, Array.getElem?_replicate] at hL
    split at hL <;> simp at hL
  · refine Nat.le_trans List.countP_le_length ?_
    simp
  · refine ⟨ι, ?_, fun i hi _ b hb _ => hI.fresh b (by omega)⟩
    have hLf : ∀ i, (Array.replicate ops.size false).getD i false = false := by
      intro i
      simp only [Array.getD_eq_getD_getElem?, Array.getElem?_replicate]
      split <;> rfl
    have e1 : tsel (fun i => (Array.replicate ops.size false).getD i false) ops.toList rs 0 T = T := by
      rw [tsel_ext (L' := fun x => decide (x < 0)) (fun j _ => by rw [hLf]; simp)]
      exact tsel_none (Nat.le_refl _)
    have e2 : hsel (fun i => (Array.replicate ops.size false).getD i false) rs 0 H = H := by
      rw [hsel_ext (L' := fun x => decide (x < 0)) (fun j _ => by rw [hLf]; simp)]
      exact hsel_none (Nat.le_refl _)
    rw [e1, e2]
    exact (hI.drawn _).weaken (by omega)
theorem tsel_agree {L L' : Nat → Bool} : ∀ {os : List Oper} {rs : List Rec} {i : Nat} {T : Tmps}, (∀ j, j < rs.length → L (i + j) = L' (i + j)) → tsel L os rs i T = tsel L' os rs i T
  | [], rs, i, T, _ => by simp [tsel]
  | o :: os, [], i, T, _ => by simp [tsel]
  | o :: os, r :: rs, i, T, h => by
    have h0 := h 0 (by simp)
    simp only [Nat.add_zero] at h0
    simp only [tsel]
    rw [h0]
    exact tsel_agree fun j hj => by
      have := h (j + 1) (by simpa using hj)
      rw [show i + (j + 1) = i + 1 + j by omega] at this
      exact this
theorem tsel_take {L : Nat → Bool} : ∀ {m : Nat} {os : List Oper} {rs : List Rec} {i : Nat} {T : Tmps}, rs.length ≤ m → tsel L (os.take m) rs i T = tsel L os rs i T
  | m, [], rs, i, T, _ => by simp
  | 0, o :: os, [], i, T, _ => by simp [tsel]
  | 0, o :: os, r :: rs, i, T, h => by simp at h
  | m + 1, o :: os, [], i, T, _ => by simp [tsel]
  | m + 1, o :: os, r :: rs, i, T, h => by
    simp only [List.take_succ_cons, tsel]
    exact tsel_take (by simpa using h)
/-- All but the last operation in any order, then the last one. -/
theorem draw_tail {C : Cfg} (hM : ModesOK C) {K : Call} (hK : SoundK C.P K) {F : Fm} {nt base : Nat} {ops : Array Oper} (hd : ∀ o ∈ ops.toList, ∀ d : Nat, o.dst = some d → d < nt) (hok : okDraw ops = true) {rs : List Rec} {T : Tmps} {l : List Foot} (hlen : rs.length + 1 = ops.toList.length) (hlo : F.lo ≤ base)
    (hrs : ∀ (j : Nat) o r, ops.toList[j]? = some o → rs[j]? = some r → RecOK C K F ops base l j o (tsel (fun x => decide (x < j)) ops.toList rs 0 T) (hsel (fun x => decide (x < j)) rs 0 H) r)
    (hfoot : footOk (Region.before ops) base l = true) {ol : Oper} (hol : ops[rs.length]? = some ol) (hall : ∀ p, p < rs.length → ((Region.before ops).getD rs.length 0).testBit p = true)
    {T' : Tmps} {H' : Heap} {nx' : Nat} (he : seqOps C K F ops [ol] (tsel (fun _ => true) ops.toList rs 0 T) (hsel (fun _ => true) rs 0 H) (base + ops.size * wide) = some (T', H', nx'))
    {Q : Exit → Act → World → Prop} (hQ : ∀ ι' w' a', Inv ι0 w0 O F nt ι' H' w' T' a' nx' → Q .normal a' w') :
    ∀ (fuel : Nat) (listed : Array Bool) (a : Act) (w : World), listed.size = ops.size → Closed ops (fun i => listed.getD i false) → (List.range ops.size).countP (fun i => !listed.getD i false) ≤ fuel → listed.getD rs.length false = false → DI ι0 w0 O F nt base ops rs T H (fun i => listed.getD i false) a w → wpAny C.P .any ops Q fuel listed a w := by
  have hle : rs.length ≤ ops.toList.length := by omega
  have hns : rs.length < ops.size := (Array.getElem?_eq_some_iff.1 hol).1
  have hnn : rs.length + 1 = ops.size := by simpa using hlen
  have getDs : ∀ (listed : Array Bool), listed.size = ops.size → ∀ i, i < ops.size → listed.getD i true = listed.getD i false := by
    intro listed hs i hi
    simp [Array.getD, hs, hi]
  have full : ∀ (fuel : Nat) (listed : Array Bool) (a : Act) (w : World), listed.size = ops.size → (∀ i, i < ops.size → listed.getD i false = true) → Q .normal a w → wpAny C.P .any ops Q fuel listed a w := by
    intro fuel listed a w hs hl hq
    have hr : Region.ready .any ops listed = [] := by
      cases hr : Region.ready .any ops listed with
      | nil => rfl
      | cons j r =>
        have hj : j ∈ Region.ready .any ops listed := by rw [hr]; exact List.mem_cons_self ..
        obtain ⟨h1, o, h2, _⟩ := mem_ready.1 hj
        have hjs : j < ops.size := (Array.getElem?_eq_some_iff.1 h2).1
        rw [getDs listed hs j hjs, hl j hjs] at h1; cases h1
    cases fuel with
    | zero => exact ⟨hr, hq⟩
    | succ n => exact ⟨fun _ => hq, fun j hj => by rw [hr] at hj; cases hj⟩
  intro fuel
  induction fuel with
  | zero =>
    intro listed a w hs hL hc hlast hI
    have : 0 < (List.range ops.size).countP (fun i => !listed.getD i false) := List.countP_pos_iff.2 ⟨rs.length, List.mem_range.2 hns, by simp only [hlast]; rfl⟩
    omega
  | succ fuel ih =>
    intro listed a w hs hL hc hlast hI
    refine ⟨fun hr => ?_, fun j hj => ?_⟩
    · have hallL : ∀ i, i < ops.size → listed.getD i false = true := by
        intro i
        induction i using Nat.strongRecOn with
        | _ i ihi =>
          intro hi
          cases h : listed.getD i false with
          | true => rfl
          | false =>
            have : i ∈ Region.ready .any ops listed := by
              rw [mem_ready]
              refine ⟨by rw [getDs listed hs i hi]; exact h, ops[i], Array.getElem?_eq_getElem hi, fun e he hb => ?_⟩
              have hlt := okDraw_edge hok (Array.getElem?_eq_getElem hi) (by simpa using he) hb
              exact ihi e.on hlt (by omega)
            rw [hr] at this; cases this
      rw [hallL _ hns] at hlast; cases hlast
    · obtain ⟨h1, o, h2, h3⟩ := mem_ready.1 hj
      have hjs : j < ops.size := (Array.getElem?_eq_some_iff.1 h2).1
      rw [getDs listed hs j hjs] at h1
      have hset : ∀ x, (listed.setIfInBounds j true).getD x false = (x == j || listed.getD x false) := by
        intro x
        by_cases hx : x = j
        · subst hx
          simp [hs, hjs]
        · have : (x == j) = false := by simpa using hx
          rw [this, Bool.false_or, getD_set_ne false (Ne.symm hx)]
      by_cases hjl : j = rs.length
      · -- the last one
        subst hjl
        rw [hol] at h2; cases h2
        have hdone : ∀ p, p < rs.length → listed.getD p false = true := fun p hp => closed_bit hok hL rs.length p (.inr fun o' h' => by rw [hol] at h'; cases h'; exact fun e he hb => h3 e (by simpa using he) hb) (hall p hp)
        obtain ⟨ι, hI, hfree⟩ := hI
        have e1 : tsel (fun i => listed.getD i false) ops.toList rs 0 T = tsel (fun _ => true) ops.toList rs 0 T := tsel_agree fun j hj => by
          rw [Nat.zero_add]; exact hdone j hj
        have e2 : hsel (fun i => listed.getD i false) rs 0 H = hsel (fun _ => true) rs 0 H := hsel_ext fun j hj => by
          rw [Nat.zero_add]; exact hdone j hj
        rw [e1, e2] at hI
        have hnew : ∀ i, i < ops.size → (listed.setIfInBounds rs.length true).getD i false = true := by
          intro i hi
          rw [hset]
          by_cases hx : i = rs.length
          · simp [hx]
          · rw [hdone i (by omega), Bool.or_true]
        have fin : ∀ (ι' : Inj) (w' : World) (a' : Act), Inv ι0 w0 O F nt ι' H' w' T' a' nx' → wpAny C.P .any ops Q fuel (listed.setIfInBounds rs.length true) a' w' := fun ι' w' a' hI' => full fuel _ a' w' (by simp [hs]) hnew (hQ ι' w' a' hI')
        have hdo := hd ol (by rw [← Array.mem_def]; exact Array.mem_of_getElem? hol)
        unfold wpOp
        simp only [hol]
        simp only [seqOps] at he
        cases hw : wantedA ops (tsel (fun _ => true) ops.toList rs 0 T) ol with
        | none => simp [hw] at he
        | some b =>
          have hwr := wanted_R hI.tr hw
          rw [hwr]
          cases b with
          | false =>
            simp only [hw, Option.some.injEq, Prod.mk.injEq] at he
            obtain ⟨rfl, rfl, rfl⟩ := he
            simp only [Bool.false_eq_true, if_false]
            exact fin ι w _ (hI.skip hdo)
          | true =>
            simp only [hw] at he
            simp only [if_true]
            refine .inl ?_
            cases hdp : isDeep F ol with
            | true =>
              rw [hdp] at he
              simp only [if_true] at he
              cases hout : deepOut C.P F (tsel (fun _ => true) ops.toList rs 0 T) (hsel (fun _ => true) rs 0 H) (base + ops.size * wide) ol with
              | none => simp [hout] at he
              | some e =>
                simp only [hout, Option.some.injEq, Prod.mk.injEq] at he
                obtain ⟨rfl, rfl, rfl⟩ := he
                obtain ⟨g, hg, hdid⟩ := deep_did hI hdp hout
                refine hdid _ Q fun cv w1 hΦ => ?_
                obtain ⟨ι', hp⟩ := hΦ
                exact fin ι' w1 _ (hI.deep hdo hg hp)
            | false =>
            rw [hdp] at he
            simp only [Bool.false_eq_true, if_false] at he
            cases hout : operOut C K F (tsel (fun _ => true) ops.toList rs 0 T) (hsel (fun _ => true) rs 0 H) (base + ops.size * wide) ol with
            | none => simp [hout] at he
            | some out =>
              have hdid := operOut_did hM hK hI.hr (fun _ _ h => h) (fun b h1 h2 => hI.fresh b h1) hI.tr (fun _ _ => rfl) (fun v H1 nx1 _ => ⟨rfl, hI.fresh⟩) hout
              refine hdid _ Q fun cv w1 hΦ => ?_
              cases out with
              | eff e =>
                obtain ⟨ι', hp⟩ := hΦ
                simp only [hout, Option.some.injEq, Prod.mk.injEq] at he
                obtain ⟨rfl, rfl, rfl⟩ := he
                exact fin ι' w1 _ (hI.eff hdo hp)
              | frz v p =>
                obtain ⟨g1, g2⟩ := hΦ
                simp only [hout, Option.some.injEq, Prod.mk.injEq] at he
                obtain ⟨rfl, rfl, rfl⟩ := he
                exact fin _ w1 _ (hI.frz hdo g1 g2)
              | run v H1 nx1 =>
                obtain ⟨g0, ι', g1, g2, g3, g4⟩ := hΦ
                simp only [hout, Option.some.injEq, Prod.mk.injEq] at he
                obtain ⟨rfl, rfl, rfl⟩ := he
                exact fin ι' w1 _ (hI.run hdo g1 g2 g3 g4 g0)
      · have hjr : j < rs.length := by omega
        refine draw_step hM hK hd hok hle hlo hrs hfoot hL hI h2 (List.getElem?_eq_getElem hjr) h1 (fun e he hb => h3 e (by simpa using he) hb) (fun a' w' hI' => ih _ a' w' (by simp [hs]) ?_ ?_ ?_ ?_)
        · intro x q hq hLx e he hb
          have hor : (x == j) = true ∨ listed.getD x false = true := by
            have hh : (listed.setIfInBounds j true).getD x false = true := hLx
            rw [hset, Bool.or_eq_true] at hh
            exact hh
          have hgoal : listed.getD e.on false = true → (fun i => (listed.setIfInBounds j true).getD i false) e.on = true := by
            intro h
            show (listed.setIfInBounds j true).getD e.on false = true
            rw [hset, h, Bool.or_true]
          apply hgoal
          rcases hor with hx | hx
          · have : x = j := by simpa using hx
            subst this
            rw [h2] at hq; cases hq
            exact h3 e (by simpa using he) hb
          · exact hL x q hq hx e he hb
        · have := countP_lt (p := fun i => !listed.getD i false) (q := fun i => !(listed.setIfInBounds j true).getD i false) (List.mem_range.2 hjs) (fun x hx => by
            simp only [hset] at hx
            simp at hx ⊢
            exact hx.2) (by simp only [h1]; rfl) (by simp only [hset]; simp)
          omega
        · rw [hset, hlast, Bool.or_false]
          simp; omega
        · exact hI'.ext hle fun i _ => (hset i).symm
theorem solo_parts {ops : Array Oper} (h : isSolo ops = true) : ∃ n ol, ops.size = n + 1 ∧ ops[n]? = some ol ∧ ops.toList.drop (ops.size - 1) = [ol] ∧ ∀ p, p < n → ((Region.before ops).getD n 0).testBit p = true := by
  unfold isSolo at h
  split at h
  · rename_i o ho
    simp only [Bool.and_eq_true] at h
    have hne : ops.toList ≠ [] := fun h0 => by rw [h0] at ho; cases ho
    have hpos : 0 < ops.size := by
      have := List.length_pos_iff.2 hne
      simpa using this
    have hget : ops.toList[ops.size - 1]? = some o := by
      rw [List.getLast?_eq_getElem?] at ho
      simpa using ho
    refine ⟨ops.size - 1, o, by omega, by simpa using hget, ?_, fun p hp => ?_⟩
    · have hlt : ops.size - 1 < ops.toList.length := by simp; omega
      rw [List.drop_eq_getElem_cons hlt]
      have h1 : ops.toList[ops.size - 1] = o := by
        rw [List.getElem?_eq_getElem hlt] at hget
        simpa using hget
      rw [h1, List.drop_eq_nil_of_le (by simp; omega)]
    · exact List.all_eq_true.1 h.2 p (List.mem_range.2 hp)
  · cases h
/-- A region that draws its order, all but its last operation. -/
theorem solo_wp {C : Cfg} (hM : ModesOK C) (hmix : C.P.follows .mixedOrders = true) {K : Call} (hK : SoundK C.P K) {F : Fm} {nt base : Nat} {ops : Array Oper} (hd : ∀ o ∈ ops.toList, ∀ d : Nat, o.dst = some d → d < nt) (hok : okDraw ops = true) {T T1 T' : Tmps} {H1 H' : Heap} {nx' : Nat} {l : List Foot} (hso : isSolo ops = true)
    (he : drawOps C K F ops base (ops.toList.take (ops.size - 1)) 0 T H = some (T1, H1, l)) (hfoot : footOk (Region.before ops) base l = true) (he2 : seqOps C K F ops (ops.toList.drop (ops.size - 1)) T1 H1 (base + ops.size * wide) = some (T', H', nx')) {a : Act} (hI : Inv ι0 w0 O F nt ι H w T a base) {id : Nat} {Q : Exit → Act → World → Prop}
    (hQ : ∀ ι' w' a', Inv ι0 w0 O F nt ι' H' w' T' a' nx' → Q .normal a' w') : (Code.region id ops true).wp C.P Q a w := by
  obtain ⟨n, ol, hn, hol, hdrop, hall⟩ := solo_parts hso
  rw [hdrop] at he2
  rw [show ops.size - 1 = n by omega] at he
  obtain ⟨rs, h1, h2, h3, h4⟩ := draw_plan he
  have hlen : rs.length = n := by rw [h1]; simp; omega
  have hT1 : T1 = tsel (fun _ => true) ops.toList rs 0 T := by
    rw [h2, tsel_take (Nat.le_of_eq hlen)]
    refine tsel_agree fun j hj => ?_
    simp; omega
  have hH1 : H1 = hsel (fun _ => true) rs 0 H := by
    rw [h3]
    refine hsel_ext fun j hj => ?_
    simp; omega
  rw [hT1, hH1] at he2
  have hrs : ∀ (j : Nat) o r, ops.toList[j]? = some o → rs[j]? = some r → RecOK C K F ops base l j o (tsel (fun x => decide (x < j)) ops.toList rs 0 T) (hsel (fun x => decide (x < j)) rs 0 H) r := by
    intro j o r ho hr
    have hj : j < n := by rw [← hlen]; exact (List.getElem?_eq_some_iff.1 hr).1
    have := h4 j o r (by rw [List.getElem?_take_of_lt hj]; exact ho) hr
    rw [tsel_take (Nat.le_of_eq hlen)] at this
    simpa using this
  refine wp_region_any hmix (draw_tail (ι0 := ι0) (w0 := w0) (O := O) (T := T) (H := H) hM hK hd hok (by rw [hlen]; simp; omega) hI.names.2 hrs hfoot (by rw [hlen]; exact hol) (by rw [hlen]; exact hall) he2 hQ ops.size _ a _ (by simp) ?_ ?_ ?_ ?_)
  · intro j o _ hL
    simp [Array.getD_eq_getD_getElem?, Array.getElem?_replicate] at hL
    split at hL <;> simp at hL
  · refine Nat.le_trans List.countP_le_length ?_
    simp
  · simp only [Array.getD_eq_getD_getElem?, Array.getElem?_replicate]
    split <;> rfl
  · refine ⟨ι, ?_, fun i hi _ b hb _ => hI.fresh b (by omega)⟩
    have hLf : ∀ i, (Array.replicate ops.size false).getD i false = false := by
      intro i
      simp only [Array.getD_eq_getD_getElem?, Array.getElem?_replicate]
      split <;> rfl
    have e1 : tsel (fun i => (Array.replicate ops.size false).getD i false) ops.toList rs 0 T = T := by
      rw [tsel_ext (L' := fun x => decide (x < 0)) (fun j _ => by rw [hLf]; simp)]
      exact tsel_none (Nat.le_refl _)
    have e2 : hsel (fun i => (Array.replicate ops.size false).getD i false) rs 0 H = H := by
      rw [hsel_ext (L' := fun x => decide (x < 0)) (fun j _ => by rw [hLf]; simp)]
      exact hsel_none (Nat.le_refl _)
    rw [e1, e2]
    exact (hI.drawn _).weaken (by omega)
end Go.AI
