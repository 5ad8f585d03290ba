/-
  Own work. The value interpreter over finite memory: names and temporaries in binary tries, for long runs of closed calls. Sound over the interpreter.
-/
import Derived.Test.YthagcidcihgboaaGreatAiFast
namespace Go.AI
open Go
set_option linter.unusedVariables false
set_option linter.unusedSimpArgs false

inductive Tr (α : Type) where
  | lf
  | nd (l : Tr α) (v : Option α) (r : Tr α)
namespace Tr
variable {α β : Type}
/-- Written out by recursors: the kernel runs these. -/
noncomputable def get (t : Tr α) : Nat → Option α :=
  Tr.rec (motive := fun _ => Nat → Option α) (fun _ => none) (fun _ v _ gl gr n => Nat.rec (motive := fun _ => Option α) v (fun m _ => Bool.rec (motive := fun _ => Option α) (gr (m / 2)) (gl (m / 2)) (Nat.beq (m % 2) 0)) n) t
noncomputable def set (x : Option α) (f : Nat) : Tr α → Nat → Tr α :=
  Nat.rec (motive := fun _ => Tr α → Nat → Tr α) (fun t _ => t) (fun _ ih t n => Tr.rec (motive := fun _ => Tr α)
    (Nat.rec (motive := fun _ => Tr α) (.nd .lf x .lf) (fun m _ => Bool.rec (motive := fun _ => Tr α) (.nd .lf none (ih .lf (m / 2))) (.nd (ih .lf (m / 2)) none .lf) (Nat.beq (m % 2) 0)) n)
    (fun l v r _ _ => Nat.rec (motive := fun _ => Tr α) (.nd l x r) (fun m _ => Bool.rec (motive := fun _ => Tr α) (.nd l v (ih r (m / 2))) (.nd (ih l (m / 2)) v r) (Nat.beq (m % 2) 0)) n) t) f
noncomputable def put (t : Tr α) (n : Nat) (x : Option α) : Tr α := set x (n + 1) t n
def mk (l : Tr α) (v : Option α) (r : Tr α) : Tr α := match l, v, r with
  | .lf, none, .lf => .lf
  | l, v, r => .nd l v r
def mapO (f : Nat → α → Option β) (a : Nat) : Option α → Option β
  | some x => f a x
  | none => none
def map (f : Nat → α → Option β) : Nat → Nat → Tr α → Tr β
  | _, _, .lf => .lf
  | a, w, .nd l v r => mk (map f (a + w) (2 * w) l) (mapO f a v) (map f (a + 2 * w) (2 * w) r)
theorem beq_two (m : Nat) : (Nat.beq (m % 2) 0 = true ∧ m = 2 * (m / 2)) ∨ (Nat.beq (m % 2) 0 = false ∧ m = 2 * (m / 2) + 1) := by
  rcases Nat.mod_two_eq_zero_or_one m with h | h
  · left; rw [h]; exact ⟨rfl, by omega⟩
  · right; rw [h]; exact ⟨rfl, by omega⟩
theorem get_lf (n : Nat) : (lf : Tr α).get n = none := rfl
theorem get_zero (l : Tr α) (v : Option α) (r : Tr α) : (nd l v r).get 0 = v := rfl
theorem get_succ (l : Tr α) (v : Option α) (r : Tr α) (m : Nat) : (nd l v r).get (m + 1) = (match Nat.beq (m % 2) 0 with
      | true => l.get (m / 2)
      | false => r.get (m / 2)) := by
  show (Bool.rec (motive := fun _ => Option α) (r.get (m / 2)) (l.get (m / 2)) (Nat.beq (m % 2) 0)) = _
  cases Nat.beq (m % 2) 0 <;> rfl
theorem set_lf (x : Option α) (f m : Nat) : set x (f + 1) .lf (m + 1) = (match Nat.beq (m % 2) 0 with
      | true => .nd (set x f .lf (m / 2)) none .lf
      | false => .nd .lf none (set x f .lf (m / 2))) := by
  show (Bool.rec (motive := fun _ => Tr α) (.nd .lf none (set x f .lf (m / 2))) (.nd (set x f .lf (m / 2)) none .lf) (Nat.beq (m % 2) 0)) = _
  cases Nat.beq (m % 2) 0 <;> rfl
theorem set_nd (x : Option α) (f m : Nat) (l : Tr α) (v : Option α) (r : Tr α) : set x (f + 1) (.nd l v r) (m + 1) = (match Nat.beq (m % 2) 0 with
      | true => .nd (set x f l (m / 2)) v r
      | false => .nd l v (set x f r (m / 2))) := by
  show (Bool.rec (motive := fun _ => Tr α) (.nd l v (set x f r (m / 2))) (.nd (set x f l (m / 2)) v r) (Nat.beq (m % 2) 0)) = _
  cases Nat.beq (m % 2) 0 <;> rfl
theorem get_mk (l : Tr α) (v : Option α) (r : Tr α) (n : Nat) : (mk l v r).get n = (nd l v r).get n := by
  unfold mk
  split
  · cases n with
    | zero => rfl
    | succ m => rw [get_succ]; cases Nat.beq (m % 2) 0 <;> rfl
  · rfl
/-- One level, where something is laid. -/
theorem get_level (x : Option α) (f : Nat) (l : Tr α) (v : Option α) (r : Tr α) (m k : Nat) (hl : (set x f l (m / 2)).get (k / 2) = if k / 2 = m / 2 then x else l.get (k / 2)) (hr : (set x f r (m / 2)).get (k / 2) = if k / 2 = m / 2 then x else r.get (k / 2)) :
    Tr.get (match Nat.beq (m % 2) 0 with | true => .nd (set x f l (m / 2)) v r | false => .nd l v (set x f r (m / 2))) (k + 1) = if k + 1 = m + 1 then x else (nd l v r).get (k + 1) := by
  rcases beq_two m with ⟨h1, h2⟩ | ⟨h1, h2⟩ <;> rw [h1] <;> dsimp only <;> rw [get_succ, get_succ] <;> rcases beq_two k with ⟨g1, g2⟩ | ⟨g1, g2⟩ <;> rw [g1] <;> dsimp only
  · rw [hl]
    by_cases e : k / 2 = m / 2
    · rw [if_pos e, if_pos (by omega)]
    · rw [if_neg e, if_neg (by omega)]
  · rw [if_neg (by omega)]
  · rw [if_neg (by omega)]
  · rw [hr]
    by_cases e : k / 2 = m / 2
    · rw [if_pos e, if_pos (by omega)]
    · rw [if_neg e, if_neg (by omega)]
theorem get_set (x : Option α) : ∀ (f : Nat) (t : Tr α) (n k : Nat), n < f → (set x f t n).get k = if k = n then x else t.get k
  | 0, _, n, _, h => absurd h (Nat.not_lt_zero _)
  | f + 1, .lf, 0, 0, h => rfl
  | f + 1, .lf, 0, k + 1, h => by
    rw [if_neg (Nat.succ_ne_zero _)]
    show (nd lf x lf).get (k + 1) = none
    rw [get_succ]; cases Nat.beq (k % 2) 0 <;> rfl
  | f + 1, .lf, m + 1, 0, h => by
    rw [if_neg (by omega), set_lf]
    cases Nat.beq (m % 2) 0 <;> rfl
  | f + 1, .lf, m + 1, k + 1, h => by
    have e := get_set x f .lf (m / 2) (k / 2) (by omega)
    have := get_level x f .lf none .lf m k e e
    have z : (nd lf none lf : Tr α).get (k + 1) = (lf : Tr α).get (k + 1) := by rw [get_succ]; cases Nat.beq (k % 2) 0 <;> rfl
    rw [z] at this
    rw [set_lf]
    exact this
  | f + 1, .nd l v r, 0, 0, h => rfl
  | f + 1, .nd l v r, 0, k + 1, h => by
    rw [if_neg (Nat.succ_ne_zero _)]; rfl
  | f + 1, .nd l v r, m + 1, 0, h => by
    rw [if_neg (by omega), set_nd]
    cases Nat.beq (m % 2) 0 <;> rfl
  | f + 1, .nd l v r, m + 1, k + 1, h => by
    rw [set_nd]
    exact get_level x f l v r m k (get_set x f l (m / 2) (k / 2) (by omega)) (get_set x f r (m / 2) (k / 2) (by omega))
theorem get_put (t : Tr α) (n : Nat) (x : Option α) (k : Nat) : (put t n x).get k = if k = n then x else t.get k := get_set x (n + 1) t n k (Nat.lt_succ_self n)
theorem get_map (f : Nat → α → Option β) : ∀ (t : Tr α) (a w n : Nat), (map f a w t).get n = mapO f (a + w * n) (t.get n)
  | .lf, a, w, n => by unfold map; rw [get_lf, get_lf]; rfl
  | .nd l v r, a, w, n => by
    unfold map
    rw [get_mk]
    cases n with
    | zero => simp [get_zero]
    | succ m =>
      rw [get_succ, get_succ]
      rcases beq_two m with ⟨h1, h2⟩ | ⟨h1, h2⟩ <;> rw [h1] <;> dsimp only
      · rw [get_map f l]
        congr 1
        generalize m / 2 = q at *
        subst h2
        rw [Nat.mul_add, Nat.mul_one, Nat.mul_comm 2 w, Nat.mul_assoc]; omega
      · rw [get_map f r]
        congr 1
        generalize m / 2 = q at *
        subst h2
        rw [Nat.mul_add, Nat.mul_add, Nat.mul_one, Nat.mul_comm 2 w, Nat.mul_assoc]; omega
end Tr

/-- Memory; temporaries. -/
noncomputable def hp (h : Tr ABlk) : Heap := h.get
def orUndef : Option AV → AV
  | some v => v
  | none => undefA
noncomputable def tm (t : Tr AV) : Tmps := fun i => orUndef (t.get i)
noncomputable def bwr : Tr ABlk → Wr → Tr ABlk
  | h, [] => h
  | h, (b, x) :: r => bwr (h.put b x) r
theorem hp_put (h : Tr ABlk) (b : Nat) (x : Option ABlk) : hp (h.put b x) = hset (hp h) b x := by
  funext c
  exact Tr.get_put h b x c
theorem hp_wr : ∀ (l : Wr) (h : Tr ABlk), hp (bwr h l) = writes (hp h) l
  | [], h => rfl
  | (b, x) :: r, h => by
    unfold bwr writes
    rw [hp_wr r, hp_put]
noncomputable def bputT (t : Tr AV) : Option Tmp → AV → Tr AV
  | some d, v => t.put d (some v)
  | none, _ => t
theorem tm_put (t : Tr AV) (d : Option Tmp) (v : AV) : tm (bputT t d v) = putT (tm t) d v := by
  cases d with
  | none => rfl
  | some d =>
    funext c
    show orUndef ((t.put d (some v)).get c) = if c = d then v else orUndef (t.get c)
    rw [Tr.get_put]
    by_cases h : c = d
    · rw [if_pos h, if_pos h]; rfl
    · rw [if_neg h, if_neg h]
noncomputable def bargs : Nat → List AV → Tr AV
  | _, [] => .lf
  | i, v :: r => (bargs (i + 1) r).put i (some v)
theorem tm_args_at : ∀ (l : List AV) (i t : Nat), tm (bargs i l) t = if i ≤ t then (match l[t - i]? with | some v => v | none => undefA) else undefA
  | [], i, t => by
    show orUndef ((Tr.lf : Tr AV).get t) = _
    rw [Tr.get_lf]
    simp [orUndef]
  | v :: r, i, t => by
    show orUndef (((bargs (i + 1) r).put i (some v)).get t) = _
    rw [Tr.get_put]
    by_cases h : t = i
    · subst h; rw [if_pos rfl, if_pos (Nat.le_refl _), Nat.sub_self]; rfl
    · rw [if_neg h]
      have := tm_args_at r (i + 1) t
      unfold tm at this
      rw [this]
      by_cases h1 : i ≤ t
      · rw [if_pos h1, if_pos (by omega)]
        obtain ⟨d, rfl⟩ : ∃ d, t = i + 1 + d := ⟨t - (i + 1), by omega⟩
        rw [show i + 1 + d - (i + 1) = d by omega, show i + 1 + d - i = d + 1 by omega]; rfl
      · rw [if_neg h1, if_neg (by omega)]
theorem tm_args (l : List AV) : tm (bargs 0 l) = argsT l := by
  funext t
  rw [tm_args_at, if_pos (Nat.zero_le _)]; rfl
/-- Every temporary, every block. -/
noncomputable def bmapT (f : AV → AV) (t : Tr AV) : Tr AV := t.map (fun _ v => some (f v)) 0 1
noncomputable def bmapH (f : Nat → ABlk → Option ABlk) (h : Tr ABlk) : Tr ABlk := h.map f 0 1
theorem tm_map (f : AV → AV) (hf : f undefA = undefA) (t : Tr AV) : tm (bmapT f t) = fun i => f (tm t i) := by
  funext i
  show orUndef ((t.map (fun _ v => some (f v)) 0 1).get i) = f (orUndef (t.get i))
  rw [Tr.get_map]
  cases t.get i with
  | none => exact hf.symm
  | some v => rfl
theorem hp_map (f : Nat → ABlk → Option ABlk) (h : Tr ABlk) : hp (bmapH f h) = fun b => Tr.mapO f b (hp h b) := by
  funext b
  show (h.map f 0 1).get b = Tr.mapO f b (h.get b)
  rw [Tr.get_map, Nat.zero_add, Nat.one_mul]
noncomputable def bfrzT (p : Nat → Bool) (h : Tr ABlk) (t : Tr AV) : Tr AV := bmapT (frzV p (hp h) 4) t
noncomputable def bfrzH (p : Nat → Bool) (h : Tr ABlk) : Tr ABlk := bmapH (fun b B => if p b then none else some (frzB p (hp h) B)) h
noncomputable def kB (p : Nat → Bool) (H : Heap) (b : Nat) : ABlk → Option ABlk
  | .row s ver data => if p b then some (.row s (ver + 1) []) else some (frzB p H (.row s ver data))
  | .mp es => some (frzB p H (.mp es))
noncomputable def bfrzK (p : Nat → Bool) (h : Tr ABlk) : Tr ABlk := bmapH (kB p (hp h)) h
noncomputable def bcanT (q : Bool) (lo : Nat) (h : Tr ABlk) (t : Tr AV) : Tr AV := bmapT (canV q lo (hp h) 4) t
noncomputable def bcanH (q : Bool) (lo : Nat) (h : Tr ABlk) : Tr ABlk := bmapH (fun b B => some (canB q lo (hp h) b B)) h
theorem tm_frz (p : Nat → Bool) (h : Tr ABlk) (t : Tr AV) : tm (bfrzT p h t) = frzT p (hp h) (tm t) := tm_map _ rfl t
theorem tm_can (q : Bool) (lo : Nat) (h : Tr ABlk) (t : Tr AV) : tm (bcanT q lo h t) = canT q lo (hp h) (tm t) := tm_map _ rfl t
theorem hp_frzH (p : Nat → Bool) (h : Tr ABlk) : hp (bfrzH p h) = frzH p (hp h) := by
  unfold bfrzH
  rw [hp_map]
  funext b
  unfold frzH
  cases hp h b with
  | none => simp [Tr.mapO]
  | some B => rfl
theorem hp_frzK (p : Nat → Bool) (h : Tr ABlk) : hp (bfrzK p h) = frzK p (hp h) := by
  unfold bfrzK
  rw [hp_map]
  funext b
  unfold frzK
  cases hp h b with
  | none => rfl
  | some B => cases B <;> rfl
theorem hp_can (q : Bool) (lo : Nat) (h : Tr ABlk) : hp (bcanH q lo h) = canH q lo (hp h) := by
  unfold bcanH
  rw [hp_map]
  funext b
  unfold canH
  cases hp h b with
  | none => rfl
  | some B => rfl

abbrev BCall := FuncId → List AV → Tr ABlk → Nat → Option (AV × Tr ABlk × Nat)
/-- What calls of that kind come to, comes by calls. -/
def BLe (K : BCall) (K' : Call) : Prop := ∀ f args h nx v h' nx', K f args h nx = some (v, h', nx') → K' f args (hp h) nx = some (v, hp h', nx')
noncomputable def bval (K : BCall) (f : FuncId) (as : List AV) : Option AV := match K f as .lf 0 with
  | some (r, hc, _) => snap allB (hp hc) 4 r
  | none => none
theorem hp_lf : hp .lf = noHeap := rfl
theorem bval_ok {K : BCall} {K' : Call} (h : BLe K K') {f : FuncId} {as : List AV} {r : AV} (hr : bval K f as = some r) : byValue K' f as = some r := by
  unfold bval at hr
  split at hr
  · rename_i v hc n hk
    have := h _ _ _ _ _ _ _ hk
    rw [hp_lf] at this
    unfold byValue
    rw [this]; exact hr
  · cases hr
inductive BOut where
  | eff (e : Eff)
  | frz (v : AV) (p : List Nat)
  | run (v : AV) (h : Tr ABlk) (nx : Nat)
def bfrzO : Option (AV × List Nat) → Option BOut
  | some (r, []) => some (.eff ⟨r, []⟩)
  | some (r, p) => some (.frz r p)
  | none => none
def beffO : Option Eff → Option BOut
  | some e => some (.eff e)
  | none => none
noncomputable def bcellCall (K : BCall) (f : FuncId) (args : List AV) (H : Heap) : Option Eff :=
  match args with
  | .ptr b ver i o :: r => match H b, Go.AI.mapO (snap (fun _ => false) H 4) r with
    | some (.row s ver' data), some as =>
      if ver = ver' then
        match data[i]? with
        | some cs => match cs[o]? with
          | some (.d x) => match K f (.ptr 0 0 0 0 :: as) (Tr.put .lf 0 (some (.row 1 0 [[.d x]]))) wide with
            | some (v, hc, _) => match snap (fun b => b != 0) (hp hc) 4 v, hp hc 0 with
              | some v', some (.row 1 0 [[.d y]]) => some ⟨v', [(b, some (.row s ver (data.set i (putCells cs o [.d y]))))]⟩
              | _, _ => none
            | none => none
          | _ => none
        | none => none
      else none
    | _, _ => none
  | _ => none
/-- The blocks of a list, out of memory. -/
noncomputable def bcut (H : Heap) : List Nat → Tr ABlk
  | [] => .lf
  | b :: r => (bcut H r).put b (H b)
noncomputable def bboxCall (K : BCall) (f : FuncId) (args : List AV) (H : Heap) (fr : Nat) : Option Eff :=
  if boxOK (args.flatMap (refsIn H 4)) args H fr = true then (match K f args (bcut H (args.flatMap (refsIn H 4))) (boxTop (args.flatMap (refsIn H 4))) with
    | some (v, hc, _) => boxEnd (args.flatMap (refsIn H 4)) v (hp hc) fr
    | none => none) else none
def brunO : Option (AV × Tr ABlk × Nat) → Option BOut
  | some (v, h, nx) => some (.run v h nx)
  | none => none
noncomputable def bcallOut (C : Cfg) (K : BCall) (R : FuncId → List AV → Option (AV × Tr ABlk × Nat)) (f : FuncId) (args : List AV) (H : Heap) (fr : Nat) : Option BOut :=
  match C.mode f with
  | .pure => bfrzO (pureCall (bval K) f args H)
  | .prim => bfrzO (pureCall C.prim f args H)
  | .clone t => beffO (cloneA C.P H fr t args)
  | .sort c => beffO (sortA c H args)
  | .inl => brunO (R f args)
  | .cell => beffO (bcellCall K f args H)
  | .box => beffO (bboxCall K f args H fr)
  | _ => none
noncomputable def bvalOut (C : Cfg) (K : BCall) (R : FuncId → List AV → Option (AV × Tr ABlk × Nat)) (H : Heap) (fr : Nat) (args : List AV) (em : Bool) : AV → Option BOut
  | .fn f caps => if f < bnd then bcallOut C K R f (typedFor C.P f args ++ caps) H fr else if em then bcallOut C K R (f - bnd) caps H fr else none
  | .d (.fn f caps) => if f < bnd then bcallOut C K R f (typedFor C.P f args ++ caps.map .d) H fr else none
  | _ => none
noncomputable def bcalleeOut (C : Cfg) (K : BCall) (R : FuncId → List AV → Option (AV × Tr ABlk × Nat)) (F : Fm) (T : Tmps) (H : Heap) (fr : Nat) (o : Oper) (c : Go.Call) : Callee → Option BOut
  | .value fo => bvalOut C K R H fr (c.args.toList.map (aeval T)) c.args.isEmpty (aeval T fo)
  | _ => beffO (ef_call C.P (aeval T) H fr c)
noncomputable def boperOut (C : Cfg) (K : BCall) (R : FuncId → List AV → Option (AV × Tr ABlk × Nat)) (F : Fm) (T : Tmps) (H : Heap) (fr : Nat) (o : Oper) : Option BOut :=
  match o.op with
  | .call c => bcalleeOut C K R F T H fr o c c.callee
  | _ => beffO (effF C.P F (aeval T) H fr o)
noncomputable def BOut.to : BOut → Out
  | .eff e => .eff e
  | .frz v p => .frz v p
  | .run v h nx => .run v (hp h) nx
noncomputable def bseq (C : Cfg) (K : BCall) (F : Fm) (ops : Array Oper) : List Oper → Tr AV → Tr ABlk → Nat → Option (Tr AV × Tr ABlk × Nat)
  | [], t, h, nx => some (t, h, nx)
  | o :: r, t, h, nx => match wantedA ops (tm t) o with
    | some true => if isDeep F o then none else match boperOut C K (fun f args => K f args h nx) F (tm t) (hp h) nx o with
      | some (.eff e) => bseq C K F ops r (bputT t o.dst e.v) (bwr h e.wr) (nx + wide)
      | some (.frz v p) => bseq C K F ops r (bputT (bfrzT p.contains h t) o.dst v) (bfrzK p.contains h) (nx + wide)
      | some (.run v h' nx') => bseq C K F ops r (bputT t o.dst v) h' nx'
      | none => none
    | some false => bseq C K F ops r (bputT t o.dst undefA) h (nx + wide)
    | none => none
noncomputable def bdraw (C : Cfg) (K : BCall) (F : Fm) (ops : Array Oper) (base : Nat) : List Oper → Nat → Tr AV → Tr ABlk → Option (Tr AV × Tr ABlk × List Foot)
  | [], _, t, h => some (t, h, [])
  | o :: r, i, t, h => match wantedA ops (tm t) o with
    | some true => match boperOut C K (fun _ _ => none) F (tm t) (restr (hp h) (footH F (tm t) (hp h) o)) (base + i * wide) o with
      | some (.eff e) => match bdraw C K F ops base r (i + 1) (bputT t o.dst e.v) (bwr h e.wr) with
        | some (t', h', l) => some (t', h', ⟨i, footH F (tm t) (hp h) o, (e.wr.map (·.1)).filter fun b => b < base + i * wide || base + i * wide + wide ≤ b⟩ :: l)
        | none => none
      | some (.frz v p) => match bdraw C K F ops base r (i + 1) (bputT t o.dst v) (bwr h (killed (hp h) p)) with
        | some (t', h', l) => if p.all (footH F (tm t) (hp h) o).contains then some (t', h', ⟨i, footH F (tm t) (hp h) o, p⟩ :: l) else none
        | none => none
      | _ => none
    | some false => bdraw C K F ops base r (i + 1) (bputT t o.dst undefA) h
    | none => none
noncomputable def bregion (C : Cfg) (K : BCall) (F : Fm) (ops : Array Oper) (draw : Bool) (t : Tr AV) (h : Tr ABlk) (nx : Nat) : Option (Tr AV × Tr ABlk × Nat) :=
  if draw then
    if isSolo ops then
      match bdraw C K F ops nx (ops.toList.take (ops.size - 1)) 0 t h with
      | some (t', h', l) => if footOk (Region.before ops) nx l then bseq C K F ops (ops.toList.drop (ops.size - 1)) t' h' (nx + ops.size * wide) else none
      | none => none
    else match bdraw C K F ops nx ops.toList 0 t h with
    | some (t', h', l) => if footOk (Region.before ops) nx l then some (t', h', nx + ops.size * wide) else none
    | none => none
  else bseq C K F ops ops.toList t h nx
noncomputable def bdeadT (t : Tr AV) : List Tmp → Tr AV
  | [] => t
  | d :: r => (bdeadT t r).put d (some .dead)
structure BS where
  k : List AItem
  t : Tr AV
  h : Tr ABlk
  nx : Nat
/-- One item. -/
noncomputable def bround (F : Fm) (b : Code) (nx0 : Nat) (k : List AItem) (t : Tr AV) (h : Tr ABlk) (nx : Nat) : Option BS :=
  if F.tr then some ⟨.code b :: .inLoop b nx0 :: k, bcanT F.q F.sb (bfrzH (fun b => Nat.ble nx0 b) h) (bfrzT (fun b => Nat.ble nx0 b) h t), bcanH F.q F.sb (bfrzH (fun b => Nat.ble nx0 b) h), nx0⟩
  else some ⟨.code b :: .inLoop b nx0 :: k, bcanT F.q F.sb h t, bcanH F.q F.sb h, nx⟩
noncomputable def bexit (t : Tr AV) (h : Tr ABlk) (nx : Nat) : Option (List AItem) → Option BS
  | some k' => some ⟨k', t, h, nx⟩
  | none => none
noncomputable def bcond (a b : Code) (k : List AItem) (t : Tr AV) (h : Tr ABlk) (nx : Nat) : AV → Option BS
  | .d (.v (.bool true)) => some ⟨.code a :: k, t, h, nx⟩
  | .d (.v (.bool false)) => some ⟨.code b :: k, t, h, nx⟩
  | _ => none
noncomputable def bback (k : List AItem) : Option (Tr AV × Tr ABlk × Nat) → Option BS
  | some (t', h', nx') => some ⟨k, t', h', nx'⟩
  | none => none
noncomputable def bquit (C : Cfg) (K : BCall) (F : Fm) (ps : Array Tmp) (k : List AItem) (t : Tr AV) (h : Tr ABlk) (nx : Nat) : Option (Array Oper × Option (List (List DV))) → Option BS
  | some (ops, some []) => some ⟨k, t, h, nx⟩
  | some (ops, some (_ :: _)) => match bregion C K (quitF F nx) ops false (bdeadT t ps.toList) h (nx + (F.lo - F.sb)) with
    | some (_, h', nx') => some ⟨[], t, h', nx'⟩
    | none => none
  | _ => none
noncomputable def bcode (C : Cfg) (K : BCall) (F : Fm) (k : List AItem) (t : Tr AV) (h : Tr ABlk) (nx : Nat) : Code → Option BS
  | .skip => some ⟨k, t, h, nx⟩
  | .label _ => some ⟨k, t, h, nx⟩
  | .ret => some ⟨[], t, h, nx⟩
  | .seq a b => some ⟨.code a :: .code b :: k, t, h, nx⟩
  | .block id b => some ⟨.code b :: .inBlock id :: k, t, h, nx⟩
  | .loop b => some ⟨.code b :: .inLoop b (upN nx) :: k, bcanT F.q F.sb h t, bcanH F.q F.sb h, upN nx⟩
  | .scope b => some ⟨.code b :: .inScope b :: k, t, h, nx⟩
  | .exit id => bexit t h nx (exitToA id k)
  | .cond c a b => bcond a b k t h nx (aeval (tm t) c)
  | .region _ ops draw => bback k (bregion C K F ops draw t h nx)
  | .rangeFunc f ps assign body => bquit C K F ps k t h nx (rangeA C (tm t) (hp h) f ps assign body)
  | _ => none
noncomputable def bitem (C : Cfg) (K : BCall) (F : Fm) (k : List AItem) (t : Tr AV) (h : Tr ABlk) (nx : Nat) : AItem → Option BS
  | .inBlock _ => some ⟨k, t, h, nx⟩
  | .inScope _ => some ⟨k, t, h, nx⟩
  | .inLoop b nx0 => bround F b nx0 k t h nx
  | .code c => bcode C K F k t h nx c
noncomputable def bstep (C : Cfg) (K : BCall) (F : Fm) (s : BS) : Option BS := match s.k with
  | [] => none
  | i :: k => bitem C K F k s.t s.h s.nx i
noncomputable def bcallOf (C : Cfg) (run : Fm → BS → Option BS) : BCall := fun f args h nx => match C.P.funcs[f]? with
  | some fn => match fn.body with
    | some c => if args.length ≤ fn.ntmps then (match run ⟨nx, nx + fn.ntmps, C.trim f, C.names f, C.virt f⟩ ⟨[.code c], bargs 0 args, h, nx + fn.ntmps⟩ with
      | some s => (match resultsA C.P fn (tm s.t) (hp s.h) with | some v => some (v, s.h, s.nx) | none => none)
      | none => none) else none
    | none => none
  | none => none
/-- A run to its end. -/
noncomputable def brun (C : Cfg) : Nat → Fm → BS → Option BS
  | 0, _, _ => none
  | n + 1, F, s => match s.k with
    | [] => some s
    | _ :: _ => match bstep C (bcallOf C (brun C n)) F s with
      | some s' => brun C n F s'
      | none => none
noncomputable def bcall (C : Cfg) (n : Nat) : BCall := bcallOf C (brun C n)
end Go.AI
