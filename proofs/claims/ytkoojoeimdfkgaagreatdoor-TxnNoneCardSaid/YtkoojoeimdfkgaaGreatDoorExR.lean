/-
  The runner is right: operations in their regions.
-/
import Derived.Test.YtkoojoeimdfkgaaGreatDoorExQ
import Derived.RangeFuncRecord
namespace Go.Ex
open Go Go.RowKit Go.Sx

theorem T.upd_self {α : Type} : ∀ (f : Nat) (t t' : T α) (p k : Nat) (a : α) (o : Option α), T.upd f t p k a = some (t', o) → t'.get p k = some a
  | 0, _, _, _, _, _, _, h => by simp [T.upd] at h
  | f + 1, t, t', p, k, a, o, h => by
    have hkk : Nat.beq k k = true := by simp
    cases t with
    | e =>
      cases p with
      | zero =>
        simp only [T.upd, Option.some.injEq, Prod.mk.injEq] at h
        rw [← h.1]
        simp [T.get]
      | succ p =>
        simp only [T.upd] at h
        split at h
        case h_2 => cases h
        rename_i t1 o1 h1
        have := T.upd_self f _ _ _ _ _ _ h1
        cases hb : Nat.beq (p % 2) 0 <;> rw [hb] at h <;> simp only [Option.some.injEq, Prod.mk.injEq] at h <;> (rw [← h.1]; simp only [T.get, hb]; exact this)
    | n v l r =>
      cases p with
      | zero =>
        cases v with
        | none =>
          simp only [T.upd, Option.some.injEq, Prod.mk.injEq] at h
          rw [← h.1]
          simp [T.get]
        | some y =>
          obtain ⟨k', a'⟩ := y
          simp only [T.upd] at h
          split at h
          · simp only [Option.some.injEq, Prod.mk.injEq] at h
            rw [← h.1]
            simp [T.get]
          · cases h
      | succ p =>
        simp only [T.upd] at h
        cases hb : Nat.beq (p % 2) 0 <;> rw [hb] at h <;> simp only at h
        all_goals
          split at h
          case h_2 => cases h
          rename_i t1 o1 h1
          have := T.upd_self f _ _ _ _ _ _ h1
          simp only [Option.some.injEq, Prod.mk.injEq] at h
          rw [← h.1]
          simp only [T.get, hb]
          exact this
def ADef.val (ν : Vl) : ADef → Deferred
  | .fn f args caps => { target := .fn (.func f) (AV.vals ν caps).toArray, args := (AV.vals ν args).toArray }
  | .col i => { target := .collected (ν i).block, args := #[] }
def ADef.okB (n : Nat) : ADef → Bool
  | .fn _ a c => AV.oksB n a && AV.oksB n c
  | .col i => Nat.blt i n
theorem ADef.val_same {n : Nat} {ν ν' : Vl} (h : Vl.Same n ν ν') (d : ADef) (hd : d.okB n = true) : d.val ν' = d.val ν := by
  cases d with
  | fn f a c =>
    simp only [ADef.okB, Bool.and_eq_true] at hd
    simp only [ADef.val, AV.vals_same h _ hd.1, AV.vals_same h _ hd.2]
  | col i => simp only [ADef.val]; rw [h i (blt_lt hd)]
theorem ADef.okB_le {n m : Nat} (h : n ≤ m) {d : ADef} (hd : d.okB n = true) : d.okB m = true := by
  cases d with
  | fn f a c =>
    simp only [ADef.okB, Bool.and_eq_true] at hd ⊢
    exact ⟨AV.oksB_le h _ hd.1, AV.oksB_le h _ hd.2⟩
  | col i => exact lt_blt (Nat.lt_of_lt_of_le (blt_lt hd) h)

section
variable {P : Program} (K : Tl P)
/-- the variables of the program that are known -/
def GInv (n : Nat) (ν : Vl) : Prop := ∀ g i, K.G g = some i → i < n ∧ ν i = .blk g
structure Rel (x : Cx) (s : AS) (ν : Vl) (a : Act) (w : World) : Prop where
  slots : Slots ν s.env a.tmps
  size : a.tmps.size = x.nt
  ds : a.defers = s.ds.map (ADef.val ν)
  mem : Mem ν s.n s.h w
  env : ∀ t v, s.env.get t t = some v → v.okB s.n = true
  dok : ∀ d ∈ s.ds, d.okB s.n = true
  glob : GInv K s.n ν
variable {K}
theorem GInv.same {n m : Nat} {ν ν' : Vl} (h : GInv K n ν) (hs : Vl.Same n ν ν') (hm : n ≤ m) : GInv K m ν' := fun g i hi => ⟨Nat.lt_of_lt_of_le (h g i hi).1 hm, by rw [← hs i (h g i hi).1]; exact (h g i hi).2⟩
variable {x : Cx} {s s' : AS} {ν ν' : Vl} {a : Act} {w w' : World}
theorem Rel.gok (h : Rel K x s ν a w) : GOk ν K.G := fun g i hi => (h.glob g i hi).2
theorem Rel.put {d : Option Tmp} {v : AV} (hp : putD x.nt d v s = some s') (h : Rel K x s ν a w) : Rel K x s' ν (a.put d (v.val ν)) w ∧ s'.n = s.n ∧ s'.h = s.h ∧ s'.ds = s.ds := by
  cases d with
  | none =>
    simp only [putD, Option.some.injEq] at hp
    subst hp
    exact ⟨h, rfl, rfl, rfl⟩
  | some d =>
    simp only [putD, forceV_eq] at hp
    split at hp
    case h_2 => cases hp
    rename_i hc
    simp only [Bool.and_eq_true] at hc
    split at hp
    case h_2 => cases hp
    rename_i e' o he
    injection hp with hp
    subst hp
    have hd := Nat.le_of_ble_eq_true hc.2
    refine ⟨⟨?_, by simp [Act.put, h.size], by simp [Act.put, h.ds], h.mem, ?_, h.dok, h.glob⟩, rfl, rfl, rfl⟩
    · intro t u hu
      have hu0 := hu
      rcases T.get_upd _ _ _ _ _ _ _ _ _ _ he hu with ⟨rfl, rfl⟩ | hu
      · simp [Act.put, Array.getElem?_setIfInBounds, h.size]; omega
      · by_cases htd : d = t
        · subst htd
          have h1 := T.upd_self _ _ _ _ _ _ _ he
          have h2 : T.get e' d d = some u := hu0
          rw [h1] at h2
          injection h2 with h2
          subst h2
          simp [Act.put, Array.getElem?_setIfInBounds, h.size]; omega
        · simp only [Act.put]
          rw [Array.getElem?_setIfInBounds_ne htd]
          exact h.slots t u hu
    · intro t u hu
      rcases T.get_upd _ _ _ _ _ _ _ _ _ _ he hu with ⟨rfl, rfl⟩ | hu
      · exact hc.1
      · exact h.env t u hu
/-- memory has turned, under names that stand for the same -/
theorem Rel.turn {h' : Heap} {n' : Nat} (h : Rel K x s ν a w) (hs : Vl.Same s.n ν ν') (hn : s.n ≤ n') (hm : Mem ν' n' h' w') : Rel K x { s with h := h', n := n' } ν' a w' where
  slots := fun t v hv => by rw [h.slots t v hv, AV.val_same hs v (h.env t v hv)]
  size := h.size
  ds := by rw [h.ds]; exact List.map_congr_left fun d hd => (ADef.val_same hs d (h.dok d hd)).symm
  mem := hm
  env := fun t v hv => AV.okB_le hn v (h.env t v hv)
  dok := fun d hd => ADef.okB_le hn (h.dok d hd)
  glob := h.glob.same hs hn
theorem dsNo_val {i : Nat} (ho : Off i ν ν') : ∀ {l : List ADef}, dsNo i l = true → ∀ d ∈ l, d.val ν' = d.val ν
  | [], _, _, h => by cases h
  | .fn f a c :: l, hl, d, h => by
    simp only [dsNo, Bool.and_eq_true] at hl
    rcases List.mem_cons.1 h with rfl | h
    · simp only [ADef.val, AV.vals_off ho _ hl.1, AV.vals_off ho _ hl.2.1]
    · exact dsNo_val ho hl.2.2 d h
  | .col j :: l, hl, d, h => by
    simp only [dsNo, Bool.and_eq_true] at hl
    rcases List.mem_cons.1 h with rfl | h
    · simp only [ADef.val]; rw [ho j (no_ne hl.1)]
    · exact dsNo_val ho hl.2 d h
/-- memory has turned, but for a name that was in nothing -/
theorem Rel.off {h' : Heap} {id : Nat} (h : Rel K x s ν a w) (ho : Off id ν ν') (hno : s.noB id = true) (hg : ∀ g i, K.G g = some i → i ≠ id) (hm : Mem ν' s.n h' w') : Rel K x { s with h := h' } ν' a w' := by
  simp only [AS.noB, Bool.and_eq_true] at hno
  exact {
    slots := fun t v hv => by rw [h.slots t v hv, AV.val_off ho v (T.all_mem hno.2.1 _ (T.get_mem _ _ _ _ hv))]
    size := h.size
    ds := by rw [h.ds]; exact List.map_congr_left fun d hd => (dsNo_val ho hno.1 d hd).symm
    mem := hm
    env := h.env
    dok := h.dok
    glob := fun g i hi => ⟨(h.glob g i hi).1, by rw [ho i (hg g i hi)]; exact (h.glob g i hi).2⟩ }
theorem Rel.fresh (h : Rel K x s ν a w) : Fresh ν K.G s.n s.env s.h where
  glob := fun g i hi => Nat.ne_of_lt (h.glob g i hi).1
  agr := ⟨AV.okB s.n, fun j => Nat.blt j s.n, fun ν' ho => agrees_same fun j hj => (ho j (Nat.ne_of_lt hj)).symm, h.env, fun y hy => ⟨Nat.ne_of_lt (h.mem.ok y hy).1, by rw [okB_all]; exact (h.mem.ok y hy).2.1⟩⟩
theorem Rel.freshNo {id : Nat} (_h : Rel K x s ν a w) (hno : s.noB id = true) (hg : ∀ g i, K.G g = some i → i ≠ id) : Fresh ν K.G id s.env s.h := by
  simp only [AS.noB, Bool.and_eq_true] at hno
  exact ⟨hg, AV.noB id, fun j => !Nat.beq j id, fun ν' ho => agrees_off ho, fun t v hv => T.all_mem hno.2.1 _ (T.get_mem _ _ _ _ hv), fun y hy => by
    have := T.all_mem hno.2.2 y hy
    simp only [Bool.and_eq_true] at this
    exact ⟨no_ne this.1, by rw [noB_all]; exact this.2⟩⟩
theorem off_same {n id : Nat} (ho : Off id ν ν') (hn : n ≤ id) : Vl.Same n ν ν' := fun j hj => (ho j (by omega)).symm
theorem Rel.drew (h : Rel K x s ν a w) : Rel K x s ν a { w with drawn := w.drawn + 1 } := ⟨h.slots, h.size, h.ds, h.mem.drew, h.env, h.dok, h.glob⟩
theorem Rel.more {n' : Nat} (h : Rel K x s ν a w) (hn : s.n ≤ n') : Rel K x { s with n := n' } ν a w := h.turn Vl.Same.refl hn (h.mem.le hn)

/-- whether an operation is wanted -/
theorem want_ok {ops : Array Oper} {o : Oper} {b : Bool} (h : wantO s.env ops.toList o = some b) (hs : Slots ν s.env a.tmps) : Region.wanted o (yielded ops a.tmps) = b := by
  unfold wantO at h
  split at h
  · rename_i hg
    injection h with h
    subst h
    simp [Region.wanted, hg]
  · rename_i j want hg
    split at h
    case h_2 => cases h
    rename_i oj hj
    split at h
    case h_2 => cases h
    rename_i t ht
    have hj' : ops[j]? = some oj := by simpa using hj
    split at h
    · rename_i b' hb
      injection h with h
      subst h
      have := hs t _ hb
      simp [Region.wanted, hg, yielded, hj', ht, this, AV.val]
    · rename_i hb
      injection h with h
      subst h
      have := hs t _ hb
      simp [Region.wanted, hg, yielded, hj', ht, this, AV.val, AV.vals]
    · cases h

/-! ### a call, as the machine makes it -/
def CallOk (P : Program) (g : FuncId) (args : Array Value) (w : World) (Φ : Value → World → Prop) : Prop :=
  (∃ v w', (callFunc g args).run P w = .ok (.value v) w' ∧ Φ v w') ∨
  ((callFunc g args).run P w = .ok (.enter g args) w ∧ ∀ (kind : CallKind) (cs : List Frame), ∃ fr w' v, Φ v w' ∧ Steps P (lone (Frame.enter P g args kind) cs w) (lone fr cs w') ∧ fr.mode = .returning ∧ fr.defers = [] ∧ fr.kind = kind ∧ fr.fn = g ∧ ∃ fn, P.funcs[g]? = some fn ∧ (results fn fr.tmps).run P w' = .ok v w')
/-- what a call leaves behind -/
def Left (ν : Vl) (n : Nat) (r : Res) (v : Value) (w' : World) : Prop := ∃ ν', Vl.Same n ν ν' ∧ n ≤ r.s.n ∧ Mem ν' r.s.n r.s.h w' ∧ v = r.v.val ν' ∧ r.v.okB r.s.n = true

variable (K) in
structure Snd (ih : Task → Option Res) : Prop where
  call : ∀ {g args h n r}, ih (.call g args h n) = some r → ∀ {ν w}, Mem ν n h w → GInv K n ν → AV.oksB n args = true → CallOk P g (AV.vals ν args).toArray w (Left ν n r)
  round : ∀ {l args h n r}, ih (.round l args h n) = some r → ∀ {ν w}, Mem ν n h w → GInv K n ν → AV.oksB n args = true → ∃ f tmps as bd, (Instr.yield (ν l).block (AV.vals ν args).toArray).run P w = .ok (.round (ν l).block f tmps as bd) w ∧
    ∀ (c : Frame) (cs : List Frame), ∃ v w', Left ν n r v w' ∧ Steps P (lone (Frame.round (ν l).block f tmps as bd .normal) (c :: cs) w) (lone (c.finish v) cs w')

theorem cnv1_okB {v : Value} {b : AV} (n : Nat) (h : cnv1 v = some b) : b.okB n = true := by
  unfold cnv1 at h
  split at h <;> first | (injection h with h; subst h; rfl) | cases h
theorem cnvL_okB (n : Nat) : ∀ {l : List Value} {r : List AV}, cnvL l = some r → AV.oksB n r = true
  | [], r, h => by simp only [cnvL, Option.some.injEq] at h; subst h; rfl
  | v :: l, r, h => by
    simp only [cnvL] at h
    split at h
    case h_2 => cases h
    rename_i b hb
    split at h
    case h_2 => cases h
    rename_i r' hr
    injection h with h
    subst h
    simp only [AV.oksB, cnv1_okB n hb, cnvL_okB n hr, Bool.and_self]
theorem cnv_okB {v : Value} {b : AV} (n : Nat) (h : cnv v = some b) : b.okB n = true := by
  unfold cnv at h
  split at h
  · split at h
    · rename_i l hl
      injection h with h
      subst h
      exact cnvL_okB n hl
    · cases h
  · exact cnv1_okB n h
theorem Rel.evOk (h : Rel K x s ν a w) {y : Operand} {v : AV} (hv : evA K.G s.env y = some v) : v.okB s.n = true := by
  cases y with
  | tmp t => exact h.env t v hv
  | const c => exact cnv_okB _ hv
  | global g =>
    simp only [evA] at hv
    split at hv
    · rename_i i hi
      injection hv with hv
      subst hv
      exact lt_blt (h.glob g i hi).1
    · cases hv
  | func f =>
    simp only [evA, Option.some.injEq] at hv
    subst hv
    rfl
theorem Rel.evsOk (h : Rel K x s ν a w) : ∀ {l : List Operand} {vs : List AV}, evAs K.G s.env l = some vs → AV.oksB s.n vs = true
  | [], vs, hv => by simp only [evAs, Option.some.injEq] at hv; subst hv; rfl
  | y :: r, vs, hv => by
    simp only [evAs] at hv
    split at hv
    case h_2 => cases hv
    rename_i v hv1
    split at hv
    case h_2 => cases hv
    rename_i us hu
    injection hv with hv
    subst hv
    simp only [AV.oksB, h.evOk hv1, h.evsOk hu, Bool.and_self]
theorem oksB_append {n : Nat} : ∀ {l m : List AV}, AV.oksB n l = true → AV.oksB n m = true → AV.oksB n (l ++ m) = true
  | [], _, _, h => h
  | b :: l, m, h1, h2 => by
    simp only [AV.oksB, Bool.and_eq_true, List.cons_append] at h1 ⊢
    exact ⟨h1.1, oksB_append h1.2 h2⟩
variable {dst : Option Tmp} {ty : TypeId} {pos : String} {af : Array Edge} {gu : Option (Nat × Bool)}
theorem goes_fn {op : Op} {f : Nat} {args : List AV} (hgo : goes K s.env op = some (.fn f args)) (h : Rel K x s ν a w) :
    (∀ c, op ≠ .defer c) ∧ (execOp a.eval ⟨dst, op, ty, pos, af, gu⟩).run P w = (callFunc f (AV.vals ν args).toArray).run P w ∧ AV.oksB s.n args = true := by
  unfold goes at hgo
  split at hgo
  case h_2 => cases hgo
  rename_i c
  split at hgo
  case h_2 => cases hgo
  rename_i y hc
  split at hgo
  · rename_i g first caps as hy has
    injection hgo with hgo
    injection hgo with h1 h2
    subst h1; subst h2
    have ey := evA_ok h.slots h.gok hy
    have eas := evAs_ok h.slots h.gok has
    have hok := h.evOk hy
    simp only [AV.okB, Bool.and_eq_true] at hok
    refine ⟨(fun c h => by cases h), ?_, oksB_append hok.1 (oksB_append (h.evsOk has) hok.2)⟩
    have eas' : c.args.map a.eval = (AV.vals ν as).toArray := Array.ext' (by rw [Array.toList_map, eas])
    simp only [execOp, resolve, hc, ey, AV.val, Deferred.ofValue, eas', Sem.run_bind, Sem.run_pure, Result.andThen_ok, invoke]
    congr 2
    simp [vals_append, List.append_assoc]
  · cases hgo
  · cases hgo
theorem goes_yield {op : Op} {l : Nat} {args : List AV} (hgo : goes K s.env op = some (.yield l args)) (h : Rel K x s ν a w) :
    (∀ c, op ≠ .defer c) ∧ (execOp a.eval ⟨dst, op, ty, pos, af, gu⟩).run P w = (Instr.yield (ν l).block (AV.vals ν args).toArray).run P w ∧ AV.oksB s.n args = true := by
  unfold goes at hgo
  split at hgo
  case h_2 => cases hgo
  rename_i c
  split at hgo
  case h_2 => cases hgo
  rename_i y hc
  split at hgo
  · cases hgo
  · rename_i g as hy has
    injection hgo with hgo
    injection hgo with h1 h2
    subst h1; subst h2
    have ey := evA_ok h.slots h.gok hy
    have eas := evAs_ok h.slots h.gok has
    refine ⟨(fun c h => by cases h), ?_, h.evsOk has⟩
    have eas' : c.args.map a.eval = (AV.vals ν as).toArray := Array.ext' (by rw [Array.toList_map, eas])
    simp only [execOp, resolve, hc, ey, AV.val, Deferred.ofValue, eas', Sem.run_bind, Sem.run_pure, Result.andThen_ok, invoke]
    congr 2
    simp
  · cases hgo

/-! ### in a frame: one operation -/
section
variable {b : Frame} {ops : Array Oper} {i : Nat} {rest : List Nat} {k : List Item} {cs : List Frame} {o : Oper}
theorem step_val {v : Value} (ho : ops[i]? = some o) (hw : Region.wanted o (yielded ops a.tmps) = true) (hr : (o.semAt b.roundOf a.eval).run P w = .ok (.value v) w') :
    step P (lone (b.atR a (.inRegion ops (i :: rest) :: k)) cs w) = .next (lone (b.atR (a.put o.dst v) (.inRegion ops rest :: k)) cs w') := by
  have hg := stepGR_op (P := P) (b := b) (k := k) (cs := cs) (w := w) (rest := rest) ho hw
  have hfin : (b.atR a (.inRegion ops (i :: rest) :: k)).finish v = b.atR (a.put o.dst v) (.inRegion ops rest :: k) := by rw [Frame.finish_atR, ho]; rfl
  refine step_lone_go ?_
  rw [hg, ← hfin]; simp [stepG.apply, hr]
theorem step_skp (ho : ops[i]? = some o) (hw : Region.wanted o (yielded ops a.tmps) = true) (hr : (o.semAt b.roundOf a.eval).run P w = .ok .skip w') :
    step P (lone (b.atR a (.inRegion ops (i :: rest) :: k)) cs w) = .next (lone (b.atR (a.put o.dst undef) (.inRegion ops rest :: k)) cs w') := by
  have hg := stepGR_op (P := P) (b := b) (k := k) (cs := cs) (w := w) (rest := rest) ho hw
  have hfin : (b.atR a (.inRegion ops (i :: rest) :: k)).finish undef = b.atR (a.put o.dst undef) (.inRegion ops rest :: k) := by rw [Frame.finish_atR, ho]; rfl
  refine step_lone_go ?_
  rw [hg, ← hfin]; simp [stepG.apply, hr]
theorem step_dfr {d : Deferred} (ho : ops[i]? = some o) (hw : Region.wanted o (yielded ops a.tmps) = true) (hr : (o.semAt b.roundOf a.eval).run P w = .ok (.defer d) w') :
    step P (lone (b.atR a (.inRegion ops (i :: rest) :: k)) cs w) = .next (lone (b.atR ({ a with defers := d :: a.defers }.put o.dst undef) (.inRegion ops rest :: k)) cs w') := by
  have hg := stepGR_op (P := P) (b := b) (k := k) (cs := cs) (w := w) (rest := rest) ho hw
  have : ({ b.atR a (.inRegion ops (i :: rest) :: k) with defers := d :: a.defers } : Frame).finish undef =
      b.atR ({ a with defers := d :: a.defers }.put o.dst undef) (.inRegion ops rest :: k) := by
    have := Frame.finish_atR b { a with defers := d :: a.defers } ops i rest k undef
    rw [ho] at this; exact this
  refine step_lone_go ?_
  rw [hg]; simp only [stepG.apply, Sem.runT_eq, hr, GStep.bare_after]
  exact congrArg (fun fr => GStep.go { frame := fr, callers := cs, status := .running, dying := none } w') this
theorem step_ent {f : FuncId} {args : Array Value} (ho : ops[i]? = some o) (hw : Region.wanted o (yielded ops a.tmps) = true) (hr : (o.semAt b.roundOf a.eval).run P w = .ok (.enter f args) w') :
    step P (lone (b.atR a (.inRegion ops (i :: rest) :: k)) cs w) = .next (lone (Frame.enter P f args .normal) (b.atR a (.inRegion ops (i :: rest) :: k) :: cs) w') := by
  have hg := stepGR_op (P := P) (b := b) (k := k) (cs := cs) (w := w) (rest := rest) ho hw
  refine step_lone_go ?_
  rw [hg]; simp [stepG.apply, hr, Frame.atR]
theorem step_rnd {l : Nat} {f : FuncId} {tmps : Array Value} {as bd : Code} (ho : ops[i]? = some o) (hw : Region.wanted o (yielded ops a.tmps) = true) (hr : (o.semAt b.roundOf a.eval).run P w = .ok (.round l f tmps as bd) w') :
    step P (lone (b.atR a (.inRegion ops (i :: rest) :: k)) cs w) = .next (lone (Frame.round l f tmps as bd .normal) (b.atR a (.inRegion ops (i :: rest) :: k) :: cs) w') := by
  have hg := stepGR_op (P := P) (b := b) (k := k) (cs := cs) (w := w) (rest := rest) ho hw
  refine step_lone_go ?_
  rw [hg]; simp [stepG.apply, hr]
/-- a call leaves -/
theorem callOk_steps {f : FuncId} {args : Array Value} {Φ : Value → World → Prop} (hc : CallOk P f args w Φ) (ho : ops[i]? = some o) (hw : Region.wanted o (yielded ops a.tmps) = true) (hr : (o.semAt b.roundOf a.eval).run P w = (callFunc f args).run P w) :
    ∃ v w', Φ v w' ∧ Steps P (lone (b.atR a (.inRegion ops (i :: rest) :: k)) cs w) (lone (b.atR (a.put o.dst v) (.inRegion ops rest :: k)) cs w') := by
  rcases hc with ⟨v, w', h1, h2⟩ | ⟨h1, h2⟩
  · exact ⟨v, w', h2, .one (step_val ho hw (hr.trans h1))⟩
  · obtain ⟨fr, w', v, h3, h4, h5, h6, h7, h8, fn, h9, h10⟩ := h2 .normal (b.atR a (.inRegion ops (i :: rest) :: k) :: cs)
    have hl : fr.leaving P w' (.returned v) := ⟨h5, h6, h7, fn, by rw [h8]; exact h9, h10⟩
    have hfin : (b.atR a (.inRegion ops (i :: rest) :: k)).finish v = b.atR (a.put o.dst v) (.inRegion ops rest :: k) := by rw [Frame.finish_atR, ho]; rfl
    refine ⟨v, w', h3, .head (step_ent ho hw (hr.trans h1)) (h4.trans (.one ?_))⟩
    rw [← hfin]
    exact step_leave_returned hl
end
theorem Left.rel {n : Nat} {r : Res} {v : Value} (hl : Left ν s.n r v w') (h : Rel K x s ν a w) : ∃ ν', Vl.Same s.n ν ν' ∧ s.n ≤ r.s.n ∧ Rel K x { s with h := r.s.h, n := r.s.n } ν' a w' ∧ v = r.v.val ν' := by
  obtain ⟨ν', h1, h2, h3, h4, _⟩ := hl
  exact ⟨ν', h1, h2, h.turn h1 h2 h3, h4⟩
theorem semAt_vop {op : Op} {av : AV} {rd : Option Nat} {tab : Nat → Option TyI} {G : Nat → Option Nat} {env : T AV} {h : Heap} (hv : vop tab G env h op = some (av, rd)) : ∀ c, op ≠ .defer c := by
  rintro c rfl
  cases hv
theorem semAt_eff {op : Op} {r : Option AV × Heap} {tab : Nat → Option TyI} {G : Nat → Option Nat} {env : T AV} {h : Heap} {nb n : Nat} (hv : eff tab G nb env h n op = some r) : ∀ c, op ≠ .defer c := by
  rintro c rfl
  cases hv

variable {ih : Task → Option Res} (hih : Snd K ih)
include hih in
/-- ONE OPERATION, IN THE ORDER OF THE TEXT. -/
theorem stepO_ok {o : Oper} (h : Rel K x s ν a w) (hst : stepO K ih x o s = some s') {b : Frame} (hb : b.roundOf = x.r.map fun l => (ν l).block) {ops : Array Oper} {i : Nat} {rest : List Nat} {k : List Item} {cs : List Frame} (ho : ops[i]? = some o) (hw : Region.wanted o (yielded ops a.tmps) = true) :
    ∃ ν' a' w', Vl.Same s.n ν ν' ∧ s.n ≤ s'.n ∧ Rel K x s' ν' a' w' ∧ Steps P (lone (b.atR a (.inRegion ops (i :: rest) :: k)) cs w) (lone (b.atR a' (.inRegion ops rest :: k)) cs w') := by
  obtain ⟨dst, op, ty, pos, af, gu⟩ := o
  unfold stepO at hst
  split at hst
  · rename_i av rd hv
    obtain ⟨h1, h2, _⟩ := h.put hst
    have hrun := vop_ok K.Ty h.slots h.gok h.mem.stat (w := w) (dst := dst) (ty := ty) (pos := pos) (af := af) (gu := gu) hv (fun i o _ ho => h.mem.fact ho)
    refine ⟨ν, _, w, Vl.Same.refl, by rw [h2]; exact Nat.le_refl _, h1, .one (step_val ho hw ?_)⟩
    rw [Oper.semAt_eq _ _ _ (semAt_vop hv)]
    exact hrun
  · split at hst
    · rename_i r h' he
      obtain ⟨ν', w', e1, e2, e3⟩ := eff_ok K.Ty h.slots h.gok h.mem (Nat.le_succ _) h.fresh (dst := dst) (ty := ty) (pos := pos) (af := af) (gu := gu) he
      have hsame := off_same e1 (Nat.le_refl _)
      obtain ⟨h1, h2, _⟩ := (h.turn hsame (Nat.le_succ _) e3).put hst
      refine ⟨ν', _, w', hsame, by rw [h2]; exact Nat.le_succ _, h1, .one (step_val ho hw ?_)⟩
      rw [Oper.semAt_eq _ _ _ (semAt_eff he)]
      exact e2
    · rename_i h' he
      cases dst with
      | some d => cases hst
      | none =>
      injection hst with hst
      subst hst
      obtain ⟨ν', w', e1, e2, e3⟩ := eff_ok K.Ty h.slots h.gok h.mem (Nat.le_succ _) h.fresh (dst := none) (ty := ty) (pos := pos) (af := af) (gu := gu) he
      have hsame := off_same e1 (Nat.le_refl _)
      refine ⟨ν', a, w', hsame, Nat.le_succ _, h.turn hsame (Nat.le_succ _) e3, .one (step_skp ho hw ?_)⟩
      rw [Oper.semAt_eq _ _ _ (semAt_eff he)]
      exact e2
    · split at hst
      · rename_i f args hgo
        split at hst
        case h_2 => cases hst
        rename_i r hr
        obtain ⟨g1, g2, g3⟩ := goes_fn (dst := dst) (ty := ty) (pos := pos) (af := af) (gu := gu) hgo h
        have hc := hih.call hr h.mem h.glob g3
        obtain ⟨v, w', hl, hsteps⟩ := callOk_steps (b := b) (rest := rest) (k := k) (cs := cs) hc ho hw (by rw [Oper.semAt_eq _ _ _ g1]; exact g2)
        obtain ⟨ν', e1, e2, e3, rfl⟩ := Left.rel (n := 0) hl h
        obtain ⟨h1, h2, _⟩ := e3.put hst
        exact ⟨ν', _, w', e1, by rw [h2]; exact e2, h1, hsteps⟩
      · rename_i l args hgo
        split at hst
        case h_2 => cases hst
        rename_i r hr
        obtain ⟨g1, g2, g3⟩ := goes_yield (dst := dst) (ty := ty) (pos := pos) (af := af) (gu := gu) hgo h
        obtain ⟨f, tmps, as, bd, hy, hrd⟩ := hih.round hr h.mem h.glob g3
        obtain ⟨v, w', hl, hsteps⟩ := hrd (b.atR a (.inRegion ops (i :: rest) :: k)) cs
        obtain ⟨ν', e1, e2, e3, rfl⟩ := Left.rel (n := 0) hl h
        obtain ⟨h1, h2, _⟩ := e3.put hst
        have hfin : (b.atR a (.inRegion ops (i :: rest) :: k)).finish (r.v.val ν') = b.atR (a.put dst (r.v.val ν')) (.inRegion ops rest :: k) := by rw [Frame.finish_atR, ho]; rfl
        refine ⟨ν', _, w', e1, by rw [h2]; exact e2, h1, .head (step_rnd ho hw (by rw [Oper.semAt_eq _ _ _ g1]; exact g2.trans hy)) ?_⟩
        rw [← hfin]
        exact hsteps
      · split at hst
        case h_2 => cases hst
        rename_i c hop hr
        simp only at hop
        subst hop
        split at hst
        case h_2 => cases hst
        rename_i y hc
        split at hst
        case h_2 => cases hst
        rename_i f first caps args hy has
        split at hst
        case h_2 => cases hst
        rename_i hok
        simp only [Bool.and_eq_true] at hok
        have ey := evA_ok h.slots h.gok hy
        have eas := evAs_ok h.slots h.gok has
        have eas' : c.args.map a.eval = (AV.vals ν args).toArray := Array.ext' (by rw [Array.toList_map, eas])
        have hrel : Rel K x { s with ds := .fn f (first ++ args) caps :: s.ds } ν { a with defers := (ADef.fn f (first ++ args) caps).val ν :: a.defers } w :=
          ⟨h.slots, h.size, by simp [h.ds], h.mem, h.env, fun d hd => by
            rcases List.mem_cons.1 hd with rfl | hd
            · simp only [ADef.okB, oksB_append hok.1.1 hok.1.2, hok.2, Bool.and_self]
            · exact h.dok d hd, h.glob⟩
        obtain ⟨h1, h2, _⟩ := hrel.put hst
        refine ⟨ν, _, w, Vl.Same.refl, by rw [h2]; exact Nat.le_refl _, h1, .one (step_dfr ho hw ?_)⟩
        rw [hb, hr]
        simp only [Option.map_none, Oper.semAt, execOp, resolve, hc, ey, AV.val, Deferred.ofValue, eas', Sem.run_bind, Sem.run_pure, Result.andThen_ok, ADef.val]
        simp [vals_append]
end
end Go.Ex
