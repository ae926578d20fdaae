/-
  The calculus' rules: regions that draw their order.
-/
import Derived.Test.YtkoojoeimdfkgaaGreatDoorSxM
namespace Go.Sx
open Go Go.RowKit

section
variable {P : Program} {Q : Exit → Act → World → Prop} {n : Nat} {ds : List Deferred} {env : Env} {L Lh : List Chunk}

/-- whatever order is picked from here on; Lh is held throughout -/
def GH (P : Program) (Q : Exit → Act → World → Prop) (n : Nat) (ds : List Deferred) (ops : List Oper) (Lh : List Chunk) (fuel : Nat) (ls : List Bool) (env : Env) (L : List Chunk) : Prop :=
  ∀ a w, Ok n ds env a → Sat w L → wpAnyH P .any ops.toArray Q (fun w => Sat w Lh) fuel ls.toArray a w

theorem gc_draw {id : Nat} {l : List Oper} (hm : P.follows .mixedOrders = true) (Lh : List Chunk) {fuel : Nat} {ls : List Bool} (hf : l.length = fuel) (hl : List.replicate l.length false = ls) (h : GH P Q n ds l Lh fuel ls env L) : GC P Q n ds (.region id l.toArray true) env L := fun a w ho hs => by
  refine wp_region_held hm (S := fun w => Sat w Lh) ?_
  have := h a _ ho hs.drew
  subst hf; subst hl
  simpa using this

theorem gh_done {ops : List Oper} {fuel : Nat} {ls : List Bool} (hr : Region.ready .any ops.toArray ls.toArray = []) (h : GQ Q n ds .normal env L) : GH P Q n ds ops Lh fuel ls env L := fun a w ho hs => wpAnyH_done hr (h a w ho hs) fuel

/-- number i is taken first: it reads -/
theorem gh_v {ops : List Oper} (i : Nat) {o : Oper} {d : Nat} {v : Value} {fuel : Nat} {ls ls' : List Bool} (hi : ops[i]? = some o) (hsel : Region.noSelect ops.toArray = true) (hfree : Region.free .any ops.toArray ls.toArray i = true) (hr : (Region.ready .any ops.toArray ls.toArray).contains i = true)
    (hl : ls.set i true = ls') (hv : Val P n ds env Lh o v) (hg : o.guard = none) (hd : o.dst = some d) (hn : Nat.ble (d + 1) n = true) (he : Ent L Lh) (hQ : ∀ c a w, Q (.panic c) (a.put o.dst v) w → Q (.panic c) a w)
    (k : GH P Q n ds ops Lh fuel ls' ((d, v) :: env) L) : GH P Q n ds ops Lh (fuel + 1) ls env L := fun a w ho hs => by
  refine wpAnyH_take (i := i) (oi := o) (v := v) (by simpa using hi) hsel hfree hr hQ (Or.inl ⟨by simp [Region.wanted, hg], fun w' hs' => hv a w' ho hs'⟩) (hs.ent he) ?_
  have := k (a.put (some d) v) w (ho.put hn v) hs
  rw [hd]
  subst hl
  simpa using this

theorem gh_von {ops : List Oper} (i : Nat) {o : Oper} {d j s : Nat} {want : Bool} {v : Value} {fuel : Nat} {ls ls' : List Bool} (hi : ops[i]? = some o) (hsel : Region.noSelect ops.toArray = true) (hfree : Region.free .any ops.toArray ls.toArray i = true) (hr : (Region.ready .any ops.toArray ls.toArray).contains i = true)
    (hl : ls.set i true = ls') (hv : Val P n ds env Lh o v) (hg : o.guard = some (j, want)) (hj : (ops[j]?).bind (·.dst) = some s) (hs' : lk env s = some (.bool want)) (hd : o.dst = some d) (hn : Nat.ble (d + 1) n = true) (he : Ent L Lh) (hQ : ∀ c a w, Q (.panic c) (a.put o.dst v) w → Q (.panic c) a w)
    (k : GH P Q n ds ops Lh fuel ls' ((d, v) :: env) L) : GH P Q n ds ops Lh (fuel + 1) ls env L := fun a w ho hs => by
  refine wpAnyH_take (i := i) (oi := o) (v := v) (by simpa using hi) hsel hfree hr hQ (Or.inl ⟨by simp [Region.wanted, hg, yielded_of (ops := ops.toArray) ho (by simpa using hj) hs'], fun w' hs' => hv a w' ho hs'⟩) (hs.ent he) ?_
  have := k (a.put (some d) v) w (ho.put hn v) hs
  rw [hd]
  subst hl
  simpa using this

theorem gh_voff {ops : List Oper} (i : Nat) {o : Oper} {d j s : Nat} {want b : Bool} {fuel : Nat} {ls ls' : List Bool} (hi : ops[i]? = some o) (hsel : Region.noSelect ops.toArray = true) (hfree : Region.free .any ops.toArray ls.toArray i = true) (hr : (Region.ready .any ops.toArray ls.toArray).contains i = true)
    (hl : ls.set i true = ls') (hg : o.guard = some (j, want)) (hj : (ops[j]?).bind (·.dst) = some s) (hs' : lk env s = some (.bool b)) (hb : (b == want) = false) (hd : o.dst = some d) (hn : Nat.ble (d + 1) n = true) (he : Ent L Lh) (hQ : ∀ c a w, Q (.panic c) (a.put o.dst undef) w → Q (.panic c) a w)
    (k : GH P Q n ds ops Lh fuel ls' ((d, undef) :: env) L) : GH P Q n ds ops Lh (fuel + 1) ls env L := fun a w ho hs => by
  refine wpAnyH_take (i := i) (oi := o) (v := undef) (by simpa using hi) hsel hfree hr hQ (Or.inr ⟨?_, rfl⟩) (hs.ent he) ?_
  · simp [Region.wanted, hg, yielded_of (ops := ops.toArray) ho (by simpa using hj) hs']; simpa using hb
  · have := k (a.put (some d) undef) w (ho.put hn undef) hs
    rw [hd]
    subst hl
    simpa using this

theorem gh_split {ops : List Oper} {fuel : Nat} {ls : List Bool} {s : Nat} {b : Bool} (hv : lk env s = some (.bool b)) (h1 : b = true → GH P Q n ds ops Lh fuel ls ((s, .bool true) :: env) L) (h2 : b = false → GH P Q n ds ops Lh fuel ls ((s, .bool false) :: env) L) : GH P Q n ds ops Lh fuel ls env L := by
  cases b
  · exact fun a w ho hs => h2 rfl a w (ho.le (lk_set hv)) hs
  · exact fun a w ho hs => h1 rfl a w (ho.le (lk_set hv)) hs
theorem gh_dec {ops : List Oper} {fuel : Nat} {ls : List Bool} {s : Nat} {p : Prop} {_ : Decidable p} (hv : lk env s = some (.bool (decide p))) (h1 : p → GH P Q n ds ops Lh fuel ls ((s, .bool true) :: env) L) (h2 : ¬ p → GH P Q n ds ops Lh fuel ls ((s, .bool false) :: env) L) : GH P Q n ds ops Lh fuel ls env L :=
  gh_split hv (fun h => h1 (of_decide_eq_true h)) (fun h => h2 (of_decide_eq_false h))

/-- the operation is wanted -/
def Wd (env : Env) (ops : List Oper) (o : Oper) : Prop := o.guard = none ∨ ∃ j s want, o.guard = some (j, want) ∧ (ops[j]?).bind (·.dst) = some s ∧ lk env s = some (.bool want)
theorem Wd.wanted {ops : List Oper} {o : Oper} {a : Act} (h : Wd env ops o) (ho : Ok n ds env a) : Region.wanted o (yielded ops.toArray a.tmps) = true := by
  rcases h with hg | ⟨j, s, want, hg, hj, hv⟩
  · simp [Region.wanted, hg]
  · simp [Region.wanted, hg, yielded_of (ops := ops.toArray) ho (by simpa using hj) hv]
theorem wd_none {ops : List Oper} {o : Oper} (h : o.guard = none) : Wd env ops o := Or.inl h
theorem wd_on {ops : List Oper} {o : Oper} {j s : Nat} {want : Bool} {v : Value} (hg : o.guard = some (j, want)) (hj : (ops[j]?).bind (·.dst) = some s) (hv : lk env s = some v) (hvv : v = .bool want) : Wd env ops o := Or.inr ⟨j, s, want, hg, hj, hvv ▸ hv⟩

/-- number i alone may come up: it turns the chunks -/
theorem gh_a {ops : List Oper} (i : Nat) {o : Oper} {d : Nat} {J : Value → List Chunk → Prop} {fuel : Nat} {ls ls' : List Bool} (hi : ops[i]? = some o) (hr : Region.ready .any ops.toArray ls.toArray = [i])
    (hl : ls.set i true = ls') (hv : Acts P n ds env L o J) (hg : Wd env ops o) (hd : o.dst = some d) (hn : Nat.ble (d + 1) n = true)
    (k : ∀ v L', J v L' → Ent L' Lh ∧ GH P Q n ds ops Lh fuel ls' ((d, v) :: env) L') : GH P Q n ds ops Lh (fuel + 1) ls env L := fun a w ho hs => by
  refine wpAnyH_all (rs := [i]) hr (by simp) ?_
  intro i' hi'
  have : i' = i := by simpa using hi'
  subst this
  refine wpOp_step (o := o) (by simpa using hi) fun K hK => ?_
  rw [if_pos (hg.wanted ho)]
  obtain ⟨v, w', L', h1, h2, h3⟩ := hv a w ho hs
  unfold Oper.wp
  rw [h1, Oper.upon_value, hd]
  obtain ⟨h4, h5⟩ := k v L' h3
  refine hK _ _ ⟨h2.ent h4, ?_⟩
  have := h5 _ _ (ho.put hn v) h2
  subst hl
  simpa using this

theorem gh_d {ops : List Oper} (i : Nat) {o : Oper} {L' : List Chunk} {fuel : Nat} {ls ls' : List Bool} (hi : ops[i]? = some o) (hr : Region.ready .any ops.toArray ls.toArray = [i])
    (hl : ls.set i true = ls') (hv : Does P n ds env L o L') (hg : Wd env ops o) (hd : o.dst = none) (he : Ent L' Lh)
    (k : GH P Q n ds ops Lh fuel ls' env L') : GH P Q n ds ops Lh (fuel + 1) ls env L := fun a w ho hs => by
  refine wpAnyH_all (rs := [i]) hr (by simp) ?_
  intro i' hi'
  have : i' = i := by simpa using hi'
  subst this
  refine wpOp_step (o := o) (by simpa using hi) fun K hK => ?_
  rw [if_pos (hg.wanted ho)]
  obtain ⟨w', h1, h2⟩ := hv a w ho hs
  unfold Oper.wp
  rw [h1, Oper.upon_skip, hd]
  refine hK _ _ ⟨h2.ent he, ?_⟩
  have := k _ _ ho h2
  subst hl
  simpa [Act.put] using this

theorem gh_c {ops : List Oper} (i : Nat) {o : Oper} {d : Nat} {f : FuncId} {args : Array Value} {K : Value → List Chunk → Prop} {L' : List Chunk} {fuel : Nat} {ls ls' : List Bool} (hi : ops[i]? = some o) (hr : Region.ready .any ops.toArray ls.toArray = [i])
    (hl : ls.set i true = ls') (hrun : Enters P n ds env L o f args) (hf : SxFn P f args L' K) (he : Ent L L') (hg : Wd env ops o) (hd : o.dst = some d) (hn : Nat.ble (d + 1) n = true)
    (k : ∀ v L'', K v L'' → Ent L'' Lh ∧ GH P Q n ds ops Lh fuel ls' ((d, v) :: env) L'') : GH P Q n ds ops Lh (fuel + 1) ls env L := fun a w ho hs => by
  refine wpAnyH_all (rs := [i]) hr (by simp) ?_
  intro i' hi'
  have : i' = i := by simpa using hi'
  subst this
  refine wpOp_step (o := o) (by simpa using hi) fun K' hK => ?_
  rw [if_pos (hg.wanted ho)]
  unfold Oper.wp
  rw [hrun a w ho hs, Oper.upon_enter]
  refine (hf.2 w (hs.ent he)).mono ?_
  rintro e w'' ⟨v, L'', rfl, hk, hs'⟩
  rw [hd]
  obtain ⟨h4, h5⟩ := k v L'' hk
  refine hK _ _ ⟨hs'.ent h4, ?_⟩
  have := h5 _ _ (ho.put hn v) hs'
  subst hl
  simpa using this
end
end Go.Sx
