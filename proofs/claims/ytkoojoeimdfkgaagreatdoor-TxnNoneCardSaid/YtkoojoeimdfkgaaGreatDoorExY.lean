/-
  The runner is right: calls and rounds; a run.
-/
import Derived.Test.YtkoojoeimdfkgaaGreatDoorExW
import Derived.Defers
namespace Go.Ex
open Go Go.RowKit Go.Sx

section
variable {P : Program} {K : Tl P} {ν ν' : Vl} {w w' : World} {n nb : Nat} {h h' : Heap}

theorem step_defer_value {fr : Frame} {cs : List Frame} {w w' : World} {d : Deferred} {ds : List Deferred} {fv : Fn} {cap : Array Value} {v : Value}
    (hm : fr.mode = .returning) (hd : fr.defers = d :: ds) (ht : d.target = .fn fv cap)
    (hi : (invoke d.target d.args).run P w = .ok (.value v) w') :
    step P (lone fr cs w) = .next (lone { fr with defers := ds } cs w') := by
  obtain ⟨t, a⟩ := d
  simp only at ht hi
  subst ht
  refine step_lone_go ?_
  simp [stepG, unwind, callDeferred, hm, hd, hi]
/-- THE DEFERRED CALLS. -/
theorem leave_ok {ih : Task → Option Res} (hih : Sound K ih) : ∀ (ds : List ADef) {h h' : Heap} {n n' : Nat} {ν : Vl} {w : World}, leaveX ih ds h n = some (h', n') → Mem ν n h w → GInv K n ν → (∀ d ∈ ds, d.okB n = true) →
    ∀ (fr : Frame) (cs : List Frame), fr.mode = .returning → fr.defers = ds.map (ADef.val ν) → ∃ ν' w', Vl.Same n ν ν' ∧ n ≤ n' ∧ Mem ν' n' h' w' ∧ Steps P (lone fr cs w) (lone { fr with defers := [] } cs w')
  | [], h, h', n, n', ν, w, hl, hm, _, _, fr, cs, hmode, hd => by
    simp only [leaveX, Option.some.injEq, Prod.mk.injEq] at hl
    obtain ⟨rfl, rfl⟩ := hl
    refine ⟨ν, w, Vl.Same.refl, Nat.le_refl _, hm, ?_⟩
    have : ({ fr with defers := [] } : Frame) = fr := by cases fr; simp_all
    rw [this]
    exact .refl P _
  | .col i :: r, h, h', n, n', ν, w, hl, hm, hg, hok, fr, cs, hmode, hd => by
    simp only [leaveX] at hl
    split at hl
    case h_2 => cases hl
    rename_i hat
    split at hl
    case h_2 => cases hl
    rename_i h2 hs
    obtain ⟨b, hν, hb⟩ := hm.fact hat
    have ht := run_takeDeferred (P := P) hb
    have hm2 : Mem ν n h2 (w.putObj b (.deferred none)) := hm.blkDead (Nat.le_refl _) hat hs (fun S hS => hS _ hν) (fun h => by cases h)
    obtain ⟨ν', w', e1, e2, e3, e4⟩ := leave_ok hih r hl hm2 hg (fun d hd => hok d (List.mem_cons_of_mem _ hd)) { fr with defers := [] ++ r.map (ADef.val ν) } cs hmode rfl
    refine ⟨ν', w', e1, e2, e3, .head (step_collected (d := (ADef.col i).val ν) (ds := r.map (ADef.val ν)) (by rw [hmode]; exact fun h => by cases h) hd (by simp only [ADef.val, hν]; rfl) ht) e4⟩
  | .fn f args caps :: r, h, h', n, n', ν, w, hl, hm, hg, hok, fr, cs, hmode, hd => by
    simp only [leaveX] at hl
    split at hl
    case h_2 => cases hl
    rename_i x hx
    have hok0 := hok _ (List.mem_cons_self ..)
    simp only [ADef.okB, Bool.and_eq_true] at hok0
    have hcl := hih.snd.call hx hm hg (oksB_append hok0.1 hok0.2)
    have hinv : (invoke ((ADef.fn f args caps).val ν).target ((ADef.fn f args caps).val ν).args).run P w = (callFunc f (AV.vals ν (args ++ caps)).toArray).run P w := by
      simp only [ADef.val, invoke]
      congr 2
      simp [vals_append]
    have rest : ∀ {v : Value} {w1 : World}, Left ν n x v w1 → ∃ ν' w', Vl.Same n ν ν' ∧ n ≤ n' ∧ Mem ν' n' h' w' ∧ Steps P (lone { fr with defers := r.map (ADef.val ν) } cs w1) (lone { fr with defers := [] } cs w') := by
      intro v w1 hl1
      obtain ⟨ν1, f1, f2, f3, _⟩ := hl1
      have hdd : r.map (ADef.val ν) = r.map (ADef.val ν1) := List.map_congr_left fun d hd => (ADef.val_same f1 d (hok d (List.mem_cons_of_mem _ hd))).symm
      obtain ⟨ν', w', e1, e2, e3, e4⟩ := leave_ok hih r hl f3 (hg.same f1 f2) (fun d hd => ADef.okB_le f2 (hok d (List.mem_cons_of_mem _ hd))) { fr with defers := r.map (ADef.val ν) } cs hmode hdd
      exact ⟨ν', w', f1.trans e1 f2, Nat.le_trans f2 e2, e3, e4⟩
    rcases hcl with ⟨v, w1, c1, c2⟩ | ⟨c1, c2⟩
    · obtain ⟨ν', w', e1, e2, e3, e4⟩ := rest c2
      exact ⟨ν', w', e1, e2, e3, .head (step_defer_value hmode hd rfl (hinv.trans c1)) e4⟩
    · obtain ⟨fr1, w1, v, c3, c4, c5, c6, c7, c8, fn, c9, c10⟩ := c2 .deferred ({ fr with defers := r.map (ADef.val ν) } :: cs)
      obtain ⟨ν', w', e1, e2, e3, e4⟩ := rest c3
      refine ⟨ν', w', e1, e2, e3, .head (step_defer (by rw [hmode]; exact fun h => by cases h) hd rfl (hinv.trans c1)) (c4.trans (.head (step_going_returned c7 ⟨c5, c6, fn, by rw [c8]; exact c9, c10⟩) ?_))⟩
      have : ({ { fr with defers := r.map (ADef.val ν) } with mode := settle ({ fr with defers := r.map (ADef.val ν) } : Frame).mode } : Frame) = { fr with defers := r.map (ADef.val ν) } := by
        simp only [hmode, settle]
      rw [this]
      exact e4

/-! ### results -/
inductive A2 {α β : Type} (R : α → β → Prop) : List α → List β → Prop where
  | nil : A2 R [] []
  | cons {a : α} {b : β} {l : List α} {m : List β} : R a b → A2 R l m → A2 R (a :: l) (b :: m)
theorem run_mapM {α β : Type} {f : α → Sem β} : ∀ {l : List α} {vs : List β}, A2 (fun r v => (f r).run P w = .ok v w) l vs → (l.mapM f).run P w = .ok vs w
  | [], _, .nil => by simp [Sem.run_pure]
  | r :: l, v :: vs, .cons h1 h2 => by
    rw [List.mapM_cons]
    simp only [Sem.run_bind, h1, Result.andThen_ok, run_mapM h2, Sem.run_pure]
def rvF (tmps : Array Value) : ResultVar → Sem Value
  | .tmp t => pure (tmps.getD t undef)
  | .cell a t => do loadVar t (← asAddr (tmps.getD a undef))
theorem results_eq (fn : Func) (tmps : Array Value) : results fn tmps = (do
    let vs ← fn.results.mapM (rvF tmps)
    pure (if h : vs.size = 1 then vs[0] else .tuple vs)) := by
  unfold results
  congr
theorem resA_ok {env : T AV} {tmps : Array Value} {r : ResultVar} {v : AV} (hr : resA K env h r = some v) (hs : Slots ν env tmps) (hm : Mem ν n h w) : (rvF tmps r).run P w = .ok (v.val ν) w := by
  unfold resA at hr
  split at hr
  · rename_i t
    have := hs t v hr
    simp only [rvF, Sem.run_pure]
    rw [Array.getD_eq_getD_getElem?, this]
    rfl
  · rename_i xx t
    split at hr
    case h_2 => cases hr
    rename_i i off ti hx ht
    split at hr
    case h_2 => cases hr
    rename_i o ho
    split at hr
    case h_2 => cases hr
    rename_i l hl
    split at hr
    case h_2 => cases hr
    rename_i h0
    obtain ⟨ad, h1, h2⟩ := run_load (P := P) (w := w) (K.Ty.ok ht) hr (i := i) (fun _ => Or.inl (Nat.ne_of_beq_eq_false h0)) (reads_rd hl (hm.fact ho))
    have := hs xx _ hx
    simp only [rvF]
    rw [Array.getD_eq_getD_getElem?, this]
    simp only [Option.getD_some, AV.val, h1, Sem.run_bind]
    simp [asAddr, Sem.run_pure, h2]
theorem resAs_ok {env : T AV} {tmps : Array Value} (hs : Slots ν env tmps) (hm : Mem ν n h w) : ∀ {l : List ResultVar} {vs : List AV}, resAs K env h l = some vs →
    A2 (fun r v => (rvF tmps r).run P w = .ok v w) l (AV.vals ν vs)
  | [], vs, hv => by
    simp only [resAs, Option.some.injEq] at hv
    subst hv
    exact .nil
  | r :: l, vs, hv => by
    simp only [resAs] at hv
    split at hv
    case h_2 => cases hv
    rename_i v h1
    split at hv
    case h_2 => cases hv
    rename_i us h2
    injection hv with hv
    subst hv
    exact .cons (resA_ok h1 hs hm) (resAs_ok hs hm h2)
theorem resV_ok {env : T AV} {tmps : Array Value} {fn : Func} {v : AV} (hr : resV K env h fn.results.toList = some v) (hs : Slots ν env tmps) (hm : Mem ν n h w) : (results fn tmps).run P w = .ok (v.val ν) w := by
  unfold resV at hr
  rw [results_eq]
  split at hr
  · rename_i a ha
    injection hr with hr
    subst hr
    have := run_mapM (resAs_ok (P := P) (K := K) hs hm ha)
    rw [Array.mapM_eq_mapM_toList]
    simp only [map_eq_pure_bind, Sem.run_bind, bind_assoc]
    rw [this]
    simp [AV.vals, Sem.run_pure, Result.andThen]
  · rename_i as hne ha
    injection hr with hr
    subst hr
    have := run_mapM (resAs_ok (P := P) (K := K) hs hm ha)
    rw [Array.mapM_eq_mapM_toList]
    simp only [map_eq_pure_bind, Sem.run_bind, bind_assoc]
    rw [this]
    have hlen : ¬ (AV.vals ν as).length = 1 := fun h1 => by
      rw [AV.vals_length] at h1
      match as, h1 with
      | [a], _ => exact hne a rfl
    simp [Sem.run_pure, Result.andThen, AV.val, hlen]
  · cases hr

/-! ### arguments -/
theorem argsX_ok {nt : Nat} {tm : Array Value} : ∀ (l : List AV) (i : Nat) {ev env : T AV}, argsX nt n i l ev = some env → Slots ν ev tm → (∀ t v, ev.get t t = some v → v.okB n = true) → (∀ j v, l[j]? = some v → tm[i + j]? = some (v.val ν)) →
    Slots ν env tm ∧ (∀ t v, env.get t t = some v → v.okB n = true) ∧ (l = [] ∨ i + l.length ≤ nt)
  | [], i, ev, env, h, hs, he, _ => by
    simp only [argsX, Option.some.injEq] at h
    subst h
    exact ⟨hs, he, .inl rfl⟩
  | a :: l, i, ev, env, h, hs, he, ht => by
    simp only [argsX, forceV_eq] at h
    split at h
    case h_2 => cases h
    rename_i hc
    simp only [Bool.and_eq_true] at hc
    split at h
    case h_2 => cases h
    rename_i ev1 o hu
    have h1 : Slots ν ev1 tm := fun t v hv => by
      rcases T.get_upd _ _ _ _ _ _ _ _ _ _ hu hv with ⟨rfl, rfl⟩ | hv
      · simpa using ht 0 _ rfl
      · exact hs t v hv
    have h2 : ∀ t v, T.get ev1 t t = some v → v.okB n = true := fun t v hv => by
      rcases T.get_upd _ _ _ _ _ _ _ _ _ _ hu hv with ⟨rfl, rfl⟩ | hv
      · exact hc.1
      · exact he t v hv
    obtain ⟨g1, g2, g3⟩ := argsX_ok l (i + 1) h h1 h2 (fun j v hj => by
      have := ht (j + 1) v (by simpa using hj)
      rwa [show i + 1 + j = i + (j + 1) by omega])
    refine ⟨g1, g2, .inr ?_⟩
    have := Nat.le_of_ble_eq_true hc.2
    rcases g3 with rfl | g3
    · simpa using this
    · simp only [List.length_cons]; omega
theorem slots_e {tm : Array Value} : Slots ν .e tm := fun t v hv => by simp [T.get] at hv
end
end Go.Ex
