/-
  The runner is right: a range over a function.
-/
import Derived.Test.YtkoojoeimdfkgaaGreatDoorExV
namespace Go.Ex
open Go Go.RowKit Go.Sx

section
variable {P : Program} {K : Tl P} {x : Cx} {ν ν' : Vl} {a : Act} {w w' : World} {n nb : Nat} {h h' : Heap}
/-- a block turns -/
theorem Mem.blk {i b : Nat} {o1 o2 : AObj} {O : Obj} (hm : Mem ν n h w) (hN : n ≤ nb) (hi : h.at i = some o1) (hs : h.set nb i o2 = some h') (hfoot : ∀ S, o1.foot ν i S → S b) (hlt : b < w.heap.size)
    (hfr : o1 ≠ .fr) (h2 : ∀ S w', S b → w'.heap[b]? = some O → chunk ν i o2 S w') : Mem ν nb h' (w.putObj b O) := by
  obtain ⟨R, _, _, hS, hk⟩ := hm.split hN hi hs
  refine hk (fun _ _ => rfl) (hS.upd fun S hc hb => ?_)
  have hSb : S b := by
    cases o1 <;> first | exact hfoot S hc.1 | exact absurd rfl hfr
  refine ⟨S, ⟨rfl, rfl, rfl, by simp, fun k hk hx => World.putObj_heap_other (fun e => hx (e ▸ hSb))⟩, fun k hk => ⟨Or.inl hk, by have := hb k hk; simpa using this⟩, fun w'' hw => h2 S w'' hSb ?_⟩
  rw [hw.block b (by simpa using hlt) (fun h => h hSb), World.putObj_heap_same hlt]
/-- a block is done with -/
theorem Mem.blkDead {i b : Nat} {o1 : AObj} {O : Obj} (hm : Mem ν n h w) (hN : n ≤ nb) (hi : h.at i = some o1) (hs : h.set nb i .dead = some h') (hfoot : ∀ S, o1.foot ν i S → S b) (hfr : o1 ≠ .fr) : Mem ν nb h' (w.putObj b O) := by
  obtain ⟨R, _, _, hS, hk⟩ := hm.split hN hi hs
  refine hk (fun _ _ => rfl) (hS.upd fun S hc hb => ?_)
  have hSb : S b := by
    cases o1 <;> first | exact hfoot S hc.1 | exact absurd rfl hfr
  exact ⟨fun _ => False, ⟨rfl, rfl, rfl, by simp, fun k hk hx => World.putObj_heap_other (fun e => hx (e ▸ hSb))⟩, fun k hk => hk.elim, fun w'' hw => ⟨fun _ h => h, trivial⟩⟩
theorem heap_lt {w : World} {b : Nat} {o : Obj} (h : w.heap[b]? = some o) : b < w.heap.size := (Array.getElem?_eq_some_iff.1 h).1

/-- a new name takes nothing away -/
theorem slots_same {env : T AV} {tm : Array Value} (hs : Vl.Same n ν ν') (he : ∀ t v, env.get t t = some v → v.okB n = true) (h : Slots ν env tm) : Slots ν' env tm := fun t v hv => by rw [h t v hv, AV.val_same hs v (he t v hv)]

theorem run_enterLoop_inner {l : Nat} {r : Loop} {fn : FuncId} {tmps : Array Value} {ps : Array Tmp} {assign body : Code} (hl : w.heap[l]? = some (.loop r)) :
    (Instr.enterLoop fn tmps ps assign body (some l)).run P w = .ok (w.heap.size, []) (w.alloc (.loop { state := .ready, pending := none, fn, tmps, params := ps, assign, body, defers := r.defers })) := by
  unfold Instr.enterLoop
  simp only [Sem.run_bind, run_getLoop hl, run_newObj_alloc, Result.andThen, Sem.run_pure]
/-- the block of an outermost loop's deferred calls, or the record of the loop around -/
theorem enter_ok {s : AS} {b : Frame} {d n1 : Nat} {h1 : Heap} {ds1 : List ADef} (hr : Rel K x s ν a w) (hb : Fr x ν s.n b)
    (he : (match x.r with
        | none => match s.h.new (s.n + 1) s.n .dfr with
          | some h1 => some (s.n, h1, s.n + 1, ADef.col s.n :: s.ds)
          | none => none
        | some l => match s.h.at l with
          | some (.loop _ _ _ _ _ _ _ _ d) => some (d, s.h, s.n, s.ds)
          | _ => none) = some (d, h1, n1, ds1)) :
    ∃ ν1 w1 mark, Vl.Same s.n ν ν1 ∧ s.n ≤ n1 ∧ d < n1 ∧ Rel K x ⟨s.env, h1, n1, ds1⟩ ν1 { a with defers := mark ++ a.defers } w1 ∧
      ∀ (ps : Array Tmp) (assign body : Code), (Instr.enterLoop b.fn a.tmps ps assign body b.roundOf).run P w = .ok (w1.heap.size, mark) (w1.alloc (.loop { state := .ready, pending := none, fn := x.fn, tmps := a.tmps, params := ps, assign, body, defers := (ν1 d).block })) := by
  split at he
  · rename_i hx
    split at he
    case h_2 => cases he
    rename_i h2 hn
    injection he with he
    cases he
    have ho : Off s.n ν (ν.put s.n (.blk w.heap.size)) := Vl.put_off _ _ _
    have hsame := off_same ho (Nat.le_refl _)
    have hm := hr.mem.alloc (O := .deferred (some [])) (Nat.le_succ _) hr.fresh hn (fun S w' hS => ⟨fun b' hb' => by rw [Vl.put_at] at hb'; injection hb' with hb'; subst hb'; exact hS.1, w.heap.size, Vl.put_at _ _ _, hS.2⟩)
    have ht := hr.turn hsame (Nat.le_succ _) hm
    refine ⟨ν.put s.n (.blk w.heap.size), w.alloc (.deferred (some [])), [{ target := .collected w.heap.size, args := #[] }], hsame, Nat.le_succ _, Nat.lt_succ_self _, ⟨ht.slots, ht.size, ?_, hm, ht.env, ?_, ht.glob⟩, fun ps assign body => ?_⟩
    · simp only [List.map_cons, List.singleton_append]
      rw [ht.ds]
      simp [ADef.val, Vl.put_at, En.block]
    · intro d hd
      rcases List.mem_cons.1 hd with rfl | hd
      · exact lt_blt (Nat.lt_succ_self _)
      · exact ht.dok d hd
    · rw [hb.ro, hx, hb.fn, Option.map_none, run_enterLoop_outer, Vl.put_at, World.size_alloc]
      rfl
  · rename_i l hx
    split at he
    case h_2 => cases he
    rename_i st pend fn nt env ps1 as1 bd1 d' hat
    injection he with he
    cases he
    obtain ⟨b', tmps, hν, hblk, _, _⟩ := hr.mem.fact hat
    have hdlt : d < s.n := by
      have := (hr.mem.ok (l, _) (T.get_mem _ _ _ _ hat)).2.1
      simp only [AObj.okB, Bool.and_eq_true] at this
      exact blt_lt this.2
    refine ⟨ν, w, [], Vl.Same.refl, Nat.le_refl _, hdlt, by simpa using hr, fun ps assign body => ?_⟩
    rw [hb.ro, hx, hb.fn, Option.map_some, hν]
    exact run_enterLoop_inner hblk

variable {b : Frame} {k : List Item} {cs : List Frame}
/-- ranging over a function that the machine answers itself -/
theorem stepR_rangeFunc_value {g : Operand} {ps : Array Tmp} {assign body : Code} {l : Nat} {mark : List Deferred} {w₁ w₁' w₂ : World} {d : Deferred} {v : Value}
    (he : (Instr.enterLoop b.fn a.tmps ps assign body b.roundOf).run P w = .ok (l, mark) w₁)
    (hres : (resolve a.eval (rangeCall g l) 0).run P w₁ = .ok d w₁') (hinv : (invoke d.target d.args).run P w₁' = .ok (.value v) w₂) :
    step P (lone (b.atR a (.code (.rangeFunc g ps assign body) :: k)) cs w) =
      .next (lone (b.atR { a with defers := mark ++ a.defers } (.endRangeFunc l :: k)) cs w₂) :=
  step_lone_go (by
    have hev := Frame.eval_atR b { a with defers := mark ++ a.defers } (.inRangeFunc l :: k)
    simp only [Frame.atR] at hev
    have hres' : Sem.run P (resolve ({ tmps := a.tmps, defers := mark ++ a.defers } : Act).eval { callee := .value g, args := #[.const (.func (.yield l) #[] #[])], argTypes := #[] } 0) w₁ = .ok d w₁' := hres
    simp [stepG, stepG.exec, Frame.atR, Sem.runT_eq, he, GStep.bare_after, stepG.apply, hev, Sem.run_bind, hres', hinv, Result.andThen, Frame.finish])
/-- A RANGE OVER A FUNCTION. -/
theorem rangeFunc_ok {ih : Task → Option Res} (hih : Sound K ih) {g : Operand} {ps : Array Tmp} {assign body : Code} {f : Nat} {s : AS} {r : Res} (hc : codeX K ih f x (.rangeFunc g ps assign body) s = some r) (hr : Rel K x s ν a w) (hb : Fr x ν s.n b) :
    Leads K x s ν r b k cs (lone (b.atR a (.code (.rangeFunc g ps assign body) :: k)) cs w) := by
  unfold codeX at hc
  simp only at hc
  split at hc
  case h_2 => cases hc
  rename_i gf first caps hg
  split at hc
  case h_2 => cases hc
  rename_i d h1 n1 ds1 he
  split at hc
  case h_2 => cases hc
  rename_i h2 hn
  split at hc
  case h_2 => cases hc
  rename_i r1 hcall
  split at hc
  case h_2 => cases hc
  rename_i st pend fn2 nt2 en2 ps2 as2 bd2 d2 hat
  split at hc
  case h_2 => cases hc
  rename_i h3 hst hset
  obtain ⟨ν1, w1, mark, e1, e2, hd, e3, e4⟩ := enter_ok hr hb he
  -- the record
  have ho : Off n1 ν1 (ν1.put n1 (.blk w1.heap.size)) := Vl.put_off _ _ _
  have hsame : Vl.Same n1 ν1 (ν1.put n1 (.blk w1.heap.size)) := off_same ho (Nat.le_refl _)
  have hm2 : Mem (ν1.put n1 (.blk w1.heap.size)) (n1 + 1) h2 (w1.alloc (.loop { state := .ready, pending := none, fn := x.fn, tmps := a.tmps, params := ps, assign, body, defers := (ν1 d).block })) :=
    e3.mem.alloc (Nat.le_succ _) e3.fresh hn (fun S w' hS => ⟨fun b' hb' => by rw [Vl.put_at] at hb'; injection hb' with hb'; subst hb'; exact hS.1, w1.heap.size, a.tmps, Vl.put_at _ _ _, by
      rw [hS.2, ho d (Nat.ne_of_lt hd)], e3.size, slots_same hsame e3.env e3.slots⟩)
  have e5 := e3.turn hsame (Nat.le_succ _) hm2
  -- the call
  have ey := evA_ok hr.slots hr.gok hg
  have hok := hr.evOk hg
  simp only [AV.okB, Bool.and_eq_true] at hok
  have hle : s.n ≤ n1 + 1 := by omega
  have hs02 : Vl.Same s.n ν (ν1.put n1 (.blk w1.heap.size)) := e1.trans hsame e2
  have hargs : AV.oksB (n1 + 1) (first ++ ([AV.yield n1] ++ caps)) = true := oksB_append (AV.oksB_le hle _ hok.1) (oksB_append (by simp [AV.oksB, AV.okB]) (AV.oksB_le hle _ hok.2))
  have hcl := hih.snd.call hcall hm2 e5.glob hargs
  have hres : (resolve a.eval (rangeCall g w1.heap.size) 0).run P (w1.alloc (.loop { state := .ready, pending := none, fn := x.fn, tmps := a.tmps, params := ps, assign, body, defers := (ν1 d).block })) =
      .ok { target := .fn (.func gf) (AV.vals ν caps).toArray, args := (AV.vals ν first).toArray ++ #[.func (.yield w1.heap.size) #[] #[]] } (w1.alloc (.loop { state := .ready, pending := none, fn := x.fn, tmps := a.tmps, params := ps, assign, body, defers := (ν1 d).block })) := by
    simp only [resolve, ey, AV.val, Deferred.ofValue, Sem.run_bind, Sem.run_pure, Result.andThen_ok]
    simp [Act.eval]
  have hinv : ∀ w', (invoke (.fn (.func gf) (AV.vals ν caps).toArray) ((AV.vals ν first).toArray ++ #[.func (.yield w1.heap.size) #[] #[]])).run P w' = (callFunc gf (AV.vals (ν1.put n1 (.blk w1.heap.size)) (first ++ ([AV.yield n1] ++ caps))).toArray).run P w' := by
    intro w'
    simp only [invoke]
    congr 2
    rw [vals_append, vals_append, AV.vals_same hs02 _ hok.1, AV.vals_same hs02 _ hok.2]
    simp [AV.vals, AV.val, Vl.put_at, En.block]
  -- behind the call
  have after : ∀ {v : Value} {w' : World}, Left (ν1.put n1 (.blk w1.heap.size)) (n1 + 1) r1 v w' → Leads K x s ν r b k cs (lone (b.atR { a with defers := mark ++ a.defers } (.endRangeFunc w1.heap.size :: k)) cs w') := by
    intro v w' hl
    obtain ⟨ν3, f1, f2, f3, f4, _⟩ := hl
    have hν3 : ν3 n1 = .blk w1.heap.size := by rw [← f1 n1 (Nat.lt_succ_self _), Vl.put_at]
    obtain ⟨b', tm', g1, g2, _, _⟩ := f3.fact hat
    rw [hν3] at g1
    injection g1 with g1
    subst g1
    have hne : st ≠ .busy := fun h => by rw [h] at hst; cases hst
    have hend := run_endLoop (P := P) g2 hne
    have hm4 : Mem ν3 r1.s.n h3 (w'.putObj w1.heap.size (.loop { state := .exhausted, pending := pend, fn := fn2, tmps := tm', params := ps2.toArray, assign := as2, body := bd2, defers := (ν3 d2).block })) :=
      f3.blkDead (Nat.le_refl _) hat hset (fun S hS => hS _ hν3) (fun h => by cases h)
    have e6 := e5.turn f1 f2 hm4
    have hsf : Vl.Same s.n ν ν3 := hs02.trans f1 hle
    have hnf : s.n ≤ r1.s.n := Nat.le_trans hle f2
    refine .step (stepR_endRangeFunc hend) ?_
    split at hc
    · injection hc with hc
      subst hc
      exact ⟨ν3, _, _, hsf, hnf, e6, .refl P _⟩
    · injection hc with hc
      subst hc
      exact ⟨ν3, _, _, hsf, hnf, e6, k, .refl P _⟩
    · injection hc with hc
      subst hc
      exact ⟨ν3, _, _, hsf, hnf, e6, k, rfl, .refl P _⟩
    · cases hc
  rcases hcl with ⟨v, w', c1, c2⟩ | ⟨c1, c2⟩
  · exact .step (stepR_rangeFunc_value (e4 ps assign body) hres ((hinv _).trans c1)) (after c2)
  · obtain ⟨fr, w', v, c3, c4, c5, c6, c7, c8, fn, c9, c10⟩ := c2 .normal (b.atR { a with defers := mark ++ a.defers } (.inRangeFunc w1.heap.size :: k) :: cs)
    have hl : fr.leaving P w' (.returned v) := ⟨c5, c6, c7, fn, by rw [c8]; exact c9, c10⟩
    obtain ⟨ν', a', w'', l1, l2, l3, l4⟩ := after c3
    refine ⟨ν', a', w'', l1, l2, l3, l4.from (.head (stepR_rangeFunc (e4 ps assign body) hres ((hinv _).trans c1)) (c4.trans (.one ?_)))⟩
    rw [← finish_atR_inRangeFunc w1.heap.size v]
    exact step_leave_returned hl
end
end Go.Ex
