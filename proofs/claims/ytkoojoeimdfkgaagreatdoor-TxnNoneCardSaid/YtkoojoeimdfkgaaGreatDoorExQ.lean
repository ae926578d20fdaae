/-
  Regions that draw their order: what is read early is held until what comes behind it.
-/
import Derived.Test.YtkoojoeimdfkgaaGreatDoorExP
import Derived.AtR
namespace Go.Ex
open Go Go.RowKit Go.Sx

section
variable {P : Program} {ops : Array Oper} {Q : Exit → Act → World → Prop} {md : Region.Mode}
abbrev Held := List (Nat × (World → Prop))
/-- number j waits for number i -/
def waitsN (md : Region.Mode) (ops : Array Oper) (j i : Nat) : Bool := match ops[j]? with
  | some oj => oj.after.toList.any fun e => Region.binds md e && Nat.beq e.on i
  | none => false
def keepH (md : Region.Mode) (ops : Array Oper) (j : Nat) (H : Held) : Held := H.filter fun p => !waitsN md ops j p.1
def WA (P : Program) (md : Region.Mode) (ops : Array Oper) (Q : Exit → Act → World → Prop) : Nat → Held → Array Bool → Act → World → Prop
  | 0, _, listed, a, w => Region.ready md ops listed = [] ∧ Q .normal a w
  | fuel + 1, H, listed, a, w => (Region.ready md ops listed = [] → Q .normal a w) ∧
    ∀ j ∈ Region.ready md ops listed, wpOp P ops Q j (fun a' w' => (∀ p ∈ keepH md ops j H, p.2 w') ∧ WA P md ops Q fuel (keepH md ops j H) (listed.setIfInBounds j true) a' w') a w
theorem WA_sub : ∀ (fuel : Nat) {H H' : Held} {listed : Array Bool} {a : Act} {w : World}, H'.Sublist H → WA P md ops Q fuel H listed a w → WA P md ops Q fuel H' listed a w
  | 0, _, _, _, _, _, _, h => h
  | fuel + 1, H, H', listed, a, w, hs, h => ⟨h.1, fun j hj => wpOp_mono (fun a' w' h' => ⟨fun p hp => h'.1 p ((hs.filter _).subset hp), WA_sub fuel (hs.filter _) h'.2⟩) (h.2 j hj)⟩
theorem wpAny_of_WA : ∀ (fuel : Nat) {H : Held} {listed : Array Bool} {a : Act} {w : World}, WA P md ops Q fuel H listed a w → wpAny P md ops Q fuel listed a w
  | 0, _, _, _, _, h => h
  | fuel + 1, _, _, _, _, h => ⟨h.1, fun j hj => wpOp_mono (fun a' w' h' => wpAny_of_WA fuel h'.2) (h.2 j hj)⟩
theorem keepH_cons {j i : Nat} {S : World → Prop} {H : Held} (h : waitsN md ops j i = false) : keepH md ops j ((i, S) :: H) = (i, S) :: keepH md ops j H := by
  simp [keepH, h]
theorem WA_first {i : Nat} {oi : Oper} {v : Value} {S : World → Prop} (hi : ops[i]? = some oi) (hsel : ∀ (j : Nat) (o : Oper) cs b, ops[j]? = some o → o.op ≠ .select cs b)
    (hQ : ∀ c a w, Q (.panic c) (a.put oi.dst v) w → Q (.panic c) a w) :
    ∀ (fuel : Nat) (H : Held) (listed : Array Bool) (a : Act) (w : World),
      (∀ j oj, ops[j]? = some oj → j ≠ i → listed.getD j true = false → (∀ e ∈ oj.after, Region.binds md e = true → e.on ≠ i) → oi.apart ops oj = true) →
      i ∈ Region.ready md ops listed → YieldsIf P ops S oi v a → S w → (∀ p ∈ H, p.2 w) →
      WA P md ops Q fuel ((i, S) :: H) (listed.setIfInBounds i true) (a.put oi.dst v) w → WA P md ops Q (fuel + 1) H listed a w := by
  intro fuel
  induction fuel with
  | zero =>
    intro H listed a w _ hr hy hS hH h
    refine ⟨fun h' => (by rw [h'] at hr; cases hr), fun j hj => ?_⟩
    by_cases hji : j = i
    · subst hji
      exact hy.wpOp hi hS ⟨fun p hp => hH p (List.mem_filter.1 hp).1, h⟩
    · have := ready_mono hj hji
      rw [h.1] at this
      cases this
  | succ fuel ih =>
    intro H listed a w hfree hr hy hS hH h
    refine ⟨fun h' => (by rw [h'] at hr; cases hr), fun j hj => ?_⟩
    by_cases hji : j = i
    · subst hji
      exact hy.wpOp hi hS ⟨fun p hp => hH p (List.mem_filter.1 hp).1, WA_sub _ ((List.filter_sublist).trans (List.sublist_cons_self _ _)) h⟩
    · have h1 := h.2 j (ready_mono hj hji)
      obtain ⟨hjun, oj, hoj, hall⟩ := mem_ready.1 hj
      have hnot : ∀ e ∈ oj.after, Region.binds md e = true → e.on ≠ i := fun e he hb heq => by
        have h1 := hall e he hb
        have h0 := (mem_ready.1 hr).1
        rw [heq] at h1
        rcases Nat.lt_or_ge i listed.size with h' | h'
        · simp [h'] at h0 h1; rw [h0] at h1; cases h1
        · simp [Array.getElem?_eq_none h'] at h1
      have hw : waitsN md ops j i = false := by
        unfold waitsN
        rw [hoj]
        simp only
        rw [Bool.eq_false_iff]
        intro hany
        obtain ⟨e, he, hb⟩ := List.any_eq_true.1 hany
        simp only [Bool.and_eq_true] at hb
        exact hnot e (by simpa using he) hb.1 (Nat.eq_of_beq_eq_true hb.2)
      rw [keepH_cons hw] at h1
      have h2 := wpOp_putIf hoj (hfree j oj hoj hji hjun hnot) (fun cs b => hsel i oi cs b hi) (fun cs b => hsel j oj cs b hoj) hQ hy h1
      have hfree' : ∀ k ok, ops[k]? = some ok → k ≠ i → (listed.setIfInBounds j true).getD k true = false →
          (∀ e ∈ ok.after, Region.binds md e = true → e.on ≠ i) → oi.apart ops ok = true := fun k ok hk hki hun hno => by
        refine hfree k ok hk hki ?_ hno
        by_cases hjk : j = k
        · subst hjk; exact hjun
        · rw [getD_set_ne true hjk] at hun; exact hun
      refine wpOp_mono (fun a' w' h3 => ?_) h2
      obtain ⟨h4, h5, h6⟩ := h3
      refine ⟨fun p hp => h5 p (List.mem_cons_of_mem _ hp), ih (keepH md ops j H) (listed.setIfInBounds j true) a' w' hfree' (ready_mono hr (Ne.symm hji)) h4 (h5 (i, S) (List.mem_cons_self ..)) (fun p hp => h5 p (List.mem_cons_of_mem _ hp)) ?_⟩
      rw [Array.setIfInBounds_comm _ _ hji]
      exact h6
theorem WA_take {i : Nat} {oi : Oper} {v : Value} {S : World → Prop} {fuel : Nat} {H : Held} {listed : Array Bool} {a : Act} {w : World} (hi : ops[i]? = some oi)
    (hs : Region.noSelect ops = true) (hf : Region.free md ops listed i = true) (hr : (Region.ready md ops listed).contains i = true)
    (hQ : ∀ c a w, Q (.panic c) (a.put oi.dst v) w → Q (.panic c) a w) (hy : YieldsIf P ops S oi v a) (hS : S w) (hH : ∀ p ∈ H, p.2 w)
    (h : WA P md ops Q fuel ((i, S) :: H) (listed.setIfInBounds i true) (a.put oi.dst v) w) : WA P md ops Q (fuel + 1) H listed a w :=
  WA_first hi (Region.noSelect_spec hs) hQ fuel H listed a w (Region.free_spec hi hf) (by simpa using hr) hy hS hH h
theorem WA_all {rs : List Nat} {fuel : Nat} {H : Held} {listed : Array Bool} {a : Act} {w : World} (hr : Region.ready md ops listed = rs) (hne : rs ≠ [])
    (h : ∀ i ∈ rs, wpOp P ops Q i (fun a' w' => (∀ p ∈ keepH md ops i H, p.2 w') ∧ WA P md ops Q fuel (keepH md ops i H) (listed.setIfInBounds i true) a' w') a w) : WA P md ops Q (fuel + 1) H listed a w :=
  ⟨fun h0 => absurd (hr ▸ h0) hne, hr ▸ h⟩
theorem WA_done {H : Held} {listed : Array Bool} {a : Act} {w : World} (hr : Region.ready md ops listed = []) (h : Q .normal a w) : ∀ fuel, WA P md ops Q fuel H listed a w
  | 0 => ⟨hr, h⟩
  | _ + 1 => ⟨fun _ => h, by rw [hr]; simp⟩

/-- the post of a region that ends normally -/
def Nrm (Φ : Act → World → Prop) : Exit → Act → World → Prop := fun e a w => e = .normal ∧ Φ a w
theorem nrm_put {Φ : Act → World → Prop} {d : Option Tmp} {v : Value} : ∀ c a w, Nrm Φ (.panic c) (a.put d v) w → Nrm Φ (.panic c) a w := fun c a w h => by cases h.1

/-- any order, in any frame -/
theorem ops_stepsR {Φ : Act → World → Prop} (hnd : ∀ (i : Nat) (o : Oper), ops[i]? = some o → ∀ c, o.op ≠ .defer c) (l : List Nat) :
    ∀ (a : Act) (w : World), wpOps P ops (Nrm Φ) l a w → ∀ (b : Frame) (k : List Item) (cs : List Frame),
      ∃ a' w', Φ a' w' ∧ Steps P (lone (b.atR a (.inRegion ops l :: k)) cs w) (lone (b.atR a' k) cs w') := by
  induction l with
  | nil => exact fun a w h b k cs => ⟨a, w, h.2, .one stepR_region_end⟩
  | cons i rest ih =>
    intro a w h b k cs
    simp only [wpOps] at h
    cases ho : ops[i]? with
    | none =>
      simp only [ho] at h
      obtain ⟨a', w', hq, harr⟩ := ih a w h b k cs
      have hs := stepR_op_skip (P := P) (b := b) (a := a) (k := k) (cs := cs) (w := w) (ops := ops) (i := i) (rest := rest) (by simp [ho])
      simp only [ho, Option.bind_none, Act.put] at hs
      exact ⟨a', w', hq, .head hs harr⟩
    | some o =>
      simp only [ho] at h
      by_cases hw : Region.wanted o (yielded ops a.tmps) = true
      · simp only [hw, if_true] at h
        rcases h with h | ⟨_, a₀, w₀, hq⟩
        case inr => cases hq.1
        simp only [Oper.wp, Oper.upon] at h
        have hg := stepGR_op (P := P) (b := b) (k := k) (cs := cs) (w := w) (rest := rest) ho hw
        rw [Oper.semAt_eq _ _ _ (hnd i o ho)] at hg
        have hfin : ∀ v, (b.atR a (.inRegion ops (i :: rest) :: k)).finish v = b.atR (a.put o.dst v) (.inRegion ops rest :: k) := by
          intro v; rw [Frame.finish_atR, ho]; rfl
        split at h
        · rename_i v w' hr
          obtain ⟨a', w'', hq, harr⟩ := ih _ _ h b k cs
          refine ⟨a', w'', hq, .head (step_lone_go ?_) harr⟩
          rw [hg, ← hfin]; simp [stepG.apply, hr]
        · rename_i w' hr
          obtain ⟨a', w'', hq, harr⟩ := ih _ _ h b k cs
          refine ⟨a', w'', hq, .head (step_lone_go ?_) harr⟩
          rw [hg, ← hfin]; simp [stepG.apply, hr]
        · rename_i d w' hr
          obtain ⟨a', w'', hq, harr⟩ := ih _ _ h b k cs
          refine ⟨a', w'', hq, .head (step_lone_go ?_) harr⟩
          have : ({ b.atR a (.inRegion ops (i :: rest) :: k) with defers := d :: a.defers } : Frame).finish undef =
              b.atR ({ a with defers := d :: a.defers }.put o.dst undef) (.inRegion ops rest :: k) := by
            have := Frame.finish_atR b { a with defers := d :: a.defers } ops i rest k undef
            rw [ho] at this; exact this
          rw [hg]; simp only [stepG.apply, Sem.runT_eq, hr, GStep.bare_after]
          exact congrArg (fun fr => GStep.go { frame := fr, callers := cs, status := .running, dying := none } w') this
        · rename_i f args w' hr
          obtain ⟨e, w'', fr, hR, hsteps, _, hleave⟩ := h (b.atR a (.inRegion ops (i :: rest) :: k) :: cs)
          have henter : step P (lone (b.atR a (.inRegion ops (i :: rest) :: k)) cs w) =
              .next (lone (Frame.enter P f args .normal) (b.atR a (.inRegion ops (i :: rest) :: k) :: cs) w') :=
            step_lone_go (by rw [hg]; simp [stepG.apply, hr, Frame.atR])
          cases e with
          | returned v =>
            obtain ⟨a', w₃, hq, harr⟩ := ih _ _ hR b k cs
            refine ⟨a', w₃, hq, .head henter (hsteps.trans (.head ?_ harr))⟩
            rw [← hfin]; exact step_leave_returned hleave
          | panicked chain => cases hR.1
          | outgrown => obtain ⟨a₀, w₀, hq⟩ := hR; cases hq.1
        · rename_i row args w' hr
          obtain ⟨v, w'', hR, hsteps⟩ := h (b.atR a (.inRegion ops (i :: rest) :: k)) cs
          have henter : step P (lone (b.atR a (.inRegion ops (i :: rest) :: k)) cs w) =
              .next (lone (Frame.ofRow P row args .normal) (b.atR a (.inRegion ops (i :: rest) :: k) :: cs) w') :=
            step_lone_go (by rw [hg]; simp [stepG.apply, hr, Frame.atR])
          obtain ⟨a', w₃, hq, harr⟩ := ih _ _ hR b k cs
          refine ⟨a', w₃, hq, .head henter (hsteps.trans ?_)⟩
          rw [hfin]; exact harr
        · cases h.1
        · exact h.elim
      · simp only [hw, if_false, Bool.false_eq_true] at h
        obtain ⟨a', w', hq, harr⟩ := ih _ _ h b k cs
        have hs := stepR_op_skip (P := P) (b := b) (a := a) (k := k) (cs := cs) (w := w) (ops := ops) (i := i) (rest := rest) (by simp [ho, hw])
        simp only [ho, Option.bind_some] at hs
        exact ⟨a', w', hq, .head hs harr⟩
/-- a region that draws -/
theorem draw_stepsR {Φ : Act → World → Prop} (hm : P.follows .mixedOrders = true) (hnd : ∀ (i : Nat) (o : Oper), ops[i]? = some o → ∀ c, o.op ≠ .defer c) {id : Nat} {a : Act} {w : World} {b : Frame} {k : List Item} {cs : List Frame}
    (h : WA P .any ops (Nrm Φ) ops.size [] (Array.replicate ops.size false) a { w with drawn := w.drawn + 1 }) : ∃ a' w', Φ a' w' ∧ Steps P (lone (b.atR a (.code (.region id ops true) :: k)) cs w) (lone (b.atR a' k) cs w') := by
  have h1 := wpAny_sound ops.size (w.tape w.drawn (.order b.fn id)) _ a _ (wpAny_of_WA _ h)
  obtain ⟨a', w', hq, hs⟩ := ops_stepsR hnd _ a _ h1 b k cs
  refine ⟨a', w', hq, .head stepR_region_draw ?_⟩
  simpa [Region.schedule, hm, Region.linearise] using hs
end
end Go.Ex
