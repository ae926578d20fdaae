/-
  The runner is right: code.
-/
import Derived.Test.YtkoojoeimdfkgaaGreatDoorExU
import Derived.RangeFuncIn
namespace Go.Ex
open Go Go.RowKit Go.Sx

section
variable {P : Program} {K : Tl P} {x : Cx} {ν ν' : Vl} {a : Act} {w w' : World}
/-- where code leads: on behind it, or to a jump that what is around must take -/
def Reach (P : Program) (b : Frame) (a' : Act) (k : List Item) (cs : List Frame) (w' : World) (m : Machine) : AExit → Prop
  | .norm => Steps P m (lone (b.atR a' k) cs w')
  | .exit id => ∃ k1, exitTo id k1 = exitTo id k ∧ Steps P m (lone (b.atR a' (.code (.exit id) :: k1)) cs w')
  | .ret => ∃ k1, Steps P m (lone (b.atR a' (.code .ret :: k1)) cs w')
theorem Reach.from {b : Frame} {a' : Act} {k : List Item} {cs : List Frame} {m m' : Machine} {e : AExit} (hs : Steps P m m') (h : Reach P b a' k cs w' m' e) : Reach P b a' k cs w' m e := by
  cases e with
  | norm => exact hs.trans h
  | exit id => obtain ⟨k1, h1, h2⟩ := h; exact ⟨k1, h1, hs.trans h2⟩
  | ret => obtain ⟨k1, h2⟩ := h; exact ⟨k1, hs.trans h2⟩
/-- code that did not end normally passes what is behind it by -/
theorem Reach.pass {b : Frame} {a' : Act} {k k' : List Item} {cs : List Frame} {m : Machine} {e : AExit} (hn : e ≠ .norm) (hk : ∀ id, e = .exit id → exitTo id k = exitTo id k') (h : Reach P b a' k cs w' m e) : Reach P b a' k' cs w' m e := by
  cases e with
  | norm => exact absurd rfl hn
  | exit id => obtain ⟨k1, h1, h2⟩ := h; exact ⟨k1, h1.trans (hk id rfl), h2⟩
  | ret => exact h
variable (K) in
/-- where a run of code leads to -/
def Leads (x : Cx) (s : AS) (ν : Vl) (r : Res) (b : Frame) (k : List Item) (cs : List Frame) (m : Machine) : Prop :=
  ∃ ν' a' w', Vl.Same s.n ν ν' ∧ s.n ≤ r.s.n ∧ Rel K x r.s ν' a' w' ∧ Reach P b a' k cs w' m r.e
variable (K) in
structure Sound (ih : Task → Option Res) : Prop where
  snd : Snd K ih
  code : ∀ {x c s r}, ih (.code x c s) = some r → ∀ {ν a w} {b : Frame} {k : List Item} {cs : List Frame}, Rel K x s ν a w → Fr x ν s.n b → Leads K x s ν r b k cs (lone (b.atR a (.code c :: k)) cs w)

theorem Leads.step {s : AS} {r : Res} {b : Frame} {k : List Item} {cs : List Frame} {m m' : Machine} (hs : step P m = .next m') (h : Leads K x s ν r b k cs m') : Leads K x s ν r b k cs m := by
  obtain ⟨ν', a', w', h1, h2, h3, h4⟩ := h
  exact ⟨ν', a', w', h1, h2, h3, h4.from (.one hs)⟩
theorem Leads.pass {s : AS} {r : Res} {b : Frame} {k k' : List Item} {cs : List Frame} {m : Machine} (hn : r.e ≠ .norm) (hk : ∀ id, r.e = .exit id → exitTo id k = exitTo id k') (h : Leads K x s ν r b k cs m) : Leads K x s ν r b k' cs m := by
  obtain ⟨ν', a', w', h1, h2, h3, h4⟩ := h
  exact ⟨ν', a', w', h1, h2, h3, h4.pass hn hk⟩
theorem stepR_scope {b : Frame} {k : List Item} {cs : List Frame} {c : Code} : step P (lone (b.atR a (.code (.scope c) :: k)) cs w) = .next (lone (b.atR a (.code c :: .inScope c :: k)) cs w) :=
  step_lone_go (by simp [stepG, stepG.exec, Frame.atR])
theorem stepR_inScope {b : Frame} {k : List Item} {cs : List Frame} {c : Code} : step P (lone (b.atR a (.inScope c :: k)) cs w) = .next (lone (b.atR a k) cs w) :=
  step_lone_go (by simp [stepG, stepG.exec, Frame.atR])
/-- code that ended normally, and what is done behind it -/
theorem Leads.andThen {s : AS} {r r2 : Res} {b : Frame} {k k' : List Item} {cs : List Frame} {m : Machine} (hn : r.e = .norm) (h : Leads K x s ν r b k cs m) (hb : Fr x ν s.n b)
    (h2 : ∀ {ν' a' w'}, Rel K x r.s ν' a' w' → Fr x ν' r.s.n b → Leads K x r.s ν' r2 b k' cs (lone (b.atR a' k) cs w')) : Leads K x s ν r2 b k' cs m := by
  obtain ⟨ν', a', w', e1, e2, e3, e4⟩ := h
  rw [hn] at e4
  obtain ⟨ν2, a2, w2, f1, f2, f3, f4⟩ := h2 e3 (hb.same e1 e2)
  exact ⟨ν2, a2, w2, e1.trans f1 e2, Nat.le_trans e2 f2, f3, f4.from e4⟩
theorem Leads.here {s : AS} {b : Frame} {k : List Item} {cs : List Frame} {v : AV} (h : Rel K x s ν a w) : Leads K x s ν ⟨.norm, s, v⟩ b k cs (lone (b.atR a k) cs w) :=
  ⟨ν, a, w, Vl.Same.refl, Nat.le_refl _, h, .refl P _⟩

theorem loopX_ok {ih : Task → Option Res} (hih : Sound K ih) {c : Code} {b : Frame} {k : List Item} {cs : List Frame} {r : Res} : ∀ (m : Nat) {s : AS} {ν : Vl} {a : Act} {w : World}, loopX (fun s => ih (.code x c s)) m s = some r → Rel K x s ν a w → Fr x ν s.n b →
    Leads K x s ν r b k cs (lone (b.atR a (.code c :: .inLoop c :: k)) cs w)
  | 0, _, _, _, _, h, _, _ => by cases h
  | m + 1, s, ν, a, w, h, hr, hb => by
    simp only [loopX] at h
    split at h
    case h_2 => cases h
    rename_i r1 h1
    have hl := hih.code h1 (k := .inLoop c :: k) (cs := cs) hr hb
    split at h
    · rename_i he
      exact hl.andThen he hb fun hr' hb' => .step stepR_inLoop (loopX_ok hih m h hr' hb')
    · rename_i hne
      injection h with h
      subst h
      exact hl.pass (fun h => hne h) (fun id _ => (rfl : exitTo id (_ :: k) = exitTo id k))

/-- CODE, but for ranges over functions. -/
theorem codeX_ok {ih : Task → Option Res} (hih : Sound K ih) (hmo : P.follows .mixedOrders = true)
    (hrf : ∀ {g : Operand} {ps : Array Tmp} {assign body : Code} {f : Nat} {s : AS} {r : Res} {ν : Vl} {a : Act} {w : World} {b : Frame} {k : List Item} {cs : List Frame}, codeX K ih f x (.rangeFunc g ps assign body) s = some r → Rel K x s ν a w → Fr x ν s.n b → Leads K x s ν r b k cs (lone (b.atR a (.code (.rangeFunc g ps assign body) :: k)) cs w))
    {f : Nat} {c : Code} {s : AS} {r : Res} {ν : Vl} {a : Act} {w : World} {b : Frame} {k : List Item} {cs : List Frame} (h : codeX K ih f x c s = some r) (hr : Rel K x s ν a w) (hb : Fr x ν s.n b) : Leads K x s ν r b k cs (lone (b.atR a (.code c :: k)) cs w) := by
  have h0 := h
  unfold codeX at h
  split at h
  · injection h with h
    subst h
    exact .step stepR_skip (.here hr)
  · injection h with h
    subst h
    exact .step stepR_label (.here hr)
  · injection h with h
    subst h
    exact ⟨ν, a, w, Vl.Same.refl, Nat.le_refl _, hr, k, .refl P _⟩
  · injection h with h
    subst h
    exact ⟨ν, a, w, Vl.Same.refl, Nat.le_refl _, hr, k, rfl, .refl P _⟩
  · rename_i c1 c2
    split at h
    case h_2 => cases h
    rename_i r1 h1
    have hl := hih.code h1 (k := .code c2 :: k) (cs := cs) hr hb
    refine .step stepR_seq ?_
    split at h
    · rename_i he
      exact hl.andThen he hb fun hr' hb' => hih.code h hr' hb'
    · rename_i hne
      injection h with h
      subst h
      exact hl.pass (fun h => hne h) (fun id _ => (rfl : exitTo id (_ :: k) = exitTo id k))
  · rename_i c c1 c2
    split at h
    · rename_i hc
      have := evA_ok hr.slots hr.gok hc
      exact .step (stepR_cond (t := true) this) (hih.code h hr hb)
    · rename_i hc
      have := evA_ok hr.slots hr.gok hc
      exact .step (stepR_cond (t := false) this) (hih.code h hr hb)
    · cases h
  · rename_i id c
    split at h
    case h_2 => cases h
    rename_i r1 h1
    have hl := hih.code h1 (k := .inBlock id :: k) (cs := cs) hr hb
    refine .step stepR_block ?_
    split at h
    · rename_i j he
      obtain ⟨ν', a', w', e1, e2, e3, e4⟩ := hl
      rw [he] at e4
      obtain ⟨k1, e5, e6⟩ := e4
      split at h
      · rename_i hj
        have hj := nbeq hj
        subst hj
        injection h with h
        subst h
        refine ⟨ν', a', w', e1, e2, e3, e6.trans (.one (stepR_exit ?_))⟩
        rw [e5]
        simp [exitTo]
      · rename_i hj
        injection h with h
        subst h
        refine ⟨ν', a', w', e1, e2, e3, ?_⟩
        rw [he]
        refine ⟨k1, ?_, e6⟩
        rw [e5]
        have : id ≠ j := fun h => by subst h; simp at hj
        simp [exitTo, this]
    · rename_i hne
      injection h with h
      subst h
      cases he : r1.e with
      | norm =>
        obtain ⟨ν', a', w', e1, e2, e3, e4⟩ := hl
        rw [he] at e4
        refine ⟨ν', a', w', e1, e2, e3, ?_⟩
        rw [he]
        exact Steps.trans e4 (.one stepR_inBlock)
      | exit j => exact absurd he (hne j)
      | ret => exact hl.pass (by rw [he]; exact fun h => by cases h) (fun id h => by rw [he] at h; cases h)
  · exact .step stepR_loop (loopX_ok hih _ h hr hb)
  · rename_i c
    have hl := hih.code h (k := .inScope c :: k) (cs := cs) hr hb
    refine .step stepR_scope ?_
    cases he : r.e with
    | norm =>
      obtain ⟨ν', a', w', e1, e2, e3, e4⟩ := hl
      rw [he] at e4
      refine ⟨ν', a', w', e1, e2, e3, ?_⟩
      rw [he]
      exact Steps.trans e4 (.one stepR_inScope)
    | exit j => exact hl.pass (by rw [he]; exact fun h => by cases h) (fun id _ => (rfl : exitTo id (_ :: k) = exitTo id k))
    | ret => exact hl.pass (by rw [he]; exact fun h => by cases h) (fun id h => by rw [he] at h; cases h)
  · rename_i id ops
    split at h
    case h_2 => cases h
    rename_i s1 h1
    injection h with h
    subst h
    obtain ⟨ν', a', w', e1, e2, e3, e4⟩ := listX_ok hih.snd ops.toList 0 rfl hr h1 hb (k := k) (cs := cs)
    refine .step stepR_region ⟨ν', a', w', e1, e2, e3, ?_⟩
    rw [List.range_eq_range']
    show Steps P _ _
    simpa using e4
  · rename_i id ops
    split at h
    case h_2 => cases h
    rename_i hn
    simp only [Bool.and_eq_true] at hn
    split at h
    case h_2 => cases h
    rename_i s1 h1
    injection h with h
    subst h
    obtain ⟨ν', a', w', e1, e2, e3, e4⟩ := region_draw (id := id) hih.snd hmo hn.1 hn.2 h1 hr (b := b) (k := k) (cs := cs)
    exact ⟨ν', a', w', e1, e2, e3, e4⟩
  · exact hrf h0 hr hb
  · cases h
end
end Go.Ex
