/-
  The runner is right: regions.
-/
import Derived.Test.YtkoojoeimdfkgaaGreatDoorExR
namespace Go.Ex
open Go Go.RowKit Go.Sx

/-! ### what compares equal is equal -/
theorem nbeq {a b : Nat} (h : Nat.beq a b = true) : a = b := Nat.eq_of_beq_eq_true h
mutual
theorem AV.beq_eq : ∀ (a b : AV), AV.beq a b = true → a = b
  | .v x, b, h => by
    cases b with
    | v y =>
      unfold AV.beq at h
      split at h <;> rename_i h1 h2 <;> first | (cases h; done) | (cases h1; done) | (cases h2; done) | (cases h1; cases h2; first | rfl | (simp only [Bool.and_eq_true, beq_iff_eq, ieq_eq, decide_eq_true_eq] at h; first | (rw [h.1, h.2]) | (rw [h])))
    | _ => simp [AV.beq] at h
  | .str x, b, h => by
    cases b <;> simp [AV.beq] at h
    subst h; rfl
  | .ptr i a, b, h => by
    cases b <;> simp [AV.beq] at h
    obtain ⟨rfl, rfl⟩ := h; rfl
  | .sl i a b' c d, b, h => by
    cases b <;> simp [AV.beq] at h
    obtain ⟨rfl, rfl, rfl, rfl, rfl⟩ := h; rfl
  | .map i, b, h => by
    cases b <;> simp [AV.beq] at h
    subst h; rfl
  | .yield i, b, h => by
    cases b <;> simp [AV.beq] at h
    subst h; rfl
  | .opq i, b, h => by
    cases b <;> simp [AV.beq] at h
    subst h; rfl
  | .func f a c, b, h => by
    cases b <;> simp [AV.beq] at h
    obtain ⟨rfl, h1, h2⟩ := h
    rw [AV.beqs_eq _ _ h1, AV.beqs_eq _ _ h2]
  | .iface t x, b, h => by
    cases b <;> simp [AV.beq] at h
    obtain ⟨rfl, h1⟩ := h
    rw [AV.beq_eq _ _ h1]
  | .agg l, b, h => by
    cases b <;> simp [AV.beq] at h
    rw [AV.beqs_eq _ _ h]
  | .tup l, b, h => by
    cases b <;> simp [AV.beq] at h
    rw [AV.beqs_eq _ _ h]
theorem AV.beqs_eq : ∀ (a b : List AV), AV.beqs a b = true → a = b
  | [], [], _ => rfl
  | a :: l, b :: m, h => by
    simp only [AV.beqs, Bool.and_eq_true] at h
    rw [AV.beq_eq _ _ h.1, AV.beqs_eq _ _ h.2]
  | [], _ :: _, h => by cases h
  | _ :: _, [], h => by cases h
end
theorem esBeq_eq : ∀ {l m : List (AV × AV × Nat)}, esBeq l m = true → l = m
  | [], [], _ => rfl
  | (a, b, c) :: l, (a', b', c') :: m, h => by
    simp only [esBeq, Bool.and_eq_true] at h
    rw [AV.beq_eq _ _ h.1, AV.beq_eq _ _ h.2.1, nbeq h.2.2.1, esBeq_eq h.2.2.2]
  | [], _ :: _, h => by cases h
  | _ :: _, [], h => by cases h
theorem natsBeq_eq : ∀ {l m : List Nat}, natsBeq l m = true → l = m
  | [], [], _ => rfl
  | a :: l, b :: m, h => by
    simp only [natsBeq, Bool.and_eq_true] at h
    rw [nbeq h.1, natsBeq_eq h.2]
  | [], _ :: _, h => by cases h
  | _ :: _, [], h => by cases h
theorem kdBeq_eq {a b : KK} (h : kdBeq a b = true) : a = b := by
  cases a <;> cases b <;> first | rfl | (cases h; done) | skip
  simp only [kdBeq] at h
  rw [kindEq_eq h]
theorem oBeq_eq {a b : Option Nat} (h : oBeq a b = true) : a = b := by
  cases a <;> cases b <;> first | rfl | (cases h; done) | skip
  simp only [oBeq] at h
  rw [nbeq h]
theorem AObj.beq_eq {a b : AObj} (h : AObj.beq a b = true) : a = b := by
  unfold AObj.beq at h
  split at h <;> (try simp only [Bool.and_eq_true] at h)
  · rw [nbeq h.1, AV.beqs_eq _ _ h.2]
  · rw [nbeq h.1, nbeq h.2.1, nbeq h.2.2.1, AV.beqs_eq _ _ h.2.2.2]
  · rw [nbeq h.1, AV.beqs_eq _ _ h.2]
  · rw [AV.beqs_eq _ _ h]
  · rfl
  · rw [kdBeq_eq h.1, nbeq h.2.1, esBeq_eq h.2.2]
  · rw [oBeq_eq h.1, nbeq h.2.1, natsBeq_eq h.2.2.1, nbeq h.2.2.2]
  · rfl
  · rfl
  · rfl
  · cases h
theorem T.beq_eq {α : Type} {f : α → α → Bool} (hf : ∀ a b, f a b = true → a = b) : ∀ {t t' : T α}, T.beq f t t' = true → t = t'
  | .e, .e, _ => rfl
  | .n none l r, .n none l' r', h => by
    simp only [T.beq, Bool.and_eq_true] at h
    rw [T.beq_eq hf h.1, T.beq_eq hf h.2]
  | .n (some (k, a)) l r, .n (some (k', a')) l' r', h => by
    simp only [T.beq, Bool.and_eq_true] at h
    rw [nbeq h.1, hf _ _ h.2.1, T.beq_eq hf h.2.2.1, T.beq_eq hf h.2.2.2]
  | .e, .n _ _ _, h => by cases h
  | .n none _ _, .e, h => by cases h
  | .n (some _) _ _, .e, h => by cases h
  | .n none _ _, .n (some _) _ _, h => by cases h
  | .n (some _) _ _, .n none _ _, h => by cases h
theorem ADef.beq_eq {a b : ADef} (h : ADef.beq a b = true) : a = b := by
  cases a <;> cases b <;> simp only [ADef.beq, Bool.and_eq_true] at h <;> first | (cases h; done) | skip
  · rw [nbeq h.1, AV.beqs_eq _ _ h.2.1, AV.beqs_eq _ _ h.2.2]
  · rw [nbeq h]
theorem dsBeq_eq : ∀ {l m : List ADef}, dsBeq l m = true → l = m
  | [], [], _ => rfl
  | a :: l, b :: m, h => by
    simp only [dsBeq, Bool.and_eq_true] at h
    rw [ADef.beq_eq h.1, dsBeq_eq h.2]
  | [], _ :: _, h => by cases h
  | _ :: _, [], h => by cases h
theorem AS.beq_eq {s s' : AS} (h : AS.beq s s' = true) : s = s' := by
  simp only [AS.beq, Bool.and_eq_true] at h
  obtain ⟨en, h0, n, d⟩ := s
  obtain ⟨en', h0', n', d'⟩ := s'
  have h1 := nbeq h.1
  have h2 := dsBeq_eq h.2.1
  have h3 := T.beq_eq AV.beq_eq h.2.2.1
  have h4 := T.beq_eq (fun _ _ => AObj.beq_eq) h.2.2.2
  simp only at h1 h2 h3 h4
  rw [h1, h2, h3, h4]
theorem eachX_all {go : Nat → Option AS} {sf : AS} : ∀ {l : List Nat}, eachX go l = some sf → ∀ i ∈ l, go i = some sf
  | [], h, _, _ => by cases h
  | [i], h, j, hj => by
    rw [List.mem_singleton.1 hj]; exact h
  | i :: k :: r, h, j, hj => by
    simp only [eachX] at h
    split at h
    case h_2 => cases h
    rename_i s1 h1
    split at h
    case h_2 => cases h
    rename_i s2 h2
    split at h
    case h_2 => cases h
    rename_i hb
    injection h with h
    subst h
    rcases List.mem_cons.1 hj with rfl | hj
    · exact h1
    · rw [AS.beq_eq hb]
      exact eachX_all h2 j hj

section
variable {P : Program} {K : Tl P} {x : Cx} {s s' : AS} {ν ν' : Vl} {a : Act} {w w' : World}
/-- the frame that the activation runs in -/
structure Fr (x : Cx) (ν : Vl) (n : Nat) (b : Frame) : Prop where
  fn : b.fn = x.fn
  ro : b.roundOf = x.r.map fun l => (ν l).block
  ok : ∀ l, x.r = some l → l < n
theorem Fr.same {n m : Nat} {b : Frame} (h : Fr x ν n b) (hs : Vl.Same n ν ν') (hm : n ≤ m) : Fr x ν' m b := by
  refine ⟨h.fn, ?_, fun l hl => Nat.lt_of_lt_of_le (h.ok l hl) hm⟩
  rw [h.ro]
  cases hr : x.r with
  | none => rfl
  | some l => simp only [Option.map_some]; rw [hs l (h.ok l hr)]
variable {ih : Task → Option Res} (hih : Snd K ih)
include hih in
theorem listX_ok {ops : Array Oper} : ∀ (l : List Oper) (j : Nat) {s : AS} {ν : Vl} {a : Act} {w : World}, ops.toList.drop j = l → Rel K x s ν a w → listX K ih x ops.toList l s = some s' →
    ∀ {b : Frame} {k : List Item} {cs : List Frame}, Fr x ν s.n b → ∃ ν' a' w', Vl.Same s.n ν ν' ∧ s.n ≤ s'.n ∧ Rel K x s' ν' a' w' ∧ Steps P (lone (b.atR a (.inRegion ops (List.range' j l.length) :: k)) cs w) (lone (b.atR a' k) cs w')
  | [], j, s, ν, a, w, _, h, hst, b, k, cs, _ => by
    simp only [listX, Option.some.injEq] at hst
    subst hst
    exact ⟨ν, a, w, Vl.Same.refl, Nat.le_refl _, h, .one stepR_region_end⟩
  | o :: l, j, s, ν, a, w, hd, h, hst, b, k, cs, hfr => by
    have ho : ops[j]? = some o := by
      have : (ops.toList.drop j)[0]? = some o := by rw [hd]; rfl
      simpa using this
    have hd' : ops.toList.drop (j + 1) = l := by
      rw [← List.drop_drop, hd]; rfl
    simp only [listX] at hst
    simp only [List.length_cons, List.range'_succ]
    split at hst
    · rename_i hw
      split at hst
      case h_2 => cases hst
      rename_i s1 h1
      obtain ⟨ν1, a1, w1, e1, e2, e3, e4⟩ := stepO_ok hih h h1 hfr.ro (rest := List.range' (j + 1) l.length) (k := k) (cs := cs) ho (want_ok hw h.slots)
      obtain ⟨ν2, a2, w2, f1, f2, f3, f4⟩ := listX_ok l (j + 1) hd' e3 hst (hfr.same e1 e2) (k := k) (cs := cs)
      exact ⟨ν2, a2, w2, e1.trans f1 e2, Nat.le_trans e2 f2, f3, e4.trans f4⟩
    · rename_i hw
      split at hst
      case h_2 => cases hst
      rename_i s1 h1
      obtain ⟨e1, e2, _⟩ := h.put h1
      obtain ⟨ν2, a2, w2, f1, f2, f3, f4⟩ := listX_ok l (j + 1) hd' e1 hst (by rw [e2]; exact hfr) (k := k) (cs := cs)
      rw [e2] at f1 f2
      have hs := stepR_op_skip (P := P) (b := b) (a := a) (k := k) (cs := cs) (w := w) (ops := ops) (i := j) (rest := List.range' (j + 1) l.length) (by simp [ho, want_ok hw h.slots])
      simp only [ho, Option.bind_some] at hs
      exact ⟨ν2, a2, w2, f1, f2, f3, .head hs f4⟩
    · cases hst

/-! ### regions that draw -/
theorem firstV_spec {tab : TyTab P} {F : T (FnP P)} {G : Nat → Option Nat} {X : Nat → Option (List AV → Heap → Nat → Option (AV × Heap × Nat))} {env : T AV} {h : Heap} {ops : List Oper} {i : Nat} {o : Oper} {v : AV} {rd : Option Nat} :
    ∀ {rs : List Nat}, firstV ⟨tab, G, F, X⟩ env h ops rs = some (i, o, v, rd) → i ∈ rs ∧ ops[i]? = some o ∧ ((wantO env ops o = some true ∧ vop tab.tab G env h o.op = some (v, rd)) ∨ (wantO env ops o = some false ∧ v = undA ∧ rd = none))
  | [], hf => by cases hf
  | j :: r, hf => by
    simp only [firstV] at hf
    split at hf
    case h_2 => cases hf
    rename_i o1 ho
    split at hf
    · rename_i hw
      split at hf
      · rename_i v1 rd1 hv
        injection hf with hf
        cases hf
        exact ⟨List.mem_cons_self .., ho, .inl ⟨hw, hv⟩⟩
      · obtain ⟨h1, h2⟩ := firstV_spec hf
        exact ⟨List.mem_cons_of_mem _ h1, h2⟩
    · rename_i hw
      injection hf with hf
      cases hf
      exact ⟨List.mem_cons_self .., ho, .inr ⟨hw, rfl, rfl⟩⟩
    · cases hf
/-- the facts of what lies in memory carry back -/
def Back (h : Heap) (ν ν' : Vl) : Prop := ∀ i o, h.at i = some o → ∀ w, o.fact ν' i w → o.fact ν i w
theorem back_same {n : Nat} {h : Heap} (hm : HOk n h) (hs : Vl.Same n ν ν') : Back h ν ν' := fun i o ho w hf => by
  have := hm (i, o) (T.get_mem _ _ _ _ ho)
  rwa [fact_agrees (agrees_same hs) (hs i this.1).symm (by rw [okB_all]; exact this.2.1)] at hf
theorem back_off {id : Nat} (hno : s.noB id = true) (ho : Off id ν ν') : Back s.h ν ν' := fun i o hi w hf => by
  simp only [AS.noB, Bool.and_eq_true] at hno
  have := T.all_mem hno.2.2 _ (T.get_mem _ _ _ _ hi)
  simp only [Bool.and_eq_true] at this
  rwa [fact_agrees (agrees_off ho) (ho i (no_ne this.1)) (by rw [noB_all]; exact this.2)] at hf
include hih in
/-- ONE OPERATION, IN A REGION THAT DRAWS. -/
theorem stepN_ok {ops : Array Oper} {i base : Nat} {multi : Bool} {Φ : Act → World → Prop} {o : Oper} (h : Rel K x s ν a w) (hst : stepN K ih x multi (base + i) o s = some s') (ho : ops[i]? = some o) (hw : Region.wanted o (yielded ops a.tmps) = true)
    (hb : base ≤ s.n) (hG : ∀ g i, K.G g = some i → i < base) {Kt : Act → World → Prop}
    (hk : ∀ ν' a' w', Vl.Same base ν ν' → s.n ≤ s'.n → Rel K x s' ν' a' w' → Back s.h ν ν' → Kt a' w') : wpOp P ops (Nrm Φ) i Kt a w := by
  unfold wpOp
  simp only [ho, hw, if_true]
  left
  unfold Oper.wp
  obtain ⟨dst, op, ty, pos, af, gu⟩ := o
  have G : ∀ {s0 : AS}, stepN.stepG K ih x ⟨dst, op, ty, pos, af, gu⟩ s = some s0 → s0 = s' → Oper.upon P ⟨dst, op, ty, pos, af, gu⟩ a Kt (Nrm Φ) ((execOp a.eval ⟨dst, op, ty, pos, af, gu⟩).run P w) := by
    intro s0 hq e
    rw [e] at hq
    unfold stepN.stepG at hq
    split at hq
    case h_2 => cases hq
    rename_i f args hgo
    split at hq
    case h_2 => cases hq
    rename_i r hr
    obtain ⟨g1, g2, g3⟩ := goes_fn (dst := dst) (ty := ty) (pos := pos) (af := af) (gu := gu) hgo h
    have hc := hih.call hr h.mem h.glob g3
    rw [g2]
    rcases hc with ⟨v, w', h1, h2⟩ | ⟨h1, h2⟩
    · rw [h1]
      obtain ⟨ν', e1, e2, e3, rfl⟩ := Left.rel (n := 0) h2 h
      obtain ⟨p1, p2, _⟩ := e3.put hq
      exact hk ν' _ w' (fun j hj => e1 j (Nat.lt_of_lt_of_le hj hb)) (by rw [p2]; exact e2) p1 (back_same h.mem.ok e1)
    · rw [h1]
      intro cs
      obtain ⟨fr, w', v, h3, h4, h5, h6, h7, h8, fn, h9, h10⟩ := h2 .normal cs
      obtain ⟨ν', e1, e2, e3, rfl⟩ := Left.rel (n := 0) h3 h
      obtain ⟨p1, p2, _⟩ := e3.put hq
      exact ⟨.returned (r.v.val ν'), w', fr, hk ν' _ w' (fun j hj => e1 j (Nat.lt_of_lt_of_le hj hb)) (by rw [p2]; exact e2) p1 (back_same h.mem.ok e1), h4, h8, h5, h6, h7, fn, by rw [h8]; exact h9, h10⟩
  unfold stepN at hst
  split at hst
  · rename_i av rd hv
    obtain ⟨h1, h2, h3, _⟩ := h.put hst
    have hrun := vop_ok K.Ty h.slots h.gok h.mem.stat (w := w) (dst := dst) (ty := ty) (pos := pos) (af := af) (gu := gu) hv (fun i o _ ho => h.mem.fact ho)
    rw [hrun]
    exact hk ν _ w Vl.Same.refl (by rw [h2]; exact Nat.le_refl _) h1 (fun _ _ _ _ hf => hf)
  · split at hst
    · split at hst
      · rename_i r h' he
        obtain ⟨ν', w', e1, e2, e3⟩ := eff_ok K.Ty h.slots h.gok h.mem (Nat.le_succ _) h.fresh (dst := dst) (ty := ty) (pos := pos) (af := af) (gu := gu) he
        have hsame := off_same e1 (Nat.le_refl _)
        obtain ⟨h1, h2, _⟩ := (h.turn hsame (Nat.le_succ _) e3).put hst
        rw [e2]
        exact hk ν' _ w' (fun j hj => hsame j (Nat.lt_of_lt_of_le hj hb)) (by rw [h2]; exact Nat.le_succ _) h1 (back_same h.mem.ok hsame)
      · rename_i h' he
        cases dst with
        | some d => cases hst
        | none =>
        injection hst with hst
        subst hst
        obtain ⟨ν', w', e1, e2, e3⟩ := eff_ok K.Ty h.slots h.gok h.mem (Nat.le_succ _) h.fresh (dst := none) (ty := ty) (pos := pos) (af := af) (gu := gu) he
        have hsame := off_same e1 (Nat.le_refl _)
        rw [e2]
        exact hk ν' _ w' (fun j hj => hsame j (Nat.lt_of_lt_of_le hj hb)) (Nat.le_succ _) (h.turn hsame (Nat.le_succ _) e3) (back_same h.mem.ok hsame)
      · exact G hst rfl
    · split at hst
      · rename_i r h' he
        split at hst
        case h_2 => cases hst
        rename_i hno
        have hg : ∀ g j, K.G g = some j → j ≠ base + i := fun g j hj => by have := hG g j hj; omega
        obtain ⟨ν', w', e1, e2, e3⟩ := eff_ok K.Ty h.slots h.gok h.mem (Nat.le_refl _) (h.freshNo hno hg) (dst := dst) (ty := ty) (pos := pos) (af := af) (gu := gu) he
        obtain ⟨h1, h2, _⟩ := (h.off e1 hno hg e3).put hst
        rw [e2]
        exact hk ν' _ w' (off_same e1 (Nat.le_add_right _ _)) (by rw [h2]; exact Nat.le_refl _) h1 (back_off hno e1)
      · rename_i h' he
        cases dst with
        | some d => cases hst
        | none =>
        cases hno : s.noB (base + i) with
        | false => rw [hno] at hst; cases hst
        | true =>
        rw [hno] at hst
        injection hst with hst
        subst hst
        have hg : ∀ g j, K.G g = some j → j ≠ base + i := fun g j hj => by have := hG g j hj; omega
        obtain ⟨ν', w', e1, e2, e3⟩ := eff_ok K.Ty h.slots h.gok h.mem (Nat.le_refl _) (h.freshNo hno hg) (dst := none) (ty := ty) (pos := pos) (af := af) (gu := gu) he
        rw [e2]
        exact hk ν' _ w' (off_same e1 (Nat.le_add_right _ _)) (Nat.le_refl _) (h.off e1 hno hg e3) (back_off hno e1)
      · exact G hst rfl
end
end Go.Ex
