/-
  The runner is right: what the names say of memory.
-/
import Derived.Test.YtkoojoeimdfkgaaGreatDoorExC
namespace Go.Ex
open Go Go.RowKit Go.Sx

def ents (ν : Vl) : List (AV × AV × Nat) → List MapEntry
  | [] => []
  | (k, v, b) :: l => { key := k.val ν, val := v.val ν, born := b } :: ents ν l
def Slots (ν : Vl) (env : T AV) (tmps : Array Value) : Prop := ∀ t v, env.get t t = some v → tmps[t]? = some (v.val ν)

/-- what is so of a place in memory -/
def AObj.fact (ν : Vl) (i : Nat) (w : World) : AObj → Prop
  | .cel e l => ∃ b, ν i = .blk b ∧ w.heap[b]? = some (.cells (AV.vals ν l).toArray e (0, 0))
  | .fz e l => ∃ b lo hi, ν i = .blk b ∧ w.heap[b]? = some (.cells (AV.vals ν l).toArray e (lo, hi))
  | .own e size n l => ∃ A c, ν i = .sl A c ∧ w.ownsRow 0 e size (.slice A n c) n (AV.vals ν l)
  | .rd l => ∃ A c, ν i = .sl A c ∧ l.length ≤ c ∧ Rd A (AV.vals ν l) w
  | .emp => ∃ A c, ν i = .sl A c ∧ A.isSome = true
  | .map kd es clock => ∃ b, ν i = .blk b ∧ w.heap[b]? = some (.map (ents ν es).toArray clock)
  | .mapIter m since seen stepped => ∃ b, ν i = .blk b ∧ w.heap[b]? = some (.mapIter (m.map fun j => (ν j).block) since seen.toArray stepped)
  | .dfr => ∃ b, ν i = .blk b ∧ w.heap[b]? = some (.deferred (some []))
  | .loop st pend fn nt env ps assign body d => ∃ b tmps, ν i = .blk b ∧ w.heap[b]? = some (.loop { state := st, pending := pend, fn := fn, tmps := tmps, params := ps.toArray, assign := assign, body := body, defers := (ν d).block }) ∧ tmps.size = nt ∧ Slots ν env tmps
  | .fr => True
  | .dead => True
def AObj.foot (ν : Vl) (i : Nat) (S : Nat → Prop) : AObj → Prop
  | .rd _ => ∀ k, ¬ S k
  | .emp => ∀ k, ¬ S k
  | .dead => ∀ k, ¬ S k
  | .fz _ _ => ∀ k, ¬ S k
  | .own _ _ _ _ => ∀ ad, (ν i).adr = some ad → S ad.block
  | _ => ∀ b, ν i = .blk b → S b
def chunk (ν : Vl) (i : Nat) : AObj → Chunk
  | .fr => match ν i with
    | .chunk c => c
    | _ => fun _ _ => False
  | o => fun S w => o.foot ν i S ∧ o.fact ν i w
def chunks (ν : Vl) (l : List (Nat × AObj)) : List Chunk := l.map fun x => chunk ν x.1 x.2

theorem chunk_fact {ν : Vl} {i : Nat} {o : AObj} {S : Nat → Prop} {w : World} (h : chunk ν i o S w) : o.fact ν i w := by
  cases o <;> first | exact h.2 | trivial

/-! ### the same, off a name -/
/-- ν' is ν but at i -/
def Off (i : Nat) (ν ν' : Vl) : Prop := ∀ j, j ≠ i → ν' j = ν j
theorem no_ne {j i : Nat} (h : (!Nat.beq j i) = true) : j ≠ i := by
  intro e
  subst e
  simp at h
mutual
theorem AV.val_off {i : Nat} {ν ν' : Vl} (h : Off i ν ν') : ∀ (a : AV), a.noB i = true → a.val ν' = a.val ν
  | .v _, _ => rfl
  | .str _, _ => rfl
  | .ptr j _, ho => by simp only [AV.val]; rw [h j (no_ne ho)]
  | .sl j _ _ _ _, ho => by simp only [AV.val]; rw [h j (no_ne ho)]
  | .map j, ho => by simp only [AV.val]; rw [h j (no_ne ho)]
  | .yield j, ho => by simp only [AV.val]; rw [h j (no_ne ho)]
  | .opq j, ho => by simp only [AV.val]; rw [h j (no_ne ho)]
  | .func _ a c, ho => by
    simp only [AV.noB, Bool.and_eq_true] at ho
    simp only [AV.val, AV.vals_off h a ho.1, AV.vals_off h c ho.2]
  | .iface _ x, ho => by simp only [AV.val]; rw [AV.val_off h x ho]
  | .agg l, ho => by simp only [AV.val]; rw [AV.vals_off h l ho]
  | .tup l, ho => by simp only [AV.val]; rw [AV.vals_off h l ho]
theorem AV.vals_off {i : Nat} {ν ν' : Vl} (h : Off i ν ν') : ∀ (l : List AV), AV.nosB i l = true → AV.vals ν' l = AV.vals ν l
  | [], _ => rfl
  | a :: l, ho => by
    simp only [AV.nosB, Bool.and_eq_true] at ho
    simp only [AV.vals, AV.val_off h a ho.1, AV.vals_off h l ho.2]
end
theorem T.all_mem {α : Type} {f : Nat → α → Bool} : ∀ {t : T α}, T.all f t = true → ∀ x ∈ t.toL, f x.1 x.2 = true
  | .e, _, _, h => by simp [T.toL] at h
  | .n none l r, ho, x, h => by
    simp only [T.all, Bool.and_eq_true] at ho
    simp only [T.toL, Option.toList, List.nil_append, List.mem_append] at h
    rcases h with h | h
    · exact T.all_mem ho.1 x h
    · exact T.all_mem ho.2 x h
  | .n (some (k, a)) l r, ho, x, h => by
    simp only [T.all, Bool.and_eq_true] at ho
    simp only [T.toL, Option.toList, List.mem_append, List.mem_cons, List.not_mem_nil, or_false] at h
    rcases h with h | rfl | h
    · exact T.all_mem ho.2.1 x h
    · exact ho.1
    · exact T.all_mem ho.2.2 x h
theorem T.all_of {α : Type} {f : Nat → α → Bool} : ∀ {t : T α}, (∀ x ∈ t.toL, f x.1 x.2 = true) → T.all f t = true
  | .e, _ => rfl
  | .n none l r, h => by
    simp only [T.all, Bool.and_eq_true]
    exact ⟨T.all_of fun x hx => h x (by simp [T.toL, hx]), T.all_of fun x hx => h x (by simp [T.toL, hx])⟩
  | .n (some (k, a)) l r, h => by
    simp only [T.all, Bool.and_eq_true]
    exact ⟨h (k, a) (by simp [T.toL]), T.all_of fun x hx => h x (by simp [T.toL, hx]), T.all_of fun x hx => h x (by simp [T.toL, hx])⟩

/-- two readings that agree on what is in it -/
structure Agrees (f : AV → Bool) (g : Nat → Bool) (ν ν' : Vl) : Prop where
  val : ∀ a, f a = true → a.val ν' = a.val ν
  ent : ∀ j, g j = true → ν' j = ν j
def esAll (f : AV → Bool) : List (AV × AV × Nat) → Bool
  | [] => true
  | (a, b, _) :: l => f a && (f b && esAll f l)
def avAll (f : AV → Bool) : List AV → Bool
  | [] => true
  | a :: l => f a && avAll f l
def AObj.allB (f : AV → Bool) (g : Nat → Bool) : AObj → Bool
  | .cel _ l => avAll f l
  | .own _ _ _ l => avAll f l
  | .fz _ l => avAll f l
  | .rd l => avAll f l
  | .emp => true
  | .map _ es _ => esAll f es
  | .mapIter m _ _ _ => match m with
    | some j => g j
    | none => true
  | .dfr => true
  | .loop _ _ _ _ env _ _ _ d => T.all (fun _ a => f a) env && g d
  | .fr => true
  | .dead => true
theorem avAll_vals {f : AV → Bool} {g : Nat → Bool} {ν ν' : Vl} (h : Agrees f g ν ν') : ∀ {l : List AV}, avAll f l = true → AV.vals ν' l = AV.vals ν l
  | [], _ => rfl
  | a :: l, ho => by
    simp only [avAll, Bool.and_eq_true] at ho
    simp only [AV.vals, h.val a ho.1, avAll_vals h ho.2]
theorem esAll_ents {f : AV → Bool} {g : Nat → Bool} {ν ν' : Vl} (h : Agrees f g ν ν') : ∀ {l : List (AV × AV × Nat)}, esAll f l = true → ents ν' l = ents ν l
  | [], _ => rfl
  | (a, b, _) :: l, ho => by
    simp only [esAll, Bool.and_eq_true] at ho
    simp only [ents, h.val a ho.1, h.val b ho.2.1, esAll_ents h ho.2.2]
theorem slots_agrees {f : AV → Bool} {g : Nat → Bool} {ν ν' : Vl} (h : Agrees f g ν ν') {env : T AV} {tmps : Array Value} (ho : T.all (fun _ a => f a) env = true) : Slots ν' env tmps = Slots ν env tmps := by
  unfold Slots
  apply propext
  constructor
  · intro hs t v hv
    rw [hs t v hv, h.val v (T.all_mem ho _ (T.get_mem _ _ _ _ hv))]
  · intro hs t v hv
    rw [hs t v hv, h.val v (T.all_mem ho _ (T.get_mem _ _ _ _ hv))]
theorem fact_agrees {f : AV → Bool} {g : Nat → Bool} {ν ν' : Vl} (h : Agrees f g ν ν') {i : Nat} (hi : ν' i = ν i) {o : AObj} (ho : o.allB f g = true) (w : World) : o.fact ν' i w = o.fact ν i w := by
  cases o with
  | cel e l => simp only [AObj.fact, hi, avAll_vals h ho]
  | own e s n l => simp only [AObj.fact, hi, avAll_vals h ho]
  | fz e l => simp only [AObj.fact, hi, avAll_vals h ho]
  | rd l => simp only [AObj.fact, hi, avAll_vals h ho]
  | emp => simp only [AObj.fact, hi]
  | map kd es c => simp only [AObj.fact, hi, esAll_ents h ho]
  | mapIter m a b c =>
    cases m with
    | none => simp only [AObj.fact, hi, Option.map_none]
    | some j => simp only [AObj.fact, hi, Option.map_some, h.ent j ho]
  | dfr => simp only [AObj.fact, hi]
  | loop st pend fn nt env ps assign body d =>
    simp only [AObj.allB, Bool.and_eq_true] at ho
    simp only [AObj.fact, hi, h.ent d ho.2, slots_agrees h ho.1]
  | fr => rfl
  | dead => rfl
theorem foot_agrees {ν ν' : Vl} {i : Nat} (hi : ν' i = ν i) (o : AObj) (S : Nat → Prop) : o.foot ν' i S = o.foot ν i S := by
  cases o <;> simp only [AObj.foot, hi]
theorem chunk_agrees {f : AV → Bool} {g : Nat → Bool} {ν ν' : Vl} (h : Agrees f g ν ν') {i : Nat} (hi : ν' i = ν i) {o : AObj} (ho : o.allB f g = true) : chunk ν' i o = chunk ν i o := by
  cases o with
  | fr => simp only [chunk, hi]
  | _ => all_goals (funext S w; simp only [chunk]; rw [fact_agrees h hi ho, foot_agrees hi])

theorem avAll_oks {n : Nat} : ∀ l, avAll (AV.okB n) l = AV.oksB n l
  | [] => rfl
  | a :: l => by simp only [avAll, AV.oksB, avAll_oks l]
theorem esAll_ok {n : Nat} : ∀ l, esAll (AV.okB n) l = esOk n l
  | [] => rfl
  | (a, b, _) :: l => by simp only [esAll, esOk, esAll_ok l]
theorem avAll_nos {i : Nat} : ∀ l, avAll (AV.noB i) l = AV.nosB i l
  | [] => rfl
  | a :: l => by simp only [avAll, AV.nosB, avAll_nos l]
theorem esAll_no {i : Nat} : ∀ l, esAll (AV.noB i) l = esNo i l
  | [] => rfl
  | (a, b, _) :: l => by simp only [esAll, esNo, esAll_no l]
theorem okB_all {n : Nat} (o : AObj) : o.allB (AV.okB n) (fun j => Nat.blt j n) = o.okB n := by
  cases o <;> simp only [AObj.allB, AObj.okB, avAll_oks, esAll_ok] <;> (rename_i m _ _ _; cases m <;> rfl)
theorem noB_all {i : Nat} (o : AObj) : o.allB (AV.noB i) (fun j => !Nat.beq j i) = o.noB i := by
  cases o <;> simp only [AObj.allB, AObj.noB, avAll_nos, esAll_no] <;> (rename_i m _ _ _; cases m <;> rfl)
theorem agrees_same {n : Nat} {ν ν' : Vl} (h : Vl.Same n ν ν') : Agrees (AV.okB n) (fun j => Nat.blt j n) ν ν' := ⟨fun a ha => AV.val_same h a ha, fun j hj => (h j (blt_lt hj)).symm⟩
theorem agrees_off {i : Nat} {ν ν' : Vl} (h : Off i ν ν') : Agrees (AV.noB i) (fun j => !Nat.beq j i) ν ν' := ⟨fun a ha => AV.val_off h a ha, fun j hj => h j (no_ne hj)⟩

/-! ### order of chunks does not matter -/
theorem ent_swap {a b : Chunk} {L : List Chunk} : Ent (a :: b :: L) (b :: a :: L) := ent_cons (pick_there pick_here) ent_refl
theorem ent_perm {L L' : List Chunk} (h : L.Perm L') : Ent L L' := by
  induction h with
  | nil => exact ent_refl
  | cons a _ ih => exact ent_keep ih
  | swap a b L => exact ent_swap
  | trans _ _ ih1 ih2 => exact ent_trans ih1 ih2
theorem satA_mem {M : Nat → Prop} {w : World} {c : Chunk} : ∀ {L : List Chunk} {A : Nat → Prop}, SatA M w A L → c ∈ L → ∃ S, c S w
  | d :: L, A, ⟨S, _, h2, h3⟩, hm => by
    rcases List.mem_cons.1 hm with rfl | hm
    · exact ⟨S, h2.now⟩
    · exact satA_mem h3 hm
theorem sat_mem {w : World} {c : Chunk} {L : List Chunk} (h : Sat w L) (hm : c ∈ L) : ∃ S, c S w := by
  obtain ⟨M, _, hs⟩ := h
  exact satA_mem hs hm

/-! ### the heap -/
/-- the names in it are less than n -/
def HOk (n : Nat) (h : Heap) : Prop := ∀ x ∈ h.toL, x.1 < n ∧ x.2.okB n = true ∧ x.2.keysB = true
theorem okO_le {n m : Nat} (h : n ≤ m) {o : AObj} (ho : o.okB n = true) : o.okB m = true := by
  have av : ∀ {l : List AV}, AV.oksB n l = true → AV.oksB m l = true := fun hl => AV.oksB_le h _ hl
  have es : ∀ {l : List (AV × AV × Nat)}, esOk n l = true → esOk m l = true := by
    intro l
    induction l with
    | nil => exact fun _ => rfl
    | cons x l ih =>
      obtain ⟨a, b, c⟩ := x
      intro hl
      simp only [esOk, Bool.and_eq_true] at hl ⊢
      exact ⟨AV.okB_le h a hl.1, AV.okB_le h b hl.2.1, ih hl.2.2⟩
  cases o with
  | cel e l => exact av ho
  | own e s n l => exact av ho
  | fz e l => exact av ho
  | rd l => exact av ho
  | map kd l c => exact es ho
  | mapIter mm a b c =>
    cases mm with
    | none => rfl
    | some j => exact lt_blt (Nat.lt_of_lt_of_le (blt_lt ho) h)
  | loop st pend fn nt env ps assign body d =>
    simp only [AObj.okB, Bool.and_eq_true] at ho ⊢
    exact ⟨T.all_of fun x hx => AV.okB_le h _ (T.all_mem ho.1 x hx), lt_blt (Nat.lt_of_lt_of_le (blt_lt ho.2) h)⟩
  | emp => rfl
  | dfr => rfl
  | fr => rfl
  | dead => rfl
theorem HOk.le {n m : Nat} {h : Heap} (hk : HOk n h) (hm : n ≤ m) : HOk m h := fun x hx => ⟨Nat.lt_of_lt_of_le (hk x hx).1 hm, okO_le hm (hk x hx).2.1, (hk x hx).2.2⟩

theorem T.upd_get {α : Type} : ∀ (f : Nat) (t t' : T α) (p k : Nat) (a : α) (o : Option α), T.upd f t p k a = some (t', o) → t.get p k = o
  | 0, _, _, _, _, _, _, h => by simp [T.upd] at h
  | f + 1, t, t', p, k, a, o, h => by
    cases t with
    | e =>
      cases p with
      | zero =>
        simp only [T.upd, Option.some.injEq, Prod.mk.injEq] at h
        exact h.2
      | succ p =>
        simp only [T.upd] at h
        split at h
        case h_2 => cases h
        rename_i t1 o1 h1
        have := T.upd_get f _ _ _ _ _ _ h1
        simp only [T.get] at this
        split at h
        · simp only [Option.some.injEq, Prod.mk.injEq] at h
          exact this.trans h.2
        · simp only [Option.some.injEq, Prod.mk.injEq] at h
          exact this.trans h.2
    | n v l r =>
      cases p with
      | zero =>
        cases v with
        | none =>
          simp only [T.upd, Option.some.injEq, Prod.mk.injEq] at h
          exact h.2
        | some x =>
          obtain ⟨k', a'⟩ := x
          simp only [T.upd] at h
          simp only [T.get]
          cases hb : Nat.beq k' k with
          | true =>
            rw [hb] at h
            simp only [Option.some.injEq, Prod.mk.injEq] at h
            exact h.2
          | false => rw [hb] at h; cases h
      | succ p =>
        simp only [T.upd] at h
        simp only [T.get]
        cases hb : Nat.beq (p % 2) 0 with
        | true =>
          rw [hb] at h
          simp only at h
          split at h
          case h_2 => cases h
          rename_i t1 o1 h1
          simp only [Option.some.injEq, Prod.mk.injEq] at h
          rw [← h.2]
          exact T.upd_get f _ _ _ _ _ _ h1
        | false =>
          rw [hb] at h
          simp only at h
          split at h
          case h_2 => cases h
          rename_i t1 o1 h1
          simp only [Option.some.injEq, Prod.mk.injEq] at h
          rw [← h.2]
          exact T.upd_get f _ _ _ _ _ _ h1

theorem Heap.set_spec {h h' : Heap} {nb i : Nat} {o : AObj} (hs : h.set nb i o = some h') : (o.okB nb = true ∧ o.keysB = true) ∧ ∃ o1 R, h.at i = some o1 ∧ h.toL.Perm ((i, o1) :: R) ∧ h'.toL.Perm ((i, o) :: R) := by
  unfold Heap.set at hs
  split at hs
  case h_2 => cases hs
  rename_i hk
  simp only [Bool.and_eq_true] at hk
  split at hs
  case h_2 => cases hs
  rename_i h1 o1 hu
  injection hs with hs
  subst hs
  obtain ⟨l1, l2, e1, e2⟩ := T.toL_upd _ _ _ _ _ _ _ hu
  refine ⟨hk, o1, l1 ++ l2, T.upd_get _ _ _ _ _ _ _ hu, ?_, ?_⟩
  · rw [e1]; exact List.perm_middle
  · rw [e2]; exact List.perm_middle
theorem Heap.new_spec {h h' : Heap} {nb i : Nat} {o : AObj} (hs : h.new nb i o = some h') : (o.okB nb = true ∧ o.keysB = true) ∧ i < nb ∧ h'.toL.Perm ((i, o) :: h.toL) := by
  unfold Heap.new at hs
  split at hs
  case h_2 => cases hs
  rename_i hk
  simp only [Bool.and_eq_true] at hk
  split at hs
  case h_2 => cases hs
  rename_i h1 hu
  injection hs with hs
  subst hs
  obtain ⟨l1, l2, e1, e2⟩ := T.toL_upd _ _ _ _ _ _ _ hu
  refine ⟨hk.1, blt_lt hk.2, ?_⟩
  rw [e2, e1]
  exact List.perm_middle
theorem chunks_perm {ν : Vl} {l l' : List (Nat × AObj)} (h : l.Perm l') : (chunks ν l).Perm (chunks ν l') := h.map _

/-- memory is as the names say -/
structure Mem (ν : Vl) (n : Nat) (h : Heap) (w : World) : Prop where
  sat : Sat w (chunks ν h.toL)
  ok : HOk n h

theorem Mem.fact {ν : Vl} {n : Nat} {h : Heap} {w : World} (hm : Mem ν n h w) {i : Nat} {o : AObj} (ho : h.at i = some o) : o.fact ν i w := by
  obtain ⟨S, hS⟩ := sat_mem (c := chunk ν i o) hm.sat (List.mem_map.2 ⟨(i, o), T.get_mem _ _ _ _ ho, rfl⟩)
  exact chunk_fact hS
/-- what of a heap needs no world -/
structure Stat (ν : Vl) (h : Heap) : Prop where
  blk : ∀ i o, h.at i = some o → o.isBlk = true → ∃ b, ν i = .blk b
  keys : ∀ i o, h.at i = some o → o.keysB = true
theorem Mem.stat {ν : Vl} {n : Nat} {h : Heap} {w : World} (hm : Mem ν n h w) : Stat ν h := by
  refine ⟨fun i o ho hb => ?_, fun i o ho => (hm.ok (i, o) (T.get_mem _ _ _ _ ho)).2.2⟩
  have hf := hm.fact ho
  cases o <;> first | (cases hb; done) | skip
  · obtain ⟨b, h, _⟩ := hf; exact ⟨b, h⟩
  · obtain ⟨b, _, _, h, _⟩ := hf; exact ⟨b, h⟩
  · obtain ⟨b, h, _⟩ := hf; exact ⟨b, h⟩
theorem Mem.le {ν : Vl} {n m : Nat} {h : Heap} {w : World} (hm : Mem ν n h w) (hn : n ≤ m) : Mem ν m h w := ⟨hm.sat, hm.ok.le hn⟩
theorem chunks_same {n : Nat} {ν ν' : Vl} (hs : Vl.Same n ν ν') {l : List (Nat × AObj)} (hl : ∀ x ∈ l, x.1 < n ∧ x.2.okB n = true ∧ x.2.keysB = true) : chunks ν' l = chunks ν l := by
  unfold chunks
  apply List.map_congr_left
  intro x hx
  obtain ⟨h1, h2, _⟩ := hl x hx
  exact chunk_agrees (agrees_same hs) (hs _ h1).symm (by rw [okB_all]; exact h2)
theorem Mem.same {n : Nat} {ν ν' : Vl} {h : Heap} {w : World} (hm : Mem ν n h w) (hs : Vl.Same n ν ν') : Mem ν' n h w := ⟨by rw [chunks_same hs hm.ok]; exact hm.sat, hm.ok⟩
theorem Mem.drew {ν : Vl} {n : Nat} {h : Heap} {w : World} (hm : Mem ν n h w) : Mem ν n h { w with drawn := w.drawn + 1 } := ⟨hm.sat.drew, hm.ok⟩
end Go.Ex
