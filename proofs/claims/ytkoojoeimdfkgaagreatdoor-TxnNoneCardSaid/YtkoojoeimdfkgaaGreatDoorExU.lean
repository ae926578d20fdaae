/-
  The runner is right: regions that draw.
-/
import Derived.Test.YtkoojoeimdfkgaaGreatDoorExS
namespace Go.Ex
open Go Go.RowKit Go.Sx

section
variable {P : Program} {K : Tl P} {x : Cx} {ν ν' : Vl} {a : Act} {w w' : World}
/-- what is held, told by what the runner holds -/
def HRel (ν : Vl) (h : Heap) (H : Held) (held : List (Nat × Nat)) : Prop := ∀ p ∈ H, (∀ w, p.2 w) ∨ ∃ id o, (p.1, id) ∈ held ∧ h.at id = some o ∧ ∀ w, o.fact ν id w → p.2 w
theorem HRel.now {h : Heap} {H : Held} {held : List (Nat × Nat)} {n : Nat} (hr : HRel ν h H held) (hm : Mem ν n h w) : ∀ p ∈ H, p.2 w := fun p hp => by
  rcases hr p hp with h1 | ⟨id, o, _, h2, h3⟩
  · exact h1 w
  · exact h3 w (hm.fact h2)
theorem waits_eq {ops : List Oper} {o : Oper} {j i : Nat} (ho : ops[j]? = some o) : waitsN .any ops.toArray j i = waitsFor o i := by
  unfold waitsN waitsFor
  simp [ho]
theorem mem_heldBy {o : Oper} {p : Nat × Nat} : ∀ {l : List (Nat × Nat)}, p ∈ l → waitsFor o p.1 = false → p ∈ heldBy o l
  | [], h, _ => by cases h
  | (i, k) :: r, h, hw => by
    simp only [heldBy]
    rcases List.mem_cons.1 h with rfl | h
    · simp only at hw
      rw [hw]
      exact List.mem_cons_self ..
    · split
      · exact mem_heldBy h hw
      · exact List.mem_cons_of_mem _ (mem_heldBy h hw)
theorem sameHeld_at {h h' : Heap} : ∀ {l : List (Nat × Nat)}, sameHeld h h' l = true → ∀ p ∈ l, ∀ o, h.at p.2 = some o → h'.at p.2 = some o
  | [], _, _, hp => by cases hp
  | (i, k) :: r, hs, p, hp => by
    intro o ho
    simp only [sameHeld] at hs
    split at hs
    case h_2 => cases hs
    rename_i o1 o2 h1 h2
    simp only [Bool.and_eq_true] at hs
    rcases List.mem_cons.1 hp with rfl | hp
    · simp only at ho ⊢
      rw [h1] at ho
      injection ho with ho
      subst ho
      rw [h2, AObj.beq_eq hs.1]
    · exact sameHeld_at hs.2 p hp o ho
theorem HRel.keep {ops : List Oper} {o : Oper} {j : Nat} {h h' : Heap} {H : Held} {held : List (Nat × Nat)} (hr : HRel ν h H held) (ho : ops[j]? = some o) (hs : sameHeld h h' (heldBy o held) = true) (hb : Back h ν ν') :
    HRel ν' h' (keepH .any ops.toArray j H) (heldBy o held) := fun p hp => by
  obtain ⟨hp, hw⟩ := List.mem_filter.1 hp
  rw [waits_eq ho] at hw
  have hw : waitsFor o p.1 = false := by simpa using hw
  rcases hr p hp with h1 | ⟨id, ob, h1, h2, h3⟩
  · exact .inl h1
  · have hm := mem_heldBy h1 hw
    exact .inr ⟨id, ob, hm, sameHeld_at hs _ hm _ h2, fun w hf => h3 w (hb id ob h2 w hf)⟩
theorem HRel.keep0 {ops : List Oper} {o : Oper} {j : Nat} {h : Heap} {H : Held} {held : List (Nat × Nat)} (hr : HRel ν h H held) (ho : ops[j]? = some o) :
    HRel ν h (keepH .any ops.toArray j H) (heldBy o held) := fun p hp => by
  obtain ⟨hp, hw⟩ := List.mem_filter.1 hp
  rw [waits_eq ho] at hw
  have hw : waitsFor o p.1 = false := by simpa using hw
  rcases hr p hp with h1 | ⟨id, ob, h1, h2, h3⟩
  · exact .inl h1
  · exact .inr ⟨id, ob, mem_heldBy h1 hw, h2, h3⟩

variable {ih : Task → Option Res}
theorem drawX_pos {ops : List Oper} {base f : Nat} {multi : Bool} {held : List (Nat × Nat)} {ls : List Bool} {s sf : AS} (h : drawX K ih x ops base f multi held ls s = some sf) : ∃ f', f = f' + 1 := by
  cases f with
  | zero => cases h
  | succ f => exact ⟨f, rfl⟩
theorem wpOp_unwanted {ops : Array Oper} {Q : Exit → Act → World → Prop} {i : Nat} {o : Oper} {Kt : Act → World → Prop} (ho : ops[i]? = some o) (hw : Region.wanted o (yielded ops a.tmps) = false) (h : Kt (a.put o.dst undef) w) : wpOp P ops Q i Kt a w := by
  unfold wpOp
  simp only [ho, hw, Bool.false_eq_true, if_false]
  exact h
/-- the end of the region -/
def Fin (K : Tl P) (x : Cx) (sf : AS) (base : Nat) (ν0 : Vl) : Act → World → Prop := fun a w => ∃ ν', Vl.Same base ν0 ν' ∧ base ≤ sf.n ∧ Rel K x sf ν' a w
variable (hih : Snd K ih)
include hih in
theorem drawX_ok {ops : List Oper} {base : Nat} {sf : AS} {ν0 : Vl} (hns : noSelL ops = true) (hG : ∀ g i, K.G g = some i → i < base) :
    ∀ (f fuel : Nat), f = fuel + 1 → ∀ {multi : Bool} {held : List (Nat × Nat)} {ls : List Bool} {s : AS} {ν : Vl} {a : Act} {w : World} {H : Held}, drawX K ih x ops base f multi held ls s = some sf → Rel K x s ν a w → base ≤ s.n → Vl.Same base ν0 ν → HRel ν s.h H held →
      WA P .any ops.toArray (Nrm (Fin K x sf base ν0)) fuel H ls.toArray a w := by
  intro f
  induction f with
  | zero => intro fuel hf; cases hf
  | succ f ihf =>
    intro fuel hf multi held ls s ν a w H hd h hb hs hr
    have hf : f = fuel := by omega
    subst hf
    have hset : ∀ i, (ls.set i true).toArray = ls.toArray.setIfInBounds i true := fun i => by simp
    simp only [drawX] at hd
    split at hd
    · rename_i hrd
      injection hd with hd
      subst hd
      exact WA_done (by rw [ready_L]; exact hrd) ⟨rfl, ν, hs, hb, h⟩ f
    · rename_i i hrd
      split at hd
      case h_2 => cases hd
      rename_i o ho
      have ho' : ops.toArray[i]? = some o := by simpa using ho
      have hrdy : Region.ready .any ops.toArray ls.toArray = [i] := by rw [ready_L]; exact hrd
      split at hd
      · rename_i hw
        split at hd
        case h_2 => cases hd
        rename_i s1 h1
        split at hd
        case h_2 => cases hd
        rename_i hsh
        obtain ⟨f', rfl⟩ := drawX_pos hd
        refine WA_all hrdy (by simp) fun j hj => ?_
        rw [List.mem_singleton.1 hj]
        refine stepN_ok hih h h1 ho' (want_ok (ops := ops.toArray) hw h.slots) hb hG fun ν' a' w' e1 e2 e3 e4 => ?_
        have hk := hr.keep ho hsh e4
        refine ⟨hk.now e3.mem, ?_⟩
        rw [← hset]
        exact ihf f' rfl hd e3 (Nat.le_trans hb e2) (hs.trans e1 (Nat.le_refl _)) hk
      · rename_i hw
        split at hd
        case h_2 => cases hd
        rename_i s1 h1
        obtain ⟨f', rfl⟩ := drawX_pos hd
        obtain ⟨e1, e2, e3, _⟩ := h.put h1
        refine WA_all hrdy (by simp) fun j hj => ?_
        rw [List.mem_singleton.1 hj]
        refine wpOp_unwanted ho' (want_ok (ops := ops.toArray) hw h.slots) ?_
        have hk := hr.keep0 (j := i) ho
        refine ⟨hk.now h.mem, ?_⟩
        rw [← hset]
        exact ihf f' rfl hd e1 (by rw [e2]; exact hb) hs (by rw [e3]; exact hk)
      · cases hd
    · rename_i hne1 hne2
      split at hd
      · rename_i i o v rd hfv
        obtain ⟨hmem, ho, hv⟩ := firstV_spec (tab := K.Ty) (G := K.G) (F := K.F) (X := K.X) hfv
        have ho' : ops.toArray[i]? = some o := by simpa using ho
        split at hd
        case h_2 => cases hd
        rename_i d hfree hdst
        split at hd
        case h_2 => cases hd
        rename_i s1 h1
        obtain ⟨f', rfl⟩ := drawX_pos hd
        obtain ⟨e1, e2, e3, _⟩ := h.put h1
        have hin : (Region.ready .any ops.toArray ls.toArray).contains i = true := by
          rw [ready_L]
          simpa using hmem
        have hfr : Region.free .any ops.toArray ls.toArray i = true := by rw [free_L]; exact hfree
        obtain ⟨dst, op, ty, pos, af, gu⟩ := o
        simp only at hdst
        subst hdst
        have hy : YieldsIf P ops.toArray (fun w => ∀ j ob, rd = some j → s.h.at j = some ob → ob.fact ν j w) ⟨some d, op, ty, pos, af, gu⟩ (v.val ν) a := by
          rcases hv with ⟨hw, hv⟩ | ⟨hw, rfl, rfl⟩
          · exact .inl ⟨want_ok (ops := ops.toArray) hw h.slots, fun w hS => vop_ok K.Ty h.slots h.gok h.mem.stat hv hS⟩
          · exact .inr ⟨want_ok (ops := ops.toArray) hw h.slots, rfl⟩
        refine WA_take ho' (by rw [noSel_L]; exact hns) hfr hin nrm_put hy (fun j ob _ hob => h.mem.fact hob) (hr.now h.mem) ?_
        rw [← hset]
        refine ihf f' rfl hd e1 (by rw [e2]; exact hb) hs ?_
        rw [e3]
        intro p hp
        rcases List.mem_cons.1 hp with rfl | hp
        · cases rd with
          | none => exact .inl fun w j ob hj => by cases hj
          | some j =>
            cases hat : s.h.at j with
            | none => exact .inl fun w j' ob hj hob => by injection hj with hj; subst hj; rw [hat] at hob; cases hob
            | some ob => exact .inr ⟨j, ob, List.mem_cons_self .., hat, fun w hf j' ob' hj hob => by
                injection hj with hj
                subst hj
                rw [hat] at hob
                injection hob with hob
                subst hob
                exact hf⟩
        · rcases hr p hp with h2 | ⟨id, ob, h2, h3, h4⟩
          · exact .inl h2
          · refine .inr ⟨id, ob, ?_, h3, h4⟩
            cases rd with
            | none => exact h2
            | some j => exact List.mem_cons_of_mem _ h2
      · have hall := eachX_all hd
        have hne : readyL ops ls ≠ [] := fun h0 => hne1 h0
        obtain ⟨j0, hj0⟩ := List.exists_mem_of_ne_nil _ hne
        have hf0 : ∃ f', f = f' + 1 := by
          have hd := hall j0 hj0
          split at hd
          case h_2 => cases hd
          split at hd
          case h_2 => cases hd
          split at hd
          case h_2 => cases hd
          split at hd
          case h_2 => cases hd
          exact drawX_pos hd
        obtain ⟨f', rfl⟩ := hf0
        refine WA_all (rs := readyL ops ls) (ready_L ops ls) hne fun i hi => ?_
        have hd := hall i hi
        split at hd
        case h_2 => cases hd
        rename_i o ho
        have ho' : ops.toArray[i]? = some o := by simpa using ho
        split at hd
        case h_2 => cases hd
        rename_i hw
        split at hd
        case h_2 => cases hd
        rename_i s1 h1
        split at hd
        case h_2 => cases hd
        rename_i hsh
        refine stepN_ok hih h h1 ho' (want_ok (ops := ops.toArray) hw h.slots) hb hG fun ν' a' w' e1 e2 e3 e4 => ?_
        have hk := hr.keep ho hsh e4
        refine ⟨hk.now e3.mem, ?_⟩
        rw [← hset]
        exact ihf f' rfl hd e3 (Nat.le_trans hb e2) (hs.trans e1 (Nat.le_refl _)) hk
theorem noDefL_spec : ∀ {l : List Oper}, noDefL l = true → ∀ (i : Nat) (o : Oper), l[i]? = some o → ∀ c, o.op ≠ .defer c
  | [], _, i, o, h, c => by simp at h
  | o1 :: l, hn, i, o, h, c => by
    simp only [noDefL, Bool.and_eq_true] at hn
    cases i with
    | zero =>
      simp only [List.getElem?_cons_zero, Option.some.injEq] at h
      subst h
      intro hc
      rw [hc] at hn
      cases hn.1
    | succ i => exact noDefL_spec hn.2 i o (by simpa using h) c
include hih in
/-- a region that draws, in any frame -/
theorem region_draw {ops : Array Oper} {id : Nat} {s sf : AS} (hmo : P.follows .mixedOrders = true) (hns : noSelL ops.toList = true) (hnd : noDefL ops.toList = true)
    (hd : drawX K ih x ops.toList s.n (ops.toList.length + 1) false [] (List.replicate ops.toList.length false) { s with n := s.n + ops.toList.length } = some sf) (h : Rel K x s ν a w) {b : Frame} {k : List Item} {cs : List Frame} :
    ∃ ν' a' w', Vl.Same s.n ν ν' ∧ s.n ≤ sf.n ∧ Rel K x sf ν' a' w' ∧ Steps P (lone (b.atR a (.code (.region id ops true) :: k)) cs w) (lone (b.atR a' k) cs w') := by
  have h1 := drawX_ok hih (ν0 := ν) (H := []) hns (fun g i hg => (h.glob g i hg).1) _ _ rfl hd ((h.drew).more (n' := s.n + ops.toList.length) (Nat.le_add_right _ _)) (Nat.le_add_right _ _) Vl.Same.refl (fun p hp => by cases hp)
  have h2 : WA P .any ops (Nrm (Fin K x sf s.n ν)) ops.size [] (Array.replicate ops.size false) a { w with drawn := w.drawn + 1 } := by
    have e : (List.replicate ops.toList.length false).toArray = Array.replicate ops.size false := by simp
    rw [e] at h1
    simpa using h1
  obtain ⟨a', w', ⟨ν', f1, f2, f4⟩, f3⟩ := draw_stepsR (b := b) (k := k) (cs := cs) (id := id) hmo (fun i o ho => noDefL_spec hnd i o (by simpa using ho)) h2
  exact ⟨ν', a', w', f1, f2, f4, f3⟩
end
end Go.Ex
