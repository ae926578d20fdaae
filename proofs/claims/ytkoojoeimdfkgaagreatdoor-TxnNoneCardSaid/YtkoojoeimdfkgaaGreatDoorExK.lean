/-
  The runner is right: operations that turn memory.
-/
import Derived.Test.YtkoojoeimdfkgaaGreatDoorExJ
namespace Go.Ex
open Go Go.RowKit Go.Sx

/-! ### all slots, as the calculus' frame -/
theorem lk_argEnv_get : ∀ (l : List Value) (i k : Nat) (v : Value), l[k]? = some v → lk (argEnv i l) (i + k) = some v
  | [], _, _, _, h => by simp at h
  | u :: r, i, 0, v, h => by
    simp at h
    subst h
    simp [argEnv, lk]
  | u :: r, i, k + 1, v, h => by
    simp only [List.getElem?_cons_succ] at h
    have := lk_argEnv_get r (i + 1) k v h
    simp only [argEnv, lk]
    have hne : Nat.beq i (i + (k + 1)) = false := by
      cases hb : Nat.beq i (i + (k + 1)) with
      | false => rfl
      | true => have := Nat.eq_of_beq_eq_true hb; omega
    rw [hne]
    rw [show i + (k + 1) = i + 1 + k by omega]
    exact this
abbrev full (a : Act) : Sx.Env := argEnv 0 a.tmps.toList
theorem ok_full (a : Act) : Ok a.tmps.size a.defers (full a) a := ⟨rfl, rfl, fun d v h => by
  obtain ⟨_, h2⟩ := lk_argEnv _ _ _ _ h
  simpa using h2⟩
section
variable {ν : Vl} {G : Nat → Option Nat} {env : T AV} {a : Act} (hs : Slots ν env a.tmps) (hg : GOk ν G)
include hs hg
theorem evE {x : Operand} {v : AV} (h : evA G env x = some v) : ev (full a) x = some (v.val ν) := by
  cases x with
  | tmp t =>
    have := hs t v h
    have h2 := lk_argEnv_get a.tmps.toList 0 t (v.val ν) (by simpa using this)
    simpa [ev] using h2
  | const c => simp only [ev]; rw [cnv_ok ν h]
  | global g =>
    have := evA_ok hs hg h
    simp only [ev]
    rw [← this]
    rfl
  | func f =>
    have := evA_ok hs hg h
    simp only [ev]
    rw [← this]
    rfl
theorem evPE : ∀ {l : List (Nat × Operand)} {vs : List (Nat × AV)}, evPs G env l = some vs → evP (full a) l = some (vs.map fun x => (x.1, x.2.val ν))
  | [], vs, h => by simp only [evPs, Option.some.injEq] at h; subst h; rfl
  | (i, x) :: r, vs, h => by
    simp only [evPs] at h
    split at h
    case h_2 => cases h
    rename_i v hv
    split at h
    case h_2 => cases h
    rename_i us hu
    injection h with h
    subst h
    simp only [evP, evE hs hg hv, evPE hu, List.map_cons]
end

/-! ### a new name -/
def Vl.put (ν : Vl) (i : Nat) (e : En) : Vl := fun j => match Nat.beq j i with
  | true => e
  | false => ν j
theorem Vl.put_at (ν : Vl) (i : Nat) (e : En) : (ν.put i e) i = e := by simp [Vl.put]
theorem Vl.put_off (ν : Vl) (i : Nat) (e : En) : Off i ν (ν.put i e) := fun j hj => by
  unfold Vl.put
  split
  · rename_i hb; exact absurd (Nat.eq_of_beq_eq_true hb) hj
  · rfl
theorem Off.refl (i : Nat) (ν : Vl) : Off i ν ν := fun _ _ => rfl
/-- the name 'id' is new -/
structure Fresh (ν : Vl) (G : Nat → Option Nat) (id : Nat) (env : T AV) (h : Heap) : Prop where
  glob : ∀ g i, G g = some i → i ≠ id
  agr : ∃ f g, (∀ ν', Off id ν ν' → Agrees f g ν ν') ∧ (∀ t v, env.get t t = some v → f v = true) ∧ (∀ x ∈ h.toL, x.1 ≠ id ∧ x.2.allB f g = true)
theorem avAll_mem {f : AV → Bool} : ∀ {l : List AV}, avAll f l = true → ∀ a ∈ l, f a = true
  | [], _, _, h => by cases h
  | b :: l, hl, a, h => by
    simp only [avAll, Bool.and_eq_true] at hl
    rcases List.mem_cons.1 h with rfl | h
    · exact hl.1
    · exact avAll_mem hl.2 a h
theorem vals_keep {ν ν' : Vl} : ∀ {l : List AV}, (∀ a ∈ l, a.val ν' = a.val ν) → AV.vals ν' l = AV.vals ν l
  | [], _ => rfl
  | a :: l, h => by simp only [AV.vals, h a (List.mem_cons_self ..), vals_keep fun b hb => h b (List.mem_cons_of_mem _ hb)]
section
variable {ν ν' : Vl} {G : Nat → Option Nat} {id : Nat} {env : T AV} {h : Heap} (hf : Fresh ν G id env h) (ho : Off id ν ν')
include hf ho
theorem Fresh.gok (hg : GOk ν G) : GOk ν' G := fun g i hi => by rw [ho i (hf.glob g i hi)]; exact hg g i hi
theorem Fresh.slots {tmps : Array Value} (hs : Slots ν env tmps) : Slots ν' env tmps := by
  obtain ⟨f, g, h1, h2, _⟩ := hf.agr
  intro t v hv
  rw [hs t v hv, (h1 ν' ho).val v (h2 t v hv)]
theorem Fresh.chs {l : List (Nat × AObj)} (hl : ∀ x ∈ l, x ∈ h.toL) : chunks ν' l = Ex.chunks ν l := by
  obtain ⟨f, g, h1, _, h3⟩ := hf.agr
  unfold Ex.chunks
  apply List.map_congr_left
  intro x hx
  obtain ⟨h4, h5⟩ := h3 x (hl x hx)
  exact chunk_agrees (h1 ν' ho) (ho _ h4) h5
/-- an operand's value is as it was -/
theorem Fresh.ev {x : Operand} {v : AV} (hv : evA G env x = some v) : v.val ν' = v.val ν := by
  obtain ⟨f, g, h1, h2, _⟩ := hf.agr
  cases x with
  | tmp t => exact (h1 ν' ho).val v (h2 t v hv)
  | const c => rw [cnv_ok ν' hv, cnv_ok ν hv]
  | global g =>
    simp only [Ex.evA] at hv
    split at hv
    · rename_i i hi
      injection hv with hv
      subst hv
      simp only [AV.val, ho i (hf.glob g i hi)]
    · cases hv
  | func f =>
    simp only [Ex.evA, Option.some.injEq] at hv
    subst hv
    rfl
theorem Fresh.ps : ∀ {l : List (Nat × Operand)} {vs : List (Nat × AV)}, evPs G env l = some vs → ∀ x ∈ vs, x.2.val ν' = x.2.val ν
  | [], vs, h => by simp only [Ex.evPs, Option.some.injEq] at h; subst h; exact fun _ h => by cases h
  | (i, x) :: r, vs, h => by
    simp only [Ex.evPs] at h
    split at h
    case h_2 => cases h
    rename_i v hv
    split at h
    case h_2 => cases h
    rename_i us hu
    injection h with h
    subst h
    intro y hy
    rcases List.mem_cons.1 hy with rfl | hy
    · exact hf.ev ho hv
    · exact Fresh.ps hu y hy
/-- what a place holds that is read is as it was -/
theorem Fresh.rds {i : Nat} {o : AObj} {l : List AV} (hi : h.at i = some o) (hr : o.reads = some l) : ∀ a ∈ l, a.val ν' = a.val ν := by
  obtain ⟨f, g, h1, _, h3⟩ := hf.agr
  have h5 := (h3 (i, o) (T.get_mem _ _ _ _ hi)).2
  intro a ha
  apply (h1 ν' ho).val
  cases o <;> simp only [AObj.reads, Option.some.injEq] at hr <;> first | (cases hr; done) | skip
  all_goals first
    | (subst hr; exact avAll_mem h5 a ha)
    | (subst hr; cases ha)
end
theorem vals_cells {ν ν' : Vl} {a : AV} (h : a.val ν' = a.val ν) (hc : cellsB a.cells = true) : AV.vals ν' a.cells = AV.vals ν a.cells := by
  rw [← cells_ok ν' hc, ← cells_ok ν hc, h]

/-! ### memory turned -/
section
variable {ν : Vl} {G : Nat → Option Nat} {N nb id : Nat} {env : T AV} {h h' : Heap} {w w' : World}
theorem Mem.new {ν' : Vl} {o : AObj} (hm : Mem ν N h w) (hN : N ≤ nb) (hf : Fresh ν G id env h) (hn : h.new nb id o = some h') (ho : Off id ν ν') (hs : Sat w' (chunk ν' id o :: chunks ν h.toL)) : Mem ν' nb h' w' := by
  obtain ⟨⟨h1, h1'⟩, h2, h3⟩ := Heap.new_spec hn
  refine ⟨?_, fun x hx => ?_⟩
  · have := hs.ent (ent_perm (L' := chunks ν' h'.toL) (by
      have := (chunks_perm (ν := ν') h3).symm
      simp only [chunks, List.map_cons] at this ⊢
      have hc := hf.chs ho (l := h.toL) (fun _ hx => hx)
      unfold chunks at hc
      rw [← hc]
      exact this))
    exact this
  · rcases List.mem_cons.1 (h3.mem_iff.1 hx) with rfl | hx
    · exact ⟨h2, h1, h1'⟩
    · exact (hm.ok.le hN) x hx
theorem Mem.alloc {o : AObj} {O : Obj} (hm : Mem ν N h w) (hN : N ≤ nb) (hf : Fresh ν G id env h) (hn : h.new nb id o = some h')
    (hO : ∀ S w', blk w.heap.size O S w' → chunk (ν.put id (.blk w.heap.size)) id o S w') : Mem (ν.put id (.blk w.heap.size)) nb h' { w with heap := w.heap.push O } :=
  hm.new hN hf hn (Vl.put_off _ _ _) ((hm.sat.alloc O).imp hO)
/-- the parts of a heap at a name -/
theorem Mem.split {i : Nat} {o1 o : AObj} (hm : Mem ν N h w) (hN : N ≤ nb) (hi : h.at i = some o1) (hs : h.set nb i o = some h') : ∃ R, (∀ x ∈ R, x ∈ h.toL) ∧ i < N ∧ Sat w (chunk ν i o1 :: chunks ν R) ∧
    (∀ {ν' : Vl} {w'}, (∀ x ∈ R, chunk ν' x.1 x.2 = chunk ν x.1 x.2) → Sat w' (chunk ν' i o :: chunks ν R) → Mem ν' nb h' w') := by
  obtain ⟨⟨h1, h1'⟩, o2, R, h2, h3, h4⟩ := Heap.set_spec hs
  rw [hi] at h2
  injection h2 with h2
  subst h2
  have hlt : i < N := (hm.ok (i, o1) (h3.mem_iff.2 (List.mem_cons_self ..))).1
  refine ⟨R, fun x hx => h3.mem_iff.2 (List.mem_cons_of_mem _ hx), hlt, ?_, ?_⟩
  · exact hm.sat.ent (ent_perm (chunks_perm (ν := ν) h3))
  · intro ν' w' hR hsat
    refine ⟨?_, fun x hx => ?_⟩
    · refine hsat.ent (ent_perm ?_)
      have := (chunks_perm (ν := ν') h4).symm
      have hc : chunks ν' R = chunks ν R := List.map_congr_left hR
      simp only [chunks, List.map_cons] at this hc ⊢
      rw [← hc]
      exact this
    · rcases List.mem_cons.1 (h4.mem_iff.1 hx) with rfl | hx
      · exact ⟨Nat.lt_of_lt_of_le hlt hN, h1, h1'⟩
      · exact (hm.ok.le hN) x (h3.mem_iff.2 (List.mem_cons_of_mem _ hx))
/-- a block's chunk, in the calculus' words -/
theorem sat_cel {e i : Nat} {l : List AV} {L : List Chunk} (hs : Sat w (chunk ν i (.cel e l) :: L)) : ∃ b, ν i = .blk b ∧ Sat w (cel b e (AV.vals ν l) :: L) := by
  obtain ⟨S, _, h1, b, h2, _⟩ := hs.head
  refine ⟨b, h2, hs.imp ?_⟩
  rintro S w' ⟨h3, b', h4, h5⟩
  rw [h2] at h4
  injection h4 with h4
  subst h4
  exact ⟨h3 _ h2, h5⟩
theorem cel_sat {e i b : Nat} {l : List AV} {vs : List Value} {L : List Chunk} (hb : ν i = .blk b) (hv : vs = AV.vals ν l) (hs : Sat w (cel b e vs :: L)) : Sat w (chunk ν i (.cel e l) :: L) := by
  refine hs.imp ?_
  rintro S w' ⟨h3, h5⟩
  subst hv
  exact ⟨fun b' hb' => by rw [hb] at hb'; injection hb' with hb'; subst hb'; exact h3, b, hb, h5⟩
end
end Go.Ex
