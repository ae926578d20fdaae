/-
  A small calculus of footprints over the model's runs: memory as a list of chunks, each with blocks of its own; what no chunk owns is never written.
-/
import Derived.WalkKit
import Derived.OrdersHeld
import Derived.KernelRfl
import Derived.Deep.LoopGhost
namespace Go.Sx
open Go Go.RowKit

/-- Outside X the world w' is as w was. -/
structure Agree (X : Nat → Prop) (w w' : World) : Prop where
  os : w'.os = w.os
  tape : w'.tape = w.tape
  output : w'.output = w.output
  size : w.heap.size ≤ w'.heap.size
  block : ∀ k, k < w.heap.size → ¬ X k → w'.heap[k]? = w.heap[k]?

theorem Agree.refl (X : Nat → Prop) (w : World) : Agree X w w := ⟨rfl, rfl, rfl, Nat.le_refl _, fun _ _ _ => rfl⟩
theorem Agree.trans {X : Nat → Prop} {a b c : World} (h : Agree X a b) (k : Agree X b c) : Agree X a c :=
  ⟨k.os.trans h.os, k.tape.trans h.tape, k.output.trans h.output, Nat.le_trans h.size k.size,
   fun i hi hx => (k.block i (Nat.lt_of_lt_of_le hi h.size) hx).trans (h.block i hi hx)⟩
theorem Agree.mono {X Y : Nat → Prop} {w w' : World} (h : Agree X w w') (hxy : ∀ k, k < w.heap.size → X k → Y k) : Agree Y w w' :=
  ⟨h.os, h.tape, h.output, h.size, fun k hk hy => h.block k hk (fun hx => hy (hxy k hk hx))⟩
/-- Two worlds with the same memory and streams. -/
theorem Agree.same {X : Nat → Prop} {w w' : World} (h1 : w'.heap = w.heap) (h2 : w'.os = w.os) (h3 : w'.tape = w.tape) (h4 : w'.output = w.output) : Agree X w w' :=
  ⟨h2, h3, h4, by rw [h1]; exact Nat.le_refl _, fun _ _ _ => by rw [h1]⟩

abbrev Chunk := (Nat → Prop) → World → Prop

/-- c holds at footprint S in every world that parts from w at others' blocks alone. -/
def Stab (M S : Nat → Prop) (w : World) (c : Chunk) : Prop := ∀ w', Agree (fun k => M k ∧ ¬ S k) w w' → c S w'

theorem Stab.now {M S : Nat → Prop} {w : World} {c : Chunk} (h : Stab M S w c) : c S w := h w (Agree.refl _ _)

theorem Stab.move {M M' S X : Nat → Prop} {w w' : World} {c : Chunk} (h : Stab M S w c) (hA : Agree X w w')
    (hM : ∀ k, k < w.heap.size → M' k → M k) (hX : ∀ k, k < w.heap.size → X k → M k ∧ ¬ S k) : Stab M' S w' c := by
  intro w'' h2
  apply h
  refine ⟨h2.os.trans hA.os, h2.tape.trans hA.tape, h2.output.trans hA.output, Nat.le_trans hA.size h2.size, fun k hk hn => ?_⟩
  have h3 : ¬ X k := fun hx => hn (hX k hk hx)
  rw [h2.block k (Nat.lt_of_lt_of_le hk hA.size) (fun ⟨a, b⟩ => hn ⟨hM k hk a, b⟩), hA.block k hk h3]

def SatA (M : Nat → Prop) (w : World) : (Nat → Prop) → List Chunk → Prop
  | _, [] => True
  | A, c :: L => ∃ S : Nat → Prop, (∀ k, S k → A k) ∧ Stab M S w c ∧ SatA M w (fun k => A k ∧ ¬ S k) L

/-- Memory is as the chunks say, each with blocks of its own. -/
def Sat (w : World) (L : List Chunk) : Prop := ∃ M : Nat → Prop, (∀ k, M k → k < w.heap.size) ∧ SatA M w M L

theorem SatA.mono {M : Nat → Prop} {w : World} : ∀ {L : List Chunk} {A B : Nat → Prop}, (∀ k, A k → B k) → SatA M w A L → SatA M w B L
  | [], _, _, _, _ => trivial
  | _ :: _, _, _, h, ⟨S, h1, h2, h3⟩ => ⟨S, fun k hk => h k (h1 k hk), h2, SatA.mono (fun k hk => ⟨h k hk.1, hk.2⟩) h3⟩

/-- All chunks are carried to another world. -/
theorem SatA.move {M M' X : Nat → Prop} {w w' : World} (hA : Agree X w w') (hM : ∀ k, k < w.heap.size → M' k → M k) :
    ∀ {L : List Chunk} {A : Nat → Prop}, (∀ k, k < w.heap.size → X k → M k ∧ ¬ A k) → SatA M w A L → SatA M' w' A L
  | [], _, _, _ => trivial
  | _ :: _, A, hX, ⟨S, h1, h2, h3⟩ =>
    ⟨S, h1, h2.move hA hM (fun k hk hx => ⟨(hX k hk hx).1, fun hs => (hX k hk hx).2 (h1 k hs)⟩),
     SatA.move hA hM (fun k hk hx => ⟨(hX k hk hx).1, fun hs => (hX k hk hx).2 hs.1⟩) h3⟩

/-- A world with the same memory. -/
theorem Sat.same {w w' : World} {L : List Chunk} (h : Sat w L) (h1 : w'.heap = w.heap) (h2 : w'.os = w.os) (h3 : w'.tape = w.tape) (h4 : w'.output = w.output) : Sat w' L := by
  obtain ⟨M, hb, hs⟩ := h
  exact ⟨M, fun k hk => by rw [h1]; exact hb k hk, hs.move (X := fun _ => False) (Agree.same h1 h2 h3 h4) (fun _ _ hk => hk) (fun _ _ hx => hx.elim)⟩

theorem Sat.drew {w : World} {L : List Chunk} (h : Sat w L) : Sat { w with drawn := w.drawn + 1 } L := h.same rfl rfl rfl rfl

theorem Sat.drop {w : World} {c : Chunk} {L : List Chunk} (h : Sat w (c :: L)) : Sat w L := by
  obtain ⟨M, hb, S, _, _, h3⟩ := h
  exact ⟨M, hb, h3.mono (fun k hk => hk.1)⟩

theorem Sat.head {w : World} {c : Chunk} {L : List Chunk} (h : Sat w (c :: L)) : ∃ S, (∀ k, S k → k < w.heap.size) ∧ c S w := by
  obtain ⟨M, hb, S, h1, h2, _⟩ := h
  exact ⟨S, fun k hk => hb k (h1 k hk), h2.now⟩

theorem Sat.imp {w : World} {c c' : Chunk} {L : List Chunk} (h : Sat w (c :: L)) (hi : ∀ S w', c S w' → c' S w') : Sat w (c' :: L) := by
  obtain ⟨M, hb, S, h1, h2, h3⟩ := h
  exact ⟨M, hb, S, h1, fun w' hw => hi _ _ (h2 w' hw), h3⟩

/-- THE HEAD CHUNK IS TURNED: only its own blocks, and new ones. -/
theorem Sat.upd {w w' : World} {c c' : Chunk} {L : List Chunk} (h : Sat w (c :: L))
    (H : ∀ S, c S w → (∀ k, S k → k < w.heap.size) → ∃ S' : Nat → Prop, Agree S w w' ∧ (∀ k, S' k → (S k ∨ w.heap.size ≤ k) ∧ k < w'.heap.size) ∧ ∀ w'', Agree (fun k => ¬ S' k) w' w'' → c' S' w'') :
    Sat w' (c' :: L) := by
  obtain ⟨M, hb, S, h1, h2, h3⟩ := h
  obtain ⟨S', hA, hS', hc⟩ := H S h2.now (fun k hk => hb k (h1 k hk))
  refine ⟨fun k => M k ∨ S' k, fun k hk => ?_, S', fun k hk => Or.inr hk, fun w'' hw => hc w'' (hw.mono fun k _ hk => hk.2), ?_⟩
  · rcases hk with hk | hk
    · exact Nat.lt_of_lt_of_le (hb k hk) hA.size
    · exact (hS' k hk).2
  · refine SatA.mono (A := fun k => M k ∧ ¬ S k) (fun k hk => ⟨Or.inl hk.1, fun hs => ?_⟩) (h3.move hA (fun k hk hm => ?_) (fun k _ hx => ⟨h1 k hx, fun hh => hh.2 hx⟩))
    · rcases (hS' k hs).1 with hs' | hs'
      · exact hk.2 hs'
      · exact absurd (hb k hk.1) (by omega)
    · rcases hm with hm | hm
      · exact hm
      · rcases (hS' k hm).1 with hs' | hs'
        · exact h1 k hs'
        · omega

/-- A NEW CHUNK in new blocks. -/
theorem Sat.add {w w' : World} {c' : Chunk} {L : List Chunk} (h : Sat w L)
    (H : ∃ S' : Nat → Prop, Agree (fun _ => False) w w' ∧ (∀ k, S' k → w.heap.size ≤ k ∧ k < w'.heap.size) ∧ ∀ w'', Agree (fun k => ¬ S' k) w' w'' → c' S' w'') : Sat w' (c' :: L) := by
  obtain ⟨M, hb, hs⟩ := h
  have h0 : Sat w ((fun S _ => ∀ k, ¬ S k) :: L) := ⟨M, hb, fun _ => False, fun _ hk => hk.elim, fun _ _ _ hk => hk, hs.mono fun k hk => ⟨hk, id⟩⟩
  refine h0.upd fun S hS _ => ?_
  obtain ⟨S', hA, hS', hc⟩ := H
  exact ⟨S', hA.mono (fun _ _ hk => hk.elim), fun k hk => ⟨Or.inr (hS' k hk).1, (hS' k hk).2⟩, hc⟩

/-- What nobody writes. -/
def ro (p : World → Prop) : Chunk := fun S w => (∀ k, ¬ S k) ∧ p w

theorem Sat.ro {w : World} {p : World → Prop} {L : List Chunk} (h : Sat w (ro p :: L)) : p w := by
  obtain ⟨_, _, h⟩ := h.head
  exact h.2

/-- THE HEAD CHUNK IS GIVEN UP: what it says stands from now on. -/
theorem Sat.freeze {w : World} {c : Chunk} {p : World → Prop} {L : List Chunk} (h : Sat w (c :: L)) (hi : ∀ S w', c S w' → p w') : Sat w (Sx.ro p :: L) := by
  obtain ⟨M, hb, S, h1, h2, h3⟩ := h
  refine ⟨fun k => M k ∧ ¬ S k, fun k hk => hb k hk.1, fun _ => False, fun _ hk => hk.elim, fun w' hw => ⟨fun _ hk => hk, ?_⟩, ?_⟩
  · exact hi S w' (h2 w' (hw.mono fun k _ hk => hk.1))
  · exact SatA.mono (fun k hk => ⟨hk, id⟩) (h3.move (X := fun _ => False) (Agree.refl _ _) (fun k _ hk => hk.1) (fun _ _ hx => hx.elim))

theorem Sat.addRo {w : World} {p : World → Prop} {L : List Chunk} (h : Sat w L) (hp : ∀ w', Agree (fun k => k < w.heap.size) w w' → p w') : Sat w (Sx.ro p :: L) := by
  obtain ⟨M, hb, hs⟩ := h
  exact ⟨M, hb, fun _ => False, fun _ hk => hk.elim, fun w' hw => ⟨fun _ hk => hk, hp w' (hw.mono fun k hk _ => hk)⟩, hs.mono fun k hk => ⟨hk, id⟩⟩

/-- A fact drawn from one that nobody writes. -/
theorem Sat.roImp {w : World} {p q : World → Prop} {L : List Chunk} (h : Sat w (Sx.ro p :: L)) (hi : ∀ w', p w' → q w') : Sat w (Sx.ro q :: Sx.ro p :: L) := by
  obtain ⟨M, hb, S, h1, h2, h3⟩ := h
  exact ⟨M, hb, S, h1, fun w' hw => ⟨(h2 w' hw).1, hi _ (h2 w' hw).2⟩, S, fun k hk => ((h2.now).1 k hk).elim, h2, h3.mono fun k hk => ⟨hk, fun h => (h2.now).1 k h⟩⟩

/-- c is one of the chunks; the others are L'. -/
def Pick (c : Chunk) (L L' : List Chunk) : Prop := ∀ M w A, SatA M w A L → SatA M w A (c :: L')
theorem pick_here {c : Chunk} {L : List Chunk} : Pick c (c :: L) L := fun _ _ _ h => h
theorem pick_ro {p : World → Prop} {L : List Chunk} : Pick (ro p) (ro p :: L) (ro p :: L) := fun _ _ _ ⟨S, h1, h2, h3⟩ =>
  ⟨S, h1, h2, S, fun k hk => ((h2.now).1 k hk).elim, h2, h3.mono fun k hk => ⟨hk, fun h => (h2.now).1 k h⟩⟩
theorem pick_there {c d : Chunk} {L L' : List Chunk} (h : Pick c L L') : Pick c (d :: L) (d :: L') := fun M w A ⟨S, h1, h2, h3⟩ => by
  obtain ⟨T, t1, t2, t3⟩ := h _ _ _ h3
  exact ⟨T, fun k hk => (t1 k hk).1, t2, S, fun k hk => ⟨h1 k hk, fun ht => (t1 k ht).2 hk⟩, h2, t3.mono fun k hk => ⟨⟨hk.1.1, hk.2⟩, hk.1.2⟩⟩

def Ent (L L' : List Chunk) : Prop := ∀ M w A, SatA M w A L → SatA M w A L'
theorem ent_refl {L : List Chunk} : Ent L L := fun _ _ _ h => h
theorem ent_nil {L : List Chunk} : Ent L [] := fun _ _ _ _ => trivial
theorem ent_cons {c : Chunk} {L L1 L2 : List Chunk} (h : Pick c L L1) (h' : Ent L1 L2) : Ent L (c :: L2) := fun M w A hs => by
  obtain ⟨S, h1, h2, h3⟩ := h M w A hs
  exact ⟨S, h1, h2, h' _ _ _ h3⟩
theorem ent_trans {L L1 L2 : List Chunk} (h : Ent L L1) (h' : Ent L1 L2) : Ent L L2 := fun M w A hs => h' M w A (h M w A hs)
theorem ent_keep {c : Chunk} {L L' : List Chunk} (h : Ent L L') : Ent (c :: L) (c :: L') := fun _ _ _ ⟨S, h1, h2, h3⟩ => ⟨S, h1, h2, h _ _ _ h3⟩
theorem ent_drop {c : Chunk} {L : List Chunk} : Ent (c :: L) L := fun _ _ _ ⟨_, _, _, h3⟩ => h3.mono fun _ hk => hk.1
theorem ent_imp {c c' : Chunk} {L : List Chunk} (hi : ∀ S w', c S w' → c' S w') : Ent (c :: L) (c' :: L) := fun _ _ _ ⟨S, h1, h2, h3⟩ => ⟨S, h1, fun w' hw => hi _ _ (h2 w' hw), h3⟩
theorem Sat.ent {w : World} {L L' : List Chunk} (h : Sat w L) (he : Ent L L') : Sat w L' := by
  obtain ⟨M, hb, hs⟩ := h
  exact ⟨M, hb, he _ _ _ hs⟩
theorem Sat.pick {w : World} {c : Chunk} {L L' : List Chunk} (h : Sat w L) (hp : Pick c L L') : Sat w (c :: L') := by
  obtain ⟨M, hb, hs⟩ := h
  exact ⟨M, hb, hp _ _ _ hs⟩

/-! ### chunks: a block known whole -/
def blk (b : Nat) (o : Obj) : Chunk := fun S w => S b ∧ w.heap[b]? = some o

theorem Sat.alloc {w : World} {L : List Chunk} (h : Sat w L) (o : Obj) : Sat { w with heap := w.heap.push o } (blk w.heap.size o :: L) := by
  refine h.add ⟨fun k => k = w.heap.size, ⟨rfl, rfl, rfl, by simp, fun k hk _ => ?_⟩, fun k hk => by subst hk; simp, fun w'' hw => ⟨rfl, ?_⟩⟩
  · simp only [Array.getElem?_push]; rw [if_neg (by omega)]
  · rw [hw.block w.heap.size (by simp) (fun h => h rfl)]
    simp

theorem Sat.blk {w : World} {b : Nat} {o : Obj} {L : List Chunk} (h : Sat w (blk b o :: L)) : w.heap[b]? = some o := by
  obtain ⟨_, _, h⟩ := h.head
  exact h.2

theorem Sat.setBlk {w w' : World} {b : Nat} {o o' : Obj} {L : List Chunk} (h : Sat w (Sx.blk b o :: L))
    (h1 : w'.os = w.os) (h2 : w'.tape = w.tape) (h3 : w'.output = w.output) (h4 : w'.heap.size = w.heap.size) (h5 : w'.heap[b]? = some o') (h6 : ∀ k, k ≠ b → w'.heap[k]? = w.heap[k]?) : Sat w' (Sx.blk b o' :: L) := by
  refine h.upd fun S hS hb => ⟨S, ⟨h1, h2, h3, by omega, fun k hk hx => h6 k (fun e => hx (e ▸ hS.1))⟩, fun k hk => ⟨Or.inl hk, by have := hb k hk; omega⟩, fun w'' hw => ⟨hS.1, ?_⟩⟩
  have hlt : b < w'.heap.size := by have := hb b hS.1; omega
  rw [hw.block b hlt (fun h => h hS.1), h5]

/-! ### frames -/
abbrev Env := List (Nat × Value)
def lk : Env → Nat → Option Value
  | [], _ => none
  | (k, v) :: r, d => match Nat.beq k d with
    | true => some v
    | false => lk r d

def ev (env : Env) : Operand → Option Value
  | .tmp t => lk env t
  | .const v => some v
  | .global g => some (.pointer (some ⟨g, 0, none⟩))
  | .func f => some (.func (.func f) #[] #[])

structure Ok (n : Nat) (ds : List Deferred) (env : Env) (a : Act) : Prop where
  size : a.tmps.size = n
  defers : a.defers = ds
  slot : ∀ d v, lk env d = some v → a.tmps[d]? = some v

theorem Ok.eval {n : Nat} {ds : List Deferred} {env : Env} {a : Act} (h : Ok n ds env a) {x : Operand} {v : Value} (hx : ev env x = some v) : a.eval x = v := by
  cases x with
  | tmp t =>
    have := h.slot t v hx
    simp [Act.eval, Array.getD_eq_getD_getElem?, this]
  | const c => simpa [ev, Act.eval] using hx
  | global g => simpa [ev, Act.eval] using hx
  | func f => simpa [ev, Act.eval] using hx

theorem Ok.put {n : Nat} {ds : List Deferred} {env : Env} {a : Act} (h : Ok n ds env a) {d : Nat} (hd : Nat.ble (d + 1) n = true) (v : Value) : Ok n ds ((d, v) :: env) (a.put (some d) v) := by
  have hlt : d < n := Nat.le_of_ble_eq_true hd
  refine ⟨by simp [Act.put, h.size], by simp [Act.put, h.defers], fun d' v' hl => ?_⟩
  simp only [lk] at hl
  split at hl
  · rename_i hb
    have : d = d' := Nat.eq_of_beq_eq_true hb
    subst this
    injection hl with hl
    subst hl
    simp [Act.put, Array.getElem?_setIfInBounds, h.size, hlt]
  · rename_i hb
    have hne : d ≠ d' := Nat.ne_of_beq_eq_false hb
    simp only [Act.put]
    rw [Array.getElem?_setIfInBounds_ne hne]
    exact h.slot d' v' hl

/-- Only some of the slots are wanted. -/
def EnvLe (env env' : Env) : Prop := ∀ d v, lk env' d = some v → lk env d = some v
theorem envle_refl {env : Env} : EnvLe env env := fun _ _ h => h
theorem envle_nil {env : Env} : EnvLe env [] := fun _ _ h => by simp [lk] at h
theorem envle_cons {env r : Env} {d : Nat} {v v' : Value} (h : lk env d = some v') (e : v' = v) (hr : EnvLe env r) : EnvLe env ((d, v) :: r) := fun d' u hl => by
  simp only [lk] at hl
  split at hl
  · rename_i hb
    have : d = d' := Nat.eq_of_beq_eq_true hb
    subst this
    rw [h, e]; exact hl
  · exact hr d' u hl
theorem Ok.le {n : Nat} {ds : List Deferred} {env env' : Env} {a : Act} (h : Ok n ds env a) (he : EnvLe env env') : Ok n ds env' a := ⟨h.size, h.defers, fun d v hl => h.slot d v (he d v hl)⟩

/-! ### goals -/
section
variable (P : Program) (Q : Exit → Act → World → Prop) (n : Nat) (ds : List Deferred)
def GL (ops : Array Oper) (rest : List Oper) (env : Env) (L : List Chunk) : Prop := ∀ a w, Ok n ds env a → Sat w L → wpList P ops Q rest a w
def GC (c : Code) (env : Env) (L : List Chunk) : Prop := ∀ a w, Ok n ds env a → Sat w L → c.wp P Q a w
def GQ (e : Exit) (env : Env) (L : List Chunk) : Prop := ∀ a w, Ok n ds env a → Sat w L → Q e a w
end

/-- f is entered when it is called -/
def CanCall (P : Program) (f : FuncId) : Prop := ∀ (args : Array Value) (w : World), (callFunc f args).run P w = .ok (.enter f args) w
/-- A call answers v and leaves the chunks L', which K tells. -/
def SxFn (P : Program) (f : FuncId) (args : Array Value) (L : List Chunk) (K : Value → List Chunk → Prop) : Prop :=
  CanCall P f ∧ ∀ w, Sat w L → Calls P f args w fun e w' => ∃ v L', e = .returned v ∧ K v L' ∧ Sat w' L'

theorem SxFn.mono {P : Program} {f : FuncId} {args : Array Value} {L : List Chunk} {K K' : Value → List Chunk → Prop} (h : SxFn P f args L K) (hk : ∀ v L', K v L' → K' v L') : SxFn P f args L K' :=
  ⟨h.1, fun w hs => (h.2 w hs).mono fun _ _ ⟨v, L', h1, h2, h3⟩ => ⟨v, L', h1, hk _ _ h2, h3⟩⟩
theorem SxFn.ent {P : Program} {f : FuncId} {args : Array Value} {L L' : List Chunk} {K : Value → List Chunk → Prop} (h : SxFn P f args L' K) (he : Ent L L') : SxFn P f args L K :=
  ⟨h.1, fun w hs => h.2 w (hs.ent he)⟩

section
variable {P : Program} {Q : Exit → Act → World → Prop} {n : Nat} {ds : List Deferred} {env : Env} {L : List Chunk}

theorem gc_seq {x y : Code} (h : GC P (Exit.then (y.wp P Q) Q) n ds x env L) : GC P Q n ds (Code.seq x y) env L := fun a w ho hs => wp_seq (h a w ho hs)
theorem gc_skip (h : GQ Q n ds .normal env L) : GC P Q n ds .skip env L := fun a w ho hs => wp_skip (h a w ho hs)
theorem gc_ret (h : GQ Q n ds .ret env L) : GC P Q n ds .ret env L := fun a w ho hs => wp_ret (h a w ho hs)
theorem gc_exit {id : Nat} (h : GQ Q n ds (.exit id) env L) : GC P Q n ds (.exit id) env L := fun a w ho hs => wp_exit (h a w ho hs)
theorem gc_block {id : Nat} {c : Code} (h : GC P (Exit.inBlock id Q) n ds c env L) : GC P Q n ds (.block id c) env L := fun a w ho hs => wp_block (h a w ho hs)
theorem gc_region {id : Nat} {l : List Oper} (h : GL P Q n ds l.toArray l env L) : GC P Q n ds (.region id l.toArray false) env L := fun a w ho hs => wp_region_lit (h a w ho hs)
theorem gl_nil {ops : Array Oper} (h : GQ Q n ds .normal env L) : GL P Q n ds ops [] env L := fun a w ho hs => wpList_nil (h a w ho hs)
theorem gc_true {c : Operand} {x y : Code} (hc : ev env c = some (.bool true)) (h : GC P Q n ds x env L) : GC P Q n ds (.cond c x y) env L :=
  fun a w ho hs => wp_cond_true (ho.eval hc) (h a w ho hs)
theorem gc_false {c : Operand} {x y : Code} (hc : ev env c = some (.bool false)) (h : GC P Q n ds y env L) : GC P Q n ds (.cond c x y) env L :=
  fun a w ho hs => wp_cond_false (ho.eval hc) (h a w ho hs)
theorem gc_t {c : Operand} {x y : Code} {v : Value} (hc : ev env c = some v) (hv : v = .bool true) (h : GC P Q n ds x env L) : GC P Q n ds (.cond c x y) env L := gc_true (hv ▸ hc) h
theorem gc_f {c : Operand} {x y : Code} {v : Value} (hc : ev env c = some v) (hv : v = .bool false) (h : GC P Q n ds y env L) : GC P Q n ds (.cond c x y) env L := gc_false (hv ▸ hc) h
theorem gc_yes {c : Operand} {x y : Code} {p : Prop} {_ : Decidable p} (hc : ev env c = some (.bool (decide p))) (hp : p) (h : GC P Q n ds x env L) : GC P Q n ds (.cond c x y) env L :=
  gc_true (by rw [hc, decide_eq_true hp]) h
theorem gc_no {c : Operand} {x y : Code} {p : Prop} {_ : Decidable p} (hc : ev env c = some (.bool (decide p))) (hp : ¬ p) (h : GC P Q n ds y env L) : GC P Q n ds (.cond c x y) env L :=
  gc_false (by rw [hc, decide_eq_false hp]) h
theorem gc_dec {c : Operand} {x y : Code} {p : Prop} {_ : Decidable p} (hc : ev env c = some (.bool (decide p))) (h1 : p → GC P Q n ds x env L) (h2 : ¬ p → GC P Q n ds y env L) : GC P Q n ds (.cond c x y) env L := by
  by_cases hp : p
  · exact gc_yes hc hp (h1 hp)
  · exact gc_no hc hp (h2 hp)
theorem gc_bool {c : Operand} {x y : Code} {b : Bool} (hc : ev env c = some (.bool b)) (h1 : b = true → GC P Q n ds x env L) (h2 : b = false → GC P Q n ds y env L) : GC P Q n ds (.cond c x y) env L := by
  cases b
  · exact gc_false hc (h2 rfl)
  · exact gc_true hc (h1 rfl)
theorem gc_ent {c : Code} {L' : List Chunk} (he : Ent L L') (h : GC P Q n ds c env L') : GC P Q n ds c env L := fun a w ho hs => h a w ho (hs.ent he)
theorem gl_ent {ops : Array Oper} {l : List Oper} {L' : List Chunk} (he : Ent L L') (h : GL P Q n ds ops l env L') : GL P Q n ds ops l env L := fun a w ho hs => h a w ho (hs.ent he)
theorem gq_ent {e : Exit} {L' : List Chunk} (he : Ent L L') (h : GQ Q n ds e env L') : GQ Q n ds e env L := fun a w ho hs => h a w ho (hs.ent he)
/-- what the chunks tell of the values -/
theorem gc_know {p : Prop} {c : Code} (h : ∀ w, Sat w L → p) (k : p → GC P Q n ds c env L) : GC P Q n ds c env L := fun a w ho hs => k (h w hs) a w ho hs
theorem gl_know {p : Prop} {ops : Array Oper} {l : List Oper} (h : ∀ w, Sat w L → p) (k : p → GL P Q n ds ops l env L) : GL P Q n ds ops l env L := fun a w ho hs => k (h w hs) a w ho hs
theorem gq_know {p : Prop} {e : Exit} (h : ∀ w, Sat w L → p) (k : p → GQ Q n ds e env L) : GQ Q n ds e env L := fun a w ho hs => k (h w hs) a w ho hs
theorem gc_env {c : Code} {env' : Env} (he : EnvLe env env') (h : GC P Q n ds c env' L) : GC P Q n ds c env L := fun a w ho hs => h a w (ho.le he) hs

theorem gq_then {c : Code} (h : GC P Q n ds c env L) : GQ (Exit.then (c.wp P Q) Q) n ds .normal env L := h
theorem gq_then_ret {K : Act → World → Prop} (h : GQ Q n ds .ret env L) : GQ (Exit.then K Q) n ds .ret env L := h
theorem gq_then_exit {K : Act → World → Prop} {id : Nat} (h : GQ Q n ds (.exit id) env L) : GQ (Exit.then K Q) n ds (.exit id) env L := h
theorem gq_in {id : Nat} (h : GQ Q n ds .normal env L) : GQ (Exit.inBlock id Q) n ds .normal env L := h
theorem gq_in_ret {id : Nat} (h : GQ Q n ds .ret env L) : GQ (Exit.inBlock id Q) n ds .ret env L := h
theorem gq_in_exit {id : Nat} (h : GQ Q n ds .normal env L) : GQ (Exit.inBlock id Q) n ds (.exit id) env L := fun a w ho hs => by simp only [Exit.inBlock, if_true]; exact h a w ho hs
theorem gq_in_other {id id' : Nat} (hne : Nat.beq id' id = false) (h : GQ Q n ds (.exit id') env L) : GQ (Exit.inBlock id Q) n ds (.exit id') env L := fun a w ho hs => by
  simp only [Exit.inBlock, if_neg (Nat.ne_of_beq_eq_false hne)]; exact h a w ho hs

/-- A LOOP: x is what changes from round to round, m x falls. -/
theorem gc_loop {α : Type} (m : α → Nat) (E : α → Env) (H : α → List Chunk) (x0 : α) {body : Code} (hE : EnvLe env (E x0)) (hL : Ent L (H x0))
    (round : ∀ x, GC P (Exit.then (fun a w => ∃ x', m x' < m x ∧ Ok n ds (E x') a ∧ Sat w (H x')) Q) n ds body (E x) (H x)) : GC P Q n ds (.loop body) env L := fun a w ho hs => by
  refine wp_loop_ghost (fun k a w => ∃ x, m x = k ∧ Ok n ds (E x) a ∧ Sat w (H x)) (m x0) ⟨x0, rfl, ho.le hE, hs.ent hL⟩ ?_
  rintro k a w ⟨x, rfl, ho, hs⟩
  refine wp_mono (round x a w ho hs) ?_
  intro e a' w' hq
  cases e with
  | normal => obtain ⟨x', h1, h2, h3⟩ := hq; exact ⟨_, h1, x', rfl, h2, h3⟩
  | exit id => exact hq
  | goto l => exact hq
  | ret => exact hq
  | panic c => exact hq
  | outgrown => exact hq
theorem gq_round {α : Type} {m : α → Nat} {E : α → Env} {H : α → List Chunk} {x : α} (x' : α) (hm : m x' < m x) (hE : EnvLe env (E x')) (hL : Ent L (H x')) :
    GQ (Exit.then (fun a w => ∃ x', m x' < m x ∧ Ok n ds (E x') a ∧ Sat w (H x')) Q) n ds .normal env L := fun _ _ ho hs => ⟨x', hm, ho.le hE, hs.ent hL⟩
end

/-! ### the function's door -/
def argEnv : Nat → List Value → Env
  | _, [] => []
  | i, v :: r => (i, v) :: argEnv (i + 1) r
theorem lk_argEnv : ∀ (l : List Value) (i d : Nat) (v : Value), lk (argEnv i l) d = some v → i ≤ d ∧ l[d - i]? = some v
  | [], _, _, _, h => by simp [argEnv, lk] at h
  | u :: r, i, d, v, h => by
    simp only [argEnv, lk] at h
    split at h
    · rename_i hb
      have : i = d := Nat.eq_of_beq_eq_true hb
      subst this
      injection h with h
      subst h
      simp
    · rename_i hb
      have hne : i ≠ d := Nat.ne_of_beq_eq_false hb
      obtain ⟨h1, h2⟩ := lk_argEnv r (i + 1) d v h
      refine ⟨by omega, ?_⟩
      have : d - i = (d - (i + 1)) + 1 := by omega
      rw [this, List.getElem?_cons_succ]
      exact h2

/-- what a call is to answer, as a post of its body -/
def Ans (K : Value → List Chunk → Prop) : Ending → World → Prop := fun e w' => ∃ v L', e = .returned v ∧ K v L' ∧ Sat w' L'

theorem fn_intro {P : Program} {f : FuncId} {fn : Func} {c : Code} {l : List Value} {n : Nat} {env : Env} {L : List Chunk} {K : Value → List Chunk → Prop}
    (hf : P.funcs[f]? = some fn) (hnm : (fn.name == "runtime.NumGoroutine") = false) (hb : fn.body = some c) (hn : fn.ntmps = n) (hl : Nat.ble l.length n = true) (he : env = argEnv 0 l)
    (h : GC P (bodyPost P fn (Ans K)) n [] c env L) : SxFn P f l.toArray L K := ⟨fun args w => by
    have h' : fn.name ≠ "runtime.NumGoroutine" := by intro h; rw [h] at hnm; simp at hnm
    simp [callFunc, hf, h', hb], fun w hs => by
  refine calls_of_wp hf hb (h _ w ⟨?_, rfl, fun d v hd => ?_⟩ hs)
  · have := Nat.le_of_ble_eq_true hl
    simp [hn]; omega
  · subst he
    obtain ⟨_, h2⟩ := lk_argEnv l 0 d v hd
    have hlt : d < l.length := by
      rcases Nat.lt_or_ge d l.length with h' | h'
      · exact h'
      · rw [List.getElem?_eq_none (by omega)] at h2; cases h2
    rw [Array.getElem?_append_left (by simpa using hlt)]
    simpa using h2⟩

section
variable {P : Program} {fn : Func} {K : Value → List Chunk → Prop} {n : Nat} {env : Env} {L : List Chunk}
theorem bodyPost_both {R : Ending → World → Prop} {a : Act} {w : World} (h : bodyPost P fn R .ret a w) : bodyPost P fn R .normal a w := h
/-- one result -/
theorem gq_ans1 {e : Exit} {t : Tmp} {v : Value} (he : e = .ret ∨ e = .normal) (hr : fn.results = #[.tmp t]) (hv : lk env t = some v) (hK : K v L) : GQ (bodyPost P fn (Ans K)) n [] e env L := fun a w ho hs => by
  have : bodyPost P fn (Ans K) .ret a w := ⟨ho.defers, v, by
    have := ho.slot t v hv
    simp [results, hr, Array.getD_eq_getD_getElem?, this], v, L, rfl, hK, hs⟩
  rcases he with rfl | rfl <;> exact this
/-- no result -/
theorem gq_ans0 {e : Exit} (he : e = .ret ∨ e = .normal) (hr : fn.results = #[]) (hK : K (.tuple #[]) L) : GQ (bodyPost P fn (Ans K)) n [] e env L := fun a w ho hs => by
  have : bodyPost P fn (Ans K) .ret a w := ⟨ho.defers, .tuple #[], by simp [results, hr], _, L, rfl, hK, hs⟩
  rcases he with rfl | rfl <;> exact this
theorem gq_ans2 {e : Exit} {t u : Tmp} {v v' : Value} (he : e = .ret ∨ e = .normal) (hr : fn.results = #[.tmp t, .tmp u]) (hv : lk env t = some v) (hu : lk env u = some v') (hK : K (.tuple #[v, v']) L) : GQ (bodyPost P fn (Ans K)) n [] e env L := fun a w ho hs => by
  have : bodyPost P fn (Ans K) .ret a w := ⟨ho.defers, _, by
    have h1 := ho.slot t v hv
    have h2 := ho.slot u v' hu
    simp [results, hr, Array.getD_eq_getD_getElem?, h1, h2], _, L, rfl, hK, hs⟩
  rcases he with rfl | rfl <;> exact this
theorem gq_ans3 {e : Exit} {t u s : Tmp} {v v' v'' : Value} (he : e = .ret ∨ e = .normal) (hr : fn.results = #[.tmp t, .tmp u, .tmp s]) (hv : lk env t = some v) (hu : lk env u = some v') (hs' : lk env s = some v'') (hK : K (.tuple #[v, v', v'']) L) : GQ (bodyPost P fn (Ans K)) n [] e env L := fun a w ho hs => by
  have : bodyPost P fn (Ans K) .ret a w := ⟨ho.defers, _, by
    have h1 := ho.slot t v hv
    have h2 := ho.slot u v' hu
    have h3 := ho.slot s v'' hs'
    simp [results, hr, Array.getD_eq_getD_getElem?, h1, h2, h3], _, L, rfl, hK, hs⟩
  rcases he with rfl | rfl <;> exact this
end
end Go.Sx
