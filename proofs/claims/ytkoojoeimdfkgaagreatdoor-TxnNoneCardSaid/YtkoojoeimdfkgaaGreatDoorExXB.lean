/-
  The runner at a law that reads no memory of its argument: from a run in the kernel to the machine.
-/
import Derived.Test.YtkoojoeimdfkgaaGreatDoorExXA
import Derived.Below
namespace Go.Ex
open Go Go.RowKit Go.Sx

/-- all the memory that there was -/
def old (W : World) : Chunk := fun _ w' => Below W.heap.size W w'
/-- names at the start: 0 the memory that there is, behind it the argument's cells -/
def nu0 (W : World) (cs : List Value) : Vl
  | 0 => .chunk (old W)
  | i + 1 => .val (cs.getD i (.bool false))
def h0 : Heap := .n (some (0, .fr)) .e .e
theorem mem0 (W : World) (cs : List Value) (n : Nat) (hn : 0 < n) : Mem (nu0 W cs) n h0 W := by
  refine ⟨?_, fun x hx => ?_⟩
  · refine ⟨fun k => k < W.heap.size, fun k h => h, fun k => k < W.heap.size, fun k h => h, fun w' h => ?_, trivial⟩
    exact ⟨h.os, h.tape, h.output, h.size, fun k hk => h.block k hk (fun hx => hx.2 hx.1)⟩
  · simp only [h0, T.toL] at hx
    obtain rfl : x = (0, .fr) := by simpa using hx
    exact ⟨hn, rfl, rfl⟩
/-- the answer is true, and the memory that there was is still told of -/
def isT (r : Option Res) : Bool := match r with
  | some r => (match r.v with
    | .v (.bool true) => true
    | _ => false) && (match r.s.h.at 0 with
    | some .fr => true
    | _ => false)
  | none => false
theorem law_of_run {P : Program} {K : Tl P} (hmo : P.follows .mixedOrders = true) (hx : XOk K) (hG : ∀ g, K.G g = none) {f g : Nat} {fi : FnP P} (hfi : fi.id = g) {args : List AV} {n : Nat} (hn : 0 < n) (hok : AV.oksB n args = true)
    (hrun : isT (run K f (.call g args h0 n)) = true) (W : World) (cs : List Value) : Calls P g (AV.vals (nu0 W cs) args).toArray W fun e W' => e = .returned (.bool true) ∧ Below W.heap.size W W' := by
  cases hr : run K f (.call g args h0 n) with
  | none => rw [hr] at hrun; cases hrun
  | some r =>
    rw [hr] at hrun
    simp only [isT, Bool.and_eq_true] at hrun
    have hc := (run_ok hmo hx f).snd.call hr (mem0 W cs n hn) (fun g i hi => by rw [hG] at hi; cases hi) hok
    subst hfi
    rcases hc with ⟨v, w', h1, _⟩ | ⟨_, h2⟩
    · rw [run_callFunc_fn] at h1
      cases h1
    · intro cs'
      obtain ⟨fr, w', v, h3, h4, h5, h6, h7, h8, fn, h9, h10⟩ := h2 .normal cs'
      obtain ⟨ν', e1, e2, e3, rfl, _⟩ := h3
      have hv : r.v = .v (.bool true) := by
        have := hrun.1
        split at this
        · assumption
        · cases this
      have hat : r.s.h.at 0 = some .fr := by
        have := hrun.2
        split at this
        · assumption
        · cases this
      have hb : Below W.heap.size W w' := by
        obtain ⟨S, hS⟩ := sat_mem (c := chunk ν' 0 .fr) e3.sat (List.mem_map.2 ⟨(0, .fr), T.get_mem _ _ _ _ hat, rfl⟩)
        have : ν' 0 = .chunk (old W) := (e1 0 hn).symm
        simp only [chunk, this] at hS
        exact hS
      refine ⟨.returned (r.v.val ν'), w', fr, ⟨?_, hb⟩, h4, h8, h5, h6, h7, fn, by rw [h8]; exact h9, h10⟩
      rw [hv]
      rfl
theorem cell_one {P : Program} {w : World} {r : Go.Reach} {base : Nat} {t : TypeId} {v : Value} (h : Cell.okWide P w r base t v) : v.oneCell' = true := by
  cases v <;> first | rfl | (exfalso; unfold Cell.okWide at h; split at h <;> first | (cases ‹_ = Value.agg _›; done) | (rename_i h1 h2; cases h2; done) | skip)
  all_goals (unfold Cell.ok at h; split at h <;> first | exact h.elim | (rename_i h1 h2; cases h2; done) | simp_all)
def isStruct (P : Program) (t : TypeId) : Bool := match P.underlying t with
  | some (.struct _) => true
  | _ => false
/-- a struct of four cells, none of which is looked at -/
theorem struct4 {P : Program} {w : World} {r : Go.Reach} {base : Nat} {t : TypeId} {v : Value} (hs : isStruct P t = true) (hc : P.cellsOf t = 4) (h : Value.okWide P w r base t v) :
    ∃ c0 c1 c2 c3 : Value, v = .agg #[c0, c1, c2, c3] ∧ c0.oneCell' = true ∧ c1.oneCell' = true ∧ c2.oneCell' = true ∧ c3.oneCell' = true := by
  unfold isStruct at hs
  split at hs
  case h_2 => cases hs
  rename_i fs hu
  unfold Value.okWide at h
  rw [hu] at h
  obtain ⟨cs, rfl, hsz, ts, _, _, hcell⟩ := h
  rw [hc] at hsz
  obtain ⟨l⟩ := cs
  match l, hsz with
  | [c0, c1, c2, c3], _ =>
  have hone : ∀ (i : Nat) (c : Value), [c0, c1, c2, c3][i]? = some c → c.oneCell' = true := fun i c hi => by
    obtain ⟨u, _, h⟩ := hcell i c (by simpa using hi)
    exact cell_one h
  exact ⟨c0, c1, c2, c3, rfl, hone 0 _ rfl, hone 1 _ rfl, hone 2 _ rfl, hone 3 _ rfl⟩
end Go.Ex
