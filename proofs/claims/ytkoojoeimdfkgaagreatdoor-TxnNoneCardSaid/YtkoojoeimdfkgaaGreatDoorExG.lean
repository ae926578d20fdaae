/-
  The runner is right: what an operation yields that turns nothing.
-/
import Derived.Test.YtkoojoeimdfkgaaGreatDoorExF
import Derived.WideLaws
import Derived.Laws.Small
namespace Go.Ex
open Go Go.RowKit Go.Sx

section
variable {P : Program} {w : World}
theorem run_sliceBound {k : IntKind} {a y : Nat} {code : BoundsCode} (h : a ≤ y) : (Instr.sliceBound (.int k (.ofNat a)) y code).run P w = .ok a w := by
  have : (0 : Int) ≤ Int.ofNat a ∧ Int.ofNat a ≤ (y : Int) := ⟨ofNat_nonneg a, by simp only [Int.ofNat_eq_natCast]; omega⟩
  simp only [Instr.sliceBound, asIntOf, Sem.run_bind, Sem.run_pure, Result.andThen_ok, this, and_self, if_true]
  rfl
theorem run_sliceBound' {k : IntKind} {a y : Nat} {code : BoundsCode} (h : a ≤ y) : (Instr.sliceBound (.int k (a : Int)) y code).run P w = .ok a w := run_sliceBound h
theorem run_bounds2 {isSlice : Bool} {len cap a b : Nat} {lo hi : Option Value} (hlo : (lo = none ∧ a = 0) ∨ ∃ k, lo = some (.int k (.ofNat a))) (hhi : (hi = none ∧ b = len) ∨ ∃ k, hi = some (.int k (.ofNat b))) (hab : a ≤ b) (hbc : b ≤ cap) :
    (Instr.sliceBounds isSlice len cap lo hi none).run P w = .ok (a, b, cap) w := by
  rcases hlo with ⟨rfl, rfl⟩ | ⟨k, rfl⟩ <;> rcases hhi with ⟨rfl, rfl⟩ | ⟨k', rfl⟩ <;> simp [Instr.sliceBounds, run_sliceBound', hab, hbc]
theorem run_bounds3 {isSlice : Bool} {len cap a b m : Nat} {lo : Option Value} {k1 k2 : IntKind} (hlo : (lo = none ∧ a = 0) ∨ ∃ k, lo = some (.int k (.ofNat a))) (hab : a ≤ b) (hbm : b ≤ m) (hmc : m ≤ cap) :
    (Instr.sliceBounds isSlice len cap lo (some (.int k1 (.ofNat b))) (some (.int k2 (.ofNat m)))).run P w = .ok (a, b, m) w := by
  rcases hlo with ⟨rfl, rfl⟩ | ⟨k, rfl⟩ <;> simp [Instr.sliceBounds, run_sliceBound', hab, hbm, hmc]
theorem run_sliceAt_sl {t e : TypeId} {tj : TyI} {A : Option Addr} {len cap a b m : Nat} {lo hi mx : Option Value} (ht : P.underlying t = some (.slice e)) (he : TyOk P e tj) (hb : (Instr.sliceBounds true len cap lo hi mx).run P w = .ok (a, b, m) w) :
    (Instr.sliceAt t (.slice A len cap) lo hi mx).run P w = .ok (.slice (if m = a then A else A.map (·.add (a * tj.size))) (b - a) (m - a)) w := by
  simp only [Instr.sliceAt, Sem.run_bind, run_underlying ht, Result.andThen_ok, Instr.slice, hb, Sx.run_sizeOf he, Sem.run_pure]
theorem run_sliceAt_str {t : TypeId} {s : ByteArray} {a b m : Nat} {lo hi : Option Value} (ht : P.underlying t = some .string) (hb : (Instr.sliceBounds false s.size s.size lo hi none).run P w = .ok (a, b, m) w) :
    (Instr.sliceAt t (.string s) lo hi none).run P w = .ok (.string (s.extract a b)) w := by
  simp only [Instr.sliceAt, Sem.run_bind, run_underlying ht, Result.andThen_ok, Instr.slice, hb, Sem.run_pure, Option.isSome_none, Bool.false_eq_true, if_false]
end
theorem bytesOf_ok (ν : Vl) : ∀ {l : List AV} {bs : List UInt8}, bytesOf l = some bs → AV.vals ν l = bvs bs
  | [], bs, h => by simp only [bytesOf, Option.some.injEq] at h; subst h; rfl
  | a :: l, bs, h => by
    unfold bytesOf at h
    split at h
    · rename_i heq; cases heq
    · rename_i n l' heq
      injection heq with h1 h2
      subst h1; subst h2
      split at h
      case h_2 => cases h
      rename_i hn
      have hn := blt_lt hn
      split at h
      case h_2 => cases h
      rename_i r hr
      injection h with h
      subst h
      simp only [AV.vals, bvs, List.map_cons, bytesOf_ok ν hr, AV.val, bv]
      congr 2
      simp [Nat.mod_eq_of_lt hn]
    · cases h
theorem cellsOf_ok (ν : Vl) : ∀ l : List UInt8, AV.vals ν (cellsOf l) = bvs l
  | [] => rfl
  | b :: l => by simp only [cellsOf, AV.vals, AV.val, cellsOf_ok ν l, bvs, List.map_cons, bv]; rfl
theorem addr_add0 (A : Option Addr) : A.map (·.add 0) = A := by
  cases A with
  | none => rfl
  | some a => simp [Addr.add]
theorem addr_add_add (A : Option Addr) (i j : Nat) : (A.map (·.add i)).map (·.add j) = A.map (·.add (i + j)) := by
  cases A with
  | none => rfl
  | some a => simp [Addr.add_add']
end Go.Ex
