/-
  sawyerlaw14.TxnNone: the run, in the kernel.
-/
import Derived.Test.YtkoojoeimdfkgaaGreatDoorExXB
import Derived.Test.YtkoojoeimdfkgaaGreatDoorFn
import Derived.Test.YtkoojoeimdfkgaaGreatDoorTy
import Derived.KernelRfl
namespace Go.Proofs.YtkoojoeimdfkgaaGreatDoor
open Go Go.Sx Go.Ex Go.RowKit
def xs (g : Nat) : Option (List AV → Heap → Nat → Option (AV × Heap × Nat)) :=
  match Nat.beq g 260 with
  | true => some xIndexByteString
  | false => match Nat.beq g 258 with
    | true => some xAddInt64
    | false => match Nat.beq g 66 with
      | true => some xCompare
      | false => none
noncomputable def K : Tl Tryz.prog := ⟨T, fun _ => none, fns, xs⟩
theorem ran : isT (run K 3000 (.call 3 [.agg [.opq 1, .opq 2, .opq 3, .opq 4]] h0 5)) = true := by kernel_rfl
theorem mixed : Tryz.prog.follows .mixedOrders = true := by kernel_rfl
theorem extIdx : Ext Tryz.prog 260 Extern.BytealgIndexByte.indexByte := ⟨_, Tryz.func260, by kernel_rfl, by kernel_rfl, by kernel_rfl, by kernel_rfl⟩
theorem extAdd : Ext Tryz.prog 258 (Extern.Atomic.update (Op.intArith .add) .i64 true) := ⟨_, Tryz.func258, by kernel_rfl, by kernel_rfl, by kernel_rfl, by kernel_rfl⟩
theorem extCmp : Ext Tryz.prog 66 Extern.BytealgCompare.compare := ⟨_, Tryz.func66, by kernel_rfl, by kernel_rfl, by kernel_rfl, by kernel_rfl⟩
theorem xok : XOk K := by
  intro g k hk args h h' n n' v ν w hx hm _ _
  simp only [K, xs] at hk
  split at hk
  · rename_i hg
    injection hk with hk
    subst hk
    rw [nbeq hg]
    exact xIndexByteString_ok extIdx hx hm
  · split at hk
    · rename_i hg
      injection hk with hk
      subst hk
      rw [nbeq hg]
      exact xAddInt64_ok extAdd hx hm
    · split at hk
      · rename_i hg
        injection hk with hk
        subst hk
        rw [nbeq hg]
        exact xCompare_ok extCmp hx hm
      · cases hk
theorem law (c0 c1 c2 c3 : Value) (W : World) (h0 : c0.oneCell' = true) (h1 : c1.oneCell' = true) (h2 : c2.oneCell' = true) (h3 : c3.oneCell' = true) :
    Calls Tryz.prog 3 #[.agg #[c0, c1, c2, c3]] W fun e W' => e = .returned (.bool true) ∧ Below W.heap.size W W' := by
  have h := law_of_run mixed xok (fun _ => rfl) (fi := fi3) rfl (by decide) rfl ran W [c0, c1, c2, c3]
  have e : (AV.vals (nu0 W [c0, c1, c2, c3]) [.agg [.opq 1, .opq 2, .opq 3, .opq 4]]).toArray = #[.agg #[c0, c1, c2, c3]] := by
    simp [AV.vals, AV.val, nu0, En.value, h0, h1, h2, h3]
  rw [e] at h
  exact h
#print axioms law
end Go.Proofs.YtkoojoeimdfkgaaGreatDoor
