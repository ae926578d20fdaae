/-
  The runner is right: what an operation yields that turns nothing, kind by kind.
-/
import Derived.Test.YtkoojoeimdfkgaaGreatDoorExG
namespace Go.Ex
open Go Go.RowKit Go.Sx

section
variable {P : Program} (TT : TyTab P) {G : Nat → Option Nat} {env : T AV} {h : Heap} {a : Act} {ν : Vl} {w : World}
variable (hs : Slots ν env a.tmps) (hg : GOk ν G) (hb : ∀ i o, h.at i = some o → o.isBlk = true → ∃ b, ν i = .blk b)
variable {av : AV} {rd : Option Nat} {dst : Option Tmp} {ty : TypeId} {pos : String} {af : Array Edge} {gu : Option (Nat × Bool)}

theorem sl_desc {t : Nat} {k : TK} (ht : tyK TT.tab t = some k) : ∃ d, P.underlying t = some d ∧ k.ok P d := by
  obtain ⟨i, h1, h2⟩ := Ty_desc ht
  subst h2
  exact (TT.ok h1).desc
include hs hg in
theorem lo_of {lo : Option Operand} {n m : Nat} {k : IntKind} (h1 : (match lo with | some y => evA G env y | none => some (.v (.int .i64 (.ofNat n)))) = some (.v (.int k (.ofNat m)))) : (lo.map a.eval = none ∧ m = n) ∨ ∃ k, lo.map a.eval = some (.int k (.ofNat m)) := by
  cases lo with
  | none =>
    simp only [Option.some.injEq, AV.v.injEq, Value.int.injEq, Int.ofNat.injEq] at h1
    exact Or.inl ⟨rfl, h1.2.symm⟩
  | some y => exact Or.inr ⟨k, by simp only [Option.map_some, evA_ok hs hg h1, AV.val]⟩

include hs hg hb in
theorem vop_unOp {op : UnOp} {t : TypeId} {x : Operand} (hv : vUnOp TT.tab G env h op t x = some (av, rd)) : (execOp a.eval ⟨dst, .unOp op t x, ty, pos, af, gu⟩).run P w = .ok (.value (av.val ν)) w := by
  have _ := hb
  unfold vUnOp at hv
  split at hv
  · rename_i b hx
    have ex := evA_ok hs hg hx
    simp only [Option.some.injEq, Prod.mk.injEq] at hv
    obtain ⟨rfl, _⟩ := hv
    simp [execOp, ex, AV.val, Op.unary]
  · rename_i k n hx
    have ex := evA_ok hs hg hx
    simp only [Option.some.injEq, Prod.mk.injEq] at hv
    obtain ⟨rfl, _⟩ := hv
    simp [execOp, ex, AV.val, Op.unary, Op.intArith, wrapF_eq]
  · rename_i k n hx
    have ex := evA_ok hs hg hx
    split at hv
    case h_2 => cases hv
    rename_i hk
    split at hv
    case h_2 => cases hv
    rename_i r hr
    simp only [Option.some.injEq, Prod.mk.injEq] at hv
    obtain ⟨rfl, _⟩ := hv
    have := intOp_ok (P := P) (ν := ν) (w := w) (xt := 0) hr rfl
    simp only [binOp, ne_eq, not_true_eq_false, if_false] at this
    simp only [execOp, ex, AV.val, Op.unary, hk, Bool.false_eq_true, if_false, Sem.run_bind, this, Result.andThen_ok]
    rfl
  · cases hv

theorem run_equalIn_func_nil {t : TypeId} {m1 m2 : Array TypeId} {m3 : Bool} (d : Nat) {f : Fn} {x y : Array Value} (h : P.underlying t = some (.func m1 m2 m3)) : (Op.equalIn (d + 1) t (.func f x y) .nilFunc).run P w = .ok false w := by
  simp [Op.equalIn, run_underlying h]
theorem run_eql_func_nil {t : TypeId} {m1 m2 : Array TypeId} {m3 : Bool} {f : Fn} {x y : Array Value} (h : P.underlying t = some (.func m1 m2 m3)) : (binOp .eql t (.func f x y) .nilFunc).run P w = .ok (.bool false) w := by
  simp only [binOp]
  simp [Op.equal, Op.maxDepth, run_equalIn_func_nil 9999 h]
theorem run_neq_func_nil {t : TypeId} {m1 m2 : Array TypeId} {m3 : Bool} {f : Fn} {x y : Array Value} (h : P.underlying t = some (.func m1 m2 m3)) : (binOp .neq t (.func f x y) .nilFunc).run P w = .ok (.bool true) w := by
  simp only [binOp]
  simp [Op.equal, Op.maxDepth, run_equalIn_func_nil 9999 h]
set_option maxHeartbeats 1000000 in
include hs hg hb in
theorem vop_binOp {op : BinOp} {xt yt : TypeId} {x y : Operand} (hv : vBinOp TT.tab G env h op xt x y yt = some (av, rd)) (hr : ∀ i o, rd = some i → h.at i = some o → o.fact ν i w) : (execOp a.eval ⟨dst, .binOp op xt x y yt, ty, pos, af, gu⟩).run P w = .ok (.value (av.val ν)) w := by
  have fin : ∀ {u v r : Value}, a.eval x = u → a.eval y = v → (eqGuard op xt x y u v).run P w = .ok () w → (binOp op xt u v).run P w = .ok r w → (execOp a.eval ⟨dst, .binOp op xt x y yt, ty, pos, af, gu⟩).run P w = .ok (.value r) w := by
    intro u v r h1 h2 h3 h4
    simp only [execOp, h1, h2, Sem.run_bind, h3, Result.andThen_ok, h4, Sem.run_pure]
  unfold vBinOp at hv
  split at hv
  · rename_i k p k' q hx hy
    split at hv
    · split at hv
      case h_2 => cases hv
      rename_i r hrr
      simp only [Option.some.injEq, Prod.mk.injEq] at hv
      obtain ⟨rfl, _⟩ := hv
      exact fin (evA_ok hs hg hx) (evA_ok hs hg hy) eqGuard_int (shiftOp_ok hrr)
    · rename_i hsh
      split at hv
      case h_2 => cases hv
      rename_i hk
      have := kindEq_eq hk
      subst this
      split at hv
      case h_2 => cases hv
      rename_i r hrr
      simp only [Option.some.injEq, Prod.mk.injEq] at hv
      obtain ⟨rfl, _⟩ := hv
      exact fin (evA_ok hs hg hx) (evA_ok hs hg hy) eqGuard_int (intOp_ok hrr hsh)
  · rename_i p q hx hy
    split at hv
    case h_2 => cases hv
    rename_i r hrr
    simp only [Option.some.injEq, Prod.mk.injEq] at hv
    obtain ⟨rfl, _⟩ := hv
    exact fin (evA_ok hs hg hx) (evA_ok hs hg hy) eqGuard_str (strOp_ok hrr)
  · rename_i p q hx hy
    split at hv <;> first | (cases hv; done) | skip
    · rename_i ht
      obtain ⟨d, h1, h2⟩ := sl_desc TT ht
      cases h2
      simp only [Option.some.injEq, Prod.mk.injEq] at hv
      obtain ⟨rfl, _⟩ := hv
      exact fin (evA_ok hs hg hx) (evA_ok hs hg hy) rfl (run_eql_bool w xt p q h1)
    · rename_i ht
      obtain ⟨d, h1, h2⟩ := sl_desc TT ht
      cases h2
      simp only [Option.some.injEq, Prod.mk.injEq] at hv
      obtain ⟨rfl, _⟩ := hv
      exact fin (evA_ok hs hg hx) (evA_ok hs hg hy) rfl (run_neq_bool w xt p q h1)
  · rename_i i off hx hy
    split at hv
    case h_2 => cases hv
    rename_i e o ht ho
    obtain ⟨d, h1, h2⟩ := sl_desc TT ht
    cases h2
    have hp : P.underlying xt = some (.pointer (P.pointee xt)) := by simp [Program.pointee, h1]
    split at hv <;> first | (cases hv; done) | skip
    · rename_i hbk
      obtain ⟨b, hbb⟩ := hb _ _ ho hbk
      simp only [Option.some.injEq, Prod.mk.injEq] at hv
      obtain ⟨rfl, _⟩ := hv
      have := run_eql_pointer_nil w xt ((ν i).adr.map (·.add off)) hp
      refine fin (evA_ok hs hg hx) (evA_ok hs hg hy) eqGuard_ptr (this.trans ?_)
      simp [hbb, En.adr, AV.val]
    · rename_i hbk
      obtain ⟨b, hbb⟩ := hb _ _ ho hbk
      simp only [Option.some.injEq, Prod.mk.injEq] at hv
      obtain ⟨rfl, _⟩ := hv
      have := run_neq_pointer_nil w xt ((ν i).adr.map (·.add off)) hp
      refine fin (evA_ok hs hg hx) (evA_ok hs hg hy) eqGuard_ptr (this.trans ?_)
      simp [hbb, En.adr, AV.val]
  · rename_i hx hy
    split at hv <;> first | (cases hv; done) | skip
    all_goals
      rename_i e ht
      obtain ⟨d, h1, h2⟩ := sl_desc TT ht
      cases h2
      have hp : P.underlying xt = some (.pointer (P.pointee xt)) := by simp [Program.pointee, h1]
      simp only [Option.some.injEq, Prod.mk.injEq] at hv
      obtain ⟨rfl, _⟩ := hv
    · exact fin (evA_ok hs hg hx) (evA_ok hs hg hy) eqGuard_ptr ((run_eql_pointer_nil w xt none hp).trans rfl)
    · exact fin (evA_ok hs hg hx) (evA_ok hs hg hy) eqGuard_ptr ((run_neq_pointer_nil w xt none hp).trans rfl)
  · rename_i i hx hy
    split at hv <;> first | (cases hv; done) | skip
    all_goals
      rename_i k e ht
      obtain ⟨d, h1, h2⟩ := sl_desc TT ht
      cases h2
      simp only [Option.some.injEq, Prod.mk.injEq] at hv
      obtain ⟨rfl, _⟩ := hv
    · exact fin (evA_ok hs hg hx) (evA_ok hs hg hy) rfl ((run_eql_map_nil w xt k e _ h1).trans rfl)
    · exact fin (evA_ok hs hg hx) (evA_ok hs hg hy) rfl ((run_neq_map_nil w xt k e _ h1).trans rfl)
  · rename_i hx hy
    split at hv <;> first | (cases hv; done) | skip
    all_goals
      rename_i k e ht
      obtain ⟨d, h1, h2⟩ := sl_desc TT ht
      cases h2
      simp only [Option.some.injEq, Prod.mk.injEq] at hv
      obtain ⟨rfl, _⟩ := hv
    · exact fin (evA_ok hs hg hx) (evA_ok hs hg hy) rfl ((run_eql_map_nil w xt k e _ h1).trans rfl)
    · exact fin (evA_ok hs hg hx) (evA_ok hs hg hy) rfl ((run_neq_map_nil w xt k e _ h1).trans rfl)
  · rename_i hx hy
    split at hv <;> first | (cases hv; done) | skip
    all_goals
      rename_i e ht
      obtain ⟨d, h1, h2⟩ := sl_desc TT ht
      cases h2
      simp only [Option.some.injEq, Prod.mk.injEq] at hv
      obtain ⟨rfl, _⟩ := hv
    · exact fin (evA_ok hs hg hx) (evA_ok hs hg hy) rfl ((Lib.run_eql_slice_nil w xt e _ _ _ _ _ h1).trans rfl)
    · exact fin (evA_ok hs hg hx) (evA_ok hs hg hy) rfl ((run_neq_slice_nil_any w xt e _ _ _ _ _ h1).trans rfl)
  · rename_i i _ _ _ _ hx hy
    split at hv
    case h_2 => cases hv
    rename_i e o ht ho
    obtain ⟨d, h1, h2⟩ := sl_desc TT ht
    cases h2
    split at hv <;> first | (cases hv; done) | skip
    all_goals
      rename_i hsm
      simp only [Option.some.injEq, Prod.mk.injEq] at hv
      obtain ⟨rfl, rfl⟩ := hv
      obtain ⟨ad, had⟩ := Option.isSome_iff_exists.1 (some_adr hsm (hr _ _ rfl ho))
    · refine fin (evA_ok hs hg hx) (evA_ok hs hg hy) rfl ((Lib.run_eql_slice_nil w xt e _ _ _ _ _ h1).trans ?_)
      rw [had]; rfl
    · refine fin (evA_ok hs hg hx) (evA_ok hs hg hy) rfl ((run_neq_slice_nil_any w xt e _ _ _ _ _ h1).trans ?_)
      rw [had]; rfl
  · rename_i u v hx hy
    split at hv <;> first | (cases hv; done) | skip
    all_goals
      rename_i ht
      obtain ⟨d, h1, m, h2⟩ := sl_desc TT ht
      subst h2
      have hp : P.underlying xt = some (.interface (P.methodsAt xt)) := by simp [Program.methodsAt, h1]
      simp only [Option.some.injEq, Prod.mk.injEq] at hv
      obtain ⟨rfl, _⟩ := hv
    · exact fin (evA_ok hs hg hx) (evA_ok hs hg hy) rfl (run_eql_held_nil w xt _ _ hp)
    · exact fin (evA_ok hs hg hx) (evA_ok hs hg hy) rfl (run_neq_held_nil w xt _ _ hp)
  · rename_i hx hy
    split at hv <;> first | (cases hv; done) | skip
    all_goals
      rename_i ht
      obtain ⟨d, h1, m, h2⟩ := sl_desc TT ht
      subst h2
      have hp : P.underlying xt = some (.interface (P.methodsAt xt)) := by simp [Program.methodsAt, h1]
      simp only [Option.some.injEq, Prod.mk.injEq] at hv
      obtain ⟨rfl, _⟩ := hv
    · exact fin (evA_ok hs hg hx) (evA_ok hs hg hy) (by simp [AV.val, eqGuard]) (run_eql_nil_nil w xt hp)
    · exact fin (evA_ok hs hg hx) (evA_ok hs hg hy) (by simp [AV.val, eqGuard]) (run_neq_nil_nil w xt hp)
  · rename_i u v z hx hy
    split at hv <;> first | (cases hv; done) | skip
    all_goals
      rename_i ht
      obtain ⟨d, h1, m1, m2, m3, h2⟩ := sl_desc TT ht
      subst h2
      simp only [Option.some.injEq, Prod.mk.injEq] at hv
      obtain ⟨rfl, _⟩ := hv
    · exact fin (evA_ok hs hg hx) (evA_ok hs hg hy) rfl (run_eql_func_nil h1)
    · exact fin (evA_ok hs hg hx) (evA_ok hs hg hy) rfl (run_neq_func_nil h1)
  · cases hv
end
end Go.Ex
