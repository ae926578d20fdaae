/-
  The runner is right: operations that turn nothing.
-/
import Derived.Test.YtkoojoeimdfkgaaGreatDoorExE
namespace Go.Ex
open Go Go.RowKit Go.Sx

theorem Ty_desc {P : Program} {T : TyTab P} {t : Nat} {k : TK} (h : tyK T.tab t = some k) : ∃ i, T.tab t = some i ∧ i.k = k := by
  unfold tyK at h
  split at h
  · rename_i i hi
    injection h with h
    exact ⟨i, hi, h⟩
  · cases h

/-! ### numbers -/
theorem bits_ofInt (k : IntKind) (m n : Nat) (hm : m < 2 ^ k.bits) (hn : n < 2 ^ k.bits) :
    (BitVec.ofInt k.bits (Int.ofNat m) &&& BitVec.ofInt k.bits (Int.ofNat n)).toNat = Nat.land m n ∧ (BitVec.ofInt k.bits (Int.ofNat m) ||| BitVec.ofInt k.bits (Int.ofNat n)).toNat = Nat.lor m n ∧ (BitVec.ofInt k.bits (Int.ofNat m) ^^^ BitVec.ofInt k.bits (Int.ofNat n)).toNat = Nat.xor m n := by
  have h : ∀ q : Nat, BitVec.ofInt k.bits (Int.ofNat q) = BitVec.ofNat k.bits q := fun q => BitVec.ofInt_natCast ..
  simp only [h]
  simp only [BitVec.toNat_and, BitVec.toNat_or, BitVec.toNat_xor, BitVec.toNat_ofNat, Nat.mod_eq_of_lt hm, Nat.mod_eq_of_lt hn]
  exact ⟨rfl, rfl, rfl⟩
section
variable {P : Program} {w : World} {xt : TypeId} {ik jk : IntKind} {p q : Int}
theorem quo_run (h0 : q ≠ 0) : (binOp .quo xt (.int ik p) (.int ik q)).run P w = .ok (.int ik (ik.wrap (p.tdiv q))) w := by simp [binOp, Op.intDiv, h0]
theorem rem_run (h0 : q ≠ 0) : (binOp .rem xt (.int ik p) (.int ik q)).run P w = .ok (.int ik (p.tmod q)) w := by simp [binOp, Op.intDiv, h0]
theorem bit_run {op : BinOp} (h : op = .and ∨ op = .or ∨ op = .xor) : (binOp op xt (.int ik p) (.int ik q)).run P w = .ok (.int ik (bitV op ik p q)) w := by rcases h with rfl | rfl | rfl <;> simp [binOp, Op.intBits, bitV]
theorem shl_run (h0 : 0 ≤ q) : (binOp .shl xt (.int ik p) (.int jk q)).run P w = .ok (.int ik (ik.wrap (p * 2 ^ (min q.toNat ik.bits)))) w := by simp [binOp, Op.shift, Int.not_lt.2 h0]
theorem shr_run (h0 : 0 ≤ q) : (binOp .shr xt (.int ik p) (.int jk q)).run P w = .ok (.int ik (p.fdiv (2 ^ (min q.toNat ik.bits)))) w := by simp [binOp, Op.shift, Int.not_lt.2 h0]
theorem leq_run : (binOp .leq xt (.int ik p) (.int ik q)).run P w = .ok (.bool (decide (p ≤ q))) w := by simp [binOp, Op.intCmp]
theorem geq_run : (binOp .geq xt (.int ik p) (.int ik q)).run P w = .ok (.bool (decide (q ≤ p))) w := by simp [binOp, Op.intCmp]
end
theorem not_lt_le (a b : Int) : (!decide (a < b)) = decide (b ≤ a) := by
  rw [Bool.eq_iff_iff]
  simp
theorem ofNat_nonneg (n : Nat) : (0 : Int) ≤ Int.ofNat n := Int.natCast_nonneg n
theorem intOp_ok {P : Program} {ν : Vl} {w : World} {op : BinOp} {xt : TypeId} {k : IntKind} {x y : Int} {r : AV} (h : intOp op k x y = some r) (hn : isShift op = false) : (binOp op xt (.int k x) (.int k y)).run P w = .ok (r.val ν) w := by
  cases op <;> simp only [intOp, iv, bv', Option.some.injEq] at h <;> first | (cases hn; done) | (cases h; done) | (subst h; simp [binOp, Op.intArith, Op.intCmp, AV.val, wrapF_eq, ilt_eq, ieq_eq]; done) | skip
  case leq => subst h; rw [leq_run, ilt_eq, not_lt_le]; rfl
  case geq => subst h; rw [geq_run, ilt_eq, not_lt_le]; rfl
  case eql => subst h; simp only [binOp, Op.intCmp, AV.val, ieq_eq]; simp; rfl
  case neq => subst h; simp only [binOp, Op.intCmp, AV.val, ieq_eq]; simp [bne]; rfl
  case quo =>
    split at h
    case h_2 => cases h
    rename_i m n
    injection h with h
    subst h
    have : (Int.ofNat (n + 1)) ≠ 0 := by simp only [Int.ofNat_eq_natCast]; omega
    rw [quo_run this, wrapF_eq]
    rfl
  case rem =>
    split at h
    case h_2 => cases h
    rename_i m n
    injection h with h
    subst h
    have : (Int.ofNat (n + 1)) ≠ 0 := by simp only [Int.ofNat_eq_natCast]; omega
    rw [rem_run this]
    rfl
  case and =>
    split at h
    case h_2 => cases h
    split at h
    case h_2 => cases h
    rename_i m n _ hb
    simp only [Bool.and_eq_true] at hb
    injection h with h
    subst h
    rw [bit_run (Or.inl rfl)]
    simp only [AV.val, wrapF_eq, bitV, (bits_ofInt k m n (blt_lt hb.1) (blt_lt hb.2)).1]
    rfl
  case or =>
    split at h
    case h_2 => cases h
    split at h
    case h_2 => cases h
    rename_i m n _ hb
    simp only [Bool.and_eq_true] at hb
    injection h with h
    subst h
    rw [bit_run (Or.inr (Or.inl rfl))]
    simp only [AV.val, wrapF_eq, bitV, (bits_ofInt k m n (blt_lt hb.1) (blt_lt hb.2)).2.1]
    rfl
  case xor =>
    split at h
    case h_2 => cases h
    split at h
    case h_2 => cases h
    rename_i m n _ hb
    simp only [Bool.and_eq_true] at hb
    injection h with h
    subst h
    rw [bit_run (Or.inr (Or.inr rfl))]
    simp only [AV.val, wrapF_eq, bitV, (bits_ofInt k m n (blt_lt hb.1) (blt_lt hb.2)).2.2]
    rfl
theorem shiftOp_ok {P : Program} {ν : Vl} {w : World} {op : BinOp} {xt : TypeId} {k k' : IntKind} {x y : Int} {r : AV} (h : shiftOp op k x y = some r) : (binOp op xt (.int k x) (.int k' y)).run P w = .ok (r.val ν) w := by
  unfold shiftOp at h
  split at h
  · rename_i n
    split at h
    case h_2 => cases h
    rename_i m
    injection h with h
    subst h
    rw [shl_run (ofNat_nonneg n), wrapF_eq]
    simp only [AV.val, Int.ofNat_eq_natCast, Int.toNat_natCast]
    norm_cast
  · rename_i n
    split at h
    case h_2 => cases h
    rename_i m
    injection h with h
    subst h
    rw [shr_run (ofNat_nonneg n)]
    simp only [AV.val, Int.ofNat_eq_natCast, Int.toNat_natCast]
    rw [Int.fdiv_eq_ediv_of_nonneg _ (Int.pow_nonneg (by decide))]
    norm_cast
  · cases h
theorem strOp_ok {P : Program} {ν : Vl} {w : World} {op : BinOp} {xt : TypeId} {x y : List UInt8} {r : AV} (h : strOp op x y = some r) : (binOp op xt (.string (str x)) (.string (str y))).run P w = .ok (r.val ν) w := by
  have e1 : (str x).toList = x := by simp [str]
  have e2 : (str y).toList = y := by simp [str]
  cases op <;> simp only [strOp, bv', Option.some.injEq, spine_eq] at h <;> first | (cases h; done) | (subst h; simp [binOp, Op.stringOp, AV.val, e1, e2, bytesEq_eq, bytesLt_eq]; done) | skip
  case add =>
    split at h
    case h_2 => cases h
    rename_i hb
    have := blt_lt hb
    injection h with h
    subst h
    have hmax : ¬ (((str x).size + (str y).size : Nat) : Int) > IntKind.i64.max := by
      simp only [str_size, IntKind.max, IntKind.signed, IntKind.bits, if_true]
      omega
    simp only [binOp, Op.stringOp, hmax, if_false, Sem.run_pure, AV.val]
    congr 2
theorem eqGuard_int {P : Program} {w : World} {op : BinOp} {t : TypeId} {x y : Operand} {k k' : IntKind} {a b : Int} : (eqGuard op t x y (.int k a) (.int k' b)).run P w = .ok () w := by cases op <;> rfl
theorem eqGuard_str {P : Program} {w : World} {op : BinOp} {t : TypeId} {x y : Operand} {a b : ByteArray} : (eqGuard op t x y (.string a) (.string b)).run P w = .ok () w := by cases op <;> rfl
theorem eqGuard_ptr {P : Program} {w : World} {op : BinOp} {t : TypeId} {x y : Operand} {a b : Option Addr} : (eqGuard op t x y (.pointer a) (.pointer b)).run P w = .ok () w := by cases op <;> rfl
theorem kindEq_eq {a b : IntKind} (h : kindEq a b = true) : a = b := by
  unfold kindEq at h
  exact eq_of_beq h

/-- slots of a literal -/
theorem bldA_ok (ν : Vl) (tab : Nat → Option TyI) (fs : List (Nat × Nat)) : ∀ {ps : List (Nat × AV)} {z l : List AV}, (∀ x ∈ ps, (x.2.val ν).cells.toList = AV.vals ν x.2.cells) → bldA tab fs z ps = some l → bld tab fs (AV.vals ν z) (ps.map fun x => (x.1, x.2.val ν)) = some (AV.vals ν l)
  | [], z, l, _, h => by simp only [bldA, Option.some.injEq] at h; subst h; rfl
  | (i, v) :: r, z, l, hc, h => by
    simp only [bldA] at h
    split at h
    case h_2 => cases h
    rename_i o ft hfs
    split at h
    case h_2 => cases h
    rename_i j hj
    split at h
    case h_2 => cases h
    rename_i hb
    have hv := hc (i, v) (List.mem_cons_self ..)
    have ih := bldA_ok ν tab fs (fun x hx => hc x (List.mem_cons_of_mem _ hx)) h
    simp only [lenA_eq, Nat.add_zero] at hb
    simp only at hv
    simp only [List.map_cons, bld, hfs, hj, hv, AV.vals_length, hb]
    rw [vals_put] at ih
    exact ih
theorem bldSA_ok (ν : Vl) (sz : Nat) : ∀ {ps : List (Nat × AV)} {z l : List AV}, (∀ x ∈ ps, (x.2.val ν).cells.toList = AV.vals ν x.2.cells) → bldSA sz z ps = some l → bldS sz (AV.vals ν z) (ps.map fun x => (x.1, x.2.val ν)) = some (AV.vals ν l)
  | [], z, l, _, h => by simp only [bldSA, Option.some.injEq] at h; subst h; rfl
  | (i, v) :: r, z, l, hc, h => by
    simp only [bldSA] at h
    split at h
    case h_2 => cases h
    rename_i hb
    have hv := hc (i, v) (List.mem_cons_self ..)
    have ih := bldSA_ok ν sz (fun x hx => hc x (List.mem_cons_of_mem _ hx)) h
    simp only [lenA_eq, Nat.add_zero] at hb
    simp only at hv
    simp only [List.map_cons, bldS, hv, AV.vals_length, hb]
    rw [vals_put] at ih
    exact ih
theorem repsA_ok (ν : Vl) : ∀ (m : Nat) (z : List AV), AV.vals ν (repsA m z) = reps m (AV.vals ν z)
  | 0, _ => rfl
  | m + 1, z => by simp only [repsA, reps, vals_append, repsA_ok ν m z]
theorem partsB_ok (ν : Vl) : ∀ {ps : List (Nat × AV)}, partsB ps = true → ∀ x ∈ ps, (x.2.val ν).cells.toList = AV.vals ν x.2.cells
  | [], _, _, h => by cases h
  | (i, v) :: r, hp, x, hx => by
    simp only [partsB, Bool.and_eq_true] at hp
    rcases List.mem_cons.1 hx with rfl | hx
    · exact cells_ok ν hp.1
    · exact partsB_ok ν hp.2 x hx
end Go.Ex
