/-
  The runner is right: operations that turn memory, kind by kind.
-/
import Derived.Test.YtkoojoeimdfkgaaGreatDoorExK
import Derived.Laws.MakeOwn
namespace Go.Ex
open Go Go.RowKit Go.Sx

/-- what an operation leaves behind -/
def outN (ν : Vl) : Option AV → Next
  | some r => .value (r.val ν)
  | none => .skip
theorem cellsB_oneL {l : List AV} (h : cellsB l = true) (ν : Vl) : oneL (AV.vals ν l) = true := by
  induction l with
  | nil => rfl
  | cons a l ih =>
    simp only [cellsB, Bool.and_eq_true] at h
    simp only [AV.vals, oneL, Bool.and_eq_true]
    exact ⟨cellB_one h.1 ν, ih h.2⟩
theorem not_beq {a b : Nat} (h : (!Nat.beq a b) = true) : Nat.beq a b = false := by simpa using h
/-- a block with its own world -/
theorem Sat.blkAt {w w' : World} {b : Nat} {O O' : Obj} {L : List Chunk} (h : Sat w (blk b O :: L)) (h0 : w' = { w with heap := w.heap.setIfInBounds b O' }) : Sat w' (blk b O' :: L) := by
  subst h0
  have hb := h.blk
  have hlt : b < w.heap.size := (Array.getElem?_eq_some_iff.1 hb).1
  refine h.setBlk rfl rfl rfl (by simp) (by simp [hlt]) (fun k hk => ?_)
  simp [Ne.symm hk]

section
variable {P : Program} (TT : TyTab P) {G : Nat → Option Nat} {env : T AV} {h h' : Heap} {a : Act} {ν : Vl} {w : World} {N nb id : Nat} {ro : Option AV}
variable (hs : Slots ν env a.tmps) (hg : GOk ν G) (hm : Mem ν N h w) (hN : N ≤ nb) (hf : Fresh ν G id env h)
variable {dst : Option Tmp} {ty : TypeId} {pos : String} {af : Array Edge} {gu : Option (Nat × Bool)}

include hm hN hf in
/-- a new block of plain cells -/
theorem new_cel {op : Op} {t : Nat} {l : List AV} (hn : h.new nb id (.cel t l) = some h') (hl : ∀ ν', Off id ν ν' → AV.vals ν' l = AV.vals ν l) {r : AV}
    (hr : ∀ b, (r.val (ν.put id (.blk b))) = .pointer (some ⟨b, 0, none⟩) ∨ ∃ m c, r.val (ν.put id (.blk b)) = .slice (some ⟨b, 0, none⟩) m c)
    (hac : ∃ v w' b, (execOp a.eval ⟨dst, op, ty, pos, af, gu⟩).run P w = .ok (.value v) w' ∧ Sat w' (cel b t (AV.vals ν l) :: chunks ν h.toL) ∧ v = r.val (ν.put id (.blk b))) :
    ∃ ν' w', Off id ν ν' ∧ (execOp a.eval ⟨dst, op, ty, pos, af, gu⟩).run P w = .ok (outN ν' (some r)) w' ∧ Mem ν' nb h' w' := by
  obtain ⟨v, w', b, h1, h2, rfl⟩ := hac
  exact ⟨ν.put id (.blk b), w', Vl.put_off _ _ _, h1, hm.new hN hf hn (Vl.put_off _ _ _) (cel_sat (Vl.put_at ..) (hl _ (Vl.put_off _ _ _)).symm h2)⟩

theorem ptr_new (id b : Nat) : (AV.ptr id 0).val (ν.put id (.blk b)) = .pointer (some ⟨b, 0, none⟩) := by
  simp only [AV.val, Vl.put_at, En.adr, Option.map_some, add_off, Nat.add_zero]
theorem sl_new (id b l c : Nat) : (AV.sl id 0 l c false).val (ν.put id (.blk b)) = .slice (some ⟨b, 0, none⟩) l c := by
  simp only [AV.val, Vl.put_at, En.adr, Option.map_some, add_off, Nat.add_zero, Bool.false_eq_true, if_false]

include hs hg hm hN hf in
theorem eff_alloc {t : TypeId} (hv : eAlloc TT.tab G nb env h id t = some (ro, h')) : ∃ ν' w', Off id ν ν' ∧ (execOp a.eval ⟨dst, .alloc t, ty, pos, af, gu⟩).run P w = .ok (outN ν' ro) w' ∧ Mem ν' nb h' w' := by
  have _ := hs
  have _ := hg
  unfold eAlloc at hv
  split at hv
  case h_2 => cases hv
  rename_i i ht
  split at hv
  case h_2 => cases hv
  rename_i l hl
  split at hv
  case h_2 => cases hv
  rename_i hc
  simp only [Bool.and_eq_true] at hc
  split at hv
  case h_2 => cases hv
  rename_i h1 hn
  simp only [Option.some.injEq, Prod.mk.injEq] at hv
  obtain ⟨rfl, rfl⟩ := hv
  have hz := zeroA_ok ν hl
  refine new_cel hm hN hf hn (fun ν' _ => by rw [zeroA_ok ν' hl, zeroA_ok ν hl]) (fun b => Or.inl (ptr_new id b)) ?_
  obtain ⟨v, w', L', h2, h3, b, rfl, rfl⟩ := ac_alloc (ds := a.defers) (dst := dst) (ty := ty) (pos := pos) (af := af) (gu := gu) TT ht hz.symm (cellsB_oneL hc.1 ν) (by rw [AV.vals_length]; exact not_beq hc.2) a w (ok_full a) hm.sat
  exact ⟨_, w', b, h2, h3, (ptr_new id b).symm⟩

include hs hg hm hN hf in
theorem eff_box {t : TypeId} {x : Operand} (hv : eBox TT.tab G nb env h id t x = some (ro, h')) : ∃ ν' w', Off id ν ν' ∧ (execOp a.eval ⟨dst, .box t x, ty, pos, af, gu⟩).run P w = .ok (outN ν' ro) w' ∧ Mem ν' nb h' w' := by
  unfold eBox at hv
  split at hv
  case h_2 => cases hv
  rename_i u hx
  split at hv
  case h_2 => cases hv
  rename_i hc
  split at hv
  case h_2 => cases hv
  rename_i h1 hn
  simp only [Option.some.injEq, Prod.mk.injEq] at hv
  obtain ⟨rfl, rfl⟩ := hv
  refine new_cel hm hN hf hn (fun ν' ho => vals_cells (hf.ev ho hx) hc) (fun b => Or.inl (ptr_new id b)) ?_
  obtain ⟨v, w', L', h2, h3, b, rfl, rfl⟩ := ac_box (P := P) (ds := a.defers) (dst := dst) (ty := ty) (pos := pos) (af := af) (gu := gu) (t := t) (evE hs hg hx) ⟨cells_ok ν hc, cellsB_one hc ν⟩ a w (ok_full a) hm.sat
  exact ⟨_, w', b, h2, h3, (ptr_new id b).symm⟩

include hs hg hm hN hf in
theorem eff_buildSlice {t : TypeId} {len : Nat} {ps : Array (Nat × Operand)} (hv : eBuildSlice TT.tab G nb env h id t len ps = some (ro, h')) : ∃ ν' w', Off id ν ν' ∧ (execOp a.eval ⟨dst, .buildSlice t len ps, ty, pos, af, gu⟩).run P w = .ok (outN ν' ro) w' ∧ Mem ν' nb h' w' := by
  unfold eBuildSlice at hv
  split at hv
  case h_2 => cases hv
  rename_i vs e hps htk
  obtain ⟨i, ht, hik⟩ := Ty_desc htk
  split at hv
  case h_2 => cases hv
  rename_i j hj
  split at hv
  case h_2 => cases hv
  rename_i z hz
  split at hv
  case h_2 => cases hv
  rename_i hc
  simp only [Bool.and_eq_true] at hc
  obtain ⟨⟨⟨hc1, hc2⟩, hc3⟩, hc4⟩ := hc
  split at hv
  case h_2 => cases hv
  rename_i l hl
  split at hv
  case h_2 => cases hv
  rename_i h1 hcl hn
  simp only [Option.some.injEq, Prod.mk.injEq] at hv
  obtain ⟨rfl, rfl⟩ := hv
  have e1 := evPE hs hg hps
  have hb := fun ν => bldSA_ok ν j.size (partsB_ok ν hc4) hl
  have hzl : Nat.beq j.zero.length j.size = true := by
    rw [← zeroA_ok ν hz, AV.vals_length]
    rw [lenA_eq, Nat.add_zero] at hc1
    exact hc1
  refine new_cel hm hN hf hn (fun ν' ho => ?_) (fun b => Or.inr ⟨_, _, sl_new id b _ _⟩) ?_
  · have h2 := hb ν'
    have h3 := hb ν
    have h4 : (vs.map fun x => (x.1, x.2.val ν')) = vs.map fun x => (x.1, x.2.val ν) := List.map_congr_left fun x hx => by rw [hf.ps ho hps x hx]
    rw [h4, repsA_ok, zeroA_ok ν' hz] at h2
    rw [repsA_ok, zeroA_ok ν hz, h2] at h3
    injection h3
  · have hb' := hb ν
    rw [repsA_ok, zeroA_ok ν hz] at hb'
    have e2 : evP (full a) ps.toList = some (vs.map fun x => (x.1, x.2.val ν)) := e1
    obtain ⟨v, w', L', h2, h3, b, rfl, rfl⟩ := ac_buildSlice (ds := a.defers) (dst := dst) (ty := ty) (pos := pos) (af := af) (gu := gu) TT ht hik hj hzl (not_beq hc2) hc3 e2 hb' a w (ok_full a) hm.sat
    exact ⟨_, w', b, by simpa using h2, h3, (sl_new id b _ _).symm⟩

include hs hg hm hN hf in
theorem eff_makeSlice {t : TypeId} {x y : Operand} (hv : eMakeSlice TT.tab G nb env h id t x y = some (ro, h')) : ∃ ν' w', Off id ν ν' ∧ (execOp a.eval ⟨dst, .makeSlice t x y, ty, pos, af, gu⟩).run P w = .ok (outN ν' ro) w' ∧ Mem ν' nb h' w' := by
  unfold eMakeSlice at hv
  split at hv
  case h_2 => cases hv
  rename_i k l k' c e hx hy htk
  have ex := evA_ok hs hg hx
  have ey := evA_ok hs hg hy
  obtain ⟨d, h1, h2⟩ := sl_desc TT htk
  cases h2
  split at hv
  case h_2 => cases hv
  rename_i j hj
  split at hv
  case h_2 => cases hv
  rename_i z hz
  split at hv
  case h_2 => cases hv
  rename_i hc
  simp only [Bool.and_eq_true] at hc
  obtain ⟨⟨⟨⟨⟨hc1, hc2⟩, hc3⟩, hc4⟩, hc5⟩, hc6⟩ := hc
  rw [spine_eq] at hv
  split at hv
  case h_2 => cases hv
  rename_i h3 hn
  simp only [Option.some.injEq, Prod.mk.injEq] at hv
  obtain ⟨rfl, rfl⟩ := hv
  have hzl : j.zero.length = j.size := by
    rw [← zeroA_ok ν hz, AV.vals_length]
    rw [lenA_eq, Nat.add_zero] at hc1
    exact Nat.eq_of_beq_eq_true hc1
  have hne := Nat.ne_of_beq_eq_false (not_beq hc2)
  have hlc := Nat.le_of_ble_eq_true hc4
  have hcm := blt_lt hc5
  have hbm := blt_lt hc6
  obtain ⟨f, zz, f1, f2, f3, f4, f5, _⟩ := zero_val (TT.ok hj) (by intro h0; rw [h0] at hzl; exact hne hzl.symm)
  have hbytes : (f.bytes : Int) * Int.ofNat c ≤ 281474976710656 := by
    rw [f3]
    simp only [Int.ofNat_eq_natCast]
    have : j.bytes * c ≤ 1000000 * 1000000 := Nat.mul_le_mul (by omega) (by omega)
    have h' : ((j.bytes * c : Nat) : Int) ≤ 281474976710656 := by omega
    rwa [Int.natCast_mul] at h'
  have hrun := run_make (P := P) w t e f zz h1 f1 f4 k k' (Int.ofNat l) (Int.ofNat c) (ofNat_nonneg l) (by simp only [Int.ofNat_eq_natCast]; omega) hbytes (by simp only [Int.ofNat_eq_natCast]; omega)
  refine new_cel hm hN hf hn (fun ν' ho => by rw [repsA_ok, repsA_ok, zeroA_ok ν' hz, zeroA_ok ν hz]) (fun b => Or.inr ⟨_, _, sl_new id b _ _⟩) ?_
  refine ⟨_, _, w.heap.size, ?_, hm.sat.alloc (.cells (AV.vals ν (repsA c z)).toArray e (0, 0)), (sl_new id _ _ _).symm⟩
  have hcells : madeCells zz.cells ((Int.ofNat c).toNat * f.size) = (AV.vals ν (repsA c z)).toArray := by
    unfold madeCells
    rw [f5, f2, ← hzl, repsA_ok, zeroA_ok ν hz]
    exact range_reps j.zero c
  rw [hcells] at hrun
  simp only [execOp, ex, ey, AV.val, Sem.run_bind, hrun, Result.andThen_ok, Sem.run_pure]
  rfl

include hs hg hm hN hf in
theorem eff_makeMap {t : TypeId} {r : Option Operand} (hv : eMakeMap TT.tab G nb env h id t r = some (ro, h')) : ∃ ν' w', Off id ν ν' ∧ (execOp a.eval ⟨dst, .makeMap t r, ty, pos, af, gu⟩).run P w = .ok (outN ν' ro) w' ∧ Mem ν' nb h' w' := by
  have _ := hs
  have _ := hg
  have key : ∀ kd, h.new nb id (.map kd [] 0) = some h' → r = none → ro = some (.map id) → ∃ ν' w', Off id ν ν' ∧ (execOp a.eval ⟨dst, .makeMap t r, ty, pos, af, gu⟩).run P w = .ok (outN ν' ro) w' ∧ Mem ν' nb h' w' := by
    rintro kd hn rfl rfl
    refine ⟨ν.put id (.blk w.heap.size), _, Vl.put_off _ _ _, ?_, hm.alloc (O := .map #[] 0) hN hf hn ?_⟩
    · simp only [outN, AV.val, Vl.put_at, En.block]
      rfl
    · rintro S w' ⟨h1, h2⟩
      exact ⟨fun b hb => by rw [Vl.put_at] at hb; injection hb with hb; subst hb; exact h1, _, Vl.put_at .., h2⟩
  unfold eMakeMap at hv
  split at hv
  case h_2 => cases hv
  rename_i kt e htk
  split at hv
  · split at hv
    case h_2 => cases hv
    rename_i hn
    simp only [Option.some.injEq, Prod.mk.injEq] at hv
    obtain ⟨rfl, rfl⟩ := hv
    exact key _ hn rfl rfl
  · split at hv
    case h_2 => cases hv
    rename_i hn
    simp only [Option.some.injEq, Prod.mk.injEq] at hv
    obtain ⟨rfl, rfl⟩ := hv
    exact key _ hn rfl rfl
  · cases hv

include hs hg hm hN hf in
theorem eff_store {t : TypeId} {x y : Operand} (hv : eStore TT.tab G nb env h id t x y = some (ro, h')) : ∃ ν' w', Off id ν ν' ∧ (execOp a.eval ⟨dst, .store t x y, ty, pos, af, gu⟩).run P w = .ok (outN ν' ro) w' ∧ Mem ν' nb h' w' := by
  have _ := hf
  unfold eStore at hv
  split at hv
  case h_2 => cases hv
  rename_i i off u ti hx hy ht
  split at hv
  case h_2 => cases hv
  rename_i e l ho
  split at hv
  case h_2 => cases hv
  rename_i hc
  simp only [Bool.and_eq_true, lenA_eq, Nat.add_zero] at hc
  obtain ⟨⟨hc1, hc2⟩, hc3⟩ := hc
  rw [spine_eq] at hv
  split at hv
  case h_2 => cases hv
  rename_i h1 hset
  simp only [Option.some.injEq, Prod.mk.injEq] at hv
  obtain ⟨rfl, rfl⟩ := hv
  obtain ⟨R, _, _, hsat, hback⟩ := hm.split hN ho hset
  obtain ⟨b, hb, hsat⟩ := sat_cel hsat
  have hx' := evE hs hg hx
  simp only [AV.val, hb, En.adr, Option.map_some, add_off, Nat.zero_add] at hx'
  have hlen : (AV.vals ν u.cells).length = ti.size := by rw [AV.vals_length]; exact Nat.eq_of_beq_eq_true hc2
  obtain ⟨w', h2, h3⟩ := do_store (ds := a.defers) (dst := dst) (ty := ty) (pos := pos) (af := af) (gu := gu) TT hx' (evE hs hg hy) pick_here ⟨cells_ok ν hc1, cellsB_one hc1 ν⟩ ht (by rw [hlen]; simp) rfl (by rw [hlen, AV.vals_length]; exact hc3) a w (ok_full a) hsat
  refine ⟨ν, w', Off.refl _ _, h2, hback (fun _ _ => rfl) (cel_sat hb ?_ h3)⟩
  rw [vals_put]
end
end Go.Ex
