/-
  The runner is right: iterators, deletion, all operations that turn memory.
-/
import Derived.Test.YtkoojoeimdfkgaaGreatDoorExO
namespace Go.Ex
open Go Go.RowKit Go.Sx

section
variable {P : Program} {w : World}
theorem run_getObj {b : Nat} {O : Obj} (hb : w.heap[b]? = some O) (hc : ∀ c e f, O ≠ .cells c e f) : (getObj b).run P w = .ok O w := by
  simp only [getObj, Sem.run, hb]
theorem run_setObj {b : Nat} {O O' : Obj} (hb : w.heap[b]? = some O) (hc : ∀ c e f, O ≠ .cells c e f) : (setObj b O').run P w = .ok () { w with heap := w.heap.setIfInBounds b O' } := by
  simp only [setObj, Sem.run, hb]
theorem run_choose_one : (choose (.mapNext 1)).run P w = .ok 0 w := rfl
end

section
variable {P : Program} (TT : TyTab P) {G : Nat → Option Nat} {env : T AV} {h h' : Heap} {a : Act} {ν : Vl} {w : World} {N nb id : Nat} {ro : Option AV}
variable (hs : Slots ν env a.tmps) (hg : GOk ν G) (hm : Mem ν N h w) (hN : N ≤ nb) (hf : Fresh ν G id env h)
variable {dst : Option Tmp} {ty : TypeId} {pos : String} {af : Array Edge} {gu : Option (Nat × Bool)}

include hs hg hm hN hf in
theorem eff_next {x : Operand} {isStr : Bool} (hv : eNext TT.tab G nb env h id x isStr = some (ro, h')) : ∃ ν' w', Off id ν ν' ∧ (execOp a.eval ⟨dst, .next x isStr, ty, pos, af, gu⟩).run P w = .ok (outN ν' ro) w' ∧ Mem ν' nb h' w' := by
  have _ := hf
  unfold eNext at hv
  split at hv
  case h_2 => cases hv
  rename_i i hx
  have ex := evA_ok hs hg hx
  have fin : ∀ {b : Nat} {r : Value} {w' : World}, ν i = .blk b → (Instr.next (.pointer (some ⟨b, 0, none⟩)) false ty).run P w = .ok r w' → (execOp a.eval ⟨dst, .next x false, ty, pos, af, gu⟩).run P w = .ok (.value r) w' := by
    intro b r w' hb hr
    have ex' : a.eval x = .pointer (some ⟨b, 0, none⟩) := by rw [ex]; simp [AV.val, hb, En.adr, add_off]
    simp only [execOp, ex', Sem.run_bind, hr, Result.andThen_ok, Sem.run_pure]
  split at hv
  · rename_i since seen last ho
    simp only [Option.some.injEq, Prod.mk.injEq] at hv
    obtain ⟨rfl, rfl⟩ := hv
    obtain ⟨b, hb1, hb2⟩ := hm.fact ho
    refine ⟨ν, w, Off.refl _ _, fin hb1 ?_, hm.le hN⟩
    simp [Instr.next, run_getObj hb2 (fun _ _ _ h => by cases h), AV.val, AV.vals]
  · rename_i m since seen last ho
    obtain ⟨b, hb1, hb2⟩ := hm.fact ho
    split at hv
    case h_2 => cases hv
    rename_i kd es clock ho2
    obtain ⟨c, hc1, hc2⟩ := hm.fact ho2
    have g1 := run_getObj (P := P) hb2 (fun _ _ _ h => by cases h)
    have g2 := run_getObj (P := P) hc2 (fun _ _ _ h => by cases h)
    simp only [Option.map_some, hc1, En.block] at g1
    split at hv
    · simp only [Option.some.injEq, Prod.mk.injEq] at hv
      obtain ⟨rfl, rfl⟩ := hv
      refine ⟨ν, w, Off.refl _ _, fin hb1 ?_, hm.le hN⟩
      simp only [ents] at g2
      simp [Instr.next, g1, g2, Question.forced, AV.val, AV.vals]
    · rename_i k v bo
      split at hv
      · split at hv
        case h_2 => cases hv
        rename_i hlt
        have hlt := blt_lt hlt
        split at hv
        case h_2 => cases hv
        rename_i h2 hset
        simp only [Option.some.injEq, Prod.mk.injEq] at hv
        obtain ⟨rfl, rfl⟩ := hv
        refine ⟨ν, _, Off.refl _ _, fin hb1 ?_, set_obj hm hN ho hset rfl rfl hb1⟩
        have g3 := run_setObj (P := P) (O' := .mapIter (some c) since #[bo] clock) hb2 (fun _ _ _ h => by cases h)
        simp only [ents] at g2
        have hnot : ¬ (since ≤ bo) := by omega
        simp [Instr.next, g1, g2, hlt, hnot, Question.forced, g3, AV.val, AV.vals, hc1, En.block]
      · rename_i b'
        split at hv
        case h_2 => cases hv
        rename_i hbb
        simp only [Bool.and_eq_true] at hbb
        have e1 := Nat.eq_of_beq_eq_true hbb.1
        have e2 := blt_lt hbb.2
        subst e1
        simp only [Option.some.injEq, Prod.mk.injEq] at hv
        obtain ⟨rfl, rfl⟩ := hv
        refine ⟨ν, w, Off.refl _ _, fin hb1 ?_, hm.le hN⟩
        simp only [ents] at g2
        have hnot : ¬ (last ≤ bo) := by omega
        simp [Instr.next, g1, g2, hnot, Question.forced, AV.val, AV.vals]
      · cases hv
    · cases hv
  · cases hv

include hs hg hm hN hf in
theorem eff_entry {x : Operand} (hv : eEntry TT.tab G nb env h id x = some (ro, h')) : ∃ ν' w', Off id ν ν' ∧ (execOp a.eval ⟨dst, .entry x, ty, pos, af, gu⟩).run P w = .ok (outN ν' ro) w' ∧ Mem ν' nb h' w' := by
  have _ := hf
  unfold eEntry at hv
  split at hv
  case h_2 => cases hv
  rename_i i hx
  have ex := evA_ok hs hg hx
  split at hv
  case h_2 => cases hv
  rename_i m since seen stepped ho
  obtain ⟨b, hb1, hb2⟩ := hm.fact ho
  split at hv
  case h_2 => cases hv
  rename_i kd es clock ho2
  obtain ⟨c, hc1, hc2⟩ := hm.fact ho2
  split at hv
  case h_2 => cases hv
  rename_i k v bo b'
  split at hv
  case h_2 => cases hv
  rename_i hbb
  simp only [Bool.and_eq_true] at hbb
  have e1 := Nat.eq_of_beq_eq_true hbb.1
  have e2 := Nat.eq_of_beq_eq_true hbb.2
  subst e1; subst e2
  simp only [Option.some.injEq, Prod.mk.injEq] at hv
  obtain ⟨rfl, rfl⟩ := hv
  have g1 := run_getObj (P := P) hb2 (fun _ _ _ h => by cases h)
  have g2 := run_getObj (P := P) hc2 (fun _ _ _ h => by cases h)
  simp only [Option.map_some, hc1, En.block] at g1
  simp only [ents] at g2
  have ex' : a.eval x = .pointer (some ⟨b, 0, none⟩) := by rw [ex]; simp [AV.val, hb1, En.adr, add_off]
  refine ⟨ν, w, Off.refl _ _, ?_, hm.le hN⟩
  simp [execOp, ex', Instr.entry, g1, g2, outN, AV.val, AV.vals]

theorem appendA_cells {inp : Bool} {e : Nat} {j : TyI} {x : AV} {m : Nat} {ys : List AV} {r : Option AV × Heap} (hv : appendA inp nb h id e j x m ys = some r) : m = 0 ∨ cellsB ys = true := by
  unfold appendA at hv
  split at hv
  · rename_i h0; exact Or.inl (Nat.eq_of_beq_eq_true h0)
  · split at hv
    · cases hv
    · rename_i hc
      simp only [Bool.and_eq_true] at hc
      exact Or.inr hc.1
include hs hg hm hN hf in
theorem eff_call {c : Call} (hv : eCall TT.tab G nb env h id c = some (ro, h')) : ∃ ν' w', Off id ν ν' ∧ (execOp a.eval ⟨dst, .call c, ty, pos, af, gu⟩).run P w = .ok (outN ν' ro) w' ∧ Mem ν' nb h' w' := by
  obtain ⟨callee, args, ats⟩ := c
  unfold eCall at hv
  split at hv
  · rename_i x y t u hc ha hat
    simp only at hc ha hat
    subst hc
    have := two_list ha; subst this
    have := two_list hat; subst this
    split at hv
    case h_2 => cases hv
    rename_i xa b e uk hx hy ht hu
    have ex := evA_ok hs hg hx
    have ey := evA_ok hs hg hy
    obtain ⟨d, t1, t2⟩ := sl_desc TT ht
    cases t2
    obtain ⟨du, u1, u2⟩ := sl_desc TT hu
    split at hv
    case h_2 => cases hv
    rename_i j hj
    split at hv
    · cases hv
    rename_i hc
    simp only [Bool.or_eq_false_iff, Bool.not_eq_false'] at hc
    obtain ⟨⟨hc1, hc2⟩, hc3⟩ := hc
    have hne := Nat.ne_of_beq_eq_false hc1
    have hzl := Nat.eq_of_beq_eq_true hc2
    have hby := blt_lt hc3
    obtain ⟨f, z, f1, f2, f3, f4, f5, f6⟩ := zero_val (TT.ok hj) (by intro h0; rw [h0] at hzl; exact hne hzl.symm)
    have hzs : z.cells.size = f.size := by rw [f5, f2]; simpa using hzl
    have fin : ∀ {r : Value} {w' : World}, (Builtin.append_ #[t, u] ty #[xa.val ν, b.val ν]).run P w = .ok r w' → (execOp a.eval ⟨dst, .call ⟨.builtin .append, #[x, y], #[t, u]⟩, ty, pos, af, gu⟩).run P w = .ok (.value r) w' := by
      intro r w' hr
      simp only [execOp, resolve, invoke, builtin, Sem.run_bind, Sem.run_pure, Result.andThen_ok, List.map_toArray, List.map_cons, List.map_nil, ex, ey, hr]
    have go : ∀ {inp : Bool} {m : Nat} {ys : List AV}, ASrc P t u ty e f z inp (b.val ν) m (AV.vals ν ys) w → (∀ ν', Off id ν ν' → AV.vals ν' ys = AV.vals ν ys) → appendA inp nb h id e j xa m ys = some (ro, h') → ∃ ν' w', Off id ν ν' ∧ (execOp a.eval ⟨dst, .call ⟨.builtin .append, #[x, y], #[t, u]⟩, ty, pos, af, gu⟩).run P w = .ok (outN ν' ro) w' ∧ Mem ν' nb h' w' := by
      intro inp m ys hA hk hap
      obtain ⟨r, ν', w', rfl, e1, e2, e3⟩ := appendA_ok (ty := ty) hm hN hf hA f2 hzs (by omega) (fun ν' ho => hf.ev ho hx) hk hap
      exact ⟨ν', w', e1, fin e2, e3⟩
    split at hv
    · rename_i l
      cases u2
      split at hv
      case h_2 => cases hv
      rename_i hs1 hju0 hju
      simp only [Bool.and_eq_true] at hs1
      have hb1 := Nat.eq_of_beq_eq_true hs1.2
      have hs1 := Nat.eq_of_beq_eq_true hs1.1
      rw [spine_eq] at hv
      have hz8 : z = .int .u8 0 := by
        have h7 := zeroA_ok ν hju
        simp only [AV.vals, AV.val] at h7
        have hk : j.k.isAgg = false := by rw [hju0]; rfl
        have h8 := f6 hk
        rw [← h7] at h8
        injection h8 with h8
        exact h8.symm
      subst hz8
      refine go (ys := cellsOf l) ?_ (fun ν' _ => by rw [cellsOf_ok, cellsOf_ok]) hv
      rw [cellsOf_ok]
      exact ASrc.ofStr t1 u1 f1 f4 (by rw [f2, hs1]) (by rw [f3, hb1]) l
    · rename_i e'
      split at hv
      case h_2 => cases hv
      rename_i m ys htu hrs
      have htu := Nat.eq_of_beq_eq_true htu
      subst htu
      unfold readSl at hrs
      split at hrs
      · simp only [Option.some.injEq, Prod.mk.injEq] at hrs
        obtain ⟨rfl, rfl⟩ := hrs
        exact go (ys := []) (ASrc.ofNil t1 f1 0) (fun _ _ => rfl) hv
      · rename_i i off len cap sym
        split at hrs
        case h_2 => cases hrs
        rename_i o ho
        split at hrs
        case h_2 => cases hrs
        rename_i l hl
        split at hrs
        case h_2 => cases hrs
        rename_i cs hcs
        simp only [Option.some.injEq, Prod.mk.injEq] at hrs
        obtain ⟨rfl, rfl⟩ := hrs
        obtain ⟨p1, p2⟩ := takeA_spec hcs
        rw [dropA_eq] at p1
        have hkp : ∀ ν', Off id ν ν' → AV.vals ν' cs = AV.vals ν cs := fun ν' ho' => vals_keep fun q hq => hf.rds ho' ho hl q (List.mem_of_mem_drop (List.mem_of_mem_take (by rw [← p1]; exact hq)))
        have hrd := reads_rd hl (hm.fact ho)
        have hcell : cellsB cs = true := by
          rcases appendA_cells hv with h0 | h0
          · have : cs = [] := List.eq_nil_of_length_eq_zero (by rw [p2, h0]; simp)
            rw [this]; rfl
          · exact h0
        refine go (ys := cs) ?_ hkp hv
        simp only [AV.val]
        cases hadr : (ν i).adr with
        | none =>
          rw [hadr] at hrd
          have hl0 := rd_nonev hrd rfl
          have hlnil : l = [] := by
            cases l with
            | nil => rfl
            | cons q l => simp [AV.vals] at hl0
          rw [hlnil] at p1
          have hcsn : cs = [] := by simpa using p1
          rw [hcsn] at p2
          have hl00 : len = 0 := by
            have h9 : len * j.size = 0 := by simpa using p2.symm
            rcases Nat.mul_eq_zero.1 h9 with h9 | h9
            · exact h9
            · exact absurd h9 hne
          rw [hl00, hcsn]
          exact ASrc.ofNil t1 f1 _
        | some ad =>
          refine ASrc.ofSlice t1 f1 f4 hzs (by omega) (ad.add off) len _ (AV.vals ν cs) (by rw [AV.vals_length, p2, f2]) ?_ (cellsB_one hcell ν)
          intro q v hq
          rw [p1, vals_take, vals_drop, List.getElem?_take] at hq
          split at hq
          case isFalse => cases hq
          rw [List.getElem?_drop] at hq
          obtain ⟨ad', h6, h7⟩ := hrd _ _ hq
          rw [hadr] at h6
          injection h6 with h6
          subst h6
          rw [Addr.add_add']
          exact h7
      · cases hrs
    · rename_i k m
      cases u2
      split at hv
      case h_2 => cases hv
      rename_i zl hzA hm6
      have hm6 := blt_lt hm6
      rw [spine_eq] at hv
      refine go (ys := repsA m zl) ?_ (fun ν' _ => by rw [repsA_ok, repsA_ok, zeroA_ok ν' hzA, zeroA_ok ν hzA]) hv
      rw [repsA_ok, zeroA_ok ν hzA]
      exact ASrc.ofZeros t1 u1 f1 f4 f5 (by rw [f2]; exact hzl) (by omega) m hm6 (by omega)
    · cases hv
  · rename_i x y t t' hc ha hat
    simp only at hc ha hat
    subst hc
    have := two_list ha; subst this
    have := two_list hat; subst this
    split at hv
    case h_2 => cases hv
    rename_i r k kt et hx hy ht
    have ex := evA_ok hs hg hx
    have ey := evA_ok hs hg hy
    obtain ⟨d, e1, e2⟩ := sl_desc TT ht
    cases e2
    split at hv
    case h_2 => cases hv
    rename_i kd es clock kk ho hkk
    obtain ⟨dk, k1, k2⟩ := sl_desc TT hkk
    split at hv
    case h_2 => cases hv
    rename_i hc
    simp only [Bool.and_eq_true] at hc
    have htk := kd_tk hc.1
    rw [htk] at k2
    have := KK.ok_desc k2
    subst this
    have hkeys := hm.stat.keys _ _ ho
    obtain ⟨b, hb1, hb2⟩ := hm.fact ho
    have hki := keyIs_is hc.2 ν
    split at hv
    case h_2 => cases hv
    rename_i h6 hset
    simp only [Option.some.injEq, Prod.mk.injEq] at hv
    obtain ⟨rfl, rfl⟩ := hv
    refine ⟨ν, _, Off.refl _ _, ?_, set_obj hm hN ho hset rfl rfl hb1⟩
    simp only [outN, execOp, resolve, invoke, builtin, Sem.run_bind, Sem.run_pure, Result.andThen_ok, List.map_toArray, List.map_cons, List.map_nil, ex, ey, AV.val, hb1, En.block]
    rcases mdelA_ok ν hc.2 es 0 hkeys with ⟨h1, h2⟩ | ⟨q, e, h1, h2, h3⟩
    · simp [Builtin.delete_, run_underlying e1, MapKept.run_getObj_map hb2, MapKept.run_checkKey k1 (KK.isKey hki), MapKept.run_findKey k1 h1, MapKept.run_setObj_map _ hb2, Result.andThen, h2, AV.vals]
    · simp only [Nat.zero_add] at h1
      simp [Builtin.delete_, run_underlying e1, MapKept.run_getObj_map hb2, MapKept.run_checkKey k1 (KK.isKey hki), MapKept.run_findKey k1 h1, MapKept.run_setObj_map _ hb2, Result.andThen, AV.vals]
      rw [h3]
  · cases hv

include hs hg hm hN hf in
/-- AN OPERATION THAT TURNS MEMORY TURNS IT AS THE RUNNER SAYS. -/
theorem eff_ok {op : Op} (hv : eff TT.tab G nb env h id op = some (ro, h')) : ∃ ν' w', Off id ν ν' ∧ (execOp a.eval ⟨dst, op, ty, pos, af, gu⟩).run P w = .ok (outN ν' ro) w' ∧ Mem ν' nb h' w' := by
  cases op <;> first | (cases hv; done) | skip
  case alloc t => exact eff_alloc TT hs hg hm hN hf (t := t) hv
  case box t x => exact eff_box TT hs hg hm hN hf (t := t) (x := x) hv
  case store t x y => exact eff_store TT hs hg hm hN hf (t := t) (x := x) (y := y) hv
  case buildSlice t l ps => exact eff_buildSlice TT hs hg hm hN hf (t := t) (len := l) (ps := ps) hv
  case makeMap t r => exact eff_makeMap TT hs hg hm hN hf (t := t) (r := r) hv
  case makeSlice t x y => exact eff_makeSlice TT hs hg hm hN hf (t := t) (x := x) (y := y) hv
  case convert s t x => exact eff_convert TT hs hg hm hN hf (s := s) (t := t) (x := x) hv
  case mapUpdate t x y z => exact eff_mapUpdate TT hs hg hm hN hf (t := t) (x := x) (y := y) (z := z) hv
  case slice t x lo hi mx => exact eff_slice TT hs hg hm hN hf (t := t) (x := x) (lo := lo) (hi := hi) (mx := mx) hv
  case range t x => exact eff_range TT hs hg hm hN hf (t := t) (x := x) hv
  case next x i => exact eff_next TT hs hg hm hN hf (x := x) (isStr := i) hv
  case entry x => exact eff_entry TT hs hg hm hN hf (x := x) hv
  case call c => exact eff_call TT hs hg hm hN hf (c := c) hv
end
end Go.Ex
