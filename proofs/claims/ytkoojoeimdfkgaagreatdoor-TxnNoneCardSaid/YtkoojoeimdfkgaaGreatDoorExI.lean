/-
  The runner is right: what an operation yields that turns nothing, the other kinds.
-/
import Derived.Test.YtkoojoeimdfkgaaGreatDoorExH
namespace Go.Ex
open Go Go.RowKit Go.Sx

section
variable {P : Program} (TT : TyTab P) {G : Nat → Option Nat} {env : T AV} {h : Heap} {a : Act} {ν : Vl} {w : World}
variable (hs : Slots ν env a.tmps) (hg : GOk ν G) (hb : ∀ i o, h.at i = some o → o.isBlk = true → ∃ b, ν i = .blk b)
variable {av : AV} {rd : Option Nat} {dst : Option Tmp} {ty : TypeId} {pos : String} {af : Array Edge} {gu : Option (Nat × Bool)}

include hs hg hb in
theorem vop_nilCheck {x : Operand} (hv : vNilCheck TT.tab G env h x = some (av, rd)) : (execOp a.eval ⟨dst, .nilCheck x, ty, pos, af, gu⟩).run P w = .ok (.value (av.val ν)) w := by
  unfold vNilCheck at hv
  split at hv
  · rename_i i off hx
    have ex := evA_ok hs hg hx
    split at hv
    case h_2 => cases hv
    rename_i o ho
    split at hv
    case h_2 => cases hv
    rename_i hbk
    obtain ⟨b, hbb⟩ := hb _ _ ho hbk
    simp only [Option.some.injEq, Prod.mk.injEq] at hv
    obtain ⟨rfl, _⟩ := hv
    simp [execOp, ex, AV.val, hbb, En.adr]
  all_goals first
    | (cases hv; done)
    | (rename_i hx
       have ex := evA_ok hs hg hx
       simp only [Option.some.injEq, Prod.mk.injEq] at hv
       obtain ⟨rfl, _⟩ := hv
       simp [execOp, ex, AV.val])

include hs hg in
theorem vop_convert {s t : TypeId} {x : Operand} (hv : vConvert TT.tab G env h s t x = some (av, rd)) (hr : ∀ i o, rd = some i → h.at i = some o → o.fact ν i w) : (execOp a.eval ⟨dst, .convert s t x, ty, pos, af, gu⟩).run P w = .ok (.value (av.val ν)) w := by
  unfold vConvert at hv
  split at hv
  · rename_i k n sk k' hx hsk htk
    have ex := evA_ok hs hg hx
    obtain ⟨d1, h1, _⟩ := sl_desc TT hsk
    obtain ⟨d2, h2, h3⟩ := sl_desc TT htk
    cases h3
    simp only [Option.some.injEq, Prod.mk.injEq] at hv
    obtain ⟨rfl, _⟩ := hv
    simp [execOp, ex, AV.val, convert, run_underlying h1, run_underlying h2, Conv.intToInt, wrapF_eq]
  · rename_i l sk hx hsk htk
    have ex := evA_ok hs hg hx
    obtain ⟨d1, h1, _⟩ := sl_desc TT hsk
    obtain ⟨d2, h2, h3⟩ := sl_desc TT htk
    cases h3
    simp only [Option.some.injEq, Prod.mk.injEq] at hv
    obtain ⟨rfl, _⟩ := hv
    simp [execOp, ex, AV.val, convert, run_underlying h1, run_underlying h2]
  · rename_i e hx hsk htk
    have ex := evA_ok hs hg hx
    obtain ⟨d1, h1, h1'⟩ := sl_desc TT hsk
    cases h1'
    obtain ⟨d2, h2, h3⟩ := sl_desc TT htk
    cases h3
    split at hv
    case h_2 => cases hv
    rename_i he
    obtain ⟨d4, h4, h5⟩ := sl_desc TT he
    cases h5
    simp only [Option.some.injEq, Prod.mk.injEq] at hv
    obtain ⟨rfl, _⟩ := hv
    simp only [execOp, ex, AV.val]
    rw [Sem.run_bind, run_convert_bytes_nil w s e h1 h4 _ _ t h2]
    rfl
  · rename_i i off len cap sym e hx hsk htk
    have ex := evA_ok hs hg hx
    obtain ⟨d1, h1, h1'⟩ := sl_desc TT hsk
    cases h1'
    obtain ⟨d2, h2, h3⟩ := sl_desc TT htk
    cases h3
    split at hv
    case h_2 => cases hv
    rename_i he
    obtain ⟨d4, h4, h5⟩ := sl_desc TT he
    cases h5
    split at hv
    case h_2 => cases hv
    rename_i o ho
    split at hv
    case h_2 => cases hv
    rename_i l hl
    split at hv
    case h_2 => cases hv
    rename_i cs hcs
    split at hv
    case h_2 => cases hv
    rename_i bs hbs
    rw [spine_eq] at hv
    simp only [Option.some.injEq, Prod.mk.injEq] at hv
    obtain ⟨rfl, rfl⟩ := hv
    obtain ⟨e1, e2⟩ := takeA_spec hcs
    rw [dropA_eq] at e1
    have hcb := bytesOf_ok ν hbs
    have hlen : bs.length = len := by
      have := congrArg List.length hcb
      rw [AV.vals_length, bvs_length, e2] at this
      exact this.symm
    have hrd := reads_rd hl (hr _ _ rfl ho)
    simp only [execOp, ex, AV.val]
    cases hA : (ν i).adr with
    | none =>
      rw [hA] at hrd
      have : l = [] := by
        have := rd_nonev hrd rfl
        cases l with
        | nil => rfl
        | cons x l => simp [AV.vals] at this
      subst this
      have hcs0 : cs = [] := by simp at e1; exact e1
      subst hcs0
      have : bs = [] := by
        cases bs with
        | nil => rfl
        | cons b bs => simp [AV.vals, bvs] at hcb
      subst this
      rw [Sem.run_bind, Option.map_none, run_convert_bytes_nil w s e h1 h4 _ _ t h2]
      rfl
    | some ad =>
      rw [Sem.run_bind, Option.map_some, ← hlen, run_convert_bytes_back w s t e (ad.add off) _ bs h1 h4 h2 (fun j hj => by
        have hj' : (AV.vals ν cs)[j]? = some (bv bs[j]) := by rw [hcb]; simp [bvs, hj]
        rw [e1, vals_take, vals_drop, List.getElem?_take] at hj'
        split at hj'
        case isFalse => cases hj'
        rw [List.getElem?_drop] at hj'
        obtain ⟨ad', h6, h7⟩ := hrd _ _ hj'
        rw [hA] at h6
        injection h6 with h6
        subst h6
        rw [Addr.add_add']
        exact h7)]
      rfl
  · cases hv

include hs hg in
theorem vop_makeInterface {t : TypeId} {x : Operand} (hv : vMakeInterface TT.tab G env h t x = some (av, rd)) : (execOp a.eval ⟨dst, .makeInterface t x, ty, pos, af, gu⟩).run P w = .ok (.value (av.val ν)) w := by
  unfold vMakeInterface at hv
  split at hv
  · cases hv
  · rename_i u k hn hx htk
    have ex := evA_ok hs hg hx
    obtain ⟨d, h1, h2⟩ := sl_desc TT htk
    simp only [Option.some.injEq, Prod.mk.injEq] at hv
    obtain ⟨rfl, _⟩ := hv
    have hni : ∀ m, d ≠ .interface m := by
      rintro m rfl
      cases k <;> first | (cases h2; done) | (simp [TK.ok] at h2; done) | skip
      exact hn rfl
    simp only [execOp, ex, AV.val, Instr.makeInterface, Sem.run_bind, run_underlying h1, Result.andThen_ok]
    cases d <;> first | rfl | exact absurd rfl (hni _)
  · cases hv

include hs hg in
theorem vop_makeFunc {fn : Fn} {fi ca : Array Operand} (hv : vMakeFunc TT.tab G env h fn fi ca = some (av, rd)) : (execOp a.eval ⟨dst, .makeFunc fn fi ca, ty, pos, af, gu⟩).run P w = .ok (.value (av.val ν)) w := by
  unfold vMakeFunc at hv
  split at hv
  case h_2 => cases hv
  rename_i f u v hu hv'
  have e1 := evAs_ok hs hg hu
  have e2 := evAs_ok hs hg hv'
  simp only [Option.some.injEq, Prod.mk.injEq] at hv
  obtain ⟨rfl, _⟩ := hv
  have e1' : fi.map a.eval = (AV.vals ν u).toArray := Array.ext' (by rw [Array.toList_map, e1])
  have e2' : ca.map a.eval = (AV.vals ν v).toArray := Array.ext' (by rw [Array.toList_map, e2])
  simp [execOp, Instr.makeFunc, e1', e2', AV.val]

include hs hg in
theorem vop_load {t : TypeId} {x : Operand} (hv : vLoad TT.tab G env h t x = some (av, rd)) (hr : ∀ i o, rd = some i → h.at i = some o → o.fact ν i w) : (execOp a.eval ⟨dst, .load t x, ty, pos, af, gu⟩).run P w = .ok (.value (av.val ν)) w := by
  unfold vLoad at hv
  split at hv
  case h_2 => cases hv
  rename_i i off ti hx ht
  have ex := evA_ok hs hg hx
  split at hv
  case h_2 => cases hv
  rename_i o ho
  split at hv
  case h_2 => cases hv
  rename_i l hl
  split at hv
  case h_2 => cases hv
  rename_i u hu h0
  simp only [Option.some.injEq, Prod.mk.injEq] at hv
  obtain ⟨rfl, rfl⟩ := hv
  obtain ⟨ad, h1, h2⟩ := run_load (P := P) (w := w) (TT.ok ht) hu (i := i) (fun _ => Or.inl (Nat.ne_of_beq_eq_false h0)) (reads_rd hl (hr _ _ rfl ho))
  simp only [execOp, ex, AV.val, h1, Instr.loadAt, Instr.sureAddr]
  simp [h2]

include hs hg hb in
theorem vop_fieldAddr {s : TypeId} {x : Operand} {f : Nat} (hv : vFieldAddr TT.tab G env h s x f = some (av, rd)) : (execOp a.eval ⟨dst, .fieldAddr s x f, ty, pos, af, gu⟩).run P w = .ok (.value (av.val ν)) w := by
  unfold vFieldAddr at hv
  split at hv
  case h_2 => cases hv
  rename_i i off fs hx ht
  have ex := evA_ok hs hg hx
  split at hv
  case h_2 => cases hv
  rename_i o ho
  split at hv
  case h_2 => cases hv
  rename_i oo ft hbk hf
  split at hv
  case h_2 => cases hv
  rename_i j hj
  split at hv
  case h_2 => cases hv
  rename_i hz
  obtain ⟨b, hbb⟩ := hb _ _ ho hbk
  simp only [Option.some.injEq, Prod.mk.injEq] at hv
  obtain ⟨rfl, _⟩ := hv
  obtain ⟨d, h1, fl, rfl, h3⟩ := sl_desc TT ht
  have hf' : ∃ g, fl[f]? = some g ∧ g.offset = oo ∧ g.type = ft := by
    rw [← h3, List.getElem?_map] at hf
    cases hg' : fl.toList[f]? with
    | none => rw [hg'] at hf; cases hf
    | some g =>
      rw [hg'] at hf
      injection hf with hf
      injection hf with hf1 hf2
      exact ⟨g, by simpa using hg', hf1, hf2⟩
  obtain ⟨g, hgf, rfl, rfl⟩ := hf'
  have hz' := Nat.ne_of_beq_eq_false hz
  have e : (AV.ptr i off).val ν = .pointer (some ⟨b, off, none⟩) := by simp [AV.val, hbb, En.adr, add_off]
  simp only [execOp, ex, e, Instr.fieldAt, Instr.sureAddr, fieldPlace]
  simp [run_underlying h1, hgf, Sx.run_sizeOf (TT.ok hj), hz', add_off, AV.val, hbb, En.adr]

include hs hg in
theorem vop_field {s : TypeId} {x : Operand} {f : Nat} (hv : vField TT.tab G env h s x f = some (av, rd)) : (execOp a.eval ⟨dst, .field s x f, ty, pos, af, gu⟩).run P w = .ok (.value (av.val ν)) w := by
  unfold vField at hv
  split at hv
  case h_2 => cases hv
  rename_i l fs hx ht
  have ex := evA_ok hs hg hx
  split at hv
  case h_2 => cases hv
  rename_i oo ft hf
  split at hv
  case h_2 => cases hv
  rename_i j hj
  split at hv
  case h_2 => cases hv
  rename_i u hu
  simp only [Option.some.injEq, Prod.mk.injEq] at hv
  obtain ⟨rfl, _⟩ := hv
  obtain ⟨d, h1, fl, rfl, h3⟩ := sl_desc TT ht
  have hf' : ∃ g, fl[f]? = some g ∧ g.offset = oo ∧ g.type = ft := by
    rw [← h3, List.getElem?_map] at hf
    cases hg' : fl.toList[f]? with
    | none => rw [hg'] at hf; cases hf
    | some g =>
      rw [hg'] at hf
      injection hf with hf
      injection hf with hf1 hf2
      exact ⟨g, by simpa using hg', hf1, hf2⟩
  obtain ⟨g, hgf, rfl, rfl⟩ := hf'
  have := run_part (P := P) (ν := ν) (w := w) (TT.ok hj) hu
  simp only [execOp, ex, AV.val, Instr.field]
  simp [run_underlying h1, hgf, asAgg, this]

include hs hg hb in
theorem vop_indexAddr {t : TypeId} {x y : Operand} (hv : vIndexAddr TT.tab G env h t x y = some (av, rd)) (hr : ∀ i o, rd = some i → h.at i = some o → o.fact ν i w) : (execOp a.eval ⟨dst, .indexAddr t x y, ty, pos, af, gu⟩).run P w = .ok (.value (av.val ν)) w := by
  unfold vIndexAddr at hv
  split at hv
  · rename_i i off len cap sym k p e hx hy ht
    have ex := evA_ok hs hg hx
    have ey := evA_ok hs hg hy
    obtain ⟨d, h1, h2⟩ := sl_desc TT ht
    cases h2
    split at hv
    case h_2 => cases hv
    rename_i j q hj
    split at hv
    case h_2 => cases hv
    rename_i o hq ho
    split at hv
    case h_2 => cases hv
    rename_i l hl
    split at hv
    case h_2 => cases hv
    rename_i u hu
    rw [nthA_eq] at hu
    simp only [Option.some.injEq, Prod.mk.injEq] at hv
    obtain ⟨rfl, rfl⟩ := hv
    obtain ⟨ad, had, _⟩ := reads_rd hl (hr _ _ rfl ho) (off + q * j.size) (u.val ν) (by rw [vals_get, hu]; rfl)
    have hlt := blt_lt hq
    have h3 : (0 : Int) ≤ Int.ofNat q ∧ Int.ofNat q < (len : Int) := ⟨ofNat_nonneg q, by simp only [Int.ofNat_eq_natCast]; omega⟩
    simp only [execOp, ex, ey, AV.val, had, Option.map_some, Instr.indexAt]
    simp only [asIntOf, Sem.run_bind, Sem.run_pure, Result.andThen_ok, run_underlying h1, h3, and_self, if_true, Sx.run_sizeOf (TT.ok hj)]
    simp [Addr.add_add']
  · rename_i i off k p m e hx hy ht
    have ex := evA_ok hs hg hx
    have ey := evA_ok hs hg hy
    obtain ⟨d, h1, h2⟩ := sl_desc TT ht
    cases h2
    split at hv
    case h_2 => cases hv
    rename_i j q hj
    split at hv
    case h_2 => cases hv
    rename_i o hq ho
    split at hv
    case h_2 => cases hv
    rename_i hbk
    obtain ⟨b, hbb⟩ := hb _ _ ho hbk
    simp only [Option.some.injEq, Prod.mk.injEq] at hv
    obtain ⟨rfl, _⟩ := hv
    have hlt := blt_lt hq
    have h3 : (0 : Int) ≤ Int.ofNat q ∧ Int.ofNat q < (m : Int) := ⟨ofNat_nonneg q, by simp only [Int.ofNat_eq_natCast]; omega⟩
    have e1 : (AV.ptr i off).val ν = .pointer (some ⟨b, off, none⟩) := by simp [AV.val, hbb, En.adr, add_off]
    simp only [execOp, ex, ey, e1, Instr.indexAt]
    simp only [AV.val, asIntOf, Sem.run_bind, Sem.run_pure, Result.andThen_ok, run_underlying h1, Instr.sureAddr, h3, and_self, if_true, Sx.run_sizeOf (TT.ok hj)]
    simp [add_off, hbb, En.adr]
  · cases hv

include hs hg in
theorem vop_index {t : TypeId} {x y : Operand} (hv : vIndex TT.tab G env h t x y = some (av, rd)) : (execOp a.eval ⟨dst, .index t x y, ty, pos, af, gu⟩).run P w = .ok (.value (av.val ν)) w := by
  unfold vIndex at hv
  split at hv
  · rename_i l k q hx hy ht
    have ex := evA_ok hs hg hx
    have ey := evA_ok hs hg hy
    obtain ⟨d, h1, h2⟩ := sl_desc TT ht
    cases h2
    split at hv
    case h_2 => cases hv
    rename_i b hbq
    simp only [Option.some.injEq, Prod.mk.injEq] at hv
    obtain ⟨rfl, _⟩ := hv
    have hlt : q < l.length := (List.getElem?_eq_some_iff.1 hbq).1
    have h3 : (str l)[q]? = some b := by
      have : q < (str l).size := by simpa using hlt
      rw [getElem?_pos (str l) q this]
      have hb2 := (List.getElem?_eq_some_iff.1 hbq).2
      rw [← hb2]
      rfl
    have h4 : (0 : Int) ≤ Int.ofNat q := ofNat_nonneg q
    simp only [execOp, ex, ey, AV.val, Instr.index]
    simp only [asIntOf, Sem.run_bind, Sem.run_pure, Result.andThen_ok, run_underlying h1, h4, if_true]
    simp [h3]
  · rename_i l k q m e hx hy ht
    have ex := evA_ok hs hg hx
    have ey := evA_ok hs hg hy
    obtain ⟨d, h1, h2⟩ := sl_desc TT ht
    cases h2
    split at hv
    case h_2 => cases hv
    rename_i j hq hj
    split at hv
    case h_2 => cases hv
    rename_i u hu
    simp only [Option.some.injEq, Prod.mk.injEq] at hv
    obtain ⟨rfl, _⟩ := hv
    have hlt := blt_lt hq
    have h3 : (0 : Int) ≤ Int.ofNat q ∧ Int.ofNat q < (m : Int) := ⟨ofNat_nonneg q, by simp only [Int.ofNat_eq_natCast]; omega⟩
    have := run_part (P := P) (ν := ν) (w := w) (TT.ok hj) hu
    simp only [execOp, ex, ey, AV.val, Instr.index]
    simp only [asIntOf, Sem.run_bind, Sem.run_pure, Result.andThen_ok, run_underlying h1, h3, and_self, if_true, Sx.run_sizeOf (TT.ok hj)]
    simp [this]
  · cases hv

theorem zero_ne {i : TyI} (h : (!Nat.beq i.zero.length 0) = true) : i.zero ≠ [] := by
  intro e
  rw [e] at h
  simp at h

include hs hg in
theorem vop_build {t : TypeId} {ps : Array (Nat × Operand)} (hv : vBuild TT.tab G env h t ps = some (av, rd)) : (execOp a.eval ⟨dst, .build t ps, ty, pos, af, gu⟩).run P w = .ok (.value (av.val ν)) w := by
  unfold vBuild at hv
  split at hv
  case h_2 => cases hv
  rename_i vs i hps ht
  split at hv
  case h_2 => cases hv
  rename_i fs z hk hz
  split at hv
  case h_2 => cases hv
  rename_i hall
  simp only [Bool.and_eq_true] at hall
  split at hv
  case h_2 => cases hv
  rename_i l hl
  simp only [Option.some.injEq, Prod.mk.injEq] at hv
  obtain ⟨rfl, _⟩ := hv
  have e1 := evPs_ok hs hg hps
  have hbl := bldA_ok ν TT.tab fs (partsB_ok ν hall.2) hl
  rw [zeroA_ok ν hz, ← e1] at hbl
  obtain ⟨d, h1, h2⟩ := (TT.ok ht).desc
  rw [hk] at h2
  obtain ⟨fl, rfl, h3⟩ := h2
  have h0 := zero_ne hall.1.2
  have hzz : (zeroValue t).run P w = .ok (.agg i.zero.toArray) w := by
    have := run_zval (w := w) (TT.ok ht) h0
    simpa [zval, hk, TK.isAgg] using this
  have hpl : ∃ places : Array (Nat × Nat), (fl.mapM (m := Sem) fun f => do pure (f.offset, ← sizeOf f.type)).run P w = .ok places w ∧ ∀ (i : Nat) (f : Field), fl[i]? = some f → ∀ j, TT.tab f.type = some j → places[i]? = some (f.offset, j.size) := by
    have go : ∀ (l : List Field), (∀ f ∈ l, (TT.tab f.type).isSome = true) → ∃ ps : List (Nat × Nat), (l.mapM (m := Sem) fun f => do pure (f.offset, ← sizeOf f.type)).run P w = .ok ps w ∧ ∀ (i : Nat) (f : Field), l[i]? = some f → ∀ j, TT.tab f.type = some j → ps[i]? = some (f.offset, j.size) := by
      intro l
      induction l with
      | nil => intro _; exact ⟨[], by simp, fun i f h => by simp at h⟩
      | cons f l ih =>
        intro hl
        obtain ⟨ps, h5, h6⟩ := ih fun g hg => hl g (List.mem_cons_of_mem _ hg)
        obtain ⟨j, hj⟩ := Option.isSome_iff_exists.1 (hl f (List.mem_cons_self ..))
        refine ⟨(f.offset, j.size) :: ps, ?_, ?_⟩
        · rw [List.mapM_cons]
          simp only [Sem.run_bind, Sx.run_sizeOf (TT.ok hj), Result.andThen_ok, Sem.run_pure, h5]
        · intro i g hg j' hj'
          cases i with
          | zero => simp at hg; subst hg; rw [hj] at hj'; injection hj' with hj'; subst hj'; rfl
          | succ i => simp at hg ⊢; exact h6 i g hg j' hj'
    obtain ⟨ps, h5, h6⟩ := go fl.toList (fun f hf => by
      have := List.all_eq_true.1 hall.1.1 (f.offset, f.type) (by rw [← h3]; exact List.mem_map.2 ⟨f, hf, rfl⟩)
      exact this)
    refine ⟨ps.toArray, ?_, fun i f hf j hj => by simpa using h6 i f (by simpa using hf) j hj⟩
    rw [Array.mapM_eq_mapM_toList]
    simp only [map_eq_pure_bind, Sem.run_bind, h5, Result.andThen_ok, Sem.run_pure]
  obtain ⟨places, h5, h6⟩ := hpl
  have hfill := fill_bld TT h3 h6 _ i.zero _ hbl
  have hps' : (ps.map fun x => (x.1, a.eval x.2)).toList = ps.toList.map fun x => (x.1, a.eval x.2) := Array.toList_map
  simp only [execOp, Instr.build, Sem.run_bind, hzz, Result.andThen_ok, run_underlying h1, Value.cells, h5, hps', hfill, Sem.run_pure, AV.val]

include hs hg hb in
theorem vop_slice {t : TypeId} {x : Operand} {lo hi mx : Option Operand} (hv : vSlice TT.tab G env h t x lo hi mx = some (av, rd)) (hr : ∀ i o, rd = some i → h.at i = some o → o.fact ν i w) : (execOp a.eval ⟨dst, .slice t x lo hi mx, ty, pos, af, gu⟩).run P w = .ok (.value (av.val ν)) w := by
  have _ := hb
  have fin : ∀ {u r : Value}, a.eval x = u → (Instr.sliceAt t u (lo.map a.eval) (hi.map a.eval) (mx.map a.eval)).run P w = .ok r w → (execOp a.eval ⟨dst, .slice t x lo hi mx, ty, pos, af, gu⟩).run P w = .ok (.value r) w := by
    intro u r h1 h2
    simp only [execOp, h1, Sem.run_bind, h2, Result.andThen_ok, Sem.run_pure]
  unfold vSlice at hv
  split at hv
  · rename_i l hx ht
    have ex := evA_ok hs hg hx
    obtain ⟨d, h1, h2⟩ := sl_desc TT ht
    cases h2
    split at hv
    case h_2 => cases hv
    rename_i k p k' q hlo hhi
    split at hv
    case h_2 => cases hv
    rename_i hab
    simp only [Bool.and_eq_true] at hab
    have h3 := Nat.le_of_ble_eq_true hab.1
    have h4 := Nat.le_of_ble_eq_true hab.2
    rw [spine_eq] at hv
    simp only [Option.some.injEq, Prod.mk.injEq] at hv
    obtain ⟨rfl, _⟩ := hv
    refine fin ex ?_
    simp only [Option.map_none, AV.val]
    rw [run_sliceAt_str h1 (run_bounds2 (by simpa using lo_of hs hg hlo) (by simpa using lo_of hs hg hhi) h3 (by simpa using h4))]
    congr 2
    apply ByteArray.ext
    simp [str, ByteArray.data_extract, List.extract_eq_take_drop]
  · rename_i i off len cap sym e hx ht
    have ex := evA_ok hs hg hx
    obtain ⟨d, h1, h2⟩ := sl_desc TT ht
    cases h2
    split at hv
    · rename_i j k p k' q he hlo hhi
      have hlo' := lo_of hs hg hlo
      have hhi' := lo_of hs hg hhi
      split at hv
      · split at hv
        case h_2 => cases hv
        rename_i hab
        simp only [Bool.and_eq_true] at hab
        have h3 := Nat.le_of_ble_eq_true hab.1
        have h4 := Nat.le_of_ble_eq_true hab.2
        have hrun := run_sliceAt_sl (P := P) (w := w) (A := (ν i).adr.map (·.add off)) h1 (TT.ok he) (run_bounds2 (isSlice := true) (len := len) hlo' hhi' h3 h4)
        refine fin ex ?_
        simp only [Option.map_none, AV.val, Bool.false_eq_true, if_false]
        rw [hrun]
        split at hv
        · rename_i hc
          have hc := Nat.eq_of_beq_eq_true hc
          simp only [Option.some.injEq, Prod.mk.injEq] at hv
          obtain ⟨rfl, _⟩ := hv
          have : q = p := by omega
          subst this
          simp [AV.val, hc]
        · rename_i hc
          have hc := Nat.ne_of_beq_eq_false hc
          simp only [Option.some.injEq, Prod.mk.injEq] at hv
          obtain ⟨rfl, _⟩ := hv
          rw [if_neg (by omega), addr_add_add]
          simp [AV.val]
      · split at hv
        case h_2 => cases hv
        rename_i hab
        simp only [Bool.and_eq_true, Bool.or_eq_true] at hab
        obtain ⟨⟨⟨h3, h4⟩, h5⟩, h6⟩ := hab
        have h3 := Nat.le_of_ble_eq_true h3
        have h4 := Nat.le_of_ble_eq_true h4
        simp only [Option.some.injEq, Prod.mk.injEq] at hv
        obtain ⟨rfl, rfl⟩ := hv
        obtain ⟨o, ho⟩ : ∃ o, h.at i = some o := by
          cases ho : h.at i with
          | none => rw [ho] at h6; cases h6
          | some o => exact ⟨o, rfl⟩
        rw [ho] at h6
        have hcap := symOk_cap h6 (hr _ _ rfl ho)
        have hrun := run_sliceAt_sl (P := P) (w := w) (A := (ν i).adr.map (·.add off)) h1 (TT.ok he) (run_bounds2 (isSlice := true) (len := len) (cap := (ν i).cap - cap) hlo' hhi' h3 (by omega))
        refine fin ex ?_
        simp only [Option.map_none, AV.val, if_true]
        rw [hrun]
        have hadr : (if (ν i).cap - cap = p then (ν i).adr.map (·.add off) else ((ν i).adr.map (·.add off)).map (·.add (p * j.size))) = (ν i).adr.map (·.add (off + p * j.size)) := by
          split
          · rename_i hpc
            rcases h5 with h5 | h5
            · have := blt_lt h5; omega
            · have := Nat.eq_of_beq_eq_true h5
              subst this
              simp
          · rw [addr_add_add]
        rw [hadr]
        have hcc : (ν i).cap - cap - p = (ν i).cap - (cap + p) := by omega
        rw [hcc]
    · rename_i j mxo k p k' q he hlo hhi
      have hlo' := lo_of hs hg hlo
      split at hv
      · rename_i km m hmx
        have em := evA_ok hs hg hmx
        split at hv
        case h_2 => cases hv
        rename_i hab
        simp only [Bool.and_eq_true] at hab
        obtain ⟨⟨⟨h3, h4⟩, h5⟩, h6⟩ := hab
        have h3 := Nat.le_of_ble_eq_true h3
        have h4 := Nat.le_of_ble_eq_true h4
        have h5 := Nat.le_of_ble_eq_true h5
        obtain ⟨hio, rfl⟩ := Option.isSome_iff_exists.1 h6
        have eh := evA_ok hs hg hhi
        have hrun := run_sliceAt_sl (P := P) (w := w) (A := (ν i).adr.map (·.add off)) h1 (TT.ok he) (run_bounds3 (isSlice := true) (len := len) (k1 := k') (k2 := km) hlo' h3 h4 h5)
        refine fin ex ?_
        simp only [Option.map_some, AV.val, Bool.false_eq_true, if_false, em, eh]
        rw [hrun]
        split at hv
        · rename_i hc
          have hc := Nat.eq_of_beq_eq_true hc
          simp only [Option.some.injEq, Prod.mk.injEq] at hv
          obtain ⟨rfl, _⟩ := hv
          have : q = p := by omega
          subst this
          simp [AV.val, hc]
        · rename_i hc
          have hc := Nat.ne_of_beq_eq_false hc
          simp only [Option.some.injEq, Prod.mk.injEq] at hv
          obtain ⟨rfl, _⟩ := hv
          rw [if_neg (by omega), addr_add_add]
          simp [AV.val]
      · rename_i km m hmx
        have em := evA_ok hs hg hmx
        split at hv
        case h_2 => cases hv
        rename_i hab
        simp only [Bool.and_eq_true] at hab
        obtain ⟨⟨⟨⟨h3, h4⟩, h5⟩, h7⟩, h6⟩ := hab
        have h3 := Nat.le_of_ble_eq_true h3
        have h4 := Nat.le_of_ble_eq_true h4
        have h5 := Nat.le_of_ble_eq_true h5
        obtain ⟨hio, rfl⟩ := Option.isSome_iff_exists.1 h6
        have eh := evA_ok hs hg hhi
        obtain ⟨o, ho⟩ : ∃ o, h.at i = some o := by
          cases ho : h.at i with
          | none => rw [ho] at h7; cases h7
          | some o => exact ⟨o, rfl⟩
        rw [ho] at h7
        have hrd : rd = some i := by
          split at hv <;> (simp only [Option.some.injEq, Prod.mk.injEq] at hv; exact hv.2.symm)
        have hcap := symOk_cap h7 (hr _ _ hrd ho)
        have hrun := run_sliceAt_sl (P := P) (w := w) (A := (ν i).adr.map (·.add off)) h1 (TT.ok he) (run_bounds3 (isSlice := true) (len := len) (cap := (ν i).cap - cap) (k1 := k') (k2 := km) hlo' h3 h4 (by omega))
        refine fin ex ?_
        simp only [Option.map_some, AV.val, if_true, em, eh]
        rw [hrun]
        split at hv
        · rename_i hc
          have hc := Nat.eq_of_beq_eq_true hc
          simp only [Option.some.injEq, Prod.mk.injEq] at hv
          obtain ⟨rfl, _⟩ := hv
          have : q = p := by omega
          subst this
          simp [AV.val, hc]
        · rename_i hc
          have hc := Nat.ne_of_beq_eq_false hc
          simp only [Option.some.injEq, Prod.mk.injEq] at hv
          obtain ⟨rfl, _⟩ := hv
          rw [if_neg (by omega), addr_add_add]
          simp [AV.val]
      · cases hv
    · cases hv
  · rename_i e hx ht
    have ex := evA_ok hs hg hx
    obtain ⟨d, h1, h2⟩ := sl_desc TT ht
    cases h2
    have hnil : ∀ {lo' hi' mx' : Option Value}, (Instr.sliceBounds true 0 0 lo' hi' mx').run P w = .ok (0, 0, 0) w → (∃ tj, TyOk P e tj) → (Instr.sliceAt t (.slice none 0 0) lo' hi' mx').run P w = .ok (.slice none 0 0) w := by
      rintro lo' hi' mx' hbd ⟨tj, he⟩
      rw [run_sliceAt_sl h1 he hbd]
      rfl
    split at hv
    · rename_i k k' hlo hhi
      split at hv
      case h_2 => cases hv
      rename_i tj he
      simp only [Option.some.injEq, Prod.mk.injEq] at hv
      obtain ⟨rfl, _⟩ := hv
      exact fin ex (hnil (run_bounds2 (lo_of hs hg hlo) (lo_of hs hg hhi) (Nat.le_refl _) (Nat.le_refl _)) ⟨tj, TT.ok he⟩)
    · rename_i mxo k k' hlo hhi
      split at hv
      · rename_i km tj hmx hi' he
        have em := evA_ok hs hg hmx
        obtain ⟨hio, rfl⟩ := Option.isSome_iff_exists.1 hi'
        have eh := evA_ok hs hg hhi
        simp only [Option.some.injEq, Prod.mk.injEq] at hv
        obtain ⟨rfl, _⟩ := hv
        have h5 : (some hio).map a.eval = some (.int k' (.ofNat 0)) := by simp only [Option.map_some, eh, AV.val]
        have h6 : (some mxo).map a.eval = some (.int km (.ofNat 0)) := by simp only [Option.map_some, em, AV.val]
        have h7 : (Instr.sliceBounds true 0 0 (lo.map a.eval) ((some hio).map a.eval) ((some mxo).map a.eval)).run P w = .ok (0, 0, 0) w := by
          rw [h5, h6]
          exact run_bounds3 (lo_of hs hg hlo) (Nat.le_refl _) (Nat.le_refl _) (Nat.le_refl _)
        exact fin ex (hnil h7 ⟨tj, TT.ok he⟩)
      · cases hv
    · cases hv
  · cases hv
end
end Go.Ex
