/-
  The runner is right: operations that turn memory: conversions, maps, iterators.
-/
import Derived.Test.YtkoojoeimdfkgaaGreatDoorExL
namespace Go.Ex
open Go Go.RowKit Go.Sx

theorem msetA_ok {kd : KK} (ν : Vl) {k v : AV} (hk : keyIs kd k = true) : ∀ (es : List (AV × AV × Nat)) (i : Nat), esKey kd es = true →
    (msetA es k v = none ∧ Instr.findNow kd.desc (k.val ν) (ents ν es) i = some none) ∨
    ∃ es' j e, msetA es k v = some es' ∧ Instr.findNow kd.desc (k.val ν) (ents ν es) i = some (some (i + j, e.val)) ∧ (ents ν es)[j]? = some e ∧ e.key = k.val ν ∧ ents ν es' = (ents ν es).modify j fun e => { e with val := v.val ν }
  | [], i, _ => Or.inl ⟨rfl, rfl⟩
  | (k', v', b) :: l, i, he => by
    simp only [esKey, Bool.and_eq_true] at he
    have hkk := keyEq_eq hk he.1 ν
    have hsn := sameNow_kEq (keyIs_is hk ν) (keyIs_is he.1 ν)
    rw [← hkk] at hsn
    cases hq : keyEq k k' with
    | true =>
      rw [hq] at hsn hkk
      have heq := (kEq_iff (keyIs_is hk ν) (keyIs_is he.1 ν)).1 hkk.symm
      refine Or.inr ⟨(k', v, b) :: l, 0, { key := k'.val ν, val := v'.val ν, born := b }, by simp [msetA, hq], by simp [ents, Instr.findNow, hsn], by simp [ents], heq.symm, by simp [ents]⟩
    | false =>
      rw [hq] at hsn
      rcases msetA_ok ν (v := v) hk l (i + 1) he.2 with ⟨h1, h2⟩ | ⟨es', j, e, h1, h2, h3, h4, h5⟩
      · exact Or.inl ⟨by simp [msetA, hq, h1], by simp [ents, Instr.findNow, hsn, h2]⟩
      · refine Or.inr ⟨(k', v', b) :: es', j + 1, e, by simp [msetA, hq, h1], ?_, by simpa [ents] using h3, h4, by simp [ents, h5]⟩
        simp [ents, Instr.findNow, hsn, h2]
        omega
theorem mdelA_ok {kd : KK} (ν : Vl) {k : AV} (hk : keyIs kd k = true) : ∀ (es : List (AV × AV × Nat)) (i : Nat), esKey kd es = true →
    (Instr.findNow kd.desc (k.val ν) (ents ν es) i = some none ∧ ents ν (mdelA es k) = ents ν es) ∨
    ∃ j e, Instr.findNow kd.desc (k.val ν) (ents ν es) i = some (some (i + j, e)) ∧ j < (ents ν es).length ∧ ents ν (mdelA es k) = (ents ν es).eraseIdx j
  | [], i, _ => Or.inl ⟨rfl, rfl⟩
  | (k', v', b) :: l, i, he => by
    simp only [esKey, Bool.and_eq_true] at he
    have hkk := keyEq_eq hk he.1 ν
    have hsn := sameNow_kEq (keyIs_is hk ν) (keyIs_is he.1 ν)
    rw [← hkk] at hsn
    cases hq : keyEq k k' with
    | true =>
      rw [hq] at hsn
      exact Or.inr ⟨0, v'.val ν, by simp [ents, Instr.findNow, hsn], by simp [ents], by simp [mdelA, hq, ents]⟩
    | false =>
      rw [hq] at hsn
      rcases mdelA_ok ν hk l (i + 1) he.2 with ⟨h1, h2⟩ | ⟨j, e, h1, h2, h3⟩
      · exact Or.inl ⟨by simp [ents, Instr.findNow, hsn, h1], by simp [mdelA, hq, ents, h2]⟩
      · refine Or.inr ⟨j + 1, e, ?_, by simp [ents]; omega, by simp [mdelA, hq, ents, h3]⟩
        simp [ents, Instr.findNow, hsn, h1]
        omega
theorem ents_append (ν : Vl) : ∀ (l m : List (AV × AV × Nat)), ents ν (l ++ m) = ents ν l ++ ents ν m
  | [], _ => rfl
  | (k, v, b) :: l, m => by simp [ents, ents_append ν l m]
theorem ents_length (ν : Vl) : ∀ (l : List (AV × AV × Nat)), (ents ν l).length = l.length
  | [] => rfl
  | (k, v, b) :: l => by simp [ents, ents_length ν l]

section
variable {P : Program} (TT : TyTab P) {G : Nat → Option Nat} {env : T AV} {h h' : Heap} {a : Act} {ν : Vl} {w : World} {N nb id : Nat} {ro : Option AV}
variable (hs : Slots ν env a.tmps) (hg : GOk ν G) (hm : Mem ν N h w) (hN : N ≤ nb) (hf : Fresh ν G id env h)
variable {dst : Option Tmp} {ty : TypeId} {pos : String} {af : Array Edge} {gu : Option (Nat × Bool)}

/-- a block that is known whole -/
def AObj.obj (ν : Vl) : AObj → Option Obj
  | .map _ es clock => some (.map (ents ν es).toArray clock)
  | .mapIter m since seen stepped => some (.mapIter (m.map fun j => (ν j).block) since seen.toArray stepped)
  | .dfr => some (.deferred (some []))
  | _ => none
theorem sat_obj {i : Nat} {o : AObj} {O : Obj} {L : List Chunk} (ho : o.obj ν = some O) (hs : Sat w (chunk ν i o :: L)) : ∃ b, ν i = .blk b ∧ Sat w (blk b O :: L) := by
  have key : ∀ (p : World → Prop), (∃ b, ν i = .blk b ∧ True) → True := fun _ _ => trivial
  obtain ⟨S, _, hc⟩ := hs.head
  cases o <;> simp only [AObj.obj, Option.some.injEq] at ho <;> first | (cases ho; done) | skip
  all_goals
    subst ho
    obtain ⟨h1, b, h2, _⟩ := hc
    refine ⟨b, h2, hs.imp ?_⟩
    rintro S w' ⟨h3, b', h4, h5⟩
    rw [h2] at h4
    injection h4 with h4
    subst h4
    exact ⟨h3 _ h2, h5⟩
theorem obj_sat {i b : Nat} {o : AObj} {O : Obj} {L : List Chunk} (ho : o.obj ν = some O) (hb : ν i = .blk b) (hs : Sat w (blk b O :: L)) : Sat w (chunk ν i o :: L) := by
  refine hs.imp ?_
  rintro S w' ⟨h3, h5⟩
  have hfoot : ∀ b', ν i = .blk b' → S b' := fun b' hb' => by rw [hb] at hb'; injection hb' with hb'; subst hb'; exact h3
  cases o <;> simp only [AObj.obj, Option.some.injEq] at ho <;> first | (cases ho; done) | skip
  all_goals
    subst ho
    exact ⟨hfoot, b, hb, h5⟩

include hm hN in
/-- a block known whole is turned -/
theorem set_obj {i : Nat} {o o' : AObj} {O O' : Obj} (hi : h.at i = some o) (hset : h.set nb i o' = some h') (ho : o.obj ν = some O) (ho' : o'.obj ν = some O') {b : Nat} (hb : ν i = .blk b) : Mem ν nb h' { w with heap := w.heap.setIfInBounds b O' } := by
  obtain ⟨R, _, _, hsat, hback⟩ := hm.split hN hi hset
  obtain ⟨b', hb', hsat⟩ := sat_obj ho hsat
  rw [hb] at hb'
  injection hb' with hb'
  subst hb'
  exact hback (fun _ _ => rfl) (obj_sat ho' hb (Sat.blkAt hsat rfl))

include hs hg hm hN hf in
theorem eff_convert {s t : TypeId} {x : Operand} (hv : eConvert TT.tab G nb env h id s t x = some (ro, h')) : ∃ ν' w', Off id ν ν' ∧ (execOp a.eval ⟨dst, .convert s t x, ty, pos, af, gu⟩).run P w = .ok (outN ν' ro) w' ∧ Mem ν' nb h' w' := by
  unfold eConvert at hv
  split at hv
  · rename_i l e hx hsk htk
    obtain ⟨si, hs1, hs2⟩ := Ty_desc hsk
    obtain ⟨ti, ht1, ht2⟩ := Ty_desc htk
    split at hv
    case h_2 => cases hv
    rename_i hek
    obtain ⟨ei, he1, he2⟩ := Ty_desc hek
    rw [spine_eq] at hv
    split at hv
    case h_2 => cases hv
    rename_i h1 hn
    simp only [Option.some.injEq, Prod.mk.injEq] at hv
    obtain ⟨rfl, rfl⟩ := hv
    obtain ⟨v, w', L', h2, h3, A', c', rfl, hc, rfl⟩ := ac_bytesOf (ds := a.defers) (dst := dst) (ty := ty) (pos := pos) (af := af) (gu := gu) TT ht1 ht2 he1 he2 hs1 hs2 (evE hs hg hx) a w (ok_full a) hm.sat
    refine ⟨ν.put id (.sl A' c'), w', Vl.put_off _ _ _, ?_, hm.new hN hf hn (Vl.put_off _ _ _) (h3.imp ?_)⟩
    · rw [h2]
      simp only [outN, AV.val, Vl.put_at, En.adr, En.cap, addr_add0, if_true, Nat.sub_zero, str_size]
    · rintro S w2 ⟨h4, h5⟩
      refine ⟨h4, A', c', Vl.put_at _ _ _, ?_, ?_⟩
      · have : (cellsOf l).length = l.length := by
          rw [← AV.vals_length ν, cellsOf_ok, bvs_length]
        rw [this]
        simpa using hc
      · rw [cellsOf_ok]
        simpa using h5
  · rename_i i len cap e e2 hx hsk htk
    have ex := evA_ok hs hg hx
    obtain ⟨d1, h1, h1'⟩ := sl_desc TT hsk
    cases h1'
    obtain ⟨d2, h2, h2'⟩ := sl_desc TT htk
    cases h2'
    split at hv
    case h_2 => cases hv
    rename_i e' l hst hek ho
    have hst := Nat.eq_of_beq_eq_true hst
    subst hst
    have : e2 = e := by rw [h1] at h2; injection h2 with h2; injection h2 with h2; exact h2.symm
    subst this
    obtain ⟨d4, h4, h5⟩ := sl_desc TT hek
    cases h5
    split at hv
    case h_2 => cases hv
    rename_i h6 hset
    simp only [Option.some.injEq, Prod.mk.injEq] at hv
    obtain ⟨rfl, rfl⟩ := hv
    obtain ⟨R, _, _, hsat, hback⟩ := hm.split hN ho hset
    obtain ⟨b, hb, hsat⟩ := sat_cel hsat
    have hblk := hsat.blk
    have hval : (AV.sl i 0 len cap false).val ν = .slice (some ⟨b, 0, none⟩) len cap := by simp [AV.val, hb, En.adr, add_off]
    refine ⟨ν, w.freeze ⟨b, (AV.vals ν l).length, none⟩ 1, Off.refl _ _, ?_, hback (fun _ _ => rfl) ?_⟩
    · simp only [outN, execOp, ex, hval, convert, Sem.run_bind, run_underlying h1, Result.andThen_ok, beq_self_eq_true, run_underlying h4, markStringish]
      have hsh : w.shape? b = some (e', (AV.vals ν l).length) := by simp [World.shape?, hblk]
      simp [shape, Sem.run, hsh, freeze]
    · have h7 : (w.freeze ⟨b, (AV.vals ν l).length, none⟩ 1).heap[b]? = some (.cells (AV.vals ν l).toArray e' ((AV.vals ν l).length, (AV.vals ν l).length + 1)) := by
        simp [World.freeze, Array.getElem?_modify, hblk]
      have h8 := hsat.setBlk (w' := w.freeze ⟨b, (AV.vals ν l).length, none⟩ 1) rfl rfl rfl (by simp [World.freeze]) h7 (fun k hk => by simp [World.freeze, Array.getElem?_modify, Ne.symm hk])
      have h9 := h8.freeze (p := fun w' => w'.heap[b]? = some (.cells (AV.vals ν l).toArray e' ((AV.vals ν l).length, (AV.vals ν l).length + 1))) (fun S w' hc => hc.2)
      refine h9.imp ?_
      rintro S w' ⟨h10, h11⟩
      exact ⟨h10, b, _, _, hb, h11⟩
  · cases hv

include hs hg hm hN hf in
theorem eff_mapUpdate {t : TypeId} {x y z : Operand} (hv : eMapUpdate TT.tab G nb env h id t x y z = some (ro, h')) : ∃ ν' w', Off id ν ν' ∧ (execOp a.eval ⟨dst, .mapUpdate t x y z, ty, pos, af, gu⟩).run P w = .ok (outN ν' ro) w' ∧ Mem ν' nb h' w' := by
  have _ := hf
  unfold eMapUpdate at hv
  split at hv
  case h_2 => cases hv
  rename_i r k v kt et hx hy hz ht
  have ex := evA_ok hs hg hx
  have ey := evA_ok hs hg hy
  have ez := evA_ok hs hg hz
  obtain ⟨d, e1, e2⟩ := sl_desc TT ht
  cases e2
  split at hv
  case h_2 => cases hv
  rename_i kd es clock kk ho hkk
  obtain ⟨dk, k1, k2⟩ := sl_desc TT hkk
  split at hv
  case h_2 => cases hv
  rename_i hc
  simp only [Bool.and_eq_true] at hc
  have htk := kd_tk hc.1
  rw [htk] at k2
  have := KK.ok_desc k2
  subst this
  have hkeys := hm.stat.keys _ _ ho
  obtain ⟨b, hb1, hb2⟩ := hm.fact ho
  have hki := keyIs_is hc.2 ν
  rcases msetA_ok ν (v := v) hc.2 es 0 hkeys with ⟨h1, h2⟩ | ⟨es', j, e, h1, h2, h3, h4, h5⟩
  · rw [h1, spine_eq] at hv
    simp only at hv
    split at hv
    case h_2 => cases hv
    rename_i h6 hset
    simp only [Option.some.injEq, Prod.mk.injEq] at hv
    obtain ⟨rfl, rfl⟩ := hv
    refine ⟨ν, _, Off.refl _ _, ?_, set_obj hm hN ho hset rfl rfl hb1⟩
    simp only [outN, execOp, ex, ey, ez, AV.val, hb1, En.block]
    simp [Instr.mapUpdate, run_underlying e1, MapKept.run_getObj_map hb2, MapKept.run_checkKey k1 (KK.isKey hki), MapKept.run_findKey k1 h2, MapKept.run_setObj_map _ hb2, Result.andThen, ents_append, ents]
  · rw [h1] at hv
    simp only at hv
    split at hv
    case h_2 => cases hv
    rename_i h6 hset
    simp only [Option.some.injEq, Prod.mk.injEq] at hv
    obtain ⟨rfl, rfl⟩ := hv
    refine ⟨ν, _, Off.refl _ _, ?_, set_obj hm hN ho hset rfl rfl hb1⟩
    simp only [outN, execOp, ex, ey, ez, AV.val, hb1, En.block]
    have hmod : ((ents ν es).toArray.modify j fun x => { x with key := k.val ν, val := v.val ν }) = (ents ν es').toArray := by
      apply Array.ext'
      rw [h5]
      simp only [Array.toList_modify]
      apply List.ext_getElem?
      intro q
      simp only [List.getElem?_modify]
      by_cases hq : j = q
      · subst hq
        rw [h3]
        simp [h4]
      · simp [hq]
    simp only [Nat.zero_add] at h2
    simp [Instr.mapUpdate, run_underlying e1, MapKept.run_getObj_map hb2, MapKept.run_checkKey k1 (KK.isKey hki), MapKept.run_findKey k1 h2, h3, h4, Instr.keyThatStays, sameBits_refl hki, MapKept.run_setObj_map _ hb2, Result.andThen]
    have hmod' := congrArg Array.toList hmod
    simp only [Array.toList_modify] at hmod'
    rw [hmod']

include hs hg hm hN hf in
theorem eff_slice {t : TypeId} {x : Operand} {lo hi mx : Option Operand} (hv : eSlice TT.tab G nb env h id t x lo hi mx = some (ro, h')) : ∃ ν' w', Off id ν ν' ∧ (execOp a.eval ⟨dst, .slice t x lo hi mx, ty, pos, af, gu⟩).run P w = .ok (outN ν' ro) w' ∧ Mem ν' nb h' w' := by
  unfold eSlice at hv
  split at hv
  case h_2 => cases hv
  rename_i i off len cap e hx ht
  have ex := evA_ok hs hg hx
  obtain ⟨d, h1, h2⟩ := sl_desc TT ht
  cases h2
  split at hv
  case h_2 => cases hv
  rename_i j k p k' q he hlo hhi
  have hlo' := lo_of hs hg hlo
  have hhi' := lo_of hs hg hhi
  split at hv
  case h_2 => cases hv
  rename_i hc
  simp only [Bool.and_eq_true] at hc
  obtain ⟨⟨hc1, hc2⟩, hc3⟩ := hc
  have hc1 := (Nat.eq_of_beq_eq_true hc1).symm
  have hc2 := (Nat.eq_of_beq_eq_true hc2).symm
  subst hc1; subst hc2
  obtain ⟨o, ho⟩ : ∃ o, h.at i = some o := by
    cases ho : h.at i with
    | none => rw [ho] at hc3; cases hc3
    | some o => exact ⟨o, rfl⟩
  rw [ho] at hc3 hv
  have hcap := symOk_cap hc3 (hm.fact ho)
  simp only at hv
  split at hv
  case h_2 => cases hv
  rename_i h3 hn
  simp only [Option.some.injEq, Prod.mk.injEq] at hv
  obtain ⟨rfl, rfl⟩ := hv
  have hrun := run_sliceAt_sl (P := P) (w := w) (A := (ν i).adr.map (·.add off)) h1 (TT.ok he) (run_bounds2 (isSlice := true) (len := len) (cap := (ν i).cap - cap) hlo' hhi' (Nat.le_refl _) (by omega))
  refine ⟨ν.put id (.sl (if (ν i).cap - cap = len then (ν i).adr.map (·.add off) else ((ν i).adr.map (·.add off)).map (·.add (len * j.size))) ((ν i).cap - cap - len)), w, Vl.put_off _ _ _, ?_, hm.new hN hf hn (Vl.put_off _ _ _) ?_⟩
  · have ex' : a.eval x = .slice ((ν i).adr.map (·.add off)) len ((ν i).cap - cap) := ex
    have hout : (AV.sl id 0 0 0 true).val (ν.put id (.sl (if (ν i).cap - cap = len then (ν i).adr.map (·.add off) else ((ν i).adr.map (·.add off)).map (·.add (len * j.size))) ((ν i).cap - cap - len))) = .slice (if (ν i).cap - cap = len then (ν i).adr.map (·.add off) else ((ν i).adr.map (·.add off)).map (·.add (len * j.size))) (len - len) ((ν i).cap - cap - len) := by
      simp only [AV.val, Vl.put_at, En.adr, En.cap, addr_add0, if_true, Nat.sub_zero, Nat.sub_self]
    simp only [execOp, ex', Option.map_none, Sem.run_bind, hrun, Result.andThen_ok, Sem.run_pure, outN, hout]
  · cases hsm : o.some' with
    | true =>
      have hsome := some_adr hsm (hm.fact ho)
      obtain ⟨ad, had⟩ := Option.isSome_iff_exists.1 hsome
      refine (hm.sat.addRo (p := fun _ => True) (fun _ _ => trivial)).imp ?_
      rintro S w' ⟨h4, _⟩
      refine ⟨h4, _, _, Vl.put_at _ _ _, ?_⟩
      rw [had]
      split <;> rfl
    | false =>
      refine (hm.sat.addRo (p := fun _ => True) (fun _ _ => trivial)).imp ?_
      rintro S w' ⟨h4, _⟩
      refine ⟨h4, _, _, Vl.put_at _ _ _, Nat.zero_le _, ?_⟩
      intro q u hu
      simp [AV.vals] at hu

include hs hg hm hN hf in
theorem eff_range {t : TypeId} {x : Operand} (hv : eRange TT.tab G nb env h id t x = some (ro, h')) : ∃ ν' w', Off id ν ν' ∧ (execOp a.eval ⟨dst, .range t x, ty, pos, af, gu⟩).run P w = .ok (outN ν' ro) w' ∧ Mem ν' nb h' w' := by
  unfold eRange at hv
  split at hv
  · rename_i r kt et hx ht
    have ex := evA_ok hs hg hx
    obtain ⟨d, h1, h2⟩ := sl_desc TT ht
    cases h2
    split at hv
    case h_2 => cases hv
    rename_i kd es clock ho
    split at hv
    case h_2 => cases hv
    rename_i h3 hn
    simp only [Option.some.injEq, Prod.mk.injEq] at hv
    obtain ⟨rfl, rfl⟩ := hv
    obtain ⟨b, hb1, hb2⟩ := hm.fact ho
    have hne : r ≠ id := by
      obtain ⟨_, _, _, _, h4⟩ := hf.agr
      exact (h4 _ (T.get_mem _ _ _ _ ho)).1
    refine ⟨ν.put id (.blk w.heap.size), _, Vl.put_off _ _ _, ?_, hm.alloc (O := .mapIter (some b) clock #[] clock) hN hf hn ?_⟩
    · simp only [outN, execOp, ex, AV.val, hb1, En.block, Vl.put_at, En.adr, Option.map_some, add_off, Nat.add_zero]
      simp [Instr.range, run_underlying h1, MapKept.run_getObj_map hb2, Result.andThen, newObj, Sem.run]
    · rintro S w' ⟨h4, h5⟩
      refine ⟨fun b' hb' => by rw [Vl.put_at] at hb'; injection hb' with hb'; subst hb'; exact h4, _, Vl.put_at _ _ _, ?_⟩
      rw [Option.map_some, Vl.put_off _ _ _ _ hne, hb1]
      exact h5
  · rename_i kt et hx ht
    have ex := evA_ok hs hg hx
    obtain ⟨d, h1, h2⟩ := sl_desc TT ht
    cases h2
    split at hv
    case h_2 => cases hv
    rename_i h3 hn
    simp only [Option.some.injEq, Prod.mk.injEq] at hv
    obtain ⟨rfl, rfl⟩ := hv
    refine ⟨ν.put id (.blk w.heap.size), _, Vl.put_off _ _ _, ?_, hm.alloc (O := .mapIter none 0 #[] 0) hN hf hn ?_⟩
    · simp only [outN, execOp, ex, AV.val, En.block, Vl.put_at, En.adr, Option.map_some, add_off, Nat.add_zero]
      simp [Instr.range, run_underlying h1, Result.andThen, newObj, Sem.run]
    · rintro S w' ⟨h4, h5⟩
      exact ⟨fun b' hb' => by rw [Vl.put_at] at hb'; injection hb' with hb'; subst hb'; exact h4, _, Vl.put_at _ _ _, h5⟩
  · cases hv
end
end Go.Ex
