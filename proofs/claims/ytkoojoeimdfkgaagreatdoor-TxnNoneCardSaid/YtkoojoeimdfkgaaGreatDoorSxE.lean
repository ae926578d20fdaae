/-
  The calculus' rules: literals, calls, maps, regions that draw.
-/
import Derived.Test.YtkoojoeimdfkgaaGreatDoorSxD
namespace Go.Sx
open Go Go.RowKit

def evL (env : Env) : List Operand → Option (List Value)
  | [] => some []
  | x :: r => match ev env x with
    | some v => match evL env r with
      | some vs => some (v :: vs)
      | none => none
    | none => none
def evP (env : Env) : List (Nat × Operand) → Option (List (Nat × Value))
  | [] => some []
  | (i, x) :: r => match ev env x with
    | some v => match evP env r with
      | some vs => some ((i, v) :: vs)
      | none => none
    | none => none
theorem Ok.evL {n : Nat} {ds : List Deferred} {env : Env} {a : Act} (h : Ok n ds env a) : ∀ {l : List Operand} {vs : List Value}, Sx.evL env l = some vs → l.map a.eval = vs
  | [], vs, e => by simp only [Sx.evL, Option.some.injEq] at e; subst e; rfl
  | x :: r, vs, e => by
    unfold Sx.evL at e
    split at e
    case h_2 => cases e
    rename_i v hv
    split at e
    case h_2 => cases e
    rename_i us hu
    injection e with e
    subst e
    simp only [List.map_cons, h.eval hv, h.evL hu]
theorem Ok.evP {n : Nat} {ds : List Deferred} {env : Env} {a : Act} (h : Ok n ds env a) : ∀ {l : List (Nat × Operand)} {vs : List (Nat × Value)}, Sx.evP env l = some vs → l.map (fun x => (x.1, a.eval x.2)) = vs
  | [], vs, e => by simp only [Sx.evP, Option.some.injEq] at e; subst e; rfl
  | (i, x) :: r, vs, e => by
    unfold Sx.evP at e
    split at e
    case h_2 => cases e
    rename_i v hv
    split at e
    case h_2 => cases e
    rename_i us hu
    injection e with e
    subst e
    simp only [List.map_cons, h.eval hv, h.evP hu]

section
variable {P : Program} {Q : Exit → Act → World → Prop} {n : Nat} {ds : List Deferred} {env : Env} {L : List Chunk} {ops : Array Oper} {rest : List Oper}
variable {dst : Option Tmp} {ty : TypeId} {pos : String} {af : Array Edge} {gu : Option (Nat × Bool)}

/-! ### calls -/
theorem en_call {f : FuncId} {xs : List Operand} {vs : List Value} {ats : Array TypeId} (hc : CanCall P f) (ha : evL env xs = some vs) : Enters P n ds env L ⟨dst, .call { callee := .value (.func f), args := xs.toArray, argTypes := ats }, ty, pos, af, gu⟩ f vs.toArray := fun a w ho _ => by
  simp only [execOp, resolve, Act.eval, Deferred.ofValue]
  have := hc vs.toArray w
  simp [ho.evL ha, invoke, this]
theorem en_callv {x : Operand} {f : FuncId} {us cs as : List Value} {xs : List Operand} {vs : List Value} {ats : Array TypeId} (hc : CanCall P f) (hx : ev env x = some (.func (.func f) us.toArray cs.toArray)) (ha : evL env xs = some vs) (hl : us ++ vs ++ cs = as) : Enters P n ds env L ⟨dst, .call { callee := .value x, args := xs.toArray, argTypes := ats }, ty, pos, af, gu⟩ f as.toArray := fun a w ho _ => by
  simp only [execOp, resolve, ho.eval hx, Deferred.ofValue]
  subst hl
  have := hc (us ++ vs ++ cs).toArray w
  simp only [List.append_assoc] at this
  simp [ho.evL ha, invoke, this]
theorem gl_call {o : Oper} {d : Nat} {f : FuncId} {xs : List Operand} {vs : List Value} {ats : Array TypeId} {K : Value → List Chunk → Prop} {L' : List Chunk} (ho : o.op = .call { callee := .value (.func f), args := xs.toArray, argTypes := ats }) (ha : evL env xs = some vs) (hf : SxFn P f vs.toArray L' K) (he : Ent L L')
    (hg : o.guard = none) (hd : o.dst = some d) (hn : Nat.ble (d + 1) n = true) (k : ∀ v L'', K v L'' → GL P Q n ds ops rest ((d, v) :: env) L'') : GL P Q n ds ops (o :: rest) env L :=
  gl_c (f := f) (args := vs.toArray) (by cases o; simp only at ho; subst ho; exact en_call hf.1 ha) hf he hg hd hn k
theorem gl_callv {o : Oper} {d : Nat} {x : Operand} {f : FuncId} {us cs as : List Value} {xs : List Operand} {vs : List Value} {ats : Array TypeId} {K : Value → List Chunk → Prop} {L' : List Chunk} (ho : o.op = .call { callee := .value x, args := xs.toArray, argTypes := ats }) (hx : ev env x = some (.func (.func f) us.toArray cs.toArray)) (ha : evL env xs = some vs) (hl : us ++ vs ++ cs = as) (hf : SxFn P f as.toArray L' K) (he : Ent L L')
    (hg : o.guard = none) (hd : o.dst = some d) (hn : Nat.ble (d + 1) n = true) (k : ∀ v L'', K v L'' → GL P Q n ds ops rest ((d, v) :: env) L'') : GL P Q n ds ops (o :: rest) env L :=
  gl_c (f := f) (args := as.toArray) (by cases o; simp only at ho; subst ho; exact en_callv hf.1 hx ha hl) hf he hg hd hn k

/-! ### literals -/
theorem vl_makeFunc {fn : Fn} {fs cs : List Operand} {us vs : List Value} (hf : evL env fs = some us) (hc : evL env cs = some vs) : Val P n ds env L ⟨dst, .makeFunc fn fs.toArray cs.toArray, ty, pos, af, gu⟩ (.func fn us.toArray vs.toArray) := fun a w ho _ => by
  simp [execOp, Instr.makeFunc, ho.evL hf, ho.evL hc]
theorem gl_makeFunc {fn : Fn} {fs cs : List Operand} {us vs : List Value} (hf : evL env fs = some us) (hc : evL env cs = some vs) {d : Nat} (hn : Nat.ble (d + 1) n = true) (k : GL P Q n ds ops rest ((d, (.func fn us.toArray vs.toArray)) :: env) L) : GL P Q n ds ops (⟨some d, .makeFunc fn fs.toArray cs.toArray, ty, pos, af, none⟩ :: rest) env L := gl_v (vl_makeFunc hf hc) rfl rfl hn k

theorem vl_build {t : Nat} {ps : List (Nat × Operand)} {vs : List (Nat × Value)} {l : List Value} {fs : List (Nat × Nat)} (T : TyTab P) {i : TyI} (ht : T.tab t = some i) (hk : i.k = .struct fs) (hall : (fs.all fun f => (T.tab f.2).isSome) = true) (h0 : Nat.beq i.zero.length 0 = false) (ha : evP env ps = some vs) (hb : bld T.tab fs i.zero vs = some l) : Val P n ds env L ⟨dst, .build t ps.toArray, ty, pos, af, gu⟩ (.agg l.toArray) := fun a w ho _ => by
  obtain ⟨dd, e1, e2⟩ := (T.ok ht).desc
  rw [hk] at e2
  obtain ⟨fl, rfl, h3⟩ := e2
  have hz : (zeroValue t).run P w = .ok (.agg i.zero.toArray) w := by
    obtain ⟨f, h2, _, _, h4⟩ := (T.ok ht).info
    rcases h4 with ⟨_, h4⟩ | ⟨h5, _, _⟩ | h4
    · simp [zeroValue, typeInfo, h2, h4]
    · rw [hk] at h5; cases h5
    · rw [h4] at h0; cases h0
  have hpl : ∃ places : Array (Nat × Nat), (fl.mapM (m := Sem) fun f => do pure (f.offset, ← sizeOf f.type)).run P w = .ok places w ∧ ∀ (i : Nat) (f : Field), fl[i]? = some f → ∀ j, T.tab f.type = some j → places[i]? = some (f.offset, j.size) := by
    have go : ∀ (l : List Field), (∀ f ∈ l, (T.tab f.type).isSome = true) → ∃ ps : List (Nat × Nat), (l.mapM (m := Sem) fun f => do pure (f.offset, ← sizeOf f.type)).run P w = .ok ps w ∧ ∀ (i : Nat) (f : Field), l[i]? = some f → ∀ j, T.tab f.type = some j → ps[i]? = some (f.offset, j.size) := by
      intro l
      induction l with
      | nil => intro _; exact ⟨[], by simp, fun i f h => by simp at h⟩
      | cons f l ih =>
        intro hl
        obtain ⟨ps, h5, h6⟩ := ih fun g hg => hl g (List.mem_cons_of_mem _ hg)
        obtain ⟨j, hj⟩ := Option.isSome_iff_exists.1 (hl f (List.mem_cons_self ..))
        refine ⟨(f.offset, j.size) :: ps, ?_, ?_⟩
        · rw [List.mapM_cons]
          simp only [Sem.run_bind, run_sizeOf (T.ok hj), Result.andThen_ok, Sem.run_pure, h5]
        · intro i g hg j' hj'
          cases i with
          | zero => simp at hg; subst hg; rw [hj] at hj'; injection hj' with hj'; subst hj'; rfl
          | succ i => simp at hg ⊢; exact h6 i g hg j' hj'
    obtain ⟨ps, h5, h6⟩ := go fl.toList (fun f hf => by
      have := List.all_eq_true.1 hall (f.offset, f.type) (by rw [← h3]; exact List.mem_map.2 ⟨f, hf, rfl⟩)
      exact this)
    refine ⟨ps.toArray, ?_, fun i f hf j hj => by simpa using h6 i f (by simpa using hf) j hj⟩
    rw [Array.mapM_eq_mapM_toList]
    simp only [map_eq_pure_bind, Sem.run_bind, h5, Result.andThen_ok, Sem.run_pure]
  obtain ⟨places, h5, h6⟩ := hpl
  have hfill := fill_bld T h3 h6 vs i.zero l hb
  have hps : (ps.map fun x => (x.1, a.eval x.2)) = vs := ho.evP ha
  simp only [execOp, Instr.build, Sem.run_bind, hz, Result.andThen_ok, run_underlying e1, Value.cells, h5, List.map_toArray, hps, hfill, Sem.run_pure]
theorem gl_build {t : Nat} {ps : List (Nat × Operand)} {vs : List (Nat × Value)} {l : List Value} {fs : List (Nat × Nat)} (T : TyTab P) {i : TyI} (ht : T.tab t = some i) (hk : i.k = .struct fs) (hall : (fs.all fun f => (T.tab f.2).isSome) = true) (h0 : Nat.beq i.zero.length 0 = false) (ha : evP env ps = some vs) (hb : bld T.tab fs i.zero vs = some l) {d : Nat} (hn : Nat.ble (d + 1) n = true) (k : GL P Q n ds ops rest ((d, (.agg l.toArray)) :: env) L) : GL P Q n ds ops (⟨some d, .build t ps.toArray, ty, pos, af, none⟩ :: rest) env L := gl_v (vl_build T ht hk hall h0 ha hb) rfl rfl hn k

/-- putting parts in their places -/
def bldS (sz : Nat) : List Value → List (Nat × Value) → Option (List Value)
  | z, [] => some z
  | z, (i, v) :: r => match Nat.beq v.cells.toList.length sz && Nat.ble (i * sz + sz) z.length with
    | true => bldS sz (putL z (i * sz) v.cells.toList) r
    | false => none
theorem fill_bldS (sz : Nat) : ∀ (ps : List (Nat × Value)) (z l : List Value), bldS sz z ps = some l → Instr.fill (fun i => some (i * sz, sz)) z.toArray ps = some l.toArray
  | [], z, l, h => by simp only [bldS, Option.some.injEq] at h; subst h; rfl
  | (i, v) :: r, z, l, h => by
    unfold bldS at h
    split at h
    case h_2 => cases h
    rename_i hb
    simp only [Bool.and_eq_true] at hb
    have h1 := Nat.eq_of_beq_eq_true hb.1
    have h2 := Nat.le_of_ble_eq_true hb.2
    have ih := fill_bldS sz r _ _ h
    have hcond : (decide (v.cells.size ≠ sz) || decide (i * sz + v.cells.size > z.toArray.size)) = false := by
      rw [Array.length_toList] at h1
      simp; omega
    unfold Instr.fill
    simp only [hcond, Bool.false_eq_true, if_false]
    rw [← ih]
    congr 1
    apply Array.ext'
    have := fold_putL v.cells.toList 0 (i * sz) z.toArray
    rw [Nat.add_zero] at this
    rw [List.toList_toArray] at this
    rw [← this, ← Array.foldl_toList]
    simp only [Array.zipIdx, Array.toList_mapIdx]
    congr 2
    apply List.ext_getElem?
    intro q
    simp [List.getElem?_mapIdx, List.getElem?_zipIdx]

/-- n copies of a row -/
def reps : Nat → List Value → List Value
  | 0, _ => []
  | m + 1, z => z ++ reps m z

theorem reps_get (l : List Value) : ∀ (m q : Nat), q < m * l.length → (reps m l)[q]? = l[q % l.length]?
  | 0, q, h => by simp at h
  | m + 1, q, h => by
    simp only [reps]
    rcases Nat.lt_or_ge q l.length with hq | hq
    · rw [List.getElem?_append_left hq, Nat.mod_eq_of_lt hq]
    · rw [List.getElem?_append_right hq, reps_get l m (q - l.length) (by rw [Nat.add_mul] at h; omega), Nat.mod_eq_sub_mod hq]
theorem reps_length (l : List Value) : ∀ m, (reps m l).length = m * l.length
  | 0 => by simp [reps]
  | m + 1 => by simp [reps, reps_length l m, Nat.add_mul, Nat.add_comm]
theorem range_reps (l : List Value) (m : Nat) : (Array.range (m * l.length)).map (l.toArray[· % l.toArray.size]!) = (reps m l).toArray := by
  apply Array.ext'
  apply List.ext_getElem?
  intro q
  simp only [Array.toList_map, Array.toList_range, List.getElem?_map]
  rcases Nat.lt_or_ge q (m * l.length) with hq | hq
  · have hl : 0 < l.length := by
      rcases Nat.eq_zero_or_pos l.length with h | h
      · rw [h] at hq; omega
      · exact h
    have hm := Nat.mod_lt q hl
    rw [List.getElem?_range hq, reps_get l m q hq]
    simp [hm]
  · rw [List.getElem?_eq_none (by simpa using hq), List.getElem?_eq_none (by rw [reps_length]; exact hq)]
    rfl

theorem ac_buildSlice {t e len : Nat} {ps : List (Nat × Operand)} {vs : List (Nat × Value)} {l : List Value} (T : TyTab P) {i j : TyI} (ht : T.tab t = some i) (hk : i.k = .slice e) (hj : T.tab e = some j) (h0 : Nat.beq j.zero.length j.size = true) (h1 : Nat.beq j.size 0 = false) (hs : Nat.ble (len * j.size) 16777216 = true) (ha : evP env ps = some vs) (hb : bldS j.size (reps len j.zero) vs = some l) : Acts P n ds env L ⟨dst, .buildSlice t len ps.toArray, ty, pos, af, gu⟩ (fun v L' => ∃ b, v = .slice (some ⟨b, 0, none⟩) len len ∧ L' = cel b e l :: L) := fun a w ho hsat => by
  refine ⟨_, _, _, ?_, hsat.alloc (.cells l.toArray e (0, 0)), ⟨_, rfl, rfl⟩⟩
  obtain ⟨dd, e1, e2⟩ := (T.ok ht).desc
  rw [hk] at e2
  subst e2
  have h1' := Nat.ne_of_beq_eq_false h1
  have h0' := Nat.eq_of_beq_eq_true h0
  have hs' := Nat.le_of_ble_eq_true hs
  obtain ⟨f, z, f1, f2, f3, f4, f5⟩ := zero_val (T.ok hj) (by intro h; rw [h] at h0'; exact h1' h0'.symm)
  have hfill := fill_bldS j.size vs _ l hb
  have hr := range_reps j.zero len
  rw [h0'] at hr
  have hnot : ¬ (len * j.size > 2 ^ 24) := by omega
  simp only [execOp, Instr.buildSlice]
  have hps : (ps.map fun x => (x.1, a.eval x.2)) = vs := ho.evP ha
  by_cases h : len * j.size = 0
  · have h7 : (Array.range (len * j.size)).map ((#[] : Array Value)[· % (#[] : Array Value).size]!) = (reps len j.zero).toArray := by
      rw [← hr, h]
      simp
    simp only [Sem.run_bind, run_underlying e1, run_sizeOf (T.ok hj), Result.andThen_ok, hnot, if_false, List.map_toArray, hps]
    rw [if_pos h]
    simp only [Sem.run_bind, Sem.run_pure, Result.andThen_ok, h7, hfill]
    rfl
  · simp only [Sem.run_bind, run_underlying e1, run_sizeOf (T.ok hj), Result.andThen_ok, hnot, if_false, List.map_toArray, hps]
    rw [if_neg h]
    simp only [zeroValue, typeInfo, Sem.run_bind, run_program, f1, f4, Sem.run_pure, Result.andThen_ok, f5, hr, hfill]
    rfl
theorem gl_buildSlice {t e len : Nat} {ps : List (Nat × Operand)} {vs : List (Nat × Value)} {l : List Value} (T : TyTab P) {i j : TyI} (ht : T.tab t = some i) (hk : i.k = .slice e) (hj : T.tab e = some j) (h0 : Nat.beq j.zero.length j.size = true) (h1 : Nat.beq j.size 0 = false) (hs : Nat.ble (len * j.size) 16777216 = true) (ha : evP env ps = some vs) (hb : bldS j.size (reps len j.zero) vs = some l) {d : Nat} (hn : Nat.ble (d + 1) n = true) (k : ∀ v L'', (fun v L' => ∃ b, v = .slice (some ⟨b, 0, none⟩) len len ∧ L' = cel b e l :: L) v L'' → GL P Q n ds ops rest ((d, v) :: env) L'') : GL P Q n ds ops (⟨some d, .buildSlice t len ps.toArray, ty, pos, af, none⟩ :: rest) env L := gl_a (ac_buildSlice T ht hk hj h0 h1 hs ha hb) rfl rfl hn k

end
end Go.Sx
