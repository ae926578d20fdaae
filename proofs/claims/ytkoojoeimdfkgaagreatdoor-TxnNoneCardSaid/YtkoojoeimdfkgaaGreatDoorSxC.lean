/-
  The calculus' rules over memory: new variables, loads, stores, fields, calls.
-/
import Derived.Test.YtkoojoeimdfkgaaGreatDoorSxB
namespace Go.Sx
open Go Go.RowKit

/-- a block of plain cells -/
def cel (b e : Nat) (l : List Value) : Chunk := blk b (.cells l.toArray e (0, 0))

def putL : List Value → Nat → List Value → List Value
  | l, _, [] => l
  | [], _, _ :: _ => []
  | _ :: l, 0, v :: vs => v :: putL l 0 vs
  | x :: l, k + 1, v :: vs => x :: putL l k (v :: vs)

theorem putL_length : ∀ (l : List Value) (k : Nat) (vs : List Value), (putL l k vs).length = l.length
  | l, _, [] => by simp [putL]
  | [], _, _ :: _ => rfl
  | _ :: l, 0, v :: vs => by simp [putL, putL_length l 0 vs]
  | x :: l, k + 1, v :: vs => by simp [putL, putL_length l k (v :: vs)]
theorem putL_cons : ∀ (l : List Value) (k : Nat) (v : Value) (vs : List Value), putL l k (v :: vs) = putL (l.set k v) (k + 1) vs
  | [], k, v, vs => by cases vs <;> simp [putL]
  | x :: l, 0, v, vs => by cases vs <;> cases l <;> simp [putL]
  | x :: l, k + 1, v, vs => by
    have := putL_cons l k v vs
    cases vs with
    | nil => simpa [putL] using this
    | cons u vs => simp only [putL, List.set_cons_succ]; rw [this]

theorem cell_of {w : World} {b e off : Nat} {l : List Value} {fz : Nat × Nat} (h : w.heap[b]? = some (.cells l.toArray e fz)) : w.cell? ⟨b, off, none⟩ = l[off]? := by
  simp [World.cell?, h]
theorem free_of {w : World} {b e off : Nat} {l : List Value} (h : w.heap[b]? = some (.cells l.toArray e (0, 0))) : w.frozen? ⟨b, off, none⟩ = false := by
  simp [World.frozen?, h]
theorem heap_setCell_at {w : World} {b e off : Nat} {l : List Value} {fz : Nat × Nat} (v : Value) (h : w.heap[b]? = some (.cells l.toArray e fz)) :
    (w.setCell ⟨b, off, none⟩ v).heap[b]? = some (.cells (l.set off v).toArray e fz) := by
  simp only [World.setCell, Array.getElem?_modify, h]
  simp

theorem Sat.setCell {w : World} {b e off : Nat} {l : List Value} {L : List Chunk} (v : Value) (h : Sat w (cel b e l :: L)) : Sat (w.setCell ⟨b, off, none⟩ v) (cel b e (l.set off v) :: L) :=
  h.setBlk rfl rfl rfl (by simp [World.setCell]) (heap_setCell_at v h.blk) (fun k hk => Below.heap_setCell _ _ _ _ hk)

theorem add_off (b off k : Nat) : (⟨b, off, none⟩ : Addr).add k = ⟨b, off + k, none⟩ := by
  unfold Addr.add
  split
  · rename_i h; subst h; rfl
  · rfl

section
variable {P : Program} {w : World}
theorem run_sizeOf {t : Nat} {i : TyI} (h : TyOk P t i) : (sizeOf t).run P w = .ok i.size w := by
  obtain ⟨f, h1, h2, _⟩ := h.info
  simp [sizeOf, typeInfo, h1, h2]
theorem run_isAgg {t : Nat} {i : TyI} (h : TyOk P t i) : (isAgg t).run P w = .ok i.k.isAgg w := by
  obtain ⟨d, h1, h2⟩ := h.desc
  unfold isAgg
  simp only [Sem.run_bind, run_underlying h1, Result.andThen]
  cases hk : i.k <;> rw [hk] at h2 <;> simp only [TK.ok] at h2
  case func => obtain ⟨_, _, _, rfl⟩ := h2; rfl
  case iface => obtain ⟨_, rfl⟩ := h2; rfl
  case struct => obtain ⟨_, rfl, _⟩ := h2; rfl
  case tuple => obtain ⟨_, rfl⟩ := h2; rfl
  all_goals (subst h2; rfl)
theorem run_loadVar_one {t : Nat} {i : TyI} {a : Addr} {v : Value} (h : TyOk P t i) (hi : i.k.isAgg = false) (hv : w.cell? a = some v) : (loadVar t a).run P w = .ok v w := by
  unfold loadVar
  simp [run_isAgg h, hi, hv]
theorem run_loadVar_agg {t : Nat} {i : TyI} {a : Addr} {vs : List Value} (h : TyOk P t i) (hi : i.k.isAgg = true) (hl : vs.length = i.size) (hv : ∀ j u, vs[j]? = some u → w.cell? (a.add j) = some u) : (loadVar t a).run P w = .ok (.agg vs.toArray) w := by
  unfold loadVar
  have := run_loadCells_list (P := P) (w := w) a vs hv
  simp [run_isAgg h, hi, run_sizeOf h, ← hl, this]
theorem run_storeCells {b e : Nat} : ∀ (vs : List Value) (i off : Nat) (l : List Value) (w : World) (L : List Chunk), Sat w (cel b e l :: L) → (∀ u ∈ vs, u.oneCell' = true) → off + i + vs.length ≤ l.length →
    ∃ w', (storeCells ⟨b, off, none⟩ vs i).run P w = .ok () w' ∧ Sat w' (cel b e (putL l (off + i) vs) :: L)
  | [], i, off, l, w, L, hs, _, _ => ⟨w, rfl, by simpa [putL] using hs⟩
  | v :: vs, i, off, l, w, L, hs, h1, hl => by
    have hb := hs.blk
    have hlt : off + i < l.length := by simp at hl; omega
    have hc : w.cell? ⟨b, off + i, none⟩ = some (l[off + i]'hlt) := by rw [cell_of hb]; simp [hlt]
    obtain ⟨w', hr, hs'⟩ := run_storeCells vs (i + 1) off (l.set (off + i) v) (w.setCell ⟨b, off + i, none⟩ v) L (hs.setCell v) (fun u hu => h1 u (List.mem_cons_of_mem _ hu)) (by simp at hl ⊢; omega)
    refine ⟨w', ?_, ?_⟩
    · unfold storeCells
      rw [add_off]
      simp [run_store P w _ v .plain (h1 v (List.mem_cons_self ..)), stored, hc, free_of hb, hr]
    · rw [putL_cons]
      exact hs'
end

section
variable {P : Program} {Q : Exit → Act → World → Prop} {n : Nat} {ds : List Deferred} {env : Env} {L : List Chunk} {ops : Array Oper} {rest : List Oper}
variable {dst : Option Tmp} {ty : TypeId} {pos : String} {af : Array Edge} {gu : Option (Nat × Bool)}

theorem vl_fieldAddr {s f b off o ft m : Nat} {x : Operand} (T : TyTab P) {i j : TyI} {fs : List (Nat × Nat)} (hx : ev env x = some (.pointer (some ⟨b, off, none⟩))) (ht : T.tab s = some i) (hk : i.k = .struct fs) (hf : fs[f]? = some (o, ft))
    (hj : T.tab ft = some j) (hz : Nat.beq j.size 0 = false) (hm : off + o = m) : Val P n ds env L ⟨dst, .fieldAddr s x f, ty, pos, af, gu⟩ (.pointer (some ⟨b, m, none⟩)) := fun a w ho _ => by
    obtain ⟨dd, h1, h2⟩ := (T.ok ht).desc
    rw [hk] at h2
    obtain ⟨fl, rfl, h3⟩ := h2
    have hf' : ∃ g, fl[f]? = some g ∧ g.offset = o ∧ g.type = ft := by
      rw [← h3, List.getElem?_map] at hf
      cases hg : fl.toList[f]? with
      | none => rw [hg] at hf; simp at hf
      | some g => rw [hg] at hf; simp at hf; exact ⟨g, by simpa using hg, hf.1, hf.2⟩
    obtain ⟨g, hg, rfl, rfl⟩ := hf'
    have hz' := Nat.ne_of_beq_eq_false hz
    simp only [execOp, ho.eval hx, Instr.fieldAt, Instr.sureAddr, fieldPlace]
    simp [run_underlying h1, hg, run_sizeOf (T.ok hj), hz', add_off, hm]
theorem gl_fieldAddr {s f b off o ft m : Nat} {x : Operand} (T : TyTab P) {i j : TyI} {fs : List (Nat × Nat)} (hx : ev env x = some (.pointer (some ⟨b, off, none⟩))) (ht : T.tab s = some i) (hk : i.k = .struct fs) (hf : fs[f]? = some (o, ft))
    (hj : T.tab ft = some j) (hz : Nat.beq j.size 0 = false) (hm : off + o = m) {d : Nat} (hn : Nat.ble (d + 1) n = true) (k : GL P Q n ds ops rest ((d, (.pointer (some ⟨b, m, none⟩))) :: env) L) : GL P Q n ds ops (⟨some d, .fieldAddr s x f, ty, pos, af, none⟩ :: rest) env L := gl_v (vl_fieldAddr T hx ht hk hf hj hz hm) rfl rfl hn k

theorem vl_load {t b off e : Nat} {x : Operand} {l : List Value} {v : Value} {L' : List Chunk} (T : TyTab P) {i : TyI} (hx : ev env x = some (.pointer (some ⟨b, off, none⟩))) (hp : Pick (cel b e l) L L') (hv : l[off]? = some v)
    (ht : T.tab t = some i) (hi : i.k.isAgg = false) : Val P n ds env L ⟨dst, .load t x, ty, pos, af, gu⟩ v := fun a w ho hs => by
    have hb := (hs.pick hp).blk
    simp only [execOp, ho.eval hx, Instr.loadAt, Instr.sureAddr]
    have := run_loadVar_one (P := P) (w := w) (T.ok ht) hi (a := ⟨b, off, none⟩) (v := v) (by rw [cell_of hb, hv])
    simp [this]
theorem gl_load {t b off e : Nat} {x : Operand} {l : List Value} {v : Value} {L' : List Chunk} (T : TyTab P) {i : TyI} (hx : ev env x = some (.pointer (some ⟨b, off, none⟩))) (hp : Pick (cel b e l) L L') (hv : l[off]? = some v)
    (ht : T.tab t = some i) (hi : i.k.isAgg = false) {d : Nat} (hn : Nat.ble (d + 1) n = true) (k : GL P Q n ds ops rest ((d, v) :: env) L) : GL P Q n ds ops (⟨some d, .load t x, ty, pos, af, none⟩ :: rest) env L := gl_v (vl_load T hx hp hv ht hi) rfl rfl hn k

/-- a variable of several cells -/
def sub (l : List Value) (off m : Nat) : List Value := (l.drop off).take m
theorem vl_loadA {t b off e m : Nat} {x : Operand} {l vs : List Value} {L' : List Chunk} (T : TyTab P) {i : TyI} (hx : ev env x = some (.pointer (some ⟨b, off, none⟩))) (hp : Pick (cel b e l) L L')
    (ht : T.tab t = some i) (hi : i.k.isAgg = true) (hm : i.size = m) (hv : sub l off m = vs) (hl : Nat.beq vs.length m = true) : Val P n ds env L ⟨dst, .load t x, ty, pos, af, gu⟩ (.agg vs.toArray) := fun a w ho hs => by
    have hb := (hs.pick hp).blk
    simp only [execOp, ho.eval hx, Instr.loadAt, Instr.sureAddr]
    have := run_loadVar_agg (P := P) (w := w) (T.ok ht) hi (a := ⟨b, off, none⟩) (vs := vs) (by rw [hm]; exact Nat.eq_of_beq_eq_true hl) (fun j u hj => by
      rw [add_off, cell_of hb]
      rw [← hv] at hj
      unfold sub at hj
      rw [List.getElem?_take] at hj
      split at hj
      · rw [List.getElem?_drop] at hj; exact hj
      · cases hj)
    simp [this]
theorem gl_loadA {t b off e m : Nat} {x : Operand} {l vs : List Value} {L' : List Chunk} (T : TyTab P) {i : TyI} (hx : ev env x = some (.pointer (some ⟨b, off, none⟩))) (hp : Pick (cel b e l) L L')
    (ht : T.tab t = some i) (hi : i.k.isAgg = true) (hm : i.size = m) (hv : sub l off m = vs) (hl : Nat.beq vs.length m = true) {d : Nat} (hn : Nat.ble (d + 1) n = true) (k : GL P Q n ds ops rest ((d, (.agg vs.toArray)) :: env) L) : GL P Q n ds ops (⟨some d, .load t x, ty, pos, af, none⟩ :: rest) env L := gl_v (vl_loadA T hx hp ht hi hm hv hl) rfl rfl hn k

theorem vl_loadRo {t : Nat} {ad : Addr} {x : Operand} {p : World → Prop} {v : Value} {L' : List Chunk} (T : TyTab P) {i : TyI} (hx : ev env x = some (.pointer (some ad))) (hp : Pick (ro p) L L') (hv : ∀ w, p w → w.cell? ad = some v)
    (ht : T.tab t = some i) (hi : i.k.isAgg = false) : Val P n ds env L ⟨dst, .load t x, ty, pos, af, gu⟩ v := fun a w ho hs => by
    simp only [execOp, ho.eval hx, Instr.loadAt, Instr.sureAddr]
    have := run_loadVar_one (P := P) (w := w) (T.ok ht) hi (a := ad) (v := v) (hv w (hs.pick hp).ro)
    simp [this]
theorem gl_loadRo {t : Nat} {ad : Addr} {x : Operand} {p : World → Prop} {v : Value} {L' : List Chunk} (T : TyTab P) {i : TyI} (hx : ev env x = some (.pointer (some ad))) (hp : Pick (ro p) L L') (hv : ∀ w, p w → w.cell? ad = some v)
    (ht : T.tab t = some i) (hi : i.k.isAgg = false) {d : Nat} (hn : Nat.ble (d + 1) n = true) (k : GL P Q n ds ops rest ((d, v) :: env) L) : GL P Q n ds ops (⟨some d, .load t x, ty, pos, af, none⟩ :: rest) env L := gl_v (vl_loadRo T hx hp hv ht hi) rfl rfl hn k

theorem vl_loadRoA {t : Nat} {ad : Addr} {x : Operand} {p : World → Prop} {vs : List Value} {L' : List Chunk} (T : TyTab P) {i : TyI} (hx : ev env x = some (.pointer (some ad))) (hp : Pick (ro p) L L') (hv : ∀ w, p w → ∀ j u, vs[j]? = some u → w.cell? (ad.add j) = some u)
    (ht : T.tab t = some i) (hi : i.k.isAgg = true) (hl : Nat.beq vs.length i.size = true) : Val P n ds env L ⟨dst, .load t x, ty, pos, af, gu⟩ (.agg vs.toArray) := fun a w ho hs => by
    simp only [execOp, ho.eval hx, Instr.loadAt, Instr.sureAddr]
    have := run_loadVar_agg (P := P) (w := w) (T.ok ht) hi (a := ad) (vs := vs) (Nat.eq_of_beq_eq_true hl) (hv w (hs.pick hp).ro)
    simp [this]
theorem gl_loadRoA {t : Nat} {ad : Addr} {x : Operand} {p : World → Prop} {vs : List Value} {L' : List Chunk} (T : TyTab P) {i : TyI} (hx : ev env x = some (.pointer (some ad))) (hp : Pick (ro p) L L') (hv : ∀ w, p w → ∀ j u, vs[j]? = some u → w.cell? (ad.add j) = some u)
    (ht : T.tab t = some i) (hi : i.k.isAgg = true) (hl : Nat.beq vs.length i.size = true) {d : Nat} (hn : Nat.ble (d + 1) n = true) (k : GL P Q n ds ops rest ((d, (.agg vs.toArray)) :: env) L) : GL P Q n ds ops (⟨some d, .load t x, ty, pos, af, none⟩ :: rest) env L := gl_v (vl_loadRoA T hx hp hv ht hi hl) rfl rfl hn k

/-- v's cells, all of them plain -/
def flat (v : Value) (vs : List Value) : Prop := v.cells.toList = vs ∧ ∀ u ∈ vs, u.oneCell' = true
theorem flat_one {v : Value} (h : v.oneCell' = true) : flat v [v] := by
  cases v <;> first | exact ⟨rfl, fun u hu => by simp at hu; subst hu; rfl⟩ | cases h
def oneL : List Value → Bool
  | [] => true
  | v :: r => v.oneCell' && oneL r
theorem oneL_mem : ∀ {l : List Value}, oneL l = true → ∀ u ∈ l, u.oneCell' = true
  | [], _, _, hu => by cases hu
  | v :: r, h, u, hu => by
    simp only [oneL, Bool.and_eq_true] at h
    rcases List.mem_cons.1 hu with rfl | hu
    · exact h.1
    · exact oneL_mem h.2 u hu
theorem flat_agg {vs : List Value} (h : oneL vs = true) : flat (.agg vs.toArray) vs := ⟨rfl, oneL_mem h⟩

theorem do_store {t b off e : Nat} {x y : Operand} {l l' vs : List Value} {v : Value} {L' : List Chunk} (T : TyTab P) {i : TyI} (hx : ev env x = some (.pointer (some ⟨b, off, none⟩))) (hy : ev env y = some v) (hp : Pick (cel b e l) L L') (hf : flat v vs)
    (ht : T.tab t = some i) (hsz : Nat.beq vs.length i.size = true) (hl' : putL l off vs = l') (hle : Nat.ble (off + vs.length) l.length = true) : Does P n ds env L ⟨dst, .store t x y, ty, pos, af, gu⟩ (cel b e l' :: L') := fun a w ho hs => by
    have hlen : v.cells.size = vs.length := by rw [← hf.1, Array.length_toList]
    have hsz' := Nat.eq_of_beq_eq_true hsz
    obtain ⟨w', hr, hs'⟩ := run_storeCells (P := P) vs 0 off l w L' (hs.pick hp) hf.2 (by have := Nat.le_of_ble_eq_true hle; simpa using this)
    rw [Nat.add_zero, hl'] at hs'
    refine ⟨w', ?_, hs'⟩
    simp only [execOp, ho.eval hx, ho.eval hy, Instr.storeAt, Instr.sureAddr, storeVar]
    simp [run_sizeOf (T.ok ht), hlen, hsz', hf.1, hr]
theorem gl_store {t b off e : Nat} {x y : Operand} {l l' vs : List Value} {v : Value} {L' : List Chunk} (T : TyTab P) {i : TyI} (hx : ev env x = some (.pointer (some ⟨b, off, none⟩))) (hy : ev env y = some v) (hp : Pick (cel b e l) L L') (hf : flat v vs)
    (ht : T.tab t = some i) (hsz : Nat.beq vs.length i.size = true) (hl' : putL l off vs = l') (hle : Nat.ble (off + vs.length) l.length = true) (k : GL P Q n ds ops rest env (cel b e l' :: L')) : GL P Q n ds ops (⟨none, .store t x y, ty, pos, af, none⟩ :: rest) env L := gl_d (do_store T hx hy hp hf ht hsz hl' hle) rfl rfl k

theorem ac_alloc {t : Nat} {l : List Value} (T : TyTab P) {i : TyI} (ht : T.tab t = some i) (hz : i.zero = l) (h0 : oneL l = true) (h1 : Nat.beq l.length 0 = false) : Acts P n ds env L ⟨dst, .alloc t, ty, pos, af, gu⟩ (fun v L' => ∃ b, v = .pointer (some ⟨b, 0, none⟩) ∧ L' = cel b t l :: L) := fun a w ho hs => by
    refine ⟨_, _, _, ?_, hs.alloc (.cells l.toArray t (0, 0)), ⟨_, rfl, rfl⟩⟩
    have hz' : ∃ z, (zeroValue t).run P w = .ok z w ∧ z.cells = l.toArray := by
      obtain ⟨f, h2, _, _, h3⟩ := (T.ok ht).info
      rcases h3 with ⟨_, h3⟩ | ⟨_, z, h3, h4, _⟩ | h3
      · exact ⟨.agg i.zero.toArray, by simp [zeroValue, typeInfo, h2, h3], by rw [← hz]; rfl⟩
      · refine ⟨z, by simp [zeroValue, typeInfo, h2, h4], ?_⟩
        rw [hz] at h3
        subst h3
        simp only [oneL, Bool.and_true] at h0
        cases z <;> first | rfl | cases h0
      · rw [hz] at h3; subst h3; cases h1
    obtain ⟨z, h5, h6⟩ := hz'
    simp only [execOp, Instr.alloc]
    simp [h5, newVar, newRow, h6]
theorem gl_alloc {t : Nat} {l : List Value} (T : TyTab P) {i : TyI} (ht : T.tab t = some i) (hz : i.zero = l) (h0 : oneL l = true) (h1 : Nat.beq l.length 0 = false) {d : Nat} (hn : Nat.ble (d + 1) n = true) (k : ∀ v L'', (fun v L' => ∃ b, v = .pointer (some ⟨b, 0, none⟩) ∧ L' = cel b t l :: L) v L'' → GL P Q n ds ops rest ((d, v) :: env) L'') : GL P Q n ds ops (⟨some d, .alloc t, ty, pos, af, none⟩ :: rest) env L := gl_a (ac_alloc T ht hz h0 h1) rfl rfl hn k

theorem ac_box {t : Nat} {x : Operand} {v : Value} {l : List Value} (hx : ev env x = some v) (hf : flat v l) : Acts P n ds env L ⟨dst, .box t x, ty, pos, af, gu⟩ (fun v L' => ∃ b, v = .pointer (some ⟨b, 0, none⟩) ∧ L' = cel b t l :: L) := fun a w ho hs => by
    refine ⟨_, _, _, ?_, hs.alloc (.cells l.toArray t (0, 0)), ⟨_, rfl, rfl⟩⟩
    have : v.cells = l.toArray := by rw [← hf.1]
    simp only [execOp, ho.eval hx, Instr.box]
    simp [newVar, newRow, this]
theorem gl_box {t : Nat} {x : Operand} {v : Value} {l : List Value} (hx : ev env x = some v) (hf : flat v l) {d : Nat} (hn : Nat.ble (d + 1) n = true) (k : ∀ v L'', (fun v L' => ∃ b, v = .pointer (some ⟨b, 0, none⟩) ∧ L' = cel b t l :: L) v L'' → GL P Q n ds ops rest ((d, v) :: env) L'') : GL P Q n ds ops (⟨some d, .box t x, ty, pos, af, none⟩ :: rest) env L := gl_a (ac_box hx hf) rfl rfl hn k

/-- a field of a value -/
theorem vl_field {s f o ft : Nat} {x : Operand} {cs : List Value} {v : Value} (T : TyTab P) {i j : TyI} {fs : List (Nat × Nat)} (hx : ev env x = some (.agg cs.toArray)) (ht : T.tab s = some i) (hk : i.k = .struct fs) (hf : fs[f]? = some (o, ft))
    (hj : T.tab ft = some j) (hz : j.k.isAgg = false) (hv : cs[o]? = some v) : Val P n ds env L ⟨dst, .field s x f, ty, pos, af, gu⟩ v := fun a w ho _ => by
    obtain ⟨dd, h1, h2⟩ := (T.ok ht).desc
    rw [hk] at h2
    obtain ⟨fl, rfl, h3⟩ := h2
    have hf' : ∃ g, fl[f]? = some g ∧ g.offset = o ∧ g.type = ft := by
      rw [← h3, List.getElem?_map] at hf
      cases hg : fl.toList[f]? with
      | none => rw [hg] at hf; simp at hf
      | some g => rw [hg] at hf; simp at hf; exact ⟨g, by simpa using hg, hf.1, hf.2⟩
    obtain ⟨g, hg, rfl, rfl⟩ := hf'
    simp only [execOp, ho.eval hx, Instr.field]
    simp [run_underlying h1, hg, asAgg, part, run_isAgg (T.ok hj), hz, hv]
theorem gl_field {s f o ft : Nat} {x : Operand} {cs : List Value} {v : Value} (T : TyTab P) {i j : TyI} {fs : List (Nat × Nat)} (hx : ev env x = some (.agg cs.toArray)) (ht : T.tab s = some i) (hk : i.k = .struct fs) (hf : fs[f]? = some (o, ft))
    (hj : T.tab ft = some j) (hz : j.k.isAgg = false) (hv : cs[o]? = some v) {d : Nat} (hn : Nat.ble (d + 1) n = true) (k : GL P Q n ds ops rest ((d, v) :: env) L) : GL P Q n ds ops (⟨some d, .field s x f, ty, pos, af, none⟩ :: rest) env L := gl_v (vl_field T hx ht hk hf hj hz hv) rfl rfl hn k

/-! ### literals -/
def bld (tab : Nat → Option TyI) (fs : List (Nat × Nat)) : List Value → List (Nat × Value) → Option (List Value)
  | z, [] => some z
  | z, (i, v) :: r => match fs[i]? with
    | some (o, ft) => match tab ft with
      | some j => match Nat.beq v.cells.toList.length j.size && Nat.ble (o + j.size) z.length with
        | true => bld tab fs (putL z o v.cells.toList) r
        | false => none
      | none => none
    | none => none

theorem fold_putL : ∀ (vs : List Value) (i off : Nat) (cs : Array Value), ((vs.zipIdx i).foldl (fun (cs : Array Value) (x : Value × Nat) => cs.setIfInBounds (off + x.2) x.1) cs).toList = putL cs.toList (off + i) vs
  | [], i, off, cs => by simp [putL]
  | v :: vs, i, off, cs => by
    simp only [List.zipIdx_cons, List.foldl_cons]
    rw [fold_putL vs (i + 1) off, putL_cons]
    simp [Nat.add_assoc]

theorem fill_bld (T : TyTab P) {fl : Array Field} {fs : List (Nat × Nat)} (h3 : fl.toList.map (fun f => (f.offset, f.type)) = fs) {places : Array (Nat × Nat)}
    (hpl : ∀ (i : Nat) (f : Field), fl[i]? = some f → ∀ j, T.tab f.type = some j → places[i]? = some (f.offset, j.size)) :
    ∀ (ps : List (Nat × Value)) (z l : List Value), bld T.tab fs z ps = some l → Instr.fill (places[·]?) z.toArray ps = some l.toArray
  | [], z, l, h => by simp only [bld, Option.some.injEq] at h; subst h; rfl
  | (i, v) :: r, z, l, h => by
    unfold bld at h
    split at h
    case h_2 => cases h
    rename_i o ft hfs
    split at h
    case h_2 => cases h
    rename_i j hj
    split at h
    case h_2 => cases h
    rename_i hb
    simp only [Bool.and_eq_true] at hb
    have h1 := Nat.eq_of_beq_eq_true hb.1
    have h2 := Nat.le_of_ble_eq_true hb.2
    have hf' : ∃ g, fl[i]? = some g ∧ g.offset = o ∧ g.type = ft := by
      rw [← h3, List.getElem?_map] at hfs
      cases hg : fl.toList[i]? with
      | none => rw [hg] at hfs; simp at hfs
      | some g => rw [hg] at hfs; simp at hfs; exact ⟨g, by simpa using hg, hfs.1, hfs.2⟩
    obtain ⟨g, hg, rfl, rfl⟩ := hf'
    have ih := fill_bld T h3 hpl r _ _ h
    have hcond : (decide (v.cells.size ≠ j.size) || decide (g.offset + v.cells.size > z.toArray.size)) = false := by
      rw [Array.length_toList] at h1
      simp; omega
    unfold Instr.fill
    simp only [hpl i g hg j hj, hcond, Bool.false_eq_true, if_false]
    rw [← ih]
    refine congrArg (fun z => Instr.fill (places[·]?) z r) ?_
    apply Array.ext'
    have := fold_putL v.cells.toList 0 g.offset z.toArray
    rw [Nat.add_zero] at this
    rw [List.toList_toArray] at this
    rw [← this, ← Array.foldl_toList]
    simp only [Array.zipIdx, Array.toList_mapIdx]
    congr 2
    apply List.ext_getElem?
    intro q
    simp [List.getElem?_mapIdx, List.getElem?_zipIdx]
end
end Go.Sx
