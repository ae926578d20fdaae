/-
  Slices cut and indexed, bytes and texts one from the other, results in variables, labels.
-/
import Derived.Test.YtkoojoeimdfkgaaGreatDoorSxG
import Derived.Lib.ConvBytes
import Derived.Laws.IdiomStrings
import Derived.Laws.MakeOwn
import Derived.Scope
namespace Go.Sx
open Go Go.RowKit

section
variable {P : Program} {Q : Exit → Act → World → Prop} {n : Nat} {ds : List Deferred} {env : Env} {L : List Chunk} {ops : Array Oper} {rest : List Oper}
variable {dst : Option Tmp} {ty : TypeId} {pos : String} {af : Array Edge} {gu : Option (Nat × Bool)}

/-! ### labels -/
theorem gc_label {l : Nat} (h : GQ Q n ds .normal env L) : GC P Q n ds (.label l) env L := fun a w ho hs => wp_label (h a w ho hs)
theorem gc_scope {c : Code} (h : GC P (Exit.noGoto Q) n ds c env L) : GC P Q n ds (.scope c) env L := fun a w ho hs => wp_scope_straight (h a w ho hs)
theorem gq_ng {e : Exit} (he : (match e with | .goto _ => false | _ => true) = true) (h : GQ Q n ds e env L) : GQ (Exit.noGoto Q) n ds e env L := fun a w ho hs => by
  cases e <;> first | exact h a w ho hs | cases he

/-! ### slices: an element's place, a part -/
/-- where part l of a slice of capacity c begins -/
def cut (A : Option Addr) (l c size : Nat) : Option Addr := if c = l then A else A.map (·.add (l * size))
theorem Addr.add_add' (a : Addr) (i j : Nat) : (a.add i).add j = a.add (i + j) := by
  unfold Addr.add
  split
  · rename_i h; subst h; simp
  · split
    · rename_i h; subst h; simp_all
    · rename_i h1 h2
      split
      · omega
      · simp [Nat.add_assoc]
theorem Rd.drop {A : Option Addr} {vs : List Value} {w : World} (h : Rd A vs w) {k c size : Nat} (hc : vs.length ≤ c * size) : Rd (cut A k c size) (vs.drop (k * size)) w := by
  intro j u hu
  rw [List.getElem?_drop] at hu
  obtain ⟨ad, rfl, h1⟩ := h _ _ hu
  unfold cut
  split
  · rename_i hk
    subst hk
    have := (List.getElem?_eq_some_iff.1 hu).1
    omega
  · exact ⟨_, rfl, by rw [Addr.add_add']; exact h1⟩
theorem Rd.take {A : Option Addr} {vs : List Value} {w : World} (h : Rd A vs w) (k : Nat) : Rd A (vs.take k) w := by
  intro j u hu
  rw [List.getElem?_take] at hu
  split at hu
  · exact h j u hu
  · cases hu
theorem rd_dropb {A : Option Addr} {l : List UInt8} {k c : Nat} (hc : l.length ≤ c) (h : ∀ w, Sat w L → Rd A (bvs l) w) : ∀ w, Sat w L → Rd (cut A k c 1) (bvs (l.drop k)) w := fun w hs => by
  have := (h w hs).drop (k := k) (c := c) (size := 1) (by simpa using hc)
  simpa [bvs, List.map_drop] using this
theorem rd_takeb {A : Option Addr} {l : List UInt8} (k : Nat) (h : ∀ w, Sat w L → Rd A (bvs l) w) : ∀ w, Sat w L → Rd A (bvs (l.take k)) w := fun w hs => by
  have := (h w hs).take k
  simpa [bvs, List.map_take] using this

theorem vl_indexSl {t e m c i k size : Nat} {x y : Operand} {A : Option Addr} {vs : List Value} {u : Value} {ik : IntKind} {p : Int} (T : TyTab P) {ti tj : TyI} (ht : T.tab t = some ti) (hk : ti.k = .slice e) (hj : T.tab e = some tj) (hsz : tj.size = size)
    (hx : ev env x = some (.slice A m c)) (hy : ev env y = some (.int ik p)) (hi : p.toNat = i) (h0 : 0 ≤ p) (h1 : i < m) (hkk : i * size = k) (hr : ∀ w, Sat w L → Rd A vs w) (hu : vs[k]? = some u) : Val P n ds env L ⟨dst, .indexAddr t x y, ty, pos, af, gu⟩ (.pointer (A.map (·.add k))) := fun a w ho hs => by
  obtain ⟨dd, e1, e2⟩ := (T.ok ht).desc
  rw [hk] at e2
  subst e2
  obtain ⟨ad, rfl, _⟩ := hr w hs _ _ hu
  subst hsz hkk hi
  have h3 : 0 ≤ p ∧ p < (m : Int) := ⟨h0, by omega⟩
  simp only [execOp, ho.eval hx, ho.eval hy, Instr.indexAt]
  simp [asIntOf, run_underlying e1, h3, run_sizeOf (T.ok hj)]
theorem gl_indexSl {t e m c i k size : Nat} {x y : Operand} {A : Option Addr} {vs : List Value} {u : Value} {ik : IntKind} {p : Int} (T : TyTab P) {ti tj : TyI} (ht : T.tab t = some ti) (hk : ti.k = .slice e) (hj : T.tab e = some tj) (hsz : tj.size = size)
    (hx : ev env x = some (.slice A m c)) (hy : ev env y = some (.int ik p)) (hi : p.toNat = i) (h0 : 0 ≤ p) (h1 : i < m) (hkk : i * size = k) (hr : ∀ w, Sat w L → Rd A vs w) (hu : vs[k]? = some u) {d : Nat} (hn : Nat.ble (d + 1) n = true) (k : GL P Q n ds ops rest ((d, (.pointer (A.map (·.add k)))) :: env) L) : GL P Q n ds ops (⟨some d, .indexAddr t x y, ty, pos, af, none⟩ :: rest) env L := gl_v (vl_indexSl T ht hk hj hsz hx hy hi h0 h1 hkk hr hu) rfl rfl hn k
theorem vl_loadRd {t k : Nat} {x : Operand} {A : Option Addr} {vs : List Value} {v : Value} (T : TyTab P) {i : TyI} (hx : ev env x = some (.pointer (A.map (·.add k)))) (hr : ∀ w, Sat w L → Rd A vs w) (hv : vs[k]? = some v)
    (ht : T.tab t = some i) (hi : i.k.isAgg = false) : Val P n ds env L ⟨dst, .load t x, ty, pos, af, gu⟩ v := fun a w ho hs => by
  obtain ⟨ad, rfl, h1⟩ := hr w hs _ _ hv
  simp only [execOp, ho.eval hx, Instr.loadAt, Instr.sureAddr, Option.map_some]
  have := run_loadVar_one (P := P) (w := w) (T.ok ht) hi (a := ad.add k) (v := v) h1
  simp [this]
theorem gl_loadRd {t k : Nat} {x : Operand} {A : Option Addr} {vs : List Value} {v : Value} (T : TyTab P) {i : TyI} (hx : ev env x = some (.pointer (A.map (·.add k)))) (hr : ∀ w, Sat w L → Rd A vs w) (hv : vs[k]? = some v)
    (ht : T.tab t = some i) (hi : i.k.isAgg = false) {d : Nat} (hn : Nat.ble (d + 1) n = true) (k : GL P Q n ds ops rest ((d, v) :: env) L) : GL P Q n ds ops (⟨some d, .load t x, ty, pos, af, none⟩ :: rest) env L := gl_v (vl_loadRd T hx hr hv ht hi) rfl rfl hn k
theorem vl_indexArr {t e m b off i k size : Nat} {x y : Operand} {ik : IntKind} {p : Int} (T : TyTab P) {ti tj : TyI} (ht : T.tab t = some ti) (hk : ti.k = .array m e) (hj : T.tab e = some tj) (hsz : tj.size = size)
    (hx : ev env x = some (.pointer (some ⟨b, off, none⟩))) (hy : ev env y = some (.int ik p)) (hi : p.toNat = i) (h0 : 0 ≤ p) (h1 : i < m) (hkk : off + i * size = k) : Val P n ds env L ⟨dst, .indexAddr t x y, ty, pos, af, gu⟩ (.pointer (some ⟨b, k, none⟩)) := fun a w ho hs => by
  obtain ⟨dd, e1, e2⟩ := (T.ok ht).desc
  rw [hk] at e2
  subst e2
  subst hsz hkk hi
  have h3 : 0 ≤ p ∧ p < (m : Int) := ⟨h0, by omega⟩
  simp only [execOp, ho.eval hx, ho.eval hy, Instr.indexAt]
  simp [asIntOf, run_underlying e1, h3, run_sizeOf (T.ok hj), Instr.sureAddr, add_off]
theorem gl_indexArr {t e m b off i k size : Nat} {x y : Operand} {ik : IntKind} {p : Int} (T : TyTab P) {ti tj : TyI} (ht : T.tab t = some ti) (hk : ti.k = .array m e) (hj : T.tab e = some tj) (hsz : tj.size = size)
    (hx : ev env x = some (.pointer (some ⟨b, off, none⟩))) (hy : ev env y = some (.int ik p)) (hi : p.toNat = i) (h0 : 0 ≤ p) (h1 : i < m) (hkk : off + i * size = k) {d : Nat} (hn : Nat.ble (d + 1) n = true) (k : GL P Q n ds ops rest ((d, (.pointer (some ⟨b, k, none⟩))) :: env) L) : GL P Q n ds ops (⟨some d, .indexAddr t x y, ty, pos, af, none⟩ :: rest) env L := gl_v (vl_indexArr T ht hk hj hsz hx hy hi h0 h1 hkk) rfl rfl hn k

theorem sliced_cut (A : Option Addr) (l h c size : Nat) : sliced A l h c size = .slice (cut A l c size) (h - l) (c - l) := rfl
theorem cut_zero (A : Option Addr) (c size : Nat) : (if c = 0 then A else A.map (·.add (0 * size))) = A := by
  split
  · rfl
  · cases A with
    | none => rfl
    | some a => simp [Addr.add]
section
variable {t e m c size : Nat} {x y z : Operand} {A : Option Addr} {ik jk : IntKind} {p q : Int} {l h : Nat} {ti tj : TyI}
theorem vl_sliceLo (T : TyTab P) (ht : T.tab t = some ti) (hk : ti.k = .slice e) (hj : T.tab e = some tj) (hsz : tj.size = size)
    (hx : ev env x = some (.slice A m c)) (hy : ev env y = some (.int ik p)) (hl : p.toNat = l) (h0 : 0 ≤ p) (h1 : l ≤ m) : Val P n ds env L ⟨dst, .slice t x (some y) none none, ty, pos, af, gu⟩ (.slice (cut A l c size) (m - l) (c - l)) := fun a w ho hs => by
  obtain ⟨dd, e1, e2⟩ := (T.ok ht).desc
  rw [hk] at e2
  subst e2
  subst hsz hl
  simp only [execOp, Option.map_some, Option.map_none, ho.eval hx, ho.eval hy]
  have he : P.elem t = e := by simp [Program.elem, e1]
  have hr := run_slice_l (P := P) w t A m c (by rw [he]; exact e1) ik p h0 (by omega)
  rw [he] at hr
  have hr' := run_sliceAt_slice (P := P) w t (.slice A m c) (some (.int ik p)) none none (by rw [he]; exact e1)
  simp [hr', hr, run_sizeOf (T.ok hj), Result.andThen, sliced_cut]
theorem gl_sliceLo (T : TyTab P) (ht : T.tab t = some ti) (hk : ti.k = .slice e) (hj : T.tab e = some tj) (hsz : tj.size = size)
    (hx : ev env x = some (.slice A m c)) (hy : ev env y = some (.int ik p)) (hl : p.toNat = l) (h0 : 0 ≤ p) (h1 : l ≤ m) {d : Nat} (hn : Nat.ble (d + 1) n = true) (k : GL P Q n ds ops rest ((d, (.slice (cut A l c size) (m - l) (c - l))) :: env) L) : GL P Q n ds ops (⟨some d, .slice t x (some y) none none, ty, pos, af, none⟩ :: rest) env L := gl_v (vl_sliceLo T ht hk hj hsz hx hy hl h0 h1) rfl rfl hn k
theorem vl_sliceHi (T : TyTab P) (ht : T.tab t = some ti) (hk : ti.k = .slice e) (hj : T.tab e = some tj)
    (hx : ev env x = some (.slice A m c)) (hy : ev env y = some (.int ik p)) (hl : p.toNat = l) (h0 : 0 ≤ p) (h1 : l ≤ c) : Val P n ds env L ⟨dst, .slice t x none (some y) none, ty, pos, af, gu⟩ (.slice A l c) := fun a w ho hs => by
  obtain ⟨dd, e1, e2⟩ := (T.ok ht).desc
  rw [hk] at e2
  subst e2
  subst hl
  simp only [execOp, Option.map_some, Option.map_none, ho.eval hx, ho.eval hy]
  have he : P.elem t = e := by simp [Program.elem, e1]
  have hr := run_slice_h (P := P) w t A m c (by rw [he]; exact e1) ik p h0 (by omega)
  rw [he] at hr
  have hr' := run_sliceAt_slice (P := P) w t (.slice A m c) none (some (.int ik p)) none (by rw [he]; exact e1)
  simp [hr', hr, run_sizeOf (T.ok hj), Result.andThen, sliced]
  exact fun _ => by cases A <;> rfl
theorem gl_sliceHi (T : TyTab P) (ht : T.tab t = some ti) (hk : ti.k = .slice e) (hj : T.tab e = some tj)
    (hx : ev env x = some (.slice A m c)) (hy : ev env y = some (.int ik p)) (hl : p.toNat = l) (h0 : 0 ≤ p) (h1 : l ≤ c) {d : Nat} (hn : Nat.ble (d + 1) n = true) (k : GL P Q n ds ops rest ((d, (.slice A l c)) :: env) L) : GL P Q n ds ops (⟨some d, .slice t x none (some y) none, ty, pos, af, none⟩ :: rest) env L := gl_v (vl_sliceHi T ht hk hj hx hy hl h0 h1) rfl rfl hn k
theorem vl_sliceLH (T : TyTab P) (ht : T.tab t = some ti) (hk : ti.k = .slice e) (hj : T.tab e = some tj) (hsz : tj.size = size)
    (hx : ev env x = some (.slice A m c)) (hy : ev env y = some (.int ik p)) (hz : ev env z = some (.int jk q)) (hl : p.toNat = l) (hh : q.toNat = h) (h0 : 0 ≤ p) (h1 : p ≤ q) (h2 : h ≤ c) : Val P n ds env L ⟨dst, .slice t x (some y) (some z) none, ty, pos, af, gu⟩ (.slice (cut A l c size) (h - l) (c - l)) := fun a w ho hs => by
  obtain ⟨dd, e1, e2⟩ := (T.ok ht).desc
  rw [hk] at e2
  subst e2
  subst hsz hl hh
  simp only [execOp, Option.map_some, Option.map_none, ho.eval hx, ho.eval hy, ho.eval hz]
  have he : P.elem t = e := by simp [Program.elem, e1]
  have hr := run_slice_lh (P := P) w t A m c (by rw [he]; exact e1) ik jk p q h0 h1 (by omega)
  rw [he] at hr
  have hr' := run_sliceAt_slice (P := P) w t (.slice A m c) (some (.int ik p)) (some (.int jk q)) none (by rw [he]; exact e1)
  simp [hr', hr, run_sizeOf (T.ok hj), Result.andThen, sliced_cut]
theorem gl_sliceLH (T : TyTab P) (ht : T.tab t = some ti) (hk : ti.k = .slice e) (hj : T.tab e = some tj) (hsz : tj.size = size)
    (hx : ev env x = some (.slice A m c)) (hy : ev env y = some (.int ik p)) (hz : ev env z = some (.int jk q)) (hl : p.toNat = l) (hh : q.toNat = h) (h0 : 0 ≤ p) (h1 : p ≤ q) (h2 : h ≤ c) {d : Nat} (hn : Nat.ble (d + 1) n = true) (k : GL P Q n ds ops rest ((d, (.slice (cut A l c size) (h - l) (c - l))) :: env) L) : GL P Q n ds ops (⟨some d, .slice t x (some y) (some z) none, ty, pos, af, none⟩ :: rest) env L := gl_v (vl_sliceLH T ht hk hj hsz hx hy hz hl hh h0 h1 h2) rfl rfl hn k
end

/-! ### texts and bytes -/
/-- a text of bytes -/
def str (l : List UInt8) : ByteArray := ⟨l.toArray⟩
@[simp] theorem str_data (l : List UInt8) : (str l).data.toList = l := rfl
@[simp] theorem str_size (l : List UInt8) : (str l).size = l.length := by simp [str, ByteArray.size]
theorem str_of (s : ByteArray) : str s.data.toList = s := rfl

theorem vl_strOf {t u e m c : Nat} {x : Operand} {A : Option Addr} {l : List UInt8} (T : TyTab P) {ti tj tu : TyI} (ht : T.tab t = some ti) (hk : ti.k = .slice e) (hj : T.tab e = some tj) (hjk : tj.k = .int .u8) (hu : T.tab u = some tu) (huk : tu.k = .str)
    (hx : ev env x = some (.slice A m c)) (hr : ∀ w, Sat w L → Rd A (bvs l) w) (hl : l.length = m) : Val P n ds env L ⟨dst, .convert t u x, ty, pos, af, gu⟩ (.string (str l)) := fun a w ho hs => by
  obtain ⟨dd, e1, e2⟩ := (T.ok ht).desc
  rw [hk] at e2
  subst e2
  obtain ⟨de, f1, f2⟩ := (T.ok hj).desc
  rw [hjk] at f2
  subst f2
  obtain ⟨du, g1, g2⟩ := (T.ok hu).desc
  rw [huk] at g2
  subst g2
  subst hl
  simp only [execOp, ho.eval hx]
  have hrd := hr w hs
  cases A with
  | none =>
    have : l = [] := rd_none hrd rfl
    subst this
    rw [Sem.run_bind, run_convert_bytes_nil w t e e1 f1 _ _ u g1]
    rfl
  | some ad =>
    rw [Sem.run_bind, run_convert_bytes_back w t u e ad c l e1 f1 g1 (fun j hj => by
      obtain ⟨ad', h1, h2⟩ := hrd j (bv l[j]) (by simp [bvs, hj])
      injection h1 with h1
      subst h1
      exact h2)]
    rfl
theorem gl_strOf {t u e m c : Nat} {x : Operand} {A : Option Addr} {l : List UInt8} (T : TyTab P) {ti tj tu : TyI} (ht : T.tab t = some ti) (hk : ti.k = .slice e) (hj : T.tab e = some tj) (hjk : tj.k = .int .u8) (hu : T.tab u = some tu) (huk : tu.k = .str)
    (hx : ev env x = some (.slice A m c)) (hr : ∀ w, Sat w L → Rd A (bvs l) w) (hl : l.length = m) {d : Nat} (hn : Nat.ble (d + 1) n = true) (k : GL P Q n ds ops rest ((d, (.string (str l))) :: env) L) : GL P Q n ds ops (⟨some d, .convert t u x, ty, pos, af, none⟩ :: rest) env L := gl_v (vl_strOf T ht hk hj hjk hu huk hx hr hl) rfl rfl hn k

theorem ac_bytesOf {t u e : Nat} {x : Operand} {s : ByteArray} (T : TyTab P) {ti tj tu : TyI} (ht : T.tab t = some ti) (hk : ti.k = .slice e) (hj : T.tab e = some tj) (hjk : tj.k = .int .u8) (hu : T.tab u = some tu) (huk : tu.k = .str)
    (hx : ev env x = some (.string s)) : Acts P n ds env L ⟨dst, .convert u t x, ty, pos, af, gu⟩ (fun v L' => ∃ A' c', v = .slice A' s.size c' ∧ s.size ≤ c' ∧ L' = ro (Rd A' (bvs s.data.toList)) :: L) := fun a w ho hs => by
  obtain ⟨dd, e1, e2⟩ := (T.ok ht).desc
  rw [hk] at e2
  subst e2
  obtain ⟨de, f1, f2⟩ := (T.ok hj).desc
  rw [hjk] at f2
  subst f2
  obtain ⟨du, g1, g2⟩ := (T.ok hu).desc
  rw [huk] at g2
  subst g2
  refine ⟨_, Lib.bytesWorld w e s, _, ?_, ?_, ⟨some ⟨w.heap.size, 0, none⟩, _, rfl, grownCap_ge w s.size 0 e, rfl⟩⟩
  · simp only [execOp, ho.eval hx]
    rw [Sem.run_bind, Lib.run_convert_string_bytes w u t e s g1 e1 f1]
    rfl
  · have hb : Sat (Lib.bytesWorld w e s) (blk w.heap.size (.cells (Lib.bytesCells w e s) e ((Lib.bytesCells w e s).size, (Lib.bytesCells w e s).size + 1)) :: L) := by
      refine hs.add ⟨fun k => k = w.heap.size, ⟨rfl, rfl, rfl, by rw [Lib.bytesWorld_size]; omega, fun k hk _ => Lib.bytesWorld_at_old w e s k hk⟩, fun k hk => by subst hk; exact ⟨Nat.le_refl _, by rw [Lib.bytesWorld_size]; omega⟩, fun w'' hw => ⟨rfl, ?_⟩⟩
      rw [hw.block w.heap.size (by rw [Lib.bytesWorld_size]; omega) (fun h => h rfl)]
      exact Lib.bytesWorld_at_new w e s
    refine hb.freeze fun S w' hc => ?_
    intro j u hu
    refine ⟨_, rfl, ?_⟩
    have hj : j < s.size := by
      have := (List.getElem?_eq_some_iff.1 hu).1
      simpa [bvs] using this
    have hc' := hc.2
    rw [add_off, Nat.zero_add]
    simp only [World.cell?, hc']
    simp [bvs, bv] at hu
    obtain ⟨b, hb, rfl⟩ := hu
    simp [Lib.bytesCells, Array.getElem?_append, hj]
    obtain ⟨_, rfl⟩ := Array.getElem?_eq_some_iff.1 hb
    rfl
theorem gl_bytesOf {t u e : Nat} {x : Operand} {s : ByteArray} (T : TyTab P) {ti tj tu : TyI} (ht : T.tab t = some ti) (hk : ti.k = .slice e) (hj : T.tab e = some tj) (hjk : tj.k = .int .u8) (hu : T.tab u = some tu) (huk : tu.k = .str)
    (hx : ev env x = some (.string s)) {d : Nat} (hn : Nat.ble (d + 1) n = true) (k : ∀ v L'', (fun v L' => ∃ A' c', v = .slice A' s.size c' ∧ s.size ≤ c' ∧ L' = ro (Rd A' (bvs s.data.toList)) :: L) v L'' → GL P Q n ds ops rest ((d, v) :: env) L'') : GL P Q n ds ops (⟨some d, .convert u t x, ty, pos, af, none⟩ :: rest) env L := gl_a (ac_bytesOf T ht hk hj hjk hu huk hx) rfl rfl hn k
end

/-! ### results -/
section
variable {P : Program} {fn : Func} {K : Value → List Chunk → Prop} {n : Nat} {env : Env} {L : List Chunk}
/-- what a result's variable holds -/
def Res (P : Program) (n : Nat) (env : Env) (L : List Chunk) (r : ResultVar) (v : Value) : Prop := ∀ a w, Ok n [] env a → Sat w L → (match r with | .tmp t => (pure (a.tmps.getD t undef) : Sem Value) | .cell x t => do loadVar t (← asAddr (a.tmps.getD x undef))).run P w = .ok v w
theorem res_tmp {t : Tmp} {v : Value} (hv : lk env t = some v) : Res P n env L (.tmp t) v := fun a w ho hs => by
  have := ho.slot t v hv
  simp [Array.getD_eq_getD_getElem?, this]
theorem res_cell {x t b off e : Nat} {l : List Value} {v : Value} {L' : List Chunk} (T : TyTab P) {i : TyI} (hv : lk env x = some (.pointer (some ⟨b, off, none⟩))) (hp : Pick (cel b e l) L L') (hl : l[off]? = some v) (ht : T.tab t = some i) (hi : i.k.isAgg = false) : Res P n env L (.cell x t) v := fun a w ho hs => by
  have h := ho.slot x _ hv
  have hb := (hs.pick hp).blk
  have := run_loadVar_one (P := P) (w := w) (T.ok ht) hi (a := ⟨b, off, none⟩) (v := v) (by rw [cell_of hb, hl])
  simp [Array.getD_eq_getD_getElem?, h, asAddr, this]
theorem res_cellA {x t b off e m : Nat} {l vs : List Value} {L' : List Chunk} (T : TyTab P) {i : TyI} (hv : lk env x = some (.pointer (some ⟨b, off, none⟩))) (hp : Pick (cel b e l) L L') (ht : T.tab t = some i) (hi : i.k.isAgg = true) (hm : i.size = m) (hl : sub l off m = vs) (hlen : Nat.beq vs.length m = true) : Res P n env L (.cell x t) (.agg vs.toArray) := fun a w ho hs => by
  have h := ho.slot x _ hv
  have hb := (hs.pick hp).blk
  have := run_loadVar_agg (P := P) (w := w) (T.ok ht) hi (a := ⟨b, off, none⟩) (vs := vs) (by rw [hm]; exact Nat.eq_of_beq_eq_true hlen) (fun j u hj => by
      rw [add_off, cell_of hb]
      rw [← hl] at hj
      unfold sub at hj
      rw [List.getElem?_take] at hj
      split at hj
      · rw [List.getElem?_drop] at hj; exact hj
      · cases hj)
  simp [Array.getD_eq_getD_getElem?, h, asAddr, this]
theorem gq_r1 {e : Exit} {r : ResultVar} {v : Value} (he : (match e with | .ret => true | .normal => true | _ => false) = true) (hr : fn.results = #[r]) (hv : Res P n env L r v) (hK : K v L) : GQ (bodyPost P fn (Ans K)) n [] e env L := fun a w ho hs => by
  have : bodyPost P fn (Ans K) .ret a w := ⟨ho.defers, v, by
    have := hv a w ho hs
    simp [results, hr]
    cases r <;> simp at this ⊢ <;> simp [this], v, L, rfl, hK, hs⟩
  cases e <;> first | exact this | cases he
theorem gq_r2 {e : Exit} {r s : ResultVar} {v u : Value} (he : (match e with | .ret => true | .normal => true | _ => false) = true) (hr : fn.results = #[r, s]) (hv : Res P n env L r v) (hu : Res P n env L s u) (hK : K (.tuple #[v, u]) L) : GQ (bodyPost P fn (Ans K)) n [] e env L := fun a w ho hs => by
  have : bodyPost P fn (Ans K) .ret a w := ⟨ho.defers, _, by
    have h1 := hv a w ho hs
    have h2 := hu a w ho hs
    simp [results, hr]
    cases r <;> cases s <;> simp at h1 h2 ⊢ <;> simp [h1, h2], _, L, rfl, hK, hs⟩
  cases e <;> first | exact this | cases he
theorem gq_r3 {e : Exit} {r s t : ResultVar} {v u x : Value} (he : (match e with | .ret => true | .normal => true | _ => false) = true) (hr : fn.results = #[r, s, t]) (hv : Res P n env L r v) (hu : Res P n env L s u) (hx : Res P n env L t x) (hK : K (.tuple #[v, u, x]) L) : GQ (bodyPost P fn (Ans K)) n [] e env L := fun a w ho hs => by
  have : bodyPost P fn (Ans K) .ret a w := ⟨ho.defers, _, by
    have h1 := hv a w ho hs
    have h2 := hu a w ho hs
    have h3 := hx a w ho hs
    simp [results, hr]
    cases r <;> cases s <;> cases t <;> simp at h1 h2 h3 ⊢ <;> simp [h1, h2, h3], _, L, rfl, hK, hs⟩
  cases e <;> first | exact this | cases he
end

/-! ### slices given up to reading -/
section
variable {P : Program} {Q : Exit → Act → World → Prop} {n : Nat} {ds : List Deferred} {env : Env} {L L' : List Chunk} {A : Option Addr} {m c e size : Nat} {xs : List Value}
theorem gq_seal {ex : Exit} (hp : Pick (own A m c e size xs) L L') (k : m ≤ c → GQ Q n ds ex env (Sx.ro (Rd A xs) :: L')) : GQ Q n ds ex env L := fun a w ho hs => by
  have h := hs.pick hp
  refine k ?_ a w ho h.sealUp
  obtain ⟨S, _, h1⟩ := h.head
  rcases h1.1.2 with ⟨h2, h3⟩ | ⟨g, cap, cur, h2, _, _, h3, _⟩
  · injection h2; omega
  · injection h2; omega
theorem SxFn.post {f : FuncId} {args : Array Value} {K K' : Value → List Chunk → Prop} (h : SxFn P f args L K) (hk : ∀ v L' w, K v L' → Sat w L' → ∃ L'', K' v L'' ∧ Sat w L'') : SxFn P f args L K' :=
  ⟨h.1, fun w hs => Calls.mono (h.2 w hs) fun e w' hq => by
    obtain ⟨v, L1, rfl, h1, h2⟩ := hq
    obtain ⟨L2, h3, h4⟩ := hk v L1 w' h1 h2
    exact ⟨v, L2, rfl, h3, h4⟩⟩
theorem own_cap {S : Nat → Prop} {w : World} (h : own A m c e size xs S w) : m ≤ c := by
  rcases h.1.2 with ⟨h2, h3⟩ | ⟨g, cap, cur, h2, _, _, h3, _⟩
  · injection h2; omega
  · injection h2; omega
end
end Go.Sx
