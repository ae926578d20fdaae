/-
  The calculus' rules: maps whose keys are numbers or strings.
-/
import Derived.Test.YtkoojoeimdfkgaaGreatDoorSxE
import Derived.MapKept
namespace Go.Sx
open Go Go.RowKit

/-- the keys' kind -/
inductive KK where
  | int (k : IntKind)
  | str
def KK.is : KK → Value → Prop
  | .int k, .int k' _ => k' = k
  | .str, .string _ => True
  | _, _ => False
def KK.desc : KK → TypeDesc
  | .int k => .int k
  | .str => .string
def KK.tk : KK → TK
  | .int k => .int k
  | .str => .str
theorem KK.isKey {kd : KK} {v : Value} (h : kd.is v) : MapKept.IsKey kd.desc v := by
  cases kd <;> cases v <;> simp_all [KK.is, KK.desc, MapKept.IsKey]
theorem KK.ok_desc {P : Program} {kd : KK} {d : TypeDesc} (h : kd.tk.ok P d) : d = kd.desc := by
  cases kd <;> simpa [KK.tk, TK.ok, KK.desc] using h

def kEq : Value → Value → Bool
  | .int _ a, .int _ b => a == b
  | .string a, .string b => a == b
  | _, _ => false
theorem kEq_iff {kd : KK} {a b : Value} (ha : kd.is a) (hb : kd.is b) : kEq a b = true ↔ a = b := by
  cases kd <;> cases a <;> cases b <;> simp_all [KK.is, kEq, MapKept.bytes_beq]
theorem sameNow_kEq {kd : KK} {a b : Value} (ha : kd.is a) (hb : kd.is b) : Instr.sameNow kd.desc a b = some (kEq a b) := by
  cases kd <;> cases a <;> cases b <;> simp_all [KK.is, kEq, KK.desc, Instr.sameNow]
def mget : List (Value × Value) → Value → Option Value
  | [], _ => none
  | (k, v) :: r, x => match kEq x k with
    | true => some v
    | false => mget r x
def mset : List (Value × Value) → Value → Value → List (Value × Value)
  | [], x, u => [(x, u)]
  | (k, v) :: r, x, u => match kEq x k with
    | true => (x, u) :: r
    | false => (k, v) :: mset r x u
def mdel : List (Value × Value) → Value → List (Value × Value)
  | [], _ => []
  | (k, v) :: r, x => match kEq x k with
    | true => r
    | false => (k, v) :: mdel r x
/-- block r is a map with these entries, in the order in which they came -/
def mapIs (w : World) (r : Nat) (kd : KK) (es : List (Value × Value)) : Prop := (∃ me clock, w.heap[r]? = some (.map me clock) ∧ me.toList.map (fun e => (e.key, e.val)) = es) ∧ ∀ e ∈ es, kd.is e.1
def mp (r : Nat) (kd : KK) (es : List (Value × Value)) : Chunk := fun S w => S r ∧ mapIs w r kd es

theorem findNow_get {kd : KK} {k : Value} (hk : kd.is k) : ∀ (l : List MapEntry) (i : Nat), (∀ e ∈ l, kd.is e.key) →
    (Instr.findNow kd.desc k l i = some none ∧ mget (l.map fun e => (e.key, e.val)) k = none ∧ (∀ u, mset (l.map fun e => (e.key, e.val)) k u = (l.map fun e => (e.key, e.val)) ++ [(k, u)]) ∧ mdel (l.map fun e => (e.key, e.val)) k = l.map fun e => (e.key, e.val)) ∨
    ∃ j e, Instr.findNow kd.desc k l i = some (some (i + j, e.val)) ∧ l[j]? = some e ∧ e.key = k ∧ mget (l.map fun e => (e.key, e.val)) k = some e.val ∧
      (∀ u, mset (l.map fun e => (e.key, e.val)) k u = (l.map fun e => (e.key, e.val)).set j (k, u)) ∧ mdel (l.map fun e => (e.key, e.val)) k = (l.map fun e => (e.key, e.val)).eraseIdx j
  | [], i, _ => .inl ⟨rfl, rfl, fun _ => rfl, rfl⟩
  | e :: es, i, h => by
    have he := h e (.head _)
    have hsn := sameNow_kEq hk he
    cases hq : kEq k e.key with
    | true =>
      rw [hq] at hsn
      refine .inr ⟨0, e, by simp [Instr.findNow, hsn], rfl, ((kEq_iff hk he).1 hq).symm, by simp [mget, hq], fun u => by simp [mset, hq], by simp [mdel, hq]⟩
    | false =>
      rw [hq] at hsn
      rcases findNow_get hk es (i + 1) (fun x hx => h x (.tail _ hx)) with ⟨h1, h2, h3, h4⟩ | ⟨j, e', h1, h2, h3, h4, h5, h6⟩
      · exact .inl ⟨by simp [Instr.findNow, hsn, h1], by simp [mget, hq, h2], fun u => by simp [mset, hq, h3], by simp [mdel, hq, h4]⟩
      · exact .inr ⟨j + 1, e', by simp [Instr.findNow, hsn, h1]; omega, by simpa using h2, h3, by simp [mget, hq, h4], fun u => by simp [mset, hq, h5], by simp [mdel, hq, h6]⟩

theorem mset_keys {kd : KK} {x u : Value} (hx : kd.is x) : ∀ {es : List (Value × Value)}, (∀ e ∈ es, kd.is e.1) → ∀ e ∈ mset es x u, kd.is e.1
  | [], _, e, he => by simp [mset] at he; subst he; exact hx
  | (k, v) :: r, h, e, he => by
    simp only [mset] at he
    split at he
    · rcases List.mem_cons.1 he with rfl | he
      · exact hx
      · exact h e (.tail _ he)
    · rcases List.mem_cons.1 he with rfl | he
      · exact h _ (.head _)
      · exact mset_keys hx (fun e he => h e (.tail _ he)) e he
theorem mdel_keys {kd : KK} {x : Value} : ∀ {es : List (Value × Value)}, (∀ e ∈ es, kd.is e.1) → ∀ e ∈ mdel es x, kd.is e.1
  | [], _, e, he => by simp [mdel] at he
  | (k, v) :: r, h, e, he => by
    simp only [mdel] at he
    split at he
    · exact h e (.tail _ he)
    · rcases List.mem_cons.1 he with rfl | he
      · exact h _ (.head _)
      · exact mdel_keys (fun e he => h e (.tail _ he)) e he

theorem Sat.mapIs {w : World} {r : Nat} {kd : KK} {es : List (Value × Value)} {L : List Chunk} (h : Sat w (mp r kd es :: L)) : Sx.mapIs w r kd es := by
  obtain ⟨_, _, h⟩ := h.head
  exact h.2
theorem Sat.setMap {w : World} {r : Nat} {kd : KK} {es es' : List (Value × Value)} {L : List Chunk} (h : Sat w (mp r kd es :: L)) {me : Array MapEntry} {clock : Nat} (he : me.toList.map (fun e => (e.key, e.val)) = es') (hk : ∀ e ∈ es', kd.is e.1) :
    Sat { w with heap := w.heap.setIfInBounds r (.map me clock) } (mp r kd es' :: L) := by
  refine h.upd fun S hS hb => ⟨S, ⟨rfl, rfl, rfl, by simp, fun k hk hx => ?_⟩, fun k hk => ⟨Or.inl hk, by simpa using hb k hk⟩, fun w'' hw => ⟨hS.1, ⟨me, clock, ?_, he⟩, hk⟩⟩
  · have : r ≠ k := fun e => hx (e ▸ hS.1)
    simp [this]
  · have hlt : r < w.heap.size := hb r hS.1
    rw [hw.block r (by simpa using hlt) (fun h => h hS.1)]
    simp [hlt]

section
variable {P : Program} {Q : Exit → Act → World → Prop} {n : Nat} {ds : List Deferred} {env : Env} {L : List Chunk} {ops : Array Oper} {rest : List Oper}
variable {dst : Option Tmp} {ty : TypeId} {pos : String} {af : Array Edge} {gu : Option (Nat × Bool)}

theorem ac_makeMap {t : Nat} (kd : KK) : Acts P n ds env L ⟨dst, .makeMap t none, ty, pos, af, gu⟩ (fun v L' => ∃ r, v = .map (some r) ∧ L' = mp r kd [] :: L) := fun a w ho hs => by
  refine ⟨_, { w with heap := w.heap.push (.map #[] 0) }, mp w.heap.size kd [] :: L, rfl, ?_, ⟨_, rfl, rfl⟩⟩
  exact (hs.alloc (.map #[] 0)).imp fun S w' h => ⟨h.1, ⟨#[], 0, h.2, rfl⟩, fun _ he => by cases he⟩
theorem gl_makeMap {t : Nat} (kd : KK) {d : Nat} (hn : Nat.ble (d + 1) n = true) (k : ∀ v L'', (fun v L' => ∃ r, v = .map (some r) ∧ L' = mp r kd [] :: L) v L'' → GL P Q n ds ops rest ((d, v) :: env) L'') : GL P Q n ds ops (⟨some d, .makeMap t none, ty, pos, af, none⟩ :: rest) env L := gl_a (ac_makeMap kd) rfl rfl hn k

/-- the zero of a type, as a value -/
def zval (i : TyI) : Value := match i.k.isAgg with
  | true => .agg i.zero.toArray
  | false => i.zero.headD (.bool false)
theorem run_zval {w : World} {t : Nat} {i : TyI} (h : TyOk P t i) (h0 : i.zero ≠ []) : (zeroValue t).run P w = .ok (zval i) w := by
  obtain ⟨f, h1, _, _, h4⟩ := h.info
  unfold zval
  rcases h4 with ⟨h5, h4⟩ | ⟨h5, z, h4, h6, _⟩ | h4
  · simp [zeroValue, typeInfo, h1, h4, h5]
  · simp [zeroValue, typeInfo, h1, h6, h5, h4]
  · exact absurd h4 h0

theorem run_lookup {w : World} {t r kt et : Nat} {kd : KK} {es : List (Value × Value)} {x : Value} {i ik ie : TyI} (ht : TyOk P t i) (hk : i.k = .map kt et) (hkt : TyOk P kt ik) (hkk : ik.k = kd.tk) (he : TyOk P et ie) (h0 : ie.zero ≠ []) (hm : mapIs w r kd es) (hx : kd.is x) (ok : Bool) :
    (Instr.lookup t (.map (some r)) x ok).run P w = .ok (if ok then .tuple #[(mget es x).getD (zval ie), .bool (mget es x).isSome] else (mget es x).getD (zval ie)) w := by
  obtain ⟨⟨me, clock, hb, rfl⟩, hkeys⟩ := hm
  obtain ⟨dd, e1, e2⟩ := ht.desc
  rw [hk] at e2
  subst e2
  obtain ⟨dk, k1, k2⟩ := hkt.desc
  rw [hkk] at k2
  have := KK.ok_desc k2
  subst this
  have hkeys' : ∀ e ∈ me.toList, kd.is e.key := fun e he => hkeys _ (List.mem_map.2 ⟨e, he, rfl⟩)
  rcases findNow_get hx me.toList 0 hkeys' with ⟨h1, h2, _⟩ | ⟨j, e, h1, _, _, h4, _⟩
  · rw [h2]
    cases ok <;> simp [Instr.lookup, run_underlying e1, MapKept.run_getObj_map hb, MapKept.run_checkKey k1 (KK.isKey hx), MapKept.run_findKey k1 h1, run_zval he h0, Result.andThen]
  · rw [h4]
    cases ok <;> simp [Instr.lookup, run_underlying e1, MapKept.run_getObj_map hb, MapKept.run_checkKey k1 (KK.isKey hx), MapKept.run_findKey k1 h1, Result.andThen]

theorem vl_lookup {t r kt et : Nat} {kd : KK} {es : List (Value × Value)} {x y : Operand} {k v : Value} {L' : List Chunk} (T : TyTab P) {i ik ie : TyI} (ht : T.tab t = some i) (hk : i.k = .map kt et) (hkt : T.tab kt = some ik) (hkk : ik.k = kd.tk) (he : T.tab et = some ie) (h0 : Nat.beq ie.zero.length 0 = false)
    (hx : ev env x = some (.map (some r))) (hy : ev env y = some k) (hp : Pick (mp r kd es) L L') (hki : kd.is k) (hv : (mget es k).getD (zval ie) = v) : Val P n ds env L ⟨dst, .lookup t x y false, ty, pos, af, gu⟩ v := fun a w ho hs => by
  have := run_lookup (P := P) (w := w) (T.ok ht) hk (T.ok hkt) hkk (T.ok he) (fun h => by rw [h] at h0; cases h0) (hs.pick hp).mapIs hki false
  simp only [execOp, ho.eval hx, ho.eval hy]
  simp [this, hv]
theorem gl_lookup {t r kt et : Nat} {kd : KK} {es : List (Value × Value)} {x y : Operand} {k v : Value} {L' : List Chunk} (T : TyTab P) {i ik ie : TyI} (ht : T.tab t = some i) (hk : i.k = .map kt et) (hkt : T.tab kt = some ik) (hkk : ik.k = kd.tk) (he : T.tab et = some ie) (h0 : Nat.beq ie.zero.length 0 = false)
    (hx : ev env x = some (.map (some r))) (hy : ev env y = some k) (hp : Pick (mp r kd es) L L') (hki : kd.is k) (hv : (mget es k).getD (zval ie) = v) {d : Nat} (hn : Nat.ble (d + 1) n = true) (k : GL P Q n ds ops rest ((d, v) :: env) L) : GL P Q n ds ops (⟨some d, .lookup t x y false, ty, pos, af, none⟩ :: rest) env L := gl_v (vl_lookup T ht hk hkt hkk he h0 hx hy hp hki hv) rfl rfl hn k
theorem vl_lookupOk {t r kt et : Nat} {kd : KK} {es : List (Value × Value)} {x y : Operand} {k v : Value} {b : Bool} {L' : List Chunk} (T : TyTab P) {i ik ie : TyI} (ht : T.tab t = some i) (hk : i.k = .map kt et) (hkt : T.tab kt = some ik) (hkk : ik.k = kd.tk) (he : T.tab et = some ie) (h0 : Nat.beq ie.zero.length 0 = false)
    (hx : ev env x = some (.map (some r))) (hy : ev env y = some k) (hp : Pick (mp r kd es) L L') (hki : kd.is k) (hv : (mget es k).getD (zval ie) = v) (hb : (mget es k).isSome = b) : Val P n ds env L ⟨dst, .lookup t x y true, ty, pos, af, gu⟩ (.tuple [v, .bool b].toArray) := fun a w ho hs => by
  have := run_lookup (P := P) (w := w) (T.ok ht) hk (T.ok hkt) hkk (T.ok he) (fun h => by rw [h] at h0; cases h0) (hs.pick hp).mapIs hki true
  simp only [execOp, ho.eval hx, ho.eval hy]
  simp [this, hv, hb]
theorem gl_lookupOk {t r kt et : Nat} {kd : KK} {es : List (Value × Value)} {x y : Operand} {k v : Value} {b : Bool} {L' : List Chunk} (T : TyTab P) {i ik ie : TyI} (ht : T.tab t = some i) (hk : i.k = .map kt et) (hkt : T.tab kt = some ik) (hkk : ik.k = kd.tk) (he : T.tab et = some ie) (h0 : Nat.beq ie.zero.length 0 = false)
    (hx : ev env x = some (.map (some r))) (hy : ev env y = some k) (hp : Pick (mp r kd es) L L') (hki : kd.is k) (hv : (mget es k).getD (zval ie) = v) (hb : (mget es k).isSome = b) {d : Nat} (hn : Nat.ble (d + 1) n = true) (k : GL P Q n ds ops rest ((d, (.tuple [v, .bool b].toArray)) :: env) L) : GL P Q n ds ops (⟨some d, .lookup t x y true, ty, pos, af, none⟩ :: rest) env L := gl_v (vl_lookupOk T ht hk hkt hkk he h0 hx hy hp hki hv hb) rfl rfl hn k

theorem sameBits_refl {kd : KK} {x : Value} (h : kd.is x) (m : Nat) : Instr.sameBits m x x = true := by
  cases kd <;> cases x <;> simp_all [KK.is, Instr.sameBits, MapKept.bytes_beq]

theorem do_mapUpdate {t r kt et : Nat} {kd : KK} {es : List (Value × Value)} {x y z : Operand} {k v : Value} {L' : List Chunk} (T : TyTab P) {i ik : TyI} (ht : T.tab t = some i) (hk : i.k = .map kt et) (hkt : T.tab kt = some ik) (hkk : ik.k = kd.tk)
    (hx : ev env x = some (.map (some r))) (hy : ev env y = some k) (hz : ev env z = some v) (hp : Pick (mp r kd es) L L') (hki : kd.is k) : Does P n ds env L ⟨dst, .mapUpdate t x y z, ty, pos, af, gu⟩ (mp r kd (mset es k v) :: L') := fun a w ho hs => by
  have hs' := hs.pick hp
  obtain ⟨⟨me, clock, hb, rfl⟩, hkeys⟩ := hs'.mapIs
  obtain ⟨dd, e1, e2⟩ := (T.ok ht).desc
  rw [hk] at e2
  subst e2
  obtain ⟨dk, k1, k2⟩ := (T.ok hkt).desc
  rw [hkk] at k2
  have := KK.ok_desc k2
  subst this
  have hkeys' : ∀ e ∈ me.toList, kd.is e.key := fun e he => hkeys _ (List.mem_map.2 ⟨e, he, rfl⟩)
  have hnew := mset_keys (u := v) hki hkeys
  simp only [execOp, ho.eval hx, ho.eval hy, ho.eval hz]
  rcases findNow_get hki me.toList 0 hkeys' with ⟨h1, _, h3, _⟩ | ⟨j, e, h1, h2, h3, _, h5, _⟩
  · refine ⟨_, by simp [Instr.mapUpdate, run_underlying e1, MapKept.run_getObj_map hb, MapKept.run_checkKey k1 (KK.isKey hki), MapKept.run_findKey k1 h1, MapKept.run_setObj_map _ hb, Result.andThen]; rfl, hs'.setMap ?_ hnew⟩
    rw [h3 v]
    simp
  · have hj : me[j]? = some e := by simpa using h2
    refine ⟨_, by simp [Instr.mapUpdate, run_underlying e1, MapKept.run_getObj_map hb, MapKept.run_checkKey k1 (KK.isKey hki), MapKept.run_findKey k1 h1, hj, h3, Instr.keyThatStays, sameBits_refl hki, MapKept.run_setObj_map _ hb, Result.andThen]; rfl, hs'.setMap ?_ hnew⟩
    rw [h5 v]
    apply List.ext_getElem?
    intro q
    simp only [Array.toList_modify, List.getElem?_map, List.getElem?_modify, List.getElem?_set]
    by_cases hq : j = q
    · subst hq
      rw [h2]
      have : j < me.toList.length := by
        rcases Nat.lt_or_ge j me.toList.length with h | h
        · exact h
        · rw [List.getElem?_eq_none h] at h2; cases h2
      simp [this]
      simpa using this
    · simp [hq]
theorem gl_mapUpdate {t r kt et : Nat} {kd : KK} {es : List (Value × Value)} {x y z : Operand} {k v : Value} {L' : List Chunk} (T : TyTab P) {i ik : TyI} (ht : T.tab t = some i) (hk : i.k = .map kt et) (hkt : T.tab kt = some ik) (hkk : ik.k = kd.tk)
    (hx : ev env x = some (.map (some r))) (hy : ev env y = some k) (hz : ev env z = some v) (hp : Pick (mp r kd es) L L') (hki : kd.is k) (k : GL P Q n ds ops rest env (mp r kd (mset es k v) :: L')) : GL P Q n ds ops (⟨none, .mapUpdate t x y z, ty, pos, af, none⟩ :: rest) env L := gl_d (do_mapUpdate T ht hk hkt hkk hx hy hz hp hki) rfl rfl k

theorem vl_lenMap {t r kt et : Nat} {kd : KK} {es : List (Value × Value)} {x : Operand} {L' : List Chunk} (T : TyTab P) {i : TyI} (ht : T.tab t = some i) (hk : i.k = .map kt et) (hx : ev env x = some (.map (some r))) (hp : Pick (mp r kd es) L L') : Val P n ds env L ⟨dst, .call { callee := .builtin .len, args := #[x], argTypes := #[t] }, ty, pos, af, gu⟩ (.int .i64 (es.length : Int)) := fun a w ho hs => by
  obtain ⟨⟨me, clock, hb, rfl⟩, hkeys⟩ := (hs.pick hp).mapIs
  obtain ⟨dd, e1, e2⟩ := (T.ok ht).desc
  rw [hk] at e2
  subst e2
  simp only [execOp, resolve, invoke, builtin, Sem.run_bind, Sem.run_pure, Result.andThen_ok, List.map_toArray, List.map_cons, List.map_nil, ho.eval hx]
  simp [Builtin.len_, run_underlying e1, MapKept.run_getObj_map hb, goInt, Result.andThen]
theorem gl_lenMap {t r kt et : Nat} {kd : KK} {es : List (Value × Value)} {x : Operand} {L' : List Chunk} (T : TyTab P) {i : TyI} (ht : T.tab t = some i) (hk : i.k = .map kt et) (hx : ev env x = some (.map (some r))) (hp : Pick (mp r kd es) L L') {d : Nat} (hn : Nat.ble (d + 1) n = true) (k : GL P Q n ds ops rest ((d, (.int .i64 (es.length : Int))) :: env) L) : GL P Q n ds ops (⟨some d, .call { callee := .builtin .len, args := #[x], argTypes := #[t] }, ty, pos, af, none⟩ :: rest) env L := gl_v (vl_lenMap T ht hk hx hp) rfl rfl hn k
end
end Go.Sx
