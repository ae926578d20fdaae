/-
  The runner is right: what an operation yields that turns nothing, all kinds.
-/
import Derived.Test.YtkoojoeimdfkgaaGreatDoorExI
namespace Go.Ex
open Go Go.RowKit Go.Sx

/-! ### maps -/
theorem keyIs_is {kd : KK} {a : AV} (h : keyIs kd a = true) (ν : Vl) : kd.is (a.val ν) := by
  unfold keyIs at h
  split at h
  · have := kindEq_eq h
    subst this
    rfl
  · trivial
  · cases h
theorem keyIs_int {k : IntKind} {a : AV} (h : keyIs (.int k) a = true) : ∃ n, a = .v (.int k n) := by
  unfold keyIs at h
  split at h
  · rename_i heq
    have := kindEq_eq h
    cases heq
    exact ⟨_, by rw [← this]⟩
  · rename_i heq; cases heq
  · cases h
theorem keyIs_str {a : AV} (h : keyIs .str a = true) : ∃ l, a = .str l := by
  unfold keyIs at h
  split at h
  · rename_i heq; cases heq
  · exact ⟨_, rfl⟩
  · cases h
theorem keyEq_eq {kd : KK} {a b : AV} (ha : keyIs kd a = true) (hb : keyIs kd b = true) (ν : Vl) : keyEq a b = kEq (a.val ν) (b.val ν) := by
  have h1 := keyIs_is ha ν
  have h2 := keyIs_is hb ν
  rw [Bool.eq_iff_iff, kEq_iff h1 h2]
  cases kd with
  | int k =>
    obtain ⟨n, rfl⟩ := keyIs_int ha
    obtain ⟨m, rfl⟩ := keyIs_int hb
    simp only [keyEq, ieq_eq, AV.val, decide_eq_true_iff, Value.int.injEq, true_and]
  | str =>
    obtain ⟨x, rfl⟩ := keyIs_str ha
    obtain ⟨y, rfl⟩ := keyIs_str hb
    simp only [keyEq, bytesEq_eq, AV.val, beq_iff_eq, Value.string.injEq]
    constructor
    · rintro rfl; rfl
    · intro h
      have := congrArg (fun s : ByteArray => s.data.toList) h
      simpa using this
def kvs (l : List MapEntry) : List (Value × Value) := l.map fun e => (e.key, e.val)
theorem esKey_ents {kd : KK} (ν : Vl) : ∀ {es : List (AV × AV × Nat)}, esKey kd es = true → ∀ e ∈ ents ν es, kd.is e.key
  | [], _, _, h => by cases h
  | (k, v, b) :: l, hk, e, h => by
    simp only [esKey, Bool.and_eq_true] at hk
    simp only [ents] at h
    rcases List.mem_cons.1 h with rfl | h
    · exact keyIs_is hk.1 ν
    · exact esKey_ents ν hk.2 e h
theorem mgetA_ok {kd : KK} (ν : Vl) {k : AV} (hk : keyIs kd k = true) : ∀ {es : List (AV × AV × Nat)}, esKey kd es = true → mget (kvs (ents ν es)) (k.val ν) = (mgetA es k).map (AV.val ν)
  | [], _ => rfl
  | (k', v, b) :: l, he => by
    simp only [esKey, Bool.and_eq_true] at he
    have := keyEq_eq hk he.1 ν
    simp only [ents, kvs, List.map_cons, mget, mgetA, ← this]
    cases keyEq k k'
    · exact mgetA_ok ν hk he.2
    · rfl
theorem kd_tk {kd : KK} {kk : TK} (h : (match kd, kk with | .int a, .int b => kindEq a b | .str, .str => true | _, _ => false) = true) : kk = kd.tk := by
  split at h
  · have := kindEq_eq h; subst this; rfl
  · rfl
  · cases h

section
variable {P : Program} (TT : TyTab P) {G : Nat → Option Nat} {env : T AV} {h : Heap} {a : Act} {ν : Vl} {w : World}
variable (hs : Slots ν env a.tmps) (hg : GOk ν G) (hst : Stat ν h)
variable {av : AV} {rd : Option Nat} {dst : Option Tmp} {ty : TypeId} {pos : String} {af : Array Edge} {gu : Option (Nat × Bool)}

include hs hg hst in
theorem vop_lookup {t : TypeId} {x y : Operand} {ok : Bool} (hv : vLookup TT.tab G env h t x y ok = some (av, rd)) (hr : ∀ i o, rd = some i → h.at i = some o → o.fact ν i w) : (execOp a.eval ⟨dst, .lookup t x y ok, ty, pos, af, gu⟩).run P w = .ok (.value (av.val ν)) w := by
  unfold vLookup at hv
  split at hv
  case h_2 => cases hv
  rename_i r k kt et hx hy ht
  have ex := evA_ok hs hg hx
  have ey := evA_ok hs hg hy
  obtain ⟨i, hi, hik⟩ := Ty_desc ht
  split at hv
  case h_2 => cases hv
  rename_i kd es clock kk ie ho hkk he
  obtain ⟨ik, hi2, hik2⟩ := Ty_desc hkk
  split at hv
  case h_2 => cases hv
  rename_i z hc hz
  simp only [Bool.and_eq_true] at hc
  obtain ⟨⟨hc1, hc2⟩, hc3⟩ := hc
  have htk := kd_tk hc1
  have h0 := zero_ne hc3
  have hkeys := hst.keys _ _ ho
  have key : ∀ {r0 : Value}, rd = some r → (if ok then Value.tuple #[((mgetA es k).map (AV.val ν)).getD (zval ie), .bool ((mgetA es k).map (AV.val ν)).isSome] else ((mgetA es k).map (AV.val ν)).getD (zval ie)) = r0 → (execOp a.eval ⟨dst, .lookup t x y ok, ty, pos, af, gu⟩).run P w = .ok (.value r0) w := by
    intro r0 hrd hr0
    obtain ⟨b, hb1, hb2⟩ := hr _ _ hrd ho
    have hm : mapIs w b kd (kvs (ents ν es)) := ⟨⟨_, _, hb2, by simp [kvs]⟩, by
      intro e hem
      simp only [kvs] at hem
      obtain ⟨me, hme, rfl⟩ := List.mem_map.1 hem
      exact esKey_ents ν hkeys me hme⟩
    have hrun := run_lookup (P := P) (w := w) (TT.ok hi) hik (TT.ok hi2) (hik2.trans htk) (TT.ok he) h0 hm (keyIs_is hc2 ν) ok
    rw [mgetA_ok ν hc2 hkeys, hr0] at hrun
    simp only [execOp, ex, ey, AV.val, hb1, En.block, Sem.run_bind, hrun, Result.andThen_ok, Sem.run_pure]
  have hzv := zvalA_ok ν hz h0
  split at hv
  · rename_i v hg1
    split at hv
    · simp only [Option.some.injEq, Prod.mk.injEq] at hv
      obtain ⟨rfl, rfl⟩ := hv
      exact key rfl (by simp [hg1, AV.val, AV.vals])
    · simp only [Option.some.injEq, Prod.mk.injEq] at hv
      obtain ⟨rfl, rfl⟩ := hv
      exact key rfl (by simp [hg1])
  · rename_i hg1
    split at hv
    · simp only [Option.some.injEq, Prod.mk.injEq] at hv
      obtain ⟨rfl, rfl⟩ := hv
      exact key rfl (by simp [hg1, AV.val, AV.vals, hzv])
    · simp only [Option.some.injEq, Prod.mk.injEq] at hv
      obtain ⟨rfl, rfl⟩ := hv
      exact key rfl (by simp [hg1, hzv])

theorem two_list {α : Type} {x : Array α} {a b : α} (h : x.toList = [a, b]) : x = #[a, b] := Array.ext' h
theorem one_list {α : Type} {x : Array α} {a : α} (h : x.toList = [a]) : x = #[a] := Array.ext' h
theorem max_ilt {ik : IntKind} {p q : Int} {z : AV} (h : (match ilt p q with | true => some (AV.v (.int ik q)) | false => some (AV.v (.int ik p))) = some z) : z = .v (.int ik (max p q)) := by
  rw [ilt_eq] at h
  by_cases hl : p < q
  · simp only [hl, decide_true, Option.some.injEq] at h
    rw [← h]
    congr 2
    omega
  · simp only [hl, decide_false, Option.some.injEq] at h
    rw [← h]
    congr 2
    omega

include hs hg in
theorem vop_call {c : Call} (hv : vCall TT.tab G env h c = some (av, rd)) (hr : ∀ i o, rd = some i → h.at i = some o → o.fact ν i w) : (execOp a.eval ⟨dst, .call c, ty, pos, af, gu⟩).run P w = .ok (.value (av.val ν)) w := by
  obtain ⟨callee, args, ats⟩ := c
  unfold vCall at hv
  split at hv
  · rename_i x t hc ha hat
    simp only at hc ha hat
    subst hc
    have := one_list ha; subst this
    have := one_list hat; subst this
    split at hv
    · rename_i l hx ht
      have ex := evA_ok hs hg hx
      obtain ⟨d, h1, h2⟩ := sl_desc TT ht
      cases h2
      simp only [Option.some.injEq, Prod.mk.injEq] at hv
      obtain ⟨rfl, _⟩ := hv
      simp only [execOp, resolve, invoke, builtin, Sem.run_bind, Sem.run_pure, Result.andThen_ok, List.map_toArray, List.map_cons, List.map_nil, ex, AV.val]
      simp [Builtin.len_, run_underlying h1, goInt]
    · rename_i i off len cap sym e hx ht
      have ex := evA_ok hs hg hx
      obtain ⟨d, h1, h2⟩ := sl_desc TT ht
      cases h2
      simp only [Option.some.injEq, Prod.mk.injEq] at hv
      obtain ⟨rfl, _⟩ := hv
      simp only [execOp, resolve, invoke, builtin, Sem.run_bind, Sem.run_pure, Result.andThen_ok, List.map_toArray, List.map_cons, List.map_nil, ex, AV.val]
      simp [Builtin.len_, run_underlying h1, goInt]
    · rename_i e hx ht
      have ex := evA_ok hs hg hx
      obtain ⟨d, h1, h2⟩ := sl_desc TT ht
      cases h2
      simp only [Option.some.injEq, Prod.mk.injEq] at hv
      obtain ⟨rfl, _⟩ := hv
      simp only [execOp, resolve, invoke, builtin, Sem.run_bind, Sem.run_pure, Result.andThen_ok, List.map_toArray, List.map_cons, List.map_nil, ex, AV.val]
      simp [Builtin.len_, run_underlying h1, goInt]
    · rename_i r kt et hx ht
      have ex := evA_ok hs hg hx
      obtain ⟨d, h1, h2⟩ := sl_desc TT ht
      cases h2
      split at hv
      case h_2 => cases hv
      rename_i kd es clock ho
      simp only [Option.some.injEq, Prod.mk.injEq] at hv
      obtain ⟨rfl, rfl⟩ := hv
      obtain ⟨b, hb1, hb2⟩ := hr _ _ rfl ho
      have hlen : (ents ν es).length = es.length := by
        clear hb2 ho hr
        induction es with
        | nil => rfl
        | cons x es ih => obtain ⟨k, v, c⟩ := x; simp [ents, ih]
      simp only [execOp, resolve, invoke, builtin, Sem.run_bind, Sem.run_pure, Result.andThen_ok, List.map_toArray, List.map_cons, List.map_nil, ex, AV.val, hb1, En.block]
      simp [Builtin.len_, run_underlying h1, MapKept.run_getObj_map hb2, goInt, Result.andThen, hlen]
    · rename_i kt et hx ht
      have ex := evA_ok hs hg hx
      obtain ⟨d, h1, h2⟩ := sl_desc TT ht
      cases h2
      simp only [Option.some.injEq, Prod.mk.injEq] at hv
      obtain ⟨rfl, _⟩ := hv
      simp only [execOp, resolve, invoke, builtin, Sem.run_bind, Sem.run_pure, Result.andThen_ok, List.map_toArray, List.map_cons, List.map_nil, ex, AV.val]
      simp [Builtin.len_, run_underlying h1, goInt]
    · cases hv
  · rename_i x y hc ha
    simp only at hc ha
    subst hc
    have := two_list ha; subst this
    split at hv
    case h_2 => cases hv
    rename_i k p k' q hx hy
    have ex := evA_ok hs hg hx
    have ey := evA_ok hs hg hy
    have e : av = .v (.int k (max p q)) := by
      split at hv <;> rename_i hl <;> rw [ilt_eq] at hl <;> simp only [decide_eq_true_eq, decide_eq_false_iff_not] at hl <;> simp only [Option.some.injEq, Prod.mk.injEq] at hv <;> obtain ⟨rfl, _⟩ := hv <;> congr 2 <;> omega
    subst e
    simp only [execOp, resolve, invoke, builtin, Sem.run_bind, Sem.run_pure, Result.andThen_ok, List.map_toArray, List.map_cons, List.map_nil, ex, ey, AV.val, run_max_int2]
    congr 3
    rw [Int.max_def]; split <;> split <;> omega
  · rename_i x y hc ha
    simp only at hc ha
    subst hc
    have := two_list ha; subst this
    split at hv
    case h_2 => cases hv
    rename_i k p k' q hx hy
    have ex := evA_ok hs hg hx
    have ey := evA_ok hs hg hy
    have e : av = .v (.int k (min p q)) := by
      split at hv <;> rename_i hl <;> rw [ilt_eq] at hl <;> simp only [decide_eq_true_eq, decide_eq_false_iff_not] at hl <;> simp only [Option.some.injEq, Prod.mk.injEq] at hv <;> obtain ⟨rfl, _⟩ := hv <;> congr 2 <;> omega
    subst e
    simp only [execOp, resolve, invoke, builtin, Sem.run_bind, Sem.run_pure, Result.andThen_ok, List.map_toArray, List.map_cons, List.map_nil, ex, ey, AV.val, run_min_int2]
    congr 3
    rw [Int.min_def]; split <;> split <;> omega
  · rename_i x t hc ha hat
    simp only at hc ha hat
    subst hc
    have := one_list ha; subst this
    have := one_list hat; subst this
    split at hv
    · rename_i i off len cap e hx ht
      have ex := evA_ok hs hg hx
      obtain ⟨d, h1, h2⟩ := sl_desc TT ht
      cases h2
      simp only [Option.some.injEq, Prod.mk.injEq] at hv
      obtain ⟨rfl, _⟩ := hv
      simp only [execOp, resolve, invoke, builtin, Sem.run_bind, Sem.run_pure, Result.andThen_ok, List.map_toArray, List.map_cons, List.map_nil, ex, AV.val]
      simp [Builtin.cap_, run_underlying h1, goInt]
    · rename_i e hx ht
      have ex := evA_ok hs hg hx
      obtain ⟨d, h1, h2⟩ := sl_desc TT ht
      cases h2
      simp only [Option.some.injEq, Prod.mk.injEq] at hv
      obtain ⟨rfl, _⟩ := hv
      simp only [execOp, resolve, invoke, builtin, Sem.run_bind, Sem.run_pure, Result.andThen_ok, List.map_toArray, List.map_cons, List.map_nil, ex, AV.val]
      simp [Builtin.cap_, run_underlying h1, goInt]
    · cases hv
  · cases hv

include hs hg hst in
/-- AN OPERATION THAT YIELDS A VALUE YIELDS WHAT THE RUNNER SAYS. -/
theorem vop_ok {op : Op} (hv : vop TT.tab G env h op = some (av, rd)) (hr : ∀ i o, rd = some i → h.at i = some o → o.fact ν i w) : (execOp a.eval ⟨dst, op, ty, pos, af, gu⟩).run P w = .ok (.value (av.val ν)) w := by
  cases op <;> first | (cases hv; done) | skip
  case move x =>
    have hv : vMove TT.tab G env h x = some (av, rd) := hv
    unfold vMove at hv
    split at hv
    case h_2 => cases hv
    rename_i u hx
    simp only [Option.some.injEq, Prod.mk.injEq] at hv
    obtain ⟨rfl, _⟩ := hv
    simp [execOp, evA_ok hs hg hx]
  case assign x =>
    have hv : vAssign TT.tab G env h x = some (av, rd) := hv
    unfold vAssign at hv
    split at hv
    case h_2 => cases hv
    rename_i u hx
    simp only [Option.some.injEq, Prod.mk.injEq] at hv
    obtain ⟨rfl, _⟩ := hv
    simp [execOp, evA_ok hs hg hx]
  case pick c x y =>
    have hv : vPick TT.tab G env h c x y = some (av, rd) := hv
    unfold vPick at hv
    split at hv
    · rename_i hc
      split at hv
      case h_2 => cases hv
      rename_i u hx
      simp only [Option.some.injEq, Prod.mk.injEq] at hv
      obtain ⟨rfl, _⟩ := hv
      simp [execOp, evA_ok hs hg hc, evA_ok hs hg hx, AV.val, asBool]
    · rename_i hc
      split at hv
      case h_2 => cases hv
      rename_i u hx
      simp only [Option.some.injEq, Prod.mk.injEq] at hv
      obtain ⟨rfl, _⟩ := hv
      simp [execOp, evA_ok hs hg hc, evA_ok hs hg hx, AV.val, asBool]
    · cases hv
  case extract x i =>
    have hv : vExtract TT.tab G env h x i = some (av, rd) := hv
    unfold vExtract at hv
    split at hv
    case h_2 => cases hv
    rename_i l hx
    split at hv
    case h_2 => cases hv
    rename_i u hu
    rw [nthA_eq] at hu
    simp only [Option.some.injEq, Prod.mk.injEq] at hv
    obtain ⟨rfl, _⟩ := hv
    have : (AV.vals ν l)[i]? = some (u.val ν) := by rw [vals_get, hu]; rfl
    simp [execOp, evA_ok hs hg hx, AV.val, Instr.extract, this]
  case nilCheck x => exact vop_nilCheck TT hs hg hst.blk (x := x) hv
  case binOp op xt x y yt => exact vop_binOp TT hs hg hst.blk (op := op) (xt := xt) (x := x) (y := y) (yt := yt) hv hr
  case unOp op t x => exact vop_unOp TT hs hg hst.blk (op := op) (t := t) (x := x) hv
  case convert s t x => exact vop_convert TT hs hg (s := s) (t := t) (x := x) hv hr
  case makeInterface t x => exact vop_makeInterface TT (h := h) hs hg (t := t) (x := x) hv
  case makeFunc fn fi ca => exact vop_makeFunc TT (h := h) hs hg (fn := fn) (fi := fi) (ca := ca) hv
  case load t x => exact vop_load TT hs hg (t := t) (x := x) hv hr
  case fieldAddr s x f => exact vop_fieldAddr TT hs hg hst.blk (s := s) (x := x) (f := f) hv
  case field s x f => exact vop_field TT (h := h) hs hg (s := s) (x := x) (f := f) hv
  case indexAddr t x y => exact vop_indexAddr TT hs hg hst.blk (t := t) (x := x) (y := y) hv hr
  case index t x y => exact vop_index TT (h := h) hs hg (t := t) (x := x) (y := y) hv
  case build t ps => exact vop_build TT (h := h) hs hg (t := t) (ps := ps) hv
  case slice t x lo hi mx => exact vop_slice TT hs hg hst.blk (t := t) (x := x) (lo := lo) (hi := hi) (mx := mx) hv hr
  case lookup t x y ok => exact vop_lookup TT hs hg hst (t := t) (x := x) (y := y) (ok := ok) hv hr
  case call c => exact vop_call TT hs hg (c := c) hv hr
end
end Go.Ex
