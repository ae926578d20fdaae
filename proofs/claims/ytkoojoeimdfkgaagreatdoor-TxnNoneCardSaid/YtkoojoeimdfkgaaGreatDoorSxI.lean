/-
  Regions that draw, step by step: reads first, and what turns the chunks when it alone is ready.
-/
import Derived.Test.YtkoojoeimdfkgaaGreatDoorSxH
namespace Go.Sx
open Go Go.RowKit

/-- an operation that turns nothing -/
def isRd (tab : Nat → Option TyI) : Op → Bool
  | .move _ | .assign _ | .pick .. | .extract .. | .nilCheck _ | .fieldAddr .. | .load .. | .indexAddr .. | .slice .. | .binOp .. | .unOp .. | .lookup .. | .makeFunc .. | .build .. | .field .. | .index .. => true
  | .convert _ t _ => match tab t with | some i => (match i.k with | .slice _ => false | _ => true) | none => false
  | .call c => match c.callee with | .builtin .len | .builtin .cap | .builtin .max | .builtin .min => true | _ => false
  | _ => false
def rdyOne (ls : List Bool) (o : Oper) : Bool := o.after.toList.all fun e => !Region.binds .any e || ls.getD e.on false
def readyL (ops : List Oper) (ls : List Bool) : List Nat := (List.range ops.length).filter fun i => !ls.getD i true && ((ops[i]?).map (rdyOne ls)).getD false
theorem ready_L (ops : List Oper) (ls : List Bool) : Region.ready .any ops.toArray ls.toArray = readyL ops ls := by
  unfold Region.ready readyL rdyOne
  simp
def freeL (ops : List Oper) (ls : List Bool) (i : Nat) : Bool :=
  match ops[i]? with
  | none => false
  | some oi => (List.range ops.length).all fun j => j == i || ls.getD j true || match ops[j]? with
      | some oj => oj.after.toList.any (fun e => Region.binds .any e && e.on == i) || oi.apart ops.toArray oj
      | none => true
theorem free_L (ops : List Oper) (ls : List Bool) (i : Nat) : Region.free .any ops.toArray ls.toArray i = freeL ops ls i := by
  unfold Region.free freeL
  simp
  rfl
def noSelL (ops : List Oper) : Bool := ops.all fun o => match o.op with | .select .. => false | _ => true
theorem noSel_L (ops : List Oper) : Region.noSelect ops.toArray = noSelL ops := by
  unfold Region.noSelect noSelL
  simp
  rfl
def nxt (tab : Nat → Option TyI) (ops : List Oper) (ls : List Bool) : Option Nat := (readyL ops ls).find? fun i => (ops[i]?).any fun o => isRd tab o.op
/-- what is taken next: a read that is ready, or what alone is ready -/
def cnd (tab : Nat → Option TyI) (ops : List Oper) (ls : List Bool) : Option Nat := match nxt tab ops ls with
  | some i => some i
  | none => match readyL ops ls with
    | [i] => some i
    | _ => none
theorem nxt_ready {tab : Nat → Option TyI} {ops : List Oper} {ls : List Bool} {i : Nat} (h : nxt tab ops ls = some i) : (Region.ready .any ops.toArray ls.toArray).contains i = true := by
  rw [ready_L]
  have := List.mem_of_find?_eq_some h
  simpa using this

theorem cnd_ready {tab : Nat → Option TyI} {ops : List Oper} {ls : List Bool} {i : Nat} (h : cnd tab ops ls = some i) : (Region.ready .any ops.toArray ls.toArray).contains i = true := by
  unfold cnd at h
  split at h
  · rename_i k hk
    injection h with h
    subst h
    exact nxt_ready hk
  · split at h
    · rename_i k hk
      injection h with h
      subst h
      rw [ready_L, hk]
      simp
    · cases h

section
variable {P : Program} {Q : Exit → Act → World → Prop} {n : Nat} {ds : List Deferred} {env : Env} {L Lh : List Chunk} {ops : List Oper}
theorem gw_v (T : TyTab P) {i : Nat} {o : Oper} {d : Nat} {v : Value} {fuel fuel' : Nat} {ls ls' : List Bool} (hf0 : fuel' = fuel + 1) (hx : nxt T.tab ops ls = some i) (hi : ops[i]? = some o) (hg : o.guard = none) (hsel : noSelL ops = true) (hfree : freeL ops ls i = true)
    (hl : ls.set i true = ls') (hd : o.dst = some d) (hn : Nat.ble (d + 1) n = true) (hv : Val P n ds env Lh o v) (he : Ent L Lh) (hQ : ∀ c a w, Q (.panic c) (a.put o.dst v) w → Q (.panic c) a w)
    (k : GH P Q n ds ops Lh fuel ls' ((d, v) :: env) L) : GH P Q n ds ops Lh fuel' ls env L := hf0 ▸ gh_v i hi (noSel_L ops ▸ hsel) (free_L ops ls i ▸ hfree) (nxt_ready hx) hl hv hg hd hn he hQ k
theorem gw_von (T : TyTab P) {i : Nat} {o : Oper} {d j s : Nat} {want : Bool} {u v : Value} {fuel fuel' : Nat} {ls ls' : List Bool} (hf0 : fuel' = fuel + 1) (hx : nxt T.tab ops ls = some i) (hi : ops[i]? = some o) (hg : o.guard = some (j, want)) (hj : (ops[j]?).bind (·.dst) = some s) (hs' : lk env s = some u) (hu : u = .bool want) (hsel : noSelL ops = true) (hfree : freeL ops ls i = true)
    (hl : ls.set i true = ls') (hd : o.dst = some d) (hn : Nat.ble (d + 1) n = true) (hv : Val P n ds env Lh o v) (he : Ent L Lh) (hQ : ∀ c a w, Q (.panic c) (a.put o.dst v) w → Q (.panic c) a w)
    (k : GH P Q n ds ops Lh fuel ls' ((d, v) :: env) L) : GH P Q n ds ops Lh fuel' ls env L := hf0 ▸ gh_von i hi (noSel_L ops ▸ hsel) (free_L ops ls i ▸ hfree) (nxt_ready hx) hl hv hg hj (hu ▸ hs') hd hn he hQ k
theorem gw_voff (T : TyTab P) {i : Nat} {o : Oper} {d j s : Nat} {want b : Bool} {u : Value} {fuel fuel' : Nat} {ls ls' : List Bool} (hf0 : fuel' = fuel + 1) (hx : cnd T.tab ops ls = some i) (hi : ops[i]? = some o) (hg : o.guard = some (j, want)) (hj : (ops[j]?).bind (·.dst) = some s) (hs' : lk env s = some u) (hu : u = .bool b) (hb : (b == want) = false) (hsel : noSelL ops = true) (hfree : freeL ops ls i = true)
    (hl : ls.set i true = ls') (hd : o.dst = some d) (hn : Nat.ble (d + 1) n = true) (he : Ent L Lh) (hQ : ∀ c a w, Q (.panic c) (a.put o.dst undef) w → Q (.panic c) a w)
    (k : GH P Q n ds ops Lh fuel ls' ((d, undef) :: env) L) : GH P Q n ds ops Lh fuel' ls env L := hf0 ▸ gh_voff i hi (noSel_L ops ▸ hsel) (free_L ops ls i ▸ hfree) (cnd_ready hx) hl hg hj (hu ▸ hs') hb hd hn he hQ k
theorem gw_a {i : Nat} {o : Oper} {d : Nat} {J : Value → List Chunk → Prop} {fuel fuel' : Nat} {ls ls' : List Bool} (hf0 : fuel' = fuel + 1) (hr : readyL ops ls = [i]) (hi : ops[i]? = some o) (hg : Wd env ops o)
    (hl : ls.set i true = ls') (hd : o.dst = some d) (hn : Nat.ble (d + 1) n = true) (hv : Acts P n ds env L o J)
    (k : ∀ v L', J v L' → Ent L' Lh ∧ GH P Q n ds ops Lh fuel ls' ((d, v) :: env) L') : GH P Q n ds ops Lh fuel' ls env L := hf0 ▸ gh_a i hi ((ready_L ops ls).trans hr) hl hv hg hd hn k
theorem gw_c {i : Nat} {o : Oper} {d : Nat} {f : FuncId} {xs : List Operand} {vs : List Value} {ats : Array TypeId} {K : Value → List Chunk → Prop} {L' : List Chunk} {fuel fuel' : Nat} {ls ls' : List Bool} (hf0 : fuel' = fuel + 1) (hr : readyL ops ls = [i]) (hi : ops[i]? = some o) (hg : Wd env ops o)
    (hl : ls.set i true = ls') (hd : o.dst = some d) (hn : Nat.ble (d + 1) n = true) (ho : o.op = .call { callee := .value (.func f), args := xs.toArray, argTypes := ats }) (ha : evL env xs = some vs) (hf : SxFn P f vs.toArray L' K) (he : Ent L L')
    (k : ∀ v L'', K v L'' → Ent L'' Lh ∧ GH P Q n ds ops Lh fuel ls' ((d, v) :: env) L'') : GH P Q n ds ops Lh fuel' ls env L := hf0 ▸
  gh_c i (f := f) (args := vs.toArray) hi ((ready_L ops ls).trans hr) hl (by cases o; simp only at ho; subst ho; exact en_call hf.1 ha) hf he hg hd hn k
theorem gw_d {i : Nat} {o : Oper} {L' : List Chunk} {fuel fuel' : Nat} {ls ls' : List Bool} (hf0 : fuel' = fuel + 1) (hr : readyL ops ls = [i]) (hi : ops[i]? = some o) (hg : Wd env ops o)
    (hl : ls.set i true = ls') (hd : o.dst = none) (hv : Does P n ds env L o L') (he : Ent L' Lh)
    (k : GH P Q n ds ops Lh fuel ls' env L') : GH P Q n ds ops Lh fuel' ls env L := hf0 ▸ gh_d i hi ((ready_L ops ls).trans hr) hl hv hg hd he k
theorem gw_gsplit (T : TyTab P) {i : Nat} {o : Oper} {j s fuel : Nat} {want b : Bool} {ls : List Bool} (_hx : cnd T.tab ops ls = some i) (_hi : ops[i]? = some o) (_hg : o.guard = some (j, want)) (_hj : (ops[j]?).bind (·.dst) = some s) (hv : lk env s = some (.bool b))
    (h1 : b = true → GH P Q n ds ops Lh fuel ls ((s, .bool true) :: env) L) (h2 : b = false → GH P Q n ds ops Lh fuel ls ((s, .bool false) :: env) L) : GH P Q n ds ops Lh fuel ls env L := gh_split hv h1 h2
theorem gw_gdec (T : TyTab P) {i : Nat} {o : Oper} {j s fuel : Nat} {want : Bool} {p : Prop} {_ : Decidable p} {ls : List Bool} (_hx : cnd T.tab ops ls = some i) (_hi : ops[i]? = some o) (_hg : o.guard = some (j, want)) (_hj : (ops[j]?).bind (·.dst) = some s) (hv : lk env s = some (.bool (decide p)))
    (h1 : p → GH P Q n ds ops Lh fuel ls ((s, .bool true) :: env) L) (h2 : ¬ p → GH P Q n ds ops Lh fuel ls ((s, .bool false) :: env) L) : GH P Q n ds ops Lh fuel ls env L := gh_dec hv h1 h2
theorem gw_gyes (T : TyTab P) {i : Nat} {o : Oper} {j s fuel : Nat} {want : Bool} {p : Prop} {_ : Decidable p} {ls : List Bool} (_hx : cnd T.tab ops ls = some i) (_hi : ops[i]? = some o) (_hg : o.guard = some (j, want)) (_hj : (ops[j]?).bind (·.dst) = some s) (hv : lk env s = some (.bool (decide p))) (hp : p)
    (h1 : GH P Q n ds ops Lh fuel ls ((s, .bool true) :: env) L) : GH P Q n ds ops Lh fuel ls env L := gh_dec hv (fun _ => h1) (fun h => absurd hp h)
theorem gw_gno (T : TyTab P) {i : Nat} {o : Oper} {j s fuel : Nat} {want : Bool} {p : Prop} {_ : Decidable p} {ls : List Bool} (_hx : cnd T.tab ops ls = some i) (_hi : ops[i]? = some o) (_hg : o.guard = some (j, want)) (_hj : (ops[j]?).bind (·.dst) = some s) (hv : lk env s = some (.bool (decide p))) (hp : ¬ p)
    (h2 : GH P Q n ds ops Lh fuel ls ((s, .bool false) :: env) L) : GH P Q n ds ops Lh fuel ls env L := gh_dec hv (fun h => absurd h hp) (fun _ => h2)
theorem gw_done {fuel : Nat} {ls : List Bool} (hr : readyL ops ls = []) (h : GQ Q n ds .normal env L) : GH P Q n ds ops Lh fuel ls env L := gh_done ((ready_L ops ls).trans hr) h
theorem gc_drawL {id : Nat} {l : List Oper} {fuel : Nat} {ls : List Bool} (hm : P.follows .mixedOrders = true) (hf : l.length = fuel) (hl : List.replicate l.length false = ls) (h : GH P Q n ds l L fuel ls env L) : GC P Q n ds (.region id l.toArray true) env L := gc_draw hm L hf hl h
end
section
variable {P : Program} {Q : Exit → Act → World → Prop} {n : Nat} {ds : List Deferred} {env : Env} {L : List Chunk} {ops : Array Oper} {rest : List Oper}
variable {dst : Option Tmp} {ty : TypeId} {pos : String} {af : Array Edge} {gu : Option (Nat × Bool)}
theorem vl_strOfN {t u e m c : Nat} {x : Operand} {A : Option Addr} {l : List UInt8} (T : TyTab P) {ti tj tu : TyI} (ht : T.tab t = some ti) (hk : ti.k = .slice e) (hj : T.tab e = some tj) (hjk : tj.k = .int .u8) (hu : T.tab u = some tu) (huk : tu.k = .str)
    (hx : ev env x = some (.slice A m c)) (hr : ∀ w, Sat w L → Rd A (bvs l) w) (hl : m ≤ l.length) : Val P n ds env L ⟨dst, .convert t u x, ty, pos, af, gu⟩ (.string (str (l.take m))) := vl_strOf T ht hk hj hjk hu huk hx (rd_takeb m hr) (by simp; omega)
theorem gl_strOfN {t u e m c : Nat} {x : Operand} {A : Option Addr} {l : List UInt8} (T : TyTab P) {ti tj tu : TyI} (ht : T.tab t = some ti) (hk : ti.k = .slice e) (hj : T.tab e = some tj) (hjk : tj.k = .int .u8) (hu : T.tab u = some tu) (huk : tu.k = .str)
    (hx : ev env x = some (.slice A m c)) (hr : ∀ w, Sat w L → Rd A (bvs l) w) (hl : m ≤ l.length) {d : Nat} (hn : Nat.ble (d + 1) n = true) (k : GL P Q n ds ops rest ((d, (.string (str (l.take m)))) :: env) L) : GL P Q n ds ops (⟨some d, .convert t u x, ty, pos, af, none⟩ :: rest) env L := gl_v (vl_strOfN T ht hk hj hjk hu huk hx hr hl) rfl rfl hn k
theorem vl_notT {xt : TypeId} {x : Operand} {v : Value} (hx : ev env x = some v) (hv : v = .bool true) : Val P n ds env L ⟨dst, .unOp .not xt x, ty, pos, af, gu⟩ (.bool false) := vl_not (b := true) (hv ▸ hx)
theorem gl_notT {xt : TypeId} {x : Operand} {v : Value} (hx : ev env x = some v) (hv : v = .bool true) {d : Nat} (hn : Nat.ble (d + 1) n = true) (k : GL P Q n ds ops rest ((d, (.bool false)) :: env) L) : GL P Q n ds ops (⟨some d, .unOp .not xt x, ty, pos, af, none⟩ :: rest) env L := gl_v (vl_notT hx hv) rfl rfl hn k
theorem vl_notF {xt : TypeId} {x : Operand} {v : Value} (hx : ev env x = some v) (hv : v = .bool false) : Val P n ds env L ⟨dst, .unOp .not xt x, ty, pos, af, gu⟩ (.bool true) := vl_not (b := false) (hv ▸ hx)
theorem gl_notF {xt : TypeId} {x : Operand} {v : Value} (hx : ev env x = some v) (hv : v = .bool false) {d : Nat} (hn : Nat.ble (d + 1) n = true) (k : GL P Q n ds ops rest ((d, (.bool true)) :: env) L) : GL P Q n ds ops (⟨some d, .unOp .not xt x, ty, pos, af, none⟩ :: rest) env L := gl_v (vl_notF hx hv) rfl rfl hn k
theorem ent_rd {A B : Option Addr} {xs ys : List Value} {L : List Chunk} (h : ∀ w, Rd A xs w → Rd B ys w) : Ent (Sx.ro (Rd A xs) :: L) (Sx.ro (Rd B ys) :: L) := ent_imp fun _ w hc => ⟨hc.1, h w hc.2⟩
theorem rd_cutb {A : Option Addr} {l : List UInt8} {k c : Nat} (hc : l.length ≤ c) (w : World) (h : Rd A (bvs l) w) : Rd (cut A k c 1) (bvs (l.drop k)) w := by
  have := h.drop (k := k) (c := c) (size := 1) (by simpa using hc)
  simpa [bvs, List.map_drop] using this
end
end Go.Sx
