/-
  The calculus' rules, an operation each: numbers, tests, copies.
-/
import Derived.Test.YtkoojoeimdfkgaaGreatDoorSxA
import Derived.WalkSpells
namespace Go.Sx
open Go Go.RowKit

/-! ### what is known of a type -/
inductive TK where
  | int (k : IntKind)
  | bool | str
  | ptr (e : Nat)
  | slice (e : Nat)
  | map (k e : Nat)
  | func | iface
  | struct (fs : List (Nat × Nat))
  | array (n e : Nat)
  | tuple
structure TyI where
  k : TK
  size : Nat
  bytes : Nat
  zero : List Value

def TK.isAgg : TK → Bool
  | .struct _ | .array _ _ => true
  | _ => false

/-- the descriptions that the table may hold -/
def TK.ok (P : Program) : TK → TypeDesc → Prop
  | .int k, d => d = .int k
  | .bool, d => d = .bool
  | .str, d => d = .string
  | .ptr e, d => d = .pointer e
  | .slice e, d => d = .slice e
  | .map k e, d => d = .map k e
  | .func, d => ∃ a b c, d = .func a b c
  | .iface, d => ∃ m, d = .interface m
  | .struct fs, d => ∃ fl, d = .struct fl ∧ fl.toList.map (fun f => (f.offset, f.type)) = fs
  | .array n e, d => d = .array n e
  | .tuple, d => ∃ m, d = .tuple m

def TK.okB (P : Program) : TK → TypeDesc → Bool
  | .int k, .int k' => k == k'
  | .bool, .bool => true
  | .str, .string => true
  | .ptr e, .pointer e' => e == e'
  | .slice e, .slice e' => e == e'
  | .map k e, .map k' e' => k == k' && e == e'
  | .func, .func _ _ _ => true
  | .iface, .interface _ => true
  | .struct fs, .struct fl => fl.toList.map (fun f => (f.offset, f.type)) == fs
  | .array n e, .array n' e' => n == n' && e == e'
  | .tuple, .tuple _ => true
  | _, _ => false

theorem TK.ok_of_okB {P : Program} {k : TK} {d : TypeDesc} (h : k.okB P d = true) : k.ok P d := by
  cases k <;> cases d <;> simp only [TK.okB, Bool.false_eq_true] at h <;> simp only [TK.ok]
  case int.int a b => rw [eq_of_beq h]
  case ptr.pointer a b => rw [eq_of_beq h]
  case slice.slice a b => rw [eq_of_beq h]
  case map.map a b c d =>
    simp only [Bool.and_eq_true] at h
    rw [eq_of_beq h.1, eq_of_beq h.2]
  case func.func => exact ⟨_, _, _, rfl⟩
  case iface.interface => exact ⟨_, rfl⟩
  case struct.struct a b => exact ⟨_, rfl, eq_of_beq h⟩
  case array.array a b c d =>
    simp only [Bool.and_eq_true] at h
    rw [eq_of_beq h.1, eq_of_beq h.2]
  case tuple.tuple => exact ⟨_, rfl⟩

/-- equality of the plain values that stand in a table -/
def vEq : Value → Value → Bool
  | .int k a, .int k' b => k == k' && a == b
  | .bool a, .bool b => a == b
  | .string a, .string b => a.data.toList == b.data.toList
  | .pointer none, .pointer none => true
  | .slice none 0 0, .slice none 0 0 => true
  | .map none, .map none => true
  | .nilFunc, .nilFunc => true
  | .nilIface, .nilIface => true
  | _, _ => false
theorem vEq_eq {u v : Value} (h : vEq u v = true) : u = v := by
  unfold vEq at h
  split at h <;> first | rfl | (cases h; done) | skip
  · simp only [Bool.and_eq_true] at h; rw [eq_of_beq h.1, eq_of_beq h.2]
  · rw [eq_of_beq h]
  · rename_i a b
    have := eq_of_beq h
    cases a; cases b
    simp only [Array.toList_inj] at this
    rw [this]
def vsEq : List Value → List Value → Bool
  | [], [] => true
  | a :: x, b :: y => vEq a b && vsEq x y
  | _, _ => false
theorem vsEq_eq : ∀ {x y : List Value}, vsEq x y = true → x = y
  | [], [], _ => rfl
  | a :: x, b :: y, h => by
    simp only [vsEq, Bool.and_eq_true] at h
    rw [vEq_eq h.1, vsEq_eq h.2]
  | [], _ :: _, h => by simp [vsEq] at h
  | _ :: _, [], h => by simp [vsEq] at h

theorem vEq_one {u v : Value} (h : vEq u v = true) : u.oneCell' = true := by
  unfold vEq at h
  split at h <;> first | rfl | (cases h; done)
theorem vsEq_one {u : Value} {x : List Value} (h : vsEq [u] x = true) : u.oneCell' = true := by
  cases x with
  | nil => simp [vsEq] at h
  | cons y x => simp only [vsEq, Bool.and_eq_true] at h; exact vEq_one h.1
structure TyOk (P : Program) (t : Nat) (i : TyI) : Prop where
  desc : ∃ d, P.underlying t = some d ∧ i.k.ok P d
  info : ∃ f, P.info? t = some f ∧ f.size = i.size ∧ f.bytes = i.bytes ∧ ((i.k.isAgg = true ∧ f.zero = some (.agg i.zero.toArray)) ∨ (i.k.isAgg = false ∧ ∃ z, i.zero = [z] ∧ f.zero = some z ∧ z.oneCell' = true) ∨ i.zero = [])

def zB (i : TyI) : Option Value → Bool
  | some (.agg cs) => i.k.isAgg && vsEq cs.toList i.zero
  | some v => !i.k.isAgg && vsEq [v] i.zero
  | none => false
def tyB (P : Program) (t : Nat) (i : TyI) : Bool :=
  match P.underlying t, P.info? t with
  | some d, some f => i.k.okB P d && (f.size == i.size && (f.bytes == i.bytes && (zB i f.zero || i.zero.isEmpty)))
  | _, _ => false
theorem tyOk_of {P : Program} {t : Nat} {i : TyI} (h : tyB P t i = true) : TyOk P t i := by
  unfold tyB at h
  split at h
  · rename_i d f hd hf
    simp only [Bool.and_eq_true, Bool.or_eq_true] at h
    obtain ⟨h1, h2, h3, h4⟩ := h
    refine ⟨⟨d, hd, TK.ok_of_okB h1⟩, f, hf, eq_of_beq h2, eq_of_beq h3, ?_⟩
    rcases h4 with h4 | h4
    · unfold zB at h4
      split at h4
      · rename_i cs hz
        simp only [Bool.and_eq_true] at h4
        refine Or.inl ⟨h4.1, ?_⟩
        rw [hz, ← vsEq_eq h4.2]
      · rename_i v _ hz
        simp only [Bool.and_eq_true, Bool.not_eq_true'] at h4
        exact Or.inr (Or.inl ⟨h4.1, v, (vsEq_eq h4.2).symm, hz, vsEq_one h4.2⟩)
      · cases h4
    · exact Or.inr (Or.inr (by simpa using h4))
  · cases h

def lkT : List (Nat × TyI) → Nat → Option TyI
  | [], _ => none
  | (k, v) :: r, d => match Nat.beq k d with
    | true => some v
    | false => lkT r d
theorem lkT_mem : ∀ {l : List (Nat × TyI)} {d : Nat} {i : TyI}, lkT l d = some i → (d, i) ∈ l
  | [], _, _, h => by simp [lkT] at h
  | (k, v) :: r, d, i, h => by
    simp only [lkT] at h
    split at h
    · rename_i hb
      have : k = d := Nat.eq_of_beq_eq_true hb
      subst this
      injection h with h
      subst h
      exact List.mem_cons_self ..
    · exact List.mem_cons_of_mem _ (lkT_mem h)

def nth : List (List (Nat × TyI)) → Nat → List (Nat × TyI)
  | [], _ => []
  | l :: _, 0 => l
  | _ :: r, k + 1 => nth r k
theorem nth_mem : ∀ {ll : List (List (Nat × TyI))} {k : Nat} {x : Nat × TyI}, x ∈ nth ll k → ∃ l ∈ ll, x ∈ l
  | [], _, _, h => by simp [nth] at h
  | l :: _, 0, _, h => ⟨l, List.mem_cons_self .., h⟩
  | _ :: r, k + 1, _, h => by
    obtain ⟨l, h1, h2⟩ := nth_mem (ll := r) (k := k) h
    exact ⟨l, List.mem_cons_of_mem _ h1, h2⟩
structure TyTab (P : Program) where
  tab : Nat → Option TyI
  ok : ∀ {t : Nat} {i : TyI}, tab t = some i → TyOk P t i
theorem tab_ok {P : Program} {ll : List (List (Nat × TyI))} (h : (ll.all fun l => l.all fun x => tyB P x.1 x.2) = true) {t : Nat} {i : TyI} {m : Nat} (hl : lkT (nth ll (t % m)) t = some i) : TyOk P t i := by
  obtain ⟨l, h1, h2⟩ := nth_mem (lkT_mem hl)
  exact tyOk_of (List.all_eq_true.1 (List.all_eq_true.1 h l h1) _ h2)

/-! ### the masters -/
/-- The operation answers v and turns nothing. -/
def Val (P : Program) (n : Nat) (ds : List Deferred) (env : Env) (L : List Chunk) (o : Oper) (v : Value) : Prop :=
  ∀ (a : Act) (w : World), Ok n ds env a → Sat w L → (execOp a.eval o).run P w = .ok (.value v) w
/-- The operation answers and turns the chunks as J tells. -/
def Acts (P : Program) (n : Nat) (ds : List Deferred) (env : Env) (L : List Chunk) (o : Oper) (J : Value → List Chunk → Prop) : Prop :=
  ∀ (a : Act) (w : World), Ok n ds env a → Sat w L → ∃ v w' L', (execOp a.eval o).run P w = .ok (.value v) w' ∧ Sat w' L' ∧ J v L'
/-- The operation answers nothing and turns the chunks. -/
def Does (P : Program) (n : Nat) (ds : List Deferred) (env : Env) (L : List Chunk) (o : Oper) (L' : List Chunk) : Prop :=
  ∀ (a : Act) (w : World), Ok n ds env a → Sat w L → ∃ w', (execOp a.eval o).run P w = .ok .skip w' ∧ Sat w' L'
/-- The operation calls. -/
def Enters (P : Program) (n : Nat) (ds : List Deferred) (env : Env) (L : List Chunk) (o : Oper) (f : FuncId) (args : Array Value) : Prop :=
  ∀ (a : Act) (w : World), Ok n ds env a → Sat w L → (execOp a.eval o).run P w = .ok (.enter f args) w
theorem Val.ent {P : Program} {n : Nat} {ds : List Deferred} {env : Env} {L L' : List Chunk} {o : Oper} {v : Value} (h : Val P n ds env L' o v) (he : Ent L L') : Val P n ds env L o v := fun a w ho hs => h a w ho (hs.ent he)

section
variable {P : Program} {Q : Exit → Act → World → Prop} {n : Nat} {ds : List Deferred} {env : Env} {L : List Chunk} {ops : Array Oper} {rest : List Oper}

theorem gl_v {o : Oper} {d : Nat} {v : Value} (hrun : Val P n ds env L o v) (hg : o.guard = none) (hd : o.dst = some d) (hn : Nat.ble (d + 1) n = true)
    (k : GL P Q n ds ops rest ((d, v) :: env) L) : GL P Q n ds ops (o :: rest) env L := fun a w ho hs => wpList_plain hg fun K hK => by
  unfold Oper.wp
  rw [hrun a w ho hs, Oper.upon_value, hd]
  exact hK _ _ (k _ _ (ho.put hn v) hs)

theorem gl_a {o : Oper} {d : Nat} {J : Value → List Chunk → Prop} (hrun : Acts P n ds env L o J) (hg : o.guard = none) (hd : o.dst = some d) (hn : Nat.ble (d + 1) n = true)
    (k : ∀ v L', J v L' → GL P Q n ds ops rest ((d, v) :: env) L') : GL P Q n ds ops (o :: rest) env L := fun a w ho hs => wpList_plain hg fun K hK => by
  obtain ⟨v, w', L', hr, hs', hj⟩ := hrun a w ho hs
  unfold Oper.wp
  rw [hr, Oper.upon_value, hd]
  exact hK _ _ (k v L' hj _ _ (ho.put hn v) hs')

theorem gl_d {o : Oper} {L' : List Chunk} (hrun : Does P n ds env L o L') (hg : o.guard = none) (hd : o.dst = none)
    (k : GL P Q n ds ops rest env L') : GL P Q n ds ops (o :: rest) env L := fun a w ho hs => wpList_plain hg fun K hK => by
  obtain ⟨w', hr, hs'⟩ := hrun a w ho hs
  unfold Oper.wp
  rw [hr, Oper.upon_skip, hd]
  exact hK _ _ (k _ _ ho hs')

theorem gl_c {o : Oper} {d : Nat} {f : FuncId} {args : Array Value} {K : Value → List Chunk → Prop} {L' : List Chunk} (hrun : Enters P n ds env L o f args) (hf : SxFn P f args L' K) (he : Ent L L') (hg : o.guard = none) (hd : o.dst = some d) (hn : Nat.ble (d + 1) n = true)
    (k : ∀ v L'', K v L'' → GL P Q n ds ops rest ((d, v) :: env) L'') : GL P Q n ds ops (o :: rest) env L := fun a w ho hs => wpList_plain hg fun K' hK => by
  unfold Oper.wp
  rw [hrun a w ho hs, Oper.upon_enter]
  refine (hf.2 w (hs.ent he)).mono ?_
  rintro e w'' ⟨v, L'', rfl, hk, hs'⟩
  rw [hd]
  exact hK _ _ (k v L'' hk _ _ (ho.put hn v) hs')

/-! ### guards -/
theorem yielded_of {a : Act} {j s : Nat} {b : Bool} (ho : Ok n ds env a) (hj : (ops[j]?).bind (·.dst) = some s) (hv : lk env s = some (.bool b)) : yielded ops a.tmps j = some b := by
  unfold yielded
  rw [hj]
  simp [ho.slot s _ hv]

theorem gl_on {o : Oper} {j s : Nat} {want : Bool} (hg : o.guard = some (j, want)) (hj : (ops[j]?).bind (·.dst) = some s) (hv : lk env s = some (.bool want))
    (k : GL P Q n ds ops ({ o with guard := none } :: rest) env L) : GL P Q n ds ops (o :: rest) env L := fun a w ho hs => by
  have h := k a w ho hs
  unfold wpList at h ⊢
  rw [if_pos (by simp [Region.wanted])] at h
  rw [if_pos (by simp [Region.wanted, hg, yielded_of ho hj hv])]
  exact h

theorem gl_off {o : Oper} {j s d : Nat} {want b : Bool} (hg : o.guard = some (j, want)) (hj : (ops[j]?).bind (·.dst) = some s) (hv : lk env s = some (.bool b)) (hb : (b == want) = false) (hd : o.dst = some d) (hn : Nat.ble (d + 1) n = true)
    (k : GL P Q n ds ops rest ((d, undef) :: env) L) : GL P Q n ds ops (o :: rest) env L := fun a w ho hs => by
  unfold wpList
  rw [if_neg (by simp [Region.wanted, hg, yielded_of ho hj hv]; simpa using hb), hd]
  exact k _ _ (ho.put hn _) hs

theorem gl_off0 {o : Oper} {j s : Nat} {want b : Bool} (hg : o.guard = some (j, want)) (hj : (ops[j]?).bind (·.dst) = some s) (hv : lk env s = some (.bool b)) (hb : (b == want) = false) (hd : o.dst = none)
    (k : GL P Q n ds ops rest env L) : GL P Q n ds ops (o :: rest) env L := fun a w ho hs => by
  unfold wpList
  rw [if_neg (by simp [Region.wanted, hg, yielded_of ho hj hv]; simpa using hb), hd]
  exact k _ _ ho hs

theorem lk_set {s : Nat} {v : Value} (h : lk env s = some v) : EnvLe env ((s, v) :: env) := envle_cons h rfl envle_refl

/-- a Bool in a slot: two ways -/
theorem gl_split {s : Nat} {b : Bool} (hv : lk env s = some (.bool b)) (h1 : b = true → GL P Q n ds ops rest ((s, .bool true) :: env) L) (h2 : b = false → GL P Q n ds ops rest ((s, .bool false) :: env) L) : GL P Q n ds ops rest env L := by
  cases b
  · exact fun a w ho hs => h2 rfl a w (ho.le (lk_set hv)) hs
  · exact fun a w ho hs => h1 rfl a w (ho.le (lk_set hv)) hs
theorem gl_gsplit {o : Oper} {j s : Nat} {want b : Bool} (_hg : o.guard = some (j, want)) (_hj : (ops[j]?).bind (·.dst) = some s) (hv : lk env s = some (.bool b))
    (h1 : b = true → GL P Q n ds ops (o :: rest) ((s, .bool true) :: env) L) (h2 : b = false → GL P Q n ds ops (o :: rest) ((s, .bool false) :: env) L) : GL P Q n ds ops (o :: rest) env L := gl_split hv h1 h2
theorem gl_gdec {o : Oper} {j s : Nat} {want : Bool} {p : Prop} {_ : Decidable p} (_hg : o.guard = some (j, want)) (_hj : (ops[j]?).bind (·.dst) = some s) (hv : lk env s = some (.bool (decide p)))
    (h1 : p → GL P Q n ds ops (o :: rest) ((s, .bool true) :: env) L) (h2 : ¬ p → GL P Q n ds ops (o :: rest) ((s, .bool false) :: env) L) : GL P Q n ds ops (o :: rest) env L :=
  gl_split hv (fun h => h1 (of_decide_eq_true h)) (fun h => h2 (of_decide_eq_false h))
theorem gl_gyes {o : Oper} {j s : Nat} {want : Bool} {p : Prop} {_ : Decidable p} (_hg : o.guard = some (j, want)) (_hj : (ops[j]?).bind (·.dst) = some s) (hv : lk env s = some (.bool (decide p))) (hp : p)
    (h1 : GL P Q n ds ops (o :: rest) ((s, .bool true) :: env) L) : GL P Q n ds ops (o :: rest) env L := gl_split hv (fun _ => h1) (fun h => absurd hp (of_decide_eq_false h))
theorem gl_gno {o : Oper} {j s : Nat} {want : Bool} {p : Prop} {_ : Decidable p} (_hg : o.guard = some (j, want)) (_hj : (ops[j]?).bind (·.dst) = some s) (hv : lk env s = some (.bool (decide p))) (hp : ¬ p)
    (h2 : GL P Q n ds ops (o :: rest) ((s, .bool false) :: env) L) : GL P Q n ds ops (o :: rest) env L := gl_split hv (fun h => absurd (of_decide_eq_true h) hp) (fun _ => h2)

theorem gl_ong {o : Oper} {j s : Nat} {want : Bool} {v : Value} (hg : o.guard = some (j, want)) (hj : (ops[j]?).bind (·.dst) = some s) (hv : lk env s = some v) (hvv : v = .bool want)
    (k : GL P Q n ds ops ({ o with guard := none } :: rest) env L) : GL P Q n ds ops (o :: rest) env L := gl_on hg hj (hvv ▸ hv) k
theorem gl_offt {o : Oper} {j s d : Nat} {v : Value} (hg : o.guard = some (j, true)) (hj : (ops[j]?).bind (·.dst) = some s) (hv : lk env s = some v) (hvv : v = .bool false) (hd : o.dst = some d) (hn : Nat.ble (d + 1) n = true)
    (k : GL P Q n ds ops rest ((d, undef) :: env) L) : GL P Q n ds ops (o :: rest) env L := gl_off hg hj (hvv ▸ hv) rfl hd hn k
theorem gl_offf {o : Oper} {j s d : Nat} {v : Value} (hg : o.guard = some (j, false)) (hj : (ops[j]?).bind (·.dst) = some s) (hv : lk env s = some v) (hvv : v = .bool true) (hd : o.dst = some d) (hn : Nat.ble (d + 1) n = true)
    (k : GL P Q n ds ops rest ((d, undef) :: env) L) : GL P Q n ds ops (o :: rest) env L := gl_off hg hj (hvv ▸ hv) rfl hd hn k
theorem gl_offt0 {o : Oper} {j s : Nat} {v : Value} (hg : o.guard = some (j, true)) (hj : (ops[j]?).bind (·.dst) = some s) (hv : lk env s = some v) (hvv : v = .bool false) (hd : o.dst = none)
    (k : GL P Q n ds ops rest env L) : GL P Q n ds ops (o :: rest) env L := gl_off0 hg hj (hvv ▸ hv) rfl hd k
theorem gl_offf0 {o : Oper} {j s : Nat} {v : Value} (hg : o.guard = some (j, false)) (hj : (ops[j]?).bind (·.dst) = some s) (hv : lk env s = some v) (hvv : v = .bool true) (hd : o.dst = none)
    (k : GL P Q n ds ops rest env L) : GL P Q n ds ops (o :: rest) env L := gl_off0 hg hj (hvv ▸ hv) rfl hd k

/-! ### copies and tests -/
variable {dst : Option Tmp} {ty : TypeId} {pos : String} {af : Array Edge} {gu : Option (Nat × Bool)}
theorem vl_move {x : Operand} {v : Value} (hx : ev env x = some v) : Val P n ds env L ⟨dst, .move x, ty, pos, af, gu⟩ v := fun a w ho _ => by rw [← ho.eval hx]; rfl
theorem gl_move {x : Operand} {v : Value} (hx : ev env x = some v) {d : Nat} (hn : Nat.ble (d + 1) n = true) (k : GL P Q n ds ops rest ((d, v) :: env) L) : GL P Q n ds ops (⟨some d, .move x, ty, pos, af, none⟩ :: rest) env L := gl_v (vl_move hx) rfl rfl hn k
theorem vl_assign {x : Operand} {v : Value} (hx : ev env x = some v) : Val P n ds env L ⟨dst, .assign x, ty, pos, af, gu⟩ v := fun a w ho _ => by rw [← ho.eval hx]; rfl
theorem gl_assign {x : Operand} {v : Value} (hx : ev env x = some v) {d : Nat} (hn : Nat.ble (d + 1) n = true) (k : GL P Q n ds ops rest ((d, v) :: env) L) : GL P Q n ds ops (⟨some d, .assign x, ty, pos, af, none⟩ :: rest) env L := gl_v (vl_assign hx) rfl rfl hn k
theorem vl_pick1 {c x y : Operand} {v : Value} (hc : ev env c = some (.bool true)) (hx : ev env x = some v) : Val P n ds env L ⟨dst, .pick c x y, ty, pos, af, gu⟩ v := fun a w ho _ => by rw [← ho.eval hx]; simp only [execOp, ho.eval hc, asBool]; rfl
theorem gl_pick1 {c x y : Operand} {v : Value} (hc : ev env c = some (.bool true)) (hx : ev env x = some v) {d : Nat} (hn : Nat.ble (d + 1) n = true) (k : GL P Q n ds ops rest ((d, v) :: env) L) : GL P Q n ds ops (⟨some d, .pick c x y, ty, pos, af, none⟩ :: rest) env L := gl_v (vl_pick1 hc hx) rfl rfl hn k
theorem vl_pick0 {c x y : Operand} {v : Value} (hc : ev env c = some (.bool false)) (hx : ev env y = some v) : Val P n ds env L ⟨dst, .pick c x y, ty, pos, af, gu⟩ v := fun a w ho _ => by rw [← ho.eval hx]; simp only [execOp, ho.eval hc, asBool]; rfl
theorem gl_pick0 {c x y : Operand} {v : Value} (hc : ev env c = some (.bool false)) (hx : ev env y = some v) {d : Nat} (hn : Nat.ble (d + 1) n = true) (k : GL P Q n ds ops rest ((d, v) :: env) L) : GL P Q n ds ops (⟨some d, .pick c x y, ty, pos, af, none⟩ :: rest) env L := gl_v (vl_pick0 hc hx) rfl rfl hn k
theorem vl_pickt {c x y : Operand} {v u : Value} (hc : ev env c = some u) (hu : u = .bool true) (hx : ev env x = some v) : Val P n ds env L ⟨dst, .pick c x y, ty, pos, af, gu⟩ v := vl_pick1 (hu ▸ hc) hx
theorem gl_pickt {c x y : Operand} {v u : Value} (hc : ev env c = some u) (hu : u = .bool true) (hx : ev env x = some v) {d : Nat} (hn : Nat.ble (d + 1) n = true) (k : GL P Q n ds ops rest ((d, v) :: env) L) : GL P Q n ds ops (⟨some d, .pick c x y, ty, pos, af, none⟩ :: rest) env L := gl_v (vl_pickt hc hu hx) rfl rfl hn k
theorem vl_pickf {c x y : Operand} {v u : Value} (hc : ev env c = some u) (hu : u = .bool false) (hx : ev env y = some v) : Val P n ds env L ⟨dst, .pick c x y, ty, pos, af, gu⟩ v := vl_pick0 (hu ▸ hc) hx
theorem gl_pickf {c x y : Operand} {v u : Value} (hc : ev env c = some u) (hu : u = .bool false) (hx : ev env y = some v) {d : Nat} (hn : Nat.ble (d + 1) n = true) (k : GL P Q n ds ops rest ((d, v) :: env) L) : GL P Q n ds ops (⟨some d, .pick c x y, ty, pos, af, none⟩ :: rest) env L := gl_v (vl_pickf hc hu hx) rfl rfl hn k
theorem vl_extract {x : Operand} {vs : List Value} {i : Nat} {v : Value} (hx : ev env x = some (.tuple vs.toArray)) (hi : vs[i]? = some v) : Val P n ds env L ⟨dst, .extract x i, ty, pos, af, gu⟩ v := fun a w ho _ => by simp [execOp, ho.eval hx, Instr.extract, hi]
theorem gl_extract {x : Operand} {vs : List Value} {i : Nat} {v : Value} (hx : ev env x = some (.tuple vs.toArray)) (hi : vs[i]? = some v) {d : Nat} (hn : Nat.ble (d + 1) n = true) (k : GL P Q n ds ops rest ((d, v) :: env) L) : GL P Q n ds ops (⟨some d, .extract x i, ty, pos, af, none⟩ :: rest) env L := gl_v (vl_extract hx hi) rfl rfl hn k
theorem vl_nilCheck {x : Operand} {ad : Addr} (hx : ev env x = some (.pointer (some ad))) : Val P n ds env L ⟨dst, .nilCheck x, ty, pos, af, gu⟩ (.pointer (some ad)) := fun a w ho _ => by simp [execOp, ho.eval hx]
theorem gl_nilCheck {x : Operand} {ad : Addr} (hx : ev env x = some (.pointer (some ad))) {d : Nat} (hn : Nat.ble (d + 1) n = true) (k : GL P Q n ds ops rest ((d, (.pointer (some ad))) :: env) L) : GL P Q n ds ops (⟨some d, .nilCheck x, ty, pos, af, none⟩ :: rest) env L := gl_v (vl_nilCheck hx) rfl rfl hn k

section ints
variable {xt yt : TypeId} {x y : Operand} {ik : IntKind} {p q : Int}
theorem vl_cmp {op : BinOp} {b : Bool} (hx : ev env x = some (.int ik p)) (hy : ev env y = some (.int ik q)) (hb : ∀ w, (binOp op xt (.int ik p) (.int ik q)).run P w = .ok (.bool b) w) (hg : ∀ w, (eqGuard op xt x y (.int ik p) (.int ik q)).run P w = .ok () w) : Val P n ds env L ⟨dst, .binOp op xt x y yt, ty, pos, af, gu⟩ (.bool b) := fun a w ho _ => by simp [execOp, ho.eval hx, ho.eval hy, hb, hg]
theorem gl_cmp {op : BinOp} {b : Bool} (hx : ev env x = some (.int ik p)) (hy : ev env y = some (.int ik q)) (hb : ∀ w, (binOp op xt (.int ik p) (.int ik q)).run P w = .ok (.bool b) w) (hg : ∀ w, (eqGuard op xt x y (.int ik p) (.int ik q)).run P w = .ok () w) {d : Nat} (hn : Nat.ble (d + 1) n = true) (k : GL P Q n ds ops rest ((d, (.bool b)) :: env) L) : GL P Q n ds ops (⟨some d, .binOp op xt x y yt, ty, pos, af, none⟩ :: rest) env L := gl_v (vl_cmp hx hy hb hg) rfl rfl hn k
theorem vl_lss (hx : ev env x = some (.int ik p)) (hy : ev env y = some (.int ik q)) : Val P n ds env L ⟨dst, .binOp .lss xt x y yt, ty, pos, af, gu⟩ (.bool (decide (p < q))) := vl_cmp hx hy (fun w => by simp [binOp, Op.intCmp]) (fun w => by simp [eqGuard])
theorem gl_lss (hx : ev env x = some (.int ik p)) (hy : ev env y = some (.int ik q)) {d : Nat} (hn : Nat.ble (d + 1) n = true) (k : GL P Q n ds ops rest ((d, (.bool (decide (p < q)))) :: env) L) : GL P Q n ds ops (⟨some d, .binOp .lss xt x y yt, ty, pos, af, none⟩ :: rest) env L := gl_v (vl_lss hx hy) rfl rfl hn k
theorem vl_leq (hx : ev env x = some (.int ik p)) (hy : ev env y = some (.int ik q)) : Val P n ds env L ⟨dst, .binOp .leq xt x y yt, ty, pos, af, gu⟩ (.bool (decide (p ≤ q))) := vl_cmp hx hy (fun w => by simp [binOp, Op.intCmp]) (fun w => by simp [eqGuard])
theorem gl_leq (hx : ev env x = some (.int ik p)) (hy : ev env y = some (.int ik q)) {d : Nat} (hn : Nat.ble (d + 1) n = true) (k : GL P Q n ds ops rest ((d, (.bool (decide (p ≤ q)))) :: env) L) : GL P Q n ds ops (⟨some d, .binOp .leq xt x y yt, ty, pos, af, none⟩ :: rest) env L := gl_v (vl_leq hx hy) rfl rfl hn k
theorem vl_gtr (hx : ev env x = some (.int ik p)) (hy : ev env y = some (.int ik q)) : Val P n ds env L ⟨dst, .binOp .gtr xt x y yt, ty, pos, af, gu⟩ (.bool (decide (q < p))) := vl_cmp hx hy (fun w => by simp [binOp, Op.intCmp]) (fun w => by simp [eqGuard])
theorem gl_gtr (hx : ev env x = some (.int ik p)) (hy : ev env y = some (.int ik q)) {d : Nat} (hn : Nat.ble (d + 1) n = true) (k : GL P Q n ds ops rest ((d, (.bool (decide (q < p)))) :: env) L) : GL P Q n ds ops (⟨some d, .binOp .gtr xt x y yt, ty, pos, af, none⟩ :: rest) env L := gl_v (vl_gtr hx hy) rfl rfl hn k
theorem vl_geq (hx : ev env x = some (.int ik p)) (hy : ev env y = some (.int ik q)) : Val P n ds env L ⟨dst, .binOp .geq xt x y yt, ty, pos, af, gu⟩ (.bool (decide (q ≤ p))) := vl_cmp hx hy (fun w => by simp [binOp, Op.intCmp]) (fun w => by simp [eqGuard])
theorem gl_geq (hx : ev env x = some (.int ik p)) (hy : ev env y = some (.int ik q)) {d : Nat} (hn : Nat.ble (d + 1) n = true) (k : GL P Q n ds ops rest ((d, (.bool (decide (q ≤ p)))) :: env) L) : GL P Q n ds ops (⟨some d, .binOp .geq xt x y yt, ty, pos, af, none⟩ :: rest) env L := gl_v (vl_geq hx hy) rfl rfl hn k
theorem vl_eql (hx : ev env x = some (.int ik p)) (hy : ev env y = some (.int ik q)) : Val P n ds env L ⟨dst, .binOp .eql xt x y yt, ty, pos, af, gu⟩ (.bool (decide (p = q))) := vl_cmp hx hy (fun w => by simp [binOp, Op.intCmp]; rfl) (fun w => by simp [eqGuard])
theorem gl_eql (hx : ev env x = some (.int ik p)) (hy : ev env y = some (.int ik q)) {d : Nat} (hn : Nat.ble (d + 1) n = true) (k : GL P Q n ds ops rest ((d, (.bool (decide (p = q)))) :: env) L) : GL P Q n ds ops (⟨some d, .binOp .eql xt x y yt, ty, pos, af, none⟩ :: rest) env L := gl_v (vl_eql hx hy) rfl rfl hn k
theorem vl_neq (hx : ev env x = some (.int ik p)) (hy : ev env y = some (.int ik q)) : Val P n ds env L ⟨dst, .binOp .neq xt x y yt, ty, pos, af, gu⟩ (.bool (decide (p ≠ q))) := vl_cmp hx hy (fun w => by simp [binOp, Op.intCmp, bne]; rfl) (fun w => by simp [eqGuard])
theorem gl_neq (hx : ev env x = some (.int ik p)) (hy : ev env y = some (.int ik q)) {d : Nat} (hn : Nat.ble (d + 1) n = true) (k : GL P Q n ds ops rest ((d, (.bool (decide (p ≠ q)))) :: env) L) : GL P Q n ds ops (⟨some d, .binOp .neq xt x y yt, ty, pos, af, none⟩ :: rest) env L := gl_v (vl_neq hx hy) rfl rfl hn k

theorem vl_arith {op : BinOp} {v : Value} (hx : ev env x = some (.int ik p)) (hy : ev env y = some (.int ik q)) (hb : ∀ w, (binOp op xt (.int ik p) (.int ik q)).run P w = .ok v w) (hg : ∀ w, (eqGuard op xt x y (.int ik p) (.int ik q)).run P w = .ok () w) : Val P n ds env L ⟨dst, .binOp op xt x y yt, ty, pos, af, gu⟩ v := fun a w ho _ => by simp [execOp, ho.eval hx, ho.eval hy, hb, hg]
theorem gl_arith {op : BinOp} {v : Value} (hx : ev env x = some (.int ik p)) (hy : ev env y = some (.int ik q)) (hb : ∀ w, (binOp op xt (.int ik p) (.int ik q)).run P w = .ok v w) (hg : ∀ w, (eqGuard op xt x y (.int ik p) (.int ik q)).run P w = .ok () w) {d : Nat} (hn : Nat.ble (d + 1) n = true) (k : GL P Q n ds ops rest ((d, v) :: env) L) : GL P Q n ds ops (⟨some d, .binOp op xt x y yt, ty, pos, af, none⟩ :: rest) env L := gl_v (vl_arith hx hy hb hg) rfl rfl hn k
theorem vl_add {r : Int} (hx : ev env x = some (.int ik p)) (hy : ev env y = some (.int ik q)) (hr : ik.wrap (p + q) = r) : Val P n ds env L ⟨dst, .binOp .add xt x y yt, ty, pos, af, gu⟩ (.int ik r) := vl_arith hx hy (fun w => by simp [binOp, Op.intArith, hr]) (fun w => by simp [eqGuard])
theorem gl_add {r : Int} (hx : ev env x = some (.int ik p)) (hy : ev env y = some (.int ik q)) (hr : ik.wrap (p + q) = r) {d : Nat} (hn : Nat.ble (d + 1) n = true) (k : GL P Q n ds ops rest ((d, (.int ik r)) :: env) L) : GL P Q n ds ops (⟨some d, .binOp .add xt x y yt, ty, pos, af, none⟩ :: rest) env L := gl_v (vl_add hx hy hr) rfl rfl hn k
theorem vl_sub {r : Int} (hx : ev env x = some (.int ik p)) (hy : ev env y = some (.int ik q)) (hr : ik.wrap (p - q) = r) : Val P n ds env L ⟨dst, .binOp .sub xt x y yt, ty, pos, af, gu⟩ (.int ik r) := vl_arith hx hy (fun w => by simp [binOp, Op.intArith, hr]) (fun w => by simp [eqGuard])
theorem gl_sub {r : Int} (hx : ev env x = some (.int ik p)) (hy : ev env y = some (.int ik q)) (hr : ik.wrap (p - q) = r) {d : Nat} (hn : Nat.ble (d + 1) n = true) (k : GL P Q n ds ops rest ((d, (.int ik r)) :: env) L) : GL P Q n ds ops (⟨some d, .binOp .sub xt x y yt, ty, pos, af, none⟩ :: rest) env L := gl_v (vl_sub hx hy hr) rfl rfl hn k
theorem vl_mul {r : Int} (hx : ev env x = some (.int ik p)) (hy : ev env y = some (.int ik q)) (hr : ik.wrap (p * q) = r) : Val P n ds env L ⟨dst, .binOp .mul xt x y yt, ty, pos, af, gu⟩ (.int ik r) := vl_arith hx hy (fun w => by simp [binOp, Op.intArith, hr]) (fun w => by simp [eqGuard])
theorem gl_mul {r : Int} (hx : ev env x = some (.int ik p)) (hy : ev env y = some (.int ik q)) (hr : ik.wrap (p * q) = r) {d : Nat} (hn : Nat.ble (d + 1) n = true) (k : GL P Q n ds ops rest ((d, (.int ik r)) :: env) L) : GL P Q n ds ops (⟨some d, .binOp .mul xt x y yt, ty, pos, af, none⟩ :: rest) env L := gl_v (vl_mul hx hy hr) rfl rfl hn k
theorem vl_quo {r : Int} (hx : ev env x = some (.int ik p)) (hy : ev env y = some (.int ik q)) (h0 : q ≠ 0) (hr : ik.wrap (p.tdiv q) = r) : Val P n ds env L ⟨dst, .binOp .quo xt x y yt, ty, pos, af, gu⟩ (.int ik r) := vl_arith hx hy (fun w => by simp [binOp, Op.intDiv, h0, hr]) (fun w => by simp [eqGuard])
theorem gl_quo {r : Int} (hx : ev env x = some (.int ik p)) (hy : ev env y = some (.int ik q)) (h0 : q ≠ 0) (hr : ik.wrap (p.tdiv q) = r) {d : Nat} (hn : Nat.ble (d + 1) n = true) (k : GL P Q n ds ops rest ((d, (.int ik r)) :: env) L) : GL P Q n ds ops (⟨some d, .binOp .quo xt x y yt, ty, pos, af, none⟩ :: rest) env L := gl_v (vl_quo hx hy h0 hr) rfl rfl hn k
theorem vl_rem {r : Int} (hx : ev env x = some (.int ik p)) (hy : ev env y = some (.int ik q)) (h0 : q ≠ 0) (hr : p.tmod q = r) : Val P n ds env L ⟨dst, .binOp .rem xt x y yt, ty, pos, af, gu⟩ (.int ik r) := vl_arith hx hy (fun w => by simp [binOp, Op.intDiv, h0, hr]) (fun w => by simp [eqGuard])
theorem gl_rem {r : Int} (hx : ev env x = some (.int ik p)) (hy : ev env y = some (.int ik q)) (h0 : q ≠ 0) (hr : p.tmod q = r) {d : Nat} (hn : Nat.ble (d + 1) n = true) (k : GL P Q n ds ops rest ((d, (.int ik r)) :: env) L) : GL P Q n ds ops (⟨some d, .binOp .rem xt x y yt, ty, pos, af, none⟩ :: rest) env L := gl_v (vl_rem hx hy h0 hr) rfl rfl hn k
/-- the bit operations -/
def bitV (op : BinOp) (ik : IntKind) (p q : Int) : Int :=
  match op with
  | .and => ik.wrap (BitVec.ofInt ik.bits p &&& BitVec.ofInt ik.bits q).toNat
  | .or => ik.wrap (BitVec.ofInt ik.bits p ||| BitVec.ofInt ik.bits q).toNat
  | _ => ik.wrap (BitVec.ofInt ik.bits p ^^^ BitVec.ofInt ik.bits q).toNat
theorem vl_and {r : Int} (hx : ev env x = some (.int ik p)) (hy : ev env y = some (.int ik q)) (hr : bitV .and ik p q = r) : Val P n ds env L ⟨dst, .binOp .and xt x y yt, ty, pos, af, gu⟩ (.int ik r) := vl_arith hx hy (fun w => by subst hr; simp [binOp, Op.intBits, bitV]) (fun w => by simp [eqGuard])
theorem gl_and {r : Int} (hx : ev env x = some (.int ik p)) (hy : ev env y = some (.int ik q)) (hr : bitV .and ik p q = r) {d : Nat} (hn : Nat.ble (d + 1) n = true) (k : GL P Q n ds ops rest ((d, (.int ik r)) :: env) L) : GL P Q n ds ops (⟨some d, .binOp .and xt x y yt, ty, pos, af, none⟩ :: rest) env L := gl_v (vl_and hx hy hr) rfl rfl hn k
theorem vl_or {r : Int} (hx : ev env x = some (.int ik p)) (hy : ev env y = some (.int ik q)) (hr : bitV .or ik p q = r) : Val P n ds env L ⟨dst, .binOp .or xt x y yt, ty, pos, af, gu⟩ (.int ik r) := vl_arith hx hy (fun w => by subst hr; simp [binOp, Op.intBits, bitV]) (fun w => by simp [eqGuard])
theorem gl_or {r : Int} (hx : ev env x = some (.int ik p)) (hy : ev env y = some (.int ik q)) (hr : bitV .or ik p q = r) {d : Nat} (hn : Nat.ble (d + 1) n = true) (k : GL P Q n ds ops rest ((d, (.int ik r)) :: env) L) : GL P Q n ds ops (⟨some d, .binOp .or xt x y yt, ty, pos, af, none⟩ :: rest) env L := gl_v (vl_or hx hy hr) rfl rfl hn k
theorem vl_xor {r : Int} (hx : ev env x = some (.int ik p)) (hy : ev env y = some (.int ik q)) (hr : bitV .xor ik p q = r) : Val P n ds env L ⟨dst, .binOp .xor xt x y yt, ty, pos, af, gu⟩ (.int ik r) := vl_arith hx hy (fun w => by subst hr; simp [binOp, Op.intBits, bitV]) (fun w => by simp [eqGuard])
theorem gl_xor {r : Int} (hx : ev env x = some (.int ik p)) (hy : ev env y = some (.int ik q)) (hr : bitV .xor ik p q = r) {d : Nat} (hn : Nat.ble (d + 1) n = true) (k : GL P Q n ds ops rest ((d, (.int ik r)) :: env) L) : GL P Q n ds ops (⟨some d, .binOp .xor xt x y yt, ty, pos, af, none⟩ :: rest) env L := gl_v (vl_xor hx hy hr) rfl rfl hn k
theorem vl_shl {jk : IntKind} {r : Int} (hx : ev env x = some (.int ik p)) (hy : ev env y = some (.int jk q)) (h0 : 0 ≤ q) (hr : ik.wrap (p * 2 ^ (min q.toNat ik.bits)) = r) : Val P n ds env L ⟨dst, .binOp .shl xt x y yt, ty, pos, af, gu⟩ (.int ik r) := fun a w ho _ => by simp [execOp, ho.eval hx, ho.eval hy, eqGuard, binOp, Op.shift, Int.not_lt.2 h0, hr]
theorem gl_shl {jk : IntKind} {r : Int} (hx : ev env x = some (.int ik p)) (hy : ev env y = some (.int jk q)) (h0 : 0 ≤ q) (hr : ik.wrap (p * 2 ^ (min q.toNat ik.bits)) = r) {d : Nat} (hn : Nat.ble (d + 1) n = true) (k : GL P Q n ds ops rest ((d, (.int ik r)) :: env) L) : GL P Q n ds ops (⟨some d, .binOp .shl xt x y yt, ty, pos, af, none⟩ :: rest) env L := gl_v (vl_shl hx hy h0 hr) rfl rfl hn k
theorem vl_shr {jk : IntKind} {r : Int} (hx : ev env x = some (.int ik p)) (hy : ev env y = some (.int jk q)) (h0 : 0 ≤ q) (hr : p.fdiv (2 ^ (min q.toNat ik.bits)) = r) : Val P n ds env L ⟨dst, .binOp .shr xt x y yt, ty, pos, af, gu⟩ (.int ik r) := fun a w ho _ => by simp [execOp, ho.eval hx, ho.eval hy, eqGuard, binOp, Op.shift, Int.not_lt.2 h0, hr]
theorem gl_shr {jk : IntKind} {r : Int} (hx : ev env x = some (.int ik p)) (hy : ev env y = some (.int jk q)) (h0 : 0 ≤ q) (hr : p.fdiv (2 ^ (min q.toNat ik.bits)) = r) {d : Nat} (hn : Nat.ble (d + 1) n = true) (k : GL P Q n ds ops rest ((d, (.int ik r)) :: env) L) : GL P Q n ds ops (⟨some d, .binOp .shr xt x y yt, ty, pos, af, none⟩ :: rest) env L := gl_v (vl_shr hx hy h0 hr) rfl rfl hn k
end ints

theorem vl_not {xt : TypeId} {x : Operand} {b : Bool} (hx : ev env x = some (.bool b)) : Val P n ds env L ⟨dst, .unOp .not xt x, ty, pos, af, gu⟩ (.bool (!b)) := fun a w ho _ => by simp [execOp, ho.eval hx, Op.unary]
theorem gl_not {xt : TypeId} {x : Operand} {b : Bool} (hx : ev env x = some (.bool b)) {d : Nat} (hn : Nat.ble (d + 1) n = true) (k : GL P Q n ds ops rest ((d, (.bool (!b))) :: env) L) : GL P Q n ds ops (⟨some d, .unOp .not xt x, ty, pos, af, none⟩ :: rest) env L := gl_v (vl_not hx) rfl rfl hn k
theorem vl_notDec {xt : TypeId} {x : Operand} {p : Prop} {_ : Decidable p} (hx : ev env x = some (.bool (decide p))) : Val P n ds env L ⟨dst, .unOp .not xt x, ty, pos, af, gu⟩ (.bool (decide (¬ p))) := fun a w ho _ => by simp [execOp, ho.eval hx, Op.unary]
theorem gl_notDec {xt : TypeId} {x : Operand} {p : Prop} {_ : Decidable p} (hx : ev env x = some (.bool (decide p))) {d : Nat} (hn : Nat.ble (d + 1) n = true) (k : GL P Q n ds ops rest ((d, (.bool (decide (¬ p)))) :: env) L) : GL P Q n ds ops (⟨some d, .unOp .not xt x, ty, pos, af, none⟩ :: rest) env L := gl_v (vl_notDec hx) rfl rfl hn k

theorem vl_ptrEq {xt yt : TypeId} {x y : Operand} {p : Option Addr} (T : TyTab P) {i : TyI} {e : Nat} (ht : T.tab xt = some i) (hk : i.k = .ptr e) (hx : ev env x = some (.pointer p)) (hy : ev env y = some (.pointer none)) : Val P n ds env L ⟨dst, .binOp .eql xt x y yt, ty, pos, af, gu⟩ (.bool p.isNone) := fun a w ho _ => by
    obtain ⟨dd, h1, h2⟩ := (T.ok ht).desc
    rw [hk] at h2
    subst h2
    have h' : P.underlying xt = some (.pointer (P.pointee xt)) := by simp [Program.pointee, h1]
    simp only [execOp, ho.eval hx, ho.eval hy]
    simp [eqGuard, run_eql_pointer_nil w xt p h']
theorem gl_ptrEq {xt yt : TypeId} {x y : Operand} {p : Option Addr} (T : TyTab P) {i : TyI} {e : Nat} (ht : T.tab xt = some i) (hk : i.k = .ptr e) (hx : ev env x = some (.pointer p)) (hy : ev env y = some (.pointer none)) {d : Nat} (hn : Nat.ble (d + 1) n = true) (k : GL P Q n ds ops rest ((d, (.bool p.isNone)) :: env) L) : GL P Q n ds ops (⟨some d, .binOp .eql xt x y yt, ty, pos, af, none⟩ :: rest) env L := gl_v (vl_ptrEq T ht hk hx hy) rfl rfl hn k
theorem vl_ptrNe {xt yt : TypeId} {x y : Operand} {p : Option Addr} (T : TyTab P) {i : TyI} {e : Nat} (ht : T.tab xt = some i) (hk : i.k = .ptr e) (hx : ev env x = some (.pointer p)) (hy : ev env y = some (.pointer none)) : Val P n ds env L ⟨dst, .binOp .neq xt x y yt, ty, pos, af, gu⟩ (.bool p.isSome) := fun a w ho _ => by
    obtain ⟨dd, h1, h2⟩ := (T.ok ht).desc
    rw [hk] at h2
    subst h2
    have h' : P.underlying xt = some (.pointer (P.pointee xt)) := by simp [Program.pointee, h1]
    simp only [execOp, ho.eval hx, ho.eval hy]
    cases p <;> simp [eqGuard, run_neq_pointer_nil w xt _ h']
theorem gl_ptrNe {xt yt : TypeId} {x y : Operand} {p : Option Addr} (T : TyTab P) {i : TyI} {e : Nat} (ht : T.tab xt = some i) (hk : i.k = .ptr e) (hx : ev env x = some (.pointer p)) (hy : ev env y = some (.pointer none)) {d : Nat} (hn : Nat.ble (d + 1) n = true) (k : GL P Q n ds ops rest ((d, (.bool p.isSome)) :: env) L) : GL P Q n ds ops (⟨some d, .binOp .neq xt x y yt, ty, pos, af, none⟩ :: rest) env L := gl_v (vl_ptrNe T ht hk hx hy) rfl rfl hn k
theorem vl_slEq {xt yt : TypeId} {x y : Operand} {p : Option Addr} {m c m' c' : Nat} (T : TyTab P) {i : TyI} {e : Nat} (ht : T.tab xt = some i) (hk : i.k = .slice e) (hx : ev env x = some (.slice p m c)) (hy : ev env y = some (.slice none m' c')) : Val P n ds env L ⟨dst, .binOp .eql xt x y yt, ty, pos, af, gu⟩ (.bool p.isNone) := fun a w ho _ => by
    obtain ⟨dd, h1, h2⟩ := (T.ok ht).desc
    rw [hk] at h2
    subst h2
    simp only [execOp, ho.eval hx, ho.eval hy]
    simp [eqGuard, Lib.run_eql_slice_nil w xt e p m c m' c' h1]
theorem gl_slEq {xt yt : TypeId} {x y : Operand} {p : Option Addr} {m c m' c' : Nat} (T : TyTab P) {i : TyI} {e : Nat} (ht : T.tab xt = some i) (hk : i.k = .slice e) (hx : ev env x = some (.slice p m c)) (hy : ev env y = some (.slice none m' c')) {d : Nat} (hn : Nat.ble (d + 1) n = true) (k : GL P Q n ds ops rest ((d, (.bool p.isNone)) :: env) L) : GL P Q n ds ops (⟨some d, .binOp .eql xt x y yt, ty, pos, af, none⟩ :: rest) env L := gl_v (vl_slEq T ht hk hx hy) rfl rfl hn k
theorem vl_conv {s t : TypeId} {x : Operand} {ik jk : IntKind} {p r : Int} (T : TyTab P) {i j : TyI} (hs : T.tab s = some j) (ht : T.tab t = some i) (hk : i.k = .int ik) (hx : ev env x = some (.int jk p)) (hr : ik.wrap p = r) : Val P n ds env L ⟨dst, .convert s t x, ty, pos, af, gu⟩ (.int ik r) := fun a w ho _ => by
    obtain ⟨dd, h1, h2⟩ := (T.ok ht).desc
    obtain ⟨d2, h3, _⟩ := (T.ok hs).desc
    rw [hk] at h2
    subst h2
    simp [execOp, ho.eval hx, convert, run_underlying h1, run_underlying h3, Conv.intToInt, hr]
theorem gl_conv {s t : TypeId} {x : Operand} {ik jk : IntKind} {p r : Int} (T : TyTab P) {i j : TyI} (hs : T.tab s = some j) (ht : T.tab t = some i) (hk : i.k = .int ik) (hx : ev env x = some (.int jk p)) (hr : ik.wrap p = r) {d : Nat} (hn : Nat.ble (d + 1) n = true) (k : GL P Q n ds ops rest ((d, (.int ik r)) :: env) L) : GL P Q n ds ops (⟨some d, .convert s t x, ty, pos, af, none⟩ :: rest) env L := gl_v (vl_conv T hs ht hk hx hr) rfl rfl hn k
theorem vl_strEq {xt yt : TypeId} {x y : Operand} {p q : ByteArray} (hx : ev env x = some (.string p)) (hy : ev env y = some (.string q)) : Val P n ds env L ⟨dst, .binOp .eql xt x y yt, ty, pos, af, gu⟩ (.bool (p.toList == q.toList)) := fun a w ho _ => by simp [execOp, ho.eval hx, ho.eval hy, eqGuard, binOp, Op.stringOp]
theorem gl_strEq {xt yt : TypeId} {x y : Operand} {p q : ByteArray} (hx : ev env x = some (.string p)) (hy : ev env y = some (.string q)) {d : Nat} (hn : Nat.ble (d + 1) n = true) (k : GL P Q n ds ops rest ((d, (.bool (p.toList == q.toList))) :: env) L) : GL P Q n ds ops (⟨some d, .binOp .eql xt x y yt, ty, pos, af, none⟩ :: rest) env L := gl_v (vl_strEq hx hy) rfl rfl hn k
theorem vl_strNe {xt yt : TypeId} {x y : Operand} {p q : ByteArray} (hx : ev env x = some (.string p)) (hy : ev env y = some (.string q)) : Val P n ds env L ⟨dst, .binOp .neq xt x y yt, ty, pos, af, gu⟩ (.bool (!(p.toList == q.toList))) := fun a w ho _ => by simp [execOp, ho.eval hx, ho.eval hy, eqGuard, binOp, Op.stringOp]
theorem gl_strNe {xt yt : TypeId} {x y : Operand} {p q : ByteArray} (hx : ev env x = some (.string p)) (hy : ev env y = some (.string q)) {d : Nat} (hn : Nat.ble (d + 1) n = true) (k : GL P Q n ds ops rest ((d, (.bool (!(p.toList == q.toList)))) :: env) L) : GL P Q n ds ops (⟨some d, .binOp .neq xt x y yt, ty, pos, af, none⟩ :: rest) env L := gl_v (vl_strNe hx hy) rfl rfl hn k
end
end Go.Sx
