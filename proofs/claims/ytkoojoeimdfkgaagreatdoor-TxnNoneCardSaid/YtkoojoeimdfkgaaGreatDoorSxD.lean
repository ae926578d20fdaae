/-
  The calculus' rules over slices: what one reads, what one has made.
-/
import Derived.Test.YtkoojoeimdfkgaaGreatDoorSxC
import Derived.Maps.AppendAt
import Derived.Lib.AppendStr
import Derived.Lib.ConvBytes
namespace Go.Sx
open Go Go.RowKit

/-- the cells behind a slice's address, read by anybody -/
def Rd (A : Option Addr) (vs : List Value) (w : World) : Prop := ∀ j u, vs[j]? = some u → ∃ ad, A = some ad ∧ w.cell? (ad.add j) = some u

/-- a slice that one has made: n elements of 'size' cells -/
def own (A : Option Addr) (n c e size : Nat) (xs : List Value) : Chunk := fun S w => w.ownsRow 0 e size (.slice A n c) n xs ∧ ∀ ad, A = some ad → S ad.block

theorem own_block {A : Option Addr} {n c e size : Nat} {xs : List Value} {w : World} (h : w.ownsRow 0 e size (.slice A n c) n xs) :
    (A = none ∧ n = 0 ∧ c = 0 ∧ xs = []) ∨ ∃ g cur, A = some ⟨g, 0, none⟩ ∧ w.heap[g]? = some (.cells cur e (0, 0)) ∧ n ≤ c ∧ c ≤ maxLen ∧ cur.size = c * size ∧ cur.toList.take (n * size) = xs ∧ xs.length = n * size := by
  rcases h.2 with ⟨h2, h3⟩ | ⟨g, cap, cur, h2, _, h4, h5, h6, h7, h8⟩
  · injection h2 with h2 h4 h5
    refine Or.inl ⟨h2, h4, h5, ?_⟩
    have := h.1
    rw [h3] at this
    exact List.eq_nil_of_length_eq_zero (by simpa using this)
  · injection h2 with h2 _ h5'
    subst h5'
    exact Or.inr ⟨g, cur, h2, h4, h5, h6, h7, h8, h.1⟩

theorem own_local {A : Option Addr} {n c e size : Nat} {xs : List Value} {S : Nat → Prop} {w w' : World} (h : own A n c e size xs S w) (hw : ∀ k, S k → w'.heap[k]? = w.heap[k]?) : own A n c e size xs S w' := by
  refine ⟨⟨h.1.1, ?_⟩, h.2⟩
  rcases h.1.2 with h2 | ⟨g, cap, cur, h2, h3, h4, h5⟩
  · exact Or.inl h2
  · refine Or.inr ⟨g, cap, cur, h2, h3, ?_, h5⟩
    injection h2 with h2
    rw [hw g (h.2 _ h2)]
    exact h4

theorem pick_nil {e size : Nat} {L : List Chunk} : Pick (own none 0 0 e size []) L L := fun _ _ _ h =>
  ⟨fun _ => False, fun _ hk => hk.elim, fun _ _ => ⟨World.ownsRow_nil _ _ _ _, fun _ h => by cases h⟩, h.mono fun _ hk => ⟨hk, id⟩⟩

theorem rd_of_own {A : Option Addr} {n c e size : Nat} {xs : List Value} {w : World} (h : w.ownsRow 0 e size (.slice A n c) n xs) : Rd A xs w := by
  intro j u hu
  rcases own_block h with ⟨_, _, _, rfl⟩ | ⟨g, cur, rfl, h2, _, _, h5, h6, _⟩
  · simp at hu
  · refine ⟨_, rfl, ?_⟩
    exact World.ownsRow.cells h (g := g) rfl j u hu

/-- what one has made is given up: read by anybody -/
theorem Sat.sealUp {w : World} {A : Option Addr} {n c e size : Nat} {xs : List Value} {L : List Chunk} (h : Sat w (own A n c e size xs :: L)) : Sat w (Sx.ro (Rd A xs) :: L) :=
  h.freeze fun _ _ hc => rd_of_own hc.1

theorem Sat.grow {w w' : World} {A A' : Option Addr} {n c n' c' e size : Nat} {xs ys : List Value} {L : List Chunk} (h : Sat w (own A n c e size xs :: L)) (ho : w'.ownsRow 0 e size (.slice A' n' c') n' ys) (hg : w.grownBy w' (Value.slice A n c).ownBlock)
    (hl : (Value.slice A' n' c').ownBlock = (Value.slice A n c).ownBlock ∨ (Value.slice A' n' c').ownBlock = some w.heap.size) : Sat w' (own A' n' c' e size ys :: L) := by
  refine h.upd fun S hS _ => ⟨fun k => (Value.slice A' n' c').ownBlock = some k, ⟨hg.os, hg.tape, hg.output, hg.size, fun k hk hx => hg.block k hk (fun e => hx ?_)⟩, fun k hk => ⟨?_, ?_⟩, fun w'' hw => ?_⟩
  · cases A with
    | none => simp [Value.ownBlock] at e
    | some ad => simp [Value.ownBlock] at e; subst e; exact hS.2 ad rfl
  · rcases hl with hl | hl
    · left
      rw [hl] at hk
      cases A with
      | none => simp [Value.ownBlock] at hk
      | some ad => simp [Value.ownBlock] at hk; subst hk; exact hS.2 ad rfl
    · right
      rw [hl] at hk
      injection hk with hk
      omega
  · exact (World.ownsRow.lt ho k hk).2
  · have h0 : own A' n' c' e size ys (fun k => (Value.slice A' n' c').ownBlock = some k) w' := ⟨ho, fun ad had => by subst had; rfl⟩
    exact own_local h0 fun k hk => hw.block k (World.ownsRow.lt ho k hk).2 (fun h => h hk)

section
variable {P : Program} {w : World}
theorem run_append_str_at {t u ty e : Nat} {i : TypeInfo} (ht : P.underlying t = some (.slice e)) (hu : P.underlying u = some .string) (hi : P.info? e = some i) (hz : i.zero = some (.int .u8 0)) (hsize : i.size = 1) (hby : i.bytes = 1)
    {A : Option Addr} {n c : Nat} {xs : List Value} (hown : w.ownsRow 0 e 1 (.slice A n c) n xs) (s : ByteArray) (h63 : n + s.size ≤ 140737488355328) :
    ∃ v' w', (Builtin.append_ #[t, u] ty #[.slice A n c, .string s]).run P w = .ok v' w' ∧ w'.ownsRow 0 e 1 v' (n + s.size) (xs ++ Lib.strCells s) ∧ w.grownBy w' (Value.slice A n c).ownBlock ∧
      (v'.ownBlock = (Value.slice A n c).ownBlock ∨ v'.ownBlock = some w.heap.size) := by
  have hmx : n + s.size ≤ maxLen := by unfold maxLen; omega
  rcases own_block hown with ⟨rfl, rfl, rfl, rfl⟩ | ⟨g, cur, rfl, h2, h3, h4, h5, h6, h7⟩
  · obtain ⟨v', w', h1, h2, h3, _⟩ := Lib.run_append_own_string (P := P) (w := w) w.heap.size t u ty e i ht hu hi hz hsize hby (.slice none 0 0) 0 [] (World.ownsRow_nil _ _ _ _) s hmx h63 (Nat.le_refl _)
    refine ⟨v', w', h1, ⟨h2.1, h2.2.imp id fun ⟨g, cap, cur, a, _, b⟩ => ⟨g, cap, cur, a, Nat.zero_le _, b⟩⟩, h3, ?_⟩
    rcases h2.2 with ⟨rfl, _⟩ | ⟨g, cap, cur, rfl, hge, hg, _⟩
    · exact Or.inl rfl
    · right
      have hn : (Builtin.append_ #[t, u] ty #[.slice none 0 0, .string s]).run P w = .ok (.slice (some ⟨g, 0, none⟩) (0 + s.size) cap) w' := h1
      by_cases hm : s.size = 0
      · exfalso
        have hf := Lib.run_firstCells_string (P := P) (w := w) 1 s
        rw [hm] at hf
        simp [Builtin.append_, run_underlying ht, run_underlying hu, sizeOf, typeInfo, hi, hsize, Builtin.lenOf, hm, hf] at hn
      · have hr := run_append_nil_string (P := P) w t u ty e i (.int .u8 0) ht hu hi hz s (by omega) (by unfold maxLen at hmx; omega) (by rw [hby]; omega)
        rw [hr] at hn
        injection hn with hn _
        injection hn with hn
        rw [← hn]
        rfl
  · obtain ⟨v', w', h1', h2', h3', _⟩ := Lib.run_append_own_string (P := P) (w := w) 0 t u ty e i ht hu hi hz hsize hby _ n xs hown s hmx h63 (Nat.zero_le _)
    refine ⟨v', w', h1', h2', h3', ?_⟩
    have hxl : xs.length = n := by simpa using hown.1
    by_cases hroom : n + s.size ≤ c
    · have hr := Lib.run_append_room_string (P := P) w t u ty e i ht hu hi hsize g n c cur h2 s hroom (by omega)
      rw [hr] at h1'
      injection h1' with h1' _
      subst h1'
      exact Or.inl rfl
    · have holds : ∀ j u, xs[j]? = some u → w.cell? ((⟨g, 0, none⟩ : Addr).add j) = some u := World.ownsRow.cells hown (g := g) rfl
      have hr := Lib.run_append_grow_string (P := P) w t u ty e i (.int .u8 0) ht hu hi hz ⟨g, 0, none⟩ n c xs (by rw [hsize]; simpa using hxl) holds s (by omega) (by unfold maxLen at hmx; omega) (by rw [hby]; exact growslice_fits (by omega) (by omega))
      rw [hr] at h1'
      injection h1' with h1' _
      subst h1'
      exact Or.inr rfl
end

section
variable {P : Program} {Q : Exit → Act → World → Prop} {n : Nat} {ds : List Deferred} {env : Env} {L : List Chunk} {ops : Array Oper} {rest : List Oper}
variable {dst : Option Tmp} {ty : TypeId} {pos : String} {af : Array Edge} {gu : Option (Nat × Bool)}

theorem slice_val {w : World} {e size m : Nat} {v : Value} {xs : List Value} (h : w.ownsRow 0 e size v m xs) : ∃ A c, v = .slice A m c := by
  rcases h.2 with ⟨rfl, rfl⟩ | ⟨g, cap, cur, rfl, _⟩
  · exact ⟨_, _, rfl⟩
  · exact ⟨_, _, rfl⟩

theorem zero_val {t : Nat} {i : TyI} (h : TyOk P t i) (h0 : i.zero ≠ []) : ∃ f z, P.info? t = some f ∧ f.size = i.size ∧ f.bytes = i.bytes ∧ f.zero = some z ∧ z.cells = i.zero.toArray ∧ (i.k.isAgg = false → i.zero = [z]) := by
  obtain ⟨f, h1, h2, h3, h4⟩ := h.info
  rcases h4 with ⟨h5, h4⟩ | ⟨h5, z, h4, h6, h7⟩ | h4
  · exact ⟨f, _, h1, h2, h3, h4, rfl, fun h => by rw [h5] at h; cases h⟩
  · exact ⟨f, z, h1, h2, h3, h6, by (rw [h4]; cases z <;> first | rfl | (cases h7)), fun _ => h4⟩
  · exact absurd h4 h0

/-- append(s, ys...): s one's own, ys a slice that is read -/
theorem ac_append {x y : Operand} {t e m c2 k' c size : Nat} {A B : Option Addr} {xs ys : List Value} {L' : List Chunk} (T : TyTab P) {i j : TyI} (ht : T.tab t = some i) (hk : i.k = .slice e) (hj : T.tab e = some j) (hsz : j.size = size) (h0 : Nat.beq j.zero.length size = true) (h1 : Nat.beq size 0 = false)
    (hx : ev env x = some (.slice A k' c)) (hy : ev env y = some (.slice B m c2)) (hp : Pick (own A k' c e size xs) L L') (hr : ∀ w, Sat w L → Rd B ys w) (hlen : ys.length = m * size) (hone : ∀ u ∈ ys, u.oneCell' = true) (hb : (k' + m) * j.bytes ≤ 140737488355328) (hb' : k' + m ≤ 140737488355328) {q : Nat} (hq : k' + m = q) : Acts P n ds env L ⟨dst, .call { callee := .builtin .append, args := #[x, y], argTypes := #[t, t] }, ty, pos, af, gu⟩ (fun v L'' => ∃ A' c', v = .slice A' q c' ∧ L'' = own A' q c' e size (xs ++ ys) :: L') := fun a w ho hs => by
    subst hq
    obtain ⟨dd, e1, e2⟩ := (T.ok ht).desc
    rw [hk] at e2
    subst e2
    have hsz' : size ≠ 0 := Nat.ne_of_beq_eq_false h1
    obtain ⟨f, z, f1, f2, f3, f4, f5, _⟩ := zero_val (T.ok hj) (by intro h; rw [h] at h0; exact hsz' (Nat.eq_of_beq_eq_true h0).symm)
    have hs' := hs.pick hp
    obtain ⟨S, _, hown⟩ := hs'.head
    have hrd := hr w hs
    have hmx : k' + m ≤ maxLen := by unfold maxLen; omega
    simp only [execOp, resolve, invoke, builtin, Sem.run_bind, Sem.run_pure, Result.andThen_ok, List.map_toArray, List.map_cons, List.map_nil, ho.eval hx, ho.eval hy]
    cases B with
    | some ad =>
      obtain ⟨v', w', r1, r2, r3, _, r5⟩ := run_append_own_at (P := P) (w := w) 0 t ty e f z size j.bytes e1 f1 f4 (by rw [f2, hsz]) f3 (by rw [f5]; simpa using Nat.eq_of_beq_eq_true h0) (Nat.pos_of_ne_zero hsz') _ k' xs hown.1 ad m c2 ys hlen
        (fun q u hq => by obtain ⟨ad', h, h'⟩ := hrd q u hq; injection h with h; subst h; exact h') hone hmx (by simpa using hb) (Nat.zero_le _)
      obtain ⟨A', c', rfl⟩ := slice_val r2
      exact ⟨_, w', _, by rw [r1]; rfl, hs'.grow r2 r3 r5, A', c', rfl, rfl⟩
    | none =>
      have hys : ys = [] := by
        cases ys with
        | nil => rfl
        | cons u ys => obtain ⟨_, h, _⟩ := hrd 0 u rfl; cases h
      subst hys
      have hm : m = 0 := by
        have h : m * size = 0 := by simpa using hlen.symm
        rcases Nat.mul_eq_zero.1 h with h | h
        · exact h
        · exact absurd h hsz'
      subst hm
      refine ⟨.slice A k' c, w, _, ?_, ?_, A, c, rfl, rfl⟩
      · have hle : k' ≤ c := by
          rcases own_block hown.1 with ⟨_, rfl, rfl, _⟩ | ⟨g, cur, _, _, h3, _⟩
          · exact Nat.le_refl _
          · exact h3
        cases A <;> simp [Builtin.append_, run_underlying e1, sizeOf, typeInfo, f1, Builtin.lenOf, hle, Builtin.firstCells, storeCells]
      · simpa using hs'
theorem gl_append {x y : Operand} {t e m c2 k' c size : Nat} {A B : Option Addr} {xs ys : List Value} {L' : List Chunk} (T : TyTab P) {i j : TyI} (ht : T.tab t = some i) (hk : i.k = .slice e) (hj : T.tab e = some j) (hsz : j.size = size) (h0 : Nat.beq j.zero.length size = true) (h1 : Nat.beq size 0 = false)
    (hx : ev env x = some (.slice A k' c)) (hy : ev env y = some (.slice B m c2)) (hp : Pick (own A k' c e size xs) L L') (hr : ∀ w, Sat w L → Rd B ys w) (hlen : ys.length = m * size) (hone : ∀ u ∈ ys, u.oneCell' = true) (hb : (k' + m) * j.bytes ≤ 140737488355328) (hb' : k' + m ≤ 140737488355328) {q : Nat} (hq : k' + m = q) {d : Nat} (hn : Nat.ble (d + 1) n = true) (k : ∀ v L'', (fun v L'' => ∃ A' c', v = .slice A' q c' ∧ L'' = own A' q c' e size (xs ++ ys) :: L') v L'' → GL P Q n ds ops rest ((d, v) :: env) L'') : GL P Q n ds ops (⟨some d, .call { callee := .builtin .append, args := #[x, y], argTypes := #[t, t] }, ty, pos, af, none⟩ :: rest) env L := gl_a (ac_append T ht hk hj hsz h0 h1 hx hy hp hr hlen hone hb hb' hq) rfl rfl hn k

theorem ac_appendStr {x y : Operand} {t u e k' c : Nat} {A : Option Addr} {s : ByteArray} {xs : List Value} {L' : List Chunk} (T : TyTab P) {i iu j : TyI} (ht : T.tab t = some i) (hk : i.k = .slice e) (hu : T.tab u = some iu) (hku : iu.k = .str) (hj : T.tab e = some j) (hje : j = ⟨.int .u8, 1, 1, [.int .u8 0]⟩)
    (hx : ev env x = some (.slice A k' c)) (hy : ev env y = some (.string s)) (hp : Pick (own A k' c e 1 xs) L L') (hb : k' + s.size ≤ 140737488355328) {q : Nat} (hq : k' + s.size = q) : Acts P n ds env L ⟨dst, .call { callee := .builtin .append, args := #[x, y], argTypes := #[t, u] }, ty, pos, af, gu⟩ (fun v L'' => ∃ A' c', v = .slice A' q c' ∧ L'' = own A' q c' e 1 (xs ++ Lib.strCells s) :: L') := fun a w ho hs => by
    subst hq
    obtain ⟨dd, e1, e2⟩ := (T.ok ht).desc
    obtain ⟨du, u1, u2⟩ := (T.ok hu).desc
    rw [hk] at e2
    rw [hku] at u2
    subst e2; subst u2; subst hje
    obtain ⟨f, z, f1, f2, f3, f4, _, f6⟩ := zero_val (T.ok hj) (by simp)
    have hz : z = .int .u8 0 := by have := f6 rfl; simpa using this.symm
    have hs' := hs.pick hp
    obtain ⟨S, _, hown⟩ := hs'.head
    simp only [execOp, resolve, invoke, builtin, Sem.run_bind, Sem.run_pure, Result.andThen_ok, List.map_toArray, List.map_cons, List.map_nil, ho.eval hx, ho.eval hy]
    obtain ⟨v', w', r1, r2, r3, r5⟩ := run_append_str_at (P := P) (w := w) (ty := ty) e1 u1 f1 (by rw [f4, hz]) f2 f3 hown.1 s hb
    obtain ⟨A', c', rfl⟩ := slice_val r2
    exact ⟨_, w', _, by rw [r1]; rfl, hs'.grow r2 r3 r5, A', c', rfl, rfl⟩
theorem gl_appendStr {x y : Operand} {t u e k' c : Nat} {A : Option Addr} {s : ByteArray} {xs : List Value} {L' : List Chunk} (T : TyTab P) {i iu j : TyI} (ht : T.tab t = some i) (hk : i.k = .slice e) (hu : T.tab u = some iu) (hku : iu.k = .str) (hj : T.tab e = some j) (hje : j = ⟨.int .u8, 1, 1, [.int .u8 0]⟩)
    (hx : ev env x = some (.slice A k' c)) (hy : ev env y = some (.string s)) (hp : Pick (own A k' c e 1 xs) L L') (hb : k' + s.size ≤ 140737488355328) {q : Nat} (hq : k' + s.size = q) {d : Nat} (hn : Nat.ble (d + 1) n = true) (k : ∀ v L'', (fun v L'' => ∃ A' c', v = .slice A' q c' ∧ L'' = own A' q c' e 1 (xs ++ Lib.strCells s) :: L') v L'' → GL P Q n ds ops rest ((d, v) :: env) L'') : GL P Q n ds ops (⟨some d, .call { callee := .builtin .append, args := #[x, y], argTypes := #[t, u] }, ty, pos, af, none⟩ :: rest) env L := gl_a (ac_appendStr T ht hk hu hku hj hje hx hy hp hb hq) rfl rfl hn k

/-! ### lengths; the lesser, the greater -/
theorem vl_lenSl {x : Operand} {t e m c : Nat} {A : Option Addr} (T : TyTab P) {i : TyI} (ht : T.tab t = some i) (hk : i.k = .slice e) (hx : ev env x = some (.slice A m c)) : Val P n ds env L ⟨dst, .call { callee := .builtin .len, args := #[x], argTypes := #[t] }, ty, pos, af, gu⟩ (.int .i64 (m : Int)) := fun a w ho _ => by
    obtain ⟨dd, e1, e2⟩ := (T.ok ht).desc
    rw [hk] at e2
    subst e2
    simp only [execOp, resolve, invoke, builtin, Sem.run_bind, Sem.run_pure, Result.andThen_ok, List.map_toArray, List.map_cons, List.map_nil, ho.eval hx]
    simp [Builtin.len_, run_underlying e1, goInt]
theorem gl_lenSl {x : Operand} {t e m c : Nat} {A : Option Addr} (T : TyTab P) {i : TyI} (ht : T.tab t = some i) (hk : i.k = .slice e) (hx : ev env x = some (.slice A m c)) {d : Nat} (hn : Nat.ble (d + 1) n = true) (k : GL P Q n ds ops rest ((d, (.int .i64 (m : Int))) :: env) L) : GL P Q n ds ops (⟨some d, .call { callee := .builtin .len, args := #[x], argTypes := #[t] }, ty, pos, af, none⟩ :: rest) env L := gl_v (vl_lenSl T ht hk hx) rfl rfl hn k
theorem vl_lenStr {x : Operand} {t : Nat} {s : ByteArray} (T : TyTab P) {i : TyI} (ht : T.tab t = some i) (hk : i.k = .str) (hx : ev env x = some (.string s)) : Val P n ds env L ⟨dst, .call { callee := .builtin .len, args := #[x], argTypes := #[t] }, ty, pos, af, gu⟩ (.int .i64 (s.size : Int)) := fun a w ho _ => by
    obtain ⟨dd, e1, e2⟩ := (T.ok ht).desc
    rw [hk] at e2
    subst e2
    simp only [execOp, resolve, invoke, builtin, Sem.run_bind, Sem.run_pure, Result.andThen_ok, List.map_toArray, List.map_cons, List.map_nil, ho.eval hx]
    simp [Builtin.len_, run_underlying e1, goInt]
theorem gl_lenStr {x : Operand} {t : Nat} {s : ByteArray} (T : TyTab P) {i : TyI} (ht : T.tab t = some i) (hk : i.k = .str) (hx : ev env x = some (.string s)) {d : Nat} (hn : Nat.ble (d + 1) n = true) (k : GL P Q n ds ops rest ((d, (.int .i64 (s.size : Int))) :: env) L) : GL P Q n ds ops (⟨some d, .call { callee := .builtin .len, args := #[x], argTypes := #[t] }, ty, pos, af, none⟩ :: rest) env L := gl_v (vl_lenStr T ht hk hx) rfl rfl hn k
theorem vl_max {x y : Operand} {ts : Array TypeId} {ik jk : IntKind} {p q : Int} (hx : ev env x = some (.int ik p)) (hy : ev env y = some (.int jk q)) : Val P n ds env L ⟨dst, .call { callee := .builtin .max, args := #[x, y], argTypes := ts }, ty, pos, af, gu⟩ (.int ik (max p q)) := fun a w ho _ => by
    simp only [execOp, resolve, invoke, builtin, Sem.run_bind, Sem.run_pure, Result.andThen_ok, List.map_toArray, List.map_cons, List.map_nil, ho.eval hx, ho.eval hy, run_max_int2]
    congr 3
    rw [Int.max_def]; split <;> split <;> omega
theorem gl_max {x y : Operand} {ts : Array TypeId} {ik jk : IntKind} {p q : Int} (hx : ev env x = some (.int ik p)) (hy : ev env y = some (.int jk q)) {d : Nat} (hn : Nat.ble (d + 1) n = true) (k : GL P Q n ds ops rest ((d, (.int ik (max p q))) :: env) L) : GL P Q n ds ops (⟨some d, .call { callee := .builtin .max, args := #[x, y], argTypes := ts }, ty, pos, af, none⟩ :: rest) env L := gl_v (vl_max hx hy) rfl rfl hn k
theorem vl_min {x y : Operand} {ts : Array TypeId} {ik jk : IntKind} {p q : Int} (hx : ev env x = some (.int ik p)) (hy : ev env y = some (.int jk q)) : Val P n ds env L ⟨dst, .call { callee := .builtin .min, args := #[x, y], argTypes := ts }, ty, pos, af, gu⟩ (.int ik (min p q)) := fun a w ho _ => by
    simp only [execOp, resolve, invoke, builtin, Sem.run_bind, Sem.run_pure, Result.andThen_ok, List.map_toArray, List.map_cons, List.map_nil, ho.eval hx, ho.eval hy, run_min_int2]
    congr 3
    rw [Int.min_def]; split <;> split <;> omega
theorem gl_min {x y : Operand} {ts : Array TypeId} {ik jk : IntKind} {p q : Int} (hx : ev env x = some (.int ik p)) (hy : ev env y = some (.int jk q)) {d : Nat} (hn : Nat.ble (d + 1) n = true) (k : GL P Q n ds ops rest ((d, (.int ik (min p q))) :: env) L) : GL P Q n ds ops (⟨some d, .call { callee := .builtin .min, args := #[x, y], argTypes := ts }, ty, pos, af, none⟩ :: rest) env L := gl_v (vl_min hx hy) rfl rfl hn k
end
end Go.Sx
