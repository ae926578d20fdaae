/-
  A runner of the program over known memory: values whose addresses are names, and what a name stands for.
-/
import Derived.Test.YtkoojoeimdfkgaaGreatDoorSxI
namespace Go.Ex
open Go Go.RowKit Go.Sx

/-- a tree of what is known by number -/
inductive T (α : Type) where
  | e
  | n (v : Option (Nat × α)) (l r : T α)

def T.get {α : Type} : T α → Nat → Nat → Option α
  | .e, _, _ => none
  | .n v l r, p, k => match p with
    | 0 => match v with
      | some (k', a) => match Nat.beq k' k with
        | true => some a
        | false => none
      | none => none
    | q + 1 => match Nat.beq (q % 2) 0 with
      | true => l.get (q / 2) k
      | false => r.get (q / 2) k
def T.upd {α : Type} : Nat → T α → Nat → Nat → α → Option (T α × Option α)
  | 0, _, _, _, _ => none
  | f + 1, t, p, k, a => match t with
    | .e => match p with
      | 0 => some (.n (some (k, a)) .e .e, none)
      | q + 1 => match T.upd f .e (q / 2) k a with
        | some (t', o) => match Nat.beq (q % 2) 0 with
          | true => some (.n none t' .e, o)
          | false => some (.n none .e t', o)
        | none => none
    | .n v l r => match p with
      | 0 => match v with
        | none => some (.n (some (k, a)) l r, none)
        | some (k', a') => match Nat.beq k' k with
          | true => some (.n (some (k, a)) l r, some a')
          | false => none
      | q + 1 => match Nat.beq (q % 2) 0 with
        | true => match T.upd f l (q / 2) k a with
          | some (t', o) => some (.n v t' r, o)
          | none => none
        | false => match T.upd f r (q / 2) k a with
          | some (t', o) => some (.n v l t', o)
          | none => none
def T.toL {α : Type} : T α → List (Nat × α)
  | .e => []
  | .n v l r => l.toL ++ (v.toList ++ r.toL)

theorem T.get_upd {α : Type} : ∀ (f : Nat) (t t' : T α) (p q k d : Nat) (a x : α) (o : Option α), T.upd f t p k a = some (t', o) → t'.get q d = some x → (d = k ∧ x = a) ∨ t.get q d = some x
  | 0, _, _, _, _, _, _, _, _, _, h, _ => by simp [T.upd] at h
  | f + 1, t, t', p, q, k, d, a, x, o, h, hx => by
    cases t with
    | e =>
      cases p with
      | zero =>
        simp only [T.upd, Option.some.injEq, Prod.mk.injEq] at h
        obtain ⟨rfl, _⟩ := h
        cases q with
        | zero =>
          simp only [T.get] at hx
          split at hx
          · rename_i hb
            injection hx with hx
            exact Or.inl ⟨(Nat.eq_of_beq_eq_true hb).symm, hx.symm⟩
          · cases hx
        | succ q => simp only [T.get] at hx; split at hx <;> cases hx
      | succ p =>
        simp only [T.upd] at h
        split at h
        case h_2 => cases h
        rename_i t1 o1 h1
        split at h <;> (injection h with h; injection h with h _; subst h)
        all_goals
          cases q with
          | zero => simp [T.get] at hx
          | succ q =>
            simp only [T.get] at hx
            split at hx
            all_goals first
              | (simp [T.get] at hx; done)
              | (rcases T.get_upd f _ _ _ _ _ _ _ _ _ h1 hx with h2 | h2
                 · exact Or.inl h2
                 · simp [T.get] at h2)
    | n v l r =>
      cases p with
      | zero =>
        simp only [T.upd] at h
        have key : ∀ v', t' = T.n (some (k, a)) l r → v' = v → (d = k ∧ x = a) ∨ T.get (.n v l r) q d = some x := by
          rintro _ rfl rfl
          cases q with
          | zero =>
            simp only [T.get] at hx
            split at hx
            · rename_i hb
              injection hx with hx
              exact Or.inl ⟨(Nat.eq_of_beq_eq_true hb).symm, hx.symm⟩
            · cases hx
          | succ q => exact Or.inr (by simpa [T.get] using hx)
        split at h
        · injection h with h; injection h with h _; exact key _ h.symm rfl
        · split at h
          · injection h with h; injection h with h _; exact key _ h.symm rfl
          · cases h
      | succ p =>
        simp only [T.upd] at h
        split at h
        all_goals
          split at h
          case h_2 => cases h
          rename_i hb t1 o1 h1
          injection h with h; injection h with h _; subst h
          cases q with
          | zero => exact Or.inr (by simpa [T.get] using hx)
          | succ q =>
            simp only [T.get] at hx ⊢
            cases hq : Nat.beq (q % 2) 0 <;> rw [hq] at hx <;> simp only at hx ⊢ <;> first
              | exact Or.inr hx
              | exact T.get_upd f _ _ _ _ _ _ _ _ _ h1 hx

theorem T.toL_upd {α : Type} : ∀ (f : Nat) (t t' : T α) (p k : Nat) (a : α) (o : Option α), T.upd f t p k a = some (t', o) → ∃ l1 l2, t.toL = l1 ++ ((o.map (k, ·)).toList ++ l2) ∧ t'.toL = l1 ++ ((k, a) :: l2)
  | 0, _, _, _, _, _, _, h => by simp [T.upd] at h
  | f + 1, t, t', p, k, a, o, h => by
    cases t with
    | e =>
      cases p with
      | zero =>
        simp only [T.upd, Option.some.injEq, Prod.mk.injEq] at h
        obtain ⟨rfl, rfl⟩ := h
        exact ⟨[], [], by simp [T.toL], by simp [T.toL]⟩
      | succ p =>
        simp only [T.upd] at h
        split at h
        case h_2 => cases h
        rename_i t1 o1 h1
        obtain ⟨l1, l2, e1, e2⟩ := T.toL_upd f _ _ _ _ _ _ h1
        split at h <;> (injection h with h; injection h with h ho; subst h; subst ho)
        · exact ⟨l1, l2, by simpa [T.toL] using e1, by simp [T.toL, e2]⟩
        · exact ⟨l1, l2, by simpa [T.toL] using e1, by simp [T.toL, e2]⟩
    | n v l r =>
      cases p with
      | zero =>
        simp only [T.upd] at h
        split at h
        · injection h with h; injection h with h ho; subst h; subst ho
          exact ⟨l.toL, r.toL, by simp [T.toL], by simp [T.toL]⟩
        · split at h
          · rename_i hb
            injection h with h; injection h with h ho; subst h; subst ho
            have := Nat.eq_of_beq_eq_true hb
            subst this
            exact ⟨l.toL, r.toL, by simp [T.toL], by simp [T.toL]⟩
          · cases h
      | succ p =>
        simp only [T.upd] at h
        split at h
        · split at h
          case h_2 => cases h
          rename_i t1 o1 h1
          obtain ⟨l1, l2, e1, e2⟩ := T.toL_upd f _ _ _ _ _ _ h1
          injection h with h; injection h with h ho; subst h; subst ho
          exact ⟨l1, l2 ++ (v.toList ++ r.toL), by simp [T.toL, e1], by simp [T.toL, e2]⟩
        · split at h
          case h_2 => cases h
          rename_i t1 o1 h1
          obtain ⟨l1, l2, e1, e2⟩ := T.toL_upd f _ _ _ _ _ _ h1
          injection h with h; injection h with h ho; subst h; subst ho
          exact ⟨l.toL ++ (v.toList ++ l1), l2, by simp [T.toL, e1], by simp [T.toL, e2]⟩

theorem T.get_mem {α : Type} : ∀ (t : T α) (p k : Nat) (a : α), t.get p k = some a → (k, a) ∈ t.toL
  | .e, _, _, _, h => by simp [T.get] at h
  | .n v l r, p, k, a, h => by
    cases p with
    | zero =>
      simp only [T.get] at h
      split at h
      · split at h
        · rename_i hb
          injection h with h
          subst h
          have := Nat.eq_of_beq_eq_true hb
          subst this
          simp [T.toL]
        · cases h
      · cases h
    | succ p =>
      simp only [T.get] at h
      split at h
      · simp only [T.toL, List.mem_append]; exact Or.inl (T.get_mem l _ _ _ h)
      · simp only [T.toL, List.mem_append]; exact Or.inr (Or.inr (T.get_mem r _ _ _ h))

/-- a value; numbers in it are names of places -/
inductive AV where
  | v (x : Value)
  | str (l : List UInt8)
  | ptr (i off : Nat)
  | sl (i off len cap : Nat) (sym : Bool)
  | map (i : Nat)
  | func (f : FuncId) (first caps : List AV)
  | yield (i : Nat)
  | iface (t : Nat) (x : AV)
  | agg (l : List AV)
  | tup (l : List AV)
  | opq (i : Nat)

/-- what a name stands for -/
inductive En where
  | blk (b : Nat)
  | sl (A : Option Addr) (c : Nat)
  | val (v : Value)
  | chunk (c : Chunk)
abbrev Vl := Nat → En
def En.adr : En → Option Addr
  | .blk b => some ⟨b, 0, none⟩
  | .sl A _ => A
  | _ => none
def En.cap : En → Nat
  | .sl _ c => c
  | _ => 0
def En.block : En → Nat
  | .blk b => b
  | _ => 0
def En.value : En → Value
  | .val v => match v.oneCell' with
    | true => v
    | false => .bool false
  | _ => .bool false
theorem En.value_one (e : En) : e.value.oneCell' = true := by
  unfold En.value
  split
  · split
    · assumption
    · rfl
  · rfl

mutual
def AV.val (ν : Vl) : AV → Value
  | .v x => x
  | .str l => .string (Go.Sx.str l)
  | .ptr i off => .pointer ((ν i).adr.map (·.add off))
  | .sl i off len cap sym => .slice ((ν i).adr.map (·.add off)) len (if sym then (ν i).cap - cap else cap)
  | .map i => .map (some (ν i).block)
  | .func f a c => .func (.func f) (AV.vals ν a).toArray (AV.vals ν c).toArray
  | .yield i => .func (.yield (ν i).block) #[] #[]
  | .iface t x => .iface t (x.val ν)
  | .agg l => .agg (AV.vals ν l).toArray
  | .tup l => .tuple (AV.vals ν l).toArray
  | .opq i => (ν i).value
def AV.vals (ν : Vl) : List AV → List Value
  | [] => []
  | a :: l => a.val ν :: AV.vals ν l
end
mutual
/-- all names in it are less than n -/
def AV.okB (n : Nat) : AV → Bool
  | .v _ => true
  | .str _ => true
  | .ptr i _ => Nat.blt i n
  | .sl i _ _ _ _ => Nat.blt i n
  | .map i => Nat.blt i n
  | .func _ a c => AV.oksB n a && AV.oksB n c
  | .yield i => Nat.blt i n
  | .iface _ x => x.okB n
  | .agg l => AV.oksB n l
  | .tup l => AV.oksB n l
  | .opq i => Nat.blt i n
def AV.oksB (n : Nat) : List AV → Bool
  | [] => true
  | a :: l => a.okB n && AV.oksB n l
end
/-- one cell -/
def AV.cellB : AV → Bool
  | .agg _ => false
  | .tup _ => false
  | .v x => x.oneCell'
  | _ => true
def cellsB : List AV → Bool
  | [] => true
  | a :: l => a.cellB && cellsB l
def AV.cells : AV → List AV
  | .agg l => l
  | a => [a]

/-- the names below n stand for the same -/
def Vl.Same (n : Nat) (ν ν' : Vl) : Prop := ∀ i, i < n → ν i = ν' i
theorem Vl.Same.refl {n : Nat} {ν : Vl} : Vl.Same n ν ν := fun _ _ => rfl
theorem Vl.Same.trans {n m : Nat} {ν ν' ν'' : Vl} (h : Vl.Same n ν ν') (h' : Vl.Same m ν' ν'') (hm : n ≤ m) : Vl.Same n ν ν'' := fun i hi => (h i hi).trans (h' i (Nat.lt_of_lt_of_le hi hm))
theorem blt_lt {i n : Nat} (h : Nat.blt i n = true) : i < n := Nat.le_of_ble_eq_true h
theorem lt_blt {i n : Nat} (h : i < n) : Nat.blt i n = true := Nat.ble_eq_true_of_le h

mutual
theorem AV.val_same {n : Nat} {ν ν' : Vl} (h : Vl.Same n ν ν') : ∀ (a : AV), a.okB n = true → a.val ν' = a.val ν
  | .v _, _ => rfl
  | .str _, _ => rfl
  | .ptr i _, ho => by simp only [AV.val]; rw [h i (blt_lt ho)]
  | .sl i _ _ _ _, ho => by simp only [AV.val]; rw [h i (blt_lt ho)]
  | .map i, ho => by simp only [AV.val]; rw [h i (blt_lt ho)]
  | .yield i, ho => by simp only [AV.val]; rw [h i (blt_lt ho)]
  | .opq i, ho => by simp only [AV.val]; rw [h i (blt_lt ho)]
  | .func _ a c, ho => by
    simp only [AV.okB, Bool.and_eq_true] at ho
    simp only [AV.val, AV.vals_same h a ho.1, AV.vals_same h c ho.2]
  | .iface _ x, ho => by simp only [AV.val]; rw [AV.val_same h x ho]
  | .agg l, ho => by simp only [AV.val]; rw [AV.vals_same h l ho]
  | .tup l, ho => by simp only [AV.val]; rw [AV.vals_same h l ho]
theorem AV.vals_same {n : Nat} {ν ν' : Vl} (h : Vl.Same n ν ν') : ∀ (l : List AV), AV.oksB n l = true → AV.vals ν' l = AV.vals ν l
  | [], _ => rfl
  | a :: l, ho => by
    simp only [AV.oksB, Bool.and_eq_true] at ho
    simp only [AV.vals, AV.val_same h a ho.1, AV.vals_same h l ho.2]
end
mutual
theorem AV.okB_le {n m : Nat} (h : n ≤ m) : ∀ (a : AV), a.okB n = true → a.okB m = true
  | .v _, _ => rfl
  | .str _, _ => rfl
  | .ptr _ _, ho => lt_blt (Nat.lt_of_lt_of_le (blt_lt ho) h)
  | .sl _ _ _ _ _, ho => lt_blt (Nat.lt_of_lt_of_le (blt_lt ho) h)
  | .map _, ho => lt_blt (Nat.lt_of_lt_of_le (blt_lt ho) h)
  | .yield _, ho => lt_blt (Nat.lt_of_lt_of_le (blt_lt ho) h)
  | .opq _, ho => lt_blt (Nat.lt_of_lt_of_le (blt_lt ho) h)
  | .func _ a c, ho => by
    simp only [AV.okB, Bool.and_eq_true] at ho ⊢
    exact ⟨AV.oksB_le h a ho.1, AV.oksB_le h c ho.2⟩
  | .iface _ x, ho => AV.okB_le h x ho
  | .agg l, ho => AV.oksB_le h l ho
  | .tup l, ho => AV.oksB_le h l ho
theorem AV.oksB_le {n m : Nat} (h : n ≤ m) : ∀ (l : List AV), AV.oksB n l = true → AV.oksB m l = true
  | [], _ => rfl
  | a :: l, ho => by
    simp only [AV.oksB, Bool.and_eq_true] at ho ⊢
    exact ⟨AV.okB_le h a ho.1, AV.oksB_le h l ho.2⟩
end
theorem AV.vals_length (ν : Vl) : ∀ l : List AV, (AV.vals ν l).length = l.length
  | [] => rfl
  | _ :: l => by simp [AV.vals, AV.vals_length ν l]
theorem AV.vals_map (ν : Vl) : ∀ l : List AV, AV.vals ν l = l.map (AV.val ν)
  | [] => rfl
  | _ :: l => by simp [AV.vals, AV.vals_map ν l]
theorem AV.oksB_mem {n : Nat} : ∀ {l : List AV}, AV.oksB n l = true → ∀ a ∈ l, a.okB n = true
  | [], _, _, h => by cases h
  | b :: l, ho, a, h => by
    simp only [AV.oksB, Bool.and_eq_true] at ho
    rcases List.mem_cons.1 h with rfl | h
    · exact ho.1
    · exact AV.oksB_mem ho.2 a h
theorem AV.oksB_of {n : Nat} : ∀ {l : List AV}, (∀ a ∈ l, a.okB n = true) → AV.oksB n l = true
  | [], _ => rfl
  | b :: l, h => by
    simp only [AV.oksB, Bool.and_eq_true]
    exact ⟨h b (List.mem_cons_self ..), AV.oksB_of fun a ha => h a (List.mem_cons_of_mem _ ha)⟩
theorem cellB_one {a : AV} (h : a.cellB = true) (ν : Vl) : (a.val ν).oneCell' = true := by
  cases a with
  | opq i => exact En.value_one _
  | _ => simp_all [AV.cellB, AV.val, Value.oneCell']
theorem cellsB_mem : ∀ {l : List AV}, cellsB l = true → ∀ a ∈ l, a.cellB = true
  | [], _, _, h => by cases h
  | b :: l, ho, a, h => by
    simp only [cellsB, Bool.and_eq_true] at ho
    rcases List.mem_cons.1 h with rfl | h
    · exact ho.1
    · exact cellsB_mem ho.2 a h
theorem cellsB_one {l : List AV} (h : cellsB l = true) (ν : Vl) : ∀ u ∈ AV.vals ν l, u.oneCell' = true := by
  intro u hu
  rw [AV.vals_map] at hu
  obtain ⟨a, ha, rfl⟩ := List.mem_map.1 hu
  exact cellB_one (cellsB_mem h a ha) ν
end Go.Ex
