/-
  The runner is right: numbers, lists, operands.
-/
import Derived.Test.YtkoojoeimdfkgaaGreatDoorExD
namespace Go.Ex
open Go Go.RowKit Go.Sx

theorem wrapF_eq (k : IntKind) (n : Int) : wrapF k n = k.wrap n := by
  unfold wrapF
  split
  · rename_i m
    split
    · rename_i hb
      have := blt_lt hb
      cases k <;> simp only [hiB] at this <;> simp [IntKind.wrap, IntKind.bits, IntKind.signed] <;> omega
    · rfl
  · rfl
theorem ilt_eq (a b : Int) : ilt a b = decide (a < b) := by
  cases a with
  | ofNat m => cases b with
    | ofNat n =>
      simp only [ilt, Int.ofNat_eq_natCast]
      rw [Bool.eq_iff_iff, decide_eq_true_iff]
      constructor
      · intro h; have := blt_lt h; omega
      · intro h; exact lt_blt (by omega)
    | negSucc n =>
      simp only [ilt]
      symm
      rw [decide_eq_false_iff_not]
      simp only [Int.ofNat_eq_natCast]
      omega
  | negSucc m => cases b with
    | ofNat n =>
      simp only [ilt]
      symm
      rw [decide_eq_true_iff]
      simp only [Int.ofNat_eq_natCast]
      omega
    | negSucc n =>
      simp only [ilt]
      rw [Bool.eq_iff_iff, decide_eq_true_iff]
      constructor
      · intro h; have := blt_lt h; omega
      · intro h; exact lt_blt (by omega)
theorem ieq_eq (a b : Int) : ieq a b = decide (a = b) := by
  cases a with
  | ofNat m => cases b with
    | ofNat n =>
      simp only [ieq, Int.ofNat_eq_natCast]
      rw [Bool.eq_iff_iff, decide_eq_true_iff]
      constructor
      · intro h; have := Nat.eq_of_beq_eq_true h; omega
      · intro h
        have : m = n := by omega
        subst this
        simp
    | negSucc n =>
      simp only [ieq]
      symm
      rw [decide_eq_false_iff_not]
      simp only [Int.ofNat_eq_natCast]
      omega
  | negSucc m => cases b with
    | ofNat n =>
      simp only [ieq]
      symm
      rw [decide_eq_false_iff_not]
      simp only [Int.ofNat_eq_natCast]
      omega
    | negSucc n =>
      simp only [ieq]
      rw [Bool.eq_iff_iff, decide_eq_true_iff]
      constructor
      · intro h; have := Nat.eq_of_beq_eq_true h; omega
      · intro h
        have : m = n := by omega
        subst this
        simp
theorem bytesEq_eq : ∀ (x y : List UInt8), bytesEq x y = (x == y)
  | [], [] => rfl
  | [], _ :: _ => rfl
  | _ :: _, [] => rfl
  | a :: x, b :: y => by
    simp only [bytesEq, bytesEq_eq x y, List.cons_beq_cons]
    congr 1
    rw [Bool.eq_iff_iff]
    constructor
    · intro h
      have := Nat.eq_of_beq_eq_true h
      simpa using UInt8.toNat_inj.1 this
    · intro h
      have : a = b := by simpa using h
      subst this
      simp
theorem bytesLt_eq : ∀ (x y : List UInt8), bytesLt x y = Op.bytesLess x y
  | [], [] => rfl
  | [], _ :: _ => rfl
  | _ :: _, [] => rfl
  | a :: x, b :: y => by
    simp only [bytesLt, Op.bytesLess]
    have h1 : Nat.blt a.toNat b.toNat = decide (a < b) := by
      rw [Bool.eq_iff_iff, decide_eq_true_iff, UInt8.lt_iff_toNat_lt]
      exact ⟨blt_lt, lt_blt⟩
    have h2 : Nat.beq a.toNat b.toNat = (a == b) := by
      rw [Bool.eq_iff_iff]
      constructor
      · intro h; simpa using UInt8.toNat_inj.1 (Nat.eq_of_beq_eq_true h)
      · intro h
        have : a = b := by simpa using h
        subst this
        simp
    rw [h1, h2, bytesLt_eq x y]
    cases decide (a < b) <;> simp

/-! ### lists -/
theorem takeA_spec : ∀ {k : Nat} {l r : List AV}, takeA k l = some r → r = l.take k ∧ r.length = k
  | 0, l, r, h => by simp only [takeA, Option.some.injEq] at h; subst h; simp
  | k + 1, [], r, h => by simp [takeA] at h
  | k + 1, a :: l, r, h => by
    simp only [takeA] at h
    split at h
    · rename_i r1 h1
      injection h with h
      subst h
      obtain ⟨h2, h3⟩ := takeA_spec h1
      simp [← h2, h3]
    · cases h
theorem dropA_eq : ∀ (k : Nat) (l : List AV), dropA k l = l.drop k
  | 0, l => by simp [dropA]
  | k + 1, [] => by simp [dropA]
  | k + 1, a :: l => by simp [dropA, dropA_eq k l]
theorem nthA_eq : ∀ (k : Nat) (l : List AV), nthA k l = l[k]?
  | k, [] => by cases k <;> simp [nthA]
  | 0, a :: l => by simp [nthA]
  | k + 1, a :: l => by simp [nthA, nthA_eq k l]
theorem lenA_eq {α : Type} : ∀ (l : List α) (n : Nat), lenA l n = l.length + n
  | [], n => by simp [lenA]
  | a :: l, n => by simp [lenA, lenA_eq l (n + 1)]; omega
theorem vals_put (ν : Vl) : ∀ (l : List AV) (k : Nat) (vs : List AV), AV.vals ν (putA l k vs) = putL (AV.vals ν l) k (AV.vals ν vs)
  | l, _, [] => by cases l <;> simp [putA, putL, AV.vals]
  | [], _, _ :: _ => by simp [putA, putL, AV.vals]
  | _ :: l, 0, v :: vs => by simp [putA, putL, AV.vals, vals_put ν l 0 vs]
  | x :: l, k + 1, v :: vs => by
    have := vals_put ν l k (v :: vs)
    simp only [AV.vals] at this
    simp [putA, putL, AV.vals, this]
theorem vals_get (ν : Vl) (l : List AV) (k : Nat) : (AV.vals ν l)[k]? = (l[k]?).map (AV.val ν) := by rw [AV.vals_map, List.getElem?_map]
theorem vals_drop (ν : Vl) (l : List AV) (k : Nat) : AV.vals ν (l.drop k) = (AV.vals ν l).drop k := by simp [AV.vals_map, List.map_drop]
theorem vals_take (ν : Vl) (l : List AV) (k : Nat) : AV.vals ν (l.take k) = (AV.vals ν l).take k := by simp [AV.vals_map, List.map_take]
theorem vals_append (ν : Vl) (l m : List AV) : AV.vals ν (l ++ m) = AV.vals ν l ++ AV.vals ν m := by simp [AV.vals_map]
theorem putA_length : ∀ (l : List AV) (k : Nat) (vs : List AV), (putA l k vs).length = l.length
  | l, _, [] => by cases l <;> simp [putA]
  | [], _, _ :: _ => rfl
  | _ :: l, 0, v :: vs => by simp [putA, putA_length l 0 vs]
  | x :: l, k + 1, v :: vs => by simp [putA, putA_length l k (v :: vs)]
/-- the cells of a value -/
theorem cells_val (ν : Vl) (a : AV) (h : ∀ l, a ≠ .tup l) (ho : ∀ x, a = .v x → x.cells = #[x]) (hq : ∀ i, a = .opq i → (ν i).value.cells = #[(ν i).value]) : (a.val ν).cells.toList = AV.vals ν a.cells := by
  cases a with
  | v x => rw [AV.val, ho x rfl]; rfl
  | opq i => rw [AV.val, hq i rfl]; rfl
  | tup l => exact absurd rfl (h l)
  | agg l => simp [AV.val, Value.cells, AV.cells]
  | _ => simp [AV.val, Value.cells, AV.cells, AV.vals]
theorem one_cells {v : Value} (h : v.oneCell' = true) : v.cells = #[v] := by
  cases v <;> first | rfl | cases h
theorem cells_ok (ν : Vl) {a : AV} (h : cellsB a.cells = true) : (a.val ν).cells.toList = AV.vals ν a.cells := by
  apply cells_val
  · rintro l rfl
    simp [AV.cells, cellsB, AV.cellB] at h
  · rintro x rfl
    apply one_cells
    simpa [AV.cells, cellsB, AV.cellB] using h
  · rintro i rfl
    exact one_cells (En.value_one _)

/-! ### constants and operands -/
theorem cnv1_ok (ν : Vl) {v : Value} {a : AV} (h : cnv1 v = some a) : a.val ν = v := by
  unfold cnv1 at h
  split at h <;> first | (injection h with h; subst h; rfl) | cases h
theorem cnvL_ok (ν : Vl) : ∀ {l : List Value} {r : List AV}, cnvL l = some r → AV.vals ν r = l
  | [], r, h => by simp only [cnvL, Option.some.injEq] at h; subst h; rfl
  | v :: l, r, h => by
    simp only [cnvL] at h
    split at h
    case h_2 => cases h
    rename_i a ha
    split at h
    case h_2 => cases h
    rename_i r' hr
    injection h with h
    subst h
    simp only [AV.vals, cnv1_ok ν ha, cnvL_ok ν hr]
theorem cnv_ok (ν : Vl) {v : Value} {a : AV} (h : cnv v = some a) : a.val ν = v := by
  unfold cnv at h
  split at h
  · split at h
    · rename_i cs l hl
      injection h with h
      subst h
      simp only [AV.val, cnvL_ok ν hl]
    · cases h
  · exact cnv1_ok ν h
theorem zeroA_ok (ν : Vl) {i : TyI} {l : List AV} (h : zeroA i = some l) : AV.vals ν l = i.zero := cnvL_ok ν h
theorem zvalA_ok (ν : Vl) {i : TyI} {a : AV} (h : zvalA i = some a) (h0 : i.zero ≠ []) : a.val ν = zval i := by
  unfold zvalA at h
  split at h
  case h_2 => cases h
  rename_i l hl
  have hz := zeroA_ok ν hl
  unfold zval
  split at h
  · rename_i hk
    injection h with h
    subst h
    rw [hk]
    simp only [AV.val, hz]
  · rename_i hk
    rw [hk]
    split at h
    · injection h with h
      subst h
      simp only [AV.vals] at hz
      rw [← hz]
      rfl
    · cases h

def GOk (ν : Vl) (G : Nat → Option Nat) : Prop := ∀ g i, G g = some i → ν i = .blk g
section
variable {ν : Vl} {G : Nat → Option Nat} {env : T AV} {a : Act} (hs : Slots ν env a.tmps) (hg : GOk ν G)
include hs hg
theorem evA_ok {x : Operand} {v : AV} (h : evA G env x = some v) : a.eval x = v.val ν := by
  cases x with
  | tmp t =>
    have := hs t v h
    simp [Act.eval, Array.getD_eq_getD_getElem?, this]
  | const c => exact (cnv_ok ν h).symm
  | global g =>
    simp only [evA] at h
    split at h
    · rename_i i hi
      injection h with h
      subst h
      simp [Act.eval, AV.val, hg g i hi, En.adr, Addr.add]
    · cases h
  | func f =>
    simp only [evA, Option.some.injEq] at h
    subst h
    rfl
theorem evAs_ok : ∀ {l : List Operand} {vs : List AV}, evAs G env l = some vs → l.map a.eval = AV.vals ν vs
  | [], vs, h => by simp only [evAs, Option.some.injEq] at h; subst h; rfl
  | x :: r, vs, h => by
    simp only [evAs] at h
    split at h
    case h_2 => cases h
    rename_i v hv
    split at h
    case h_2 => cases h
    rename_i us hu
    injection h with h
    subst h
    simp only [List.map_cons, AV.vals, evA_ok hs hg hv, evAs_ok hu]
theorem evPs_ok : ∀ {l : List (Nat × Operand)} {vs : List (Nat × AV)}, evPs G env l = some vs → l.map (fun x => (x.1, a.eval x.2)) = vs.map fun x => (x.1, x.2.val ν)
  | [], vs, h => by simp only [evPs, Option.some.injEq] at h; subst h; rfl
  | (i, x) :: r, vs, h => by
    simp only [evPs] at h
    split at h
    case h_2 => cases h
    rename_i v hv
    split at h
    case h_2 => cases h
    rename_i us hu
    injection h with h
    subst h
    simp only [List.map_cons, evA_ok hs hg hv, evPs_ok hu]
end

/-! ### what is read -/
theorem reads_rd {ν : Vl} {i : Nat} {w : World} {o : AObj} {l : List AV} (hr : o.reads = some l) (hf : o.fact ν i w) : Rd (ν i).adr (AV.vals ν l) w := by
  cases o with
  | cel e l' =>
    simp only [AObj.reads, Option.some.injEq] at hr
    subst hr
    obtain ⟨b, h1, h2⟩ := hf
    intro j u hu
    rw [h1]
    refine ⟨_, rfl, ?_⟩
    rw [add_off, Nat.zero_add, cell_of h2]
    exact hu
  | fz e l' =>
    simp only [AObj.reads, Option.some.injEq] at hr
    subst hr
    obtain ⟨b, lo, hi, h1, h2⟩ := hf
    intro j u hu
    rw [h1]
    refine ⟨_, rfl, ?_⟩
    rw [add_off, Nat.zero_add, cell_of h2]
    exact hu
  | own e s n l' =>
    simp only [AObj.reads, Option.some.injEq] at hr
    subst hr
    obtain ⟨A, c, h1, h2⟩ := hf
    rw [h1]
    exact rd_of_own h2
  | rd l' =>
    simp only [AObj.reads, Option.some.injEq] at hr
    subst hr
    obtain ⟨A, c, h1, _, h2⟩ := hf
    rw [h1]
    exact h2
  | emp =>
    simp only [AObj.reads, Option.some.injEq] at hr
    subst hr
    exact fun j u hu => by simp [AV.vals] at hu
  | _ => cases hr
theorem isBlk_blk {ν : Vl} {i : Nat} {w : World} {o : AObj} (hb : o.isBlk = true) (hf : o.fact ν i w) : ∃ b, ν i = .blk b := by
  cases o <;> first | (cases hb; done) | skip
  · obtain ⟨b, h, _⟩ := hf; exact ⟨b, h⟩
  · obtain ⟨b, _, _, h, _⟩ := hf; exact ⟨b, h⟩
  · obtain ⟨b, h, _⟩ := hf; exact ⟨b, h⟩
theorem some_adr {ν : Vl} {i : Nat} {w : World} {o : AObj} (hb : o.some' = true) (hf : o.fact ν i w) : (ν i).adr.isSome = true := by
  cases o with
  | cel e l => obtain ⟨b, h, _⟩ := hf; rw [h]; rfl
  | fz e l => obtain ⟨b, _, _, h, _⟩ := hf; rw [h]; rfl
  | own e s n l =>
    cases l with
    | nil => cases hb
    | cons x l =>
      have := reads_rd (o := .own e s n (x :: l)) rfl hf 0 (x.val ν) (by simp [AV.vals])
      obtain ⟨ad, h, _⟩ := this
      rw [h]; rfl
  | rd l =>
    cases l with
    | nil => cases hb
    | cons x l =>
      have := reads_rd (o := .rd (x :: l)) rfl hf 0 (x.val ν) (by simp [AV.vals])
      obtain ⟨ad, h, _⟩ := this
      rw [h]; rfl
  | emp => obtain ⟨A, c, h, h2⟩ := hf; rw [h]; exact h2
  | _ => cases hb
theorem symOk_cap {ν : Vl} {i cap len : Nat} {w : World} {o : AObj} (h : symOk (some o) cap len = true) (hf : o.fact ν i w) : cap + len ≤ (ν i).cap := by
  cases o with
  | own e s n l =>
    obtain ⟨A, c, h1, h2⟩ := hf
    have := Nat.le_of_ble_eq_true h
    have h3 : n ≤ c := own_cap (S := fun _ => True) (w := w) ⟨h2, fun _ _ => trivial⟩
    rw [h1]
    simp only [En.cap]
    omega
  | rd l =>
    obtain ⟨A, c, h1, h2, _⟩ := hf
    have := Nat.le_of_ble_eq_true h
    rw [h1]
    simp only [En.cap]
    omega
  | emp =>
    have := Nat.eq_of_beq_eq_true h
    omega
  | _ => cases h
/-- a value of a type at a place -/
theorem run_part {P : Program} {ν : Vl} {w : World} {t : Nat} {ti : TyI} (ht : TyOk P t ti) {l : List AV} {off : Nat} {av : AV} (h : partA ti l off = some av) : (part t (AV.vals ν l).toArray off).run P w = .ok (av.val ν) w := by
  unfold partA at h
  unfold part
  split at h
  · rename_i hk
    split at h
    case h_2 => cases h
    rename_i vs hv
    injection h with h
    subst h
    obtain ⟨h1, h2⟩ := takeA_spec hv
    simp only [Sem.run_bind, Sx.run_isAgg ht, hk, Result.andThen_ok, if_true, Sx.run_sizeOf ht, Sem.run_pure, AV.val]
    rw [h1, dropA_eq]
    simp [vals_take, vals_drop, List.extract_eq_take_drop]
  · rename_i hk
    rw [nthA_eq] at h
    simp only [Sem.run_bind, Sx.run_isAgg ht, hk, Result.andThen_ok, Bool.false_eq_true, if_false]
    have : (AV.vals ν l).toArray[off]? = some (av.val ν) := by simp [vals_get, h]
    rw [this]
    rfl
theorem run_load {P : Program} {ν : Vl} {w : World} {t : Nat} {ti : TyI} (ht : TyOk P t ti) {l : List AV} {i off : Nat} {av : AV} (h : partA ti l off = some av) (hz : ti.k.isAgg = true → ti.size ≠ 0 ∨ (ν i).adr.isSome = true) (hr : Rd (ν i).adr (AV.vals ν l) w) :
    ∃ ad, (ν i).adr.map (·.add off) = some ad ∧ (loadVar t ad).run P w = .ok (av.val ν) w := by
  unfold partA at h
  split at h
  · rename_i hk
    split at h
    case h_2 => cases h
    rename_i vs hv
    injection h with h
    subst h
    obtain ⟨h1, h2⟩ := takeA_spec hv
    rw [dropA_eq] at h1
    have hcell : ∀ j u, (AV.vals ν vs)[j]? = some u → ∃ ad, (ν i).adr = some ad ∧ w.cell? (ad.add (off + j)) = some u := by
      intro j u hu
      apply hr
      rw [h1, vals_take, vals_drop, List.getElem?_take] at hu
      split at hu
      · rw [List.getElem?_drop] at hu; exact hu
      · cases hu
    have had : ∃ ad, (ν i).adr = some ad := by
      rcases hz hk with h0 | h0
      · have hpos : 0 < vs.length := by omega
        obtain ⟨u, hu⟩ : ∃ u, (AV.vals ν vs)[0]? = some u := ⟨_, List.getElem?_eq_getElem (by rw [AV.vals_length]; exact hpos)⟩
        obtain ⟨ad, h3, _⟩ := hcell 0 u hu
        exact ⟨ad, h3⟩
      · exact Option.isSome_iff_exists.1 h0
    obtain ⟨ad, had⟩ := had
    refine ⟨ad.add off, by rw [had]; rfl, ?_⟩
    have := run_loadVar_agg (P := P) (w := w) ht hk (a := ad.add off) (vs := AV.vals ν vs) (by rw [AV.vals_length]; exact h2) (fun j u hu => by
      obtain ⟨ad', h3, h4⟩ := hcell j u hu
      rw [had] at h3
      injection h3 with h3
      subst h3
      rw [Addr.add_add']
      exact h4)
    simpa [AV.val] using this
  · rename_i hk
    rw [nthA_eq] at h
    obtain ⟨ad, h3, h4⟩ := hr off (av.val ν) (by rw [vals_get, h]; rfl)
    exact ⟨ad.add off, by rw [h3]; rfl, run_loadVar_one ht (by simpa using hk) h4⟩
end Go.Ex
