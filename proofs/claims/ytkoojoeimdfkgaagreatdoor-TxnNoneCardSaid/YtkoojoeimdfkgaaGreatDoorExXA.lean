/-
  The runner: functions that have no body answer so.
-/
import Derived.Test.YtkoojoeimdfkgaaGreatDoorExX
import Derived.Test.YtkoojoeimdfkgaaGreatDoorExZ
import Derived.Conc.AtomicLaws2
import Derived.Lib.Bytealg
import Derived.Laws.StandIn
namespace Go.Ex
open Go Go.RowKit Go.Sx

/-- a function that the machine answers itself, by e -/
structure Ext (P : Program) (g : Nat) (e : Array Value → Sem Value) : Prop where
  ok : ∃ fn, P.funcs[g]? = some fn ∧ (fn.name == "runtime.NumGoroutine") = false ∧ fn.body.isNone = true ∧ Extern.findNext fn = none ∧ Extern.find fn = some e
theorem Ext.run {P : Program} {g : Nat} {e : Array Value → Sem Value} (h : Ext P g e) {args : Array Value} {w w' : World} {v : Value} (hr : (e args).run P w = .ok v w') : (callFunc g args).run P w = .ok (.value v) w' := by
  obtain ⟨fn, h1, h2, h3, h4, h5⟩ := h.ok
  rw [run_callFunc_extern h1 h2 h3 h4 h5, hr]
  rfl
section
variable {P : Program} {g : Nat} {args : List AV} {h h' : Heap} {n n' : Nat} {v : AV} {ν : Vl} {w : World}
theorem idxB_ok (c : Nat) (hc : c < 256) : ∀ (l : List UInt8) (i : Nat), match idxB l c i with
    | some j => i ≤ j ∧ Lib.indexByte l c.toUInt8 = ((j - i : Nat) : Int)
    | none => Lib.indexByte l c.toUInt8 = -1
  | [], i => rfl
  | a :: l, i => by
    have ih := idxB_ok c hc l (i + 1)
    have hac : (a == c.toUInt8) = Nat.beq a.toNat c := by
      rw [Bool.eq_iff_iff, beq_iff_eq, Nat.beq_eq]
      constructor
      · rintro rfl
        simp; omega
      · intro h
        subst h
        simp
    simp only [idxB, Lib.indexByte, hac]
    cases hb : Nat.beq a.toNat c with
    | true => simp
    | false =>
      simp only [Bool.false_eq_true, if_false]
      cases hx : idxB l c (i + 1) with
      | none =>
        rw [hx] at ih
        simp only at ih ⊢
        rw [ih]
        rfl
      | some j =>
        rw [hx] at ih
        simp only at ih ⊢
        obtain ⟨h1, h2⟩ := ih
        rw [h2]
        refine ⟨by omega, ?_⟩
        have : ¬ (((j - (i + 1) : Nat) : Int) == -1) = true := by
          rw [beq_iff_eq]; omega
        rw [if_neg this]
        omega
theorem xIndexByteString_ok (he : Ext P g Extern.BytealgIndexByte.indexByte) (hx : xIndexByteString args h n = some (v, h', n')) (hm : Mem ν n h w) : CallOk P g (AV.vals ν args).toArray w (Left ν n ⟨.norm, ⟨.e, h', n', []⟩, v⟩) := by
  unfold xIndexByteString at hx
  split at hx
  case h_2 => cases hx
  rename_i l c
  split at hx
  case h_2 => cases hx
  rename_i hc
  have hc := blt_lt hc
  have hi := idxB_ok c hc l 0
  have hr := Lib.run_indexByteString (P := P) (⟨l.toArray⟩ : ByteArray) (.ofNat c) w
  have hcc : (Int.ofNat c).toNat.toUInt8 = c.toUInt8 := rfl
  rw [hcc] at hr
  left
  split at hx
  · rename_i j hj
    injection hx with hx
    cases hx
    rw [hj] at hi
    refine ⟨_, w, he.run hr, ν, Vl.Same.refl, Nat.le_refl _, hm, ?_, rfl⟩
    simp only [AV.val]
    rw [hi.2]
    rfl
  · rename_i hj
    injection hx with hx
    cases hx
    rw [hj] at hi
    refine ⟨_, w, he.run hr, ν, Vl.Same.refl, Nat.le_refl _, hm, ?_, rfl⟩
    simp only [AV.val]
    rw [hi]
    rfl
theorem putL_one : ∀ (l : List Value) (k : Nat) (v : Value), putL l k [v] = l.set k v := by
  intro l k v
  induction l generalizing k with
  | nil => cases k <;> simp [putL]
  | cons a l ih => cases k <;> simp [putL, ih]
theorem xAddInt64_ok (he : Ext P g (Extern.Atomic.update (Op.intArith .add) .i64 true)) (hx : xAddInt64 args h n = some (v, h', n')) (hm : Mem ν n h w) : CallOk P g (AV.vals ν args).toArray w (Left ν n ⟨.norm, ⟨.e, h', n', []⟩, v⟩) := by
  unfold xAddInt64 at hx
  split at hx
  case h_2 => cases hx
  rename_i i off d
  split at hx
  case h_2 => cases hx
  rename_i e l hi
  split at hx
  case h_2 => cases hx
  rename_i xv hn
  rw [nthA_eq] at hn
  simp only [forceI_eq] at hx
  split at hx
  case h_2 => cases hx
  rename_i h2 hs
  injection hx with hx
  cases hx
  obtain ⟨R, _, _, hsat, hback⟩ := hm.split (Nat.le_refl _) hi hs
  obtain ⟨b, hb, hsat⟩ := sat_cel hsat
  have hcell : w.cell? ⟨b, off, none⟩ = some (.int .i64 xv) := by
    rw [cell_of hsat.blk, vals_get, hn]; rfl
  have hr := Conc.run_add_entry (P := P) (d := d) hcell (free_of hsat.blk)
  left
  rw [← wrapF_eq] at hr
  have e1 : (AV.vals ν [.ptr i off, .v (.int .i64 d)]).toArray = #[.pointer (some ⟨b, off, none⟩), .int .i64 d] := by
    simp [AV.vals, AV.val, hb, En.adr, add_off]
  rw [e1]
  have hm' : Mem ν n h' (w.setCell ⟨b, off, none⟩ (.int .i64 (wrapF .i64 (xv + d)))) := hback (fun _ _ => rfl) (cel_sat hb (by rw [vals_put, ← putL_one]; rfl) (hsat.setCell (off := off) (.int .i64 (wrapF .i64 (xv + d)))))
  exact ⟨_, _, he.run hr, ν, Vl.Same.refl, Nat.le_refl _, hm', rfl, rfl⟩
theorem run_loadB : ∀ (xs : List UInt8) (a : Addr) (acc : ByteArray), (∀ j x, xs[j]? = some x → w.cell? (a.add j) = some (.int .u8 (x.toNat : Int))) →
    (Extern.Bytes.loadBytes a xs.length acc).run P w = .ok ⟨acc.data ++ xs.toArray⟩ w
  | [], a, acc, _ => by simp [Extern.Bytes.loadBytes]
  | x :: l, a, acc, h => by
    have h0 : w.cell? a = some (.int .u8 (x.toNat : Int)) := by
      have := h 0 x rfl
      simpa [Addr.add] using this
    have hx : ((x.toNat : Int).toNat).toUInt8 = x := by simp
    have ih := run_loadB l (a.add 1) (acc.push x) (fun j y hy => by
      have := h (j + 1) y (by simpa using hy)
      have e : (a.add 1).add j = a.add (j + 1) := by rw [Addr.add_add', Nat.add_comm]
      rw [e]; exact this)
    simp only [List.length_cons, Extern.Bytes.loadBytes, Sem.run_bind, _root_.Go.run_load, h0, Result.andThen, hx]
    rw [ih]
    congr 1
    apply ByteArray.ext
    simp [ByteArray.push]
theorem run_bytesOfA {x : AV} {m : Nat} {cs : List AV} {bs : List UInt8} (hx : readSl h 1 x = some (m, cs)) (hb : bytesOf cs = some bs) (hm : Mem ν n h w) : (Extern.Bytes.bytesOf (x.val ν)).run P w = .ok ⟨bs.toArray⟩ w := by
  unfold readSl at hx
  split at hx
  · simp only [Option.some.injEq, Prod.mk.injEq] at hx
    obtain ⟨rfl, rfl⟩ := hx
    simp only [bytesOf, Option.some.injEq] at hb
    subst hb
    rfl
  · rename_i i off len cap sym
    split at hx
    case h_2 => cases hx
    rename_i o ho
    split at hx
    case h_2 => cases hx
    rename_i l hl
    split at hx
    case h_2 => cases hx
    rename_i cs' hcs
    simp only [Option.some.injEq, Prod.mk.injEq] at hx
    obtain ⟨rfl, rfl⟩ := hx
    rw [Nat.mul_one] at hcs
    obtain ⟨e1, e2⟩ := takeA_spec hcs
    rw [dropA_eq] at e1
    have hcb := bytesOf_ok ν hb
    have hlen : bs.length = len := by
      have := congrArg List.length hcb
      rw [AV.vals_length, bvs_length, e2] at this
      exact this.symm
    have hrd := reads_rd hl (hm.fact ho)
    simp only [AV.val]
    cases hA : (ν i).adr with
    | none =>
      rw [hA] at hrd
      have : l = [] := by
        have := rd_nonev hrd rfl
        cases l with
        | nil => rfl
        | cons x l => simp [AV.vals] at this
      subst this
      have hcs0 : cs' = [] := by simp at e1; exact e1
      subst hcs0
      have : bs = [] := by
        cases bs with
        | nil => rfl
        | cons b bs => simp [AV.vals, bvs] at hcb
      subst this
      rfl
    | some ad =>
      have := run_loadB (P := P) (w := w) bs (ad.add off) .empty (fun j y hj => by
        have hj' : (AV.vals ν cs')[j]? = some (bv y) := by rw [hcb]; simp [bvs, hj]
        rw [e1, vals_take, vals_drop, List.getElem?_take] at hj'
        split at hj'
        case isFalse => cases hj'
        rw [List.getElem?_drop] at hj'
        obtain ⟨ad', h6, h7⟩ := hrd _ _ hj'
        rw [hA] at h6
        injection h6 with h6
        subst h6
        rw [Addr.add_add']
        exact h7)
      rw [hlen] at this
      simp only [Option.map_some, Extern.Bytes.bytesOf]
      rw [this]
      congr 1
      apply ByteArray.ext
      simp
  · cases hx
theorem compare3 : ∀ (x y : List UInt8), Lib.compareBytes x y = if bytesLt x y then -1 else if bytesEq x y then 0 else 1
  | [], [] => rfl
  | [], _ :: _ => rfl
  | _ :: _, [] => rfl
  | a :: x, b :: y => by
    have h1 : Nat.blt a.toNat b.toNat = decide (a < b) := by
      rw [Bool.eq_iff_iff, decide_eq_true_eq, Nat.blt_eq, UInt8.lt_iff_toNat_lt]
    have h2 : Nat.beq a.toNat b.toNat = decide (a = b) := by
      rw [Bool.eq_iff_iff, decide_eq_true_eq, Nat.beq_eq, UInt8.toNat_inj]
    have h3 : bytesLt (a :: x) (b :: y) = (decide (a < b) || (decide (a = b) && bytesLt x y)) := by
      show (match Nat.blt a.toNat b.toNat with
        | true => true
        | false => Nat.beq a.toNat b.toNat && bytesLt x y) = _
      rw [h1, h2]
      cases decide (a < b) <;> rfl
    have h4 : bytesEq (a :: x) (b :: y) = (decide (a = b) && bytesEq x y) := by
      show (Nat.beq a.toNat b.toNat && bytesEq x y) = _
      rw [h2]
    rw [h3, h4]
    simp only [Lib.compareBytes]
    by_cases hlt : a < b
    · simp [hlt]
    · by_cases hab : a = b
      · subst hab
        simp [compare3 x y, UInt8.lt_irrefl]
      · have : b < a := UInt8.lt_of_le_of_ne (UInt8.not_lt.1 hlt) (Ne.symm hab)
        simp [hlt, hab, this]
theorem xCompare_ok (he : Ext P g Extern.BytealgCompare.compare) (hx : xCompare args h n = some (v, h', n')) (hm : Mem ν n h w) : CallOk P g (AV.vals ν args).toArray w (Left ν n ⟨.norm, ⟨.e, h', n', []⟩, v⟩) := by
  unfold xCompare at hx
  split at hx
  case h_2 => cases hx
  rename_i a b
  split at hx
  case h_2 => cases hx
  rename_i m1 c1 m2 c2 hr1 hr2
  split at hx
  case h_2 => cases hx
  rename_i x y hb1 hb2
  have hr : (Extern.BytealgCompare.compare #[a.val ν, b.val ν]).run P w = .ok (.int .i64 (Lib.compareBytes x y)) w := by
    change Sem.run P (do pure (goInt (Extern.BytealgCompare.cmp (← Extern.Bytes.bytesOf (a.val ν)) (← Extern.Bytes.bytesOf (b.val ν))))) w = _
    simp only [Sem.run_bind, run_bytesOfA hr1 hb1 hm, run_bytesOfA hr2 hb2 hm, Sem.run_pure, Result.andThen]
    rw [Lib.cmp_eq]
    rfl
  rw [compare3] at hr
  left
  split at hx
  · rename_i h1
    injection hx with hx
    cases hx
    rw [h1] at hr
    exact ⟨_, w, he.run hr, ν, Vl.Same.refl, Nat.le_refl _, hm, rfl, rfl⟩
  · rename_i h1
    rw [h1] at hr
    split at hx
    · rename_i h2
      injection hx with hx
      cases hx
      rw [h2] at hr
      exact ⟨_, w, he.run hr, ν, Vl.Same.refl, Nat.le_refl _, hm, rfl, rfl⟩
    · rename_i h2
      injection hx with hx
      cases hx
      rw [h2] at hr
      exact ⟨_, w, he.run hr, ν, Vl.Same.refl, Nat.le_refl _, hm, rfl, rfl⟩
end
end Go.Ex
