/-
  The runner is right: append.
-/
import Derived.Test.YtkoojoeimdfkgaaGreatDoorExM
import Derived.Deep.Upon
namespace Go.Ex
open Go Go.RowKit Go.Sx

/-- what is appended, in world w -/
structure ASrc (P : Program) (t tx ty e : TypeId) (f : TypeInfo) (z : Value) (inp : Bool) (x : Value) (m : Nat) (news : List Value) (w : World) : Prop where
  len : news.length = m * f.size
  nothing : m = 0 → ∀ base sLen sCap, sLen ≤ sCap → (Builtin.append_ #[t, tx] ty #[.slice base sLen sCap, x]).run P w = .ok (.slice base sLen sCap) w
  grow : m ≠ 0 → ∀ base sLen sCap olds, (Builtin.firstCells f.size sLen (.slice base sLen sCap)).run P w.drew = .ok (List.toArray olds) w.drew → sCap < sLen + m → sLen + m ≤ 100000000 → f.bytes < 1000000 →
    (Builtin.append_ #[t, tx] ty #[.slice base sLen sCap, x]).run P w =
      .ok (.slice (some ⟨w.heap.size, 0, none⟩) (sLen + m) (grownCap w (sLen + m) sCap e)) (w.drew.alloc (.cells ((olds ++ news).toArray ++ Builtin.zeroCells z.cells (grownCap w (sLen + m) sCap e - (sLen + m))) e))
  own : m ≠ 0 → inp = true → ∀ A n c xs, w.ownsRow 0 e f.size (.slice A n c) n xs → n + m ≤ 100000000 → f.bytes < 1000000 → (∀ u ∈ news, u.oneCell' = true) →
    ∃ v' w', (Builtin.append_ #[t, tx] ty #[.slice A n c, x]).run P w = .ok v' w' ∧ w'.ownsRow 0 e f.size v' (n + m) (xs ++ news) ∧ w.grownBy w' (Value.slice A n c).ownBlock ∧ (v'.ownBlock = (Value.slice A n c).ownBlock ∨ v'.ownBlock = some w.heap.size)

section
variable {P : Program} {w : World} {t tx ty e : TypeId} {f : TypeInfo} {z : Value}
theorem bytes_le' {q b : Nat} (hq : q ≤ 100000000) (hb : b < 1000000) : q * b ≤ 140737488355328 := by
  have := Nat.mul_le_mul hq (Nat.le_of_lt hb)
  omega
theorem ASrc.ofSlice (ht : P.underlying t = some (.slice e)) (hi : P.info? e = some f) (hz : f.zero = some z) (hzs : z.cells.size = f.size) (hpos : 0 < f.size) (a : Addr) (m c : Nat) (news : List Value) (hl : news.length = m * f.size)
    (hnews : ∀ j u, news[j]? = some u → w.cell? (a.add j) = some u) (hone : ∀ u ∈ news, u.oneCell' = true) : ASrc P t t ty e f z true (.slice (some a) m c) m news w := by
  have hsrc := Src.ofSlice w (P := P) (size := f.size) (tx := t) ht a m c news hl hnews hone
  refine ⟨hl, fun h0 base sLen sCap hle => ?_, fun h0 base sLen sCap olds hold hg hb hby => ?_, fun h0 _ A n c' xs hown hb hby h1 => ?_⟩
  · subst h0
    have : news = [] := List.eq_nil_of_length_eq_zero (by simpa using hl)
    subst this
    exact run_append_nothing w t t ty e f ht hi base sLen sCap hle _ hsrc
  · exact run_append_grow_src w t t ty e f z ht hi hz base sLen sCap olds hold _ m news hsrc hg (by omega) (growslice_fits hg (bytes_le' hb hby))
  · obtain ⟨v', w', h1, h2, h3, _, h5⟩ := run_append_own_at (P := P) (w := w) 0 t ty e f z f.size f.bytes ht hi hz rfl rfl hzs hpos _ n xs hown a m c news hl hnews hone (by unfold maxLen; omega) (bytes_le' hb hby) (Nat.zero_le _)
    exact ⟨v', w', h1, h2, h3, h5⟩
theorem ASrc.ofNil (ht : P.underlying t = some (.slice e)) (hi : P.info? e = some f) (c : Nat) : ASrc P t t ty e f z true (.slice none 0 c) 0 [] w := by
  refine ⟨by simp, fun _ base sLen sCap hle => run_append_nothing w t t ty e f ht hi base sLen sCap hle _ (Src.ofNil w ht c), fun h => absurd rfl h, fun h => absurd rfl h⟩
theorem ASrc.ofStr (ht : P.underlying t = some (.slice e)) (hu : P.underlying tx = some .string) (hi : P.info? e = some f) (hz : f.zero = some (.int .u8 0)) (hs1 : f.size = 1) (hb1 : f.bytes = 1) (l : List UInt8) : ASrc P t tx ty e f (.int .u8 0) true (.string (str l)) l.length (bvs l) w := by
  have hsrc := Src.ofString w (P := P) hu (str l)
  have hbc : byteCells (str l) = bvs l := rfl
  rw [hbc, str_size] at hsrc
  refine ⟨by simp [hs1], fun h0 base sLen sCap hle => ?_, fun h0 base sLen sCap olds hold hg hb hby => ?_, fun h0 _ A n c' xs hown hb hby h1 => ?_⟩
  · have : l = [] := List.eq_nil_of_length_eq_zero h0
    subst this
    exact run_append_nothing w t tx ty e f ht hi base sLen sCap hle _ (by rw [hs1]; exact hsrc)
  · exact run_append_grow_src w t tx ty e f _ ht hi hz base sLen sCap olds hold _ _ _ (by rw [hs1]; exact hsrc) hg (by omega) (growslice_fits hg (bytes_le' hb hby))
  · rw [hs1] at hown
    obtain ⟨v', w', h1, h2, h3, h5⟩ := run_append_str_at (P := P) (w := w) (ty := ty) ht hu hi hz hs1 hb1 hown (str l) (by simp; omega)
    rw [str_size] at h2
    exact ⟨v', w', h1, by rw [hs1]; exact h2, h3, h5⟩
theorem zeroCells_reps (l : List Value) (m : Nat) : Builtin.zeroCells l.toArray m = (reps m l).toArray := by
  unfold Builtin.zeroCells
  have := range_reps l m
  simpa using this
theorem ASrc.ofZeros {k : IntKind} (ht : P.underlying t = some (.slice e)) (hu : P.underlying tx = some (.int k)) (hi : P.info? e = some f) (hz : f.zero = some z) {zl : List Value} (hzl : z.cells = zl.toArray) (hzs : zl.length = f.size) (hpos : 0 < f.size) (m : Nat) (hm : m < 1000000) (hby : f.bytes < 1000000) : ASrc P t tx ty e f z false (.int .i64 (.ofNat m)) m (reps m zl) w := by
  have hwr : IntKind.i64.wrap (Int.ofNat m) = (m : Int) := by
    have := i64_in (n := (m : Int)) (by omega) (by omega)
    exact this
  have hn1 : ¬ ((m : Int) < 0) := by omega
  have hn2 : ¬ ((m : Int) * f.bytes > 281474976710656) := by
    have : m * f.bytes ≤ 1000000 * 1000000 := Nat.mul_le_mul (by omega) (by omega)
    have h' : ((m * f.bytes : Nat) : Int) ≤ 281474976710656 := by omega
    rw [Int.natCast_mul] at h'
    omega
  have hzc : Builtin.zeroCells z.cells m = (reps m zl).toArray := by rw [hzl, zeroCells_reps]
  refine ⟨by rw [reps_length, hzs], fun h0 base sLen sCap hle => ?_, fun h0 base sLen sCap olds hold hg hb _ => ?_, fun _ h => by cases h⟩
  · subst h0
    cases base <;> simp [Builtin.append_, run_underlying ht, run_underlying hu, sizeOf, typeInfo, hi, asInt, asIntOf, hle, storeCells, IntKind.wrap, IntKind.bits, IntKind.signed]
  · have hn : ¬ (sLen + m ≤ sCap) := by omega
    have h63' : ¬ (9223372036854775807 < ((sLen : Int) + (m : Int))) := by omega
    have h48' : ¬ (281474976710656 < Builtin.nextslicecap (sLen + m) sCap * f.bytes) := by
      have := growslice_fits hg (bytes_le' hb hby)
      omega
    have hne : ¬ (m * f.size = 0) := by
      intro h
      rcases Nat.mul_eq_zero.1 h with h | h
      · exact h0 h
      · omega
    have hb0 : ¬ (f.bytes = 0 ∧ False) := by simp
    simp only [Int.ofNat_eq_natCast] at hwr
    simp [Builtin.append_, run_underlying ht, run_underlying hu, sizeOf, typeInfo, zeroValue, hi, hz, asInt, asIntOf, hwr, hn1, hn2, hn, h63', h48', hne, Question.forced, hold, newRow, grownCap, hzc]
    congr 2
    apply Array.ext'
    simp [List.append_assoc]
/-- a new row is one's own -/
theorem ownsRow_new {w0 : World} {xs : List Value} {n cap : Nat} {size : Nat} {z : Array Value} (hl : xs.length = n * size) (hc : n ≤ cap) (hmx : cap ≤ maxLen) (hzs : z.size = size) (S : Nat → Prop) (b : Nat) (hS : S b) (hb : w0.heap[b]? = some (.cells (xs.toArray ++ Builtin.zeroCells z (cap - n)) e (0, 0))) : own (some ⟨b, 0, none⟩) n cap e size xs S w0 := by
  refine ⟨⟨hl, .inr ⟨b, cap, _, rfl, Nat.zero_le _, hb, hc, hmx, ?_, ?_⟩⟩, fun ad had => by injection had with had; subst had; exact hS⟩
  · simp only [Array.size_append, List.size_toArray, size_zeroCells, hzs, hl, ← Nat.add_mul]
    congr 1
    omega
  · simp only [Array.toList_append]
    rw [← hl]
    exact List.take_left
end
end Go.Ex
