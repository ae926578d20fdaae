/-
  Slices that are read, whoever holds them; bytes.
-/
import Derived.Test.YtkoojoeimdfkgaaGreatDoorSxF
namespace Go.Sx
open Go Go.RowKit

theorem pick_cel {b e n size : Nat} {l : List Value} {L L' : List Chunk} (h : Pick (cel b e l) L L') (hl : l.length = n * size) (hn : n ≤ maxLen) : Pick (own (some ⟨b, 0, none⟩) n n e size l) L L' := fun M w A hs => by
  obtain ⟨S, h1, h2, h3⟩ := h M w A hs
  refine ⟨S, h1, fun w' hw => ?_, h3⟩
  obtain ⟨h4, h5⟩ := h2 w' hw
  exact ⟨⟨hl, Or.inr ⟨b, n, l.toArray, rfl, Nat.zero_le _, h5, Nat.le_refl _, hn, by simpa using hl, by rw [← hl]; simp⟩⟩, fun ad had => by injection had with had; subst had; exact h4⟩
theorem rd_ro {B : Option Addr} {ys : List Value} {L L' : List Chunk} (h : Pick (ro (Rd B ys)) L L') : ∀ w, Sat w L → Rd B ys w := fun _ hs => (hs.pick h).ro
theorem rd_own {B : Option Addr} {m c e size : Nat} {ys : List Value} {L L' : List Chunk} (h : Pick (own B m c e size ys) L L') : ∀ w, Sat w L → Rd B ys w := fun _ hs => by
  obtain ⟨_, _, h1⟩ := (hs.pick h).head
  exact rd_of_own h1.1
theorem rd_cel {b e : Nat} {ys : List Value} {L L' : List Chunk} (h : Pick (cel b e ys) L L') : ∀ w, Sat w L → Rd (some ⟨b, 0, none⟩) ys w := fun w hs => by
  have hb := (hs.pick h).blk
  intro j u hu
  refine ⟨_, rfl, ?_⟩
  rw [add_off, Nat.zero_add, cell_of hb]
  exact hu
theorem rd_nil {B : Option Addr} {L : List Chunk} : ∀ w, Sat w L → Rd B [] w := fun _ _ j u hu => by simp at hu
theorem rd_keep {B : Option Addr} {ys : List Value} {c : Chunk} {L : List Chunk} (h : ∀ w, Sat w L → Rd B ys w) : ∀ w, Sat w (c :: L) → Rd B ys w := fun w hs => h w hs.drop
theorem Rd.at {B : Option Addr} {ys : List Value} {w : World} (h : Rd B ys w) {i : Nat} {u : Value} (hi : ys[i]? = some u) : ∃ ad, B = some ad ∧ w.cell? (ad.add i) = some u := h i u hi

/-! ### numbers within their kinds -/
theorem i64_in {n : Int} (h1 : -9223372036854775808 ≤ n) (h2 : n ≤ 9223372036854775807) : IntKind.i64.wrap n = n := IntWalk.i64_in n ⟨h1, h2⟩
theorem u8_in {n : Int} (h1 : 0 ≤ n) (h2 : n ≤ 255) : IntKind.u8.wrap n = n := IntWalk.u8_in n ⟨h1, h2⟩
theorem u32_in {n : Int} (h1 : 0 ≤ n) (h2 : n ≤ 4294967295) : IntKind.u32.wrap n = n := IntWalk.u32_in n ⟨h1, h2⟩
theorem u64_in {n : Int} (h1 : 0 ≤ n) (h2 : n ≤ 18446744073709551615) : IntKind.u64.wrap n = n := IntWalk.u64_in n ⟨h1, h2⟩

/-! ### bytes -/
def bv (b : UInt8) : Value := .int .u8 (b.toNat : Int)
def bvs (l : List UInt8) : List Value := l.map bv
theorem bvs_one {l : List UInt8} : ∀ u ∈ bvs l, u.oneCell' = true := by
  intro u hu
  obtain ⟨b, _, rfl⟩ := List.mem_map.1 hu
  rfl
@[simp] theorem bvs_length (l : List UInt8) : (bvs l).length = l.length := by simp [bvs]
theorem bvs_append (l m : List UInt8) : bvs (l ++ m) = bvs l ++ bvs m := by simp [bvs]
theorem rd_nilb {B : Option Addr} {L : List Chunk} : ∀ w, Sat w L → Rd B (bvs []) w := fun _ _ j u hu => by simp [bvs] at hu
theorem strCells_bvs (s : ByteArray) : Lib.strCells s = bvs s.data.toList := rfl

theorem rd_nonev {A : Option Addr} {l : List Value} {w : World} (h : Rd A l w) (hn : A.isNone = true) : l = [] := by
  cases l with
  | nil => rfl
  | cons b l =>
    obtain ⟨ad, had, _⟩ := h 0 b rfl
    subst had
    cases hn
theorem rd_none {A : Option Addr} {l : List UInt8} {w : World} (h : Rd A (bvs l) w) (hn : A.isNone = true) : l = [] := by
  have := rd_nonev h hn
  simpa [bvs] using this
theorem one_app {l m : List Value} (h1 : ∀ u ∈ l, u.oneCell' = true) (h2 : ∀ u ∈ m, u.oneCell' = true) : ∀ u ∈ l ++ m, u.oneCell' = true := fun u hu => (List.mem_append.1 hu).elim (h1 u) (h2 u)
theorem ent_own {A : Option Addr} {n c e s : Nat} {xs ys : List Value} {L : List Chunk} (h : xs = ys) : Ent (own A n c e s xs :: L) (own A n c e s ys :: L) := h ▸ ent_refl
theorem wrapU8 (n : Nat) : IntKind.u8.wrap (n : Int) = ((UInt8.ofNat n).toNat : Int) := by
  simp [IntKind.wrap, IntKind.bits, IntKind.signed]
theorem toNat_succ (k : Nat) : ((k : Int) + 1).toNat = k + 1 := by omega
/-- a round's end -/
theorem gq_next {Q : Exit → Act → World → Prop} {K : Act → World → Prop} {n : Nat} {ds : List Deferred} {env : Env} {L : List Chunk} (h : ∀ a w, Ok n ds env a → Sat w L → K a w) : GQ (Exit.then K Q) n ds .normal env L := h
theorem ent_up {c : Chunk} {L L' : List Chunk} (h : Ent L L') : Ent (c :: L) L' := ent_trans ent_drop h
theorem gq_end {Q : Exit → Act → World → Prop} {n : Nat} {ds : List Deferred} {e : Exit} {env : Env} {L L' : List Chunk} (h : GQ Q n ds e env L') (he : Ent L L') : GQ Q n ds e env L := gq_ent he h
end Go.Sx
