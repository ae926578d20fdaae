/-
  The runner is right: append to what is known; deletion; iterators; all operations that turn memory.
-/
import Derived.Test.YtkoojoeimdfkgaaGreatDoorExN
namespace Go.Ex
open Go Go.RowKit Go.Sx

section
variable {P : Program} (TT : TyTab P) {G : Nat → Option Nat} {env : T AV} {h h1 h' : Heap} {a : Act} {ν : Vl} {w : World} {N nb id : Nat} {ro : Option AV}
variable (hs : Slots ν env a.tmps) (hg : GOk ν G) (hm : Mem ν N h w) (hN : N ≤ nb) (hf : Fresh ν G id env h)
variable {dst : Option Tmp} {ty : TypeId} {pos : String} {af : Array Edge} {gu : Option (Nat × Bool)}

include hm hN hf in
/-- a place is given up, a new one is there -/
theorem Mem.swap {i : Nat} {o1 o : AObj} (hi : h.at i = some o1) (hset : h.set nb i .dead = some h1) (hn : h1.new nb id o = some h') : ∃ R, Sat w (chunk ν i o1 :: chunks ν R) ∧ ∀ {ν' : Vl} {w' : World}, Off id ν ν' → Sat w' (chunk ν' id o :: chunks ν R) → Mem ν' nb h' w' := by
  obtain ⟨⟨h2, h2'⟩, o2, R, h3, h4, h5⟩ := Heap.set_spec hset
  rw [hi] at h3
  injection h3 with h3
  subst h3
  obtain ⟨⟨h6, h6'⟩, h7, h8⟩ := Heap.new_spec hn
  have hlt : i < N := (hm.ok (i, o1) (h4.mem_iff.2 (List.mem_cons_self ..))).1
  have hR : ∀ x ∈ R, x ∈ h.toL := fun x hx => h4.mem_iff.2 (List.mem_cons_of_mem _ hx)
  refine ⟨R, hm.sat.ent (ent_perm (chunks_perm (ν := ν) h4)), fun {ν' w'} ho hs' => ⟨?_, fun x hx => ?_⟩⟩
  · have hc := hf.chs ho hR
    have hd : Sat w' (chunk ν' i .dead :: chunk ν' id o :: chunks ν R) := (hs'.addRo (p := fun _ => True) (fun _ _ => trivial)).imp fun S w2 hh => ⟨hh.1, trivial⟩
    have hd2 := hd.ent ent_swap
    have hp : (chunks ν' h'.toL).Perm (chunk ν' id o :: chunk ν' i .dead :: chunks ν' R) := (chunks_perm (ν := ν') h8).trans ((chunks_perm (ν := ν') h5).cons _)
    rw [hc] at hp
    exact hd2.ent (ent_perm hp.symm)
  · rcases List.mem_cons.1 (h8.mem_iff.1 hx) with rfl | hx
    · exact ⟨h7, h6, h6'⟩
    · rcases List.mem_cons.1 (h5.mem_iff.1 hx) with rfl | hx
      · exact ⟨Nat.lt_of_lt_of_le hlt hN, h2, h2'⟩
      · exact (hm.ok.le hN) x (hR x hx)

theorem own_chunk {A : Option Addr} {c e size n i : Nat} {ν' : Vl} {l : List AV} {L : List Chunk} (hν : ν' i = .sl A c) (hs' : Sat w (own A n c e size (AV.vals ν' l) :: L)) : Sat w (chunk ν' i (.own e size n l) :: L) :=
  hs'.imp fun S w2 hh => ⟨fun ad had => by rw [hν] at had; exact hh.2 ad had, A, c, hν, hh.1⟩
theorem chunk_own {e size n i : Nat} {l : List AV} {L : List Chunk} (hs' : Sat w (chunk ν i (.own e size n l) :: L)) : ∃ A c, ν i = .sl A c ∧ Sat w (own A n c e size (AV.vals ν l) :: L) := by
  obtain ⟨S, _, _, A, c, h1, _⟩ := hs'.head
  refine ⟨A, c, h1, hs'.imp fun S w2 hh => ?_⟩
  obtain ⟨h2, A', c', h3, h4⟩ := hh
  rw [h1] at h3
  injection h3 with h3 h5
  subst h3; subst h5
  exact ⟨h4, fun ad had => h2 ad (by rw [h1]; exact had)⟩
theorem own_take {A : Option Addr} {n c e size k : Nat} {xs : List Value} {L : List Chunk} (hk : k ≤ n) (hs' : Sat w (own A n c e size xs :: L)) : Sat w (own A k c e size (xs.take (k * size)) :: L) := by
  refine hs'.imp fun S w2 hh => ⟨?_, hh.2⟩
  rcases own_block hh.1 with ⟨rfl, rfl, rfl, rfl⟩ | ⟨g, cur, rfl, h2, h3, h4, h5, h6, h7⟩
  · have : k = 0 := by omega
    subst this
    simpa using World.ownsRow_nil w2 0 e size
  · have hle : k * size ≤ n * size := Nat.mul_le_mul_right _ hk
    refine ⟨by rw [List.length_take, h7]; omega, .inr ⟨g, c, cur, rfl, Nat.zero_le _, h2, by omega, h4, h5, ?_⟩⟩
    rw [← h6, List.take_take]
    congr 1
    omega

/-- the value of a slice that one has made -/
theorem sl_own (i n : Nat) (ν' : Vl) {A : Option Addr} {c : Nat} (hν : ν' i = .sl A c) : (AV.sl i 0 n 0 true).val ν' = .slice A n c := by
  simp only [AV.val, hν, En.adr, En.cap, addr_add0, if_true, Nat.sub_zero]

section
variable {t tx e : TypeId} {f : TypeInfo} {z : Value} {inp : Bool} {xv : Value} {m : Nat} {ys : List AV} {j : TyI}
variable (hA : ASrc P t tx ty e f z inp xv m (AV.vals ν ys) w) (hfs : f.size = j.size) (hzs : z.cells.size = f.size) (hby : f.bytes < 1000000)
include hm hN hf hA hfs hzs hby in
theorem grow_ok {base : Option Addr} {sLen sCap : Nat} {pre : List AV} (h0 : m ≠ 0) (hold : (Builtin.firstCells f.size sLen (.slice base sLen sCap)).run P w.drew = .ok (AV.vals ν pre).toArray w.drew) (hpl : pre.length = sLen * f.size) (hg' : sCap < sLen + m) (hb : sLen + m ≤ 100000000)
    (hkeep : ∀ ν', Off id ν ν' → AV.vals ν' (pre ++ ys) = AV.vals ν (pre ++ ys)) (hn : h.new nb id (.own e j.size (sLen + m) (pre ++ ys)) = some h') :
    ∃ ν' w', Off id ν ν' ∧ (Builtin.append_ #[t, tx] ty #[.slice base sLen sCap, xv]).run P w = .ok ((AV.sl id 0 (sLen + m) 0 true).val ν') w' ∧ Mem ν' nb h' w' := by
  have hr := hA.grow h0 base sLen sCap (AV.vals ν pre) hold hg' hb hby
  have hge := grownCap_ge w (sLen + m) sCap e
  have hcm := grownCap_le_maxLen w (sLen + m) sCap e (by unfold maxLen; omega)
  refine ⟨ν.put id (.sl (some ⟨w.heap.size, 0, none⟩) (grownCap w (sLen + m) sCap e)), w.drew.alloc (.cells ((AV.vals ν pre ++ AV.vals ν ys).toArray ++ Builtin.zeroCells z.cells (grownCap w (sLen + m) sCap e - (sLen + m))) e), Vl.put_off _ _ _, ?_, hm.new hN hf hn (Vl.put_off _ _ _) (own_chunk (Vl.put_at _ _ _) ?_)⟩
  · rw [sl_own _ _ _ (Vl.put_at _ _ _)]
    exact hr
  · rw [hkeep _ (Vl.put_off _ _ _), vals_append]
    have hsat := hm.sat.drew.alloc (.cells ((AV.vals ν pre ++ AV.vals ν ys).toArray ++ Builtin.zeroCells z.cells (grownCap w (sLen + m) sCap e - (sLen + m))) e)
    refine hsat.imp fun S w2 hh => ?_
    refine ownsRow_new (xs := AV.vals ν pre ++ AV.vals ν ys) (n := sLen + m) (z := z.cells) ?_ hge hcm (by rw [hzs, hfs]) S _ hh.1 hh.2
    rw [List.length_append, AV.vals_length, hpl, hA.len, hfs, Nat.add_mul]
include hA hfs hby in
theorem inplace_ok {A : Option Addr} {len c : Nat} {pre : List AV} {R : List (Nat × AObj)} (hinp : inp = true) (h0 : m ≠ 0) (hb : len + m ≤ 100000000) (hone : cellsB ys = true)
    (hsat : Sat w (own A len c e f.size (AV.vals ν pre) :: chunks ν R)) (hback : ∀ {ν' : Vl} {w' : World}, Off id ν ν' → Sat w' (chunk ν' id (.own e j.size (len + m) (pre ++ ys)) :: chunks ν R) → Mem ν' nb h' w')
    (hkeep : ∀ ν', Off id ν ν' → AV.vals ν' (pre ++ ys) = AV.vals ν (pre ++ ys)) :
    ∃ ν' w', Off id ν ν' ∧ (Builtin.append_ #[t, tx] ty #[.slice A len c, xv]).run P w = .ok ((AV.sl id 0 (len + m) 0 true).val ν') w' ∧ Mem ν' nb h' w' := by
  obtain ⟨S, _, hown⟩ := hsat.head
  obtain ⟨v', w', h2, h3, h4, h5⟩ := hA.own h0 hinp A len c _ hown.1 hb hby (cellsB_one hone ν)
  obtain ⟨A', c', rfl⟩ := slice_val h3
  refine ⟨ν.put id (.sl A' c'), w', Vl.put_off _ _ _, ?_, hback (Vl.put_off _ _ _) (own_chunk (Vl.put_at _ _ _) ?_)⟩
  · rw [sl_own _ _ _ (Vl.put_at _ _ _)]
    exact h2
  · rw [hkeep _ (Vl.put_off _ _ _), vals_append]
    have := hsat.grow h3 h4 h5
    rw [← hfs]
    exact this
include hm hN hf hA hfs hzs hby in
theorem appendA_ok {x : AV} (hx : ∀ ν', Off id ν ν' → x.val ν' = x.val ν) (hys : ∀ ν', Off id ν ν' → AV.vals ν' ys = AV.vals ν ys) (hv : appendA inp nb h id e j x m ys = some (ro, h')) :
    ∃ r ν' w', ro = some r ∧ Off id ν ν' ∧ (Builtin.append_ #[t, tx] ty #[x.val ν, xv]).run P w = .ok (r.val ν') w' ∧ Mem ν' nb h' w' := by
  unfold appendA at hv
  split at hv
  · rename_i hm0
    have hm0 := Nat.eq_of_beq_eq_true hm0
    split at hv
    · simp only [Option.some.injEq, Prod.mk.injEq] at hv
      obtain ⟨rfl, rfl⟩ := hv
      exact ⟨_, ν, w, rfl, Off.refl _ _, hA.nothing hm0 none 0 0 (Nat.le_refl _), hm.le hN⟩
    · rename_i i off len cap sym
      split at hv
      · split at hv
        case h_2 => cases hv
        rename_i hle
        simp only [Option.some.injEq, Prod.mk.injEq] at hv
        obtain ⟨rfl, rfl⟩ := hv
        exact ⟨_, ν, w, rfl, Off.refl _ _, hA.nothing hm0 _ _ _ (Nat.le_of_ble_eq_true hle), hm.le hN⟩
      · split at hv
        case h_2 => cases hv
        rename_i hsy
        simp only [Option.some.injEq, Prod.mk.injEq] at hv
        obtain ⟨rfl, rfl⟩ := hv
        obtain ⟨o, ho⟩ : ∃ o, h.at i = some o := by
          cases ho : h.at i with
          | none => rw [ho] at hsy; cases hsy
          | some o => exact ⟨o, rfl⟩
        rw [ho] at hsy
        have hcap := symOk_cap hsy (hm.fact ho)
        exact ⟨_, ν, w, rfl, Off.refl _ _, hA.nothing hm0 _ _ ((ν i).cap - cap) (by omega), hm.le hN⟩
    · cases hv
  · rename_i hm0
    have hm0 := Nat.ne_of_beq_eq_false hm0
    split at hv
    · cases hv
    rename_i hc
    simp only [Bool.and_eq_true] at hc
    have hmm := blt_lt hc.2
    split at hv
    · split at hv
      case h_2 => cases hv
      rename_i h2 hn
      simp only [Option.some.injEq, Prod.mk.injEq] at hv
      obtain ⟨rfl, rfl⟩ := hv
      obtain ⟨ν', w', e1, e2, e3⟩ := grow_ok hm hN hf hA hfs hzs hby (base := none) (sLen := 0) (sCap := 0) (pre := []) hm0 (by simpa [AV.vals] using run_firstCells_none (P := P) w.drew f.size 0 0 0) (by simp) (by omega) (by omega) (fun ν' ho => by simpa using hys ν' ho) (by simpa using hn)
      refine ⟨_, ν', w', rfl, e1, ?_, e3⟩
      simpa [AV.val] using e2
    · rename_i i off len cap sym
      split at hv
      · split at hv
        case h_2 => cases hv
        rename_i e' sz k xs hio ho
        simp only [Bool.and_eq_true] at hio
        obtain ⟨⟨hin, hoff⟩, hcap0⟩ := hio
        have hoff := Nat.eq_of_beq_eq_true hoff
        have hcap0 := Nat.eq_of_beq_eq_true hcap0
        subst hoff; subst hcap0
        split at hv
        case h_2 => cases hv
        rename_i pre hc2 hpre
        simp only [Bool.and_eq_true] at hc2
        obtain ⟨⟨⟨he, hsz⟩, hlk⟩, hlb⟩ := hc2
        have he := Nat.eq_of_beq_eq_true he
        have hsz := Nat.eq_of_beq_eq_true hsz
        subst he; subst hsz
        have hlk := Nat.le_of_ble_eq_true hlk
        have hlb := blt_lt hlb
        rw [spine_eq] at hv
        split at hv
        case h_2 => cases hv
        rename_i h2 hset
        split at hv
        case h_2 => cases hv
        rename_i h3 hn
        simp only [Option.some.injEq, Prod.mk.injEq] at hv
        obtain ⟨rfl, rfl⟩ := hv
        obtain ⟨R, hsat, hback⟩ := Mem.swap hm hN hf ho hset hn
        obtain ⟨A, c, hν, hsat⟩ := chunk_own hsat
        have hsat := own_take hlk hsat
        obtain ⟨p1, p2⟩ := takeA_spec hpre
        rw [← vals_take, ← p1] at hsat
        have hkp : ∀ ν', Off id ν ν' → AV.vals ν' pre = AV.vals ν pre := fun ν' ho' => vals_keep fun b hb => hf.rds ho' ho (l := xs) rfl b (List.mem_of_mem_take (by rw [← p1]; exact hb))
        obtain ⟨ν', w', e1, e2, e3⟩ := inplace_ok hA hfs hby hin hm0 (by omega) hc.1 (by rw [hfs]; exact hsat) hback (fun ν' ho' => by rw [vals_append, vals_append, hkp ν' ho', hys ν' ho'])
        refine ⟨_, ν', w', rfl, e1, ?_, e3⟩
        rw [sl_own _ _ _ hν]
        exact e2
      · split at hv
        · rename_i hcl
          have hcl := blt_lt hcl
          split at hv
          case h_2 => cases hv
          rename_i o ho
          split at hv
          case h_2 => cases hv
          rename_i l hl
          split at hv
          case h_2 => cases hv
          rename_i pre hpre hlb
          simp only [Bool.and_eq_true] at hlb
          have hlb1 := blt_lt hlb.1
          rw [spine_eq] at hv
          split at hv
          case h_2 => cases hv
          rename_i h2 hn
          simp only [Option.some.injEq, Prod.mk.injEq] at hv
          obtain ⟨rfl, rfl⟩ := hv
          obtain ⟨p1, p2⟩ := takeA_spec hpre
          rw [dropA_eq] at p1
          have hkp : ∀ ν', Off id ν ν' → AV.vals ν' pre = AV.vals ν pre := fun ν' ho' => vals_keep fun b hb => hf.rds ho' ho hl b (List.mem_of_mem_drop (List.mem_of_mem_take (by rw [← p1]; exact hb)))
          have hrd := reads_rd hl (hm.fact ho)
          have hold : (Builtin.firstCells f.size len (.slice ((ν i).adr.map (·.add off)) len cap)).run P w.drew = .ok (AV.vals ν pre).toArray w.drew := by
            cases hadr : (ν i).adr with
            | none =>
              rw [hadr] at hrd
              have hl0 := rd_nonev hrd rfl
              have : l = [] := by
                cases l with
                | nil => rfl
                | cons y l => simp [AV.vals] at hl0
              subst this
              have : pre = [] := by simpa using p1
              subst this
              simpa [AV.vals] using run_firstCells_none (P := P) w.drew f.size len len cap
            | some ad =>
              refine run_firstCells_some w.drew f.size len (ad.add off) len cap (AV.vals ν pre) (by rw [AV.vals_length, p2, hfs]) ?_
              intro q u hu
              rw [p1, vals_take, vals_drop, List.getElem?_take] at hu
              split at hu
              case isFalse => cases hu
              rw [List.getElem?_drop] at hu
              obtain ⟨ad', h6, h7⟩ := hrd _ _ hu
              rw [hadr] at h6
              injection h6 with h6
              subst h6
              rw [Addr.add_add']
              exact h7
          obtain ⟨ν', w', e1, e2, e3⟩ := grow_ok hm hN hf hA hfs hzs hby hm0 hold (by rw [p2, hfs]) hcl (by omega) (fun ν' ho' => by rw [vals_append, vals_append, hkp ν' ho', hys ν' ho']) hn
          refine ⟨_, ν', w', rfl, e1, ?_, e3⟩
          simp only [AV.val, Bool.false_eq_true, if_false] at e2 ⊢
          exact e2
        · split at hv
          case h_2 => cases hv
          rename_i e' xs hio ho
          simp only [Bool.and_eq_true] at hio
          have hoff := Nat.eq_of_beq_eq_true hio.2
          subst hoff
          split at hv
          case h_2 => cases hv
          rename_i pre hc2 hpre
          simp only [Bool.and_eq_true, lenA_eq, Nat.add_zero] at hc2
          obtain ⟨⟨⟨he, hxl⟩, hlc⟩, hcb⟩ := hc2
          have he := Nat.eq_of_beq_eq_true he
          have hxl := Nat.eq_of_beq_eq_true hxl
          have hlc := Nat.le_of_ble_eq_true hlc
          have hcb := blt_lt hcb
          subst he
          rw [spine_eq] at hv
          split at hv
          case h_2 => cases hv
          rename_i h2 hset
          split at hv
          case h_2 => cases hv
          rename_i h3 hn
          simp only [Option.some.injEq, Prod.mk.injEq] at hv
          obtain ⟨rfl, rfl⟩ := hv
          obtain ⟨R, hsat, hback⟩ := Mem.swap hm hN hf ho hset hn
          obtain ⟨b, hν, hsat⟩ := sat_cel hsat
          obtain ⟨p1, p2⟩ := takeA_spec hpre
          have hsat2 : Sat w (own (some ⟨b, 0, none⟩) cap cap e j.size (AV.vals ν xs) :: chunks ν R) := hsat.ent (ent_cons (pick_cel pick_here (by rw [AV.vals_length, hxl]) (by unfold maxLen; omega)) ent_refl)
          have hsat := own_take hlc hsat2
          rw [← vals_take, ← p1] at hsat
          have hkp : ∀ ν', Off id ν ν' → AV.vals ν' pre = AV.vals ν pre := fun ν' ho' => vals_keep fun b hb => hf.rds ho' ho (l := xs) rfl b (List.mem_of_mem_take (by rw [← p1]; exact hb))
          obtain ⟨ν', w', e1, e2, e3⟩ := inplace_ok hA hfs hby hio.1 hm0 (by omega) hc.1 (by rw [hfs]; exact hsat) hback (fun ν' ho' => by rw [vals_append, vals_append, hkp ν' ho', hys ν' ho'])
          refine ⟨_, ν', w', rfl, e1, ?_, e3⟩
          simp only [AV.val, hν, En.adr, Option.map_some, add_off, Nat.add_zero, Bool.false_eq_true, if_false] at e2 ⊢
          exact e2
    · cases hv
end
end
end Go.Ex
