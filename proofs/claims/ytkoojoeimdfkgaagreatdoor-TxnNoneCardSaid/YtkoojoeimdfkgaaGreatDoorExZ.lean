/-
  The runner is right.
-/
import Derived.Test.YtkoojoeimdfkgaaGreatDoorExY
namespace Go.Ex
open Go Go.RowKit Go.Sx

section
variable {P : Program} {K : Tl P} {ν ν' : Vl} {w w' : World} {n nb : Nat} {h h' : Heap}
theorem psX_ok {nt : Nat} : ∀ (ps : List Tmp) (l : List AV) {ev env : T AV} {tm : Array Value}, psX nt n ps l ev = some env → Slots ν ev tm → tm.size = nt → (∀ t v, ev.get t t = some v → v.okB n = true) →
    Slots ν env ((ps.zip (AV.vals ν l)).foldl (fun tmps (t, a) => tmps.setIfInBounds t a) tm) ∧ ((ps.zip (AV.vals ν l)).foldl (fun tmps (t, a) => tmps.setIfInBounds t a) tm).size = nt ∧ (∀ t v, env.get t t = some v → v.okB n = true) ∧ ps.length = l.length
  | [], [], ev, env, tm, h, hs, hz, he => by
    simp only [psX, Option.some.injEq] at h
    subst h
    exact ⟨hs, hz, he, rfl⟩
  | p :: ps, a :: l, ev, env, tm, h, hs, hz, he => by
    simp only [psX, forceV_eq] at h
    split at h
    case h_2 => cases h
    rename_i hc
    simp only [Bool.and_eq_true] at hc
    split at h
    case h_2 => cases h
    rename_i ev1 o hu
    have hd := Nat.le_of_ble_eq_true hc.2
    have h1 : Slots ν ev1 (tm.setIfInBounds p (a.val ν)) := by
      intro t u hv
      have hu0 := hv
      rcases T.get_upd _ _ _ _ _ _ _ _ _ _ hu hv with ⟨rfl, rfl⟩ | hv
      · simp [Array.getElem?_setIfInBounds, hz]; omega
      · by_cases htd : p = t
        · subst htd
          have h1 := T.upd_self _ _ _ _ _ _ _ hu
          have h2 : T.get ev1 p p = some u := hu0
          rw [h1] at h2
          injection h2 with h2
          subst h2
          simp [Array.getElem?_setIfInBounds, hz]; omega
        · rw [Array.getElem?_setIfInBounds_ne htd]
          exact hs t u hv
    have h2 : ∀ t v, T.get ev1 t t = some v → v.okB n = true := fun t v hv => by
      rcases T.get_upd _ _ _ _ _ _ _ _ _ _ hu hv with ⟨rfl, rfl⟩ | hv
      · exact hc.1
      · exact he t v hv
    obtain ⟨g1, g2, g3, g4⟩ := psX_ok ps l h h1 (by simpa using hz) h2
    exact ⟨g1, g2, g3, by simp [g4]⟩
  | [], _ :: _, _, _, _, h, _, _, _ => by cases h
  | _ :: _, [], _, _, _, h, _, _, _ => by cases h

variable (K) in
/-- what is told by contract is told right -/
def XOk : Prop := ∀ g k, K.X g = some k → ∀ {args : List AV} {h h' : Heap} {n n' : Nat} {v : AV} {ν : Vl} {w : World}, k args h n = some (v, h', n') → Mem ν n h w → GInv K n ν → AV.oksB n args = true → CallOk P g (AV.vals ν args).toArray w (Left ν n ⟨.norm, ⟨.e, h', n', []⟩, v⟩)

theorem run_callFunc_fn (fi : FnP P) (args : Array Value) (w : World) : (callFunc fi.id args).run P w = .ok (.enter fi.id args) w := by
  have hf := fi.hf
  have hb := fi.hb
  have hn := fi.hn
  have hn' : ¬ fi.fn.name = "runtime.NumGoroutine" := by simpa using hn
  simp [callFunc, hf, hn', hb]

theorem call_ok {ih : Task → Option Res} (hih : Sound K ih) (hx : XOk K) {f g : Nat} {args : List AV} {r : Res} (hr : runF K ih f (.call g args h n) = some r) (hm : Mem ν n h w) (hg : GInv K n ν) (hok : AV.oksB n args = true) :
    CallOk P g (AV.vals ν args).toArray w (Left ν n r) := by
  simp only [runF] at hr
  split at hr
  · rename_i k hk
    split at hr
    case h_2 => cases hr
    rename_i v h2 n2 hv
    injection hr with hr
    subst hr
    exact hx g k hk hv hm hg hok
  · split at hr
    case h_2 => cases hr
    rename_i fi hfi
    split at hr
    case h_2 => cases hr
    rename_i env hid henv
    have hid := nbeq hid
    subst hid
    split at hr
    case h_2 => cases hr
    rename_i r1 h1
    have hcode : ∀ (kind : CallKind) (cs : List Frame), Leads K ⟨fi.id, fi.fn.ntmps, none⟩ ⟨env, h, n, []⟩ ν r1 { (default : Frame) with fn := fi.id, kind := kind, roundOf := none } [] cs (lone (Frame.enter P fi.id (AV.vals ν args).toArray kind) cs w) := by
      intro kind cs
      obtain ⟨g1, g2, g3⟩ := argsX_ok (ν := ν) (tm := (AV.vals ν args).toArray ++ Array.replicate (fi.fn.ntmps - (AV.vals ν args).toArray.size) undef) args 0 henv slots_e (fun t v hv => by simp [T.get] at hv) (fun j v hj => by
        have : (AV.vals ν args)[j]? = some (v.val ν) := by rw [vals_get, hj]; rfl
        have hlt : j < (AV.vals ν args).length := (List.getElem?_eq_some_iff.1 this).1
        rw [Nat.zero_add, Array.getElem?_append_left (by simpa using hlt)]
        simpa using this)
      have hsize : ((AV.vals ν args).toArray ++ Array.replicate (fi.fn.ntmps - (AV.vals ν args).toArray.size) undef).size = fi.fn.ntmps := by
        simp only [Array.size_append, List.size_toArray, Array.size_replicate, AV.vals_length]
        rcases g3 with rfl | g3
        · simp
        · omega
      have hent : Frame.enter P fi.id (AV.vals ν args).toArray kind = ({ (default : Frame) with fn := fi.id, kind := kind, roundOf := none } : Frame).atR { tmps := (AV.vals ν args).toArray ++ Array.replicate (fi.fn.ntmps - (AV.vals ν args).toArray.size) undef, defers := [] } [.code fi.body] := by
        simp [Frame.enter, Frame.atR, fi.hf, fi.hb]
      rw [hent]
      exact hih.code h1 ⟨g1, hsize, rfl, hm, g2, (fun d hd => by cases hd), hg⟩ ⟨rfl, rfl, fun l hl => by cases hl⟩
    split at hr
    · cases hr
    rename_i hne
    split at hr
    case h_2 => cases hr
    rename_i h2 n2 hlv
    split at hr
    case h_2 => cases hr
    rename_i v hv
    split at hr
    case h_2 => cases hr
    rename_i hvok
    injection hr with hr
    subst hr
    refine .inr ⟨run_callFunc_fn fi _ _, fun kind cs => ?_⟩
    obtain ⟨ν1, a1, w1, e1, e2, e3, e4⟩ := hcode kind cs
    have hend : ∃ k1, Steps P (lone (Frame.enter P fi.id (AV.vals ν args).toArray kind) cs w) (lone { ({ (default : Frame) with fn := fi.id, kind := kind, roundOf := none } : Frame).atR a1 k1 with mode := .returning } cs w1) := by
      cases he : r1.e with
      | norm =>
        rw [he] at e4
        exact ⟨[], Steps.trans e4 (.one (stepR_end rfl))⟩
      | ret =>
        rw [he] at e4
        obtain ⟨k1, e4⟩ := e4
        exact ⟨_, e4.trans (.one (stepR_ret rfl))⟩
      | exit id => exact absurd he (hne id)
    obtain ⟨k1, hsteps⟩ := hend
    obtain ⟨ν2, w2, f1, f2, f3, f4⟩ := leave_ok hih r1.s.ds hlv e3.mem e3.glob e3.dok { ({ (default : Frame) with fn := fi.id, kind := kind, roundOf := none } : Frame).atR a1 k1 with mode := .returning } cs rfl e3.ds
    have hslots : Slots ν2 r1.s.env a1.tmps := slots_same f1 e3.env e3.slots
    exact ⟨_, w2, v.val ν2, ⟨ν2, e1.trans f1 e2, Nat.le_trans e2 f2, f3, rfl, hvok⟩, hsteps.trans f4, rfl, rfl, rfl, rfl, fi.fn, fi.hf, resV_ok hv hslots f3⟩

theorem round_ok {ih : Task → Option Res} (hih : Sound K ih) {f l : Nat} {args : List AV} {r : Res} (hr : runF K ih f (.round l args h n) = some r) (hm : Mem ν n h w) (hg : GInv K n ν) (hok : AV.oksB n args = true) :
    ∃ f tmps as bd, (Instr.yield (ν l).block (AV.vals ν args).toArray).run P w = .ok (.round (ν l).block f tmps as bd) w ∧
    ∀ (c : Frame) (cs : List Frame), ∃ v w', Left ν n r v w' ∧ Steps P (lone (Frame.round (ν l).block f tmps as bd .normal) (c :: cs) w) (lone (c.finish v) cs w') := by
  simp only [runF] at hr
  split at hr
  case h_2 => cases hr
  rename_i st pend fn nt env ps assign body d hat
  split at hr
  case h_2 => cases hr
  rename_i env1 hps
  split at hr
  case h_2 => cases hr
  rename_i r1 h1
  obtain ⟨bl, tmps, hν, hblk, hsz, hsl⟩ := hm.fact hat
  have hmo := hm.ok (l, _) (T.get_mem _ _ _ _ hat)
  have hlt : l < n := hmo.1
  have henvok : ∀ t v, env.get t t = some v → v.okB n = true := fun t v hv => by
    have := hmo.2.1
    simp only [AObj.okB, Bool.and_eq_true] at this
    exact T.all_mem this.1 _ (T.get_mem _ _ _ _ hv)
  obtain ⟨p1, p2, p3, p4⟩ := psX_ok ps args hps hsl hsz henvok
  rw [hν]
  have hy := run_yield (P := P) (args := (AV.vals ν args).toArray) hblk (by simp [AV.vals_length, p4])
  refine ⟨_, _, _, _, hy, fun c cs => ?_⟩
  have hz : ((ps.toArray.zip (AV.vals ν args).toArray).foldl (fun tmps (t, a) => tmps.setIfInBounds t a) tmps) = ((ps.zip (AV.vals ν args)).foldl (fun tmps (t, a) => tmps.setIfInBounds t a) tmps) := by simp
  simp only [En.block]
  rw [hz]
  have hrd : Frame.round bl fn ((ps.zip (AV.vals ν args)).foldl (fun tmps (t, a) => tmps.setIfInBounds t a) tmps) assign body .normal =
      ({ (default : Frame) with fn := fn, kind := .normal, roundOf := some bl } : Frame).atR { tmps := (ps.zip (AV.vals ν args)).foldl (fun tmps (t, a) => tmps.setIfInBounds t a) tmps, defers := [] } [.code assign, .beginRound, .code body] := by
    simp [Frame.round, Frame.atR]
  rw [hrd]
  generalize hb : ({ (default : Frame) with fn := fn, kind := .normal, roundOf := some bl } : Frame) = b
  have hbk : b.kind = .normal := by rw [← hb]
  have hbr : b.roundOf = some bl := by rw [← hb]
  have hfr : Fr ⟨fn, nt, some l⟩ ν n b := ⟨by rw [← hb], by rw [hbr]; simp only [Option.map_some, hν, En.block], fun l' hl' => by injection hl' with hl'; subst hl'; exact hlt⟩
  have hrel : Rel K ⟨fn, nt, some l⟩ ⟨env1, h, n, []⟩ ν { tmps := (ps.zip (AV.vals ν args)).foldl (fun tmps (t, a) => tmps.setIfInBounds t a) tmps, defers := [] } w := ⟨p1, p2, rfl, hm, p3, (fun d hd => by cases hd), hg⟩
  obtain ⟨ν1, a1, w1, e1, e2, e3, e4⟩ := hih.code h1 (k := [.beginRound, .code body]) (cs := c :: cs) hrel hfr
  split at hr
  case h_2 => cases hr
  rename_i pend1 fn1 nt1 en1 ps1 as1 bd1 d1 hre hrds hat1
  rw [hre] at e4
  split at hr
  case h_2 => cases hr
  rename_i h2 hset2
  split at hr
  case h_2 => cases hr
  rename_i r2 hr2
  have hν1 : ν1 l = .blk bl := by rw [← e1 l hlt]; exact hν
  obtain ⟨b1, tm1, i1, i2, i3, i4⟩ := e3.mem.fact hat1
  rw [hν1] at i1
  injection i1 with i1
  subst i1
  have hbeg := run_beginRound (P := P) i2 rfl
  have hm2 : Mem ν1 r1.s.n h2 (w1.putObj bl (.loop { state := .busy, pending := pend1, fn := fn1, tmps := tm1, params := ps1.toArray, assign := as1, body := bd1, defers := (ν1 d1).block })) :=
    e3.mem.blk (Nat.le_refl _) hat1 hset2 (fun S hS => hS _ hν1) (heap_lt i2) (fun h => by cases h) (fun S w' hS hw => ⟨fun b' hb' => by rw [hν1] at hb'; injection hb' with hb'; subst hb'; exact hS, bl, tm1, hν1, hw, i3, i4⟩)
  have hrel2 : Rel K ⟨fn, nt, some l⟩ ⟨r1.s.env, h2, r1.s.n, []⟩ ν1 a1 (w1.putObj bl (.loop { state := .busy, pending := pend1, fn := fn1, tmps := tm1, params := ps1.toArray, assign := as1, body := bd1, defers := (ν1 d1).block })) :=
    ⟨e3.slots, e3.size, by rw [e3.ds, hrds], hm2, e3.env, (fun d hd => by cases hd), e3.glob⟩
  have hfr1 := hfr.same e1 e2
  obtain ⟨ν2, a2, w2, f1, f2, f3, f4⟩ := hih.code hr2 (k := []) (cs := c :: cs) hrel2 hfr1
  have hsteps := Steps.trans e4 (.one (stepR_beginRound (k := [.code body]) (cs := c :: cs) hbr hbeg))
  split at hr
  case h_2 => cases hr
  rename_i st3 pend3 fn3 nt3 en3 ps3 as3 bd3 d3 hds2 hat2
  have hν2 : ν2 l = .blk bl := by rw [← f1 l (Nat.lt_of_lt_of_le hlt e2)]; exact hν1
  obtain ⟨b2, tm2, j1, j2, j3, j4⟩ := f3.mem.fact hat2
  rw [hν2] at j1
  injection j1 with j1
  subst j1
  have hm3 : ∀ {h3 : Heap} {st' : LoopState} {pend' : Option Code}, r2.s.h.set r2.s.n l (.loop st' pend' fn3 nt3 en3 ps3 as3 bd3 d3) = some h3 →
      Mem ν2 r2.s.n h3 (w2.putObj bl (.loop { state := st', pending := pend', fn := fn3, tmps := tm2, params := ps3.toArray, assign := as3, body := bd3, defers := (ν2 d3).block })) := fun hs3 =>
    f3.mem.blk (Nat.le_refl _) hat2 hs3 (fun S hS => hS _ hν2) (heap_lt j2) (fun h => by cases h) (fun S w' hS hw => ⟨fun b' hb' => by rw [hν2] at hb'; injection hb' with hb'; subst hb'; exact hS, bl, tm2, hν2, hw, j3, j4⟩)
  have hsame := e1.trans f1 e2
  have hle := Nat.le_trans e2 f2
  split at hr
  · rename_i he2
    rw [he2] at f4
    split at hr
    case h_2 => cases hr
    rename_i h3 hs3
    injection hr with hr
    subst hr
    exact ⟨_, _, ⟨ν2, hsame, hle, hm3 hs3, rfl, rfl⟩, hsteps.trans (Steps.trans f4 (.one (stepR_round_end hbr hbk (run_endRound none j2))))⟩
  · rename_i he2
    rw [he2] at f4
    obtain ⟨k1, f4⟩ := f4
    split at hr
    case h_2 => cases hr
    rename_i h3 hs3
    injection hr with hr
    subst hr
    exact ⟨_, _, ⟨ν2, hsame, hle, hm3 hs3, rfl, rfl⟩, hsteps.trans (f4.trans (.one (stepR_round_ret hbr hbk (run_endRound (some .ret) j2))))⟩
  · rename_i id he2
    rw [he2] at f4
    obtain ⟨k1, hk1, f4⟩ := f4
    split at hr
    case h_2 => cases hr
    rename_i h3 hs3
    injection hr with hr
    subst hr
    exact ⟨_, _, ⟨ν2, hsame, hle, hm3 hs3, rfl, rfl⟩, hsteps.trans (f4.trans (.one (stepR_round_exit hbr hbk hk1 (run_endRound (some (.exit id)) j2))))⟩

/-- THE RUNNER IS RIGHT. -/
theorem run_ok (hmo : P.follows .mixedOrders = true) (hx : XOk K) : ∀ f, Sound K (run K f)
  | 0 => ⟨⟨fun h => (by cases h), fun h => (by cases h)⟩, fun h => (by cases h)⟩
  | f + 1 => by
    have ih := run_ok hmo hx f
    exact ⟨⟨fun h _ _ hm hg ha => call_ok ih hx h hm hg ha, fun h _ _ hm hg ha => round_ok ih h hm hg ha⟩, fun h _ _ _ _ _ _ hr hb => codeX_ok ih hmo (fun hc hr hb => rangeFunc_ok ih hc hr hb) h hr hb⟩
end
end Go.Ex
