/-
  The runner: regions, code, calls.
-/
import Derived.Test.YtkoojoeimdfkgaaGreatDoorExB
namespace Go.Ex
open Go Go.RowKit Go.Sx

structure FnP (P : Program) where
  id : Nat
  fn : Func
  body : Code
  hf : P.funcs[id]? = some fn
  hb : fn.body = some body
  hn : (fn.name == "runtime.NumGoroutine") = false

inductive AExit where
  | norm
  | exit (id : Nat)
  | ret
inductive ADef where
  | fn (f : Nat) (args caps : List AV)
  | col (i : Nat)
structure AS where
  env : T AV
  h : Heap
  n : Nat
  ds : List ADef
/-- what is being run: the function's number, its slots, the round's loop -/
structure Cx where
  fn : Nat
  nt : Nat
  r : Option Nat
structure Res where
  e : AExit
  s : AS
  v : AV
inductive Task where
  | code (x : Cx) (c : Code) (s : AS)
  | call (f : Nat) (args : List AV) (h : Heap) (n : Nat)
  | round (l : Nat) (args : List AV) (h : Heap) (n : Nat)

/-- what a run is told: types, variables, functions, and those that are told by a contract -/
structure Tl (P : Program) where
  Ty : TyTab P
  G : Nat → Option Nat
  F : T (FnP P)
  X : Nat → Option (List AV → Heap → Nat → Option (AV × Heap × Nat))

def undA : AV := .tup []

section
variable {P : Program} (K : Tl P)

def putD (nt : Nat) (d : Option Tmp) (a : AV) (s : AS) : Option AS := match d with
  | none => some s
  | some d => forceV a fun a => match a.okB s.n && Nat.ble (d + 1) nt with
    | true => match T.upd 30 s.env d d a with
      | some (e', _) => some { s with env := e' }
      | none => none
    | false => none
def wantO (env : T AV) (ops : List Oper) (o : Oper) : Option Bool := match o.guard with
  | none => some true
  | some (j, want) => match ops[j]? with
    | some oj => match oj.dst with
      | some t => match T.get env t t with
        | some (.v (.bool b)) => some (b == want)
        | some (.tup []) => some false
        | _ => none
      | none => none
    | none => none

/-- what a call goes to -/
inductive Goes where
  | fn (f : Nat) (args : List AV)
  | yield (l : Nat) (args : List AV)
def goes (env : T AV) : Op → Option Goes
  | .call c => match c.callee with
    | .value x => match evA K.G env x, evAs K.G env c.args.toList with
      | some (.func f first caps), some args => some (.fn f (first ++ (args ++ caps)))
      | some (.yield l), some args => some (.yield l args)
      | _, _ => none
    | _ => none
  | _ => none

/-- one operation that is wanted -/
def stepO (ih : Task → Option Res) (x : Cx) (o : Oper) (s : AS) : Option AS :=
  match vop K.Ty.tab K.G s.env s.h o.op with
  | some (a, _) => putD x.nt o.dst a s
  | none => match eff K.Ty.tab K.G (s.n + 1) s.env s.h s.n o.op with
    | some (some a, h') => putD x.nt o.dst a { s with h := h', n := s.n + 1 }
    | some (none, h') => match o.dst with
      | none => some { s with h := h', n := s.n + 1 }
      | some _ => none
    | none => match goes K s.env o.op with
      | some (.fn f args) => match ih (.call f args s.h s.n) with
        | some r => putD x.nt o.dst r.v { s with h := r.s.h, n := r.s.n }
        | none => none
      | some (.yield l args) => match ih (.round l args s.h s.n) with
        | some r => putD x.nt o.dst r.v { s with h := r.s.h, n := r.s.n }
        | none => none
      | none => match o.op, x.r with
        | .defer c, none => match c.callee with
          | .value y => match evA K.G s.env y, evAs K.G s.env c.args.toList with
            | some (.func f first caps), some args => match AV.oksB s.n first && AV.oksB s.n args && AV.oksB s.n caps with
              | true => putD x.nt o.dst undA { s with ds := .fn f (first ++ args) caps :: s.ds }
              | false => none
            | _, _ => none
          | _ => none
        | _, _ => none

def listX (ih : Task → Option Res) (x : Cx) (ops : List Oper) : List Oper → AS → Option AS
  | [], s => some s
  | o :: l, s => match wantO s.env ops o with
    | some true => match stepO K ih x o s with
      | some s' => listX ih x ops l s'
      | none => none
    | some false => match putD x.nt o.dst undA s with
      | some s' => listX ih x ops l s'
      | none => none
    | none => none

/-- the first of those that are ready that yields a value at once -/
def firstV (env : T AV) (h : Heap) (ops : List Oper) : List Nat → Option (Nat × Oper × AV × Option Nat)
  | [] => none
  | i :: r => match ops[i]? with
    | some o => match wantO env ops o with
      | some true => match vop K.Ty.tab K.G env h o.op with
        | some (a, rd) => some (i, o, a, rd)
        | none => firstV env h ops r
      | some false => some (i, o, undA, none)
      | none => none
    | none => none

mutual
def AV.beq : AV → AV → Bool
  | .v (.int k a), .v (.int k' b) => k == k' && ieq a b
  | .v (.bool a), .v (.bool b) => a == b
  | .v (.pointer none), .v (.pointer none) => true
  | .v (.slice none 0 0), .v (.slice none 0 0) => true
  | .v (.map none), .v (.map none) => true
  | .v .nilFunc, .v .nilFunc => true
  | .v .nilIface, .v .nilIface => true
  | .str a, .str b => a == b
  | .ptr i a, .ptr j b => Nat.beq i j && Nat.beq a b
  | .sl i a b c d, .sl i' a' b' c' d' => Nat.beq i i' && (Nat.beq a a' && (Nat.beq b b' && (Nat.beq c c' && (d == d'))))
  | .map i, .map j => Nat.beq i j
  | .yield i, .yield j => Nat.beq i j
  | .opq i, .opq j => Nat.beq i j
  | .func f a c, .func f' a' c' => Nat.beq f f' && (AV.beqs a a' && AV.beqs c c')
  | .iface t x, .iface t' x' => Nat.beq t t' && AV.beq x x'
  | .agg l, .agg l' => AV.beqs l l'
  | .tup l, .tup l' => AV.beqs l l'
  | _, _ => false
def AV.beqs : List AV → List AV → Bool
  | [], [] => true
  | a :: l, b :: m => AV.beq a b && AV.beqs l m
  | _, _ => false
end
def esBeq : List (AV × AV × Nat) → List (AV × AV × Nat) → Bool
  | [], [] => true
  | (a, b, c) :: l, (a', b', c') :: l' => AV.beq a a' && (AV.beq b b' && (Nat.beq c c' && esBeq l l'))
  | _, _ => false
def natsBeq : List Nat → List Nat → Bool
  | [], [] => true
  | a :: l, b :: m => Nat.beq a b && natsBeq l m
  | _, _ => false
def kdBeq : KK → KK → Bool
  | .int a, .int b => kindEq a b
  | .str, .str => true
  | _, _ => false
def oBeq : Option Nat → Option Nat → Bool
  | none, none => true
  | some a, some b => Nat.beq a b
  | _, _ => false
def AObj.beq : AObj → AObj → Bool
  | .cel e l, .cel e' l' => Nat.beq e e' && AV.beqs l l'
  | .own e s n l, .own e' s' n' l' => Nat.beq e e' && (Nat.beq s s' && (Nat.beq n n' && AV.beqs l l'))
  | .fz e l, .fz e' l' => Nat.beq e e' && AV.beqs l l'
  | .rd l, .rd l' => AV.beqs l l'
  | .emp, .emp => true
  | .map kd es c, .map kd' es' c' => kdBeq kd kd' && (Nat.beq c c' && esBeq es es')
  | .mapIter a b c d, .mapIter a' b' c' d' => oBeq a a' && (Nat.beq b b' && (natsBeq c c' && Nat.beq d d'))
  | .dfr, .dfr => true
  | .fr, .fr => true
  | .dead, .dead => true
  | _, _ => false
def T.beq {α : Type} (f : α → α → Bool) : T α → T α → Bool
  | .e, .e => true
  | .n none l r, .n none l' r' => T.beq f l l' && T.beq f r r'
  | .n (some (k, a)) l r, .n (some (k', a')) l' r' => Nat.beq k k' && (f a a' && (T.beq f l l' && T.beq f r r'))
  | _, _ => false
def ADef.beq : ADef → ADef → Bool
  | .fn f a c, .fn f' a' c' => Nat.beq f f' && (AV.beqs a a' && AV.beqs c c')
  | .col i, .col j => Nat.beq i j
  | _, _ => false
def dsBeq : List ADef → List ADef → Bool
  | [], [] => true
  | a :: l, b :: m => ADef.beq a b && dsBeq l m
  | _, _ => false
def AS.beq (s s' : AS) : Bool := Nat.beq s.n s'.n && (dsBeq s.ds s'.ds && (T.beq AV.beq s.env s'.env && T.beq AObj.beq s.h s'.h))

mutual
/-- the name i is not in it -/
def AV.noB (i : Nat) : AV → Bool
  | .v _ => true
  | .str _ => true
  | .ptr j _ => !Nat.beq j i
  | .sl j _ _ _ _ => !Nat.beq j i
  | .map j => !Nat.beq j i
  | .func _ a c => AV.nosB i a && AV.nosB i c
  | .yield j => !Nat.beq j i
  | .iface _ x => x.noB i
  | .agg l => AV.nosB i l
  | .tup l => AV.nosB i l
  | .opq j => !Nat.beq j i
def AV.nosB (i : Nat) : List AV → Bool
  | [] => true
  | a :: l => a.noB i && AV.nosB i l
end
def esNo (i : Nat) : List (AV × AV × Nat) → Bool
  | [] => true
  | (a, b, _) :: l => a.noB i && (b.noB i && esNo i l)
def AObj.noB (i : Nat) : AObj → Bool
  | .cel _ l => AV.nosB i l
  | .own _ _ _ l => AV.nosB i l
  | .fz _ l => AV.nosB i l
  | .rd l => AV.nosB i l
  | .emp => true
  | .map _ es _ => esNo i es
  | .mapIter m _ _ _ => match m with
    | some j => !Nat.beq j i
    | none => true
  | .dfr => true
  | .loop _ _ _ _ env _ _ _ d => T.all (fun _ a => a.noB i) env && !Nat.beq d i
  | .fr => true
  | .dead => true
def dsNo (i : Nat) : List ADef → Bool
  | [] => true
  | .fn _ a c :: l => AV.nosB i a && (AV.nosB i c && dsNo i l)
  | .col j :: l => !Nat.beq j i && dsNo i l
def AS.noB (i : Nat) (s : AS) : Bool := dsNo i s.ds && (T.all (fun _ a => a.noB i) s.env && T.all (fun k o => !Nat.beq k i && o.noB i) s.h)

def sameHeld (h h' : Heap) : List (Nat × Nat) → Bool
  | [] => true
  | (_, i) :: r => match h.at i, h'.at i with
    | some o, some o' => AObj.beq o o' && sameHeld h h' r
    | _, _ => false
/-- o waits for number i -/
def waitsFor (o : Oper) (i : Nat) : Bool := o.after.toList.any fun e => Region.binds .any e && Nat.beq e.on i
/-- what is still held when o comes up: what reads that o does not wait for -/
def heldBy (o : Oper) : List (Nat × Nat) → List (Nat × Nat)
  | [] => []
  | (i, k) :: r => match waitsFor o i with
    | true => heldBy o r
    | false => (i, k) :: heldBy o r

/-- one that is wanted, in a region that draws; a new name is 'id' where several are ready -/
def stepN (ih : Task → Option Res) (x : Cx) (multi : Bool) (id : Nat) (o : Oper) (s : AS) : Option AS :=
  match vop K.Ty.tab K.G s.env s.h o.op with
  | some (a, _) => putD x.nt o.dst a s
  | none => match multi with
    | false => match eff K.Ty.tab K.G (s.n + 1) s.env s.h s.n o.op with
      | some (some a, h') => putD x.nt o.dst a { s with h := h', n := s.n + 1 }
      | some (none, h') => match o.dst with
        | none => some { s with h := h', n := s.n + 1 }
        | some _ => none
      | none => stepG s
    | true => match eff K.Ty.tab K.G s.n s.env s.h id o.op with
      | some (some a, h') => match s.noB id with
        | true => putD x.nt o.dst a { s with h := h' }
        | false => none
      | some (none, h') => match o.dst, s.noB id with
        | none, true => some { s with h := h' }
        | _, _ => none
      | none => stepG s
where
  stepG (s : AS) : Option AS := match goes K s.env o.op with
    | some (.fn f args) => match ih (.call f args s.h s.n) with
      | some r => putD x.nt o.dst r.v { s with h := r.s.h, n := r.s.n }
      | none => none
    | _ => none

/-- all of them, in whatever order -/
def eachX (go : Nat → Option AS) : List Nat → Option AS
  | [] => none
  | [i] => go i
  | i :: j :: r => match go i with
    | some s => match eachX go (j :: r) with
      | some s' => match AS.beq s s' with
        | true => some s
        | false => none
      | none => none
    | none => none

def noDefL : List Oper → Bool
  | [] => true
  | o :: l => (match o.op with | .defer _ => false | _ => true) && noDefL l
def drawX (ih : Task → Option Res) (x : Cx) (ops : List Oper) (base : Nat) : Nat → Bool → List (Nat × Nat) → List Bool → AS → Option AS
  | 0, _, _, _, _ => none
  | f + 1, multi, held, ls, s => match readyL ops ls with
    | [] => some s
    | [i] => match ops[i]? with
      | some o => match wantO s.env ops o with
        | some true => match stepN K ih x multi (base + i) o s with
          | some s' => match sameHeld s.h s'.h (heldBy o held) with
            | true => drawX ih x ops base f multi (heldBy o held) (ls.set i true) s'
            | false => none
          | none => none
        | some false => match putD x.nt o.dst undA s with
          | some s' => drawX ih x ops base f multi (heldBy o held) (ls.set i true) s'
          | none => none
        | none => none
      | none => none
    | rs => match firstV K s.env s.h ops rs with
      | some (i, o, a, rd) => match freeL ops ls i, o.dst with
        | true, some d => match putD x.nt (some d) a s with
          | some s' => drawX ih x ops base f multi (match rd with | some j => (i, j) :: held | none => held) (ls.set i true) s'
          | none => none
        | _, _ => none
      | none => eachX (fun i => match ops[i]? with
          | some o => match wantO s.env ops o with
            | some true => match stepN K ih x true (base + i) o s with
              | some s' => match sameHeld s.h s'.h (heldBy o held) with
                | true => drawX ih x ops base f true (heldBy o held) (ls.set i true) s'
                | false => none
              | none => none
            | _ => none
          | none => none) rs

def loopX (body : AS → Option Res) : Nat → AS → Option Res
  | 0, _ => none
  | m + 1, s => match body s with
    | some r => match r.e with
      | .norm => loopX body m r.s
      | _ => some r
    | none => none

/-- the deferred calls, on the way out -/
def leaveX (ih : Task → Option Res) : List ADef → Heap → Nat → Option (Heap × Nat)
  | [], h, n => some (h, n)
  | .col i :: r, h, n => match h.at i with
    | some .dfr => match h.set n i .dead with
      | some h' => leaveX ih r h' n
      | none => none
    | _ => none
  | .fn f args caps :: r, h, n => match ih (.call f (args ++ caps) h n) with
    | some x => leaveX ih r x.s.h x.s.n
    | none => none

def resA (env : T AV) (h : Heap) : ResultVar → Option AV
  | .tmp t => env.get t t
  | .cell x t => match env.get x x, K.Ty.tab t with
    | some (.ptr i off), some ti => match h.at i with
      | some o => match o.reads with
        | some l => match Nat.beq ti.size 0 with
          | false => partA ti l off
          | true => none
        | none => none
      | none => none
    | _, _ => none
def resAs (env : T AV) (h : Heap) : List ResultVar → Option (List AV)
  | [] => some []
  | r :: l => match resA K env h r with
    | some a => match resAs env h l with
      | some as => some (a :: as)
      | none => none
    | none => none
def resV (env : T AV) (h : Heap) (l : List ResultVar) : Option AV := match resAs K env h l with
  | some [a] => some a
  | some as => some (.tup as)
  | none => none

def argsX (nt : Nat) (n : Nat) : Nat → List AV → T AV → Option (T AV)
  | _, [], ev => some ev
  | i, a :: l, ev => forceV a fun a => match a.okB n && Nat.ble (i + 1) nt with
    | true => match T.upd 30 ev i i a with
      | some (ev1, _) => argsX nt n (i + 1) l ev1
      | none => none
    | false => none
def psX (nt : Nat) (n : Nat) : List Tmp → List AV → T AV → Option (T AV)
  | [], [], ev => some ev
  | p :: ps, a :: l, ev => forceV a fun a => match a.okB n && Nat.ble (p + 1) nt with
    | true => match T.upd 30 ev p p a with
      | some (ev1, _) => psX nt n ps l ev1
      | none => none
    | false => none
  | _, _, _ => none

def codeX (ih : Task → Option Res) (f : Nat) (x : Cx) (c : Code) (s : AS) : Option Res :=
  match c with
  | .skip => some ⟨.norm, s, undA⟩
  | .label _ => some ⟨.norm, s, undA⟩
  | .ret => some ⟨.ret, s, undA⟩
  | .exit id => some ⟨.exit id, s, undA⟩
  | .seq a b => match ih (.code x a s) with
    | some r => match r.e with
      | .norm => ih (.code x b r.s)
      | _ => some r
    | none => none
  | .cond c a b => match evA K.G s.env c with
    | some (.v (.bool true)) => ih (.code x a s)
    | some (.v (.bool false)) => ih (.code x b s)
    | _ => none
  | .block id b => match ih (.code x b s) with
    | some r => match r.e with
      | .exit j => match Nat.beq j id with
        | true => some ⟨.norm, r.s, undA⟩
        | false => some r
      | _ => some r
    | none => none
  | .loop b => loopX (fun s => ih (.code x b s)) f s
  | .scope b => ih (.code x b s)
  | .region _ ops false => match listX K ih x ops.toList ops.toList s with
    | some s' => some ⟨.norm, s', undA⟩
    | none => none
  | .region _ ops true => match noSelL ops.toList && noDefL ops.toList with
    | true => match drawX K ih x ops.toList s.n (ops.toList.length + 1) false [] (List.replicate ops.toList.length false) { s with n := s.n + ops.toList.length } with
      | some s' => some ⟨.norm, s', undA⟩
      | none => none
    | false => none
  | .rangeFunc g ps assign body => match evA K.G s.env g with
    | some (.func gf first caps) => match (match x.r with
        | none => match s.h.new (s.n + 1) s.n .dfr with
          | some h1 => some (s.n, h1, s.n + 1, ADef.col s.n :: s.ds)
          | none => none
        | some l => match s.h.at l with
          | some (.loop _ _ _ _ _ _ _ _ d) => some (d, s.h, s.n, s.ds)
          | _ => none) with
      | some (d, h1, n1, ds1) => match h1.new (n1 + 1) n1 (.loop .ready none x.fn x.nt s.env ps.toList assign body d) with
        | some h2 => match ih (.call gf (first ++ ([.yield n1] ++ caps)) h2 (n1 + 1)) with
          | some r => match r.s.h.at n1 with
            | some (.loop st pend _ _ _ _ _ _ _) => match st == .busy, r.s.h.set r.s.n n1 .dead with
              | false, some h3 => match pend with
                | none => some ⟨.norm, ⟨s.env, h3, r.s.n, ds1⟩, undA⟩
                | some .ret => some ⟨.ret, ⟨s.env, h3, r.s.n, ds1⟩, undA⟩
                | some (.exit id) => some ⟨.exit id, ⟨s.env, h3, r.s.n, ds1⟩, undA⟩
                | _ => none
              | _, _ => none
            | _ => none
          | none => none
        | none => none
      | none => none
    | _ => none
  | _ => none

def runF (ih : Task → Option Res) (f : Nat) (t : Task) : Option Res :=
  match t with
  | .code x c s => codeX K ih f x c s
  | .call g args h n => match K.X g with
    | some k => match k args h n with
      | some (v, h', n') => some ⟨.norm, ⟨.e, h', n', []⟩, v⟩
      | none => none
    | none => match T.get K.F g g with
      | some fi => match Nat.beq fi.id g, argsX fi.fn.ntmps n 0 args .e with
        | true, some env => match ih (.code ⟨g, fi.fn.ntmps, none⟩ fi.body ⟨env, h, n, []⟩) with
          | some r => match r.e with
            | .exit _ => none
            | _ => match leaveX ih r.s.ds r.s.h r.s.n with
              | some (h', n') => match resV K r.s.env h' fi.fn.results.toList with
                | some v => match v.okB n' with
                  | true => some ⟨.norm, ⟨.e, h', n', []⟩, v⟩
                  | false => none
                | none => none
              | none => none
          | none => none
        | _, _ => none
      | none => none
  | .round l args h n => match h.at l with
    | some (.loop _ _ fn nt env ps assign body d) => match psX nt n ps args env with
      | some env1 => match ih (.code ⟨fn, nt, some l⟩ assign ⟨env1, h, n, []⟩) with
        | some r1 => match r1.e, r1.s.ds, r1.s.h.at l with
          | .norm, [], some (.loop .ready pend fn1 nt1 en1 ps1 as1 bd1 d1) => match r1.s.h.set r1.s.n l (.loop .busy pend fn1 nt1 en1 ps1 as1 bd1 d1) with
            | some h2 => match ih (.code ⟨fn, nt, some l⟩ body ⟨r1.s.env, h2, r1.s.n, []⟩) with
              | some r2 => match r2.s.ds, r2.s.h.at l with
                | [], some (.loop _ _ fn nt env ps assign body d) => match r2.e with
                  | .norm => match r2.s.h.set r2.s.n l (.loop .ready none fn nt env ps assign body d) with
                    | some h3 => some ⟨.norm, ⟨.e, h3, r2.s.n, []⟩, .v (.bool true)⟩
                    | none => none
                  | .ret => match r2.s.h.set r2.s.n l (.loop .done (some .ret) fn nt env ps assign body d) with
                    | some h3 => some ⟨.norm, ⟨.e, h3, r2.s.n, []⟩, .v (.bool false)⟩
                    | none => none
                  | .exit id => match r2.s.h.set r2.s.n l (.loop .done (some (.exit id)) fn nt env ps assign body d) with
                    | some h3 => some ⟨.norm, ⟨.e, h3, r2.s.n, []⟩, .v (.bool false)⟩
                    | none => none
                | _, _ => none
              | none => none
            | none => none
          | _, _, _ => none
        | none => none
      | none => none
    | _ => none

def run : Nat → Task → Option Res
  | 0, _ => none
  | f + 1, t => runF K (run f) f t
end
end Go.Ex
