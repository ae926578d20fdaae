/-
  The runner: what each operation does, as a function.
-/
import Derived.Test.YtkoojoeimdfkgaaGreatDoorExA
namespace Go.Ex
open Go Go.RowKit Go.Sx

inductive AObj where
  | cel (e : Nat) (l : List AV)
  | own (e size n : Nat) (l : List AV)
  | fz (e : Nat) (l : List AV)
  | rd (l : List AV)
  | emp
  | map (kd : KK) (es : List (AV × AV × Nat)) (clock : Nat)
  | mapIter (m : Option Nat) (since : Nat) (seen : List Nat) (stepped : Nat)
  | dfr
  | loop (st : LoopState) (pend : Option Code) (fn nt : Nat) (env : T AV) (ps : List Tmp) (assign body : Code) (d : Nat)
  | fr
  | dead

abbrev Heap := T AObj
def Heap.at (h : Heap) (i : Nat) : Option AObj := T.get h i i

def T.all {α : Type} (f : Nat → α → Bool) : T α → Bool
  | .e => true
  | .n none l r => T.all f l && T.all f r
  | .n (some (k, a)) l r => f k a && (T.all f l && T.all f r)
def esOk (n : Nat) : List (AV × AV × Nat) → Bool
  | [] => true
  | (a, b, _) :: l => a.okB n && (b.okB n && esOk n l)
def AObj.okB (n : Nat) : AObj → Bool
  | .cel _ l => AV.oksB n l
  | .own _ _ _ l => AV.oksB n l
  | .fz _ l => AV.oksB n l
  | .rd l => AV.oksB n l
  | .emp => true
  | .map _ es _ => esOk n es
  | .mapIter m _ _ _ => match m with
    | some j => Nat.blt j n
    | none => true
  | .dfr => true
  | .loop _ _ _ _ env _ _ _ d => T.all (fun _ a => a.okB n) env && Nat.blt d n
  | .fr => true
  | .dead => true
def kindEq (a b : IntKind) : Bool := a == b
def keyIs : KK → AV → Bool
  | .int k, .v (.int k' _) => kindEq k k'
  | .str, .str _ => true
  | _, _ => false
def esKey (kd : KK) : List (AV × AV × Nat) → Bool
  | [] => true
  | (k, _, _) :: l => keyIs kd k && esKey kd l
/-- a map's keys are of one kind -/
def AObj.keysB : AObj → Bool
  | .map kd es _ => esKey kd es
  | _ => true
/-- in place of what stands there -/
def Heap.set (h : Heap) (nb : Nat) (i : Nat) (o : AObj) : Option Heap := match o.okB nb && o.keysB with
  | true => match T.upd 30 h i i o with
    | some (h', some _) => some h'
    | _ => none
  | false => none
/-- a new one -/
def Heap.new (h : Heap) (nb : Nat) (i : Nat) (o : AObj) : Option Heap := match o.okB nb && o.keysB && Nat.blt i nb with
  | true => match T.upd 30 h i i o with
    | some (h', none) => some h'
    | _ => none
  | false => none

/-! ### numbers, worked out at once -/
def forceN {β : Type} (m : Nat) (k : Nat → β) : β := match m with
  | 0 => k 0
  | p + 1 => k (p + 1)
theorem forceN_eq {β : Type} (m : Nat) (k : Nat → β) : forceN m k = k m := by cases m <;> rfl
def forceI {β : Type} (n : Int) (k : Int → β) : β := match n with
  | .ofNat m => forceN m fun m => k (.ofNat m)
  | .negSucc m => forceN m fun m => k (.negSucc m)
theorem forceI_eq {β : Type} (n : Int) (k : Int → β) : forceI n k = k n := by cases n <;> simp [forceI, forceN_eq]
def forceV {β : Type} (a : AV) (k : AV → β) : β := match a with
  | .v (.int ik n) => forceI n fun n => k (.v (.int ik n))
  | .v (.bool b) => match b with
    | true => k (.v (.bool true))
    | false => k (.v (.bool false))
  | a => k a
theorem forceV_eq {β : Type} (a : AV) (k : AV → β) : forceV a k = k a := by
  unfold forceV
  split
  · rw [forceI_eq]
  · split <;> rfl
  · rfl
/-- a list's spine, worked out at once -/
def spine {α β : Type} : List α → (List α → β) → β
  | [], k => k []
  | a :: l, k => spine l fun l' => k (a :: l')
theorem spine_eq {α β : Type} : ∀ (l : List α) (k : List α → β), spine l k = k l
  | [], _ => rfl
  | a :: l, k => by rw [spine, spine_eq l]

def hiB : IntKind → Nat
  | .i8 => 128 | .i16 => 32768 | .i32 => 2147483648 | .i64 => 9223372036854775808
  | .u8 => 256 | .u16 => 65536 | .u32 => 4294967296 | .u64 => 18446744073709551616
def wrapF (k : IntKind) (n : Int) : Int := match n with
  | .ofNat m => match Nat.blt m (hiB k) with
    | true => .ofNat m
    | false => k.wrap (.ofNat m)
  | .negSucc m => k.wrap (.negSucc m)
def ilt : Int → Int → Bool
  | .ofNat m, .ofNat n => Nat.blt m n
  | .ofNat _, .negSucc _ => false
  | .negSucc _, .ofNat _ => true
  | .negSucc m, .negSucc n => Nat.blt n m
def ieq : Int → Int → Bool
  | .ofNat m, .ofNat n => Nat.beq m n
  | .negSucc m, .negSucc n => Nat.beq m n
  | _, _ => false
def bytesEq : List UInt8 → List UInt8 → Bool
  | [], [] => true
  | a :: x, b :: y => Nat.beq a.toNat b.toNat && bytesEq x y
  | _, _ => false
def bytesLt : List UInt8 → List UInt8 → Bool
  | _, [] => false
  | [], _ :: _ => true
  | a :: x, b :: y => match Nat.blt a.toNat b.toNat with
    | true => true
    | false => Nat.beq a.toNat b.toNat && bytesLt x y

def iv (k : IntKind) (n : Int) : Option AV := some (.v (.int k n))
def bv' (b : Bool) : Option AV := some (.v (.bool b))
def intOp (op : BinOp) (k : IntKind) (x y : Int) : Option AV :=
  match op with
  | .add => iv k (wrapF k (x + y))
  | .sub => iv k (wrapF k (x - y))
  | .mul => iv k (wrapF k (x * y))
  | .lss => bv' (ilt x y)
  | .leq => bv' (!ilt y x)
  | .gtr => bv' (ilt y x)
  | .geq => bv' (!ilt x y)
  | .eql => bv' (ieq x y)
  | .neq => bv' (!ieq x y)
  | .quo => match x, y with
    | .ofNat m, .ofNat (n + 1) => iv k (wrapF k (.ofNat (m / (n + 1))))
    | _, _ => none
  | .rem => match x, y with
    | .ofNat m, .ofNat (n + 1) => iv k (.ofNat (m % (n + 1)))
    | _, _ => none
  | .and => match x, y with
    | .ofNat m, .ofNat n => match Nat.blt m (2 ^ k.bits) && Nat.blt n (2 ^ k.bits) with
      | true => iv k (wrapF k (.ofNat (Nat.land m n)))
      | false => none
    | _, _ => none
  | .or => match x, y with
    | .ofNat m, .ofNat n => match Nat.blt m (2 ^ k.bits) && Nat.blt n (2 ^ k.bits) with
      | true => iv k (wrapF k (.ofNat (Nat.lor m n)))
      | false => none
    | _, _ => none
  | .xor => match x, y with
    | .ofNat m, .ofNat n => match Nat.blt m (2 ^ k.bits) && Nat.blt n (2 ^ k.bits) with
      | true => iv k (wrapF k (.ofNat (Nat.xor m n)))
      | false => none
    | _, _ => none
  | _ => none
def shiftOp (op : BinOp) (k : IntKind) (x y : Int) : Option AV :=
  match op, y with
  | .shl, .ofNat n => match x with
    | .ofNat m => iv k (wrapF k (.ofNat (m * 2 ^ (min n k.bits))))
    | _ => none
  | .shr, .ofNat n => match x with
    | .ofNat m => iv k (.ofNat (m / 2 ^ (min n k.bits)))
    | _ => none
  | _, _ => none
def isShift : BinOp → Bool
  | .shl => true
  | .shr => true
  | _ => false
def strOp (op : BinOp) (x y : List UInt8) : Option AV :=
  match op with
  | .add => match Nat.blt (x.length + y.length) 1000000 with
    | true => spine (x ++ y) fun l => some (.str l)
    | false => none
  | .eql => bv' (bytesEq x y)
  | .neq => bv' (!bytesEq x y)
  | .lss => bv' (bytesLt x y)
  | .leq => bv' (bytesLt x y || bytesEq x y)
  | .gtr => bv' (!(bytesLt x y || bytesEq x y))
  | .geq => bv' (!bytesLt x y)
  | _ => none

/-- a constant -/
def cnv1 : Value → Option AV
  | .string s => some (.str s.data.toList)
  | .bool b => some (.v (.bool b))
  | .int k n => some (.v (.int k n))
  | .pointer none => some (.v (.pointer none))
  | .slice none 0 0 => some (.v (.slice none 0 0))
  | .map none => some (.v (.map none))
  | .nilFunc => some (.v .nilFunc)
  | .nilIface => some (.v .nilIface)
  | _ => none
def cnvL : List Value → Option (List AV)
  | [] => some []
  | v :: l => match cnv1 v with
    | some a => match cnvL l with
      | some r => some (a :: r)
      | none => none
    | none => none
def cnv : Value → Option AV
  | .agg cs => match cnvL cs.toList with
    | some l => some (.agg l)
    | none => none
  | v => cnv1 v

def evA (G : Nat → Option Nat) (env : T AV) : Operand → Option AV
  | .tmp t => env.get t t
  | .const v => cnv v
  | .global g => match G g with
    | some i => some (.ptr i 0)
    | none => none
  | .func f => some (.func f [] [])
def evAs (G : Nat → Option Nat) (env : T AV) : List Operand → Option (List AV)
  | [] => some []
  | x :: r => match evA G env x with
    | some v => match evAs G env r with
      | some vs => some (v :: vs)
      | none => none
    | none => none
def evPs (G : Nat → Option Nat) (env : T AV) : List (Nat × Operand) → Option (List (Nat × AV))
  | [] => some []
  | (i, x) :: r => match evA G env x with
    | some v => match evPs G env r with
      | some vs => some ((i, v) :: vs)
      | none => none
    | none => none

def putA : List AV → Nat → List AV → List AV
  | l, _, [] => l
  | [], _, _ :: _ => []
  | _ :: l, 0, v :: vs => v :: putA l 0 vs
  | x :: l, k + 1, v :: vs => x :: putA l k (v :: vs)
def takeA : Nat → List AV → Option (List AV)
  | 0, _ => some []
  | _ + 1, [] => none
  | k + 1, a :: l => match takeA k l with
    | some r => some (a :: r)
    | none => none
def dropA : Nat → List AV → List AV
  | 0, l => l
  | _ + 1, [] => []
  | k + 1, _ :: l => dropA k l
def nthA : Nat → List AV → Option AV
  | _, [] => none
  | 0, a :: _ => some a
  | k + 1, _ :: l => nthA k l
def lenA {α : Type} : List α → Nat → Nat
  | [], n => n
  | _ :: l, n => lenA l (n + 1)

/-- the zero's cells, as values here -/
def zeroA (i : TyI) : Option (List AV) := cnvL i.zero
/-- the zero as one value -/
def zvalA (i : TyI) : Option AV := match zeroA i with
  | some l => match i.k.isAgg with
    | true => some (.agg l)
    | false => match l with
      | [a] => some a
      | _ => none
  | none => none

/-- the cells at a place, as a value of a type -/
def partA (i : TyI) (l : List AV) (off : Nat) : Option AV := match i.k.isAgg with
  | true => match takeA i.size (dropA off l) with
    | some vs => some (.agg vs)
    | none => none
  | false => nthA off l

/-- what may be read -/
def AObj.reads : AObj → Option (List AV)
  | .cel _ l => some l
  | .own _ _ _ l => some l
  | .fz _ l => some l
  | .rd l => some l
  | .emp => some []
  | _ => none
def AObj.isBlk : AObj → Bool
  | .cel _ _ => true
  | .fz _ _ => true
  | .map _ _ _ => true
  | _ => false

/-- its address is no nil -/
def AObj.some' : AObj → Bool
  | .cel _ _ => true
  | .fz _ _ => true
  | .own _ _ _ (_ :: _) => true
  | .rd (_ :: _) => true
  | .emp => true
  | _ => false
/-- a slice of a capacity that isn't known: it has room for its own elements -/
def symOk (o : Option AObj) (cap len : Nat) : Bool := match o with
  | some (.own _ _ k _) => Nat.ble (cap + len) k
  | some (.rd l) => Nat.ble (cap + len) l.length
  | some .emp => Nat.beq (cap + len) 0
  | _ => false

def intLe (x : Int) (n : Nat) : Option Nat := match x with
  | .ofNat m => match Nat.ble m n with
    | true => some m
    | false => none
  | _ => none

def bytesOf : List AV → Option (List UInt8)
  | [] => some []
  | .v (.int .u8 (.ofNat n)) :: l => match Nat.blt n 256 with
    | true => match bytesOf l with
      | some r => some (UInt8.ofNat n :: r)
      | none => none
    | false => none
  | _ => none
def cellsOf : List UInt8 → List AV
  | [] => []
  | b :: l => .v (.int .u8 (.ofNat b.toNat)) :: cellsOf l

def keyEq : AV → AV → Bool
  | .v (.int _ a), .v (.int _ b) => ieq a b
  | .str a, .str b => bytesEq a b
  | _, _ => false
def mgetA : List (AV × AV × Nat) → AV → Option AV
  | [], _ => none
  | (k, v, _) :: r, x => match keyEq x k with
    | true => some v
    | false => mgetA r x
def msetA : List (AV × AV × Nat) → AV → AV → Option (List (AV × AV × Nat))
  | [], _, _ => none
  | (k, v, b) :: r, x, u => match keyEq x k with
    | true => some ((k, u, b) :: r)
    | false => match msetA r x u with
      | some r' => some ((k, v, b) :: r')
      | none => none
def mdelA : List (AV × AV × Nat) → AV → List (AV × AV × Nat)
  | [], _ => []
  | (k, v, b) :: r, x => match keyEq x k with
    | true => r
    | false => (k, v, b) :: mdelA r x

section
variable (tab : Nat → Option TyI) (G : Nat → Option Nat)

def tyK (t : Nat) : Option TK := match tab t with
  | some i => some i.k
  | none => none

/-- slots' pairs for a composite -/
def bldA (fs : List (Nat × Nat)) : List AV → List (Nat × AV) → Option (List AV)
  | z, [] => some z
  | z, (i, v) :: r => match fs[i]? with
    | some (o, ft) => match tab ft with
      | some j => match Nat.beq (lenA v.cells 0) j.size && Nat.ble (o + j.size) (lenA z 0) with
        | true => bldA fs (putA z o v.cells) r
        | false => none
      | none => none
    | none => none
def bldSA (sz : Nat) : List AV → List (Nat × AV) → Option (List AV)
  | z, [] => some z
  | z, (i, v) :: r => match Nat.beq (lenA v.cells 0) sz && Nat.ble (i * sz + sz) (lenA z 0) with
    | true => bldSA sz (putA z (i * sz) v.cells) r
    | false => none
/-- all parts are plain -/
def partsB : List (Nat × AV) → Bool
  | [] => true
  | (_, v) :: r => cellsB v.cells && partsB r
def repsA : Nat → List AV → List AV
  | 0, _ => []
  | m + 1, z => z ++ repsA m z

/-- what an operation yields that turns nothing; the place that it read -/
def vMove (tab : Nat → Option TyI) (G : Nat → Option Nat) (env : T AV) (h : Heap) (x : Operand) : Option (AV × Option Nat) := match evA G env x with
  | some a => some (a, none)
  | none => none
def vAssign (tab : Nat → Option TyI) (G : Nat → Option Nat) (env : T AV) (h : Heap) (x : Operand) : Option (AV × Option Nat) := match evA G env x with
  | some a => some (a, none)
  | none => none
def vPick (tab : Nat → Option TyI) (G : Nat → Option Nat) (env : T AV) (h : Heap) (c : Operand) (x : Operand) (y : Operand) : Option (AV × Option Nat) := match evA G env c with
  | some (.v (.bool true)) => match evA G env x with
    | some a => some (a, none)
    | none => none
  | some (.v (.bool false)) => match evA G env y with
    | some a => some (a, none)
    | none => none
  | _ => none
def vExtract (tab : Nat → Option TyI) (G : Nat → Option Nat) (env : T AV) (h : Heap) (x : Operand) (i : Nat) : Option (AV × Option Nat) := match evA G env x with
  | some (.tup l) => match nthA i l with
    | some a => some (a, none)
    | none => none
  | _ => none
def vNilCheck (tab : Nat → Option TyI) (G : Nat → Option Nat) (env : T AV) (h : Heap) (x : Operand) : Option (AV × Option Nat) := match evA G env x with
  | some (.ptr i off) => match h.at i with
    | some o => match o.isBlk with
      | true => some (.ptr i off, none)
      | false => none
    | none => none
  | some (.func f a c) => some (.func f a c, none)
  | some (.yield i) => some (.yield i, none)
  | some (.iface t v) => some (.iface t v, none)
  | _ => none
def vUnOp (tab : Nat → Option TyI) (G : Nat → Option Nat) (env : T AV) (h : Heap) (op : UnOp) (y1 : TypeId) (x : Operand) : Option (AV × Option Nat) := match op, evA G env x with
  | .not, some (.v (.bool b)) => some (.v (.bool (!b)), none)
  | .neg, some (.v (.int k n)) => some (.v (.int k (wrapF k (0 - n))), none)
  | .xor, some (.v (.int k n)) => match k.signed with
    | false => match intOp .xor k k.max n with
      | some a => some (a, none)
      | none => none
    | true => none
  | _, _ => none
def vBinOp (tab : Nat → Option TyI) (G : Nat → Option Nat) (env : T AV) (h : Heap) (op : BinOp) (xt : TypeId) (x : Operand) (y : Operand) (y4 : TypeId) : Option (AV × Option Nat) := match evA G env x, evA G env y with
  | some (.v (.int k a)), some (.v (.int k' b)) => match isShift op with
    | true => match shiftOp op k a b with
      | some r => some (r, none)
      | none => none
    | false => match kindEq k k' with
      | true => match intOp op k a b with
        | some r => some (r, none)
        | none => none
      | false => none
  | some (.str a), some (.str b) => match strOp op a b with
    | some r => some (r, none)
    | none => none
  | some (.v (.bool a)), some (.v (.bool b)) => match tyK tab xt, op with
    | some .bool, .eql => some (.v (.bool (a == b)), none)
    | some .bool, .neq => some (.v (.bool (!(a == b))), none)
    | _, _ => none
  | some (.ptr i _), some (.v (.pointer none)) => match tyK tab xt, h.at i with
    | some (.ptr _), some o => match o.isBlk, op with
      | true, .eql => some (.v (.bool false), none)
      | true, .neq => some (.v (.bool true), none)
      | _, _ => none
    | _, _ => none
  | some (.v (.pointer none)), some (.v (.pointer none)) => match tyK tab xt, op with
    | some (.ptr _), .eql => some (.v (.bool true), none)
    | some (.ptr _), .neq => some (.v (.bool false), none)
    | _, _ => none
  | some (.map _), some (.v (.map none)) => match tyK tab xt, op with
    | some (.map _ _), .eql => some (.v (.bool false), none)
    | some (.map _ _), .neq => some (.v (.bool true), none)
    | _, _ => none
  | some (.v (.map none)), some (.v (.map none)) => match tyK tab xt, op with
    | some (.map _ _), .eql => some (.v (.bool true), none)
    | some (.map _ _), .neq => some (.v (.bool false), none)
    | _, _ => none
  | some (.v (.slice none 0 0)), some (.v (.slice none 0 0)) => match tyK tab xt, op with
    | some (.slice _), .eql => some (.v (.bool true), none)
    | some (.slice _), .neq => some (.v (.bool false), none)
    | _, _ => none
  | some (.sl i _ _ _ _), some (.v (.slice none 0 0)) => match tyK tab xt, h.at i with
    | some (.slice _), some o => match o.some', op with
      | true, .eql => some (.v (.bool false), some i)
      | true, .neq => some (.v (.bool true), some i)
      | _, _ => none
    | _, _ => none
  | some (.iface _ _), some (.v .nilIface) => match tyK tab xt, op with
    | some .iface, .eql => some (.v (.bool false), none)
    | some .iface, .neq => some (.v (.bool true), none)
    | _, _ => none
  | some (.v .nilIface), some (.v .nilIface) => match tyK tab xt, op, y with
    | some .iface, .eql, .const _ => some (.v (.bool true), none)
    | some .iface, .neq, .const _ => some (.v (.bool false), none)
    | _, _, _ => none
  | some (.func _ _ _), some (.v .nilFunc) => match tyK tab xt, op with
    | some .func, .eql => some (.v (.bool false), none)
    | some .func, .neq => some (.v (.bool true), none)
    | _, _ => none
  | _, _ => none
def vConvert (tab : Nat → Option TyI) (G : Nat → Option Nat) (env : T AV) (h : Heap) (s : TypeId) (t : TypeId) (x : Operand) : Option (AV × Option Nat) := match evA G env x, tyK tab s, tyK tab t with
  | some (.v (.int _ n)), some _, some (.int k) => some (.v (.int k (wrapF k n)), none)
  | some (.str l), some _, some .str => some (.str l, none)
  | some (.v (.slice none 0 0)), some (.slice e), some .str => match tyK tab e with
    | some (.int .u8) => some (.str [], none)
    | _ => none
  | some (.sl i off len _ _), some (.slice e), some .str => match tyK tab e with
    | some (.int .u8) => match h.at i with
      | some o => match o.reads with
        | some l => match takeA len (dropA off l) with
          | some cs => match bytesOf cs with
            | some bs => spine bs fun bs => some (.str bs, some i)
            | none => none
          | none => none
        | none => none
      | none => none
    | _ => none
  | _, _, _ => none
def vMakeInterface (tab : Nat → Option TyI) (G : Nat → Option Nat) (env : T AV) (h : Heap) (t : TypeId) (x : Operand) : Option (AV × Option Nat) := match evA G env x, tyK tab t with
  | some _, some .iface => none
  | some a, some _ => some (.iface t a, none)
  | _, _ => none
def vMakeFunc (tab : Nat → Option TyI) (G : Nat → Option Nat) (env : T AV) (h : Heap) (fn : Fn) (first : Array Operand) (caps : Array Operand) : Option (AV × Option Nat) := match fn, evAs G env first.toList, evAs G env caps.toList with
  | .func f, some a, some c => some (.func f a c, none)
  | _, _, _ => none
def vLoad (tab : Nat → Option TyI) (G : Nat → Option Nat) (env : T AV) (h : Heap) (t : TypeId) (x : Operand) : Option (AV × Option Nat) := match evA G env x, tab t with
  | some (.ptr i off), some ti => match h.at i with
    | some o => match o.reads with
      | some l => match partA ti l off, Nat.beq ti.size 0 with
        | some a, false => some (a, some i)
        | _, _ => none
      | none => none
    | none => none
  | _, _ => none
def vFieldAddr (tab : Nat → Option TyI) (G : Nat → Option Nat) (env : T AV) (h : Heap) (s : TypeId) (x : Operand) (f : Nat) : Option (AV × Option Nat) := match evA G env x, tyK tab s with
  | some (.ptr i off), some (.struct fs) => match h.at i with
    | some o => match o.isBlk, fs[f]? with
      | true, some (o, ft) => match tab ft with
        | some j => match Nat.beq j.size 0 with
          | false => some (.ptr i (off + o), none)
          | true => none
        | none => none
      | _, _ => none
    | none => none
  | _, _ => none
def vField (tab : Nat → Option TyI) (G : Nat → Option Nat) (env : T AV) (h : Heap) (s : TypeId) (x : Operand) (f : Nat) : Option (AV × Option Nat) := match evA G env x, tyK tab s with
  | some (.agg l), some (.struct fs) => match fs[f]? with
    | some (o, ft) => match tab ft with
      | some j => match partA j l o with
        | some a => some (a, none)
        | none => none
      | none => none
    | none => none
  | _, _ => none
def vIndexAddr (tab : Nat → Option TyI) (G : Nat → Option Nat) (env : T AV) (h : Heap) (t : TypeId) (x : Operand) (y : Operand) : Option (AV × Option Nat) := match evA G env x, evA G env y, tyK tab t with
  | some (.sl i off len _ _), some (.v (.int _ p)), some (.slice e) => match tab e, p with
    | some j, .ofNat k => match Nat.blt k len, h.at i with
      | true, some o => match o.reads with
        | some l => match nthA (off + k * j.size) l with
          | some _ => some (.ptr i (off + k * j.size), some i)
          | none => none
        | none => none
      | _, _ => none
    | _, _ => none
  | some (.ptr i off), some (.v (.int _ p)), some (.array m e) => match tab e, p with
    | some j, .ofNat k => match Nat.blt k m, h.at i with
      | true, some o => match o.isBlk with
        | true => some (.ptr i (off + k * j.size), none)
        | false => none
      | _, _ => none
    | _, _ => none
  | _, _, _ => none
def vIndex (tab : Nat → Option TyI) (G : Nat → Option Nat) (env : T AV) (h : Heap) (t : TypeId) (x : Operand) (y : Operand) : Option (AV × Option Nat) := match evA G env x, evA G env y, tyK tab t with
  | some (.str l), some (.v (.int _ (.ofNat k))), some .str => match l[k]? with
    | some b => some (.v (.int .u8 (.ofNat b.toNat)), none)
    | none => none
  | some (.agg l), some (.v (.int _ (.ofNat k))), some (.array m e) => match Nat.blt k m, tab e with
    | true, some j => match partA j l (k * j.size) with
      | some a => some (a, none)
      | none => none
    | _, _ => none
  | _, _, _ => none
def vBuild (tab : Nat → Option TyI) (G : Nat → Option Nat) (env : T AV) (h : Heap) (t : TypeId) (ps : Array (Nat × Operand)) : Option (AV × Option Nat) := match evPs G env ps.toList, tab t with
  | some vs, some i => match i.k, zeroA i with
    | .struct fs, some z => match fs.all (fun f => (tab f.2).isSome) && !Nat.beq i.zero.length 0 && partsB vs with
      | true => match bldA tab fs z vs with
        | some l => some (.agg l, none)
        | none => none
      | false => none
    | _, _ => none
  | _, _ => none
def vSlice (tab : Nat → Option TyI) (G : Nat → Option Nat) (env : T AV) (h : Heap) (t : TypeId) (x : Operand) (lo : Option Operand) (hi : Option Operand) (mx : Option Operand) : Option (AV × Option Nat) := match evA G env x, tyK tab t with
  | some (.str l), some .str => match mx, (match lo with | some y => evA G env y | none => some (.v (.int .i64 (.ofNat 0)))), (match hi with | some y => evA G env y | none => some (.v (.int .i64 (.ofNat l.length)))) with
    | none, some (.v (.int _ (.ofNat a))), some (.v (.int _ (.ofNat b))) => match Nat.ble a b && Nat.ble b l.length with
      | true => spine ((l.drop a).take (b - a)) fun r => some (.str r, none)
      | false => none
    | _, _, _ => none
  | some (.sl i off len cap sym), some (.slice e) => match tab e, mx, (match lo with | some y => evA G env y | none => some (.v (.int .i64 (.ofNat 0)))), (match hi with | some y => evA G env y | none => some (.v (.int .i64 (.ofNat len)))) with
    | some j, none, some (.v (.int _ (.ofNat a))), some (.v (.int _ (.ofNat b))) => match sym with
      | false => match Nat.ble a b && Nat.ble b cap with
        | true => match Nat.beq a cap with
          | true => some (.sl i off 0 0 false, none)
          | false => some (.sl i (off + a * j.size) (b - a) (cap - a) false, none)
        | false => none
      | true => match Nat.ble a b && Nat.ble b len && (Nat.blt a len || Nat.beq a 0) && symOk (h.at i) cap len with
        | true => some (.sl i (off + a * j.size) (b - a) (cap + a) true, some i)
        | false => none
    | some j, some mx, some (.v (.int _ (.ofNat a))), some (.v (.int _ (.ofNat b))) => match sym, evA G env mx with
      | false, some (.v (.int _ (.ofNat m))) => match Nat.ble a b && Nat.ble b m && Nat.ble m cap && hi.isSome with
        | true => match Nat.beq a m with
          | true => some (.sl i off 0 0 false, none)
          | false => some (.sl i (off + a * j.size) (b - a) (m - a) false, none)
        | false => none
      | true, some (.v (.int _ (.ofNat m))) => match Nat.ble a b && Nat.ble b m && Nat.ble m len && symOk (h.at i) cap len && hi.isSome with
        | true => match Nat.beq a m with
          | true => some (.sl i off 0 0 false, some i)
          | false => some (.sl i (off + a * j.size) (b - a) (m - a) false, some i)
        | false => none
      | _, _ => none
    | _, _, _, _ => none
  | some (.v (.slice none 0 0)), some (.slice e) => match mx, (match lo with | some y => evA G env y | none => some (.v (.int .i64 (.ofNat 0)))), (match hi with | some y => evA G env y | none => some (.v (.int .i64 (.ofNat 0)))) with
    | none, some (.v (.int _ (.ofNat 0))), some (.v (.int _ (.ofNat 0))) => match tab e with
      | some _ => some (.v (.slice none 0 0), none)
      | none => none
    | some mx, some (.v (.int _ (.ofNat 0))), some (.v (.int _ (.ofNat 0))) => match evA G env mx, hi.isSome, tab e with
      | some (.v (.int _ (.ofNat 0))), true, some _ => some (.v (.slice none 0 0), none)
      | _, _, _ => none
    | _, _, _ => none
  | _, _ => none
def vLookup (tab : Nat → Option TyI) (G : Nat → Option Nat) (env : T AV) (h : Heap) (t : TypeId) (x : Operand) (y : Operand) (ok : Bool) : Option (AV × Option Nat) := match evA G env x, evA G env y, tyK tab t with
  | some (.map r), some k, some (.map kt et) => match h.at r, tyK tab kt, tab et with
    | some (.map kd es _), some kk, some ie => match (match kd, kk with | .int a, .int b => kindEq a b | .str, .str => true | _, _ => false) && keyIs kd k && !Nat.beq ie.zero.length 0, zvalA ie with
      | true, some z => match mgetA es k with
        | some v => match ok with
          | true => some (.tup [v, .v (.bool true)], some r)
          | false => some (v, some r)
        | none => match ok with
          | true => some (.tup [z, .v (.bool false)], some r)
          | false => some (z, some r)
      | _, _ => none
    | _, _, _ => none
  | _, _, _ => none
def vCall (tab : Nat → Option TyI) (G : Nat → Option Nat) (env : T AV) (h : Heap) (c : Call) : Option (AV × Option Nat) := match c.callee, c.args.toList, c.argTypes.toList with
  | .builtin .len, [x], [t] => match evA G env x, tyK tab t with
    | some (.str l), some .str => some (.v (.int .i64 (.ofNat l.length)), none)
    | some (.sl _ _ len _ _), some (.slice _) => some (.v (.int .i64 (.ofNat len)), none)
    | some (.v (.slice none 0 0)), some (.slice _) => some (.v (.int .i64 (.ofNat 0)), none)
    | some (.map r), some (.map _ _) => match h.at r with
      | some (.map _ es _) => some (.v (.int .i64 (.ofNat es.length)), some r)
      | _ => none
    | some (.v (.map none)), some (.map _ _) => some (.v (.int .i64 (.ofNat 0)), none)
    | _, _ => none
  | .builtin .max, [x, y], _ => match evA G env x, evA G env y with
    | some (.v (.int k a)), some (.v (.int _ b)) => match ilt a b with
      | true => some (.v (.int k b), none)
      | false => some (.v (.int k a), none)
    | _, _ => none
  | .builtin .min, [x, y], _ => match evA G env x, evA G env y with
    | some (.v (.int k a)), some (.v (.int _ b)) => match ilt b a with
      | true => some (.v (.int k b), none)
      | false => some (.v (.int k a), none)
    | _, _ => none
  | .builtin .cap, [x], [t] => match evA G env x, tyK tab t with
    | some (.sl _ _ _ cap false), some (.slice _) => some (.v (.int .i64 (.ofNat cap)), none)
    | some (.v (.slice none 0 0)), some (.slice _) => some (.v (.int .i64 (.ofNat 0)), none)
    | _, _ => none
  | _, _, _ => none
def vop (env : T AV) (h : Heap) : Op → Option (AV × Option Nat)
  | .move x => vMove tab G env h x
  | .assign x => vAssign tab G env h x
  | .pick c x y => vPick tab G env h c x y
  | .extract x i => vExtract tab G env h x i
  | .nilCheck x => vNilCheck tab G env h x
  | .unOp op y1 x => vUnOp tab G env h op y1 x
  | .binOp op xt x y y4 => vBinOp tab G env h op xt x y y4
  | .convert s t x => vConvert tab G env h s t x
  | .makeInterface t x => vMakeInterface tab G env h t x
  | .makeFunc fn first caps => vMakeFunc tab G env h fn first caps
  | .load t x => vLoad tab G env h t x
  | .fieldAddr s x f => vFieldAddr tab G env h s x f
  | .field s x f => vField tab G env h s x f
  | .indexAddr t x y => vIndexAddr tab G env h t x y
  | .index t x y => vIndex tab G env h t x y
  | .build t ps => vBuild tab G env h t ps
  | .slice t x lo hi mx => vSlice tab G env h t x lo hi mx
  | .lookup t x y ok => vLookup tab G env h t x y ok
  | .call c => vCall tab G env h c
  | _ => none

/-- the cells of a slice that is read -/
def readSl (h : Heap) (size : Nat) : AV → Option (Nat × List AV)
  | .v (.slice none 0 0) => some (0, [])
  | .sl i off len _ _ => match h.at i with
    | some o => match o.reads with
      | some l => match takeA (len * size) (dropA off l) with
        | some cs => some (len, cs)
        | none => none
      | none => none
    | none => none
  | _ => none

/-- n elements onto a slice: nothing, or a new row, or in place -/
def appendA (inp : Bool) (nb : Nat) (h : Heap) (n : Nat) (e : Nat) (j : TyI) (x : AV) (m : Nat) (ys : List AV) : Option (Option AV × Heap) :=
  match Nat.beq m 0 with
  | true => match x with
    | .v (.slice none 0 0) => some (some x, h)
    | .sl i off len cap sym => match sym with
      | false => match Nat.ble len cap with
        | true => some (some x, h)
        | false => none
      | true => match symOk (h.at i) cap len with
        | true => some (some x, h)
        | false => none
    | _ => none
  | false => match cellsB ys && Nat.blt m 50000000 with
    | false => none
    | true => match x with
      | .v (.slice none 0 0) => match h.new nb n (.own e j.size m ys) with
        | some h' => some (some (.sl n 0 m 0 true), h')
        | none => none
      | .sl i off len cap sym => match sym with
        | true => match inp && Nat.beq off 0 && Nat.beq cap 0, h.at i with
          | true, some (.own e' sz k xs) => match Nat.beq e e' && Nat.beq sz j.size && Nat.ble len k && Nat.blt len 50000000, takeA (len * sz) xs with
            | true, some pre => spine (pre ++ ys) fun zs => match h.set nb i .dead with
              | some h1 => match h1.new nb n (.own e sz (len + m) zs) with
                | some h' => some (some (.sl n 0 (len + m) 0 true), h')
                | none => none
              | none => none
            | _, _ => none
          | _, _ => none
        | false => match Nat.blt cap (len + m) with
          | true => match h.at i with
            | some o => match o.reads with
              | some l => match takeA (len * j.size) (dropA off l), Nat.blt len 50000000 && cellsB l with
                | some pre, true => spine (pre ++ ys) fun zs => match h.new nb n (.own e j.size (len + m) zs) with
                  | some h' => some (some (.sl n 0 (len + m) 0 true), h')
                  | none => none
                | _, _ => none
              | none => none
            | none => none
          | false => match inp && Nat.beq off 0, h.at i with
            | true, some (.cel e' xs) => match Nat.beq e e' && Nat.beq (lenA xs 0) (cap * j.size) && Nat.ble len cap && Nat.blt cap 50000000, takeA (len * j.size) xs with
              | true, some pre => spine (pre ++ ys) fun zs => match h.set nb i .dead with
                | some h1 => match h1.new nb n (.own e j.size (len + m) zs) with
                  | some h' => some (some (.sl n 0 (len + m) 0 true), h')
                  | none => none
                | none => none
              | _, _ => none
            | _, _ => none
      | _ => none

/-- what an operation does that turns memory -/
def eAlloc (tab : Nat → Option TyI) (G : Nat → Option Nat) (nb : Nat) (env : T AV) (h : Heap) (n : Nat) (t : TypeId) : Option (Option AV × Heap) := match tab t with
  | some i => match zeroA i with
    | some l => match cellsB l && !Nat.beq l.length 0 with
      | true => match h.new nb n (.cel t l) with
        | some h' => some (some (.ptr n 0), h')
        | none => none
      | false => none
    | none => none
  | none => none
def eBox (tab : Nat → Option TyI) (G : Nat → Option Nat) (nb : Nat) (env : T AV) (h : Heap) (n : Nat) (t : TypeId) (x : Operand) : Option (Option AV × Heap) := match evA G env x with
  | some a => match cellsB a.cells with
    | true => match h.new nb n (.cel t a.cells) with
      | some h' => some (some (.ptr n 0), h')
      | none => none
    | false => none
  | none => none
def eStore (tab : Nat → Option TyI) (G : Nat → Option Nat) (nb : Nat) (env : T AV) (h : Heap) (n : Nat) (t : TypeId) (x : Operand) (y : Operand) : Option (Option AV × Heap) := match evA G env x, evA G env y, tab t with
  | some (.ptr i off), some a, some ti => match h.at i with
    | some (.cel e l) => match cellsB a.cells && Nat.beq (lenA a.cells 0) ti.size && Nat.ble (off + ti.size) (lenA l 0) with
      | true => spine (putA l off a.cells) fun l' => match h.set nb i (.cel e l') with
        | some h' => some (none, h')
        | none => none
      | false => none
    | _ => none
  | _, _, _ => none
def eBuildSlice (tab : Nat → Option TyI) (G : Nat → Option Nat) (nb : Nat) (env : T AV) (h : Heap) (n : Nat) (t : TypeId) (len : Nat) (ps : Array (Nat × Operand)) : Option (Option AV × Heap) := match evPs G env ps.toList, tyK tab t with
  | some vs, some (.slice e) => match tab e with
    | some j => match zeroA j with
      | some z => match Nat.beq (lenA z 0) j.size && !Nat.beq j.size 0 && Nat.ble (len * j.size) 16777216 && partsB vs with
        | true => match bldSA j.size (repsA len z) vs with
          | some l => match cellsB l, h.new nb n (.cel e l) with
            | true, some h' => some (some (.sl n 0 len len false), h')
            | _, _ => none
          | none => none
        | false => none
      | none => none
    | none => none
  | _, _ => none
def eMakeMap (tab : Nat → Option TyI) (G : Nat → Option Nat) (nb : Nat) (env : T AV) (h : Heap) (n : Nat) (t : TypeId) (r : Option Operand) : Option (Option AV × Heap) := match r, tyK tab t with
  | none, some (.map kt _) => match tyK tab kt with
    | some (.int k) => match h.new nb n (.map (.int k) [] 0) with
      | some h' => some (some (.map n), h')
      | none => none
    | some .str => match h.new nb n (.map .str [] 0) with
      | some h' => some (some (.map n), h')
      | none => none
    | _ => none
  | _, _ => none
def eMakeSlice (tab : Nat → Option TyI) (G : Nat → Option Nat) (nb : Nat) (env : T AV) (h : Heap) (n : Nat) (t : TypeId) (x : Operand) (y : Operand) : Option (Option AV × Heap) := match evA G env x, evA G env y, tyK tab t with
  | some (.v (.int _ (.ofNat l))), some (.v (.int _ (.ofNat c))), some (.slice e) => match tab e with
    | some j => match zeroA j with
      | some z => match Nat.beq (lenA z 0) j.size && !Nat.beq j.size 0 && cellsB z && Nat.ble l c && Nat.blt c 1000000 && Nat.blt j.bytes 1000000 with
        | true => spine (repsA c z) fun cs => match h.new nb n (.cel e cs) with
          | some h' => some (some (.sl n 0 l c false), h')
          | none => none
        | false => none
      | none => none
    | none => none
  | _, _, _ => none
def eConvert (tab : Nat → Option TyI) (G : Nat → Option Nat) (nb : Nat) (env : T AV) (h : Heap) (n : Nat) (s : TypeId) (t : TypeId) (x : Operand) : Option (Option AV × Heap) := match evA G env x, tyK tab s, tyK tab t with
  | some (.str l), some .str, some (.slice e) => match tyK tab e with
    | some (.int .u8) => spine (cellsOf l) fun cs => match h.new nb n (.rd cs) with
      | some h' => some (some (.sl n 0 l.length 0 true), h')
      | none => none
    | _ => none
  | some (.sl i 0 len cap false), some (.slice e), some (.slice _) => match Nat.beq s t, tyK tab e, h.at i with
    | true, some (.int .u8), some (.cel e' l) => match h.set nb i (.fz e' l) with
      | some h' => some (some (.sl i 0 len cap false), h')
      | none => none
    | _, _, _ => none
  | _, _, _ => none
def eMapUpdate (tab : Nat → Option TyI) (G : Nat → Option Nat) (nb : Nat) (env : T AV) (h : Heap) (n : Nat) (t : TypeId) (x : Operand) (y : Operand) (z : Operand) : Option (Option AV × Heap) := match evA G env x, evA G env y, evA G env z, tyK tab t with
  | some (.map r), some k, some v, some (.map kt _) => match h.at r, tyK tab kt with
    | some (.map kd es clock), some kk => match (match kd, kk with | .int a, .int b => kindEq a b | .str, .str => true | _, _ => false) && keyIs kd k with
      | true => match msetA es k v with
        | some es' => match h.set nb r (.map kd es' clock) with
          | some h' => some (none, h')
          | none => none
        | none => spine (es ++ [(k, v, clock)]) fun es' => match h.set nb r (.map kd es' (clock + 1)) with
          | some h' => some (none, h')
          | none => none
      | false => none
    | _, _ => none
  | _, _, _, _ => none
def eSlice (tab : Nat → Option TyI) (G : Nat → Option Nat) (nb : Nat) (env : T AV) (h : Heap) (n : Nat) (t : TypeId) (x : Operand) (lo : Option Operand) (hi : Option Operand) (mx : Option Operand) : Option (Option AV × Heap) := match evA G env x, tyK tab t, mx with
  | some (.sl i off len cap true), some (.slice e), none => match tab e, (match lo with | some y => evA G env y | none => some (.v (.int .i64 (.ofNat 0)))), (match hi with | some y => evA G env y | none => some (.v (.int .i64 (.ofNat len)))) with
    | some j, some (.v (.int _ (.ofNat a))), some (.v (.int _ (.ofNat b))) => match Nat.beq a len && Nat.beq b len && symOk (h.at i) cap len with
      | true => match h.new nb n (match h.at i with | some o => (match o.some' with | true => .emp | false => .rd []) | none => .rd []) with
        | some h' => some (some (.sl n 0 0 0 true), h')
        | none => none
      | false => none
    | _, _, _ => none
  | _, _, _ => none
def eRange (tab : Nat → Option TyI) (G : Nat → Option Nat) (nb : Nat) (env : T AV) (h : Heap) (n : Nat) (t : TypeId) (x : Operand) : Option (Option AV × Heap) := match evA G env x, tyK tab t with
  | some (.map r), some (.map _ _) => match h.at r with
    | some (.map _ _ clock) => match h.new nb n (.mapIter (some r) clock [] clock) with
      | some h' => some (some (.ptr n 0), h')
      | none => none
    | _ => none
  | some (.v (.map none)), some (.map _ _) => match h.new nb n (.mapIter none 0 [] 0) with
      | some h' => some (some (.ptr n 0), h')
      | none => none
  | _, _ => none
def eNext (tab : Nat → Option TyI) (G : Nat → Option Nat) (nb : Nat) (env : T AV) (h : Heap) (n : Nat) (x : Operand) (isStr : Bool) : Option (Option AV × Heap) := match evA G env x, isStr with
  | some (.ptr i 0), false => match h.at i with
    | some (.mapIter none _ _ _) => some (some (.tup [.v (.bool false)]), h)
    | some (.mapIter (some m) since seen last) => match h.at m with
      | some (.map _ es clock) => match es with
        | [] => some (some (.tup [.v (.bool false)]), h)
        | [(k, v, b)] => match seen with
          | [] => match Nat.blt b since with
            | true => match h.set nb i (.mapIter (some m) since [b] clock) with
              | some h' => some (some (.tup [.v (.bool true), k, v]), h')
              | none => none
            | false => none
          | [b'] => match Nat.beq b b' && Nat.blt b last with
            | true => some (some (.tup [.v (.bool false)]), h)
            | false => none
          | _ => none
        | _ => none
      | _ => none
    | _ => none
  | _, _ => none
def eEntry (tab : Nat → Option TyI) (G : Nat → Option Nat) (nb : Nat) (env : T AV) (h : Heap) (n : Nat) (x : Operand) : Option (Option AV × Heap) := match evA G env x with
  | some (.ptr i 0) => match h.at i with
    | some (.mapIter (some m) _ seen stepped) => match h.at m with
      | some (.map _ es clock) => match es, seen with
        | [(k, v, b)], [b'] => match Nat.beq b b' && Nat.beq clock stepped with
          | true => some (some (.tup [k, v]), h)
          | false => none
        | _, _ => none
      | _ => none
    | _ => none
  | _ => none
def eCall (tab : Nat → Option TyI) (G : Nat → Option Nat) (nb : Nat) (env : T AV) (h : Heap) (n : Nat) (c : Call) : Option (Option AV × Heap) := match c.callee, c.args.toList, c.argTypes.toList with
  | .builtin .append, [x, y], [t, u] => match evA G env x, evA G env y, tyK tab t, tyK tab u with
    | some a, some b, some (.slice e), some uk => match tab e with
      | some j => match Nat.beq j.size 0 || !Nat.beq j.zero.length j.size || !Nat.blt j.bytes 1000000 with
        | true => none
        | false => match uk, b with
          | .str, .str l => match Nat.beq j.size 1 && Nat.beq j.bytes 1, j.k, zeroA j with
            | true, .int .u8, some [.v (.int .u8 (.ofNat 0))] => spine (cellsOf l) fun cs => appendA true nb h n e j a l.length cs
            | _, _, _ => none
          | .slice _, b => match Nat.beq t u, readSl h j.size b with
            | true, some (m, ys) => appendA true nb h n e j a m ys
            | _, _ => none
          | .int _, .v (.int .i64 (.ofNat m)) => match zeroA j, Nat.blt m 1000000 with
            | some z, true => spine (repsA m z) fun ys => appendA false nb h n e j a m ys
            | _, _ => none
          | _, _ => none
      | none => none
    | _, _, _, _ => none
  | .builtin .delete, [x, y], [t, _] => match evA G env x, evA G env y, tyK tab t with
    | some (.map r), some k, some (.map kt _) => match h.at r, tyK tab kt with
      | some (.map kd es clock), some kk => match (match kd, kk with | .int a, .int b => kindEq a b | .str, .str => true | _, _ => false) && keyIs kd k with
        | true => match h.set nb r (.map kd (mdelA es k) clock) with
          | some h' => some (some (.tup []), h')
          | none => none
        | false => none
      | _, _ => none
    | _, _, _ => none
  | _, _, _ => none
def eff (nb : Nat) (env : T AV) (h : Heap) (n : Nat) : Op → Option (Option AV × Heap)
  | .alloc t => eAlloc tab G nb env h n t
  | .box t x => eBox tab G nb env h n t x
  | .store t x y => eStore tab G nb env h n t x y
  | .buildSlice t len ps => eBuildSlice tab G nb env h n t len ps
  | .makeMap t r => eMakeMap tab G nb env h n t r
  | .makeSlice t x y => eMakeSlice tab G nb env h n t x y
  | .convert s t x => eConvert tab G nb env h n s t x
  | .mapUpdate t x y z => eMapUpdate tab G nb env h n t x y z
  | .slice t x lo hi mx => eSlice tab G nb env h n t x lo hi mx
  | .range t x => eRange tab G nb env h n t x
  | .next x isStr => eNext tab G nb env h n x isStr
  | .entry x => eEntry tab G nb env h n x
  | .call c => eCall tab G nb env h n c
  | _ => none
end
end Go.Ex
