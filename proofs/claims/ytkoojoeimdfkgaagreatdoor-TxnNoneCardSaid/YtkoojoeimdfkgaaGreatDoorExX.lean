/-
  The runner: what those functions answer that have no body.
-/
import Derived.Test.YtkoojoeimdfkgaaGreatDoorExC
namespace Go.Ex
open Go Go.RowKit Go.Sx

def idxB : List UInt8 → Nat → Nat → Option Nat
  | [], _, _ => none
  | a :: l, c, i => match Nat.beq a.toNat c with
    | true => some i
    | false => idxB l c (i + 1)
def xIndexByteString (args : List AV) (h : Heap) (n : Nat) : Option (AV × Heap × Nat) := match args with
  | [.str l, .v (.int .u8 (.ofNat c))] => match Nat.blt c 256 with
    | true => match idxB l c 0 with
      | some i => some (.v (.int .i64 (.ofNat i)), h, n)
      | none => some (.v (.int .i64 (.negSucc 0)), h, n)
    | false => none
  | _ => none
def xCompare (args : List AV) (h : Heap) (n : Nat) : Option (AV × Heap × Nat) := match args with
  | [a, b] => match readSl h 1 a, readSl h 1 b with
    | some (_, x), some (_, y) => match bytesOf x, bytesOf y with
      | some x, some y => match bytesLt x y with
        | true => some (.v (.int .i64 (.negSucc 0)), h, n)
        | false => match bytesEq x y with
          | true => some (.v (.int .i64 (.ofNat 0)), h, n)
          | false => some (.v (.int .i64 (.ofNat 1)), h, n)
      | _, _ => none
    | _, _ => none
  | _ => none
def xAddInt64 (args : List AV) (h : Heap) (n : Nat) : Option (AV × Heap × Nat) := match args with
  | [.ptr i off, .v (.int .i64 d)] => match h.at i with
    | some (.cel e l) => match nthA off l with
      | some (.v (.int .i64 x)) => forceI (wrapF .i64 (x + d)) fun y => match h.set n i (.cel e (putA l off [.v (.int .i64 y)])) with
        | some h' => some (.v (.int .i64 y), h', n)
        | none => none
      | _ => none
    | _ => none
  | _ => none
end Go.Ex
