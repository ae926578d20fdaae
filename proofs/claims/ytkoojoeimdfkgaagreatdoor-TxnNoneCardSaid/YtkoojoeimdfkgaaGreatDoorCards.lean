/-
  DERIVED. GIVEN WITH THE SEED: THE CARDS: each row of YtkoojoeimdfkgaaGreatDoorRows.lean that lists a variable, with what it lists TIED to the program's text (the seventh form; the later family's looks); each row that meets fmt, with fmt's text TOLD by the authors' own Lean function (tested against real Go, not proved from fmt's source: count such statements apart). THE CARD IS WHAT COUNTS. Prove the row's statement (the work); the ties are given (YtkoojoeimdfkgaaGreatDoorTie.lean); close each card by the builder's one call (the guide's Derived/Test/ToyasCard.lean, 'card_holds'). Laid BY PROGRAM, IN A SANDBOX (cutbox-door.mjs). By AI agents, Wed Nov 11 2026. No macro, syntax, notation, axiom, sorry.
-/
import Derived.Test.YtkoojoeimdfkgaaGreatDoorRows
import GoSem.ClaimSeven
namespace Go.Proofs.YtkoojoeimdfkgaaGreatDoor
namespace Rows

/-- THE TIED CARD OF 'sawyerlaw14.TxnNone'. -/
def txnNoneCard : Claim7 := { stood := { row := txnNoneRow, standIns := [], harness := (true, "07481d77aa50a3c5f077a08707b4a3a01a9ca897d7afc4c029f5c9c0194e4d3d"), looks := true }, kinds := [], alts := [], laidByText := true, laidKinds := [.data, .data, .data, .sentinel, .sentinel], laidTests := true, laidLooks := .later }
def TxnNoneCardSaid : Prop := Claim7.holds Tryz.pinned (.plain (OpenSpec.ofChange txnNoneSpec)) txnNoneCard

/-- THE SECOND FORM's CARD OF 'sawyerlaw14.TxnNone'. -/
def txnNoneUptoCard : Claim7 := { stood := { row := txnNoneUptoRow, standIns := [], harness := (true, "07481d77aa50a3c5f077a08707b4a3a01a9ca897d7afc4c029f5c9c0194e4d3d"), looks := true }, kinds := [], alts := [], laidByText := true, laidKinds := [.data, .data, .data, .sentinel, .sentinel], laidTests := true, laidLooks := .later }
def TxnNoneUptoCardSaid : Prop := Claim7.holds Tryz.pinned (.plain (OpenSpec.upto txnNoneSpec)) txnNoneUptoCard
end Rows
end Go.Proofs.YtkoojoeimdfkgaaGreatDoor
