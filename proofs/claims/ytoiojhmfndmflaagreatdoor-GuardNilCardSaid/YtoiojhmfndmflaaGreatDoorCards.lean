/-
  DERIVED. GIVEN WITH THE SEED: THE CARDS: each row of YtoiojhmfndmflaaGreatDoorRows.lean that lists a variable, with what it lists TIED to the program's text (the seventh form; the later family's looks); each row that meets fmt, with fmt's text TOLD by the authors' own Lean function (tested against real Go, not proved from fmt's source: count such statements apart). THE CARD IS WHAT COUNTS. Prove the row's statement (the work); the ties are given (YtoiojhmfndmflaaGreatDoorTie.lean); close each card by the builder's one call (the guide's Derived/Test/ToyasCard.lean, 'card_holds'). Laid BY PROGRAM, IN A SANDBOX (cutbox-door.mjs). By AI agents, Wed Nov 11 2026. No macro, syntax, notation, axiom, sorry.
-/
import Derived.Test.YtoiojhmfndmflaaGreatDoorRows
import GoSem.ClaimSeven
namespace Go.Proofs.YtoiojhmfndmflaaGreatDoor
namespace Rows

/-- THE TIED CARD OF 'loupelaw23.GuardNil'. -/
def guardNilCard : Claim7 := { stood := { row := guardNilRow, standIns := [], harness := (true, "34ad26cbf8c13f5d5551d39ce41231a2b1f1f0242e3082af32645fe7227f04d0"), looks := true }, kinds := [], alts := [], laidByText := true, laidKinds := [.data, .data, .data, .data, .sentinel, .sentinel, .pinned], laidTests := true, laidLooks := .later }
def GuardNilCardSaid : Prop := Claim7.holds Tryz.pinned (.plain (OpenSpec.ofChange guardNilSpec)) guardNilCard

/-- THE SECOND FORM's CARD OF 'loupelaw23.GuardNil'. -/
def guardNilUptoCard : Claim7 := { stood := { row := guardNilUptoRow, standIns := [], harness := (true, "34ad26cbf8c13f5d5551d39ce41231a2b1f1f0242e3082af32645fe7227f04d0"), looks := true }, kinds := [], alts := [], laidByText := true, laidKinds := [.data, .data, .data, .data, .sentinel, .sentinel, .pinned], laidTests := true, laidLooks := .later }
def GuardNilUptoCardSaid : Prop := Claim7.holds Tryz.pinned (.plain (OpenSpec.upto guardNilSpec)) guardNilUptoCard
end Rows
end Go.Proofs.YtoiojhmfndmflaaGreatDoor
