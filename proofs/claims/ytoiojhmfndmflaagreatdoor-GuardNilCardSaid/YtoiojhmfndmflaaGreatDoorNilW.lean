/-
  A world in which the listed variables of loupelaw23.GuardNil hold what the row tells.
-/
import Derived.Test.YtoiojhmfndmflaaGreatDoorRows
import Derived.ProofKit
import Derived.LaidMore
import Derived.Lay
namespace Go.Proofs.YtoiojhmfndmflaaGreatDoor
open Go Go.ChangeShapes Go.WideShapes Go.ChangeAt Go.RowKit
set_option maxRecDepth 100000
theorem wit_zip (os : Os) : World.variablesZipB Tryz.checked.prog ((World.laidAll Tryz.prog os Rows.guardNilRow.laid).forCall (fun _ _ => 0) ⟨#[], #[.string ⟨#[]⟩, .int .i64 0], []⟩) = true := by kernel_rfl
theorem wit_rest (os : Os) : List.take ((begin Tryz.checked.prog (fun _ _ => 0) default).world.heap.size - Tryz.checked.prog.globals.size) (List.drop Tryz.checked.prog.globals.size ((World.laidAll Tryz.prog os Rows.guardNilRow.laid).forCall (fun _ _ => 0) ⟨#[], #[.string ⟨#[]⟩, .int .i64 0], []⟩).heap.toList) =
    List.drop Tryz.checked.prog.globals.size (begin Tryz.checked.prog (fun _ _ => 0) default).world.heap.toList := by kernel_rfl
theorem wit_fits (os : Os) : (World.holding Tryz.prog os ⟨#[], #[], []⟩).layFits Tryz.prog Rows.guardNilRow.laid [] = true := by kernel_rfl
theorem wit_ifaces (os : Os) : (World.holding Tryz.prog os ⟨#[], #[], []⟩).layIfaces Tryz.prog Rows.guardNilRow.laid (World.laidAll Tryz.prog os Rows.guardNilRow.laid) = true := by kernel_rfl
end Go.Proofs.YtoiojhmfndmflaaGreatDoor
