/-
  Closed facts of the row of loupelaw23.GuardNil, one by one, by the kernel.
-/
import Derived.Test.YtoiojhmfndmflaaGreatDoorRows
import Derived.JoinedOf
import Derived.KernelRfl
import Derived.Test.YtoiojhmfndmflaaGreatDoorNilC2
namespace Go.Proofs.YtoiojhmfndmflaaGreatDoor
open Go
set_option maxRecDepth 100000
theorem q24 : ((Tryz.prog.stopsHeard) : Bool) = true := (Go.Proofs.YtoiojhmfndmflaaGreatDoor.Rex.stopsHeardQ.2 _).trans (by kernel_rfl)
theorem q25 : ((Tryz.prog.mayEnter) : Bool) = true := (Go.Proofs.YtoiojhmfndmflaaGreatDoor.Rex.mayEnterQ.2 _).trans (by kernel_rfl)
theorem q26 : (((Rows.guardNilRow.lifted == Tryz.prog.liftsFinal)) : Bool) = true := by kernel_rfl
theorem q27 : (((Tryz.prog.make == some Rows.guardNilRow.make)) : Bool) = true := by kernel_rfl
theorem q28 : (((Rows.guardNilRow.kinds == (if Rows.guardNilRow.domain.isEmpty then [] else Tryz.f3.params.toList.map fun t => match Tryz.prog.underlying t with | some (.int k) => some k | _ => none))) : Bool) = true := by kernel_rfl
theorem q29 : (((Rows.guardNilRow.pinned == Rows.guardNilRow.pinnedBy)) : Bool) = true := by kernel_rfl
theorem q30 : (((Rows.guardNilRow.veiled == (Tryz.f3.params.toList ++ Rows.guardNilSpec.plain.varTypes Tryz.prog ++ Tryz.f3.resultTypes.toList).any (Tryz.prog.veiledRec ·))) : Bool) = true := by kernel_rfl
theorem q31 : ((Rows.guardNilRow.veiledFits Tryz.prog Tryz.f3.params.toList (Tryz.f3.params.toList ++ Rows.guardNilSpec.plain.varTypes Tryz.prog ++ Tryz.f3.resultTypes.toList)) : Bool) = true := by kernel_rfl
end Go.Proofs.YtoiojhmfndmflaaGreatDoor
