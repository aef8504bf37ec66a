/-
  Closed facts of the row of loupelaw23.GuardNil, one by one, by the kernel.
-/
import Derived.Test.YtoiojhmfndmflaaGreatDoorRows
import Derived.JoinedOf
import Derived.KernelRfl
import Derived.Test.YtoiojhmfndmflaaGreatDoorNilC2
namespace Go.Proofs.YtoiojhmfndmflaaGreatDoor
open Go
set_option maxRecDepth 100000
theorem q0 : ((Rows.guardNilRow.wf (OpenSpec.ofChange Rows.guardNilSpec)) : Bool) = true := by kernel_rfl
theorem q1 : ((laidOutB Tryz.prog) : Bool) = true := laidOutF
theorem q2 : ((mapsRowed Tryz.prog) : Bool) = true := (Go.Proofs.YtoiojhmfndmflaaGreatDoor.Rex.mapsRowedQ.2 _).trans (by kernel_rfl)
theorem q3 : ((Tryz.f3.params.all (Tryz.prog.readableRec ·)) : Bool) = true := by kernel_rfl
theorem q4 : ((namedTie Tryz.prog Rows.guardNilRow.named Rows.guardNilSpec.vars) : Bool) = true := by kernel_rfl
theorem q5 : (((Rows.guardNilRow.stops == [])) : Bool) = true := by kernel_rfl
theorem q6 : (((Tryz.prog.stops == [])) : Bool) = true := by kernel_rfl
theorem q7 : (((Rows.guardNilRow.knobs == [])) : Bool) = true := by kernel_rfl
theorem q8 : (((Tryz.prog.stopKnobs == [])) : Bool) = true := by kernel_rfl
theorem q9 : (((Rows.guardNilRow.inPlace == Tryz.prog.inPlace 3)) : Bool) = true := by
  rw [inPlaceF]
  kernel_rfl
theorem q10 : (((Rows.guardNilRow.unfollowed == Tryz.prog.unfollowed 3)) : Bool) = true := by
  rw [unfollowedF]
  kernel_rfl
theorem q11 : (((Rows.guardNilRow.recurses == Tryz.prog.recurses 3)) : Bool) = true := by
  rw [recursesF]
  kernel_rfl
theorem q12 : (((Rows.guardNilRow.named == Tryz.prog.varsNamed 3)) : Bool) = true := by
  rw [varsNamedF]
  kernel_rfl
theorem q13 : (((Rows.guardNilRow.maps == (Tryz.f3.params.toList ++ Rows.guardNilSpec.plain.varTypes Tryz.prog).any (Tryz.prog.mapsRec ·))) : Bool) = true := by kernel_rfl
theorem q14 : (((Rows.guardNilRow.ifaces == (Tryz.f3.params.toList ++ Rows.guardNilSpec.plain.varTypes Tryz.prog).any (Tryz.prog.ifacesRec ·))) : Bool) = true := by kernel_rfl
theorem q15 : (((Rows.guardNilRow.mapsOut == Tryz.prog.mapsAmong Tryz.f3.resultTypes.toList)) : Bool) = true := by kernel_rfl
theorem q16 : (((Rows.guardNilRow.loops == (Tryz.f3.params.toList ++ Rows.guardNilSpec.plain.varTypes Tryz.prog).any (Tryz.prog.loopsFrom ·))) : Bool) = true := by kernel_rfl
theorem q17 : (((Rows.guardNilRow.wideKeys == (Tryz.f3.params.toList ++ Rows.guardNilSpec.plain.varTypes Tryz.prog ++ Tryz.f3.resultTypes.toList).any (Tryz.prog.wideKeysFrom ·))) : Bool) = true := by kernel_rfl
theorem q18 : ((Rows.guardNilSpec.vars.all (Tryz.prog.varReadable ·)) : Bool) = true := by kernel_rfl
theorem q19 : ((Tryz.f3.resultTypes.all (fun t => Tryz.prog.readableRec t && decide (t < Tryz.prog.types.size))) : Bool) = true := by kernel_rfl
theorem q20 : (((Rows.guardNilRow.ifacesOut == Tryz.f3.resultTypes.toList.any (Tryz.prog.ifacesRec ·))) : Bool) = true := by kernel_rfl
theorem q21 : (((Rows.guardNilRow.loopsOut == Tryz.f3.resultTypes.toList.any (Tryz.prog.loopsFrom ·))) : Bool) = true := by kernel_rfl
theorem q22 : (((Rows.guardNilRow.plainKeys == Tryz.prog.plainKeys)) : Bool) = true := by kernel_rfl
theorem q23 : ((Rows.guardNilRow.shortTexts.isNone) : Bool) = true := by kernel_rfl
end Go.Proofs.YtoiojhmfndmflaaGreatDoor
