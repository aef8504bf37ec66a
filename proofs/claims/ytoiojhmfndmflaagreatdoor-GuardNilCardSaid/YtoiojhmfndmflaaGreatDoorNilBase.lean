/-
  Closed facts on the program: the orders that it follows; the function that the model answers by an entry (657); no function with a body bears the model's own name.
-/
import Derived.Test.YtoiojhmfndmflaaGreatDoorRexFe
import Derived.Test.YtoiojhmfndmflaaGreatDoorProg
import Derived.KernelRfl
namespace Go.Proofs.YtoiojhmfndmflaaGreatDoor
open Go Go.Proofs.YtoiojhmfndmflaaGreatDoor.Rex
set_option maxRecDepth 100000
theorem ib_ok : IbOk Tryz.prog 657 := ⟨_, rfl, by kernel_rfl, by kernel_rfl, by kernel_rfl, by kernel_rfl⟩
theorem mixed : Tryz.prog.follows .mixedOrders = true := by kernel_rfl
theorem ng : ngOk Tryz.prog = true := by kernel_rfl
end Go.Proofs.YtoiojhmfndmflaaGreatDoor
