/-
  Calls that are run by the kernel: each comes to what is told of it, whatever the order that the machine draws.
-/
import Derived.Test.YtoiojhmfndmflaaGreatDoorNilOrc
import Derived.Test.YtoiojhmfndmflaaGreatDoorRexFe
import Derived.Test.YtoiojhmfndmflaaGreatDoorProg
import Derived.Test.YtoiojhmfndmflaaGreatDoorNilBase
namespace Go.Proofs.YtoiojhmfndmflaaGreatDoor
open Go Go.Proofs.YtoiojhmfndmflaaGreatDoor.Rex
set_option maxRecDepth 100000
theorem o4_run : (o4.wf && o4.came (callG Tryz.prog 657 (drawX Tryz.prog 657) [] 1000 100 o4.f o4.args none (over .lf o4.pre) o4.n)) = true := by decide +kernel
theorem o4_ok : Orc.Ok Tryz.prog o4 := Orc.ok_byF mixed ib_ok ng (os := []) (fun _ h => by cases h) o4_run
end Go.Proofs.YtoiojhmfndmflaaGreatDoor
