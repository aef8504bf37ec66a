/-
  Calls that are run by the kernel: each comes to what is told of it, whatever the order that the machine draws.
-/
import Derived.Test.YtoiojhmfndmflaaGreatDoorNilOrc
import Derived.Test.YtoiojhmfndmflaaGreatDoorRexFe
import Derived.Test.YtoiojhmfndmflaaGreatDoorProg
import Derived.Test.YtoiojhmfndmflaaGreatDoorNilBase
namespace Go.Proofs.YtoiojhmfndmflaaGreatDoor
open Go Go.Proofs.YtoiojhmfndmflaaGreatDoor.Rex
set_option maxRecDepth 100000
theorem o1_run : (o1.wf && o1.came (callG Tryz.prog 657 (drawX Tryz.prog 657) [] 1000 100 o1.f o1.args none (over .lf o1.pre) o1.n)) = true := by decide +kernel
theorem o1_ok : Orc.Ok Tryz.prog o1 := Orc.ok_byF mixed ib_ok ng (os := []) (fun _ h => by cases h) o1_run
theorem o3_run : (o3.wf && o3.came (callG Tryz.prog 657 (drawX Tryz.prog 657) [] 1000 100 o3.f o3.args none (over .lf o3.pre) o3.n)) = true := by decide +kernel
theorem o3_ok : Orc.Ok Tryz.prog o3 := Orc.ok_byF mixed ib_ok ng (os := []) (fun _ h => by cases h) o3_run
end Go.Proofs.YtoiojhmfndmflaaGreatDoor
