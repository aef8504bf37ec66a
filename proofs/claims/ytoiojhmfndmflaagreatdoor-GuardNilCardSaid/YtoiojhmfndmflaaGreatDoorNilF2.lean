/-
  Calls that are run by the kernel: each comes to what is told of it, whatever the order that the machine draws.
-/
import Derived.Test.YtoiojhmfndmflaaGreatDoorNilOrc
import Derived.Test.YtoiojhmfndmflaaGreatDoorRexFe
import Derived.Test.YtoiojhmfndmflaaGreatDoorProg
import Derived.Test.YtoiojhmfndmflaaGreatDoorNilBase
import Derived.Test.YtoiojhmfndmflaaGreatDoorNilF1
namespace Go.Proofs.YtoiojhmfndmflaaGreatDoor
open Go Go.Proofs.YtoiojhmfndmflaaGreatDoor.Rex
set_option maxRecDepth 100000
theorem o2_run : (o2.wf && o2.came (callG Tryz.prog 657 (drawX Tryz.prog 657) [o1] 1000 100 o2.f o2.args none (over .lf o2.pre) o2.n)) = true := by decide +kernel
theorem o2_ok : Orc.Ok Tryz.prog o2 := Orc.ok_byF mixed ib_ok ng (os := [o1]) (fun o h => by
    simp only [List.mem_cons, List.not_mem_nil, or_false] at h
    rcases h with rfl
    · exact o1_ok
    ) o2_run
end Go.Proofs.YtoiojhmfndmflaaGreatDoor
