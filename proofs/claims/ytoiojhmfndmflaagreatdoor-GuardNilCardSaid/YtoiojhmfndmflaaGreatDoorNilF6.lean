/-
  Calls that are run by the kernel: each comes to what is told of it, whatever the order that the machine draws.
-/
import Derived.Test.YtoiojhmfndmflaaGreatDoorNilOrc
import Derived.Test.YtoiojhmfndmflaaGreatDoorRexFe
import Derived.Test.YtoiojhmfndmflaaGreatDoorProg
import Derived.Test.YtoiojhmfndmflaaGreatDoorNilBase
import Derived.Test.YtoiojhmfndmflaaGreatDoorNilF1
import Derived.Test.YtoiojhmfndmflaaGreatDoorNilF2
import Derived.Test.YtoiojhmfndmflaaGreatDoorNilF4
import Derived.Test.YtoiojhmfndmflaaGreatDoorNilF5
namespace Go.Proofs.YtoiojhmfndmflaaGreatDoor
open Go Go.Proofs.YtoiojhmfndmflaaGreatDoor.Rex
set_option maxRecDepth 100000
theorem o6_run : (o6.wf && o6.came (callG Tryz.prog 657 (drawX Tryz.prog 657) [] 1000 100 o6.f o6.args none (over .lf o6.pre) o6.n)) = true := by decide +kernel
theorem o6_ok : Orc.Ok Tryz.prog o6 := Orc.ok_byF mixed ib_ok ng (os := []) (fun _ h => by cases h) o6_run
theorem o7_run : (o7.wf && o7.came (callG Tryz.prog 657 (drawX Tryz.prog 657) [o2, o3, o4, o5, o6] 1000 100 o7.f o7.args none (over .lf o7.pre) o7.n)) = true := by decide +kernel
theorem o7_ok : Orc.Ok Tryz.prog o7 := Orc.ok_byF mixed ib_ok ng (os := [o2, o3, o4, o5, o6]) (fun o h => by
    simp only [List.mem_cons, List.not_mem_nil, or_false] at h
    rcases h with rfl | rfl | rfl | rfl | rfl
    · exact o2_ok
    · exact o3_ok
    · exact o4_ok
    · exact o5_ok
    · exact o6_ok
    ) o7_run
end Go.Proofs.YtoiojhmfndmflaaGreatDoor
