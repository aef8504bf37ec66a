/-
  THE TIED CARD of loupelaw23.GuardNil: it returns true for every argument, and its arguments read as before; the listed variables are tied to the program's text. Its conditions: those of the row and of the card, as given.
-/
import Derived.Test.YtoiojhmfndmflaaGreatDoorNilP
import Derived.Test.YtoiojhmfndmflaaGreatDoorTie
import Derived.Test.YtoiojhmfndmflaaGreatDoorCards
import Derived.SevenTiedAt
namespace Go.Proofs.YtoiojhmfndmflaaGreatDoor
open Go
set_option maxRecDepth 100000
theorem card_holds : Rows.GuardNilCardSaid :=
  Claim7.holds_tied_plain_at .later [] [.data, .data, .data, .data, .sentinel, .sentinel, .pinned] true (true, "34ad26cbf8c13f5d5551d39ce41231a2b1f1f0242e3082af32645fe7227f04d0") true
    guardNil_holds (fun _ h => by cases h) (by kernel_rfl) (fun _ h => by cases h) guardNil_row_tie rfl ⟨rfl, rfl⟩ (by kernel_rfl) rfl
    (fun f fn hf hfn => by
      obtain rfl : f = 3 := Option.some.inj (funcNamedF.symm.trans hf) |>.symm
      obtain rfl : fn = Tryz.f3 := (Option.some.inj (Tryz.func3.symm.trans hfn)).symm
      exact ⟨by kernel_rfl, fun j t ht => by
        rw [Tryz.params3] at ht
        have hm : t ∈ [9, 2] := by simpa using Array.mem_of_getElem? ht
        have hall : ([9, 2].all fun u => !Tryz.prog.wantsStandIn u) = true := by kernel_rfl
        exact (show Tryz.prog.wantsStandIn t = false by simpa using List.all_eq_true.1 hall t hm)⟩)
    (Go.Proofs.YtoiojhmfndmflaaGreatDoor.Rex.goesBy_none rfl goesF)
#print axioms card_holds
end Go.Proofs.YtoiojhmfndmflaaGreatDoor
