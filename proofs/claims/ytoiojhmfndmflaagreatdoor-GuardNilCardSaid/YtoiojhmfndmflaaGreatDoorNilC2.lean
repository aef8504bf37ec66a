/-
  What the functions reached from loupelaw23.GuardNil name; what the program lays is sound.
-/
import Derived.Test.YtoiojhmfndmflaaGreatDoorNilC1
namespace Go.Proofs.YtoiojhmfndmflaaGreatDoor
open Go Go.Proofs.YtoiojhmfndmflaaGreatDoor.Rex
set_option maxRecDepth 100000
theorem inPlaceF : Tryz.prog.inPlace 3 = ["internal/bytealg.IndexByteString", "internal/bytealg.IndexString", "internal/bytealg.CountString", "internal/abi.NoEscape", "internal/bytealg.MakeNoZero"] := inPlace_of closureF (by kernel_rfl)
theorem unfollowedF : Tryz.prog.unfollowed 3 = true := unfollowed_of closureF (by kernel_rfl)
theorem recursesF : Tryz.prog.recurses 3 = true := recurses_of unfollowedF
theorem varsNamedF : Tryz.prog.varsNamed 3 = ["internal/bytealg.MaxLen", "internal/strconv.uint64pow10", "math/bits.deBruijn32tab", "math/bits.deBruijn64tab", "unicode/utf8.first", "unicode/utf8.acceptRanges", "strconv.ErrSyntax", "strconv.ErrRange"] := varsNamed_of closureF (by kernel_rfl)
theorem rowsF : (List.range Tryz.prog.types.size).all (rowFineQ.1 Tryz.prog) = true := by kernel_rfl
theorem funsF : Tryz.prog.funcs.toList.all (fun f => f.params.all fun t => decide (t < Tryz.prog.types.size)) = true := by kernel_rfl
theorem goesF : Tryz.prog.funcs.toList.any Func.goes = false := by kernel_rfl
theorem funcNamedF : Tryz.prog.funcNamed "loupe/loupelaw23.GuardNil" = some 3 := funcNamed_of (by kernel_rfl)
theorem laidOutF : laidOutB Tryz.prog = true := laidOut_of rowsF (by kernel_rfl) funsF
end Go.Proofs.YtoiojhmfndmflaaGreatDoor
