/-
  A world in which the listed variables of loupelaw23.GuardNil hold what the row tells.
-/
import Derived.Test.YtoiojhmfndmflaaGreatDoorRows
import Derived.ProofKit
import Derived.LaidMore
import Derived.Lay
import Derived.Test.YtoiojhmfndmflaaGreatDoorRexCw
import Derived.KernelRfl
namespace Go.Proofs.YtoiojhmfndmflaaGreatDoor
open Go Go.ChangeShapes Go.WideShapes Go.ChangeAt Go.RowKit Go.Proofs.YtoiojhmfndmflaaGreatDoor.Rex
set_option maxRecDepth 100000
theorem find_es : ((List.range Tryz.prog.types.size).find? fun u => tnQ.1 Tryz.prog u == some "*errors.errorString") = some 772 := by kernel_rfl
noncomputable def layG (n : Nat) : Option (List (Nat × List Value) × List Obj) := layLQ.1 Tryz.prog n 772 "math/bits.deBruijn32tab" "math/bits.deBruijn64tab" "internal/strconv.uint64pow10" "unicode/utf8.acceptRanges" "strconv.ErrRange" "strconv.ErrSyntax" "unicode/utf8.first"
  Rows.laid_math_bits_deBruijn32tab Rows.laid_math_bits_deBruijn64tab Rows.laid_internal_strconv_uint64pow10 Rows.laid_unicode_utf8_acceptRanges (.ptr (.agg [.lit (.string [118, 97, 108, 117, 101, 32, 111, 117, 116, 32, 111, 102, 32, 114, 97, 110, 103, 101])])) (.ptr (.agg [.lit (.string [105, 110, 118, 97, 108, 105, 100, 32, 115, 121, 110, 116, 97, 120])])) Rows.laid_unicode_utf8_first
theorem lay_eq (n : Nat) : Lay.layList Tryz.prog n Rows.guardNilRow.laid = layG n :=
  layLQ.2 Tryz.prog n 772 "math/bits.deBruijn32tab" "math/bits.deBruijn64tab" "internal/strconv.uint64pow10" "unicode/utf8.acceptRanges" "strconv.ErrRange" "strconv.ErrSyntax" "unicode/utf8.first"
    Rows.laid_math_bits_deBruijn32tab Rows.laid_math_bits_deBruijn64tab Rows.laid_internal_strconv_uint64pow10 Rows.laid_unicode_utf8_acceptRanges (.ptr (.agg [.lit (.string [118, 97, 108, 117, 101, 32, 111, 117, 116, 32, 111, 102, 32, 114, 97, 110, 103, 101])])) (.ptr (.agg [.lit (.string [105, 110, 118, 97, 108, 105, 100, 32, 115, 121, 110, 116, 97, 120])])) Rows.laid_unicode_utf8_first "*errors.errorString" (find_of find_es)
theorem laid_eq (os : Os) : World.laidAll Tryz.prog os Rows.guardNilRow.laid = laidAllQ.1 Tryz.prog os layG := laidAllQ.2 _ _ _ _ lay_eq
theorem wit_zip (os : Os) : World.variablesZipB Tryz.checked.prog ((World.laidAll Tryz.prog os Rows.guardNilRow.laid).forCall (fun _ _ => 0) ⟨#[], #[.string ⟨#[]⟩, .int .i64 0], []⟩) = true := by
  rw [laid_eq]
  kernel_rfl
theorem wit_rest (os : Os) : List.take ((begin Tryz.checked.prog (fun _ _ => 0) default).world.heap.size - Tryz.checked.prog.globals.size) (List.drop Tryz.checked.prog.globals.size ((World.laidAll Tryz.prog os Rows.guardNilRow.laid).forCall (fun _ _ => 0) ⟨#[], #[.string ⟨#[]⟩, .int .i64 0], []⟩).heap.toList) =
    List.drop Tryz.checked.prog.globals.size (begin Tryz.checked.prog (fun _ _ => 0) default).world.heap.toList := by
  rw [laid_eq]
  kernel_rfl
theorem wit_fits (os : Os) : (World.holding Tryz.prog os ⟨#[], #[], []⟩).layFits Tryz.prog Rows.guardNilRow.laid [] = true := (fitsQ.2 _ _ _ _ _ lay_eq).trans (by kernel_rfl)
theorem wit_ifaces (os : Os) : (World.holding Tryz.prog os ⟨#[], #[], []⟩).layIfaces Tryz.prog Rows.guardNilRow.laid (World.laidAll Tryz.prog os Rows.guardNilRow.laid) = true := by
  rw [laid_eq]
  exact (ifacesQ.2 _ _ _ _ _ lay_eq).trans (by kernel_rfl)
end Go.Proofs.YtoiojhmfndmflaaGreatDoor
