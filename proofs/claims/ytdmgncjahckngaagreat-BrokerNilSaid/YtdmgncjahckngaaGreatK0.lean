/-
  What is asked of the program's tables: its types are laid out well, no variable of a package is named, maps' elements are types of the table.
-/
import Derived.Test.YtdmgncjahckngaaGreatP39
import Derived.Test.YtdmgncjahckngaaGreatProg
namespace Go.Proofs.YtdmgncjahckngaaGreat
set_option linter.all false
theorem laidFast : Eng.laidT Tryz.prog 739 = true := by decide +kernel
theorem laid : laidOutB Tryz.prog = true := Eng.laid_of laidFast
theorem noNames : Eng.noGs Tryz.prog = true := by decide +kernel
theorem typesCount : Nat.beq Tryz.prog.types.size 739 = true := by decide +kernel
theorem mapsFast : Eng.mapsT Tryz.prog 739 739 = true := by decide +kernel
theorem mapsOk : mapsRowed Tryz.prog = true := Eng.maps_of typesCount mapsFast
end Go.Proofs.YtdmgncjahckngaaGreat
