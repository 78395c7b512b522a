/-
  The broker's small closed case holds: the function weighlocklaw41.one returns true, in any memory; nothing that was there is changed.
-/
import Derived.Test.YtdmgncjahckngaaGreatP37
import Derived.Test.YtdmgncjahckngaaGreatProg
namespace Go.Proofs.YtdmgncjahckngaaGreat
set_option linter.all false
theorem externs : Eng.externsOk Tryz.prog = true := by decide +kernel
theorem one_run : Eng.isTrue (Eng.callA Tryz.prog Eng.noOrc 60 (.func 30) [] Eng.heap0) = true := by decide +kernel
theorem one_true (w : World) : Calls Tryz.prog 30 #[] w fun e w' => e = .returned (.bool true) ∧ Eng.Apart w w' :=
  Eng.closed_true externs Tryz.func30 rfl one_run w
end Go.Proofs.YtdmgncjahckngaaGreat
