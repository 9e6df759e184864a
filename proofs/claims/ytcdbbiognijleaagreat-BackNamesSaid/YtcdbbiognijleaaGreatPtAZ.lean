/-
  Contracts of the library, and a run that is computed (PtAZ). Conditions: each theorem's own premises. By an AI agent.
-/
import Derived.Test.YtcdbbiognijleaaGreatPtAU
namespace Go.Vm
open Go Go.RowKit Go.Proofs
set_option linter.unusedSimpArgs false
set_option maxRecDepth 1000000
theorem e61_run : runE t60 e61 = true := by decide +kernel
theorem e62_run : runE t61 e62 = true := by decide +kernel
theorem e63_run : runE t62 e63 = true := by decide +kernel
theorem e64_run : runE t63 e64 = true := by decide +kernel
theorem e65_run : runE t64 e65 = true := by decide +kernel
theorem e66_run : runE t65 e66 = true := by decide +kernel
theorem e67_run : runE t66 e67 = true := by decide +kernel
theorem e68_run : runE t67 e68 = true := by decide +kernel
theorem e69_run : runE t68 e69 = true := by decide +kernel
theorem e70_run : runE t69 e70 = true := by decide +kernel
theorem e71_run : runE t70 e71 = true := by decide +kernel
theorem e72_run : runE t71 e72 = true := by decide +kernel
theorem e73_run : runE t72 e73 = true := by decide +kernel
theorem e74_run : runE t73 e74 = true := by decide +kernel
theorem e75_run : runE t74 e75 = true := by decide +kernel
end Go.Vm
