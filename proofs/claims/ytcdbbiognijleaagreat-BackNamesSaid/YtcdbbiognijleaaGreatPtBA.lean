/-
  Contracts of the library, and a run that is computed (PtBA). Conditions: each theorem's own premises. By an AI agent.
-/
import Derived.Test.YtcdbbiognijleaaGreatPtAU
namespace Go.Vm
open Go Go.RowKit Go.Proofs
set_option linter.unusedSimpArgs false
set_option maxRecDepth 1000000
theorem e76_run : runE t75 e76 = true := by decide +kernel
theorem e77_run : runE t76 e77 = true := by decide +kernel
theorem e78_run : runE t77 e78 = true := by decide +kernel
theorem e79_run : runE t78 e79 = true := by decide +kernel
theorem e80_run : runE t79 e80 = true := by decide +kernel
theorem e81_run : runE t80 e81 = true := by decide +kernel
theorem e82_run : runE t81 e82 = true := by decide +kernel
theorem e83_run : runE t82 e83 = true := by decide +kernel
theorem e84_run : runE t83 e84 = true := by decide +kernel
theorem e85_run : runE t84 e85 = true := by decide +kernel
theorem e86_run : runE t85 e86 = true := by decide +kernel
theorem e87_run : runE t86 e87 = true := by decide +kernel
theorem e88_run : runE t87 e88 = true := by decide +kernel
theorem e89_run : runE t88 e89 = true := by decide +kernel
theorem e90_run : runE t89 e90 = true := by decide +kernel
end Go.Vm
