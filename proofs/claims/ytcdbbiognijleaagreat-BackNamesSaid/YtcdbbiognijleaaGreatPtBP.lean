/-
  Contracts of the library, and a run that is computed (PtBP). Conditions: each theorem's own premises. By an AI agent.
-/
import Derived.Test.YtcdbbiognijleaaGreatPtAU
namespace Go.Vm
open Go Go.RowKit Go.Proofs
set_option linter.unusedSimpArgs false
set_option maxRecDepth 1000000
theorem e301_run : runE t300 e301 = true := by decide +kernel
theorem e302_run : runE t301 e302 = true := by decide +kernel
theorem e303_run : runE t302 e303 = true := by decide +kernel
theorem e304_run : runE t303 e304 = true := by decide +kernel
theorem e305_run : runE t304 e305 = true := by decide +kernel
theorem e306_run : runE t305 e306 = true := by decide +kernel
theorem e307_run : runE t306 e307 = true := by decide +kernel
theorem e308_run : runE t307 e308 = true := by decide +kernel
theorem e309_run : runE t308 e309 = true := by decide +kernel
end Go.Vm
