/-
  Contracts of the library, and a run that is computed (PtBC). Conditions: each theorem's own premises. By an AI agent.
-/
import Derived.Test.YtcdbbiognijleaaGreatPtAU
namespace Go.Vm
open Go Go.RowKit Go.Proofs
set_option linter.unusedSimpArgs false
set_option maxRecDepth 1000000
theorem e106_run : runE t105 e106 = true := by decide +kernel
theorem e107_run : runE t106 e107 = true := by decide +kernel
theorem e108_run : runE t107 e108 = true := by decide +kernel
theorem e109_run : runE t108 e109 = true := by decide +kernel
theorem e110_run : runE t109 e110 = true := by decide +kernel
theorem e111_run : runE t110 e111 = true := by decide +kernel
theorem e112_run : runE t111 e112 = true := by decide +kernel
theorem e113_run : runE t112 e113 = true := by decide +kernel
theorem e114_run : runE t113 e114 = true := by decide +kernel
theorem e115_run : runE t114 e115 = true := by decide +kernel
theorem e116_run : runE t115 e116 = true := by decide +kernel
theorem e117_run : runE t116 e117 = true := by decide +kernel
theorem e118_run : runE t117 e118 = true := by decide +kernel
theorem e119_run : runE t118 e119 = true := by decide +kernel
theorem e120_run : runE t119 e120 = true := by decide +kernel
end Go.Vm
