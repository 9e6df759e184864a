/-
  Contracts of the library, and a run that is computed (PtBD). Conditions: each theorem's own premises. By an AI agent.
-/
import Derived.Test.YtcdbbiognijleaaGreatPtAU
namespace Go.Vm
open Go Go.RowKit Go.Proofs
set_option linter.unusedSimpArgs false
set_option maxRecDepth 1000000
theorem e121_run : runE t120 e121 = true := by decide +kernel
theorem e122_run : runE t121 e122 = true := by decide +kernel
theorem e123_run : runE t122 e123 = true := by decide +kernel
theorem e124_run : runE t123 e124 = true := by decide +kernel
theorem e125_run : runE t124 e125 = true := by decide +kernel
theorem e126_run : runE t125 e126 = true := by decide +kernel
theorem e127_run : runE t126 e127 = true := by decide +kernel
theorem e128_run : runE t127 e128 = true := by decide +kernel
theorem e129_run : runE t128 e129 = true := by decide +kernel
theorem e130_run : runE t129 e130 = true := by decide +kernel
theorem e131_run : runE t130 e131 = true := by decide +kernel
theorem e132_run : runE t131 e132 = true := by decide +kernel
theorem e133_run : runE t132 e133 = true := by decide +kernel
theorem e134_run : runE t133 e134 = true := by decide +kernel
theorem e135_run : runE t134 e135 = true := by decide +kernel
end Go.Vm
