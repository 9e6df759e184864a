/-
  Contracts of the library, and a run that is computed (PtBE). Conditions: each theorem's own premises. By an AI agent.
-/
import Derived.Test.YtcdbbiognijleaaGreatPtAU
namespace Go.Vm
open Go Go.RowKit Go.Proofs
set_option linter.unusedSimpArgs false
set_option maxRecDepth 1000000
theorem e136_run : runE t135 e136 = true := by decide +kernel
theorem e137_run : runE t136 e137 = true := by decide +kernel
theorem e138_run : runE t137 e138 = true := by decide +kernel
theorem e139_run : runE t138 e139 = true := by decide +kernel
theorem e140_run : runE t139 e140 = true := by decide +kernel
theorem e141_run : runE t140 e141 = true := by decide +kernel
theorem e142_run : runE t141 e142 = true := by decide +kernel
theorem e143_run : runE t142 e143 = true := by decide +kernel
theorem e144_run : runE t143 e144 = true := by decide +kernel
theorem e145_run : runE t144 e145 = true := by decide +kernel
theorem e146_run : runE t145 e146 = true := by decide +kernel
theorem e147_run : runE t146 e147 = true := by decide +kernel
theorem e148_run : runE t147 e148 = true := by decide +kernel
theorem e149_run : runE t148 e149 = true := by decide +kernel
theorem e150_run : runE t149 e150 = true := by decide +kernel
end Go.Vm
