/-
  Contracts of the library, and a run that is computed (PtBG). Conditions: each theorem's own premises. By an AI agent.
-/
import Derived.Test.YtcdbbiognijleaaGreatPtAU
namespace Go.Vm
open Go Go.RowKit Go.Proofs
set_option linter.unusedSimpArgs false
set_option maxRecDepth 1000000
theorem e166_run : runE t165 e166 = true := by decide +kernel
theorem e167_run : runE t166 e167 = true := by decide +kernel
theorem e168_run : runE t167 e168 = true := by decide +kernel
theorem e169_run : runE t168 e169 = true := by decide +kernel
theorem e170_run : runE t169 e170 = true := by decide +kernel
theorem e171_run : runE t170 e171 = true := by decide +kernel
theorem e172_run : runE t171 e172 = true := by decide +kernel
theorem e173_run : runE t172 e173 = true := by decide +kernel
theorem e174_run : runE t173 e174 = true := by decide +kernel
theorem e175_run : runE t174 e175 = true := by decide +kernel
theorem e176_run : runE t175 e176 = true := by decide +kernel
theorem e177_run : runE t176 e177 = true := by decide +kernel
theorem e178_run : runE t177 e178 = true := by decide +kernel
theorem e179_run : runE t178 e179 = true := by decide +kernel
theorem e180_run : runE t179 e180 = true := by decide +kernel
end Go.Vm
