/-
  Contracts of the library, and a run that is computed (PtAY). Conditions: each theorem's own premises. By an AI agent.
-/
import Derived.Test.YtcdbbiognijleaaGreatPtAU
namespace Go.Vm
open Go Go.RowKit Go.Proofs
set_option linter.unusedSimpArgs false
set_option maxRecDepth 1000000
theorem e46_run : runE t45 e46 = true := by decide +kernel
theorem e47_run : runE t46 e47 = true := by decide +kernel
theorem e48_run : runE t47 e48 = true := by decide +kernel
theorem e49_run : runE t48 e49 = true := by decide +kernel
theorem e50_run : runE t49 e50 = true := by decide +kernel
theorem e51_run : runE t50 e51 = true := by decide +kernel
theorem e52_run : runE t51 e52 = true := by decide +kernel
theorem e53_run : runE t52 e53 = true := by decide +kernel
theorem e54_run : runE t53 e54 = true := by decide +kernel
theorem e55_run : runE t54 e55 = true := by decide +kernel
theorem e56_run : runE t55 e56 = true := by decide +kernel
theorem e57_run : runE t56 e57 = true := by decide +kernel
theorem e58_run : runE t57 e58 = true := by decide +kernel
theorem e59_run : runE t58 e59 = true := by decide +kernel
theorem e60_run : runE t59 e60 = true := by decide +kernel
end Go.Vm
