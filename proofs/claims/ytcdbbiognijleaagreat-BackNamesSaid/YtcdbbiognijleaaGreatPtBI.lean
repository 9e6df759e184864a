/-
  Contracts of the library, and a run that is computed (PtBI). Conditions: each theorem's own premises. By an AI agent.
-/
import Derived.Test.YtcdbbiognijleaaGreatPtAU
namespace Go.Vm
open Go Go.RowKit Go.Proofs
set_option linter.unusedSimpArgs false
set_option maxRecDepth 1000000
theorem e196_run : runE t195 e196 = true := by decide +kernel
theorem e197_run : runE t196 e197 = true := by decide +kernel
theorem e198_run : runE t197 e198 = true := by decide +kernel
theorem e199_run : runE t198 e199 = true := by decide +kernel
theorem e200_run : runE t199 e200 = true := by decide +kernel
theorem e201_run : runE t200 e201 = true := by decide +kernel
theorem e202_run : runE t201 e202 = true := by decide +kernel
theorem e203_run : runE t202 e203 = true := by decide +kernel
theorem e204_run : runE t203 e204 = true := by decide +kernel
theorem e205_run : runE t204 e205 = true := by decide +kernel
theorem e206_run : runE t205 e206 = true := by decide +kernel
theorem e207_run : runE t206 e207 = true := by decide +kernel
theorem e208_run : runE t207 e208 = true := by decide +kernel
theorem e209_run : runE t208 e209 = true := by decide +kernel
theorem e210_run : runE t209 e210 = true := by decide +kernel
end Go.Vm
