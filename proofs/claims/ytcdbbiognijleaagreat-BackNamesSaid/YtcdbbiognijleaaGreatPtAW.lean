/-
  Contracts of the library, and a run that is computed (PtAW). Conditions: each theorem's own premises. By an AI agent.
-/
import Derived.Test.YtcdbbiognijleaaGreatPtAU
namespace Go.Vm
open Go Go.RowKit Go.Proofs
set_option linter.unusedSimpArgs false
set_option maxRecDepth 1000000
theorem e16_run : runE t15 e16 = true := by decide +kernel
theorem e17_run : runE t16 e17 = true := by decide +kernel
theorem e18_run : runE t17 e18 = true := by decide +kernel
theorem e19_run : runE t18 e19 = true := by decide +kernel
theorem e20_run : runE t19 e20 = true := by decide +kernel
theorem e21_run : runE t20 e21 = true := by decide +kernel
theorem e22_run : runE t21 e22 = true := by decide +kernel
theorem e23_run : runE t22 e23 = true := by decide +kernel
theorem e24_run : runE t23 e24 = true := by decide +kernel
theorem e25_run : runE t24 e25 = true := by decide +kernel
theorem e26_run : runE t25 e26 = true := by decide +kernel
theorem e27_run : runE t26 e27 = true := by decide +kernel
theorem e28_run : runE t27 e28 = true := by decide +kernel
theorem e29_run : runE t28 e29 = true := by decide +kernel
theorem e30_run : runE t29 e30 = true := by decide +kernel
end Go.Vm
