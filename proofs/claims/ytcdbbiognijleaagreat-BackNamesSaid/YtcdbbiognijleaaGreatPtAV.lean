/-
  Contracts of the library, and a run that is computed (PtAV). Conditions: each theorem's own premises. By an AI agent.
-/
import Derived.Test.YtcdbbiognijleaaGreatPtAU
namespace Go.Vm
open Go Go.RowKit Go.Proofs
set_option linter.unusedSimpArgs false
set_option maxRecDepth 1000000
theorem e1_run : runE t0 e1 = true := by decide +kernel
theorem e2_run : runE t1 e2 = true := by decide +kernel
theorem e3_run : runE t2 e3 = true := by decide +kernel
theorem e4_run : runE t3 e4 = true := by decide +kernel
theorem e5_run : runE t4 e5 = true := by decide +kernel
theorem e6_run : runE t5 e6 = true := by decide +kernel
theorem e7_run : runE t6 e7 = true := by decide +kernel
theorem e8_run : runE t7 e8 = true := by decide +kernel
theorem e9_run : runE t8 e9 = true := by decide +kernel
theorem e10_run : runE t9 e10 = true := by decide +kernel
theorem e11_run : runE t10 e11 = true := by decide +kernel
theorem e12_run : runE t11 e12 = true := by decide +kernel
theorem e13_run : runE t12 e13 = true := by decide +kernel
theorem e14_run : runE t13 e14 = true := by decide +kernel
theorem e15_run : runE t14 e15 = true := by decide +kernel
end Go.Vm
