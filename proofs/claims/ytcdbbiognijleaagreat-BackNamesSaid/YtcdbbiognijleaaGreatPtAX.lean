/-
  Contracts of the library, and a run that is computed (PtAX). Conditions: each theorem's own premises. By an AI agent.
-/
import Derived.Test.YtcdbbiognijleaaGreatPtAU
namespace Go.Vm
open Go Go.RowKit Go.Proofs
set_option linter.unusedSimpArgs false
set_option maxRecDepth 1000000
theorem e31_run : runE t30 e31 = true := by decide +kernel
theorem e32_run : runE t31 e32 = true := by decide +kernel
theorem e33_run : runE t32 e33 = true := by decide +kernel
theorem e34_run : runE t33 e34 = true := by decide +kernel
theorem e35_run : runE t34 e35 = true := by decide +kernel
theorem e36_run : runE t35 e36 = true := by decide +kernel
theorem e37_run : runE t36 e37 = true := by decide +kernel
theorem e38_run : runE t37 e38 = true := by decide +kernel
theorem e39_run : runE t38 e39 = true := by decide +kernel
theorem e40_run : runE t39 e40 = true := by decide +kernel
theorem e41_run : runE t40 e41 = true := by decide +kernel
theorem e42_run : runE t41 e42 = true := by decide +kernel
theorem e43_run : runE t42 e43 = true := by decide +kernel
theorem e44_run : runE t43 e44 = true := by decide +kernel
theorem e45_run : runE t44 e45 = true := by decide +kernel
end Go.Vm
