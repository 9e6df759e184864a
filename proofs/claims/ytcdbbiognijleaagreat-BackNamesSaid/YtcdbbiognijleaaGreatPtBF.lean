/-
  Contracts of the library, and a run that is computed (PtBF). Conditions: each theorem's own premises. By an AI agent.
-/
import Derived.Test.YtcdbbiognijleaaGreatPtAU
namespace Go.Vm
open Go Go.RowKit Go.Proofs
set_option linter.unusedSimpArgs false
set_option maxRecDepth 1000000
theorem e151_run : runE t150 e151 = true := by decide +kernel
theorem e152_run : runE t151 e152 = true := by decide +kernel
theorem e153_run : runE t152 e153 = true := by decide +kernel
theorem e154_run : runE t153 e154 = true := by decide +kernel
theorem e155_run : runE t154 e155 = true := by decide +kernel
theorem e156_run : runE t155 e156 = true := by decide +kernel
theorem e157_run : runE t156 e157 = true := by decide +kernel
theorem e158_run : runE t157 e158 = true := by decide +kernel
theorem e159_run : runE t158 e159 = true := by decide +kernel
theorem e160_run : runE t159 e160 = true := by decide +kernel
theorem e161_run : runE t160 e161 = true := by decide +kernel
theorem e162_run : runE t161 e162 = true := by decide +kernel
theorem e163_run : runE t162 e163 = true := by decide +kernel
theorem e164_run : runE t163 e164 = true := by decide +kernel
theorem e165_run : runE t164 e165 = true := by decide +kernel
end Go.Vm
