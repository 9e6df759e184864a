/-
  Contracts of the library, and a run that is computed (PtBM). Conditions: each theorem's own premises. By an AI agent.
-/
import Derived.Test.YtcdbbiognijleaaGreatPtAU
namespace Go.Vm
open Go Go.RowKit Go.Proofs
set_option linter.unusedSimpArgs false
set_option maxRecDepth 1000000
theorem e256_run : runE t255 e256 = true := by decide +kernel
theorem e257_run : runE t256 e257 = true := by decide +kernel
theorem e258_run : runE t257 e258 = true := by decide +kernel
theorem e259_run : runE t258 e259 = true := by decide +kernel
theorem e260_run : runE t259 e260 = true := by decide +kernel
theorem e261_run : runE t260 e261 = true := by decide +kernel
theorem e262_run : runE t261 e262 = true := by decide +kernel
theorem e263_run : runE t262 e263 = true := by decide +kernel
theorem e264_run : runE t263 e264 = true := by decide +kernel
theorem e265_run : runE t264 e265 = true := by decide +kernel
theorem e266_run : runE t265 e266 = true := by decide +kernel
theorem e267_run : runE t266 e267 = true := by decide +kernel
theorem e268_run : runE t267 e268 = true := by decide +kernel
theorem e269_run : runE t268 e269 = true := by decide +kernel
theorem e270_run : runE t269 e270 = true := by decide +kernel
end Go.Vm
