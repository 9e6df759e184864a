/-
  Contracts of the library, and a run that is computed (PtBO). Conditions: each theorem's own premises. By an AI agent.
-/
import Derived.Test.YtcdbbiognijleaaGreatPtAU
namespace Go.Vm
open Go Go.RowKit Go.Proofs
set_option linter.unusedSimpArgs false
set_option maxRecDepth 1000000
theorem e286_run : runE t285 e286 = true := by decide +kernel
theorem e287_run : runE t286 e287 = true := by decide +kernel
theorem e288_run : runE t287 e288 = true := by decide +kernel
theorem e289_run : runE t288 e289 = true := by decide +kernel
theorem e290_run : runE t289 e290 = true := by decide +kernel
theorem e291_run : runE t290 e291 = true := by decide +kernel
theorem e292_run : runE t291 e292 = true := by decide +kernel
theorem e293_run : runE t292 e293 = true := by decide +kernel
theorem e294_run : runE t293 e294 = true := by decide +kernel
theorem e295_run : runE t294 e295 = true := by decide +kernel
theorem e296_run : runE t295 e296 = true := by decide +kernel
theorem e297_run : runE t296 e297 = true := by decide +kernel
theorem e298_run : runE t297 e298 = true := by decide +kernel
theorem e299_run : runE t298 e299 = true := by decide +kernel
theorem e300_run : runE t299 e300 = true := by decide +kernel
end Go.Vm
