/-
  Contracts of the library, and a run that is computed (PtBL). Conditions: each theorem's own premises. By an AI agent.
-/
import Derived.Test.YtcdbbiognijleaaGreatPtAU
namespace Go.Vm
open Go Go.RowKit Go.Proofs
set_option linter.unusedSimpArgs false
set_option maxRecDepth 1000000
theorem e241_run : runE t240 e241 = true := by decide +kernel
theorem e242_run : runE t241 e242 = true := by decide +kernel
theorem e243_run : runE t242 e243 = true := by decide +kernel
theorem e244_run : runE t243 e244 = true := by decide +kernel
theorem e245_run : runE t244 e245 = true := by decide +kernel
theorem e246_run : runE t245 e246 = true := by decide +kernel
theorem e247_run : runE t246 e247 = true := by decide +kernel
theorem e248_run : runE t247 e248 = true := by decide +kernel
theorem e249_run : runE t248 e249 = true := by decide +kernel
theorem e250_run : runE t249 e250 = true := by decide +kernel
theorem e251_run : runE t250 e251 = true := by decide +kernel
theorem e252_run : runE t251 e252 = true := by decide +kernel
theorem e253_run : runE t252 e253 = true := by decide +kernel
theorem e254_run : runE t253 e254 = true := by decide +kernel
theorem e255_run : runE t254 e255 = true := by decide +kernel
end Go.Vm
