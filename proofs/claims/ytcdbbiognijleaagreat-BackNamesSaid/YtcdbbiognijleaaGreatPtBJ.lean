/-
  Contracts of the library, and a run that is computed (PtBJ). Conditions: each theorem's own premises. By an AI agent.
-/
import Derived.Test.YtcdbbiognijleaaGreatPtAU
namespace Go.Vm
open Go Go.RowKit Go.Proofs
set_option linter.unusedSimpArgs false
set_option maxRecDepth 1000000
theorem e211_run : runE t210 e211 = true := by decide +kernel
theorem e212_run : runE t211 e212 = true := by decide +kernel
theorem e213_run : runE t212 e213 = true := by decide +kernel
theorem e214_run : runE t213 e214 = true := by decide +kernel
theorem e215_run : runE t214 e215 = true := by decide +kernel
theorem e216_run : runE t215 e216 = true := by decide +kernel
theorem e217_run : runE t216 e217 = true := by decide +kernel
theorem e218_run : runE t217 e218 = true := by decide +kernel
theorem e219_run : runE t218 e219 = true := by decide +kernel
theorem e220_run : runE t219 e220 = true := by decide +kernel
theorem e221_run : runE t220 e221 = true := by decide +kernel
theorem e222_run : runE t221 e222 = true := by decide +kernel
theorem e223_run : runE t222 e223 = true := by decide +kernel
theorem e224_run : runE t223 e224 = true := by decide +kernel
theorem e225_run : runE t224 e225 = true := by decide +kernel
end Go.Vm
