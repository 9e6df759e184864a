/-
  Contracts of the library, and a run that is computed (PtBK). Conditions: each theorem's own premises. By an AI agent.
-/
import Derived.Test.YtcdbbiognijleaaGreatPtAU
namespace Go.Vm
open Go Go.RowKit Go.Proofs
set_option linter.unusedSimpArgs false
set_option maxRecDepth 1000000
theorem e226_run : runE t225 e226 = true := by decide +kernel
theorem e227_run : runE t226 e227 = true := by decide +kernel
theorem e228_run : runE t227 e228 = true := by decide +kernel
theorem e229_run : runE t228 e229 = true := by decide +kernel
theorem e230_run : runE t229 e230 = true := by decide +kernel
theorem e231_run : runE t230 e231 = true := by decide +kernel
theorem e232_run : runE t231 e232 = true := by decide +kernel
theorem e233_run : runE t232 e233 = true := by decide +kernel
theorem e234_run : runE t233 e234 = true := by decide +kernel
theorem e235_run : runE t234 e235 = true := by decide +kernel
theorem e236_run : runE t235 e236 = true := by decide +kernel
theorem e237_run : runE t236 e237 = true := by decide +kernel
theorem e238_run : runE t237 e238 = true := by decide +kernel
theorem e239_run : runE t238 e239 = true := by decide +kernel
theorem e240_run : runE t239 e240 = true := by decide +kernel
end Go.Vm
