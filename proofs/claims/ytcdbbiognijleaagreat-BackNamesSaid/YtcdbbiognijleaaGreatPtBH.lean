/-
  Contracts of the library, and a run that is computed (PtBH). Conditions: each theorem's own premises. By an AI agent.
-/
import Derived.Test.YtcdbbiognijleaaGreatPtAU
namespace Go.Vm
open Go Go.RowKit Go.Proofs
set_option linter.unusedSimpArgs false
set_option maxRecDepth 1000000
theorem e181_run : runE t180 e181 = true := by decide +kernel
theorem e182_run : runE t181 e182 = true := by decide +kernel
theorem e183_run : runE t182 e183 = true := by decide +kernel
theorem e184_run : runE t183 e184 = true := by decide +kernel
theorem e185_run : runE t184 e185 = true := by decide +kernel
theorem e186_run : runE t185 e186 = true := by decide +kernel
theorem e187_run : runE t186 e187 = true := by decide +kernel
theorem e188_run : runE t187 e188 = true := by decide +kernel
theorem e189_run : runE t188 e189 = true := by decide +kernel
theorem e190_run : runE t189 e190 = true := by decide +kernel
theorem e191_run : runE t190 e191 = true := by decide +kernel
theorem e192_run : runE t191 e192 = true := by decide +kernel
theorem e193_run : runE t192 e193 = true := by decide +kernel
theorem e194_run : runE t193 e194 = true := by decide +kernel
theorem e195_run : runE t194 e195 = true := by decide +kernel
end Go.Vm
