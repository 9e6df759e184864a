/-
  Contracts of the library, and a run that is computed (PtBN). Conditions: each theorem's own premises. By an AI agent.
-/
import Derived.Test.YtcdbbiognijleaaGreatPtAU
namespace Go.Vm
open Go Go.RowKit Go.Proofs
set_option linter.unusedSimpArgs false
set_option maxRecDepth 1000000
theorem e271_run : runE t270 e271 = true := by decide +kernel
theorem e272_run : runE t271 e272 = true := by decide +kernel
theorem e273_run : runE t272 e273 = true := by decide +kernel
theorem e274_run : runE t273 e274 = true := by decide +kernel
theorem e275_run : runE t274 e275 = true := by decide +kernel
theorem e276_run : runE t275 e276 = true := by decide +kernel
theorem e277_run : runE t276 e277 = true := by decide +kernel
theorem e278_run : runE t277 e278 = true := by decide +kernel
theorem e279_run : runE t278 e279 = true := by decide +kernel
theorem e280_run : runE t279 e280 = true := by decide +kernel
theorem e281_run : runE t280 e281 = true := by decide +kernel
theorem e282_run : runE t281 e282 = true := by decide +kernel
theorem e283_run : runE t282 e283 = true := by decide +kernel
theorem e284_run : runE t283 e284 = true := by decide +kernel
theorem e285_run : runE t284 e285 = true := by decide +kernel
end Go.Vm
