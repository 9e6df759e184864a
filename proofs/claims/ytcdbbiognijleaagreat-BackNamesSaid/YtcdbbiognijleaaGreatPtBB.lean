/-
  Contracts of the library, and a run that is computed (PtBB). Conditions: each theorem's own premises. By an AI agent.
-/
import Derived.Test.YtcdbbiognijleaaGreatPtAU
namespace Go.Vm
open Go Go.RowKit Go.Proofs
set_option linter.unusedSimpArgs false
set_option maxRecDepth 1000000
theorem e91_run : runE t90 e91 = true := by decide +kernel
theorem e92_run : runE t91 e92 = true := by decide +kernel
theorem e93_run : runE t92 e93 = true := by decide +kernel
theorem e94_run : runE t93 e94 = true := by decide +kernel
theorem e95_run : runE t94 e95 = true := by decide +kernel
theorem e96_run : runE t95 e96 = true := by decide +kernel
theorem e97_run : runE t96 e97 = true := by decide +kernel
theorem e98_run : runE t97 e98 = true := by decide +kernel
theorem e99_run : runE t98 e99 = true := by decide +kernel
theorem e100_run : runE t99 e100 = true := by decide +kernel
theorem e101_run : runE t100 e101 = true := by decide +kernel
theorem e102_run : runE t101 e102 = true := by decide +kernel
theorem e103_run : runE t102 e103 = true := by decide +kernel
theorem e104_run : runE t103 e104 = true := by decide +kernel
theorem e105_run : runE t104 e105 = true := by decide +kernel
end Go.Vm
