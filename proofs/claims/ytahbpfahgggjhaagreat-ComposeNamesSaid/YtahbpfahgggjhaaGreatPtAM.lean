/-
  Contracts of the library, and a run that is computed (PtAM). Conditions: each theorem's own premises. By an AI agent.
-/
import Derived.Test.YtahbpfahgggjhaaGreatPtAL
namespace Go.Vm
open Go Go.RowKit Go.Proofs
set_option linter.unusedSimpArgs false
set_option maxRecDepth 1000000
noncomputable def e45 : Ent := ⟨4, [],
  (.one (bC true)),
  []⟩
theorem e45_run : runE t44 e45 = true := by decide +kernel
theorem composeNames_call (gw : World) : VCall Tryz.prog gw gw.heap.size 4 [] (.one (.c (.bool true))) [] := run_ok (t44_ok gw) e45_run
end Go.Vm
