/-
  Contracts of the library, and a run that is computed (PtAL). Conditions: each theorem's own premises. By an AI agent.
-/
import Derived.Test.YtahbpfahgggjhaaGreatPtAK
namespace Go.Vm
open Go Go.RowKit Go.Proofs
set_option linter.unusedSimpArgs false
set_option maxRecDepth 1000000
noncomputable def e24 : Ent := ⟨31, [(.agg [(iC 1), (.sl false 0 []), (.sl false 0 []), (.sl false 1 [(iC 2)]), (.sl false 0 [])]), (.agg [(iC 2), (.sl false 1 [(iC 0), (iC 1)]), (.sl false 2 [(iC 6), (iC 4), (iC 9), (iC 3)]), (.sl false 1 [(iC 11)]), (.sl false 1 [(iC 1)])]), (.agg [(iC 4), (.sl false 1 [(iC 0), (iC 1)]), (.sl false 3 [(iC 10), (iC 4), (iC 13), (iC 3), (iC 14), (iC 7)]), (.sl false 1 [(iC 17)]), (.sl false 1 [(iC 1)])]), (.agg [(iC 1), (iC 1), (.sl false 0 []), (.sl false 2 [(.sl false 1 [(iC 4)]), (.sl false 1 [(iC 2)])]), (.sl false 1 [(iC (-1))]), (.sl false 0 []), (iC 1)]), (.agg [(iC 0), (iC 2), (.sl false 1 [(iC 10)]), (.sl false 2 [(.sl false 2 [(iC 2), (iC 4)]), (.sl false 2 [(iC 6), (iC 8)])]), (.sl false 1 [(iC 6)]), (.sl false 0 []), (iC 1)])],
  (.tup [(.agg [(iC 1), (iC 2), nC, (.own (0, 0)), (.own (0, 4)), (.own (0, 5)), (iC 1)]), (.one (iC 0))]),
  [(.arr 24 1 3 [(.own (0, 1)), (.own (0, 2)), (.own (0, 3))]), (.arr 3 1 1 [(iC 4)]), (.arr 3 1 1 [(iC 2)]), (.arr 3 1 1 [(iC 6)]), (.arr 3 1 1 [(iC (-1))]), (.arr 71 2 0 [])]⟩
theorem e24_run : runE t23 e24 = true := by decide +kernel
noncomputable def t24 : List Ent := e24 :: t23
theorem t24_ok (gw : World) : OkAll gw t24 := more (t23_ok gw) e24_run
noncomputable def e25 : Ent := ⟨9, [(.agg [(iC 1), (.sl false 0 []), (.sl false 0 []), (.sl false 1 [(iC 2)]), (.sl false 0 [])]), (.one (.sl false 4 [(sC [112, 114, 101, 102, 105, 120]), (iC 1), (sC [112, 104, 97, 115, 101, 115]), (iC 2), (sC [112, 114, 101, 102, 105, 120]), (iC 1), (sC [112, 104, 97, 115, 101, 115]), (iC 2)])), (.one (iC 0))],
  (.tup [(.agg [(iC 4), (.own (0, 0)), (.own (0, 1)), (.own (0, 2)), (.own (0, 3)), (iC 1), (iC 2), nC, (.own (0, 4)), (.own (0, 8)), (.own (0, 9)), (iC 1)]), (.one (.own (0, 10))), (.one (iC 0))]),
  [(.arr 68 2 1 [(iC 0), (iC 1)]), (.arr 71 2 3 [(iC 10), (iC 4), (iC 13), (iC 3), (iC 14), (iC 7)]), (.arr 3 1 1 [(iC 17)]), (.arr 3 1 1 [(iC 1)]), (.arr 24 1 3 [(.own (0, 5)), (.own (0, 6)), (.own (0, 7))]), (.arr 3 1 1 [(iC 4)]), (.arr 3 1 1 [(iC 2)]), (.arr 3 1 1 [(iC 6)]), (.arr 3 1 1 [(iC (-1))]), (.arr 71 2 0 []), (.arr 4 1 4 [(bC true), (bC true), (bC false), (bC false)])]⟩
theorem e25_run : runE t24 e25 = true := by decide +kernel
noncomputable def t25 : List Ent := e25 :: t24
theorem t25_ok (gw : World) : OkAll gw t25 := more (t24_ok gw) e25_run
noncomputable def e26 : Ent := ⟨52, [(.agg [(iC 1), (.sl false 0 []), (.sl false 0 []), (.sl false 1 [(iC 2)]), (.sl false 0 [])]), (.one (iC 2))],
  (.tup [(.agg [(iC 2), (.own (0, 0)), (.own (0, 1)), (.own (0, 2)), (.own (0, 3)), (iC 0), (iC 2), nC, (.own (0, 4)), nC, nC, (iC 1)]), (.one (iC 0))]),
  [(.arr 68 2 0 []), (.arr 71 2 1 [(iC 5), (iC 3)]), (.arr 3 1 1 [(iC 7)]), (.arr 3 1 1 [(iC 1)]), (.arr 24 1 2 [(.own (0, 5)), (.own (0, 6))]), (.arr 3 1 1 [(iC 2)]), (.arr 3 1 1 [(iC 4)])]⟩
theorem e26_run : runE t25 e26 = true := by decide +kernel
noncomputable def t26 : List Ent := e26 :: t25
theorem t26_ok (gw : World) : OkAll gw t26 := more (t25_ok gw) e26_run
noncomputable def e27 : Ent := ⟨20, [(.agg [(iC 1), (.sl false 0 []), (.sl false 0 []), (.sl false 1 [(iC 2)]), (.sl false 0 [])]), (.agg [(sC [112, 104, 97, 115, 101, 115]), (iC 2)]), (.one (iC 0))],
  (.tup [(.agg [(iC 2), (.own (0, 0)), (.own (0, 1)), (.own (0, 2)), (.own (0, 3)), (iC 0), (iC 2), nC, (.own (0, 4)), nC, nC, (iC 1)]), (.one (iC 0))]),
  [(.arr 68 2 0 []), (.arr 71 2 1 [(iC 5), (iC 3)]), (.arr 3 1 1 [(iC 7)]), (.arr 3 1 1 [(iC 1)]), (.arr 24 1 2 [(.own (0, 5)), (.own (0, 6))]), (.arr 3 1 1 [(iC 2)]), (.arr 3 1 1 [(iC 4)])]⟩
theorem e27_run : runE t26 e27 = true := by decide +kernel
noncomputable def t27 : List Ent := e27 :: t26
theorem t27_ok (gw : World) : OkAll gw t27 := more (t26_ok gw) e27_run
noncomputable def e28 : Ent := ⟨31, [(.agg [(iC 1), (.sl false 0 []), (.sl false 0 []), (.sl false 1 [(iC 2)]), (.sl false 0 [])]), (.agg [(iC 1), (.sl false 0 []), (.sl false 0 []), (.sl false 1 [(iC 2)]), (.sl false 0 [])]), (.agg [(iC 2), (.sl false 0 []), (.sl false 1 [(iC 5), (iC 3)]), (.sl false 1 [(iC 7)]), (.sl false 1 [(iC 1)])]), (.agg [(iC 0), (iC 1), (.sl false 0 []), (.sl false 1 [(.sl false 1 [(iC 2)])]), (.sl false 0 []), (.sl false 0 []), (iC 1)]), (.agg [(iC 0), (iC 2), (.sl false 0 []), (.sl false 2 [(.sl false 1 [(iC 2)]), (.sl false 1 [(iC 4)])]), (.sl false 0 []), (.sl false 0 []), (iC 1)])],
  (.tup [(.agg [(iC 0), (iC 2), nC, (.own (0, 0)), nC, (.own (0, 3)), (iC 1)]), (.one (iC 0))]),
  [(.arr 24 1 2 [(.own (0, 1)), (.own (0, 2))]), (.arr 3 1 1 [(iC 2)]), (.arr 3 1 1 [(iC 4)]), (.arr 71 2 0 [])]⟩
theorem e28_run : runE t27 e28 = true := by decide +kernel
noncomputable def t28 : List Ent := e28 :: t27
theorem t28_ok (gw : World) : OkAll gw t28 := more (t27_ok gw) e28_run
noncomputable def e29 : Ent := ⟨9, [(.agg [(iC 1), (.sl false 0 []), (.sl false 0 []), (.sl false 1 [(iC 2)]), (.sl false 0 [])]), (.one (.sl false 2 [(sC [112, 104, 97, 115, 101, 115]), (iC 2), (sC [112, 114, 101, 102, 105, 120]), (iC 1)])), (.one (iC 0))],
  (.tup [(.agg [(iC 2), (.own (0, 0)), (.own (0, 1)), (.own (0, 2)), (.own (0, 3)), (iC 0), (iC 2), nC, (.own (0, 4)), nC, (.own (0, 7)), (iC 1)]), (.one (.own (0, 8))), (.one (iC 0))]),
  [(.arr 68 2 0 []), (.arr 71 2 1 [(iC 5), (iC 3)]), (.arr 3 1 1 [(iC 7)]), (.arr 3 1 1 [(iC 1)]), (.arr 24 1 2 [(.own (0, 5)), (.own (0, 6))]), (.arr 3 1 1 [(iC 2)]), (.arr 3 1 1 [(iC 4)]), (.arr 71 2 0 []), (.arr 4 1 2 [(bC true), (bC false)])]⟩
theorem e29_run : runE t28 e29 = true := by decide +kernel
noncomputable def t29 : List Ent := e29 :: t28
theorem t29_ok (gw : World) : OkAll gw t29 := more (t28_ok gw) e29_run
noncomputable def e30 : Ent := ⟨9, [(.agg [(iC 1), (.sl false 0 []), (.sl false 0 []), (.sl false 1 [(iC 2)]), (.sl false 0 [])]), (.one (.sl false 0 [])), (.one (iC 0))],
  (.tup [(.agg [(iC 1), (.own (0, 0)), (.own (0, 1)), (.own (0, 2)), (.own (0, 3)), (iC 0), (iC 1), nC, (.own (0, 4)), (.own (0, 6)), nC, (iC 1)]), (.one (.own (0, 7))), (.one (iC 0))]),
  [(.arr 68 2 0 []), (.arr 71 2 0 []), (.arr 3 1 1 [(iC 2)]), (.arr 3 1 0 []), (.arr 24 1 1 [(.own (0, 5))]), (.arr 3 1 1 [(iC 2)]), (.arr 3 1 0 []), (.arr 4 1 0 [])]⟩
theorem e30_run : runE t29 e30 = true := by decide +kernel
noncomputable def t30 : List Ent := e30 :: t29
theorem t30_ok (gw : World) : OkAll gw t30 := more (t29_ok gw) e30_run
noncomputable def e31 : Ent := ⟨75, [(.agg [(iC 1), (.sl false 0 []), (.sl false 0 []), (.sl false 1 [(iC 2)]), (.sl false 0 [])]), (.one (.sl false 2 [(iC (-1)), (iC (-1))]))],
  (.tup [(.agg [(iC 1), (.own (0, 0)), (.own (0, 1)), (.own (0, 2)), (.own (0, 3))]), (.one (.own (0, 4))), (.one (iC 0))]),
  [(.arr 68 2 0 []), (.arr 71 2 0 []), (.arr 3 1 1 [(iC 2)]), (.arr 3 1 0 []), (.arr 3 1 2 [(iC 0), (iC 2)])]⟩
theorem e31_run : runE t30 e31 = true := by decide +kernel
noncomputable def t31 : List Ent := e31 :: t30
theorem t31_ok (gw : World) : OkAll gw t31 := more (t30_ok gw) e31_run
noncomputable def e32 : Ent := ⟨20, [(.agg [(iC 1), (.sl false 0 []), (.sl false 0 []), (.sl false 1 [(iC 2)]), (.sl false 0 [])]), (.agg [(sC [104, 97, 115, 104]), (iC 0)]), (.one (iC 0))],
  (.tup [(.agg [(iC 1), (.own (0, 0)), (.own (0, 1)), (.own (0, 2)), (.own (0, 3)), (iC 0), (iC 1), nC, (.own (0, 4)), (.own (0, 6)), nC, (iC 1)]), (.one (iC 0))]),
  [(.arr 68 2 0 []), (.arr 71 2 0 []), (.arr 3 1 1 [(iC 2)]), (.arr 3 1 0 []), (.arr 24 1 1 [(.own (0, 5))]), (.arr 3 1 1 [(iC 2)]), (.arr 3 1 0 [])]⟩
theorem e32_run : runE t31 e32 = true := by decide +kernel
noncomputable def t32 : List Ent := e32 :: t31
theorem t32_ok (gw : World) : OkAll gw t32 := more (t31_ok gw) e32_run
noncomputable def e33 : Ent := ⟨31, [(.agg [(iC 1), (.sl false 0 []), (.sl false 0 []), (.sl false 1 [(iC 2)]), (.sl false 0 [])]), (.agg [(iC 1), (.sl false 0 []), (.sl false 0 []), (.sl false 1 [(iC 2)]), (.sl false 0 [])]), (.agg [(iC 1), (.sl false 0 []), (.sl false 0 []), (.sl false 1 [(iC 2)]), (.sl false 0 [])]), (.agg [(iC 0), (iC 1), (.sl false 0 []), (.sl false 1 [(.sl false 1 [(iC 2)])]), (.sl false 0 []), (.sl false 0 []), (iC 1)]), (.agg [(iC 0), (iC 1), (.sl false 0 []), (.sl false 1 [(.sl false 1 [(iC 2)])]), (.sl false 0 []), (.sl false 0 []), (iC 1)])],
  (.tup [(.agg [(iC 0), (iC 1), nC, (.own (0, 0)), nC, (.own (0, 2)), (iC 1)]), (.one (iC 0))]),
  [(.arr 24 1 1 [(.own (0, 1))]), (.arr 3 1 1 [(iC 2)]), (.arr 71 2 0 [])]⟩
theorem e33_run : runE t32 e33 = true := by decide +kernel
noncomputable def t33 : List Ent := e33 :: t32
theorem t33_ok (gw : World) : OkAll gw t33 := more (t32_ok gw) e33_run
noncomputable def e34 : Ent := ⟨9, [(.agg [(iC 1), (.sl false 0 []), (.sl false 0 []), (.sl false 1 [(iC 2)]), (.sl false 0 [])]), (.one (.sl false 10 [(sC [104, 97, 115, 104]), (iC 0), (sC [104, 97, 115, 104]), (iC 0), (sC [104, 97, 115, 104]), (iC 0), (sC [104, 97, 115, 104]), (iC 0), (sC [104, 97, 115, 104]), (iC 0), (sC [104, 97, 115, 104]), (iC 0), (sC [104, 97, 115, 104]), (iC 0), (sC [104, 97, 115, 104]), (iC 0), (sC [104, 97, 115, 104]), (iC 0), (sC [104, 97, 115, 104]), (iC 0)])), (.one (iC 0))],
  (.tup [(.agg [(iC 1), (.own (0, 0)), (.own (0, 1)), (.own (0, 2)), (.own (0, 3)), (iC 0), (iC 1), nC, (.own (0, 4)), nC, (.own (0, 6)), (iC 1)]), (.one (.own (0, 7))), (.one (iC 0))]),
  [(.arr 68 2 0 []), (.arr 71 2 0 []), (.arr 3 1 1 [(iC 2)]), (.arr 3 1 0 []), (.arr 24 1 1 [(.own (0, 5))]), (.arr 3 1 1 [(iC 2)]), (.arr 71 2 0 []), (.arr 4 1 10 [(bC true), (bC true), (bC true), (bC true), (bC true), (bC true), (bC true), (bC true), (bC true), (bC true)])]⟩
theorem e34_run : runE t33 e34 = true := by decide +kernel
noncomputable def t34 : List Ent := e34 :: t33
theorem t34_ok (gw : World) : OkAll gw t34 := more (t33_ok gw) e34_run
noncomputable def e35 : Ent := ⟨21, [(.agg [(iC 1), (.sl false 0 []), (.sl false 0 []), (.sl false 1 [(iC 2)]), (.sl false 0 [])]), (.agg [(iC 1), (.sl false 0 []), (.sl false 0 []), (.sl false 1 [(iC 2)]), (.sl false 0 [])]), (.agg [(iC 0), (iC 1), (.sl false 0 []), (.sl false 1 [(.sl false 1 [(iC 2)])]), (.sl false 0 []), (.sl false 0 []), (iC 1)]), (.agg [(.sl false 0 []), (.sl false 0 [])])],
  (.tup [(.agg [nC, nC]), (.one (iC 8))]),
  []⟩
theorem e35_run : runE t34 e35 = true := by decide +kernel
noncomputable def t35 : List Ent := e35 :: t34
theorem t35_ok (gw : World) : OkAll gw t35 := more (t34_ok gw) e35_run
noncomputable def e36 : Ent := ⟨13, [(.agg [(iC 1), (.sl false 0 []), (.sl false 0 []), (.sl false 1 [(iC 2)]), (.sl false 0 [])]), (.one (.sl false 0 [])), (.one (iC 0)), (.agg [(.sl false 0 []), (.sl false 0 [])])],
  (.tup [(.agg [nC, nC]), (.one (iC 8))]),
  []⟩
theorem e36_run : runE t35 e36 = true := by decide +kernel
noncomputable def t36 : List Ent := e36 :: t35
theorem t36_ok (gw : World) : OkAll gw t36 := more (t35_ok gw) e36_run
noncomputable def e37 : Ent := ⟨9, [(.agg [(iC 1), (.sl false 0 []), (.sl false 0 []), (.sl false 1 [(iC 2)]), (.sl false 0 [])]), (.one (.sl false 1 [(sC [112, 104, 97, 115, 101, 115]), (iC 2)])), (.one (iC 0))],
  (.tup [(.agg [(iC 2), (.own (0, 0)), (.own (0, 1)), (.own (0, 2)), (.own (0, 3)), (iC 0), (iC 2), nC, (.own (0, 4)), nC, (.own (0, 7)), (iC 1)]), (.one (.own (0, 8))), (.one (iC 0))]),
  [(.arr 68 2 0 []), (.arr 71 2 1 [(iC 5), (iC 3)]), (.arr 3 1 1 [(iC 7)]), (.arr 3 1 1 [(iC 1)]), (.arr 24 1 2 [(.own (0, 5)), (.own (0, 6))]), (.arr 3 1 1 [(iC 2)]), (.arr 3 1 1 [(iC 4)]), (.arr 71 2 0 []), (.arr 4 1 1 [(bC true)])]⟩
theorem e37_run : runE t36 e37 = true := by decide +kernel
noncomputable def t37 : List Ent := e37 :: t36
theorem t37_ok (gw : World) : OkAll gw t37 := more (t36_ok gw) e37_run
noncomputable def e38 : Ent := ⟨21, [(.agg [(iC 1), (.sl false 0 []), (.sl false 0 []), (.sl false 1 [(iC 2)]), (.sl false 0 [])]), (.agg [(iC 2), (.sl false 0 []), (.sl false 1 [(iC 5), (iC 3)]), (.sl false 1 [(iC 7)]), (.sl false 1 [(iC 1)])]), (.agg [(iC 0), (iC 2), (.sl false 0 []), (.sl false 2 [(.sl false 1 [(iC 2)]), (.sl false 1 [(iC 4)])]), (.sl false 0 []), (.sl false 0 []), (iC 1)]), (.agg [(.sl false 0 []), (.sl false 2 [(.sl false 2 [(bC false), (bC true)]), (.sl false 2 [(bC true), (bC true)])])])],
  (.tup [(.agg [nC, (.cut (0, 0) 2)]), (.one (iC 0))]),
  [(.arr 40 1 4 [(.own (0, 1)), (.own (0, 2)), (.own (0, 3)), (.own (0, 4))]), (.arr 4 1 1 [(bC false)]), (.arr 4 1 1 [(bC true)]), (.arr 4 1 1 [(bC true)]), (.arr 4 1 1 [(bC true)])]⟩
theorem e38_run : runE t37 e38 = true := by decide +kernel
noncomputable def t38 : List Ent := e38 :: t37
theorem t38_ok (gw : World) : OkAll gw t38 := more (t37_ok gw) e38_run
noncomputable def e39 : Ent := ⟨13, [(.agg [(iC 1), (.sl false 0 []), (.sl false 0 []), (.sl false 1 [(iC 2)]), (.sl false 0 [])]), (.one (.sl false 1 [(sC [112, 104, 97, 115, 101, 115]), (iC 2)])), (.one (iC 0)), (.agg [(.sl false 0 []), (.sl false 2 [(.sl false 2 [(bC false), (bC true)]), (.sl false 2 [(bC true), (bC true)])])])],
  (.tup [(.agg [nC, (.cut (0, 0) 2)]), (.one (iC 0))]),
  [(.arr 40 1 4 [(.own (0, 1)), (.own (0, 2)), (.own (0, 3)), (.own (0, 4))]), (.arr 4 1 1 [(bC false)]), (.arr 4 1 1 [(bC true)]), (.arr 4 1 1 [(bC true)]), (.arr 4 1 1 [(bC true)])]⟩
theorem e39_run : runE t38 e39 = true := by decide +kernel
noncomputable def t39 : List Ent := e39 :: t38
theorem t39_ok (gw : World) : OkAll gw t39 := more (t38_ok gw) e39_run
noncomputable def e40 : Ent := ⟨42, [(.agg [(iC 1), (.sl false 0 []), (.sl false 0 []), (.sl false 1 [(iC 2)]), (.sl false 0 [])])],
  (.tup [(.agg [(iC 1), nC, nC, (.own (0, 0)), nC, (iC 0), (iC 1), nC, (.own (0, 1)), nC, nC, (iC 1)]), (.one (iC 0))]),
  [(.arr 3 1 1 [(iC 2)]), (.arr 24 1 1 [(.own (0, 2))]), (.arr 3 1 1 [(iC 2)])]⟩
theorem e40_run : runE t39 e40 = true := by decide +kernel
noncomputable def t40 : List Ent := e40 :: t39
theorem t40_ok (gw : World) : OkAll gw t40 := more (t39_ok gw) e40_run
noncomputable def e41 : Ent := ⟨20, [(.agg [(iC 1), (.sl false 0 []), (.sl false 0 []), (.sl false 1 [(iC 2)]), (.sl false 0 [])]), (.agg [(sC [99, 111, 110, 101]), (iC 0)]), (.one (iC 0))],
  (.tup [(.agg [(iC 1), nC, nC, (.own (0, 0)), nC, (iC 0), (iC 1), nC, (.own (0, 1)), nC, nC, (iC 1)]), (.one (iC 0))]),
  [(.arr 3 1 1 [(iC 2)]), (.arr 24 1 1 [(.own (0, 2))]), (.arr 3 1 1 [(iC 2)])]⟩
theorem e41_run : runE t40 e41 = true := by decide +kernel
noncomputable def t41 : List Ent := e41 :: t40
theorem t41_ok (gw : World) : OkAll gw t41 := more (t40_ok gw) e41_run
noncomputable def e42 : Ent := ⟨9, [(.agg [(iC 1), (.sl false 0 []), (.sl false 0 []), (.sl false 1 [(iC 2)]), (.sl false 0 [])]), (.one (.sl false 2 [(sC [104, 97, 115, 104]), (iC 0), (sC [99, 111, 110, 101]), (iC 0)])), (.one (iC 0))],
  (.tup [(.agg [(iC 1), nC, nC, (.own (0, 0)), nC, (iC 0), (iC 1), nC, (.own (0, 1)), nC, (.own (0, 3)), (iC 1)]), (.one (.own (0, 4))), (.one (iC 0))]),
  [(.arr 3 1 1 [(iC 2)]), (.arr 24 1 1 [(.own (0, 2))]), (.arr 3 1 1 [(iC 2)]), (.arr 71 2 0 []), (.arr 4 1 2 [(bC true), (bC true)])]⟩
theorem e42_run : runE t41 e42 = true := by decide +kernel
noncomputable def t42 : List Ent := e42 :: t41
theorem t42_ok (gw : World) : OkAll gw t42 := more (t41_ok gw) e42_run
noncomputable def e43 : Ent := ⟨9, [(.agg [(iC 1), (.sl false 0 []), (.sl false 0 []), (.sl false 1 [(iC 2)]), (.sl false 0 [])]), (.one (.sl false 2 [(sC [112, 104, 97, 115, 101, 115]), (iC 2), (sC [112, 104, 97, 115, 101, 115]), (iC 2)])), (.one (iC 0))],
  (.tup [(.agg [(iC 2), (.own (0, 0)), (.own (0, 1)), (.own (0, 2)), (.own (0, 3)), (iC 0), (iC 2), nC, (.own (0, 4)), nC, (.own (0, 7)), (iC 1)]), (.one (.own (0, 8))), (.one (iC 0))]),
  [(.arr 68 2 0 []), (.arr 71 2 1 [(iC 5), (iC 3)]), (.arr 3 1 1 [(iC 7)]), (.arr 3 1 1 [(iC 1)]), (.arr 24 1 2 [(.own (0, 5)), (.own (0, 6))]), (.arr 3 1 1 [(iC 2)]), (.arr 3 1 1 [(iC 4)]), (.arr 71 2 0 []), (.arr 4 1 2 [(bC true), (bC false)])]⟩
theorem e43_run : runE t42 e43 = true := by decide +kernel
noncomputable def t43 : List Ent := e43 :: t42
theorem t43_ok (gw : World) : OkAll gw t43 := more (t42_ok gw) e43_run
noncomputable def e44 : Ent := ⟨6, [],
  (.one (bC true)),
  []⟩
theorem e44_run : runE t43 e44 = true := by decide +kernel
noncomputable def t44 : List Ent := e44 :: t43
theorem t44_ok (gw : World) : OkAll gw t44 := more (t43_ok gw) e44_run
end Go.Vm
