/-
  Contracts of the library, and a run that is computed (PtAK). Conditions: each theorem's own premises. By an AI agent.
-/
import Derived.Test.YtahbpfahgggjhaaGreatPtAJ
namespace Go.Vm
open Go Go.RowKit Go.Proofs
set_option linter.unusedSimpArgs false
set_option maxRecDepth 1000000
noncomputable def iC (n : Int) : PC := .c (.int .i64 n)
noncomputable def bC (b : Bool) : PC := .c (.bool b)
noncomputable def nC : PC := .c (.slice none 0 0)
noncomputable def sC (l : List Nat) : PC := .c (.string ⟨(l.map UInt8.ofNat).toArray⟩)
noncomputable def zIo : Io := seatIo [136, 129, 150, 186, 76] [109, 79, 151, 126, 113, 158, 159, 161, 162]
def OkAll (gw : World) (l : List Ent) : Prop := ∀ e ∈ l, EntOk Tryz.prog gw gw.heap.size e
theorem OkAll.nil (gw : World) : OkAll gw [] := fun _ h => by cases h
theorem OkAll.cons {gw : World} {e : Ent} {l : List Ent} (h : EntOk Tryz.prog gw gw.heap.size e) (hl : OkAll gw l) : OkAll gw (e :: l) := fun x hx => by
  rcases List.mem_cons.1 hx with rfl | hx
  · exact h
  · exact hl x hx
noncomputable def tabOf (l : List Ent) : Cx := orTab (lookE l) seatTab
theorem tab_knows {gw : World} {l : List Ent} (h : OkAll gw l) : Knows Tryz.prog gw gw.heap.size (tabOf l) zIo := ⟨orTab_ok (lookE_ok h) (seatTab_ok gw), fun f args Hin r B h => by cases h⟩
noncomputable def runE (l : List Ent) (e : Ent) : Bool := isRes e.r e.B (evFun Tryz.prog (evAll Tryz.prog (tabOf l) zIo 1000000 60).1 (evAll Tryz.prog (tabOf l) zIo 1000000 60).2 1000000 e.f e.args)
theorem run_ok {gw : World} {l : List Ent} (hl : OkAll gw l) {e : Ent} (h : runE l e = true) : EntOk Tryz.prog gw gw.heap.size e := ent_ok (tab_knows hl) mixed 1000000 60 e h
theorem more {gw : World} {l : List Ent} (hl : OkAll gw l) {e : Ent} (h : runE l e = true) : OkAll gw (e :: l) := .cons (run_ok hl h) hl
noncomputable def t0 : List Ent := []
theorem t0_ok (gw : World) : OkAll gw t0 := .nil gw
noncomputable def e1 : Ent := ⟨9, [(.agg [(iC 1), (.sl false 0 []), (.sl false 0 []), (.sl false 1 [(iC 2)]), (.sl false 0 [])]), (.one (.sl false 11 [(sC [104, 97, 115, 104]), (iC 0), (sC [104, 97, 115, 104]), (iC 0), (sC [104, 97, 115, 104]), (iC 0), (sC [104, 97, 115, 104]), (iC 0), (sC [104, 97, 115, 104]), (iC 0), (sC [104, 97, 115, 104]), (iC 0), (sC [104, 97, 115, 104]), (iC 0), (sC [104, 97, 115, 104]), (iC 0), (sC [104, 97, 115, 104]), (iC 0), (sC [104, 97, 115, 104]), (iC 0), (sC [104, 97, 115, 104]), (iC 0)])), (.one (iC 0))],
  (.tup [(.agg [(iC 0), nC, nC, nC, nC, (iC 0), (iC 0), nC, nC, nC, nC, (iC 0)]), (.one nC), (.one (iC 4))]),
  []⟩
theorem e1_run : runE t0 e1 = true := by decide +kernel
noncomputable def t1 : List Ent := e1 :: t0
theorem t1_ok (gw : World) : OkAll gw t1 := more (t0_ok gw) e1_run
noncomputable def e2 : Ent := ⟨13, [(.agg [(iC 1), (.sl false 0 []), (.sl false 0 []), (.sl false 1 [(iC 2)]), (.sl false 0 [])]), (.one (.sl false 11 [(sC [104, 97, 115, 104]), (iC 0), (sC [104, 97, 115, 104]), (iC 0), (sC [104, 97, 115, 104]), (iC 0), (sC [104, 97, 115, 104]), (iC 0), (sC [104, 97, 115, 104]), (iC 0), (sC [104, 97, 115, 104]), (iC 0), (sC [104, 97, 115, 104]), (iC 0), (sC [104, 97, 115, 104]), (iC 0), (sC [104, 97, 115, 104]), (iC 0), (sC [104, 97, 115, 104]), (iC 0), (sC [104, 97, 115, 104]), (iC 0)])), (.one (iC 0)), (.agg [(.sl false 0 []), (.sl false 0 [])])],
  (.tup [(.agg [nC, nC]), (.one (iC 4))]),
  []⟩
theorem e2_run : runE t1 e2 = true := by decide +kernel
noncomputable def t2 : List Ent := e2 :: t1
theorem t2_ok (gw : World) : OkAll gw t2 := more (t1_ok gw) e2_run
noncomputable def e3 : Ent := ⟨11, [(.agg [(iC 1), (.sl false 0 []), (.sl false 0 []), (.sl false 1 [(iC 2)]), (.sl false 0 [])]), (.one (.sl false 11 [(sC [104, 97, 115, 104]), (iC 0), (sC [104, 97, 115, 104]), (iC 0), (sC [104, 97, 115, 104]), (iC 0), (sC [104, 97, 115, 104]), (iC 0), (sC [104, 97, 115, 104]), (iC 0), (sC [104, 97, 115, 104]), (iC 0), (sC [104, 97, 115, 104]), (iC 0), (sC [104, 97, 115, 104]), (iC 0), (sC [104, 97, 115, 104]), (iC 0), (sC [104, 97, 115, 104]), (iC 0), (sC [104, 97, 115, 104]), (iC 0)])), (.one (iC 0)), (.one (iC 4))],
  (.one (bC true)),
  []⟩
theorem e3_run : runE t2 e3 = true := by decide +kernel
noncomputable def t3 : List Ent := e3 :: t2
theorem t3_ok (gw : World) : OkAll gw t3 := more (t2_ok gw) e3_run
noncomputable def e4 : Ent := ⟨9, [(.agg [(iC 1), (.sl false 0 []), (.sl false 0 []), (.sl false 1 [(iC 2)]), (.sl false 0 [])]), (.one (.sl false 2 [(sC [104, 97, 115, 104]), (iC 0), (sC []), (iC 0)])), (.one (iC (-1)))],
  (.tup [(.agg [(iC 0), nC, nC, nC, nC, (iC 0), (iC 0), nC, nC, nC, nC, (iC 0)]), (.one nC), (.one (iC 12))]),
  []⟩
theorem e4_run : runE t3 e4 = true := by decide +kernel
noncomputable def t4 : List Ent := e4 :: t3
theorem t4_ok (gw : World) : OkAll gw t4 := more (t3_ok gw) e4_run
noncomputable def e5 : Ent := ⟨13, [(.agg [(iC 1), (.sl false 0 []), (.sl false 0 []), (.sl false 1 [(iC 2)]), (.sl false 0 [])]), (.one (.sl false 2 [(sC [104, 97, 115, 104]), (iC 0), (sC []), (iC 0)])), (.one (iC (-1))), (.agg [(.sl false 0 []), (.sl false 0 [])])],
  (.tup [(.agg [nC, nC]), (.one (iC 12))]),
  []⟩
theorem e5_run : runE t4 e5 = true := by decide +kernel
noncomputable def t5 : List Ent := e5 :: t4
theorem t5_ok (gw : World) : OkAll gw t5 := more (t4_ok gw) e5_run
noncomputable def e6 : Ent := ⟨11, [(.agg [(iC 1), (.sl false 0 []), (.sl false 0 []), (.sl false 1 [(iC 2)]), (.sl false 0 [])]), (.one (.sl false 2 [(sC [104, 97, 115, 104]), (iC 0), (sC []), (iC 0)])), (.one (iC (-1))), (.one (iC 12))],
  (.one (bC true)),
  []⟩
theorem e6_run : runE t5 e6 = true := by decide +kernel
noncomputable def t6 : List Ent := e6 :: t5
theorem t6_ok (gw : World) : OkAll gw t6 := more (t5_ok gw) e6_run
noncomputable def e7 : Ent := ⟨9, [(.agg [(iC 1), (.sl false 0 []), (.sl false 0 []), (.sl false 1 [(iC 2)]), (.sl false 0 [])]), (.one (.sl false 2 [(sC [104, 97, 115, 104]), (iC 0), (sC [112, 114, 101, 102, 105, 120]), (iC 0)])), (.one (iC 0))],
  (.tup [(.agg [(iC 0), nC, nC, nC, nC, (iC 0), (iC 0), nC, nC, nC, nC, (iC 0)]), (.one nC), (.one (iC 2))]),
  []⟩
theorem e7_run : runE t6 e7 = true := by decide +kernel
noncomputable def t7 : List Ent := e7 :: t6
theorem t7_ok (gw : World) : OkAll gw t7 := more (t6_ok gw) e7_run
noncomputable def e8 : Ent := ⟨13, [(.agg [(iC 1), (.sl false 0 []), (.sl false 0 []), (.sl false 1 [(iC 2)]), (.sl false 0 [])]), (.one (.sl false 2 [(sC [104, 97, 115, 104]), (iC 0), (sC [112, 114, 101, 102, 105, 120]), (iC 0)])), (.one (iC 0)), (.agg [(.sl false 0 []), (.sl false 0 [])])],
  (.tup [(.agg [nC, nC]), (.one (iC 2))]),
  []⟩
theorem e8_run : runE t7 e8 = true := by decide +kernel
noncomputable def t8 : List Ent := e8 :: t7
theorem t8_ok (gw : World) : OkAll gw t8 := more (t7_ok gw) e8_run
noncomputable def e9 : Ent := ⟨11, [(.agg [(iC 1), (.sl false 0 []), (.sl false 0 []), (.sl false 1 [(iC 2)]), (.sl false 0 [])]), (.one (.sl false 2 [(sC [104, 97, 115, 104]), (iC 0), (sC [112, 114, 101, 102, 105, 120]), (iC 0)])), (.one (iC 0)), (.one (iC 2))],
  (.one (bC true)),
  []⟩
theorem e9_run : runE t8 e9 = true := by decide +kernel
noncomputable def t9 : List Ent := e9 :: t8
theorem t9_ok (gw : World) : OkAll gw t9 := more (t8_ok gw) e9_run
noncomputable def e10 : Ent := ⟨9, [(.agg [(iC 1), (.sl false 0 []), (.sl false 0 []), (.sl false 1 [(iC 2)]), (.sl false 0 [])]), (.one (.sl false 0 [])), (.one (iC (-1)))],
  (.tup [(.agg [(iC 0), nC, nC, nC, nC, (iC 0), (iC 0), nC, nC, nC, nC, (iC 0)]), (.one nC), (.one (iC 2))]),
  []⟩
theorem e10_run : runE t9 e10 = true := by decide +kernel
noncomputable def t10 : List Ent := e10 :: t9
theorem t10_ok (gw : World) : OkAll gw t10 := more (t9_ok gw) e10_run
noncomputable def e11 : Ent := ⟨13, [(.agg [(iC 1), (.sl false 0 []), (.sl false 0 []), (.sl false 1 [(iC 2)]), (.sl false 0 [])]), (.one (.sl false 0 [])), (.one (iC (-1))), (.agg [(.sl false 0 []), (.sl false 0 [])])],
  (.tup [(.agg [nC, nC]), (.one (iC 2))]),
  []⟩
theorem e11_run : runE t10 e11 = true := by decide +kernel
noncomputable def t11 : List Ent := e11 :: t10
theorem t11_ok (gw : World) : OkAll gw t11 := more (t10_ok gw) e11_run
noncomputable def e12 : Ent := ⟨11, [(.agg [(iC 1), (.sl false 0 []), (.sl false 0 []), (.sl false 1 [(iC 2)]), (.sl false 0 [])]), (.one (.sl false 0 [])), (.one (iC (-1))), (.one (iC 2))],
  (.one (bC true)),
  []⟩
theorem e12_run : runE t11 e12 = true := by decide +kernel
noncomputable def t12 : List Ent := e12 :: t11
theorem t12_ok (gw : World) : OkAll gw t12 := more (t11_ok gw) e12_run
noncomputable def e13 : Ent := ⟨9, [(.agg [(iC 1), (.sl false 0 []), (.sl false 0 []), (.sl false 1 [(iC 2)]), (.sl false 0 [])]), (.one (.sl false 0 [])), (.one (iC 100001))],
  (.tup [(.agg [(iC 0), nC, nC, nC, nC, (iC 0), (iC 0), nC, nC, nC, nC, (iC 0)]), (.one nC), (.one (iC 2))]),
  []⟩
theorem e13_run : runE t12 e13 = true := by decide +kernel
noncomputable def t13 : List Ent := e13 :: t12
theorem t13_ok (gw : World) : OkAll gw t13 := more (t12_ok gw) e13_run
noncomputable def e14 : Ent := ⟨13, [(.agg [(iC 1), (.sl false 0 []), (.sl false 0 []), (.sl false 1 [(iC 2)]), (.sl false 0 [])]), (.one (.sl false 0 [])), (.one (iC 100001)), (.agg [(.sl false 0 []), (.sl false 0 [])])],
  (.tup [(.agg [nC, nC]), (.one (iC 2))]),
  []⟩
theorem e14_run : runE t13 e14 = true := by decide +kernel
noncomputable def t14 : List Ent := e14 :: t13
theorem t14_ok (gw : World) : OkAll gw t14 := more (t13_ok gw) e14_run
noncomputable def e15 : Ent := ⟨11, [(.agg [(iC 1), (.sl false 0 []), (.sl false 0 []), (.sl false 1 [(iC 2)]), (.sl false 0 [])]), (.one (.sl false 0 [])), (.one (iC 100001)), (.one (iC 2))],
  (.one (bC true)),
  []⟩
theorem e15_run : runE t14 e15 = true := by decide +kernel
noncomputable def t15 : List Ent := e15 :: t14
theorem t15_ok (gw : World) : OkAll gw t15 := more (t14_ok gw) e15_run
noncomputable def e16 : Ent := ⟨9, [(.agg [(iC (-1)), (.sl false 0 []), (.sl false 0 []), (.sl false 0 []), (.sl false 0 [])]), (.one (.sl false 0 [])), (.one (iC 0))],
  (.tup [(.agg [(iC 0), nC, nC, nC, nC, (iC 0), (iC 0), nC, nC, nC, nC, (iC 0)]), (.one nC), (.one (iC 8))]),
  []⟩
theorem e16_run : runE t15 e16 = true := by decide +kernel
noncomputable def t16 : List Ent := e16 :: t15
theorem t16_ok (gw : World) : OkAll gw t16 := more (t15_ok gw) e16_run
noncomputable def e17 : Ent := ⟨13, [(.agg [(iC (-1)), (.sl false 0 []), (.sl false 0 []), (.sl false 0 []), (.sl false 0 [])]), (.one (.sl false 0 [])), (.one (iC 0)), (.agg [(.sl false 0 []), (.sl false 0 [])])],
  (.tup [(.agg [nC, nC]), (.one (iC 8))]),
  []⟩
theorem e17_run : runE t16 e17 = true := by decide +kernel
noncomputable def t17 : List Ent := e17 :: t16
theorem t17_ok (gw : World) : OkAll gw t17 := more (t16_ok gw) e17_run
noncomputable def e18 : Ent := ⟨11, [(.agg [(iC (-1)), (.sl false 0 []), (.sl false 0 []), (.sl false 0 []), (.sl false 0 [])]), (.one (.sl false 0 [])), (.one (iC 0)), (.one (iC 8))],
  (.one (bC true)),
  []⟩
theorem e18_run : runE t17 e18 = true := by decide +kernel
noncomputable def t18 : List Ent := e18 :: t17
theorem t18_ok (gw : World) : OkAll gw t18 := more (t17_ok gw) e18_run
noncomputable def e19 : Ent := ⟨50, [(.agg [(iC 1), (.sl false 0 []), (.sl false 0 []), (.sl false 1 [(iC 2)]), (.sl false 0 [])]), (.one (iC 1))],
  (.tup [(.agg [(iC 2), (.own (0, 0)), (.own (0, 1)), (.own (0, 2)), (.own (0, 3)), (iC 1), (iC 1), nC, (.own (0, 4)), (.own (0, 7)), nC, (iC 1)]), (.one (iC 0))]),
  [(.arr 68 2 1 [(iC 0), (iC 1)]), (.arr 71 2 2 [(iC 6), (iC 4), (iC 9), (iC 3)]), (.arr 3 1 1 [(iC 11)]), (.arr 3 1 1 [(iC 1)]), (.arr 24 1 2 [(.own (0, 5)), (.own (0, 6))]), (.arr 3 1 1 [(iC 4)]), (.arr 3 1 1 [(iC 2)]), (.arr 3 1 1 [(iC (-1))])]⟩
theorem e19_run : runE t18 e19 = true := by decide +kernel
noncomputable def t19 : List Ent := e19 :: t18
theorem t19_ok (gw : World) : OkAll gw t19 := more (t18_ok gw) e19_run
noncomputable def e20 : Ent := ⟨20, [(.agg [(iC 1), (.sl false 0 []), (.sl false 0 []), (.sl false 1 [(iC 2)]), (.sl false 0 [])]), (.agg [(sC [112, 114, 101, 102, 105, 120]), (iC 1)]), (.one (iC 0))],
  (.tup [(.agg [(iC 2), (.own (0, 0)), (.own (0, 1)), (.own (0, 2)), (.own (0, 3)), (iC 1), (iC 1), nC, (.own (0, 4)), (.own (0, 7)), nC, (iC 1)]), (.one (iC 0))]),
  [(.arr 68 2 1 [(iC 0), (iC 1)]), (.arr 71 2 2 [(iC 6), (iC 4), (iC 9), (iC 3)]), (.arr 3 1 1 [(iC 11)]), (.arr 3 1 1 [(iC 1)]), (.arr 24 1 2 [(.own (0, 5)), (.own (0, 6))]), (.arr 3 1 1 [(iC 4)]), (.arr 3 1 1 [(iC 2)]), (.arr 3 1 1 [(iC (-1))])]⟩
theorem e20_run : runE t19 e20 = true := by decide +kernel
noncomputable def t20 : List Ent := e20 :: t19
theorem t20_ok (gw : World) : OkAll gw t20 := more (t19_ok gw) e20_run
noncomputable def e21 : Ent := ⟨31, [(.agg [(iC 1), (.sl false 0 []), (.sl false 0 []), (.sl false 1 [(iC 2)]), (.sl false 0 [])]), (.agg [(iC 1), (.sl false 0 []), (.sl false 0 []), (.sl false 1 [(iC 2)]), (.sl false 0 [])]), (.agg [(iC 2), (.sl false 1 [(iC 0), (iC 1)]), (.sl false 2 [(iC 6), (iC 4), (iC 9), (iC 3)]), (.sl false 1 [(iC 11)]), (.sl false 1 [(iC 1)])]), (.agg [(iC 0), (iC 1), (.sl false 0 []), (.sl false 1 [(.sl false 1 [(iC 2)])]), (.sl false 0 []), (.sl false 0 []), (iC 1)]), (.agg [(iC 1), (iC 1), (.sl false 0 []), (.sl false 2 [(.sl false 1 [(iC 4)]), (.sl false 1 [(iC 2)])]), (.sl false 1 [(iC (-1))]), (.sl false 0 []), (iC 1)])],
  (.tup [(.agg [(iC 1), (iC 1), nC, (.own (0, 0)), (.own (0, 3)), (.own (0, 4)), (iC 1)]), (.one (iC 0))]),
  [(.arr 24 1 2 [(.own (0, 1)), (.own (0, 2))]), (.arr 3 1 1 [(iC 4)]), (.arr 3 1 1 [(iC 2)]), (.arr 3 1 1 [(iC (-1))]), (.arr 71 2 0 [])]⟩
theorem e21_run : runE t20 e21 = true := by decide +kernel
noncomputable def t21 : List Ent := e21 :: t20
theorem t21_ok (gw : World) : OkAll gw t21 := more (t20_ok gw) e21_run
noncomputable def e22 : Ent := ⟨52, [(.agg [(iC 2), (.sl false 1 [(iC 0), (iC 1)]), (.sl false 2 [(iC 6), (iC 4), (iC 9), (iC 3)]), (.sl false 1 [(iC 11)]), (.sl false 1 [(iC 1)])]), (.one (iC 2))],
  (.tup [(.agg [(iC 4), (.own (0, 0)), (.own (0, 1)), (.own (0, 2)), (.own (0, 3)), (iC 0), (iC 2), (.own (0, 4)), (.own (0, 5)), (.own (0, 8)), nC, (iC 1)]), (.one (iC 0))]),
  [(.arr 68 2 1 [(iC 0), (iC 1)]), (.arr 71 2 3 [(iC 10), (iC 4), (iC 13), (iC 3), (iC 14), (iC 7)]), (.arr 3 1 1 [(iC 17)]), (.arr 3 1 1 [(iC 1)]), (.arr 3 1 1 [(iC 10)]), (.arr 24 1 2 [(.own (0, 6)), (.own (0, 7))]), (.arr 3 1 2 [(iC 2), (iC 4)]), (.arr 3 1 2 [(iC 6), (iC 8)]), (.arr 3 1 1 [(iC 6)])]⟩
theorem e22_run : runE t21 e22 = true := by decide +kernel
noncomputable def t22 : List Ent := e22 :: t21
theorem t22_ok (gw : World) : OkAll gw t22 := more (t21_ok gw) e22_run
noncomputable def e23 : Ent := ⟨20, [(.agg [(iC 2), (.sl false 1 [(iC 0), (iC 1)]), (.sl false 2 [(iC 6), (iC 4), (iC 9), (iC 3)]), (.sl false 1 [(iC 11)]), (.sl false 1 [(iC 1)])]), (.agg [(sC [112, 104, 97, 115, 101, 115]), (iC 2)]), (.one (iC 0))],
  (.tup [(.agg [(iC 4), (.own (0, 0)), (.own (0, 1)), (.own (0, 2)), (.own (0, 3)), (iC 0), (iC 2), (.own (0, 4)), (.own (0, 5)), (.own (0, 8)), nC, (iC 1)]), (.one (iC 0))]),
  [(.arr 68 2 1 [(iC 0), (iC 1)]), (.arr 71 2 3 [(iC 10), (iC 4), (iC 13), (iC 3), (iC 14), (iC 7)]), (.arr 3 1 1 [(iC 17)]), (.arr 3 1 1 [(iC 1)]), (.arr 3 1 1 [(iC 10)]), (.arr 24 1 2 [(.own (0, 6)), (.own (0, 7))]), (.arr 3 1 2 [(iC 2), (iC 4)]), (.arr 3 1 2 [(iC 6), (iC 8)]), (.arr 3 1 1 [(iC 6)])]⟩
theorem e23_run : runE t22 e23 = true := by decide +kernel
noncomputable def t23 : List Ent := e23 :: t22
theorem t23_ok (gw : World) : OkAll gw t23 := more (t22_ok gw) e23_run
end Go.Vm
