/-
  Contracts of the library, and a run that is computed (PtAU). Conditions: each theorem's own premises. By an AI agent.
-/
import Derived.Test.YtcdbbiognijleaaGreatPtAP
import Derived.Test.YtcdbbiognijleaaGreatPtAT
namespace Go.Vm
open Go Go.RowKit Go.Proofs
set_option linter.unusedSimpArgs false
set_option maxRecDepth 1000000
noncomputable def iC (n : Int) : PC := .c (.int .i64 n)
noncomputable def bC (b : Bool) : PC := .c (.bool b)
noncomputable def nC : PC := .c (.slice none 0 0)
noncomputable def sC (l : List Nat) : PC := .c (.string ⟨(l.map UInt8.ofNat).toArray⟩)
noncomputable def zIo : Io := seatIo4 [301,243,194,289,85,139,127,148,155,209,189,245,241,242,268,287,131,335,351,280,309,319,320,321,323,324,325,326,338,342,350,354,355,356,358,359,360,361,362] [81,82,114,179,231,331,40,41,69,172,290,305,121,113,38,39,68,88,116,117,118,120,128,132,145,164,173,185,195,202,205,236,262,263,273,274,304,314,349,115,219] [171]
def OkAll (gw : World) (l : List Ent) : Prop := ∀ e ∈ l, EntOk Tryz.prog gw gw.heap.size e
theorem OkAll.nil (gw : World) : OkAll gw [] := fun _ h => by cases h
theorem OkAll.cons {gw : World} {e : Ent} {l : List Ent} (h : EntOk Tryz.prog gw gw.heap.size e) (hl : OkAll gw l) : OkAll gw (e :: l) := fun x hx => by
  rcases List.mem_cons.1 hx with rfl | hx
  · exact h
  · exact hl x hx
noncomputable def tabOf (l : List Ent) : Cx := orTab (lookE l) (orTab solveTab2 seatTab)
theorem tab_knows {gw : World} {l : List Ent} (h : OkAll gw l) : Knows Tryz.prog gw gw.heap.size (tabOf l) zIo := ⟨orTab_ok (lookE_ok h) (orTab_ok (solveTab2_ok gw gw.heap.size) (seatTab_ok gw)), fun f args Hin xs h => (by cases h), fun f args Hin r B h => (by cases h)⟩
noncomputable def runE (l : List Ent) (e : Ent) : Bool := isRes e.r e.B (evFun Tryz.prog (evAll Tryz.prog (tabOf l) zIo 1000000 60).1 (evAll Tryz.prog (tabOf l) zIo 1000000 60).2 1000000 e.f e.args)
theorem run_ok {gw : World} {l : List Ent} (hl : OkAll gw l) {e : Ent} (h : runE l e = true) : EntOk Tryz.prog gw gw.heap.size e := ent_ok (tab_knows hl) mixed 1000000 60 e h
theorem more {gw : World} {l : List Ent} (hl : OkAll gw l) {e : Ent} (h : runE l e = true) : OkAll gw (e :: l) := .cons (run_ok hl h) hl
noncomputable def t0 : List Ent := []
theorem t0_ok (gw : World) : OkAll gw t0 := .nil gw
noncomputable def e1 : Ent := ⟨18, [(.agg [(iC 0), (.sl false 2 [(iC 2), (iC 0), (iC 2), (iC 0)]), (.sl false 0 []), (.sl false 1 [(iC 4)]), (.sl false 0 [])])],
  (.one (iC 0)),
  []⟩
noncomputable def t1 : List Ent := e1 :: t0
noncomputable def e2 : Ent := ⟨22, [(.agg [(iC 0), (.sl false 2 [(iC 2), (iC 0), (iC 2), (iC 0)]), (.sl false 0 []), (.sl false 1 [(iC 4)]), (.sl false 0 [])])],
  (.tup [(.agg [(iC 0), (iC 1), (.own (0, 0)), (.own (0, 1)), (.own (0, 2)), nC, (iC 1)]), (.one (iC 0))]),
  [(.arr 3 1 2 [(iC 2), (iC 4)]), (.arr 25 1 1 [nC]), (.arr 3 1 2 [(iC 2), (iC 4)])]⟩
noncomputable def t2 : List Ent := e2 :: t1
noncomputable def e3 : Ent := ⟨84, [(.agg [(iC 0), (.sl false 2 [(iC 2), (iC 0), (iC 2), (iC 0)]), (.sl false 0 []), (.sl false 1 [(iC 4)]), (.sl false 0 [])]), (.one (.sl false 3 [(iC (-1)), (iC 0), (iC 0)]))],
  (.tup [(.agg [(iC 0), (.own (0, 0)), (.own (0, 1)), (.own (0, 2)), (.own (0, 3))]), (.one (.own (0, 4))), (.one (iC 0))]),
  [(.arr 23 2 2 [(iC 0), (iC 0), (iC 0), (iC 0)]), (.arr 72 2 0 []), (.arr 3 1 1 [(iC 0)]), (.arr 3 1 0 []), (.arr 3 1 3 [(iC 0), (iC 0), (iC 0)])]⟩
noncomputable def t3 : List Ent := e3 :: t2
noncomputable def e4 : Ent := ⟨67, [(.one (iC 2)), (.agg [(.sl false 1 [(iC 5), (iC 3)]), (iC 6)])],
  (.one (iC 0)),
  []⟩
noncomputable def t4 : List Ent := e4 :: t3
noncomputable def e5 : Ent := ⟨53, [(.agg [(iC 0), (.sl false 2 [(iC 2), (iC 0), (iC 2), (iC 0)]), (.sl false 0 []), (.sl false 1 [(iC 4)]), (.sl false 0 [])]), (.one (iC 99))],
  (.tup [(.agg [(iC 0), (.own (0, 0)), (.own (0, 1)), (.own (0, 2)), (.own (0, 3)), (iC 0), (iC 1), (.own (0, 4)), (.own (0, 5)), (.own (0, 6)), (.own (0, 7)), (iC 6)]), (.one (iC 0))]),
  [(.arr 23 2 2 [(iC 0), (iC 0), (iC 0), (iC 0)]), (.arr 72 2 0 []), (.arr 3 1 1 [(iC 0)]), (.arr 3 1 0 []), (.arr 3 1 2 [(iC 2), (iC 4)]), (.arr 25 1 1 [nC]), (.arr 3 1 2 [(iC 2), (iC 4)]), (.arr 72 2 1 [(iC 5), (iC 3)])]⟩
noncomputable def t5 : List Ent := e5 :: t4
noncomputable def e6 : Ent := ⟨24, [(.agg [(iC 0), (.sl false 2 [(iC 2), (iC 0), (iC 2), (iC 0)]), (.sl false 0 []), (.sl false 1 [(iC 4)]), (.sl false 0 [])]), (.agg [(sC [108, 97, 116, 99, 104, 101, 115]), (iC 0)]), (.one (iC 99))],
  (.tup [(.agg [(iC 0), (.own (0, 0)), (.own (0, 1)), (.own (0, 2)), (.own (0, 3)), (iC 0), (iC 1), (.own (0, 4)), (.own (0, 5)), (.own (0, 6)), (.own (0, 7)), (iC 6)]), (.one (iC 0))]),
  [(.arr 23 2 2 [(iC 0), (iC 0), (iC 0), (iC 0)]), (.arr 72 2 0 []), (.arr 3 1 1 [(iC 0)]), (.arr 3 1 0 []), (.arr 3 1 2 [(iC 2), (iC 4)]), (.arr 25 1 1 [nC]), (.arr 3 1 2 [(iC 2), (iC 4)]), (.arr 72 2 1 [(iC 5), (iC 3)])]⟩
noncomputable def t6 : List Ent := e6 :: t5
noncomputable def e7 : Ent := ⟨18, [(.agg [(iC 0), (.sl false 2 [(iC 0), (iC 0), (iC 0), (iC 0)]), (.sl false 0 []), (.sl false 1 [(iC 0)]), (.sl false 0 [])])],
  (.one (iC 0)),
  []⟩
noncomputable def t7 : List Ent := e7 :: t6
noncomputable def e8 : Ent := ⟨67, [(.one (iC 2)), (.agg [(.sl false 0 []), (iC 1)])],
  (.one (iC 0)),
  []⟩
noncomputable def t8 : List Ent := e8 :: t7
noncomputable def e9 : Ent := ⟨60, [(.one (iC 2)), (.agg [(.sl false 0 []), (iC 1)]), (.agg [(.sl false 1 [(iC 5), (iC 3)]), (iC 6)])],
  (.tup [(.agg [(.own (0, 0)), (iC 6)]), (.one (iC 0))]),
  [(.arr 72 2 1 [(iC 5), (iC 3)])]⟩
noncomputable def t9 : List Ent := e9 :: t8
noncomputable def e10 : Ent := ⟨25, [(.agg [(iC 0), (.sl false 2 [(iC 2), (iC 0), (iC 2), (iC 0)]), (.sl false 0 []), (.sl false 1 [(iC 4)]), (.sl false 0 [])]), (.agg [(iC 0), (.sl false 2 [(iC 2), (iC 0), (iC 2), (iC 0)]), (.sl false 0 []), (.sl false 1 [(iC 4)]), (.sl false 0 [])]), (.agg [(iC 0), (.sl false 2 [(iC 0), (iC 0), (iC 0), (iC 0)]), (.sl false 0 []), (.sl false 1 [(iC 0)]), (.sl false 0 [])]), (.agg [(iC 0), (iC 1), (.sl false 2 [(iC 2), (iC 4)]), (.sl false 1 [(.sl false 0 [])]), (.sl false 2 [(iC 2), (iC 4)]), (.sl false 0 []), (iC 1)]), (.agg [(iC 0), (iC 1), (.sl false 2 [(iC 2), (iC 4)]), (.sl false 1 [(.sl false 0 [])]), (.sl false 2 [(iC 2), (iC 4)]), (.sl false 1 [(iC 5), (iC 3)]), (iC 6)])],
  (.tup [(.agg [(iC 0), (iC 1), (.own (0, 0)), (.own (0, 1)), (.own (0, 3)), (.own (0, 4)), (iC 6)]), (.one (iC 0))]),
  [(.arr 3 1 2 [(iC 2), (iC 4)]), (.arr 25 1 1 [(.own (0, 2))]), (.arr 3 1 0 []), (.arr 3 1 2 [(iC 2), (iC 4)]), (.arr 72 2 1 [(iC 5), (iC 3)])]⟩
noncomputable def t10 : List Ent := e10 :: t9
noncomputable def e11 : Ent := ⟨11, [(.agg [(iC 0), (.sl false 2 [(iC 2), (iC 0), (iC 2), (iC 0)]), (.sl false 0 []), (.sl false 1 [(iC 4)]), (.sl false 0 [])]), (.one (.sl false 1 [(sC [108, 97, 116, 99, 104, 101, 115]), (iC 0)])), (.one (iC 99))],
  (.tup [(.agg [(iC 0), (.own (0, 0)), (.own (0, 1)), (.own (0, 2)), (.own (0, 3)), (iC 0), (iC 1), (.own (0, 4)), (.own (0, 5)), (.own (0, 7)), (.own (0, 8)), (iC 6)]), (.one (.own (0, 9))), (.one (iC 0))]),
  [(.arr 23 2 2 [(iC 0), (iC 0), (iC 0), (iC 0)]), (.arr 72 2 0 []), (.arr 3 1 1 [(iC 0)]), (.arr 3 1 0 []), (.arr 3 1 2 [(iC 2), (iC 4)]), (.arr 25 1 1 [(.own (0, 6))]), (.arr 3 1 0 []), (.arr 3 1 2 [(iC 2), (iC 4)]), (.arr 72 2 1 [(iC 5), (iC 3)]), (.arr 4 1 1 [(bC true)])]⟩
noncomputable def t11 : List Ent := e11 :: t10
noncomputable def e12 : Ent := ⟨240, [(.agg [(iC 0), (.sl false 2 [(iC 0), (iC 0), (iC 0), (iC 0)]), (.sl false 0 []), (.sl false 1 [(iC 0)]), (.sl false 0 [])]), (.one (iC 1)), (.one (.sl false 2 [(iC 0), (iC 0)]))],
  (.tup [(.agg [(iC 0), (.own (0, 0)), nC]), (.one (iC 0))]),
  [(.arr 25 1 1 [(.own (0, 1))]), (.arr 3 1 3 [(iC 0), (iC 0), (iC 0)])]⟩
noncomputable def t12 : List Ent := e12 :: t11
noncomputable def e13 : Ent := ⟨187, [(.agg [(iC 0), (.sl false 2 [(iC 0), (iC 0), (iC 0), (iC 0)]), (.sl false 0 []), (.sl false 1 [(iC 0)]), (.sl false 0 [])]), (.one (iC 1))],
  (.tup [(.agg [(iC 0), (.own (0, 0)), nC]), (.one (iC 0))]),
  [(.arr 25 1 1 [(.own (0, 1))]), (.arr 3 1 3 [(iC 0), (iC 0), (iC 0)])]⟩
noncomputable def t13 : List Ent := e13 :: t12
noncomputable def e14 : Ent := ⟨165, [(.agg [(iC 0), (.sl false 2 [(iC 0), (iC 0), (iC 0), (iC 0)]), (.sl false 0 []), (.sl false 1 [(iC 0)]), (.sl false 0 [])]), (.one (iC 0))],
  (.tup [(.agg [(iC 0), (.own (0, 0)), (.own (0, 2))]), (.one (iC 0))]),
  [(.arr 25 1 1 [(.own (0, 1))]), (.arr 3 1 3 [(iC 0), (iC 0), (iC 0)]), (.arr 25 1 1 [nC])]⟩
noncomputable def t14 : List Ent := e14 :: t13
noncomputable def e15 : Ent := ⟨166, [(.one (iC 0)), (.one (.sl false 1 [(.sl false 0 [])])), (.one (iC 100000))],
  (.tup [(.agg [(bC false), nC, nC, (.own (0, 0)), (iC 0)]), (.one (iC 0))]),
  [(.arr 25 1 1 [(.own (0, 1))]), (.arr 3 1 0 [])]⟩
noncomputable def t15 : List Ent := e15 :: t14
noncomputable def e16 : Ent := ⟨107, [(.agg [(iC 0), (.sl false 2 [(iC 0), (iC 0), (iC 0), (iC 0)]), (.sl false 0 []), (.sl false 1 [(iC 0)]), (.sl false 0 [])]), (.one (iC 0)), (.one (iC 100000))],
  (.tup [(.agg [(bC false), nC, nC, (iC 1), (iC 0)]), (.one (iC 0))]),
  []⟩
noncomputable def t16 : List Ent := e16 :: t15
noncomputable def e17 : Ent := ⟨178, [(.one (iC 2)), (.agg [(.sl false 1 [(.sl false 0 [])])])],
  (.one (iC 0)),
  []⟩
noncomputable def t17 : List Ent := e17 :: t16
noncomputable def e18 : Ent := ⟨240, [(.agg [(iC 0), (.sl false 2 [(iC 0), (iC 0), (iC 0), (iC 0)]), (.sl false 0 []), (.sl false 1 [(iC 0)]), (.sl false 0 [])]), (.one (iC 1)), (.one (.sl false 2 [(iC (-1)), (iC (-1))]))],
  (.tup [(.agg [(iC 2), (.own (0, 0)), nC]), (.one (iC 0))]),
  [(.arr 25 1 1 [(.own (0, 1))]), (.arr 3 1 3 [(iC 0), (iC 2), (iC 4)])]⟩
noncomputable def t18 : List Ent := e18 :: t17
noncomputable def e19 : Ent := ⟨191, [(.agg [(iC 0), (.sl false 2 [(iC 0), (iC 0), (iC 0), (iC 0)]), (.sl false 0 []), (.sl false 1 [(iC 0)]), (.sl false 0 [])]), (.one (iC 1))],
  (.tup [(.agg [(iC 2), (.own (0, 0)), nC]), (.one (iC 0))]),
  [(.arr 25 1 1 [(.own (0, 1))]), (.arr 3 1 3 [(iC 0), (iC 2), (iC 4)])]⟩
noncomputable def t19 : List Ent := e19 :: t18
noncomputable def e20 : Ent := ⟨217, [(.agg [(iC 0), (.sl false 2 [(iC 0), (iC 0), (iC 0), (iC 0)]), (.sl false 0 []), (.sl false 1 [(iC 0)]), (.sl false 0 [])]), (.agg [(.sl false 1 [(.sl false 0 [])])]), (.one (iC 1)), (.one (iC 100000))],
  (.tup [(.one (.loc (0, 0) 0)), (.one (iC 0))]),
  [(.box 353 [(iC 0), (.sl false 2 [(iC 0), (iC 0), (iC 0), (iC 0)]), (.sl false 0 []), (.sl false 1 [(iC 0)]), (.sl false 0 []), (iC 2), (.own (0, 1)), nC, (.own (0, 2))]), (.arr 25 1 1 [(.own (0, 2))]), (.arr 3 1 3 [(iC 0), (iC 2), (iC 4)])]⟩
noncomputable def t20 : List Ent := e20 :: t19
noncomputable def e21 : Ent := ⟨166, [(.one (iC 2)), (.one (.sl false 1 [(.sl false 0 [])])), (.one (iC 100000))],
  (.tup [(.agg [(bC false), nC, nC, (.own (0, 0)), (iC 0)]), (.one (iC 0))]),
  [(.arr 25 1 1 [(.own (0, 1))]), (.arr 3 1 0 [])]⟩
noncomputable def t21 : List Ent := e21 :: t20
noncomputable def e22 : Ent := ⟨168, [(.agg [(iC 0), (.sl false 2 [(iC 0), (iC 0), (iC 0), (iC 0)]), (.sl false 0 []), (.sl false 1 [(iC 0)]), (.sl false 0 [])]), (.agg [(.sl false 1 [(.sl false 0 [])])]), (.one (iC 1)), (.one (iC 100000))],
  (.tup [(.agg [(bC false), nC, nC, (iC 0)]), (.one (iC 0))]),
  []⟩
noncomputable def t22 : List Ent := e22 :: t21
noncomputable def e23 : Ent := ⟨178, [(.one (iC 2)), (.agg [(.sl false 2 [(.sl false 0 []), (.sl false 0 [])])])],
  (.one (iC 0)),
  []⟩
noncomputable def t23 : List Ent := e23 :: t22
noncomputable def e24 : Ent := ⟨110, [(.agg [(iC 0), (.sl false 2 [(iC 0), (iC 0), (iC 0), (iC 0)]), (.sl false 0 []), (.sl false 1 [(iC 0)]), (.sl false 0 [])]), (.agg [(.sl false 2 [(.sl false 0 []), (.sl false 0 [])])]), (.one (iC 100000))],
  (.tup [(.agg [(.own (0, 0))]), (.one (iC 0)), (.one (iC 0))]),
  [(.arr 54 1 2 [nC, nC])]⟩
noncomputable def t24 : List Ent := e24 :: t23
noncomputable def e25 : Ent := ⟨111, [(.one (iC 2)), (.agg [(.sl false 2 [(.sl false 0 []), (.sl false 0 [])])])],
  (.tup [(.one (iC 1)), (.one (iC 0))]),
  []⟩
noncomputable def t25 : List Ent := e25 :: t24
noncomputable def e26 : Ent := ⟨181, [(.one (iC 2)), (.agg [(.sl false 2 [(.sl false 0 []), (.sl false 0 [])])]), (.one (iC 2))],
  (.tup [(.one nC), (.one (iC 0))]),
  []⟩
noncomputable def t26 : List Ent := e26 :: t25
noncomputable def e27 : Ent := ⟨112, [(.one (iC 2)), (.agg [(.sl false 2 [(.sl false 0 []), (.sl false 0 [])])]), (.one (iC 2))],
  (.tup [(.agg [(.own (0, 0)), (iC 1)]), (.one (iC 0))]),
  [(.arr 72 2 0 [])]⟩
noncomputable def t27 : List Ent := e27 :: t26
noncomputable def e28 : Ent := ⟨27, [(.agg [(iC 0), (.sl false 2 [(iC 0), (iC 0), (iC 0), (iC 0)]), (.sl false 0 []), (.sl false 1 [(iC 0)]), (.sl false 0 [])]), (.one (iC 60)), (.one (iC 100000))],
  (.tup [(.agg [(.c (.int .u8 (1))), nC, nC, (.own (0, 0)), (iC 1), (.own (0, 1)), (iC 0), (iC 0)]), (.one (iC 0))]),
  [(.arr 72 2 0 []), (.arr 54 1 2 [nC, nC])]⟩
noncomputable def t28 : List Ent := e28 :: t27
noncomputable def e29 : Ent := ⟨12, [(.agg [(iC 0), (.sl false 2 [(iC 0), (iC 0), (iC 0), (iC 0)]), (.sl false 0 []), (.sl false 1 [(iC 0)]), (.sl false 0 [])]), (.agg [(bC true), (iC 60), (iC 100000)])],
  (.tup [(.agg [(.c (.int .u8 (1))), nC, nC, (iC 0), (iC 1), (.own (0, 0)), (iC 1)]), (.one (iC 0)), (.one (iC 0))]),
  [(.arr 72 2 0 [])]⟩
noncomputable def t29 : List Ent := e29 :: t28
noncomputable def e30 : Ent := ⟨66, [(.agg [(iC 0), (.sl false 2 [(iC 2), (iC 0), (iC 2), (iC 0)]), (.sl false 0 []), (.sl false 1 [(iC 4)]), (.sl false 0 [])]), (.agg [(iC 0), (.sl false 2 [(iC 0), (iC 0), (iC 0), (iC 0)]), (.sl false 0 []), (.sl false 1 [(iC 0)]), (.sl false 0 [])]), (.agg [(iC 0), (iC 1), (.sl false 2 [(iC 2), (iC 4)]), (.sl false 1 [(.sl false 0 [])]), (.sl false 2 [(iC 2), (iC 4)]), (.sl false 1 [(iC 5), (iC 3)]), (iC 6)])],
  (.one (iC 0)),
  []⟩
noncomputable def t30 : List Ent := e30 :: t29
noncomputable def e31 : Ent := ⟨29, [(.agg [(iC 0), (.sl false 2 [(iC 2), (iC 0), (iC 2), (iC 0)]), (.sl false 0 []), (.sl false 1 [(iC 4)]), (.sl false 0 [])]), (.agg [(iC 0), (.sl false 2 [(iC 0), (iC 0), (iC 0), (iC 0)]), (.sl false 0 []), (.sl false 1 [(iC 0)]), (.sl false 0 [])]), (.agg [(iC 0), (iC 1), (.sl false 2 [(iC 2), (iC 4)]), (.sl false 1 [(.sl false 0 [])]), (.sl false 2 [(iC 2), (iC 4)]), (.sl false 1 [(iC 5), (iC 3)]), (iC 6)]), (.agg [(iC 0), (iC 1), (.sl false 0 []), (iC 1)])],
  (.tup [(.agg [(iC 0), (iC 1), (.own (0, 0)), (iC 6)]), (.one (iC 0))]),
  [(.arr 72 2 1 [(iC 5), (iC 3)])]⟩
noncomputable def t31 : List Ent := e31 :: t30
noncomputable def e32 : Ent := ⟨4, [(.agg [(iC 0), (.sl false 2 [(iC 2), (iC 0), (iC 2), (iC 0)]), (.sl false 0 []), (.sl false 1 [(iC 4)]), (.sl false 0 [])]), (.one (.sl false 1 [(sC [108, 97, 116, 99, 104, 101, 115]), (iC 0)])), (.one (iC 99)), (.agg [(bC true), (iC 60), (iC 100000)])],
  (.tup [(.agg [(.c (.int .u8 (1))), nC, nC, (iC 0), (iC 1), (.own (0, 0)), (iC 6)]), (.agg [(iC 0), (.own (0, 1)), (.own (0, 2)), (.own (0, 3)), (.own (0, 4))]), (.one (iC 0))]),
  [(.arr 72 2 1 [(iC 5), (iC 3)]), (.arr 23 2 2 [(iC 0), (iC 0), (iC 0), (iC 0)]), (.arr 72 2 0 []), (.arr 3 1 1 [(iC 0)]), (.arr 3 1 0 [])]⟩
noncomputable def t32 : List Ent := e32 :: t31
noncomputable def e33 : Ent := ⟨77, [(.agg [(iC 0), (.sl false 2 [(iC 2), (iC 0), (iC 2), (iC 0)]), (.sl false 0 []), (.sl false 1 [(iC 4)]), (.sl false 0 [])]), (.agg [(.sl false 1 [(iC 5), (iC 3)]), (iC 6)]), (.one (.sl false 2 [(iC 2), (iC 4)]))],
  (.tup [(.agg [(iC 0), (.own (0, 0)), (.own (0, 1)), (.own (0, 2)), (.own (0, 3))]), (.one (iC 6)), (.one (iC 0))]),
  [(.arr 23 2 2 [(iC 2), (iC 0), (iC 2), (iC 0)]), (.arr 72 2 1 [(iC 5), (iC 3)]), (.arr 3 1 1 [(iC 4)]), (.arr 3 1 0 [])]⟩
noncomputable def t33 : List Ent := e33 :: t32
noncomputable def e34 : Ent := ⟨18, [(.agg [(iC 0), (.sl false 2 [(iC 2), (iC 0), (iC 2), (iC 0)]), (.sl false 1 [(iC 5), (iC 3)]), (.sl false 1 [(iC 4)]), (.sl false 0 [])])],
  (.one (iC 0)),
  []⟩
noncomputable def t34 : List Ent := e34 :: t33
noncomputable def e35 : Ent := ⟨240, [(.agg [(iC 0), (.sl false 2 [(iC 2), (iC 0), (iC 2), (iC 0)]), (.sl false 1 [(iC 5), (iC 3)]), (.sl false 1 [(iC 4)]), (.sl false 0 [])]), (.one (iC 1)), (.one (.sl false 2 [(iC 0), (iC 0)]))],
  (.tup [(.agg [(iC 1), (.own (0, 0)), (.own (0, 2))]), (.one (iC 0))]),
  [(.arr 25 1 1 [(.own (0, 1))]), (.arr 3 1 4 [(iC 0), (iC 0), (iC 0), (iC 2)]), (.arr 25 1 1 [(.own (0, 3))]), (.arr 3 1 1 [(iC 2)])]⟩
noncomputable def t35 : List Ent := e35 :: t34
noncomputable def e36 : Ent := ⟨187, [(.agg [(iC 0), (.sl false 2 [(iC 2), (iC 0), (iC 2), (iC 0)]), (.sl false 1 [(iC 5), (iC 3)]), (.sl false 1 [(iC 4)]), (.sl false 0 [])]), (.one (iC 1))],
  (.tup [(.agg [(iC 1), (.own (0, 0)), (.own (0, 2))]), (.one (iC 0))]),
  [(.arr 25 1 1 [(.own (0, 1))]), (.arr 3 1 4 [(iC 0), (iC 0), (iC 0), (iC 2)]), (.arr 25 1 1 [(.own (0, 3))]), (.arr 3 1 1 [(iC 2)])]⟩
noncomputable def t36 : List Ent := e36 :: t35
noncomputable def e37 : Ent := ⟨166, [(.one (iC 1)), (.one (.sl false 2 [(.sl false 1 [(iC 2)]), (.sl false 1 [(iC 3)])])), (.one (iC 100000))],
  (.tup [(.agg [(bC false), nC, nC, (.own (0, 0)), (iC 0)]), (.one (iC 0))]),
  [(.arr 25 1 1 [(.own (0, 1))]), (.arr 3 1 0 [])]⟩
noncomputable def t37 : List Ent := e37 :: t36
noncomputable def e38 : Ent := ⟨240, [(.agg [(iC 0), (.sl false 2 [(iC 2), (iC 0), (iC 2), (iC 0)]), (.sl false 1 [(iC 5), (iC 3)]), (.sl false 1 [(iC 4)]), (.sl false 0 [])]), (.one (iC 1)), (.one (.sl false 2 [(iC (-1)), (iC (-1))]))],
  (.tup [(.agg [(iC 3), (.own (0, 0)), (.own (0, 2))]), (.one (iC 0))]),
  [(.arr 25 1 1 [(.own (0, 1))]), (.arr 3 1 4 [(iC 0), (iC 2), (iC 4), (iC 6)]), (.arr 25 1 3 [(.own (0, 3)), (.own (0, 4)), (.own (0, 5))]), (.arr 3 1 2 [(iC 5), (iC 7)]), (.arr 3 1 2 [(iC 3), (iC 7)]), (.arr 3 1 3 [(iC 2), (iC 4), (iC 6)])]⟩
noncomputable def t38 : List Ent := e38 :: t37
noncomputable def e39 : Ent := ⟨191, [(.agg [(iC 0), (.sl false 2 [(iC 2), (iC 0), (iC 2), (iC 0)]), (.sl false 1 [(iC 5), (iC 3)]), (.sl false 1 [(iC 4)]), (.sl false 0 [])]), (.one (iC 1))],
  (.tup [(.agg [(iC 3), (.own (0, 0)), (.own (0, 2))]), (.one (iC 0))]),
  [(.arr 25 1 1 [(.own (0, 1))]), (.arr 3 1 4 [(iC 0), (iC 2), (iC 4), (iC 6)]), (.arr 25 1 3 [(.own (0, 3)), (.own (0, 4)), (.own (0, 5))]), (.arr 3 1 2 [(iC 5), (iC 7)]), (.arr 3 1 2 [(iC 3), (iC 7)]), (.arr 3 1 3 [(iC 2), (iC 4), (iC 6)])]⟩
noncomputable def t39 : List Ent := e39 :: t38
noncomputable def e40 : Ent := ⟨166, [(.one (iC 3)), (.one (.sl false 5 [(.sl false 2 [(iC 5), (iC 7)]), (.sl false 2 [(iC 3), (iC 7)]), (.sl false 3 [(iC 2), (iC 4), (iC 6)]), (.sl false 1 [(iC 6)]), (.sl false 1 [(iC 4)])])), (.one (iC 100000))],
  (.tup [(.agg [(bC false), nC, nC, (.own (0, 0)), (iC 0)]), (.one (iC 0))]),
  [(.arr 25 1 1 [(.own (0, 1))]), (.arr 3 1 0 [])]⟩
noncomputable def t40 : List Ent := e40 :: t39
noncomputable def e41 : Ent := ⟨240, [(.agg [(iC 0), (.sl false 2 [(iC 2), (iC 0), (iC 2), (iC 0)]), (.sl false 1 [(iC 5), (iC 3)]), (.sl false 1 [(iC 4)]), (.sl false 0 [])]), (.one (iC 2)), (.one (.sl false 2 [(iC (-1)), (iC (-1))]))],
  (.tup [(.agg [(iC 4), (.own (0, 0)), (.own (0, 3))]), (.one (iC 0))]),
  [(.arr 25 1 2 [(.own (0, 1)), (.own (0, 2))]), (.arr 3 1 4 [(iC 0), (iC 2), (iC 4), (iC 6)]), (.arr 3 1 4 [(iC 0), (iC 2), (iC 2), (iC 8)]), (.arr 25 1 6 [(.own (0, 4)), (.own (0, 5)), (.own (0, 6)), (.own (0, 7)), (.own (0, 8)), (.cut (0, 9) 2)]), (.arr 3 1 2 [(iC 5), (iC 7)]), (.arr 3 1 2 [(iC 3), (iC 7)]), (.arr 3 1 3 [(iC 2), (iC 4), (iC 6)]), (.arr 3 1 2 [(iC 3), (iC 9)]), (.arr 3 1 2 [(iC 3), (iC 9)]), (.arr 3 1 3 [(iC 2), (iC 8), (iC 0)])]⟩
noncomputable def t41 : List Ent := e41 :: t40
noncomputable def e42 : Ent := ⟨191, [(.agg [(iC 0), (.sl false 2 [(iC 2), (iC 0), (iC 2), (iC 0)]), (.sl false 1 [(iC 5), (iC 3)]), (.sl false 1 [(iC 4)]), (.sl false 0 [])]), (.one (iC 2))],
  (.tup [(.agg [(iC 4), (.own (0, 0)), (.own (0, 3))]), (.one (iC 0))]),
  [(.arr 25 1 2 [(.own (0, 1)), (.own (0, 2))]), (.arr 3 1 4 [(iC 0), (iC 2), (iC 4), (iC 6)]), (.arr 3 1 4 [(iC 0), (iC 2), (iC 2), (iC 8)]), (.arr 25 1 6 [(.own (0, 4)), (.own (0, 5)), (.own (0, 6)), (.own (0, 7)), (.own (0, 8)), (.cut (0, 9) 2)]), (.arr 3 1 2 [(iC 5), (iC 7)]), (.arr 3 1 2 [(iC 3), (iC 7)]), (.arr 3 1 3 [(iC 2), (iC 4), (iC 6)]), (.arr 3 1 2 [(iC 3), (iC 9)]), (.arr 3 1 2 [(iC 3), (iC 9)]), (.arr 3 1 3 [(iC 2), (iC 8), (iC 0)])]⟩
noncomputable def t42 : List Ent := e42 :: t41
noncomputable def e43 : Ent := ⟨166, [(.one (iC 4)), (.one (.sl false 8 [(.sl false 2 [(iC 5), (iC 7)]), (.sl false 2 [(iC 3), (iC 7)]), (.sl false 3 [(iC 2), (iC 4), (iC 6)]), (.sl false 2 [(iC 3), (iC 9)]), (.sl false 2 [(iC 3), (iC 9)]), (.sl false 2 [(iC 2), (iC 8)]), (.sl false 1 [(iC 6)]), (.sl false 1 [(iC 9)])])), (.one (iC 100000))],
  (.tup [(.agg [(bC false), nC, nC, (.own (0, 0)), (iC 0)]), (.one (iC 0))]),
  [(.arr 25 1 1 [(.own (0, 1))]), (.arr 3 1 0 [])]⟩
noncomputable def t43 : List Ent := e43 :: t42
noncomputable def e44 : Ent := ⟨32, [(.agg [(iC 0), (.sl false 2 [(iC 2), (iC 0), (iC 2), (iC 0)]), (.sl false 0 []), (.sl false 1 [(iC 4)]), (.sl false 0 [])]), (.agg [(iC 0), (iC 1), (.sl false 1 [(iC 5), (iC 3)]), (iC 6)]), (.one (iC 100000))],
  (.tup [(.one (bC true)), (.one (iC 0))]),
  []⟩
noncomputable def t44 : List Ent := e44 :: t43
noncomputable def e45 : Ent := ⟨14, [(.agg [(iC 0), (.sl false 2 [(iC 2), (iC 0), (iC 2), (iC 0)]), (.sl false 0 []), (.sl false 1 [(iC 4)]), (.sl false 0 [])]), (.agg [(.c (.int .u8 (1))), (.sl false 0 []), (.sl false 0 []), (iC 0), (iC 1), (.sl false 1 [(iC 5), (iC 3)]), (iC 6)]), (.one (iC 100000))],
  (.one (iC 0)),
  []⟩
noncomputable def t45 : List Ent := e45 :: t44
noncomputable def e46 : Ent := ⟨5, [(.agg [(iC 0), (.sl false 2 [(iC 2), (iC 0), (iC 2), (iC 0)]), (.sl false 0 []), (.sl false 1 [(iC 4)]), (.sl false 0 [])]), (.one (.sl false 1 [(sC [108, 97, 116, 99, 104, 101, 115]), (iC 0)])), (.one (iC 99)), (.agg [(bC true), (iC 60), (iC 100000)])],
  (.tup [(.agg [(.c (.int .u8 (1))), nC, nC, (iC 0), (iC 1), (.own (0, 0)), (iC 6)]), (.one (iC 0))]),
  [(.arr 72 2 1 [(iC 5), (iC 3)])]⟩
noncomputable def t46 : List Ent := e46 :: t45
noncomputable def e47 : Ent := ⟨55, [(.agg [(iC 0), (.sl false 2 [(iC 2), (iC 0), (iC 2), (iC 0)]), (.sl false 0 []), (.sl false 1 [(iC 4)]), (.sl false 0 [])]), (.one (iC 2))],
  (.tup [(.agg [(iC 0), (.own (0, 0)), (.own (0, 1)), (.own (0, 2)), (.own (0, 3)), (iC 2), (iC 1), (.own (0, 4)), (.own (0, 5)), (.own (0, 6)), nC, (iC 1)]), (.one (iC 0))]),
  [(.arr 23 2 3 [(iC 13), (iC 0), (iC 13), (iC 0), (iC 0), (iC 1)]), (.arr 72 2 8 [(iC 6), (iC 2), (iC 7), (iC 2), (iC 11), (iC 9), (iC 7), (iC 4), (iC 15), (iC 9), (iC 5), (iC 3), (iC 19), (iC 6), (iC 21), (iC 16)]), (.arr 3 1 1 [(iC 23)]), (.arr 3 1 1 [(iC 1)]), (.arr 3 1 2 [(iC 2), (iC 4)]), (.arr 25 1 3 [nC, nC, nC]), (.arr 3 1 3 [(iC 2), (iC 4), (iC (-1))])]⟩
noncomputable def t47 : List Ent := e47 :: t46
noncomputable def e48 : Ent := ⟨24, [(.agg [(iC 0), (.sl false 2 [(iC 2), (iC 0), (iC 2), (iC 0)]), (.sl false 0 []), (.sl false 1 [(iC 4)]), (.sl false 0 [])]), (.agg [(sC [112, 114, 101, 102, 105, 120]), (iC 2)]), (.one (iC 99))],
  (.tup [(.agg [(iC 0), (.own (0, 0)), (.own (0, 1)), (.own (0, 2)), (.own (0, 3)), (iC 2), (iC 1), (.own (0, 4)), (.own (0, 5)), (.own (0, 6)), nC, (iC 1)]), (.one (iC 0))]),
  [(.arr 23 2 3 [(iC 13), (iC 0), (iC 13), (iC 0), (iC 0), (iC 1)]), (.arr 72 2 8 [(iC 6), (iC 2), (iC 7), (iC 2), (iC 11), (iC 9), (iC 7), (iC 4), (iC 15), (iC 9), (iC 5), (iC 3), (iC 19), (iC 6), (iC 21), (iC 16)]), (.arr 3 1 1 [(iC 23)]), (.arr 3 1 1 [(iC 1)]), (.arr 3 1 2 [(iC 2), (iC 4)]), (.arr 25 1 3 [nC, nC, nC]), (.arr 3 1 3 [(iC 2), (iC 4), (iC (-1))])]⟩
noncomputable def t48 : List Ent := e48 :: t47
noncomputable def e49 : Ent := ⟨18, [(.agg [(iC 0), (.sl false 3 [(iC 13), (iC 0), (iC 13), (iC 0), (iC 0), (iC 1)]), (.sl false 8 [(iC 6), (iC 2), (iC 7), (iC 2), (iC 11), (iC 9), (iC 7), (iC 4), (iC 15), (iC 9), (iC 5), (iC 3), (iC 19), (iC 6), (iC 21), (iC 16)]), (.sl false 1 [(iC 23)]), (.sl false 1 [(iC 1)])])],
  (.one (iC 0)),
  []⟩
noncomputable def t49 : List Ent := e49 :: t48
noncomputable def e50 : Ent := ⟨60, [(.one (iC 2)), (.agg [(.sl false 0 []), (iC 1)]), (.agg [(.sl false 0 []), (iC 1)])],
  (.tup [(.agg [(.own (0, 0)), (iC 1)]), (.one (iC 0))]),
  [(.arr 72 2 0 [])]⟩
noncomputable def t50 : List Ent := e50 :: t49
noncomputable def e51 : Ent := ⟨25, [(.agg [(iC 0), (.sl false 2 [(iC 2), (iC 0), (iC 2), (iC 0)]), (.sl false 0 []), (.sl false 1 [(iC 4)]), (.sl false 0 [])]), (.agg [(iC 0), (.sl false 2 [(iC 2), (iC 0), (iC 2), (iC 0)]), (.sl false 0 []), (.sl false 1 [(iC 4)]), (.sl false 0 [])]), (.agg [(iC 0), (.sl false 3 [(iC 13), (iC 0), (iC 13), (iC 0), (iC 0), (iC 1)]), (.sl false 8 [(iC 6), (iC 2), (iC 7), (iC 2), (iC 11), (iC 9), (iC 7), (iC 4), (iC 15), (iC 9), (iC 5), (iC 3), (iC 19), (iC 6), (iC 21), (iC 16)]), (.sl false 1 [(iC 23)]), (.sl false 1 [(iC 1)])]), (.agg [(iC 0), (iC 1), (.sl false 2 [(iC 2), (iC 4)]), (.sl false 1 [(.sl false 0 [])]), (.sl false 2 [(iC 2), (iC 4)]), (.sl false 0 []), (iC 1)]), (.agg [(iC 2), (iC 1), (.sl false 2 [(iC 2), (iC 4)]), (.sl false 3 [(.sl false 0 []), (.sl false 0 []), (.sl false 0 [])]), (.sl false 3 [(iC 2), (iC 4), (iC (-1))]), (.sl false 0 []), (iC 1)])],
  (.tup [(.agg [(iC 2), (iC 1), (.own (0, 0)), (.own (0, 1)), (.own (0, 5)), (.own (0, 6)), (iC 1)]), (.one (iC 0))]),
  [(.arr 3 1 2 [(iC 2), (iC 4)]), (.arr 25 1 3 [(.own (0, 2)), (.own (0, 3)), (.own (0, 4))]), (.arr 3 1 0 []), (.arr 3 1 0 []), (.arr 3 1 0 []), (.arr 3 1 3 [(iC 2), (iC 4), (iC (-1))]), (.arr 72 2 0 [])]⟩
noncomputable def t51 : List Ent := e51 :: t50
noncomputable def e52 : Ent := ⟨11, [(.agg [(iC 0), (.sl false 2 [(iC 2), (iC 0), (iC 2), (iC 0)]), (.sl false 0 []), (.sl false 1 [(iC 4)]), (.sl false 0 [])]), (.one (.sl false 1 [(sC [112, 114, 101, 102, 105, 120]), (iC 2)])), (.one (iC 99))],
  (.tup [(.agg [(iC 0), (.own (0, 0)), (.own (0, 1)), (.own (0, 2)), (.own (0, 3)), (iC 2), (iC 1), (.own (0, 4)), (.own (0, 5)), (.own (0, 9)), (.own (0, 10)), (iC 1)]), (.one (.own (0, 11))), (.one (iC 0))]),
  [(.arr 23 2 3 [(iC 13), (iC 0), (iC 13), (iC 0), (iC 0), (iC 1)]), (.arr 72 2 8 [(iC 6), (iC 2), (iC 7), (iC 2), (iC 11), (iC 9), (iC 7), (iC 4), (iC 15), (iC 9), (iC 5), (iC 3), (iC 19), (iC 6), (iC 21), (iC 16)]), (.arr 3 1 1 [(iC 23)]), (.arr 3 1 1 [(iC 1)]), (.arr 3 1 2 [(iC 2), (iC 4)]), (.arr 25 1 3 [(.own (0, 6)), (.own (0, 7)), (.own (0, 8))]), (.arr 3 1 0 []), (.arr 3 1 0 []), (.arr 3 1 0 []), (.arr 3 1 3 [(iC 2), (iC 4), (iC (-1))]), (.arr 72 2 0 []), (.arr 4 1 1 [(bC true)])]⟩
noncomputable def t52 : List Ent := e52 :: t51
noncomputable def e53 : Ent := ⟨240, [(.agg [(iC 0), (.sl false 3 [(iC 13), (iC 0), (iC 13), (iC 0), (iC 0), (iC 1)]), (.sl false 8 [(iC 6), (iC 2), (iC 7), (iC 2), (iC 11), (iC 9), (iC 7), (iC 4), (iC 15), (iC 9), (iC 5), (iC 3), (iC 19), (iC 6), (iC 21), (iC 16)]), (.sl false 1 [(iC 23)]), (.sl false 1 [(iC 1)])]), (.one (iC 1)), (.one (.sl false 3 [(iC 0), (iC 0), (iC 1)]))],
  (.tup [(.agg [(iC 8), (.own (0, 0)), (.own (0, 2))]), (.one (iC 0))]),
  [(.arr 25 1 1 [(.own (0, 1))]), (.arr 3 1 12 [(iC 0), (iC 0), (iC 0), (iC 1), (iC 2), (iC 4), (iC 6), (iC 8), (iC 10), (iC 12), (iC 14), (iC 16)]), (.arr 25 1 17 [(.own (0, 3)), (.own (0, 4)), (.own (0, 5)), (.own (0, 6)), (.own (0, 7)), (.own (0, 8)), (.own (0, 9)), (.own (0, 10)), (.own (0, 11)), (.own (0, 12)), (.own (0, 13)), (.own (0, 14)), (.own (0, 15)), (.own (0, 16)), (.own (0, 17)), (.own (0, 18)), (.own (0, 19))]), (.arr 3 1 1 [(iC 3)]), (.arr 3 1 1 [(iC 5)]), (.arr 3 1 1 [(iC 5)]), (.arr 3 1 2 [(iC 5), (iC 7)]), (.arr 3 1 2 [(iC 3), (iC 7)]), (.arr 3 1 3 [(iC 2), (iC 4), (iC 6)]), (.arr 3 1 1 [(iC 9)]), (.arr 3 1 1 [(iC 9)]), (.arr 3 1 2 [(iC 9), (iC 11)]), (.arr 3 1 2 [(iC 3), (iC 11)]), (.arr 3 1 3 [(iC 2), (iC 8), (iC 10)]), (.arr 3 1 1 [(iC 12)]), (.arr 3 1 2 [(iC 13), (iC 15)]), (.arr 3 1 2 [(iC 12), (iC 14)]), (.arr 3 1 2 [(iC 15), (iC 17)]), (.arr 3 1 2 [(iC 10), (iC 17)]), (.arr 3 1 3 [(iC 11), (iC 14), (iC 16)])]⟩
noncomputable def t53 : List Ent := e53 :: t52
noncomputable def e54 : Ent := ⟨187, [(.agg [(iC 0), (.sl false 3 [(iC 13), (iC 0), (iC 13), (iC 0), (iC 0), (iC 1)]), (.sl false 8 [(iC 6), (iC 2), (iC 7), (iC 2), (iC 11), (iC 9), (iC 7), (iC 4), (iC 15), (iC 9), (iC 5), (iC 3), (iC 19), (iC 6), (iC 21), (iC 16)]), (.sl false 1 [(iC 23)]), (.sl false 1 [(iC 1)])]), (.one (iC 1))],
  (.tup [(.agg [(iC 8), (.own (0, 0)), (.own (0, 2))]), (.one (iC 0))]),
  [(.arr 25 1 1 [(.own (0, 1))]), (.arr 3 1 12 [(iC 0), (iC 0), (iC 0), (iC 1), (iC 2), (iC 4), (iC 6), (iC 8), (iC 10), (iC 12), (iC 14), (iC 16)]), (.arr 25 1 17 [(.own (0, 3)), (.own (0, 4)), (.own (0, 5)), (.own (0, 6)), (.own (0, 7)), (.own (0, 8)), (.own (0, 9)), (.own (0, 10)), (.own (0, 11)), (.own (0, 12)), (.own (0, 13)), (.own (0, 14)), (.own (0, 15)), (.own (0, 16)), (.own (0, 17)), (.own (0, 18)), (.own (0, 19))]), (.arr 3 1 1 [(iC 3)]), (.arr 3 1 1 [(iC 5)]), (.arr 3 1 1 [(iC 5)]), (.arr 3 1 2 [(iC 5), (iC 7)]), (.arr 3 1 2 [(iC 3), (iC 7)]), (.arr 3 1 3 [(iC 2), (iC 4), (iC 6)]), (.arr 3 1 1 [(iC 9)]), (.arr 3 1 1 [(iC 9)]), (.arr 3 1 2 [(iC 9), (iC 11)]), (.arr 3 1 2 [(iC 3), (iC 11)]), (.arr 3 1 3 [(iC 2), (iC 8), (iC 10)]), (.arr 3 1 1 [(iC 12)]), (.arr 3 1 2 [(iC 13), (iC 15)]), (.arr 3 1 2 [(iC 12), (iC 14)]), (.arr 3 1 2 [(iC 15), (iC 17)]), (.arr 3 1 2 [(iC 10), (iC 17)]), (.arr 3 1 3 [(iC 11), (iC 14), (iC 16)])]⟩
noncomputable def t54 : List Ent := e54 :: t53
noncomputable def e55 : Ent := ⟨165, [(.agg [(iC 0), (.sl false 3 [(iC 13), (iC 0), (iC 13), (iC 0), (iC 0), (iC 1)]), (.sl false 8 [(iC 6), (iC 2), (iC 7), (iC 2), (iC 11), (iC 9), (iC 7), (iC 4), (iC 15), (iC 9), (iC 5), (iC 3), (iC 19), (iC 6), (iC 21), (iC 16)]), (.sl false 1 [(iC 23)]), (.sl false 1 [(iC 1)])]), (.one (iC 0))],
  (.tup [(.agg [(iC 8), (.own (0, 0)), (.own (0, 2))]), (.one (iC 0))]),
  [(.arr 25 1 1 [(.own (0, 1))]), (.arr 3 1 12 [(iC 0), (iC 0), (iC 0), (iC 1), (iC 2), (iC 4), (iC 6), (iC 8), (iC 10), (iC 12), (iC 14), (iC 16)]), (.arr 25 1 18 [(.own (0, 3)), (.own (0, 4)), (.own (0, 5)), (.own (0, 6)), (.own (0, 7)), (.own (0, 8)), (.own (0, 9)), (.own (0, 10)), (.own (0, 11)), (.own (0, 12)), (.own (0, 13)), (.own (0, 14)), (.own (0, 15)), (.own (0, 16)), (.own (0, 17)), (.own (0, 18)), (.own (0, 19)), (.own (0, 20))]), (.arr 3 1 1 [(iC 3)]), (.arr 3 1 1 [(iC 5)]), (.arr 3 1 1 [(iC 5)]), (.arr 3 1 2 [(iC 5), (iC 7)]), (.arr 3 1 2 [(iC 3), (iC 7)]), (.arr 3 1 3 [(iC 2), (iC 4), (iC 6)]), (.arr 3 1 1 [(iC 9)]), (.arr 3 1 1 [(iC 9)]), (.arr 3 1 2 [(iC 9), (iC 11)]), (.arr 3 1 2 [(iC 3), (iC 11)]), (.arr 3 1 3 [(iC 2), (iC 8), (iC 10)]), (.arr 3 1 1 [(iC 12)]), (.arr 3 1 2 [(iC 13), (iC 15)]), (.arr 3 1 2 [(iC 12), (iC 14)]), (.arr 3 1 2 [(iC 15), (iC 17)]), (.arr 3 1 2 [(iC 10), (iC 17)]), (.arr 3 1 3 [(iC 11), (iC 14), (iC 16)]), (.arr 3 1 1 [(iC 17)])]⟩
noncomputable def t55 : List Ent := e55 :: t54
noncomputable def e56 : Ent := ⟨166, [(.one (iC 8)), (.one (.sl false 18 [(.sl false 1 [(iC 3)]), (.sl false 1 [(iC 5)]), (.sl false 1 [(iC 5)]), (.sl false 2 [(iC 5), (iC 7)]), (.sl false 2 [(iC 3), (iC 7)]), (.sl false 3 [(iC 2), (iC 4), (iC 6)]), (.sl false 1 [(iC 9)]), (.sl false 1 [(iC 9)]), (.sl false 2 [(iC 9), (iC 11)]), (.sl false 2 [(iC 3), (iC 11)]), (.sl false 3 [(iC 2), (iC 8), (iC 10)]), (.sl false 1 [(iC 12)]), (.sl false 2 [(iC 13), (iC 15)]), (.sl false 2 [(iC 12), (iC 14)]), (.sl false 2 [(iC 15), (iC 17)]), (.sl false 2 [(iC 10), (iC 17)]), (.sl false 3 [(iC 11), (iC 14), (iC 16)]), (.sl false 1 [(iC 17)])])), (.one (iC 100000))],
  (.tup [(.agg [(bC false), nC, nC, (.own (0, 0)), (iC 0)]), (.one (iC 0))]),
  [(.arr 25 1 1 [(.own (0, 1))]), (.arr 3 1 0 [])]⟩
noncomputable def t56 : List Ent := e56 :: t55
noncomputable def e57 : Ent := ⟨107, [(.agg [(iC 0), (.sl false 3 [(iC 13), (iC 0), (iC 13), (iC 0), (iC 0), (iC 1)]), (.sl false 8 [(iC 6), (iC 2), (iC 7), (iC 2), (iC 11), (iC 9), (iC 7), (iC 4), (iC 15), (iC 9), (iC 5), (iC 3), (iC 19), (iC 6), (iC 21), (iC 16)]), (.sl false 1 [(iC 23)]), (.sl false 1 [(iC 1)])]), (.one (iC 0)), (.one (iC 100000))],
  (.tup [(.agg [(bC false), nC, nC, (iC 1), (iC 0)]), (.one (iC 0))]),
  []⟩
noncomputable def t57 : List Ent := e57 :: t56
noncomputable def e58 : Ent := ⟨178, [(.one (iC 3)), (.agg [(.sl false 1 [(.sl false 0 [])])])],
  (.one (iC 0)),
  []⟩
noncomputable def t58 : List Ent := e58 :: t57
noncomputable def e59 : Ent := ⟨240, [(.agg [(iC 0), (.sl false 3 [(iC 13), (iC 0), (iC 13), (iC 0), (iC 0), (iC 1)]), (.sl false 8 [(iC 6), (iC 2), (iC 7), (iC 2), (iC 11), (iC 9), (iC 7), (iC 4), (iC 15), (iC 9), (iC 5), (iC 3), (iC 19), (iC 6), (iC 21), (iC 16)]), (.sl false 1 [(iC 23)]), (.sl false 1 [(iC 1)])]), (.one (iC 1)), (.one (.sl false 3 [(iC (-1)), (iC (-1)), (iC (-1))]))],
  (.tup [(.agg [(iC 11), (.own (0, 0)), (.own (0, 2))]), (.one (iC 0))]),
  [(.arr 25 1 1 [(.own (0, 1))]), (.arr 3 1 12 [(iC 0), (iC 2), (iC 4), (iC 6), (iC 8), (iC 10), (iC 12), (iC 14), (iC 16), (iC 18), (iC 20), (iC 22)]), (.arr 25 1 24 [(.own (0, 3)), (.own (0, 4)), (.own (0, 5)), (.own (0, 6)), (.own (0, 7)), (.own (0, 8)), (.own (0, 9)), (.own (0, 10)), (.own (0, 11)), (.own (0, 12)), (.own (0, 13)), (.own (0, 14)), (.own (0, 15)), (.own (0, 16)), (.own (0, 17)), (.own (0, 18)), (.own (0, 19)), (.own (0, 20)), (.own (0, 21)), (.own (0, 22)), (.own (0, 23)), (.own (0, 24)), (.own (0, 25)), (.own (0, 26))]), (.arr 3 1 2 [(iC 6), (iC 9)]), (.arr 3 1 2 [(iC 2), (iC 9)]), (.arr 3 1 3 [(iC 3), (iC 7), (iC 8)]), (.arr 3 1 2 [(iC 7), (iC 11)]), (.arr 3 1 2 [(iC 2), (iC 11)]), (.arr 3 1 3 [(iC 3), (iC 6), (iC 10)]), (.arr 3 1 2 [(iC 11), (iC 13)]), (.arr 3 1 2 [(iC 9), (iC 13)]), (.arr 3 1 3 [(iC 8), (iC 10), (iC 12)]), (.arr 3 1 2 [(iC 7), (iC 15)]), (.arr 3 1 2 [(iC 4), (iC 15)]), (.arr 3 1 3 [(iC 5), (iC 6), (iC 14)]), (.arr 3 1 2 [(iC 15), (iC 17)]), (.arr 3 1 2 [(iC 9), (iC 17)]), (.arr 3 1 3 [(iC 8), (iC 14), (iC 16)]), (.arr 3 1 2 [(iC 5), (iC 19)]), (.arr 3 1 2 [(iC 3), (iC 19)]), (.arr 3 1 3 [(iC 2), (iC 4), (iC 18)]), (.arr 3 1 2 [(iC 19), (iC 21)]), (.arr 3 1 2 [(iC 6), (iC 21)]), (.arr 3 1 3 [(iC 7), (iC 18), (iC 20)]), (.arr 3 1 2 [(iC 21), (iC 23)]), (.arr 3 1 2 [(iC 16), (iC 23)]), (.arr 3 1 3 [(iC 17), (iC 20), (iC 22)])]⟩
noncomputable def t59 : List Ent := e59 :: t58
noncomputable def e60 : Ent := ⟨191, [(.agg [(iC 0), (.sl false 3 [(iC 13), (iC 0), (iC 13), (iC 0), (iC 0), (iC 1)]), (.sl false 8 [(iC 6), (iC 2), (iC 7), (iC 2), (iC 11), (iC 9), (iC 7), (iC 4), (iC 15), (iC 9), (iC 5), (iC 3), (iC 19), (iC 6), (iC 21), (iC 16)]), (.sl false 1 [(iC 23)]), (.sl false 1 [(iC 1)])]), (.one (iC 1))],
  (.tup [(.agg [(iC 11), (.own (0, 0)), (.own (0, 2))]), (.one (iC 0))]),
  [(.arr 25 1 1 [(.own (0, 1))]), (.arr 3 1 12 [(iC 0), (iC 2), (iC 4), (iC 6), (iC 8), (iC 10), (iC 12), (iC 14), (iC 16), (iC 18), (iC 20), (iC 22)]), (.arr 25 1 24 [(.own (0, 3)), (.own (0, 4)), (.own (0, 5)), (.own (0, 6)), (.own (0, 7)), (.own (0, 8)), (.own (0, 9)), (.own (0, 10)), (.own (0, 11)), (.own (0, 12)), (.own (0, 13)), (.own (0, 14)), (.own (0, 15)), (.own (0, 16)), (.own (0, 17)), (.own (0, 18)), (.own (0, 19)), (.own (0, 20)), (.own (0, 21)), (.own (0, 22)), (.own (0, 23)), (.own (0, 24)), (.own (0, 25)), (.own (0, 26))]), (.arr 3 1 2 [(iC 6), (iC 9)]), (.arr 3 1 2 [(iC 2), (iC 9)]), (.arr 3 1 3 [(iC 3), (iC 7), (iC 8)]), (.arr 3 1 2 [(iC 7), (iC 11)]), (.arr 3 1 2 [(iC 2), (iC 11)]), (.arr 3 1 3 [(iC 3), (iC 6), (iC 10)]), (.arr 3 1 2 [(iC 11), (iC 13)]), (.arr 3 1 2 [(iC 9), (iC 13)]), (.arr 3 1 3 [(iC 8), (iC 10), (iC 12)]), (.arr 3 1 2 [(iC 7), (iC 15)]), (.arr 3 1 2 [(iC 4), (iC 15)]), (.arr 3 1 3 [(iC 5), (iC 6), (iC 14)]), (.arr 3 1 2 [(iC 15), (iC 17)]), (.arr 3 1 2 [(iC 9), (iC 17)]), (.arr 3 1 3 [(iC 8), (iC 14), (iC 16)]), (.arr 3 1 2 [(iC 5), (iC 19)]), (.arr 3 1 2 [(iC 3), (iC 19)]), (.arr 3 1 3 [(iC 2), (iC 4), (iC 18)]), (.arr 3 1 2 [(iC 19), (iC 21)]), (.arr 3 1 2 [(iC 6), (iC 21)]), (.arr 3 1 3 [(iC 7), (iC 18), (iC 20)]), (.arr 3 1 2 [(iC 21), (iC 23)]), (.arr 3 1 2 [(iC 16), (iC 23)]), (.arr 3 1 3 [(iC 17), (iC 20), (iC 22)])]⟩
noncomputable def t60 : List Ent := e60 :: t59
noncomputable def e61 : Ent := ⟨217, [(.agg [(iC 0), (.sl false 3 [(iC 13), (iC 0), (iC 13), (iC 0), (iC 0), (iC 1)]), (.sl false 8 [(iC 6), (iC 2), (iC 7), (iC 2), (iC 11), (iC 9), (iC 7), (iC 4), (iC 15), (iC 9), (iC 5), (iC 3), (iC 19), (iC 6), (iC 21), (iC 16)]), (.sl false 1 [(iC 23)]), (.sl false 1 [(iC 1)])]), (.agg [(.sl false 1 [(.sl false 0 [])])]), (.one (iC 1)), (.one (iC 100000))],
  (.tup [(.one (.loc (0, 0) 0)), (.one (iC 0))]),
  [(.box 353 [(iC 0), (.sl false 3 [(iC 13), (iC 0), (iC 13), (iC 0), (iC 0), (iC 1)]), (.sl false 8 [(iC 6), (iC 2), (iC 7), (iC 2), (iC 11), (iC 9), (iC 7), (iC 4), (iC 15), (iC 9), (iC 5), (iC 3), (iC 19), (iC 6), (iC 21), (iC 16)]), (.sl false 1 [(iC 23)]), (.sl false 1 [(iC 1)]), (iC 11), (.own (0, 1)), (.own (0, 3)), (.own (0, 2))]), (.arr 25 1 1 [(.own (0, 2))]), (.arr 3 1 12 [(iC 0), (iC 2), (iC 4), (iC 6), (iC 8), (iC 10), (iC 12), (iC 14), (iC 16), (iC 18), (iC 20), (iC 22)]), (.arr 25 1 24 [(.own (0, 4)), (.own (0, 5)), (.own (0, 6)), (.own (0, 7)), (.own (0, 8)), (.own (0, 9)), (.own (0, 10)), (.own (0, 11)), (.own (0, 12)), (.own (0, 13)), (.own (0, 14)), (.own (0, 15)), (.own (0, 16)), (.own (0, 17)), (.own (0, 18)), (.own (0, 19)), (.own (0, 20)), (.own (0, 21)), (.own (0, 22)), (.own (0, 23)), (.own (0, 24)), (.own (0, 25)), (.own (0, 26)), (.own (0, 27))]), (.arr 3 1 2 [(iC 6), (iC 9)]), (.arr 3 1 2 [(iC 2), (iC 9)]), (.arr 3 1 3 [(iC 3), (iC 7), (iC 8)]), (.arr 3 1 2 [(iC 7), (iC 11)]), (.arr 3 1 2 [(iC 2), (iC 11)]), (.arr 3 1 3 [(iC 3), (iC 6), (iC 10)]), (.arr 3 1 2 [(iC 11), (iC 13)]), (.arr 3 1 2 [(iC 9), (iC 13)]), (.arr 3 1 3 [(iC 8), (iC 10), (iC 12)]), (.arr 3 1 2 [(iC 7), (iC 15)]), (.arr 3 1 2 [(iC 4), (iC 15)]), (.arr 3 1 3 [(iC 5), (iC 6), (iC 14)]), (.arr 3 1 2 [(iC 15), (iC 17)]), (.arr 3 1 2 [(iC 9), (iC 17)]), (.arr 3 1 3 [(iC 8), (iC 14), (iC 16)]), (.arr 3 1 2 [(iC 5), (iC 19)]), (.arr 3 1 2 [(iC 3), (iC 19)]), (.arr 3 1 3 [(iC 2), (iC 4), (iC 18)]), (.arr 3 1 2 [(iC 19), (iC 21)]), (.arr 3 1 2 [(iC 6), (iC 21)]), (.arr 3 1 3 [(iC 7), (iC 18), (iC 20)]), (.arr 3 1 2 [(iC 21), (iC 23)]), (.arr 3 1 2 [(iC 16), (iC 23)]), (.arr 3 1 3 [(iC 17), (iC 20), (iC 22)])]⟩
noncomputable def t61 : List Ent := e61 :: t60
noncomputable def e62 : Ent := ⟨259, [(.one (.sl false 11 [(iC 1), (iC 2), (iC 3), (iC 4), (iC 5), (iC 6), (iC 7), (iC 8), (iC 9), (iC 10), (iC 11)])), (.agg [(iC 11), (.sl false 1 [(iC 23)]), (.sl false 0 [])])],
  (.tup [(.one (iC 1)), (.one (.cut (0, 0) 10)), (.one (iC 0))]),
  [(.arr 3 1 11 [(iC 2), (iC 4), (iC 3), (iC 8), (iC 5), (iC 6), (iC 7), (iC 11), (iC 9), (iC 10), (iC 11)])]⟩
noncomputable def t62 : List Ent := e62 :: t61
noncomputable def e63 : Ent := ⟨259, [(.one (.sl false 11 [(iC 1), (iC 2), (iC 3), (iC 4), (iC 5), (iC 6), (iC 7), (iC 8), (iC 9), (iC 10), (iC 11)])), (.agg [(iC 11), (.sl false 5 [(iC 23), (iC 3), (iC 9), (iC 11), (iC 12)]), (.sl false 1 [(iC 1)])])],
  (.tup [(.one (iC 2)), (.one (.cut (0, 0) 9)), (.one (iC 0))]),
  [(.arr 3 1 11 [(iC 3), (iC 4), (iC 6), (iC 8), (iC 5), (iC 10), (iC 7), (iC 11), (iC 9), (iC 10), (iC 11)])]⟩
noncomputable def t63 : List Ent := e63 :: t62
noncomputable def e64 : Ent := ⟨256, [(.one (iC 11)), (.one (.sl false 25 [(.sl false 2 [(iC 6), (iC 9)]), (.sl false 2 [(iC 2), (iC 9)]), (.sl false 3 [(iC 3), (iC 7), (iC 8)]), (.sl false 2 [(iC 7), (iC 11)]), (.sl false 2 [(iC 2), (iC 11)]), (.sl false 3 [(iC 3), (iC 6), (iC 10)]), (.sl false 2 [(iC 11), (iC 13)]), (.sl false 2 [(iC 9), (iC 13)]), (.sl false 3 [(iC 8), (iC 10), (iC 12)]), (.sl false 2 [(iC 7), (iC 15)]), (.sl false 2 [(iC 4), (iC 15)]), (.sl false 3 [(iC 5), (iC 6), (iC 14)]), (.sl false 2 [(iC 15), (iC 17)]), (.sl false 2 [(iC 9), (iC 17)]), (.sl false 3 [(iC 8), (iC 14), (iC 16)]), (.sl false 2 [(iC 5), (iC 19)]), (.sl false 2 [(iC 3), (iC 19)]), (.sl false 3 [(iC 2), (iC 4), (iC 18)]), (.sl false 2 [(iC 19), (iC 21)]), (.sl false 2 [(iC 6), (iC 21)]), (.sl false 3 [(iC 7), (iC 18), (iC 20)]), (.sl false 2 [(iC 21), (iC 23)]), (.sl false 2 [(iC 16), (iC 23)]), (.sl false 3 [(iC 17), (iC 20), (iC 22)]), (.sl false 1 [(iC 23)])])), (.one (.sl false 2 [(iC 3), (iC 5)]))],
  (.tup [(.one (.own (0, 0))), (.one (iC 0))]),
  [(.arr 3 1 2 [(iC 2), (iC 4)])]⟩
noncomputable def t64 : List Ent := e64 :: t63
noncomputable def e65 : Ent := ⟨258, [(.agg [(iC 11), (.sl false 10 [(iC 23), (iC 3), (iC 9), (iC 11), (iC 12), (iC 5), (iC 15), (iC 16), (iC 18), (iC 21)]), (.sl false 2 [(iC 1), (iC 5)])]), (.one (.sl false 2 [(iC 2), (iC 4)]))],
  (.tup [(.agg [(iC 11), (.own (0, 0)), (.own (0, 1))]), (.one (iC 0))]),
  [(.arr 3 1 6 [(iC 23), (iC 3), (iC 9), (iC 11), (iC 12), (iC 4)]), (.arr 3 1 1 [(iC 1)])]⟩
noncomputable def t65 : List Ent := e65 :: t64
noncomputable def e66 : Ent := ⟨259, [(.one (.sl false 11 [(iC 1), (iC 2), (iC 3), (iC 4), (iC 5), (iC 6), (iC 7), (iC 8), (iC 9), (iC 10), (iC 11)])), (.agg [(iC 11), (.sl false 7 [(iC 23), (iC 3), (iC 9), (iC 11), (iC 12), (iC 4), (iC 19)]), (.sl false 1 [(iC 1)])])],
  (.tup [(.one (iC 3)), (.one (.cut (0, 0) 8)), (.one (iC 0))]),
  [(.arr 3 1 11 [(iC 4), (iC 5), (iC 6), (iC 8), (iC 9), (iC 10), (iC 7), (iC 11), (iC 9), (iC 10), (iC 11)])]⟩
noncomputable def t66 : List Ent := e66 :: t65
noncomputable def e67 : Ent := ⟨259, [(.one (.sl false 11 [(iC 1), (iC 2), (iC 3), (iC 4), (iC 5), (iC 6), (iC 7), (iC 8), (iC 9), (iC 10), (iC 11)])), (.agg [(iC 11), (.sl false 11 [(iC 23), (iC 3), (iC 9), (iC 11), (iC 12), (iC 4), (iC 19), (iC 7), (iC 14), (iC 17), (iC 21)]), (.sl false 2 [(iC 1), (iC 7)])])],
  (.tup [(.one (iC 0)), (.one nC), (.one (iC 6))]),
  []⟩
noncomputable def t67 : List Ent := e67 :: t66
noncomputable def e68 : Ent := ⟨166, [(.one (iC 11)), (.one (.sl false 25 [(.sl false 2 [(iC 6), (iC 9)]), (.sl false 2 [(iC 2), (iC 9)]), (.sl false 3 [(iC 3), (iC 7), (iC 8)]), (.sl false 2 [(iC 7), (iC 11)]), (.sl false 2 [(iC 2), (iC 11)]), (.sl false 3 [(iC 3), (iC 6), (iC 10)]), (.sl false 2 [(iC 11), (iC 13)]), (.sl false 2 [(iC 9), (iC 13)]), (.sl false 3 [(iC 8), (iC 10), (iC 12)]), (.sl false 2 [(iC 7), (iC 15)]), (.sl false 2 [(iC 4), (iC 15)]), (.sl false 3 [(iC 5), (iC 6), (iC 14)]), (.sl false 2 [(iC 15), (iC 17)]), (.sl false 2 [(iC 9), (iC 17)]), (.sl false 3 [(iC 8), (iC 14), (iC 16)]), (.sl false 2 [(iC 5), (iC 19)]), (.sl false 2 [(iC 3), (iC 19)]), (.sl false 3 [(iC 2), (iC 4), (iC 18)]), (.sl false 2 [(iC 19), (iC 21)]), (.sl false 2 [(iC 6), (iC 21)]), (.sl false 3 [(iC 7), (iC 18), (iC 20)]), (.sl false 2 [(iC 21), (iC 23)]), (.sl false 2 [(iC 16), (iC 23)]), (.sl false 3 [(iC 17), (iC 20), (iC 22)]), (.sl false 1 [(iC 23)])])), (.one (iC 100000))],
  (.tup [(.agg [(bC true), (.own (0, 0)), nC, (.own (0, 1)), (iC 1)]), (.one (iC 0))]),
  [(.arr 4 1 11 [(bC false), (bC true), (bC false), (bC false), (bC false), (bC true), (bC true), (bC false), (bC false), (bC false), (bC false)]), (.arr 25 1 1 [(.own (0, 2))]), (.arr 3 1 2 [(iC 2), (iC 4)])]⟩
noncomputable def t68 : List Ent := e68 :: t67
noncomputable def e69 : Ent := ⟨215, [(.agg [(iC 11), (.sl false 1 [(.sl false 12 [(iC 0), (iC 2), (iC 4), (iC 6), (iC 8), (iC 10), (iC 12), (iC 14), (iC 16), (iC 18), (iC 20), (iC 22)])]), (.sl false 25 [(.sl false 2 [(iC 6), (iC 9)]), (.sl false 2 [(iC 2), (iC 9)]), (.sl false 3 [(iC 3), (iC 7), (iC 8)]), (.sl false 2 [(iC 7), (iC 11)]), (.sl false 2 [(iC 2), (iC 11)]), (.sl false 3 [(iC 3), (iC 6), (iC 10)]), (.sl false 2 [(iC 11), (iC 13)]), (.sl false 2 [(iC 9), (iC 13)]), (.sl false 3 [(iC 8), (iC 10), (iC 12)]), (.sl false 2 [(iC 7), (iC 15)]), (.sl false 2 [(iC 4), (iC 15)]), (.sl false 3 [(iC 5), (iC 6), (iC 14)]), (.sl false 2 [(iC 15), (iC 17)]), (.sl false 2 [(iC 9), (iC 17)]), (.sl false 3 [(iC 8), (iC 14), (iC 16)]), (.sl false 2 [(iC 5), (iC 19)]), (.sl false 2 [(iC 3), (iC 19)]), (.sl false 3 [(iC 2), (iC 4), (iC 18)]), (.sl false 2 [(iC 19), (iC 21)]), (.sl false 2 [(iC 6), (iC 21)]), (.sl false 3 [(iC 7), (iC 18), (iC 20)]), (.sl false 2 [(iC 21), (iC 23)]), (.sl false 2 [(iC 16), (iC 23)]), (.sl false 3 [(iC 17), (iC 20), (iC 22)]), (.sl false 1 [(iC 23)])])])],
  (.one (iC 0)),
  []⟩
noncomputable def t69 : List Ent := e69 :: t68
noncomputable def e70 : Ent := ⟨167, [(.agg [(iC 0), (.sl false 3 [(iC 13), (iC 0), (iC 13), (iC 0), (iC 0), (iC 1)]), (.sl false 8 [(iC 6), (iC 2), (iC 7), (iC 2), (iC 11), (iC 9), (iC 7), (iC 4), (iC 15), (iC 9), (iC 5), (iC 3), (iC 19), (iC 6), (iC 21), (iC 16)]), (.sl false 1 [(iC 23)]), (.sl false 1 [(iC 1)])]), (.agg [(iC 11), (.sl false 1 [(.sl false 12 [(iC 0), (iC 2), (iC 4), (iC 6), (iC 8), (iC 10), (iC 12), (iC 14), (iC 16), (iC 18), (iC 20), (iC 22)])]), (.sl false 25 [(.sl false 2 [(iC 6), (iC 9)]), (.sl false 2 [(iC 2), (iC 9)]), (.sl false 3 [(iC 3), (iC 7), (iC 8)]), (.sl false 2 [(iC 7), (iC 11)]), (.sl false 2 [(iC 2), (iC 11)]), (.sl false 3 [(iC 3), (iC 6), (iC 10)]), (.sl false 2 [(iC 11), (iC 13)]), (.sl false 2 [(iC 9), (iC 13)]), (.sl false 3 [(iC 8), (iC 10), (iC 12)]), (.sl false 2 [(iC 7), (iC 15)]), (.sl false 2 [(iC 4), (iC 15)]), (.sl false 3 [(iC 5), (iC 6), (iC 14)]), (.sl false 2 [(iC 15), (iC 17)]), (.sl false 2 [(iC 9), (iC 17)]), (.sl false 3 [(iC 8), (iC 14), (iC 16)]), (.sl false 2 [(iC 5), (iC 19)]), (.sl false 2 [(iC 3), (iC 19)]), (.sl false 3 [(iC 2), (iC 4), (iC 18)]), (.sl false 2 [(iC 19), (iC 21)]), (.sl false 2 [(iC 6), (iC 21)]), (.sl false 3 [(iC 7), (iC 18), (iC 20)]), (.sl false 2 [(iC 21), (iC 23)]), (.sl false 2 [(iC 16), (iC 23)]), (.sl false 3 [(iC 17), (iC 20), (iC 22)]), (.sl false 1 [(iC 23)])])]), (.one (.sl false 11 [(bC false), (bC true), (bC false), (bC false), (bC false), (bC true), (bC true), (bC false), (bC false), (bC false), (bC false)]))],
  (.tup [(.agg [(.own (0, 0)), (.own (0, 1))]), (.one (iC 0))]),
  [(.arr 4 1 3 [(bC false), (bC true), (bC false)]), (.arr 32 1 1 [nC])]⟩
noncomputable def t70 : List Ent := e70 :: t69
noncomputable def e71 : Ent := ⟨168, [(.agg [(iC 0), (.sl false 3 [(iC 13), (iC 0), (iC 13), (iC 0), (iC 0), (iC 1)]), (.sl false 8 [(iC 6), (iC 2), (iC 7), (iC 2), (iC 11), (iC 9), (iC 7), (iC 4), (iC 15), (iC 9), (iC 5), (iC 3), (iC 19), (iC 6), (iC 21), (iC 16)]), (.sl false 1 [(iC 23)]), (.sl false 1 [(iC 1)])]), (.agg [(.sl false 1 [(.sl false 0 [])])]), (.one (iC 1)), (.one (iC 100000))],
  (.tup [(.agg [(bC true), (.own (0, 0)), nC, (iC 1)]), (.one (iC 0))]),
  [(.arr 4 1 3 [(bC false), (bC true), (bC false)])]⟩
noncomputable def t71 : List Ent := e71 :: t70
noncomputable def e72 : Ent := ⟨222, [(.agg [(iC 0), (.sl false 3 [(iC 13), (iC 0), (iC 13), (iC 0), (iC 0), (iC 1)]), (.sl false 8 [(iC 6), (iC 2), (iC 7), (iC 2), (iC 11), (iC 9), (iC 7), (iC 4), (iC 15), (iC 9), (iC 5), (iC 3), (iC 19), (iC 6), (iC 21), (iC 16)]), (.sl false 1 [(iC 23)]), (.sl false 1 [(iC 1)])]), (.one (.sl false 3 [(bC false), (bC true), (bC false)])), (.one (.sl false 0 []))],
  (.tup [(.one (.own (0, 0))), (.one (iC 0))]),
  [(.arr 3 1 2 [(iC 4), (iC 7)])]⟩
noncomputable def t72 : List Ent := e72 :: t71
noncomputable def e73 : Ent := ⟨217, [(.agg [(iC 0), (.sl false 3 [(iC 13), (iC 0), (iC 13), (iC 0), (iC 0), (iC 1)]), (.sl false 8 [(iC 6), (iC 2), (iC 7), (iC 2), (iC 11), (iC 9), (iC 7), (iC 4), (iC 15), (iC 9), (iC 5), (iC 3), (iC 19), (iC 6), (iC 21), (iC 16)]), (.sl false 1 [(iC 23)]), (.sl false 1 [(iC 1)])]), (.agg [(.sl false 1 [(.sl false 0 [])])]), (.one (iC 0)), (.one (iC 100000))],
  (.tup [(.one (.loc (0, 0) 0)), (.one (iC 0))]),
  [(.box 353 [(iC 0), (.sl false 3 [(iC 13), (iC 0), (iC 13), (iC 0), (iC 0), (iC 1)]), (.sl false 8 [(iC 6), (iC 2), (iC 7), (iC 2), (iC 11), (iC 9), (iC 7), (iC 4), (iC 15), (iC 9), (iC 5), (iC 3), (iC 19), (iC 6), (iC 21), (iC 16)]), (.sl false 1 [(iC 23)]), (.sl false 1 [(iC 1)]), (iC 11), (.own (0, 1)), (.own (0, 3)), (.own (0, 2))]), (.arr 25 1 1 [(.own (0, 2))]), (.arr 3 1 12 [(iC 0), (iC 2), (iC 4), (iC 6), (iC 8), (iC 10), (iC 12), (iC 14), (iC 16), (iC 18), (iC 20), (iC 22)]), (.arr 25 1 27 [(.own (0, 4)), (.own (0, 5)), (.own (0, 6)), (.own (0, 7)), (.own (0, 8)), (.own (0, 9)), (.own (0, 10)), (.own (0, 11)), (.own (0, 12)), (.own (0, 13)), (.own (0, 14)), (.own (0, 15)), (.own (0, 16)), (.own (0, 17)), (.own (0, 18)), (.own (0, 19)), (.own (0, 20)), (.own (0, 21)), (.own (0, 22)), (.own (0, 23)), (.own (0, 24)), (.own (0, 25)), (.own (0, 26)), (.own (0, 27)), (.own (0, 28)), (.own (0, 29)), (.own (0, 30))]), (.arr 3 1 2 [(iC 6), (iC 9)]), (.arr 3 1 2 [(iC 2), (iC 9)]), (.arr 3 1 3 [(iC 3), (iC 7), (iC 8)]), (.arr 3 1 2 [(iC 7), (iC 11)]), (.arr 3 1 2 [(iC 2), (iC 11)]), (.arr 3 1 3 [(iC 3), (iC 6), (iC 10)]), (.arr 3 1 2 [(iC 11), (iC 13)]), (.arr 3 1 2 [(iC 9), (iC 13)]), (.arr 3 1 3 [(iC 8), (iC 10), (iC 12)]), (.arr 3 1 2 [(iC 7), (iC 15)]), (.arr 3 1 2 [(iC 4), (iC 15)]), (.arr 3 1 3 [(iC 5), (iC 6), (iC 14)]), (.arr 3 1 2 [(iC 15), (iC 17)]), (.arr 3 1 2 [(iC 9), (iC 17)]), (.arr 3 1 3 [(iC 8), (iC 14), (iC 16)]), (.arr 3 1 2 [(iC 5), (iC 19)]), (.arr 3 1 2 [(iC 3), (iC 19)]), (.arr 3 1 3 [(iC 2), (iC 4), (iC 18)]), (.arr 3 1 2 [(iC 19), (iC 21)]), (.arr 3 1 2 [(iC 6), (iC 21)]), (.arr 3 1 3 [(iC 7), (iC 18), (iC 20)]), (.arr 3 1 2 [(iC 21), (iC 23)]), (.arr 3 1 2 [(iC 16), (iC 23)]), (.arr 3 1 3 [(iC 17), (iC 20), (iC 22)]), (.arr 3 1 1 [(iC 3)]), (.arr 3 1 1 [(iC 5)]), (.arr 3 1 1 [(iC 6)])]⟩
noncomputable def t73 : List Ent := e73 :: t72
noncomputable def e74 : Ent := ⟨166, [(.one (iC 11)), (.one (.sl false 29 [(.sl false 2 [(iC 6), (iC 9)]), (.sl false 2 [(iC 2), (iC 9)]), (.sl false 3 [(iC 3), (iC 7), (iC 8)]), (.sl false 2 [(iC 7), (iC 11)]), (.sl false 2 [(iC 2), (iC 11)]), (.sl false 3 [(iC 3), (iC 6), (iC 10)]), (.sl false 2 [(iC 11), (iC 13)]), (.sl false 2 [(iC 9), (iC 13)]), (.sl false 3 [(iC 8), (iC 10), (iC 12)]), (.sl false 2 [(iC 7), (iC 15)]), (.sl false 2 [(iC 4), (iC 15)]), (.sl false 3 [(iC 5), (iC 6), (iC 14)]), (.sl false 2 [(iC 15), (iC 17)]), (.sl false 2 [(iC 9), (iC 17)]), (.sl false 3 [(iC 8), (iC 14), (iC 16)]), (.sl false 2 [(iC 5), (iC 19)]), (.sl false 2 [(iC 3), (iC 19)]), (.sl false 3 [(iC 2), (iC 4), (iC 18)]), (.sl false 2 [(iC 19), (iC 21)]), (.sl false 2 [(iC 6), (iC 21)]), (.sl false 3 [(iC 7), (iC 18), (iC 20)]), (.sl false 2 [(iC 21), (iC 23)]), (.sl false 2 [(iC 16), (iC 23)]), (.sl false 3 [(iC 17), (iC 20), (iC 22)]), (.sl false 1 [(iC 3)]), (.sl false 1 [(iC 5)]), (.sl false 1 [(iC 6)]), (.sl false 2 [(iC 5), (iC 6)]), (.sl false 1 [(iC 13)])])), (.one (iC 100000))],
  (.tup [(.agg [(bC false), nC, nC, (.own (0, 0)), (iC 0)]), (.one (iC 0))]),
  [(.arr 25 1 1 [(.own (0, 1))]), (.arr 3 1 0 [])]⟩
noncomputable def t74 : List Ent := e74 :: t73
noncomputable def e75 : Ent := ⟨175, [(.agg [(iC 0), (.sl false 3 [(iC 13), (iC 0), (iC 13), (iC 0), (iC 0), (iC 1)]), (.sl false 8 [(iC 6), (iC 2), (iC 7), (iC 2), (iC 11), (iC 9), (iC 7), (iC 4), (iC 15), (iC 9), (iC 5), (iC 3), (iC 19), (iC 6), (iC 21), (iC 16)]), (.sl false 1 [(iC 23)]), (.sl false 1 [(iC 1)])]), (.agg [(.sl false 1 [(.sl false 0 [])])]), (.one (iC 0)), (.one (.sl false 2 [(iC 4), (iC 7)])), (.one (bC true)), (.one (iC 100000))],
  (.tup [(.agg [(bC false), nC, nC, (iC 0)]), (.one (iC 0))]),
  []⟩
noncomputable def t75 : List Ent := e75 :: t74
noncomputable def e76 : Ent := ⟨310, [(.agg [(iC 0), (.sl false 3 [(iC 13), (iC 0), (iC 13), (iC 0), (iC 0), (iC 1)]), (.sl false 8 [(iC 6), (iC 2), (iC 7), (iC 2), (iC 11), (iC 9), (iC 7), (iC 4), (iC 15), (iC 9), (iC 5), (iC 3), (iC 19), (iC 6), (iC 21), (iC 16)]), (.sl false 1 [(iC 23)]), (.sl false 1 [(iC 1)])]), (.agg [(.sl false 1 [(.sl false 0 [])])]), (.one (iC 1)), (.one (.sl false 2 [(iC 4), (iC 7)])), (.one (iC 100000))],
  (.tup [(.one (bC true)), (.one (iC 0)), (.one (iC 0))]),
  []⟩
noncomputable def t76 : List Ent := e76 :: t75
noncomputable def e77 : Ent := ⟨259, [(.one (.sl false 11 [(iC 1), (iC 2), (iC 3), (iC 4), (iC 5), (iC 6), (iC 7), (iC 8), (iC 9), (iC 10), (iC 11)])), (.agg [(iC 11), (.sl false 11 [(iC 3), (iC 9), (iC 11), (iC 12), (iC 5), (iC 15), (iC 16), (iC 18), (iC 21), (iC 22), (iC 6)]), (.sl false 0 [])])],
  (.tup [(.one (iC 0)), (.one nC), (.one (iC 6))]),
  []⟩
noncomputable def t77 : List Ent := e77 :: t76
noncomputable def e78 : Ent := ⟨166, [(.one (iC 11)), (.one (.sl false 28 [(.sl false 2 [(iC 6), (iC 9)]), (.sl false 2 [(iC 2), (iC 9)]), (.sl false 3 [(iC 3), (iC 7), (iC 8)]), (.sl false 2 [(iC 7), (iC 11)]), (.sl false 2 [(iC 2), (iC 11)]), (.sl false 3 [(iC 3), (iC 6), (iC 10)]), (.sl false 2 [(iC 11), (iC 13)]), (.sl false 2 [(iC 9), (iC 13)]), (.sl false 3 [(iC 8), (iC 10), (iC 12)]), (.sl false 2 [(iC 7), (iC 15)]), (.sl false 2 [(iC 4), (iC 15)]), (.sl false 3 [(iC 5), (iC 6), (iC 14)]), (.sl false 2 [(iC 15), (iC 17)]), (.sl false 2 [(iC 9), (iC 17)]), (.sl false 3 [(iC 8), (iC 14), (iC 16)]), (.sl false 2 [(iC 5), (iC 19)]), (.sl false 2 [(iC 3), (iC 19)]), (.sl false 3 [(iC 2), (iC 4), (iC 18)]), (.sl false 2 [(iC 19), (iC 21)]), (.sl false 2 [(iC 6), (iC 21)]), (.sl false 3 [(iC 7), (iC 18), (iC 20)]), (.sl false 2 [(iC 21), (iC 23)]), (.sl false 2 [(iC 16), (iC 23)]), (.sl false 3 [(iC 17), (iC 20), (iC 22)]), (.sl false 1 [(iC 3)]), (.sl false 1 [(iC 5)]), (.sl false 1 [(iC 6)]), (.sl false 1 [(iC 6)])])), (.one (iC 100000))],
  (.tup [(.agg [(bC true), (.own (0, 0)), nC, nC, (iC 0)]), (.one (iC 0))]),
  [(.arr 4 1 11 [(bC false), (bC false), (bC true), (bC false), (bC false), (bC true), (bC false), (bC true), (bC true), (bC false), (bC true)])]⟩
noncomputable def t78 : List Ent := e78 :: t77
noncomputable def e79 : Ent := ⟨215, [(.agg [(iC 11), (.sl false 1 [(.sl false 12 [(iC 0), (iC 2), (iC 4), (iC 6), (iC 8), (iC 10), (iC 12), (iC 14), (iC 16), (iC 18), (iC 20), (iC 22)])]), (.sl false 28 [(.sl false 2 [(iC 6), (iC 9)]), (.sl false 2 [(iC 2), (iC 9)]), (.sl false 3 [(iC 3), (iC 7), (iC 8)]), (.sl false 2 [(iC 7), (iC 11)]), (.sl false 2 [(iC 2), (iC 11)]), (.sl false 3 [(iC 3), (iC 6), (iC 10)]), (.sl false 2 [(iC 11), (iC 13)]), (.sl false 2 [(iC 9), (iC 13)]), (.sl false 3 [(iC 8), (iC 10), (iC 12)]), (.sl false 2 [(iC 7), (iC 15)]), (.sl false 2 [(iC 4), (iC 15)]), (.sl false 3 [(iC 5), (iC 6), (iC 14)]), (.sl false 2 [(iC 15), (iC 17)]), (.sl false 2 [(iC 9), (iC 17)]), (.sl false 3 [(iC 8), (iC 14), (iC 16)]), (.sl false 2 [(iC 5), (iC 19)]), (.sl false 2 [(iC 3), (iC 19)]), (.sl false 3 [(iC 2), (iC 4), (iC 18)]), (.sl false 2 [(iC 19), (iC 21)]), (.sl false 2 [(iC 6), (iC 21)]), (.sl false 3 [(iC 7), (iC 18), (iC 20)]), (.sl false 2 [(iC 21), (iC 23)]), (.sl false 2 [(iC 16), (iC 23)]), (.sl false 3 [(iC 17), (iC 20), (iC 22)]), (.sl false 1 [(iC 3)]), (.sl false 1 [(iC 5)]), (.sl false 1 [(iC 6)]), (.sl false 1 [(iC 6)])])])],
  (.one (iC 0)),
  []⟩
noncomputable def t79 : List Ent := e79 :: t78
noncomputable def e80 : Ent := ⟨167, [(.agg [(iC 0), (.sl false 3 [(iC 13), (iC 0), (iC 13), (iC 0), (iC 0), (iC 1)]), (.sl false 8 [(iC 6), (iC 2), (iC 7), (iC 2), (iC 11), (iC 9), (iC 7), (iC 4), (iC 15), (iC 9), (iC 5), (iC 3), (iC 19), (iC 6), (iC 21), (iC 16)]), (.sl false 1 [(iC 23)]), (.sl false 1 [(iC 1)])]), (.agg [(iC 11), (.sl false 1 [(.sl false 12 [(iC 0), (iC 2), (iC 4), (iC 6), (iC 8), (iC 10), (iC 12), (iC 14), (iC 16), (iC 18), (iC 20), (iC 22)])]), (.sl false 28 [(.sl false 2 [(iC 6), (iC 9)]), (.sl false 2 [(iC 2), (iC 9)]), (.sl false 3 [(iC 3), (iC 7), (iC 8)]), (.sl false 2 [(iC 7), (iC 11)]), (.sl false 2 [(iC 2), (iC 11)]), (.sl false 3 [(iC 3), (iC 6), (iC 10)]), (.sl false 2 [(iC 11), (iC 13)]), (.sl false 2 [(iC 9), (iC 13)]), (.sl false 3 [(iC 8), (iC 10), (iC 12)]), (.sl false 2 [(iC 7), (iC 15)]), (.sl false 2 [(iC 4), (iC 15)]), (.sl false 3 [(iC 5), (iC 6), (iC 14)]), (.sl false 2 [(iC 15), (iC 17)]), (.sl false 2 [(iC 9), (iC 17)]), (.sl false 3 [(iC 8), (iC 14), (iC 16)]), (.sl false 2 [(iC 5), (iC 19)]), (.sl false 2 [(iC 3), (iC 19)]), (.sl false 3 [(iC 2), (iC 4), (iC 18)]), (.sl false 2 [(iC 19), (iC 21)]), (.sl false 2 [(iC 6), (iC 21)]), (.sl false 3 [(iC 7), (iC 18), (iC 20)]), (.sl false 2 [(iC 21), (iC 23)]), (.sl false 2 [(iC 16), (iC 23)]), (.sl false 3 [(iC 17), (iC 20), (iC 22)]), (.sl false 1 [(iC 3)]), (.sl false 1 [(iC 5)]), (.sl false 1 [(iC 6)]), (.sl false 1 [(iC 6)])])]), (.one (.sl false 11 [(bC false), (bC false), (bC true), (bC false), (bC false), (bC true), (bC false), (bC true), (bC true), (bC false), (bC true)]))],
  (.tup [(.agg [(.own (0, 0)), (.own (0, 1))]), (.one (iC 0))]),
  [(.arr 4 1 3 [(bC false), (bC false), (bC true)]), (.arr 32 1 1 [nC])]⟩
noncomputable def t80 : List Ent := e80 :: t79
noncomputable def e81 : Ent := ⟨175, [(.agg [(iC 0), (.sl false 3 [(iC 13), (iC 0), (iC 13), (iC 0), (iC 0), (iC 1)]), (.sl false 8 [(iC 6), (iC 2), (iC 7), (iC 2), (iC 11), (iC 9), (iC 7), (iC 4), (iC 15), (iC 9), (iC 5), (iC 3), (iC 19), (iC 6), (iC 21), (iC 16)]), (.sl false 1 [(iC 23)]), (.sl false 1 [(iC 1)])]), (.agg [(.sl false 1 [(.sl false 0 [])])]), (.one (iC 0)), (.one (.sl false 1 [(iC 7)])), (.one (bC true)), (.one (iC 100000))],
  (.tup [(.agg [(bC true), (.own (0, 0)), nC, (iC 0)]), (.one (iC 0))]),
  [(.arr 4 1 3 [(bC false), (bC false), (bC true)])]⟩
noncomputable def t81 : List Ent := e81 :: t80
noncomputable def e82 : Ent := ⟨310, [(.agg [(iC 0), (.sl false 3 [(iC 13), (iC 0), (iC 13), (iC 0), (iC 0), (iC 1)]), (.sl false 8 [(iC 6), (iC 2), (iC 7), (iC 2), (iC 11), (iC 9), (iC 7), (iC 4), (iC 15), (iC 9), (iC 5), (iC 3), (iC 19), (iC 6), (iC 21), (iC 16)]), (.sl false 1 [(iC 23)]), (.sl false 1 [(iC 1)])]), (.agg [(.sl false 1 [(.sl false 0 [])])]), (.one (iC 1)), (.one (.sl false 1 [(iC 7)])), (.one (iC 100000))],
  (.tup [(.one (bC false)), (.one (iC 0)), (.one (iC 0))]),
  []⟩
noncomputable def t82 : List Ent := e82 :: t81
noncomputable def e83 : Ent := ⟨166, [(.one (iC 11)), (.one (.sl false 29 [(.sl false 2 [(iC 6), (iC 9)]), (.sl false 2 [(iC 2), (iC 9)]), (.sl false 3 [(iC 3), (iC 7), (iC 8)]), (.sl false 2 [(iC 7), (iC 11)]), (.sl false 2 [(iC 2), (iC 11)]), (.sl false 3 [(iC 3), (iC 6), (iC 10)]), (.sl false 2 [(iC 11), (iC 13)]), (.sl false 2 [(iC 9), (iC 13)]), (.sl false 3 [(iC 8), (iC 10), (iC 12)]), (.sl false 2 [(iC 7), (iC 15)]), (.sl false 2 [(iC 4), (iC 15)]), (.sl false 3 [(iC 5), (iC 6), (iC 14)]), (.sl false 2 [(iC 15), (iC 17)]), (.sl false 2 [(iC 9), (iC 17)]), (.sl false 3 [(iC 8), (iC 14), (iC 16)]), (.sl false 2 [(iC 5), (iC 19)]), (.sl false 2 [(iC 3), (iC 19)]), (.sl false 3 [(iC 2), (iC 4), (iC 18)]), (.sl false 2 [(iC 19), (iC 21)]), (.sl false 2 [(iC 6), (iC 21)]), (.sl false 3 [(iC 7), (iC 18), (iC 20)]), (.sl false 2 [(iC 21), (iC 23)]), (.sl false 2 [(iC 16), (iC 23)]), (.sl false 3 [(iC 17), (iC 20), (iC 22)]), (.sl false 1 [(iC 3)]), (.sl false 1 [(iC 5)]), (.sl false 1 [(iC 6)]), (.sl false 1 [(iC 5)]), (.sl false 1 [(iC 13)])])), (.one (iC 100000))],
  (.tup [(.agg [(bC false), nC, nC, (.own (0, 0)), (iC 0)]), (.one (iC 0))]),
  [(.arr 25 1 1 [(.own (0, 1))]), (.arr 3 1 0 [])]⟩
noncomputable def t83 : List Ent := e83 :: t82
noncomputable def e84 : Ent := ⟨175, [(.agg [(iC 0), (.sl false 3 [(iC 13), (iC 0), (iC 13), (iC 0), (iC 0), (iC 1)]), (.sl false 8 [(iC 6), (iC 2), (iC 7), (iC 2), (iC 11), (iC 9), (iC 7), (iC 4), (iC 15), (iC 9), (iC 5), (iC 3), (iC 19), (iC 6), (iC 21), (iC 16)]), (.sl false 1 [(iC 23)]), (.sl false 1 [(iC 1)])]), (.agg [(.sl false 1 [(.sl false 0 [])])]), (.one (iC 0)), (.one (.sl false 1 [(iC 4)])), (.one (bC true)), (.one (iC 100000))],
  (.tup [(.agg [(bC false), nC, nC, (iC 0)]), (.one (iC 0))]),
  []⟩
noncomputable def t84 : List Ent := e84 :: t83
noncomputable def e85 : Ent := ⟨310, [(.agg [(iC 0), (.sl false 3 [(iC 13), (iC 0), (iC 13), (iC 0), (iC 0), (iC 1)]), (.sl false 8 [(iC 6), (iC 2), (iC 7), (iC 2), (iC 11), (iC 9), (iC 7), (iC 4), (iC 15), (iC 9), (iC 5), (iC 3), (iC 19), (iC 6), (iC 21), (iC 16)]), (.sl false 1 [(iC 23)]), (.sl false 1 [(iC 1)])]), (.agg [(.sl false 1 [(.sl false 0 [])])]), (.one (iC 1)), (.one (.sl false 1 [(iC 4)])), (.one (iC 100000))],
  (.tup [(.one (bC true)), (.one (iC 0)), (.one (iC 0))]),
  []⟩
noncomputable def t85 : List Ent := e85 :: t84
noncomputable def e86 : Ent := ⟨270, [(.agg [(iC 0), (.sl false 3 [(iC 13), (iC 0), (iC 13), (iC 0), (iC 0), (iC 1)]), (.sl false 8 [(iC 6), (iC 2), (iC 7), (iC 2), (iC 11), (iC 9), (iC 7), (iC 4), (iC 15), (iC 9), (iC 5), (iC 3), (iC 19), (iC 6), (iC 21), (iC 16)]), (.sl false 1 [(iC 23)]), (.sl false 1 [(iC 1)])]), (.agg [(.sl false 1 [(.sl false 0 [])])]), (.one (iC 1)), (.one (.sl false 2 [(iC 4), (iC 7)])), (.one (iC 100000))],
  (.tup [(.agg [(.cut (0, 0) 1), (iC 0)]), (.one (iC 0))]),
  [(.arr 3 1 2 [(iC 4), (iC 0)])]⟩
noncomputable def t86 : List Ent := e86 :: t85
noncomputable def e87 : Ent := ⟨177, [(.one (iC 3)), (.agg [(.sl false 1 [(.sl false 0 [])])]), (.one (iC 1)), (.one (.sl false 1 [(iC 5)]))],
  (.tup [(.agg [(.own (0, 0))]), (.one (iC 0))]),
  [(.arr 54 1 1 [(.own (0, 1))]), (.arr 25 1 1 [(.own (0, 2))]), (.arr 3 1 1 [(iC 5)])]⟩
noncomputable def t87 : List Ent := e87 :: t86
noncomputable def e88 : Ent := ⟨178, [(.one (iC 3)), (.agg [(.sl false 1 [(.sl false 1 [(.sl false 1 [(iC 5)])])])])],
  (.one (iC 0)),
  []⟩
noncomputable def t88 : List Ent := e88 :: t87
noncomputable def e89 : Ent := ⟨217, [(.agg [(iC 0), (.sl false 3 [(iC 13), (iC 0), (iC 13), (iC 0), (iC 0), (iC 1)]), (.sl false 8 [(iC 6), (iC 2), (iC 7), (iC 2), (iC 11), (iC 9), (iC 7), (iC 4), (iC 15), (iC 9), (iC 5), (iC 3), (iC 19), (iC 6), (iC 21), (iC 16)]), (.sl false 1 [(iC 23)]), (.sl false 1 [(iC 1)])]), (.agg [(.sl false 1 [(.sl false 1 [(.sl false 1 [(iC 5)])])])]), (.one (iC 1)), (.one (iC 100000))],
  (.tup [(.one (.loc (0, 0) 0)), (.one (iC 0))]),
  [(.box 353 [(iC 0), (.sl false 3 [(iC 13), (iC 0), (iC 13), (iC 0), (iC 0), (iC 1)]), (.sl false 8 [(iC 6), (iC 2), (iC 7), (iC 2), (iC 11), (iC 9), (iC 7), (iC 4), (iC 15), (iC 9), (iC 5), (iC 3), (iC 19), (iC 6), (iC 21), (iC 16)]), (.sl false 1 [(iC 23)]), (.sl false 1 [(iC 1)]), (iC 11), (.own (0, 1)), (.own (0, 3)), (.own (0, 2))]), (.arr 25 1 1 [(.own (0, 2))]), (.arr 3 1 12 [(iC 0), (iC 2), (iC 4), (iC 6), (iC 8), (iC 10), (iC 12), (iC 14), (iC 16), (iC 18), (iC 20), (iC 22)]), (.arr 25 1 25 [(.own (0, 4)), (.own (0, 5)), (.own (0, 6)), (.own (0, 7)), (.own (0, 8)), (.own (0, 9)), (.own (0, 10)), (.own (0, 11)), (.own (0, 12)), (.own (0, 13)), (.own (0, 14)), (.own (0, 15)), (.own (0, 16)), (.own (0, 17)), (.own (0, 18)), (.own (0, 19)), (.own (0, 20)), (.own (0, 21)), (.own (0, 22)), (.own (0, 23)), (.own (0, 24)), (.own (0, 25)), (.own (0, 26)), (.own (0, 27)), (.own (0, 28))]), (.arr 3 1 2 [(iC 6), (iC 9)]), (.arr 3 1 2 [(iC 2), (iC 9)]), (.arr 3 1 3 [(iC 3), (iC 7), (iC 8)]), (.arr 3 1 2 [(iC 7), (iC 11)]), (.arr 3 1 2 [(iC 2), (iC 11)]), (.arr 3 1 3 [(iC 3), (iC 6), (iC 10)]), (.arr 3 1 2 [(iC 11), (iC 13)]), (.arr 3 1 2 [(iC 9), (iC 13)]), (.arr 3 1 3 [(iC 8), (iC 10), (iC 12)]), (.arr 3 1 2 [(iC 7), (iC 15)]), (.arr 3 1 2 [(iC 4), (iC 15)]), (.arr 3 1 3 [(iC 5), (iC 6), (iC 14)]), (.arr 3 1 2 [(iC 15), (iC 17)]), (.arr 3 1 2 [(iC 9), (iC 17)]), (.arr 3 1 3 [(iC 8), (iC 14), (iC 16)]), (.arr 3 1 2 [(iC 5), (iC 19)]), (.arr 3 1 2 [(iC 3), (iC 19)]), (.arr 3 1 3 [(iC 2), (iC 4), (iC 18)]), (.arr 3 1 2 [(iC 19), (iC 21)]), (.arr 3 1 2 [(iC 6), (iC 21)]), (.arr 3 1 3 [(iC 7), (iC 18), (iC 20)]), (.arr 3 1 2 [(iC 21), (iC 23)]), (.arr 3 1 2 [(iC 16), (iC 23)]), (.arr 3 1 3 [(iC 17), (iC 20), (iC 22)]), (.arr 3 1 1 [(iC 5)])]⟩
noncomputable def t89 : List Ent := e89 :: t88
noncomputable def e90 : Ent := ⟨259, [(.one (.sl false 11 [(iC 1), (iC 2), (iC 3), (iC 4), (iC 5), (iC 6), (iC 7), (iC 8), (iC 9), (iC 10), (iC 11)])), (.agg [(iC 11), (.sl false 3 [(iC 5), (iC 15), (iC 23)]), (.sl false 0 [])])],
  (.tup [(.one (iC 1)), (.one (.cut (0, 0) 10)), (.one (iC 0))]),
  [(.arr 3 1 11 [(iC 2), (iC 4), (iC 3), (iC 8), (iC 5), (iC 6), (iC 7), (iC 11), (iC 9), (iC 10), (iC 11)])]⟩
noncomputable def t90 : List Ent := e90 :: t89
noncomputable def e91 : Ent := ⟨256, [(.one (iC 11)), (.one (.sl false 26 [(.sl false 2 [(iC 6), (iC 9)]), (.sl false 2 [(iC 2), (iC 9)]), (.sl false 3 [(iC 3), (iC 7), (iC 8)]), (.sl false 2 [(iC 7), (iC 11)]), (.sl false 2 [(iC 2), (iC 11)]), (.sl false 3 [(iC 3), (iC 6), (iC 10)]), (.sl false 2 [(iC 11), (iC 13)]), (.sl false 2 [(iC 9), (iC 13)]), (.sl false 3 [(iC 8), (iC 10), (iC 12)]), (.sl false 2 [(iC 7), (iC 15)]), (.sl false 2 [(iC 4), (iC 15)]), (.sl false 3 [(iC 5), (iC 6), (iC 14)]), (.sl false 2 [(iC 15), (iC 17)]), (.sl false 2 [(iC 9), (iC 17)]), (.sl false 3 [(iC 8), (iC 14), (iC 16)]), (.sl false 2 [(iC 5), (iC 19)]), (.sl false 2 [(iC 3), (iC 19)]), (.sl false 3 [(iC 2), (iC 4), (iC 18)]), (.sl false 2 [(iC 19), (iC 21)]), (.sl false 2 [(iC 6), (iC 21)]), (.sl false 3 [(iC 7), (iC 18), (iC 20)]), (.sl false 2 [(iC 21), (iC 23)]), (.sl false 2 [(iC 16), (iC 23)]), (.sl false 3 [(iC 17), (iC 20), (iC 22)]), (.sl false 1 [(iC 5)]), (.sl false 1 [(iC 23)])])), (.one (.sl false 1 [(iC 3)]))],
  (.tup [(.one (.own (0, 0))), (.one (iC 0))]),
  [(.arr 3 1 1 [(iC 2)])]⟩
noncomputable def t91 : List Ent := e91 :: t90
noncomputable def e92 : Ent := ⟨258, [(.agg [(iC 11), (.sl false 10 [(iC 5), (iC 15), (iC 23), (iC 3), (iC 9), (iC 11), (iC 12), (iC 16), (iC 18), (iC 21)]), (.sl false 1 [(iC 3)])]), (.one (.sl false 1 [(iC 2)]))],
  (.tup [(.agg [(iC 11), (.own (0, 0)), (.own (0, 1))]), (.one (iC 0))]),
  [(.arr 3 1 4 [(iC 5), (iC 15), (iC 23), (iC 2)]), (.arr 3 1 0 [])]⟩
noncomputable def t92 : List Ent := e92 :: t91
noncomputable def e93 : Ent := ⟨259, [(.one (.sl false 11 [(iC 1), (iC 2), (iC 3), (iC 4), (iC 5), (iC 6), (iC 7), (iC 8), (iC 9), (iC 10), (iC 11)])), (.agg [(iC 11), (.sl false 5 [(iC 5), (iC 15), (iC 23), (iC 2), (iC 19)]), (.sl false 0 [])])],
  (.tup [(.one (iC 3)), (.one (.cut (0, 0) 8)), (.one (iC 0))]),
  [(.arr 3 1 11 [(iC 4), (iC 5), (iC 6), (iC 8), (iC 9), (iC 10), (iC 7), (iC 11), (iC 9), (iC 10), (iC 11)])]⟩
noncomputable def t93 : List Ent := e93 :: t92
noncomputable def e94 : Ent := ⟨256, [(.one (iC 11)), (.one (.sl false 27 [(.sl false 2 [(iC 6), (iC 9)]), (.sl false 2 [(iC 2), (iC 9)]), (.sl false 3 [(iC 3), (iC 7), (iC 8)]), (.sl false 2 [(iC 7), (iC 11)]), (.sl false 2 [(iC 2), (iC 11)]), (.sl false 3 [(iC 3), (iC 6), (iC 10)]), (.sl false 2 [(iC 11), (iC 13)]), (.sl false 2 [(iC 9), (iC 13)]), (.sl false 3 [(iC 8), (iC 10), (iC 12)]), (.sl false 2 [(iC 7), (iC 15)]), (.sl false 2 [(iC 4), (iC 15)]), (.sl false 3 [(iC 5), (iC 6), (iC 14)]), (.sl false 2 [(iC 15), (iC 17)]), (.sl false 2 [(iC 9), (iC 17)]), (.sl false 3 [(iC 8), (iC 14), (iC 16)]), (.sl false 2 [(iC 5), (iC 19)]), (.sl false 2 [(iC 3), (iC 19)]), (.sl false 3 [(iC 2), (iC 4), (iC 18)]), (.sl false 2 [(iC 19), (iC 21)]), (.sl false 2 [(iC 6), (iC 21)]), (.sl false 3 [(iC 7), (iC 18), (iC 20)]), (.sl false 2 [(iC 21), (iC 23)]), (.sl false 2 [(iC 16), (iC 23)]), (.sl false 3 [(iC 17), (iC 20), (iC 22)]), (.sl false 1 [(iC 5)]), (.sl false 1 [(iC 23)]), (.sl false 1 [(iC 2)])])), (.one (.sl false 1 [(iC 7)]))],
  (.tup [(.one (.own (0, 0))), (.one (iC 0))]),
  [(.arr 3 1 1 [(iC 6)])]⟩
noncomputable def t94 : List Ent := e94 :: t93
noncomputable def e95 : Ent := ⟨258, [(.agg [(iC 11), (.sl false 11 [(iC 5), (iC 15), (iC 23), (iC 2), (iC 19), (iC 7), (iC 9), (iC 10), (iC 13), (iC 16), (iC 21)]), (.sl false 1 [(iC 5)])]), (.one (.sl false 1 [(iC 6)]))],
  (.tup [(.agg [(iC 11), (.own (0, 0)), (.own (0, 1))]), (.one (iC 0))]),
  [(.arr 3 1 6 [(iC 5), (iC 15), (iC 23), (iC 2), (iC 19), (iC 6)]), (.arr 3 1 0 [])]⟩
noncomputable def t95 : List Ent := e95 :: t94
noncomputable def e96 : Ent := ⟨259, [(.one (.sl false 11 [(iC 1), (iC 2), (iC 3), (iC 4), (iC 5), (iC 6), (iC 7), (iC 8), (iC 9), (iC 10), (iC 11)])), (.agg [(iC 11), (.sl false 11 [(iC 5), (iC 15), (iC 23), (iC 2), (iC 19), (iC 6), (iC 8), (iC 11), (iC 13), (iC 17), (iC 20)]), (.sl false 0 [])])],
  (.tup [(.one (iC 0)), (.one nC), (.one (iC 6))]),
  []⟩
noncomputable def t96 : List Ent := e96 :: t95
noncomputable def e97 : Ent := ⟨166, [(.one (iC 11)), (.one (.sl false 26 [(.sl false 2 [(iC 6), (iC 9)]), (.sl false 2 [(iC 2), (iC 9)]), (.sl false 3 [(iC 3), (iC 7), (iC 8)]), (.sl false 2 [(iC 7), (iC 11)]), (.sl false 2 [(iC 2), (iC 11)]), (.sl false 3 [(iC 3), (iC 6), (iC 10)]), (.sl false 2 [(iC 11), (iC 13)]), (.sl false 2 [(iC 9), (iC 13)]), (.sl false 3 [(iC 8), (iC 10), (iC 12)]), (.sl false 2 [(iC 7), (iC 15)]), (.sl false 2 [(iC 4), (iC 15)]), (.sl false 3 [(iC 5), (iC 6), (iC 14)]), (.sl false 2 [(iC 15), (iC 17)]), (.sl false 2 [(iC 9), (iC 17)]), (.sl false 3 [(iC 8), (iC 14), (iC 16)]), (.sl false 2 [(iC 5), (iC 19)]), (.sl false 2 [(iC 3), (iC 19)]), (.sl false 3 [(iC 2), (iC 4), (iC 18)]), (.sl false 2 [(iC 19), (iC 21)]), (.sl false 2 [(iC 6), (iC 21)]), (.sl false 3 [(iC 7), (iC 18), (iC 20)]), (.sl false 2 [(iC 21), (iC 23)]), (.sl false 2 [(iC 16), (iC 23)]), (.sl false 3 [(iC 17), (iC 20), (iC 22)]), (.sl false 1 [(iC 5)]), (.sl false 1 [(iC 23)])])), (.one (iC 100000))],
  (.tup [(.agg [(bC true), (.own (0, 0)), nC, (.own (0, 1)), (iC 2)]), (.one (iC 0))]),
  [(.arr 4 1 11 [(bC true), (bC false), (bC true), (bC true), (bC false), (bC false), (bC false), (bC false), (bC false), (bC true), (bC false)]), (.arr 25 1 2 [(.own (0, 2)), (.own (0, 3))]), (.arr 3 1 1 [(iC 2)]), (.arr 3 1 1 [(iC 6)])]⟩
noncomputable def t97 : List Ent := e97 :: t96
noncomputable def e98 : Ent := ⟨215, [(.agg [(iC 11), (.sl false 1 [(.sl false 12 [(iC 0), (iC 2), (iC 4), (iC 6), (iC 8), (iC 10), (iC 12), (iC 14), (iC 16), (iC 18), (iC 20), (iC 22)])]), (.sl false 26 [(.sl false 2 [(iC 6), (iC 9)]), (.sl false 2 [(iC 2), (iC 9)]), (.sl false 3 [(iC 3), (iC 7), (iC 8)]), (.sl false 2 [(iC 7), (iC 11)]), (.sl false 2 [(iC 2), (iC 11)]), (.sl false 3 [(iC 3), (iC 6), (iC 10)]), (.sl false 2 [(iC 11), (iC 13)]), (.sl false 2 [(iC 9), (iC 13)]), (.sl false 3 [(iC 8), (iC 10), (iC 12)]), (.sl false 2 [(iC 7), (iC 15)]), (.sl false 2 [(iC 4), (iC 15)]), (.sl false 3 [(iC 5), (iC 6), (iC 14)]), (.sl false 2 [(iC 15), (iC 17)]), (.sl false 2 [(iC 9), (iC 17)]), (.sl false 3 [(iC 8), (iC 14), (iC 16)]), (.sl false 2 [(iC 5), (iC 19)]), (.sl false 2 [(iC 3), (iC 19)]), (.sl false 3 [(iC 2), (iC 4), (iC 18)]), (.sl false 2 [(iC 19), (iC 21)]), (.sl false 2 [(iC 6), (iC 21)]), (.sl false 3 [(iC 7), (iC 18), (iC 20)]), (.sl false 2 [(iC 21), (iC 23)]), (.sl false 2 [(iC 16), (iC 23)]), (.sl false 3 [(iC 17), (iC 20), (iC 22)]), (.sl false 1 [(iC 5)]), (.sl false 1 [(iC 23)])])])],
  (.one (iC 0)),
  []⟩
noncomputable def t98 : List Ent := e98 :: t97
noncomputable def e99 : Ent := ⟨167, [(.agg [(iC 0), (.sl false 3 [(iC 13), (iC 0), (iC 13), (iC 0), (iC 0), (iC 1)]), (.sl false 8 [(iC 6), (iC 2), (iC 7), (iC 2), (iC 11), (iC 9), (iC 7), (iC 4), (iC 15), (iC 9), (iC 5), (iC 3), (iC 19), (iC 6), (iC 21), (iC 16)]), (.sl false 1 [(iC 23)]), (.sl false 1 [(iC 1)])]), (.agg [(iC 11), (.sl false 1 [(.sl false 12 [(iC 0), (iC 2), (iC 4), (iC 6), (iC 8), (iC 10), (iC 12), (iC 14), (iC 16), (iC 18), (iC 20), (iC 22)])]), (.sl false 26 [(.sl false 2 [(iC 6), (iC 9)]), (.sl false 2 [(iC 2), (iC 9)]), (.sl false 3 [(iC 3), (iC 7), (iC 8)]), (.sl false 2 [(iC 7), (iC 11)]), (.sl false 2 [(iC 2), (iC 11)]), (.sl false 3 [(iC 3), (iC 6), (iC 10)]), (.sl false 2 [(iC 11), (iC 13)]), (.sl false 2 [(iC 9), (iC 13)]), (.sl false 3 [(iC 8), (iC 10), (iC 12)]), (.sl false 2 [(iC 7), (iC 15)]), (.sl false 2 [(iC 4), (iC 15)]), (.sl false 3 [(iC 5), (iC 6), (iC 14)]), (.sl false 2 [(iC 15), (iC 17)]), (.sl false 2 [(iC 9), (iC 17)]), (.sl false 3 [(iC 8), (iC 14), (iC 16)]), (.sl false 2 [(iC 5), (iC 19)]), (.sl false 2 [(iC 3), (iC 19)]), (.sl false 3 [(iC 2), (iC 4), (iC 18)]), (.sl false 2 [(iC 19), (iC 21)]), (.sl false 2 [(iC 6), (iC 21)]), (.sl false 3 [(iC 7), (iC 18), (iC 20)]), (.sl false 2 [(iC 21), (iC 23)]), (.sl false 2 [(iC 16), (iC 23)]), (.sl false 3 [(iC 17), (iC 20), (iC 22)]), (.sl false 1 [(iC 5)]), (.sl false 1 [(iC 23)])])]), (.one (.sl false 11 [(bC true), (bC false), (bC true), (bC true), (bC false), (bC false), (bC false), (bC false), (bC false), (bC true), (bC false)]))],
  (.tup [(.agg [(.own (0, 0)), (.own (0, 1))]), (.one (iC 0))]),
  [(.arr 4 1 3 [(bC true), (bC false), (bC true)]), (.arr 32 1 1 [nC])]⟩
noncomputable def t99 : List Ent := e99 :: t98
noncomputable def e100 : Ent := ⟨168, [(.agg [(iC 0), (.sl false 3 [(iC 13), (iC 0), (iC 13), (iC 0), (iC 0), (iC 1)]), (.sl false 8 [(iC 6), (iC 2), (iC 7), (iC 2), (iC 11), (iC 9), (iC 7), (iC 4), (iC 15), (iC 9), (iC 5), (iC 3), (iC 19), (iC 6), (iC 21), (iC 16)]), (.sl false 1 [(iC 23)]), (.sl false 1 [(iC 1)])]), (.agg [(.sl false 1 [(.sl false 1 [(.sl false 1 [(iC 5)])])])]), (.one (iC 1)), (.one (iC 100000))],
  (.tup [(.agg [(bC true), (.own (0, 0)), nC, (iC 2)]), (.one (iC 0))]),
  [(.arr 4 1 3 [(bC true), (bC false), (bC true)])]⟩
noncomputable def t100 : List Ent := e100 :: t99
noncomputable def e101 : Ent := ⟨222, [(.agg [(iC 0), (.sl false 3 [(iC 13), (iC 0), (iC 13), (iC 0), (iC 0), (iC 1)]), (.sl false 8 [(iC 6), (iC 2), (iC 7), (iC 2), (iC 11), (iC 9), (iC 7), (iC 4), (iC 15), (iC 9), (iC 5), (iC 3), (iC 19), (iC 6), (iC 21), (iC 16)]), (.sl false 1 [(iC 23)]), (.sl false 1 [(iC 1)])]), (.one (.sl false 3 [(bC true), (bC false), (bC true)])), (.one (.sl false 0 []))],
  (.tup [(.one (.own (0, 0))), (.one (iC 0))]),
  [(.arr 3 1 2 [(iC 2), (iC 6)])]⟩
noncomputable def t101 : List Ent := e101 :: t100
noncomputable def e102 : Ent := ⟨217, [(.agg [(iC 0), (.sl false 3 [(iC 13), (iC 0), (iC 13), (iC 0), (iC 0), (iC 1)]), (.sl false 8 [(iC 6), (iC 2), (iC 7), (iC 2), (iC 11), (iC 9), (iC 7), (iC 4), (iC 15), (iC 9), (iC 5), (iC 3), (iC 19), (iC 6), (iC 21), (iC 16)]), (.sl false 1 [(iC 23)]), (.sl false 1 [(iC 1)])]), (.agg [(.sl false 1 [(.sl false 1 [(.sl false 1 [(iC 5)])])])]), (.one (iC 0)), (.one (iC 100000))],
  (.tup [(.one (.loc (0, 0) 0)), (.one (iC 0))]),
  [(.box 353 [(iC 0), (.sl false 3 [(iC 13), (iC 0), (iC 13), (iC 0), (iC 0), (iC 1)]), (.sl false 8 [(iC 6), (iC 2), (iC 7), (iC 2), (iC 11), (iC 9), (iC 7), (iC 4), (iC 15), (iC 9), (iC 5), (iC 3), (iC 19), (iC 6), (iC 21), (iC 16)]), (.sl false 1 [(iC 23)]), (.sl false 1 [(iC 1)]), (iC 11), (.own (0, 1)), (.own (0, 3)), (.own (0, 2))]), (.arr 25 1 1 [(.own (0, 2))]), (.arr 3 1 12 [(iC 0), (iC 2), (iC 4), (iC 6), (iC 8), (iC 10), (iC 12), (iC 14), (iC 16), (iC 18), (iC 20), (iC 22)]), (.arr 25 1 27 [(.own (0, 4)), (.own (0, 5)), (.own (0, 6)), (.own (0, 7)), (.own (0, 8)), (.own (0, 9)), (.own (0, 10)), (.own (0, 11)), (.own (0, 12)), (.own (0, 13)), (.own (0, 14)), (.own (0, 15)), (.own (0, 16)), (.own (0, 17)), (.own (0, 18)), (.own (0, 19)), (.own (0, 20)), (.own (0, 21)), (.own (0, 22)), (.own (0, 23)), (.own (0, 24)), (.own (0, 25)), (.own (0, 26)), (.own (0, 27)), (.own (0, 28)), (.own (0, 29)), (.own (0, 30))]), (.arr 3 1 2 [(iC 6), (iC 9)]), (.arr 3 1 2 [(iC 2), (iC 9)]), (.arr 3 1 3 [(iC 3), (iC 7), (iC 8)]), (.arr 3 1 2 [(iC 7), (iC 11)]), (.arr 3 1 2 [(iC 2), (iC 11)]), (.arr 3 1 3 [(iC 3), (iC 6), (iC 10)]), (.arr 3 1 2 [(iC 11), (iC 13)]), (.arr 3 1 2 [(iC 9), (iC 13)]), (.arr 3 1 3 [(iC 8), (iC 10), (iC 12)]), (.arr 3 1 2 [(iC 7), (iC 15)]), (.arr 3 1 2 [(iC 4), (iC 15)]), (.arr 3 1 3 [(iC 5), (iC 6), (iC 14)]), (.arr 3 1 2 [(iC 15), (iC 17)]), (.arr 3 1 2 [(iC 9), (iC 17)]), (.arr 3 1 3 [(iC 8), (iC 14), (iC 16)]), (.arr 3 1 2 [(iC 5), (iC 19)]), (.arr 3 1 2 [(iC 3), (iC 19)]), (.arr 3 1 3 [(iC 2), (iC 4), (iC 18)]), (.arr 3 1 2 [(iC 19), (iC 21)]), (.arr 3 1 2 [(iC 6), (iC 21)]), (.arr 3 1 3 [(iC 7), (iC 18), (iC 20)]), (.arr 3 1 2 [(iC 21), (iC 23)]), (.arr 3 1 2 [(iC 16), (iC 23)]), (.arr 3 1 3 [(iC 17), (iC 20), (iC 22)]), (.arr 3 1 1 [(iC 3)]), (.arr 3 1 1 [(iC 5)]), (.arr 3 1 1 [(iC 6)])]⟩
noncomputable def t102 : List Ent := e102 :: t101
noncomputable def e103 : Ent := ⟨166, [(.one (iC 11)), (.one (.sl false 30 [(.sl false 2 [(iC 6), (iC 9)]), (.sl false 2 [(iC 2), (iC 9)]), (.sl false 3 [(iC 3), (iC 7), (iC 8)]), (.sl false 2 [(iC 7), (iC 11)]), (.sl false 2 [(iC 2), (iC 11)]), (.sl false 3 [(iC 3), (iC 6), (iC 10)]), (.sl false 2 [(iC 11), (iC 13)]), (.sl false 2 [(iC 9), (iC 13)]), (.sl false 3 [(iC 8), (iC 10), (iC 12)]), (.sl false 2 [(iC 7), (iC 15)]), (.sl false 2 [(iC 4), (iC 15)]), (.sl false 3 [(iC 5), (iC 6), (iC 14)]), (.sl false 2 [(iC 15), (iC 17)]), (.sl false 2 [(iC 9), (iC 17)]), (.sl false 3 [(iC 8), (iC 14), (iC 16)]), (.sl false 2 [(iC 5), (iC 19)]), (.sl false 2 [(iC 3), (iC 19)]), (.sl false 3 [(iC 2), (iC 4), (iC 18)]), (.sl false 2 [(iC 19), (iC 21)]), (.sl false 2 [(iC 6), (iC 21)]), (.sl false 3 [(iC 7), (iC 18), (iC 20)]), (.sl false 2 [(iC 21), (iC 23)]), (.sl false 2 [(iC 16), (iC 23)]), (.sl false 3 [(iC 17), (iC 20), (iC 22)]), (.sl false 1 [(iC 3)]), (.sl false 1 [(iC 5)]), (.sl false 1 [(iC 6)]), (.sl false 2 [(iC 3), (iC 7)]), (.sl false 1 [(iC 13)]), (.sl false 0 [])])), (.one (iC 100000))],
  (.tup [(.agg [(bC false), nC, nC, (.own (0, 0)), (iC 0)]), (.one (iC 0))]),
  [(.arr 25 1 1 [(.own (0, 1))]), (.arr 3 1 0 [])]⟩
noncomputable def t103 : List Ent := e103 :: t102
noncomputable def e104 : Ent := ⟨175, [(.agg [(iC 0), (.sl false 3 [(iC 13), (iC 0), (iC 13), (iC 0), (iC 0), (iC 1)]), (.sl false 8 [(iC 6), (iC 2), (iC 7), (iC 2), (iC 11), (iC 9), (iC 7), (iC 4), (iC 15), (iC 9), (iC 5), (iC 3), (iC 19), (iC 6), (iC 21), (iC 16)]), (.sl false 1 [(iC 23)]), (.sl false 1 [(iC 1)])]), (.agg [(.sl false 1 [(.sl false 1 [(.sl false 1 [(iC 5)])])])]), (.one (iC 0)), (.one (.sl false 2 [(iC 2), (iC 6)])), (.one (bC true)), (.one (iC 100000))],
  (.tup [(.agg [(bC false), nC, nC, (iC 0)]), (.one (iC 0))]),
  []⟩
noncomputable def t104 : List Ent := e104 :: t103
noncomputable def e105 : Ent := ⟨310, [(.agg [(iC 0), (.sl false 3 [(iC 13), (iC 0), (iC 13), (iC 0), (iC 0), (iC 1)]), (.sl false 8 [(iC 6), (iC 2), (iC 7), (iC 2), (iC 11), (iC 9), (iC 7), (iC 4), (iC 15), (iC 9), (iC 5), (iC 3), (iC 19), (iC 6), (iC 21), (iC 16)]), (.sl false 1 [(iC 23)]), (.sl false 1 [(iC 1)])]), (.agg [(.sl false 1 [(.sl false 1 [(.sl false 1 [(iC 5)])])])]), (.one (iC 1)), (.one (.sl false 2 [(iC 2), (iC 6)])), (.one (iC 100000))],
  (.tup [(.one (bC true)), (.one (iC 0)), (.one (iC 0))]),
  []⟩
noncomputable def t105 : List Ent := e105 :: t104
noncomputable def e106 : Ent := ⟨310, [(.agg [(iC 0), (.sl false 3 [(iC 13), (iC 0), (iC 13), (iC 0), (iC 0), (iC 1)]), (.sl false 8 [(iC 6), (iC 2), (iC 7), (iC 2), (iC 11), (iC 9), (iC 7), (iC 4), (iC 15), (iC 9), (iC 5), (iC 3), (iC 19), (iC 6), (iC 21), (iC 16)]), (.sl false 1 [(iC 23)]), (.sl false 1 [(iC 1)])]), (.agg [(.sl false 1 [(.sl false 1 [(.sl false 1 [(iC 5)])])])]), (.one (iC 1)), (.one (.sl false 1 [(iC 6)])), (.one (iC 100000))],
  (.tup [(.one (bC false)), (.one (iC 0)), (.one (iC 0))]),
  []⟩
noncomputable def t106 : List Ent := e106 :: t105
noncomputable def e107 : Ent := ⟨166, [(.one (iC 11)), (.one (.sl false 29 [(.sl false 2 [(iC 6), (iC 9)]), (.sl false 2 [(iC 2), (iC 9)]), (.sl false 3 [(iC 3), (iC 7), (iC 8)]), (.sl false 2 [(iC 7), (iC 11)]), (.sl false 2 [(iC 2), (iC 11)]), (.sl false 3 [(iC 3), (iC 6), (iC 10)]), (.sl false 2 [(iC 11), (iC 13)]), (.sl false 2 [(iC 9), (iC 13)]), (.sl false 3 [(iC 8), (iC 10), (iC 12)]), (.sl false 2 [(iC 7), (iC 15)]), (.sl false 2 [(iC 4), (iC 15)]), (.sl false 3 [(iC 5), (iC 6), (iC 14)]), (.sl false 2 [(iC 15), (iC 17)]), (.sl false 2 [(iC 9), (iC 17)]), (.sl false 3 [(iC 8), (iC 14), (iC 16)]), (.sl false 2 [(iC 5), (iC 19)]), (.sl false 2 [(iC 3), (iC 19)]), (.sl false 3 [(iC 2), (iC 4), (iC 18)]), (.sl false 2 [(iC 19), (iC 21)]), (.sl false 2 [(iC 6), (iC 21)]), (.sl false 3 [(iC 7), (iC 18), (iC 20)]), (.sl false 2 [(iC 21), (iC 23)]), (.sl false 2 [(iC 16), (iC 23)]), (.sl false 3 [(iC 17), (iC 20), (iC 22)]), (.sl false 1 [(iC 3)]), (.sl false 1 [(iC 5)]), (.sl false 1 [(iC 6)]), (.sl false 1 [(iC 3)]), (.sl false 1 [(iC 13)])])), (.one (iC 100000))],
  (.tup [(.agg [(bC false), nC, nC, (.own (0, 0)), (iC 0)]), (.one (iC 0))]),
  [(.arr 25 1 1 [(.own (0, 1))]), (.arr 3 1 0 [])]⟩
noncomputable def t107 : List Ent := e107 :: t106
noncomputable def e108 : Ent := ⟨175, [(.agg [(iC 0), (.sl false 3 [(iC 13), (iC 0), (iC 13), (iC 0), (iC 0), (iC 1)]), (.sl false 8 [(iC 6), (iC 2), (iC 7), (iC 2), (iC 11), (iC 9), (iC 7), (iC 4), (iC 15), (iC 9), (iC 5), (iC 3), (iC 19), (iC 6), (iC 21), (iC 16)]), (.sl false 1 [(iC 23)]), (.sl false 1 [(iC 1)])]), (.agg [(.sl false 1 [(.sl false 1 [(.sl false 1 [(iC 5)])])])]), (.one (iC 0)), (.one (.sl false 1 [(iC 2)])), (.one (bC true)), (.one (iC 100000))],
  (.tup [(.agg [(bC false), nC, nC, (iC 0)]), (.one (iC 0))]),
  []⟩
noncomputable def t108 : List Ent := e108 :: t107
noncomputable def e109 : Ent := ⟨310, [(.agg [(iC 0), (.sl false 3 [(iC 13), (iC 0), (iC 13), (iC 0), (iC 0), (iC 1)]), (.sl false 8 [(iC 6), (iC 2), (iC 7), (iC 2), (iC 11), (iC 9), (iC 7), (iC 4), (iC 15), (iC 9), (iC 5), (iC 3), (iC 19), (iC 6), (iC 21), (iC 16)]), (.sl false 1 [(iC 23)]), (.sl false 1 [(iC 1)])]), (.agg [(.sl false 1 [(.sl false 1 [(.sl false 1 [(iC 5)])])])]), (.one (iC 1)), (.one (.sl false 1 [(iC 2)])), (.one (iC 100000))],
  (.tup [(.one (bC true)), (.one (iC 0)), (.one (iC 0))]),
  []⟩
noncomputable def t109 : List Ent := e109 :: t108
noncomputable def e110 : Ent := ⟨270, [(.agg [(iC 0), (.sl false 3 [(iC 13), (iC 0), (iC 13), (iC 0), (iC 0), (iC 1)]), (.sl false 8 [(iC 6), (iC 2), (iC 7), (iC 2), (iC 11), (iC 9), (iC 7), (iC 4), (iC 15), (iC 9), (iC 5), (iC 3), (iC 19), (iC 6), (iC 21), (iC 16)]), (.sl false 1 [(iC 23)]), (.sl false 1 [(iC 1)])]), (.agg [(.sl false 1 [(.sl false 1 [(.sl false 1 [(iC 5)])])])]), (.one (iC 1)), (.one (.sl false 2 [(iC 2), (iC 6)])), (.one (iC 100000))],
  (.tup [(.agg [(.cut (0, 0) 1), (iC 0)]), (.one (iC 0))]),
  [(.arr 3 1 2 [(iC 2), (iC 0)])]⟩
noncomputable def t110 : List Ent := e110 :: t109
noncomputable def e111 : Ent := ⟨177, [(.one (iC 3)), (.agg [(.sl false 1 [(.sl false 1 [(.sl false 1 [(iC 5)])])])]), (.one (iC 1)), (.one (.sl false 1 [(iC 3)]))],
  (.tup [(.agg [(.own (0, 0))]), (.one (iC 0))]),
  [(.arr 54 1 1 [(.own (0, 1))]), (.arr 25 1 2 [(.own (0, 2)), (.own (0, 3))]), (.arr 3 1 1 [(iC 5)]), (.arr 3 1 1 [(iC 3)])]⟩
noncomputable def t111 : List Ent := e111 :: t110
noncomputable def e112 : Ent := ⟨178, [(.one (iC 3)), (.agg [(.sl false 1 [(.sl false 2 [(.sl false 1 [(iC 5)]), (.sl false 1 [(iC 3)])])])])],
  (.one (iC 0)),
  []⟩
noncomputable def t112 : List Ent := e112 :: t111
noncomputable def e113 : Ent := ⟨217, [(.agg [(iC 0), (.sl false 3 [(iC 13), (iC 0), (iC 13), (iC 0), (iC 0), (iC 1)]), (.sl false 8 [(iC 6), (iC 2), (iC 7), (iC 2), (iC 11), (iC 9), (iC 7), (iC 4), (iC 15), (iC 9), (iC 5), (iC 3), (iC 19), (iC 6), (iC 21), (iC 16)]), (.sl false 1 [(iC 23)]), (.sl false 1 [(iC 1)])]), (.agg [(.sl false 1 [(.sl false 2 [(.sl false 1 [(iC 5)]), (.sl false 1 [(iC 3)])])])]), (.one (iC 1)), (.one (iC 100000))],
  (.tup [(.one (.loc (0, 0) 0)), (.one (iC 0))]),
  [(.box 353 [(iC 0), (.sl false 3 [(iC 13), (iC 0), (iC 13), (iC 0), (iC 0), (iC 1)]), (.sl false 8 [(iC 6), (iC 2), (iC 7), (iC 2), (iC 11), (iC 9), (iC 7), (iC 4), (iC 15), (iC 9), (iC 5), (iC 3), (iC 19), (iC 6), (iC 21), (iC 16)]), (.sl false 1 [(iC 23)]), (.sl false 1 [(iC 1)]), (iC 11), (.own (0, 1)), (.own (0, 3)), (.own (0, 2))]), (.arr 25 1 1 [(.own (0, 2))]), (.arr 3 1 12 [(iC 0), (iC 2), (iC 4), (iC 6), (iC 8), (iC 10), (iC 12), (iC 14), (iC 16), (iC 18), (iC 20), (iC 22)]), (.arr 25 1 26 [(.own (0, 4)), (.own (0, 5)), (.own (0, 6)), (.own (0, 7)), (.own (0, 8)), (.own (0, 9)), (.own (0, 10)), (.own (0, 11)), (.own (0, 12)), (.own (0, 13)), (.own (0, 14)), (.own (0, 15)), (.own (0, 16)), (.own (0, 17)), (.own (0, 18)), (.own (0, 19)), (.own (0, 20)), (.own (0, 21)), (.own (0, 22)), (.own (0, 23)), (.own (0, 24)), (.own (0, 25)), (.own (0, 26)), (.own (0, 27)), (.own (0, 28)), (.own (0, 29))]), (.arr 3 1 2 [(iC 6), (iC 9)]), (.arr 3 1 2 [(iC 2), (iC 9)]), (.arr 3 1 3 [(iC 3), (iC 7), (iC 8)]), (.arr 3 1 2 [(iC 7), (iC 11)]), (.arr 3 1 2 [(iC 2), (iC 11)]), (.arr 3 1 3 [(iC 3), (iC 6), (iC 10)]), (.arr 3 1 2 [(iC 11), (iC 13)]), (.arr 3 1 2 [(iC 9), (iC 13)]), (.arr 3 1 3 [(iC 8), (iC 10), (iC 12)]), (.arr 3 1 2 [(iC 7), (iC 15)]), (.arr 3 1 2 [(iC 4), (iC 15)]), (.arr 3 1 3 [(iC 5), (iC 6), (iC 14)]), (.arr 3 1 2 [(iC 15), (iC 17)]), (.arr 3 1 2 [(iC 9), (iC 17)]), (.arr 3 1 3 [(iC 8), (iC 14), (iC 16)]), (.arr 3 1 2 [(iC 5), (iC 19)]), (.arr 3 1 2 [(iC 3), (iC 19)]), (.arr 3 1 3 [(iC 2), (iC 4), (iC 18)]), (.arr 3 1 2 [(iC 19), (iC 21)]), (.arr 3 1 2 [(iC 6), (iC 21)]), (.arr 3 1 3 [(iC 7), (iC 18), (iC 20)]), (.arr 3 1 2 [(iC 21), (iC 23)]), (.arr 3 1 2 [(iC 16), (iC 23)]), (.arr 3 1 3 [(iC 17), (iC 20), (iC 22)]), (.arr 3 1 1 [(iC 5)]), (.arr 3 1 1 [(iC 3)])]⟩
noncomputable def t113 : List Ent := e113 :: t112
noncomputable def e114 : Ent := ⟨166, [(.one (iC 11)), (.one (.sl false 27 [(.sl false 2 [(iC 6), (iC 9)]), (.sl false 2 [(iC 2), (iC 9)]), (.sl false 3 [(iC 3), (iC 7), (iC 8)]), (.sl false 2 [(iC 7), (iC 11)]), (.sl false 2 [(iC 2), (iC 11)]), (.sl false 3 [(iC 3), (iC 6), (iC 10)]), (.sl false 2 [(iC 11), (iC 13)]), (.sl false 2 [(iC 9), (iC 13)]), (.sl false 3 [(iC 8), (iC 10), (iC 12)]), (.sl false 2 [(iC 7), (iC 15)]), (.sl false 2 [(iC 4), (iC 15)]), (.sl false 3 [(iC 5), (iC 6), (iC 14)]), (.sl false 2 [(iC 15), (iC 17)]), (.sl false 2 [(iC 9), (iC 17)]), (.sl false 3 [(iC 8), (iC 14), (iC 16)]), (.sl false 2 [(iC 5), (iC 19)]), (.sl false 2 [(iC 3), (iC 19)]), (.sl false 3 [(iC 2), (iC 4), (iC 18)]), (.sl false 2 [(iC 19), (iC 21)]), (.sl false 2 [(iC 6), (iC 21)]), (.sl false 3 [(iC 7), (iC 18), (iC 20)]), (.sl false 2 [(iC 21), (iC 23)]), (.sl false 2 [(iC 16), (iC 23)]), (.sl false 3 [(iC 17), (iC 20), (iC 22)]), (.sl false 1 [(iC 5)]), (.sl false 1 [(iC 3)]), (.sl false 1 [(iC 23)])])), (.one (iC 100000))],
  (.tup [(.agg [(bC false), nC, nC, (.own (0, 0)), (iC 0)]), (.one (iC 0))]),
  [(.arr 25 1 1 [(.own (0, 1))]), (.arr 3 1 0 [])]⟩
noncomputable def t114 : List Ent := e114 :: t113
noncomputable def e115 : Ent := ⟨168, [(.agg [(iC 0), (.sl false 3 [(iC 13), (iC 0), (iC 13), (iC 0), (iC 0), (iC 1)]), (.sl false 8 [(iC 6), (iC 2), (iC 7), (iC 2), (iC 11), (iC 9), (iC 7), (iC 4), (iC 15), (iC 9), (iC 5), (iC 3), (iC 19), (iC 6), (iC 21), (iC 16)]), (.sl false 1 [(iC 23)]), (.sl false 1 [(iC 1)])]), (.agg [(.sl false 1 [(.sl false 2 [(.sl false 1 [(iC 5)]), (.sl false 1 [(iC 3)])])])]), (.one (iC 1)), (.one (iC 100000))],
  (.tup [(.agg [(bC false), nC, nC, (iC 0)]), (.one (iC 0))]),
  []⟩
noncomputable def t115 : List Ent := e115 :: t114
noncomputable def e116 : Ent := ⟨178, [(.one (iC 3)), (.agg [(.sl false 2 [(.sl false 2 [(.sl false 1 [(iC 5)]), (.sl false 1 [(iC 3)])]), (.sl false 0 [])])])],
  (.one (iC 0)),
  []⟩
noncomputable def t116 : List Ent := e116 :: t115
noncomputable def e117 : Ent := ⟨217, [(.agg [(iC 0), (.sl false 3 [(iC 13), (iC 0), (iC 13), (iC 0), (iC 0), (iC 1)]), (.sl false 8 [(iC 6), (iC 2), (iC 7), (iC 2), (iC 11), (iC 9), (iC 7), (iC 4), (iC 15), (iC 9), (iC 5), (iC 3), (iC 19), (iC 6), (iC 21), (iC 16)]), (.sl false 1 [(iC 23)]), (.sl false 1 [(iC 1)])]), (.agg [(.sl false 2 [(.sl false 2 [(.sl false 1 [(iC 5)]), (.sl false 1 [(iC 3)])]), (.sl false 0 [])])]), (.one (iC 1)), (.one (iC 100000))],
  (.tup [(.one (.loc (0, 0) 0)), (.one (iC 0))]),
  [(.box 353 [(iC 0), (.sl false 3 [(iC 13), (iC 0), (iC 13), (iC 0), (iC 0), (iC 1)]), (.sl false 8 [(iC 6), (iC 2), (iC 7), (iC 2), (iC 11), (iC 9), (iC 7), (iC 4), (iC 15), (iC 9), (iC 5), (iC 3), (iC 19), (iC 6), (iC 21), (iC 16)]), (.sl false 1 [(iC 23)]), (.sl false 1 [(iC 1)]), (iC 11), (.own (0, 1)), (.own (0, 3)), (.own (0, 2))]), (.arr 25 1 1 [(.own (0, 2))]), (.arr 3 1 12 [(iC 0), (iC 2), (iC 4), (iC 6), (iC 8), (iC 10), (iC 12), (iC 14), (iC 16), (iC 18), (iC 20), (iC 22)]), (.arr 25 1 26 [(.own (0, 4)), (.own (0, 5)), (.own (0, 6)), (.own (0, 7)), (.own (0, 8)), (.own (0, 9)), (.own (0, 10)), (.own (0, 11)), (.own (0, 12)), (.own (0, 13)), (.own (0, 14)), (.own (0, 15)), (.own (0, 16)), (.own (0, 17)), (.own (0, 18)), (.own (0, 19)), (.own (0, 20)), (.own (0, 21)), (.own (0, 22)), (.own (0, 23)), (.own (0, 24)), (.own (0, 25)), (.own (0, 26)), (.own (0, 27)), (.own (0, 28)), (.own (0, 29))]), (.arr 3 1 2 [(iC 6), (iC 9)]), (.arr 3 1 2 [(iC 2), (iC 9)]), (.arr 3 1 3 [(iC 3), (iC 7), (iC 8)]), (.arr 3 1 2 [(iC 7), (iC 11)]), (.arr 3 1 2 [(iC 2), (iC 11)]), (.arr 3 1 3 [(iC 3), (iC 6), (iC 10)]), (.arr 3 1 2 [(iC 11), (iC 13)]), (.arr 3 1 2 [(iC 9), (iC 13)]), (.arr 3 1 3 [(iC 8), (iC 10), (iC 12)]), (.arr 3 1 2 [(iC 7), (iC 15)]), (.arr 3 1 2 [(iC 4), (iC 15)]), (.arr 3 1 3 [(iC 5), (iC 6), (iC 14)]), (.arr 3 1 2 [(iC 15), (iC 17)]), (.arr 3 1 2 [(iC 9), (iC 17)]), (.arr 3 1 3 [(iC 8), (iC 14), (iC 16)]), (.arr 3 1 2 [(iC 5), (iC 19)]), (.arr 3 1 2 [(iC 3), (iC 19)]), (.arr 3 1 3 [(iC 2), (iC 4), (iC 18)]), (.arr 3 1 2 [(iC 19), (iC 21)]), (.arr 3 1 2 [(iC 6), (iC 21)]), (.arr 3 1 3 [(iC 7), (iC 18), (iC 20)]), (.arr 3 1 2 [(iC 21), (iC 23)]), (.arr 3 1 2 [(iC 16), (iC 23)]), (.arr 3 1 3 [(iC 17), (iC 20), (iC 22)]), (.arr 3 1 1 [(iC 5)]), (.arr 3 1 1 [(iC 3)])]⟩
noncomputable def t117 : List Ent := e117 :: t116
noncomputable def e118 : Ent := ⟨166, [(.one (iC 11)), (.one (.sl false 27 [(.sl false 2 [(iC 6), (iC 9)]), (.sl false 2 [(iC 2), (iC 9)]), (.sl false 3 [(iC 3), (iC 7), (iC 8)]), (.sl false 2 [(iC 7), (iC 11)]), (.sl false 2 [(iC 2), (iC 11)]), (.sl false 3 [(iC 3), (iC 6), (iC 10)]), (.sl false 2 [(iC 11), (iC 13)]), (.sl false 2 [(iC 9), (iC 13)]), (.sl false 3 [(iC 8), (iC 10), (iC 12)]), (.sl false 2 [(iC 7), (iC 15)]), (.sl false 2 [(iC 4), (iC 15)]), (.sl false 3 [(iC 5), (iC 6), (iC 14)]), (.sl false 2 [(iC 15), (iC 17)]), (.sl false 2 [(iC 9), (iC 17)]), (.sl false 3 [(iC 8), (iC 14), (iC 16)]), (.sl false 2 [(iC 5), (iC 19)]), (.sl false 2 [(iC 3), (iC 19)]), (.sl false 3 [(iC 2), (iC 4), (iC 18)]), (.sl false 2 [(iC 19), (iC 21)]), (.sl false 2 [(iC 6), (iC 21)]), (.sl false 3 [(iC 7), (iC 18), (iC 20)]), (.sl false 2 [(iC 21), (iC 23)]), (.sl false 2 [(iC 16), (iC 23)]), (.sl false 3 [(iC 17), (iC 20), (iC 22)]), (.sl false 1 [(iC 5)]), (.sl false 1 [(iC 3)]), (.sl false 1 [(iC 13)])])), (.one (iC 100000))],
  (.tup [(.agg [(bC false), nC, nC, (.own (0, 0)), (iC 0)]), (.one (iC 0))]),
  [(.arr 25 1 1 [(.own (0, 1))]), (.arr 3 1 0 [])]⟩
noncomputable def t118 : List Ent := e118 :: t117
noncomputable def e119 : Ent := ⟨175, [(.agg [(iC 0), (.sl false 3 [(iC 13), (iC 0), (iC 13), (iC 0), (iC 0), (iC 1)]), (.sl false 8 [(iC 6), (iC 2), (iC 7), (iC 2), (iC 11), (iC 9), (iC 7), (iC 4), (iC 15), (iC 9), (iC 5), (iC 3), (iC 19), (iC 6), (iC 21), (iC 16)]), (.sl false 1 [(iC 23)]), (.sl false 1 [(iC 1)])]), (.agg [(.sl false 2 [(.sl false 2 [(.sl false 1 [(iC 5)]), (.sl false 1 [(iC 3)])]), (.sl false 0 [])])]), (.one (iC 1)), (.one (.sl false 1 [(iC 4)])), (.one (bC false)), (.one (iC 100000))],
  (.tup [(.agg [(bC false), nC, nC, (iC 0)]), (.one (iC 0))]),
  []⟩
noncomputable def t119 : List Ent := e119 :: t118
noncomputable def e120 : Ent := ⟨177, [(.one (iC 3)), (.agg [(.sl false 2 [(.sl false 2 [(.sl false 1 [(iC 5)]), (.sl false 1 [(iC 3)])]), (.sl false 0 [])])]), (.one (iC 2)), (.one (.sl false 1 [(iC 5)]))],
  (.tup [(.agg [(.own (0, 0))]), (.one (iC 0))]),
  [(.arr 54 1 2 [(.own (0, 1)), (.own (0, 3))]), (.arr 25 1 1 [(.own (0, 2))]), (.arr 3 1 1 [(iC 3)]), (.arr 25 1 1 [(.own (0, 4))]), (.arr 3 1 1 [(iC 5)])]⟩
noncomputable def t120 : List Ent := e120 :: t119
noncomputable def e121 : Ent := ⟨178, [(.one (iC 3)), (.agg [(.sl false 2 [(.sl false 1 [(.sl false 1 [(iC 3)])]), (.sl false 1 [(.sl false 1 [(iC 5)])])])])],
  (.one (iC 0)),
  []⟩
noncomputable def t121 : List Ent := e121 :: t120
noncomputable def e122 : Ent := ⟨217, [(.agg [(iC 0), (.sl false 3 [(iC 13), (iC 0), (iC 13), (iC 0), (iC 0), (iC 1)]), (.sl false 8 [(iC 6), (iC 2), (iC 7), (iC 2), (iC 11), (iC 9), (iC 7), (iC 4), (iC 15), (iC 9), (iC 5), (iC 3), (iC 19), (iC 6), (iC 21), (iC 16)]), (.sl false 1 [(iC 23)]), (.sl false 1 [(iC 1)])]), (.agg [(.sl false 2 [(.sl false 1 [(.sl false 1 [(iC 3)])]), (.sl false 1 [(.sl false 1 [(iC 5)])])])]), (.one (iC 1)), (.one (iC 100000))],
  (.tup [(.one (.loc (0, 0) 0)), (.one (iC 0))]),
  [(.box 353 [(iC 0), (.sl false 3 [(iC 13), (iC 0), (iC 13), (iC 0), (iC 0), (iC 1)]), (.sl false 8 [(iC 6), (iC 2), (iC 7), (iC 2), (iC 11), (iC 9), (iC 7), (iC 4), (iC 15), (iC 9), (iC 5), (iC 3), (iC 19), (iC 6), (iC 21), (iC 16)]), (.sl false 1 [(iC 23)]), (.sl false 1 [(iC 1)]), (iC 11), (.own (0, 1)), (.own (0, 3)), (.own (0, 2))]), (.arr 25 1 1 [(.own (0, 2))]), (.arr 3 1 12 [(iC 0), (iC 2), (iC 4), (iC 6), (iC 8), (iC 10), (iC 12), (iC 14), (iC 16), (iC 18), (iC 20), (iC 22)]), (.arr 25 1 26 [(.own (0, 4)), (.own (0, 5)), (.own (0, 6)), (.own (0, 7)), (.own (0, 8)), (.own (0, 9)), (.own (0, 10)), (.own (0, 11)), (.own (0, 12)), (.own (0, 13)), (.own (0, 14)), (.own (0, 15)), (.own (0, 16)), (.own (0, 17)), (.own (0, 18)), (.own (0, 19)), (.own (0, 20)), (.own (0, 21)), (.own (0, 22)), (.own (0, 23)), (.own (0, 24)), (.own (0, 25)), (.own (0, 26)), (.own (0, 27)), (.own (0, 28)), (.own (0, 29))]), (.arr 3 1 2 [(iC 6), (iC 9)]), (.arr 3 1 2 [(iC 2), (iC 9)]), (.arr 3 1 3 [(iC 3), (iC 7), (iC 8)]), (.arr 3 1 2 [(iC 7), (iC 11)]), (.arr 3 1 2 [(iC 2), (iC 11)]), (.arr 3 1 3 [(iC 3), (iC 6), (iC 10)]), (.arr 3 1 2 [(iC 11), (iC 13)]), (.arr 3 1 2 [(iC 9), (iC 13)]), (.arr 3 1 3 [(iC 8), (iC 10), (iC 12)]), (.arr 3 1 2 [(iC 7), (iC 15)]), (.arr 3 1 2 [(iC 4), (iC 15)]), (.arr 3 1 3 [(iC 5), (iC 6), (iC 14)]), (.arr 3 1 2 [(iC 15), (iC 17)]), (.arr 3 1 2 [(iC 9), (iC 17)]), (.arr 3 1 3 [(iC 8), (iC 14), (iC 16)]), (.arr 3 1 2 [(iC 5), (iC 19)]), (.arr 3 1 2 [(iC 3), (iC 19)]), (.arr 3 1 3 [(iC 2), (iC 4), (iC 18)]), (.arr 3 1 2 [(iC 19), (iC 21)]), (.arr 3 1 2 [(iC 6), (iC 21)]), (.arr 3 1 3 [(iC 7), (iC 18), (iC 20)]), (.arr 3 1 2 [(iC 21), (iC 23)]), (.arr 3 1 2 [(iC 16), (iC 23)]), (.arr 3 1 3 [(iC 17), (iC 20), (iC 22)]), (.arr 3 1 1 [(iC 3)]), (.arr 3 1 1 [(iC 5)])]⟩
noncomputable def t122 : List Ent := e122 :: t121
noncomputable def e123 : Ent := ⟨166, [(.one (iC 11)), (.one (.sl false 27 [(.sl false 2 [(iC 6), (iC 9)]), (.sl false 2 [(iC 2), (iC 9)]), (.sl false 3 [(iC 3), (iC 7), (iC 8)]), (.sl false 2 [(iC 7), (iC 11)]), (.sl false 2 [(iC 2), (iC 11)]), (.sl false 3 [(iC 3), (iC 6), (iC 10)]), (.sl false 2 [(iC 11), (iC 13)]), (.sl false 2 [(iC 9), (iC 13)]), (.sl false 3 [(iC 8), (iC 10), (iC 12)]), (.sl false 2 [(iC 7), (iC 15)]), (.sl false 2 [(iC 4), (iC 15)]), (.sl false 3 [(iC 5), (iC 6), (iC 14)]), (.sl false 2 [(iC 15), (iC 17)]), (.sl false 2 [(iC 9), (iC 17)]), (.sl false 3 [(iC 8), (iC 14), (iC 16)]), (.sl false 2 [(iC 5), (iC 19)]), (.sl false 2 [(iC 3), (iC 19)]), (.sl false 3 [(iC 2), (iC 4), (iC 18)]), (.sl false 2 [(iC 19), (iC 21)]), (.sl false 2 [(iC 6), (iC 21)]), (.sl false 3 [(iC 7), (iC 18), (iC 20)]), (.sl false 2 [(iC 21), (iC 23)]), (.sl false 2 [(iC 16), (iC 23)]), (.sl false 3 [(iC 17), (iC 20), (iC 22)]), (.sl false 1 [(iC 3)]), (.sl false 1 [(iC 5)]), (.sl false 1 [(iC 13)])])), (.one (iC 100000))],
  (.tup [(.agg [(bC false), nC, nC, (.own (0, 0)), (iC 0)]), (.one (iC 0))]),
  [(.arr 25 1 1 [(.own (0, 1))]), (.arr 3 1 0 [])]⟩
noncomputable def t123 : List Ent := e123 :: t122
noncomputable def e124 : Ent := ⟨175, [(.agg [(iC 0), (.sl false 3 [(iC 13), (iC 0), (iC 13), (iC 0), (iC 0), (iC 1)]), (.sl false 8 [(iC 6), (iC 2), (iC 7), (iC 2), (iC 11), (iC 9), (iC 7), (iC 4), (iC 15), (iC 9), (iC 5), (iC 3), (iC 19), (iC 6), (iC 21), (iC 16)]), (.sl false 1 [(iC 23)]), (.sl false 1 [(iC 1)])]), (.agg [(.sl false 2 [(.sl false 1 [(.sl false 1 [(iC 3)])]), (.sl false 1 [(.sl false 1 [(iC 5)])])])]), (.one (iC 1)), (.one (.sl false 1 [(iC 2)])), (.one (bC false)), (.one (iC 100000))],
  (.tup [(.agg [(bC false), nC, nC, (iC 0)]), (.one (iC 0))]),
  []⟩
noncomputable def t124 : List Ent := e124 :: t123
noncomputable def e125 : Ent := ⟨177, [(.one (iC 3)), (.agg [(.sl false 2 [(.sl false 1 [(.sl false 1 [(iC 3)])]), (.sl false 1 [(.sl false 1 [(iC 5)])])])]), (.one (iC 2)), (.one (.sl false 1 [(iC 3)]))],
  (.tup [(.agg [(.own (0, 0))]), (.one (iC 0))]),
  [(.arr 54 1 2 [nC, (.own (0, 1))]), (.arr 25 1 2 [(.own (0, 2)), (.own (0, 3))]), (.arr 3 1 1 [(iC 5)]), (.arr 3 1 1 [(iC 3)])]⟩
noncomputable def t125 : List Ent := e125 :: t124
noncomputable def e126 : Ent := ⟨110, [(.agg [(iC 0), (.sl false 3 [(iC 13), (iC 0), (iC 13), (iC 0), (iC 0), (iC 1)]), (.sl false 8 [(iC 6), (iC 2), (iC 7), (iC 2), (iC 11), (iC 9), (iC 7), (iC 4), (iC 15), (iC 9), (iC 5), (iC 3), (iC 19), (iC 6), (iC 21), (iC 16)]), (.sl false 1 [(iC 23)]), (.sl false 1 [(iC 1)])]), (.agg [(.sl false 2 [(.sl false 2 [(.sl false 1 [(iC 5)]), (.sl false 1 [(iC 3)])]), (.sl false 0 [])])]), (.one (iC 100000))],
  (.tup [(.agg [(.own (0, 0))]), (.one (iC 0)), (.one (iC 0))]),
  [(.arr 54 1 2 [nC, (.own (0, 1))]), (.arr 25 1 2 [(.own (0, 2)), (.own (0, 3))]), (.arr 3 1 1 [(iC 5)]), (.arr 3 1 1 [(iC 3)])]⟩
noncomputable def t126 : List Ent := e126 :: t125
noncomputable def e127 : Ent := ⟨178, [(.one (iC 3)), (.agg [(.sl false 2 [(.sl false 0 []), (.sl false 2 [(.sl false 1 [(iC 5)]), (.sl false 1 [(iC 3)])])])])],
  (.one (iC 0)),
  []⟩
noncomputable def t127 : List Ent := e127 :: t126
noncomputable def e128 : Ent := ⟨111, [(.one (iC 3)), (.agg [(.sl false 2 [(.sl false 0 []), (.sl false 2 [(.sl false 1 [(iC 5)]), (.sl false 1 [(iC 3)])])])])],
  (.tup [(.one (iC 1)), (.one (iC 0))]),
  []⟩
noncomputable def t128 : List Ent := e128 :: t127
noncomputable def e129 : Ent := ⟨181, [(.one (iC 3)), (.agg [(.sl false 2 [(.sl false 0 []), (.sl false 2 [(.sl false 1 [(iC 5)]), (.sl false 1 [(iC 3)])])])]), (.one (iC 2))],
  (.tup [(.one (.own (0, 0))), (.one (iC 0))]),
  [(.arr 25 1 2 [(.own (0, 1)), (.own (0, 2))]), (.arr 3 1 1 [(iC 5)]), (.arr 3 1 1 [(iC 3)])]⟩
noncomputable def t129 : List Ent := e129 :: t128
noncomputable def e130 : Ent := ⟨112, [(.one (iC 3)), (.agg [(.sl false 2 [(.sl false 0 []), (.sl false 2 [(.sl false 1 [(iC 5)]), (.sl false 1 [(iC 3)])])])]), (.one (iC 2))],
  (.tup [(.agg [(.own (0, 0)), (iC 8)]), (.one (iC 0))]),
  [(.arr 72 2 1 [(iC 5), (iC 3)])]⟩
noncomputable def t130 : List Ent := e130 :: t129
noncomputable def e131 : Ent := ⟨27, [(.agg [(iC 0), (.sl false 3 [(iC 13), (iC 0), (iC 13), (iC 0), (iC 0), (iC 1)]), (.sl false 8 [(iC 6), (iC 2), (iC 7), (iC 2), (iC 11), (iC 9), (iC 7), (iC 4), (iC 15), (iC 9), (iC 5), (iC 3), (iC 19), (iC 6), (iC 21), (iC 16)]), (.sl false 1 [(iC 23)]), (.sl false 1 [(iC 1)])]), (.one (iC 60)), (.one (iC 100000))],
  (.tup [(.agg [(.c (.int .u8 (1))), nC, nC, (.own (0, 0)), (iC 8), (.own (0, 1)), (iC 2), (iC 2)]), (.one (iC 0))]),
  [(.arr 72 2 1 [(iC 5), (iC 3)]), (.arr 54 1 2 [nC, (.own (0, 2))]), (.arr 25 1 2 [(.own (0, 3)), (.own (0, 4))]), (.arr 3 1 1 [(iC 5)]), (.arr 3 1 1 [(iC 3)])]⟩
noncomputable def t131 : List Ent := e131 :: t130
noncomputable def e132 : Ent := ⟨12, [(.agg [(iC 0), (.sl false 3 [(iC 13), (iC 0), (iC 13), (iC 0), (iC 0), (iC 1)]), (.sl false 8 [(iC 6), (iC 2), (iC 7), (iC 2), (iC 11), (iC 9), (iC 7), (iC 4), (iC 15), (iC 9), (iC 5), (iC 3), (iC 19), (iC 6), (iC 21), (iC 16)]), (.sl false 1 [(iC 23)]), (.sl false 1 [(iC 1)])]), (.agg [(bC true), (iC 60), (iC 100000)])],
  (.tup [(.agg [(.c (.int .u8 (1))), nC, nC, (iC 0), (iC 1), (.own (0, 0)), (iC 8)]), (.one (iC 2)), (.one (iC 0))]),
  [(.arr 72 2 1 [(iC 5), (iC 3)])]⟩
noncomputable def t132 : List Ent := e132 :: t131
noncomputable def e133 : Ent := ⟨66, [(.agg [(iC 0), (.sl false 2 [(iC 2), (iC 0), (iC 2), (iC 0)]), (.sl false 0 []), (.sl false 1 [(iC 4)]), (.sl false 0 [])]), (.agg [(iC 0), (.sl false 3 [(iC 13), (iC 0), (iC 13), (iC 0), (iC 0), (iC 1)]), (.sl false 8 [(iC 6), (iC 2), (iC 7), (iC 2), (iC 11), (iC 9), (iC 7), (iC 4), (iC 15), (iC 9), (iC 5), (iC 3), (iC 19), (iC 6), (iC 21), (iC 16)]), (.sl false 1 [(iC 23)]), (.sl false 1 [(iC 1)])]), (.agg [(iC 2), (iC 1), (.sl false 2 [(iC 2), (iC 4)]), (.sl false 3 [(.sl false 0 []), (.sl false 0 []), (.sl false 0 [])]), (.sl false 3 [(iC 2), (iC 4), (iC (-1))]), (.sl false 0 []), (iC 1)])],
  (.one (iC 0)),
  []⟩
noncomputable def t133 : List Ent := e133 :: t132
noncomputable def e134 : Ent := ⟨67, [(.one (iC 3)), (.agg [(.sl false 1 [(iC 5), (iC 3)]), (iC 8)])],
  (.one (iC 0)),
  []⟩
noncomputable def t134 : List Ent := e134 :: t133
noncomputable def e135 : Ent := ⟨60, [(.one (iC 2)), (.agg [(.sl false 1 [(iC 5), (iC 3)]), (iC 6)]), (.agg [(.sl false 0 []), (iC 1)])],
  (.tup [(.agg [(.own (0, 0)), (iC 6)]), (.one (iC 0))]),
  [(.arr 72 2 1 [(iC 5), (iC 3)])]⟩
noncomputable def t135 : List Ent := e135 :: t134
noncomputable def e136 : Ent := ⟨29, [(.agg [(iC 0), (.sl false 2 [(iC 2), (iC 0), (iC 2), (iC 0)]), (.sl false 0 []), (.sl false 1 [(iC 4)]), (.sl false 0 [])]), (.agg [(iC 0), (.sl false 3 [(iC 13), (iC 0), (iC 13), (iC 0), (iC 0), (iC 1)]), (.sl false 8 [(iC 6), (iC 2), (iC 7), (iC 2), (iC 11), (iC 9), (iC 7), (iC 4), (iC 15), (iC 9), (iC 5), (iC 3), (iC 19), (iC 6), (iC 21), (iC 16)]), (.sl false 1 [(iC 23)]), (.sl false 1 [(iC 1)])]), (.agg [(iC 2), (iC 1), (.sl false 2 [(iC 2), (iC 4)]), (.sl false 3 [(.sl false 0 []), (.sl false 0 []), (.sl false 0 [])]), (.sl false 3 [(iC 2), (iC 4), (iC (-1))]), (.sl false 0 []), (iC 1)]), (.agg [(iC 0), (iC 1), (.sl false 1 [(iC 5), (iC 3)]), (iC 8)])],
  (.tup [(.agg [(iC 3), (iC 1), (.own (0, 0)), (iC 6)]), (.one (iC 0))]),
  [(.arr 72 2 1 [(iC 5), (iC 3)])]⟩
noncomputable def t136 : List Ent := e136 :: t135
noncomputable def e137 : Ent := ⟨4, [(.agg [(iC 0), (.sl false 2 [(iC 2), (iC 0), (iC 2), (iC 0)]), (.sl false 0 []), (.sl false 1 [(iC 4)]), (.sl false 0 [])]), (.one (.sl false 1 [(sC [112, 114, 101, 102, 105, 120]), (iC 2)])), (.one (iC 99)), (.agg [(bC true), (iC 60), (iC 100000)])],
  (.tup [(.agg [(.c (.int .u8 (1))), nC, nC, (iC 3), (iC 1), (.own (0, 0)), (iC 6)]), (.agg [(iC 0), (.own (0, 1)), (.own (0, 2)), (.own (0, 3)), (.own (0, 4))]), (.one (iC 0))]),
  [(.arr 72 2 1 [(iC 5), (iC 3)]), (.arr 23 2 3 [(iC 13), (iC 0), (iC 13), (iC 0), (iC 0), (iC 1)]), (.arr 72 2 8 [(iC 6), (iC 2), (iC 7), (iC 2), (iC 11), (iC 9), (iC 7), (iC 4), (iC 15), (iC 9), (iC 5), (iC 3), (iC 19), (iC 6), (iC 21), (iC 16)]), (.arr 3 1 1 [(iC 23)]), (.arr 3 1 1 [(iC 1)])]⟩
noncomputable def t137 : List Ent := e137 :: t136
noncomputable def e138 : Ent := ⟨240, [(.agg [(iC 0), (.sl false 2 [(iC 2), (iC 0), (iC 2), (iC 0)]), (.sl false 0 []), (.sl false 1 [(iC 4)]), (.sl false 0 [])]), (.one (iC 1)), (.one (.sl false 2 [(iC 0), (iC 0)]))],
  (.tup [(.agg [(iC 0), (.own (0, 0)), nC]), (.one (iC 0))]),
  [(.arr 25 1 1 [(.own (0, 1))]), (.arr 3 1 3 [(iC 0), (iC 0), (iC 0)])]⟩
noncomputable def t138 : List Ent := e138 :: t137
noncomputable def e139 : Ent := ⟨187, [(.agg [(iC 0), (.sl false 2 [(iC 2), (iC 0), (iC 2), (iC 0)]), (.sl false 0 []), (.sl false 1 [(iC 4)]), (.sl false 0 [])]), (.one (iC 1))],
  (.tup [(.agg [(iC 0), (.own (0, 0)), nC]), (.one (iC 0))]),
  [(.arr 25 1 1 [(.own (0, 1))]), (.arr 3 1 3 [(iC 0), (iC 0), (iC 0)])]⟩
noncomputable def t139 : List Ent := e139 :: t138
noncomputable def e140 : Ent := ⟨165, [(.agg [(iC 0), (.sl false 2 [(iC 2), (iC 0), (iC 2), (iC 0)]), (.sl false 0 []), (.sl false 1 [(iC 4)]), (.sl false 0 [])]), (.one (iC 0))],
  (.tup [(.agg [(iC 0), (.own (0, 0)), (.own (0, 2))]), (.one (iC 0))]),
  [(.arr 25 1 1 [(.own (0, 1))]), (.arr 3 1 3 [(iC 0), (iC 0), (iC 0)]), (.arr 25 1 1 [nC])]⟩
noncomputable def t140 : List Ent := e140 :: t139
noncomputable def e141 : Ent := ⟨107, [(.agg [(iC 0), (.sl false 2 [(iC 2), (iC 0), (iC 2), (iC 0)]), (.sl false 0 []), (.sl false 1 [(iC 4)]), (.sl false 0 [])]), (.one (iC 0)), (.one (iC 100000))],
  (.tup [(.agg [(bC false), nC, nC, (iC 1), (iC 0)]), (.one (iC 0))]),
  []⟩
noncomputable def t141 : List Ent := e141 :: t140
noncomputable def e142 : Ent := ⟨240, [(.agg [(iC 0), (.sl false 2 [(iC 2), (iC 0), (iC 2), (iC 0)]), (.sl false 0 []), (.sl false 1 [(iC 4)]), (.sl false 0 [])]), (.one (iC 2)), (.one (.sl false 2 [(iC 0), (iC 0)]))],
  (.tup [(.agg [(iC 0), (.own (0, 0)), nC]), (.one (iC 0))]),
  [(.arr 25 1 2 [(.own (0, 1)), (.own (0, 2))]), (.arr 3 1 3 [(iC 0), (iC 0), (iC 0)]), (.arr 3 1 3 [(iC 0), (iC 0), (iC 0)])]⟩
noncomputable def t142 : List Ent := e142 :: t141
noncomputable def e143 : Ent := ⟨187, [(.agg [(iC 0), (.sl false 2 [(iC 2), (iC 0), (iC 2), (iC 0)]), (.sl false 0 []), (.sl false 1 [(iC 4)]), (.sl false 0 [])]), (.one (iC 2))],
  (.tup [(.agg [(iC 0), (.own (0, 0)), nC]), (.one (iC 0))]),
  [(.arr 25 1 2 [(.own (0, 1)), (.own (0, 2))]), (.arr 3 1 3 [(iC 0), (iC 0), (iC 0)]), (.arr 3 1 3 [(iC 0), (iC 0), (iC 0)])]⟩
noncomputable def t143 : List Ent := e143 :: t142
noncomputable def e144 : Ent := ⟨165, [(.agg [(iC 0), (.sl false 2 [(iC 2), (iC 0), (iC 2), (iC 0)]), (.sl false 0 []), (.sl false 1 [(iC 4)]), (.sl false 0 [])]), (.one (iC 1))],
  (.tup [(.agg [(iC 0), (.own (0, 0)), (.own (0, 3))]), (.one (iC 0))]),
  [(.arr 25 1 2 [(.own (0, 1)), (.own (0, 2))]), (.arr 3 1 3 [(iC 0), (iC 0), (iC 0)]), (.arr 3 1 3 [(iC 0), (iC 0), (iC 0)]), (.arr 25 1 1 [nC])]⟩
noncomputable def t144 : List Ent := e144 :: t143
noncomputable def e145 : Ent := ⟨107, [(.agg [(iC 0), (.sl false 2 [(iC 2), (iC 0), (iC 2), (iC 0)]), (.sl false 0 []), (.sl false 1 [(iC 4)]), (.sl false 0 [])]), (.one (iC 1)), (.one (iC 100000))],
  (.tup [(.agg [(bC false), nC, nC, (iC 1), (iC 0)]), (.one (iC 0))]),
  []⟩
noncomputable def t145 : List Ent := e145 :: t144
noncomputable def e146 : Ent := ⟨240, [(.agg [(iC 0), (.sl false 2 [(iC 2), (iC 0), (iC 2), (iC 0)]), (.sl false 0 []), (.sl false 1 [(iC 4)]), (.sl false 0 [])]), (.one (iC 3)), (.one (.sl false 2 [(iC 0), (iC 0)]))],
  (.tup [(.agg [(iC 0), (.own (0, 0)), nC]), (.one (iC 0))]),
  [(.arr 25 1 3 [(.own (0, 1)), (.own (0, 2)), (.own (0, 3))]), (.arr 3 1 3 [(iC 0), (iC 0), (iC 0)]), (.arr 3 1 3 [(iC 0), (iC 0), (iC 0)]), (.arr 3 1 3 [(iC 0), (iC 0), (iC 0)])]⟩
noncomputable def t146 : List Ent := e146 :: t145
noncomputable def e147 : Ent := ⟨187, [(.agg [(iC 0), (.sl false 2 [(iC 2), (iC 0), (iC 2), (iC 0)]), (.sl false 0 []), (.sl false 1 [(iC 4)]), (.sl false 0 [])]), (.one (iC 3))],
  (.tup [(.agg [(iC 0), (.own (0, 0)), nC]), (.one (iC 0))]),
  [(.arr 25 1 3 [(.own (0, 1)), (.own (0, 2)), (.own (0, 3))]), (.arr 3 1 3 [(iC 0), (iC 0), (iC 0)]), (.arr 3 1 3 [(iC 0), (iC 0), (iC 0)]), (.arr 3 1 3 [(iC 0), (iC 0), (iC 0)])]⟩
noncomputable def t147 : List Ent := e147 :: t146
noncomputable def e148 : Ent := ⟨165, [(.agg [(iC 0), (.sl false 2 [(iC 2), (iC 0), (iC 2), (iC 0)]), (.sl false 0 []), (.sl false 1 [(iC 4)]), (.sl false 0 [])]), (.one (iC 2))],
  (.tup [(.agg [(iC 0), (.own (0, 0)), (.own (0, 4))]), (.one (iC 0))]),
  [(.arr 25 1 3 [(.own (0, 1)), (.own (0, 2)), (.own (0, 3))]), (.arr 3 1 3 [(iC 0), (iC 0), (iC 0)]), (.arr 3 1 3 [(iC 0), (iC 0), (iC 0)]), (.arr 3 1 3 [(iC 0), (iC 0), (iC 0)]), (.arr 25 1 1 [nC])]⟩
noncomputable def t148 : List Ent := e148 :: t147
noncomputable def e149 : Ent := ⟨107, [(.agg [(iC 0), (.sl false 2 [(iC 2), (iC 0), (iC 2), (iC 0)]), (.sl false 0 []), (.sl false 1 [(iC 4)]), (.sl false 0 [])]), (.one (iC 2)), (.one (iC 100000))],
  (.tup [(.agg [(bC false), nC, nC, (iC 1), (iC 0)]), (.one (iC 0))]),
  []⟩
noncomputable def t149 : List Ent := e149 :: t148
noncomputable def e150 : Ent := ⟨240, [(.agg [(iC 0), (.sl false 2 [(iC 2), (iC 0), (iC 2), (iC 0)]), (.sl false 1 [(iC 5), (iC 3)]), (.sl false 1 [(iC 4)]), (.sl false 0 [])]), (.one (iC 4)), (.one (.sl false 2 [(iC 0), (iC 0)]))],
  (.tup [(.agg [(iC 4), (.own (0, 0)), (.own (0, 5))]), (.one (iC 0))]),
  [(.arr 25 1 4 [(.own (0, 1)), (.own (0, 2)), (.own (0, 3)), (.own (0, 4))]), (.arr 3 1 4 [(iC 0), (iC 0), (iC 0), (iC 2)]), (.arr 3 1 4 [(iC 0), (iC 0), (iC 0), (iC 4)]), (.arr 3 1 4 [(iC 0), (iC 0), (iC 0), (iC 6)]), (.arr 3 1 4 [(iC 0), (iC 0), (iC 0), (iC 8)]), (.arr 25 1 4 [(.own (0, 6)), (.own (0, 7)), (.own (0, 8)), (.own (0, 9))]), (.arr 3 1 1 [(iC 2)]), (.arr 3 1 1 [(iC 4)]), (.arr 3 1 1 [(iC 6)]), (.arr 3 1 1 [(iC 8)])]⟩
noncomputable def t150 : List Ent := e150 :: t149
noncomputable def e151 : Ent := ⟨187, [(.agg [(iC 0), (.sl false 2 [(iC 2), (iC 0), (iC 2), (iC 0)]), (.sl false 1 [(iC 5), (iC 3)]), (.sl false 1 [(iC 4)]), (.sl false 0 [])]), (.one (iC 4))],
  (.tup [(.agg [(iC 4), (.own (0, 0)), (.own (0, 5))]), (.one (iC 0))]),
  [(.arr 25 1 4 [(.own (0, 1)), (.own (0, 2)), (.own (0, 3)), (.own (0, 4))]), (.arr 3 1 4 [(iC 0), (iC 0), (iC 0), (iC 2)]), (.arr 3 1 4 [(iC 0), (iC 0), (iC 0), (iC 4)]), (.arr 3 1 4 [(iC 0), (iC 0), (iC 0), (iC 6)]), (.arr 3 1 4 [(iC 0), (iC 0), (iC 0), (iC 8)]), (.arr 25 1 4 [(.own (0, 6)), (.own (0, 7)), (.own (0, 8)), (.own (0, 9))]), (.arr 3 1 1 [(iC 2)]), (.arr 3 1 1 [(iC 4)]), (.arr 3 1 1 [(iC 6)]), (.arr 3 1 1 [(iC 8)])]⟩
noncomputable def t151 : List Ent := e151 :: t150
noncomputable def e152 : Ent := ⟨166, [(.one (iC 4)), (.one (.sl false 5 [(.sl false 1 [(iC 2)]), (.sl false 1 [(iC 4)]), (.sl false 1 [(iC 6)]), (.sl false 1 [(iC 8)]), (.sl false 1 [(iC 9)])])), (.one (iC 100000))],
  (.tup [(.agg [(bC false), nC, nC, (.own (0, 0)), (iC 0)]), (.one (iC 0))]),
  [(.arr 25 1 1 [(.own (0, 1))]), (.arr 3 1 0 [])]⟩
noncomputable def t152 : List Ent := e152 :: t151
noncomputable def e153 : Ent := ⟨32, [(.agg [(iC 0), (.sl false 2 [(iC 2), (iC 0), (iC 2), (iC 0)]), (.sl false 0 []), (.sl false 1 [(iC 4)]), (.sl false 0 [])]), (.agg [(iC 3), (iC 1), (.sl false 1 [(iC 5), (iC 3)]), (iC 6)]), (.one (iC 100000))],
  (.tup [(.one (bC true)), (.one (iC 0))]),
  []⟩
noncomputable def t153 : List Ent := e153 :: t152
noncomputable def e154 : Ent := ⟨14, [(.agg [(iC 0), (.sl false 2 [(iC 2), (iC 0), (iC 2), (iC 0)]), (.sl false 0 []), (.sl false 1 [(iC 4)]), (.sl false 0 [])]), (.agg [(.c (.int .u8 (1))), (.sl false 0 []), (.sl false 0 []), (iC 3), (iC 1), (.sl false 1 [(iC 5), (iC 3)]), (iC 6)]), (.one (iC 100000))],
  (.one (iC 0)),
  []⟩
noncomputable def t154 : List Ent := e154 :: t153
noncomputable def e155 : Ent := ⟨5, [(.agg [(iC 0), (.sl false 2 [(iC 2), (iC 0), (iC 2), (iC 0)]), (.sl false 0 []), (.sl false 1 [(iC 4)]), (.sl false 0 [])]), (.one (.sl false 1 [(sC [112, 114, 101, 102, 105, 120]), (iC 2)])), (.one (iC 99)), (.agg [(bC true), (iC 60), (iC 100000)])],
  (.tup [(.agg [(.c (.int .u8 (1))), nC, nC, (iC 3), (iC 1), (.own (0, 0)), (iC 6)]), (.one (iC 0))]),
  [(.arr 72 2 1 [(iC 5), (iC 3)])]⟩
noncomputable def t155 : List Ent := e155 :: t154
noncomputable def e156 : Ent := ⟨10, [],
  (.one (bC true)),
  []⟩
noncomputable def t156 : List Ent := e156 :: t155
noncomputable def e157 : Ent := ⟨18, [(.agg [(iC 0), (.sl false 1 [(iC 1), (iC 0)]), (.sl false 0 []), (.sl false 1 [(iC 2)]), (.sl false 0 [])])],
  (.one (iC 0)),
  []⟩
noncomputable def t157 : List Ent := e157 :: t156
noncomputable def e158 : Ent := ⟨22, [(.agg [(iC 0), (.sl false 1 [(iC 1), (iC 0)]), (.sl false 0 []), (.sl false 1 [(iC 2)]), (.sl false 0 [])])],
  (.tup [(.agg [(iC 0), (iC 1), (.own (0, 0)), (.own (0, 1)), (.own (0, 2)), nC, (iC 1)]), (.one (iC 0))]),
  [(.arr 3 1 1 [(iC 2)]), (.arr 25 1 1 [nC]), (.arr 3 1 1 [(iC 2)])]⟩
noncomputable def t158 : List Ent := e158 :: t157
noncomputable def e159 : Ent := ⟨57, [(.agg [(iC 0), (.sl false 1 [(iC 1), (iC 0)]), (.sl false 0 []), (.sl false 1 [(iC 2)]), (.sl false 0 [])]), (.one (iC 2))],
  (.tup [(.agg [(iC 0), (.own (0, 0)), nC, (.own (0, 1)), (.own (0, 2)), (iC 0), (iC 2), (.own (0, 3)), (.own (0, 4)), (.own (0, 5)), nC, (iC 1)]), (.one (iC 0))]),
  [(.arr 23 2 1 [(iC 1), (iC 0)]), (.arr 3 1 1 [(iC 1)]), (.arr 3 1 1 [(iC 1)]), (.arr 3 1 1 [(iC 2)]), (.arr 25 1 2 [nC, nC]), (.arr 3 1 1 [(iC 2)])]⟩
noncomputable def t159 : List Ent := e159 :: t158
noncomputable def e160 : Ent := ⟨24, [(.agg [(iC 0), (.sl false 1 [(iC 1), (iC 0)]), (.sl false 0 []), (.sl false 1 [(iC 2)]), (.sl false 0 [])]), (.agg [(sC [112, 104, 97, 115, 101, 115]), (iC 2)]), (.one (iC 0))],
  (.tup [(.agg [(iC 0), (.own (0, 0)), nC, (.own (0, 1)), (.own (0, 2)), (iC 0), (iC 2), (.own (0, 3)), (.own (0, 4)), (.own (0, 5)), nC, (iC 1)]), (.one (iC 0))]),
  [(.arr 23 2 1 [(iC 1), (iC 0)]), (.arr 3 1 1 [(iC 1)]), (.arr 3 1 1 [(iC 1)]), (.arr 3 1 1 [(iC 2)]), (.arr 25 1 2 [nC, nC]), (.arr 3 1 1 [(iC 2)])]⟩
noncomputable def t160 : List Ent := e160 :: t159
noncomputable def e161 : Ent := ⟨18, [(.agg [(iC 0), (.sl false 1 [(iC 1), (iC 0)]), (.sl false 0 []), (.sl false 1 [(iC 1)]), (.sl false 1 [(iC 1)])])],
  (.one (iC 0)),
  []⟩
noncomputable def t161 : List Ent := e161 :: t160
noncomputable def e162 : Ent := ⟨67, [(.one (iC 1)), (.agg [(.sl false 0 []), (iC 1)])],
  (.one (iC 0)),
  []⟩
noncomputable def t162 : List Ent := e162 :: t161
noncomputable def e163 : Ent := ⟨60, [(.one (iC 1)), (.agg [(.sl false 0 []), (iC 1)]), (.agg [(.sl false 0 []), (iC 1)])],
  (.tup [(.agg [(.own (0, 0)), (iC 1)]), (.one (iC 0))]),
  [(.arr 72 2 0 [])]⟩
noncomputable def t163 : List Ent := e163 :: t162
noncomputable def e164 : Ent := ⟨25, [(.agg [(iC 0), (.sl false 1 [(iC 1), (iC 0)]), (.sl false 0 []), (.sl false 1 [(iC 2)]), (.sl false 0 [])]), (.agg [(iC 0), (.sl false 1 [(iC 1), (iC 0)]), (.sl false 0 []), (.sl false 1 [(iC 2)]), (.sl false 0 [])]), (.agg [(iC 0), (.sl false 1 [(iC 1), (iC 0)]), (.sl false 0 []), (.sl false 1 [(iC 1)]), (.sl false 1 [(iC 1)])]), (.agg [(iC 0), (iC 1), (.sl false 1 [(iC 2)]), (.sl false 1 [(.sl false 0 [])]), (.sl false 1 [(iC 2)]), (.sl false 0 []), (iC 1)]), (.agg [(iC 0), (iC 2), (.sl false 1 [(iC 2)]), (.sl false 2 [(.sl false 0 []), (.sl false 0 [])]), (.sl false 1 [(iC 2)]), (.sl false 0 []), (iC 1)])],
  (.tup [(.agg [(iC 0), (iC 2), (.own (0, 0)), (.own (0, 1)), (.own (0, 4)), (.own (0, 5)), (iC 1)]), (.one (iC 0))]),
  [(.arr 3 1 1 [(iC 2)]), (.arr 25 1 2 [(.own (0, 2)), (.own (0, 3))]), (.arr 3 1 0 []), (.arr 3 1 0 []), (.arr 3 1 1 [(iC 2)]), (.arr 72 2 0 [])]⟩
noncomputable def t164 : List Ent := e164 :: t163
noncomputable def e165 : Ent := ⟨11, [(.agg [(iC 0), (.sl false 1 [(iC 1), (iC 0)]), (.sl false 0 []), (.sl false 1 [(iC 2)]), (.sl false 0 [])]), (.one (.sl false 1 [(sC [112, 104, 97, 115, 101, 115]), (iC 2)])), (.one (iC 0))],
  (.tup [(.agg [(iC 0), (.own (0, 0)), nC, (.own (0, 1)), (.own (0, 2)), (iC 0), (iC 2), (.own (0, 3)), (.own (0, 4)), (.own (0, 7)), (.own (0, 8)), (iC 1)]), (.one (.own (0, 9))), (.one (iC 0))]),
  [(.arr 23 2 1 [(iC 1), (iC 0)]), (.arr 3 1 1 [(iC 1)]), (.arr 3 1 1 [(iC 1)]), (.arr 3 1 1 [(iC 2)]), (.arr 25 1 2 [(.own (0, 5)), (.own (0, 6))]), (.arr 3 1 0 []), (.arr 3 1 0 []), (.arr 3 1 1 [(iC 2)]), (.arr 72 2 0 []), (.arr 4 1 1 [(bC true)])]⟩
noncomputable def t165 : List Ent := e165 :: t164
noncomputable def e166 : Ent := ⟨240, [(.agg [(iC 0), (.sl false 1 [(iC 1), (iC 0)]), (.sl false 0 []), (.sl false 1 [(iC 1)]), (.sl false 1 [(iC 1)])]), (.one (iC 1)), (.one (.sl false 1 [(iC 0)]))],
  (.tup [(.agg [(iC 0), (.own (0, 0)), nC]), (.one (iC 0))]),
  [(.arr 25 1 1 [(.own (0, 1))]), (.arr 3 1 2 [(iC 0), (iC 0)])]⟩
noncomputable def t166 : List Ent := e166 :: t165
noncomputable def e167 : Ent := ⟨187, [(.agg [(iC 0), (.sl false 1 [(iC 1), (iC 0)]), (.sl false 0 []), (.sl false 1 [(iC 1)]), (.sl false 1 [(iC 1)])]), (.one (iC 1))],
  (.tup [(.agg [(iC 0), (.own (0, 0)), nC]), (.one (iC 0))]),
  [(.arr 25 1 1 [(.own (0, 1))]), (.arr 3 1 2 [(iC 0), (iC 0)])]⟩
noncomputable def t167 : List Ent := e167 :: t166
noncomputable def e168 : Ent := ⟨165, [(.agg [(iC 0), (.sl false 1 [(iC 1), (iC 0)]), (.sl false 0 []), (.sl false 1 [(iC 1)]), (.sl false 1 [(iC 1)])]), (.one (iC 0))],
  (.tup [(.agg [(iC 0), (.own (0, 0)), nC]), (.one (iC 0))]),
  [(.arr 25 1 1 [(.own (0, 1))]), (.arr 3 1 2 [(iC 0), (iC 0)])]⟩
noncomputable def t168 : List Ent := e168 :: t167
noncomputable def e169 : Ent := ⟨259, [(.one (.sl false 0 [])), (.agg [(iC 0), (.sl false 0 []), (.sl false 0 [])])],
  (.tup [(.one (iC 0)), (.one nC), (.one (iC 6))]),
  []⟩
noncomputable def t169 : List Ent := e169 :: t168
noncomputable def e170 : Ent := ⟨166, [(.one (iC 0)), (.one (.sl false 0 [])), (.one (iC 99))],
  (.tup [(.agg [(bC true), (.own (0, 0)), nC, nC, (iC 0)]), (.one (iC 0))]),
  [(.arr 4 1 0 [])]⟩
noncomputable def t170 : List Ent := e170 :: t169
noncomputable def e171 : Ent := ⟨215, [(.agg [(iC 0), (.sl false 1 [(.sl false 2 [(iC 0), (iC 0)])]), (.sl false 0 [])])],
  (.one (iC 0)),
  []⟩
noncomputable def t171 : List Ent := e171 :: t170
noncomputable def e172 : Ent := ⟨167, [(.agg [(iC 0), (.sl false 1 [(iC 1), (iC 0)]), (.sl false 0 []), (.sl false 1 [(iC 1)]), (.sl false 1 [(iC 1)])]), (.agg [(iC 0), (.sl false 1 [(.sl false 2 [(iC 0), (iC 0)])]), (.sl false 0 [])]), (.one (.sl false 0 []))],
  (.tup [(.agg [(.own (0, 0)), (.own (0, 1))]), (.one (iC 0))]),
  [(.arr 4 1 1 [(bC false)]), (.arr 32 1 1 [nC])]⟩
noncomputable def t172 : List Ent := e172 :: t171
noncomputable def e173 : Ent := ⟨107, [(.agg [(iC 0), (.sl false 1 [(iC 1), (iC 0)]), (.sl false 0 []), (.sl false 1 [(iC 1)]), (.sl false 1 [(iC 1)])]), (.one (iC 0)), (.one (iC 99))],
  (.tup [(.agg [(bC true), (.own (0, 0)), (.own (0, 1)), (iC 0), (iC 0)]), (.one (iC 0))]),
  [(.arr 4 1 1 [(bC false)]), (.arr 32 1 1 [nC])]⟩
noncomputable def t173 : List Ent := e173 :: t172
noncomputable def e174 : Ent := ⟨240, [(.agg [(iC 0), (.sl false 1 [(iC 1), (iC 0)]), (.sl false 0 []), (.sl false 1 [(iC 1)]), (.sl false 1 [(iC 1)])]), (.one (iC 2)), (.one (.sl false 1 [(iC 0)]))],
  (.tup [(.agg [(iC 0), (.own (0, 0)), nC]), (.one (iC 0))]),
  [(.arr 25 1 2 [(.own (0, 1)), (.own (0, 2))]), (.arr 3 1 2 [(iC 0), (iC 0)]), (.arr 3 1 2 [(iC 0), (iC 1)])]⟩
noncomputable def t174 : List Ent := e174 :: t173
noncomputable def e175 : Ent := ⟨187, [(.agg [(iC 0), (.sl false 1 [(iC 1), (iC 0)]), (.sl false 0 []), (.sl false 1 [(iC 1)]), (.sl false 1 [(iC 1)])]), (.one (iC 2))],
  (.tup [(.agg [(iC 0), (.own (0, 0)), nC]), (.one (iC 0))]),
  [(.arr 25 1 2 [(.own (0, 1)), (.own (0, 2))]), (.arr 3 1 2 [(iC 0), (iC 0)]), (.arr 3 1 2 [(iC 0), (iC 1)])]⟩
noncomputable def t175 : List Ent := e175 :: t174
noncomputable def e176 : Ent := ⟨165, [(.agg [(iC 0), (.sl false 1 [(iC 1), (iC 0)]), (.sl false 0 []), (.sl false 1 [(iC 1)]), (.sl false 1 [(iC 1)])]), (.one (iC 1))],
  (.tup [(.agg [(iC 0), (.own (0, 0)), nC]), (.one (iC 0))]),
  [(.arr 25 1 2 [(.own (0, 1)), (.own (0, 2))]), (.arr 3 1 2 [(iC 0), (iC 0)]), (.arr 3 1 2 [(iC 0), (iC 1)])]⟩
noncomputable def t176 : List Ent := e176 :: t175
noncomputable def e177 : Ent := ⟨215, [(.agg [(iC 0), (.sl false 2 [(.sl false 2 [(iC 0), (iC 0)]), (.sl false 2 [(iC 0), (iC 1)])]), (.sl false 0 [])])],
  (.one (iC 0)),
  []⟩
noncomputable def t177 : List Ent := e177 :: t176
noncomputable def e178 : Ent := ⟨167, [(.agg [(iC 0), (.sl false 1 [(iC 1), (iC 0)]), (.sl false 0 []), (.sl false 1 [(iC 1)]), (.sl false 1 [(iC 1)])]), (.agg [(iC 0), (.sl false 2 [(.sl false 2 [(iC 0), (iC 0)]), (.sl false 2 [(iC 0), (iC 1)])]), (.sl false 0 [])]), (.one (.sl false 0 []))],
  (.tup [(.agg [(.own (0, 0)), (.own (0, 1))]), (.one (iC 0))]),
  [(.arr 4 1 1 [(bC false)]), (.arr 32 1 2 [nC, nC])]⟩
noncomputable def t178 : List Ent := e178 :: t177
noncomputable def e179 : Ent := ⟨107, [(.agg [(iC 0), (.sl false 1 [(iC 1), (iC 0)]), (.sl false 0 []), (.sl false 1 [(iC 1)]), (.sl false 1 [(iC 1)])]), (.one (iC 1)), (.one (iC 99))],
  (.tup [(.agg [(bC true), (.own (0, 0)), (.own (0, 1)), (iC 0), (iC 0)]), (.one (iC 0))]),
  [(.arr 4 1 1 [(bC false)]), (.arr 32 1 2 [nC, nC])]⟩
noncomputable def t179 : List Ent := e179 :: t178
noncomputable def e180 : Ent := ⟨28, [(.agg [(iC 0), (.sl false 1 [(iC 1), (iC 0)]), (.sl false 0 []), (.sl false 1 [(iC 1)]), (.sl false 1 [(iC 1)])]), (.one (iC 1)), (.one (iC 99))],
  (.tup [(.agg [(bC true), (.sl true 1 [(bC false)]), (.sl true 1 [nC]), (iC 0), (iC 0)]), (.one (iC 0))]),
  []⟩
noncomputable def t180 : List Ent := e180 :: t179
noncomputable def e181 : Ent := ⟨12, [(.agg [(iC 0), (.sl false 1 [(iC 1), (iC 0)]), (.sl false 0 []), (.sl false 1 [(iC 1)]), (.sl false 1 [(iC 1)])]), (.agg [(bC false), (iC 1), (iC 99)])],
  (.tup [(.agg [(.c (.int .u8 (2))), (.sl true 1 [(bC false)]), (.sl true 1 [nC]), (iC 0), (iC 0), nC, (iC 0)]), (.one (iC 0)), (.one (iC 0))]),
  []⟩
noncomputable def t181 : List Ent := e181 :: t180
noncomputable def e182 : Ent := ⟨66, [(.agg [(iC 0), (.sl false 1 [(iC 1), (iC 0)]), (.sl false 0 []), (.sl false 1 [(iC 2)]), (.sl false 0 [])]), (.agg [(iC 0), (.sl false 1 [(iC 1), (iC 0)]), (.sl false 0 []), (.sl false 1 [(iC 1)]), (.sl false 1 [(iC 1)])]), (.agg [(iC 0), (iC 2), (.sl false 1 [(iC 2)]), (.sl false 2 [(.sl false 0 []), (.sl false 0 [])]), (.sl false 1 [(iC 2)]), (.sl false 0 []), (iC 1)])],
  (.one (iC 0)),
  []⟩
noncomputable def t182 : List Ent := e182 :: t181
noncomputable def e183 : Ent := ⟨30, [(.agg [(iC 0), (.sl false 1 [(iC 1), (iC 0)]), (.sl false 0 []), (.sl false 1 [(iC 2)]), (.sl false 0 [])]), (.agg [(iC 0), (.sl false 1 [(iC 1), (iC 0)]), (.sl false 0 []), (.sl false 1 [(iC 1)]), (.sl false 1 [(iC 1)])]), (.agg [(iC 0), (iC 2), (.sl false 1 [(iC 2)]), (.sl false 2 [(.sl false 0 []), (.sl false 0 [])]), (.sl false 1 [(iC 2)]), (.sl false 0 []), (iC 1)]), (.agg [(.sl false 1 [(bC false)]), (.sl false 1 [nC])])],
  (.tup [(.agg [(.own (0, 0)), (.cut (0, 1) 2)]), (.one (iC 0))]),
  [(.arr 4 1 1 [(bC false)]), (.arr 32 1 2 [(.own (0, 2)), (.own (0, 3))]), (.arr 4 1 0 []), (.arr 4 1 0 [])]⟩
noncomputable def t183 : List Ent := e183 :: t182
noncomputable def e184 : Ent := ⟨4, [(.agg [(iC 0), (.sl false 1 [(iC 1), (iC 0)]), (.sl false 0 []), (.sl false 1 [(iC 2)]), (.sl false 0 [])]), (.one (.sl false 1 [(sC [112, 104, 97, 115, 101, 115]), (iC 2)])), (.one (iC 0)), (.agg [(bC false), (iC 1), (iC 99)])],
  (.tup [(.agg [(.c (.int .u8 (2))), (.own (0, 0)), (.cut (0, 1) 2), (iC 0), (iC 0), nC, (iC 0)]), (.agg [(iC 0), (.own (0, 4)), nC, (.own (0, 5)), (.own (0, 6))]), (.one (iC 0))]),
  [(.arr 4 1 1 [(bC false)]), (.arr 32 1 2 [(.own (0, 2)), (.own (0, 3))]), (.arr 4 1 0 []), (.arr 4 1 0 []), (.arr 23 2 1 [(iC 1), (iC 0)]), (.arr 3 1 1 [(iC 1)]), (.arr 3 1 1 [(iC 1)])]⟩
noncomputable def t184 : List Ent := e184 :: t183
noncomputable def e185 : Ent := ⟨166, [(.one (iC 0)), (.one (.sl false 0 [])), (.one (iC 100000))],
  (.tup [(.agg [(bC true), (.own (0, 0)), nC, nC, (iC 0)]), (.one (iC 0))]),
  [(.arr 4 1 0 [])]⟩
noncomputable def t185 : List Ent := e185 :: t184
noncomputable def e186 : Ent := ⟨107, [(.agg [(iC 0), (.sl false 1 [(iC 1), (iC 0)]), (.sl false 0 []), (.sl false 1 [(iC 1)]), (.sl false 1 [(iC 1)])]), (.one (iC 0)), (.one (iC 100000))],
  (.tup [(.agg [(bC true), (.own (0, 0)), (.own (0, 1)), (iC 0), (iC 0)]), (.one (iC 0))]),
  [(.arr 4 1 1 [(bC false)]), (.arr 32 1 1 [nC])]⟩
noncomputable def t186 : List Ent := e186 :: t185
noncomputable def e187 : Ent := ⟨27, [(.agg [(iC 0), (.sl false 1 [(iC 1), (iC 0)]), (.sl false 0 []), (.sl false 1 [(iC 1)]), (.sl false 1 [(iC 1)])]), (.one (iC 60)), (.one (iC 100000))],
  (.tup [(.agg [(.c (.int .u8 (2))), (.own (0, 0)), (.own (0, 1)), nC, (iC 0), nC, (iC 0), (iC 0)]), (.one (iC 0))]),
  [(.arr 4 1 1 [(bC false)]), (.arr 32 1 1 [nC])]⟩
noncomputable def t187 : List Ent := e187 :: t186
noncomputable def e188 : Ent := ⟨12, [(.agg [(iC 0), (.sl false 1 [(iC 1), (iC 0)]), (.sl false 0 []), (.sl false 1 [(iC 1)]), (.sl false 1 [(iC 1)])]), (.agg [(bC true), (iC 60), (iC 100000)])],
  (.tup [(.agg [(.c (.int .u8 (2))), (.own (0, 0)), (.own (0, 1)), (iC 0), (iC 0), nC, (iC 0)]), (.one (iC 0)), (.one (iC 0))]),
  [(.arr 4 1 1 [(bC false)]), (.arr 32 1 1 [nC])]⟩
noncomputable def t188 : List Ent := e188 :: t187
noncomputable def e189 : Ent := ⟨30, [(.agg [(iC 0), (.sl false 1 [(iC 1), (iC 0)]), (.sl false 0 []), (.sl false 1 [(iC 2)]), (.sl false 0 [])]), (.agg [(iC 0), (.sl false 1 [(iC 1), (iC 0)]), (.sl false 0 []), (.sl false 1 [(iC 1)]), (.sl false 1 [(iC 1)])]), (.agg [(iC 0), (iC 2), (.sl false 1 [(iC 2)]), (.sl false 2 [(.sl false 0 []), (.sl false 0 [])]), (.sl false 1 [(iC 2)]), (.sl false 0 []), (iC 1)]), (.agg [(.sl false 1 [(bC false)]), (.sl false 1 [(.sl false 0 [])])])],
  (.tup [(.agg [(.own (0, 0)), (.cut (0, 1) 2)]), (.one (iC 0))]),
  [(.arr 4 1 1 [(bC false)]), (.arr 32 1 2 [(.own (0, 2)), (.own (0, 3))]), (.arr 4 1 0 []), (.arr 4 1 0 [])]⟩
noncomputable def t189 : List Ent := e189 :: t188
noncomputable def e190 : Ent := ⟨4, [(.agg [(iC 0), (.sl false 1 [(iC 1), (iC 0)]), (.sl false 0 []), (.sl false 1 [(iC 2)]), (.sl false 0 [])]), (.one (.sl false 1 [(sC [112, 104, 97, 115, 101, 115]), (iC 2)])), (.one (iC 0)), (.agg [(bC true), (iC 60), (iC 100000)])],
  (.tup [(.agg [(.c (.int .u8 (2))), (.own (0, 0)), (.cut (0, 1) 2), (iC 0), (iC 0), nC, (iC 0)]), (.agg [(iC 0), (.own (0, 4)), nC, (.own (0, 5)), (.own (0, 6))]), (.one (iC 0))]),
  [(.arr 4 1 1 [(bC false)]), (.arr 32 1 2 [(.own (0, 2)), (.own (0, 3))]), (.arr 4 1 0 []), (.arr 4 1 0 []), (.arr 23 2 1 [(iC 1), (iC 0)]), (.arr 3 1 1 [(iC 1)]), (.arr 3 1 1 [(iC 1)])]⟩
noncomputable def t190 : List Ent := e190 :: t189
noncomputable def e191 : Ent := ⟨31, [(.agg [(iC 0), (.sl false 1 [(iC 1), (iC 0)]), (.sl false 0 []), (.sl false 1 [(iC 2)]), (.sl false 0 [])]), (.agg [(.sl false 1 [(bC false)]), (.sl false 2 [(.sl false 0 []), (.sl false 0 [])])])],
  (.tup [(.one (iC 0)), (.one (iC 0))]),
  []⟩
noncomputable def t191 : List Ent := e191 :: t190
noncomputable def e192 : Ent := ⟨14, [(.agg [(iC 0), (.sl false 1 [(iC 1), (iC 0)]), (.sl false 0 []), (.sl false 1 [(iC 2)]), (.sl false 0 [])]), (.agg [(.c (.int .u8 (2))), (.sl false 1 [(bC false)]), (.sl false 2 [(.sl false 0 []), (.sl false 0 [])]), (iC 0), (iC 0), (.sl false 0 []), (iC 0)]), (.one (iC 100000))],
  (.one (iC 0)),
  []⟩
noncomputable def t192 : List Ent := e192 :: t191
noncomputable def e193 : Ent := ⟨5, [(.agg [(iC 0), (.sl false 1 [(iC 1), (iC 0)]), (.sl false 0 []), (.sl false 1 [(iC 2)]), (.sl false 0 [])]), (.one (.sl false 1 [(sC [112, 104, 97, 115, 101, 115]), (iC 2)])), (.one (iC 0)), (.agg [(bC true), (iC 60), (iC 100000)])],
  (.tup [(.agg [(.c (.int .u8 (2))), (.own (0, 0)), (.cut (0, 1) 2), (iC 0), (iC 0), nC, (iC 0)]), (.one (iC 0))]),
  [(.arr 4 1 1 [(bC false)]), (.arr 32 1 2 [(.own (0, 2)), (.own (0, 3))]), (.arr 4 1 0 []), (.arr 4 1 0 [])]⟩
noncomputable def t193 : List Ent := e193 :: t192
noncomputable def e194 : Ent := ⟨24, [(.agg [(iC 0), (.sl false 2 [(iC 2), (iC 0), (iC 2), (iC 0)]), (.sl false 0 []), (.sl false 1 [(iC 4)]), (.sl false 0 [])]), (.agg [(sC [112, 114, 101, 102, 105, 120]), (iC 2)]), (.one (iC 0))],
  (.tup [(.agg [(iC 0), (.own (0, 0)), (.own (0, 1)), (.own (0, 2)), (.own (0, 3)), (iC 2), (iC 1), (.own (0, 4)), (.own (0, 5)), (.own (0, 6)), nC, (iC 1)]), (.one (iC 0))]),
  [(.arr 23 2 3 [(iC 13), (iC 0), (iC 13), (iC 0), (iC 0), (iC 1)]), (.arr 72 2 8 [(iC 6), (iC 2), (iC 7), (iC 2), (iC 11), (iC 9), (iC 7), (iC 4), (iC 15), (iC 9), (iC 5), (iC 3), (iC 19), (iC 6), (iC 21), (iC 16)]), (.arr 3 1 1 [(iC 23)]), (.arr 3 1 1 [(iC 1)]), (.arr 3 1 2 [(iC 2), (iC 4)]), (.arr 25 1 3 [nC, nC, nC]), (.arr 3 1 3 [(iC 2), (iC 4), (iC (-1))])]⟩
noncomputable def t194 : List Ent := e194 :: t193
noncomputable def e195 : Ent := ⟨57, [(.agg [(iC 0), (.sl false 3 [(iC 13), (iC 0), (iC 13), (iC 0), (iC 0), (iC 1)]), (.sl false 8 [(iC 6), (iC 2), (iC 7), (iC 2), (iC 11), (iC 9), (iC 7), (iC 4), (iC 15), (iC 9), (iC 5), (iC 3), (iC 19), (iC 6), (iC 21), (iC 16)]), (.sl false 1 [(iC 23)]), (.sl false 1 [(iC 1)])]), (.one (iC 2))],
  (.tup [(.agg [(iC 0), (.own (0, 0)), (.own (0, 1)), (.own (0, 2)), (.own (0, 3)), (iC 0), (iC 2), (.own (0, 4)), (.own (0, 5)), (.own (0, 6)), nC, (iC 1)]), (.one (iC 0))]),
  [(.arr 23 2 3 [(iC 13), (iC 0), (iC 13), (iC 0), (iC 0), (iC 1)]), (.arr 72 2 9 [(iC 6), (iC 2), (iC 7), (iC 2), (iC 11), (iC 9), (iC 7), (iC 4), (iC 15), (iC 9), (iC 5), (iC 3), (iC 19), (iC 6), (iC 21), (iC 16), (iC 22), (iC 12)]), (.arr 3 1 1 [(iC 25)]), (.arr 3 1 1 [(iC 1)]), (.arr 3 1 3 [(iC 2), (iC 4), (iC 6)]), (.arr 25 1 2 [nC, nC]), (.arr 3 1 3 [(iC 2), (iC 4), (iC 6)])]⟩
noncomputable def t195 : List Ent := e195 :: t194
noncomputable def e196 : Ent := ⟨24, [(.agg [(iC 0), (.sl false 3 [(iC 13), (iC 0), (iC 13), (iC 0), (iC 0), (iC 1)]), (.sl false 8 [(iC 6), (iC 2), (iC 7), (iC 2), (iC 11), (iC 9), (iC 7), (iC 4), (iC 15), (iC 9), (iC 5), (iC 3), (iC 19), (iC 6), (iC 21), (iC 16)]), (.sl false 1 [(iC 23)]), (.sl false 1 [(iC 1)])]), (.agg [(sC [112, 104, 97, 115, 101, 115]), (iC 2)]), (.one (iC 0))],
  (.tup [(.agg [(iC 0), (.own (0, 0)), (.own (0, 1)), (.own (0, 2)), (.own (0, 3)), (iC 0), (iC 2), (.own (0, 4)), (.own (0, 5)), (.own (0, 6)), nC, (iC 1)]), (.one (iC 0))]),
  [(.arr 23 2 3 [(iC 13), (iC 0), (iC 13), (iC 0), (iC 0), (iC 1)]), (.arr 72 2 9 [(iC 6), (iC 2), (iC 7), (iC 2), (iC 11), (iC 9), (iC 7), (iC 4), (iC 15), (iC 9), (iC 5), (iC 3), (iC 19), (iC 6), (iC 21), (iC 16), (iC 22), (iC 12)]), (.arr 3 1 1 [(iC 25)]), (.arr 3 1 1 [(iC 1)]), (.arr 3 1 3 [(iC 2), (iC 4), (iC 6)]), (.arr 25 1 2 [nC, nC]), (.arr 3 1 3 [(iC 2), (iC 4), (iC 6)])]⟩
noncomputable def t196 : List Ent := e196 :: t195
noncomputable def e197 : Ent := ⟨18, [(.agg [(iC 0), (.sl false 3 [(iC 13), (iC 0), (iC 13), (iC 0), (iC 0), (iC 1)]), (.sl false 9 [(iC 6), (iC 2), (iC 7), (iC 2), (iC 11), (iC 9), (iC 7), (iC 4), (iC 15), (iC 9), (iC 5), (iC 3), (iC 19), (iC 6), (iC 21), (iC 16), (iC 22), (iC 12)]), (.sl false 1 [(iC 25)]), (.sl false 1 [(iC 1)])])],
  (.one (iC 0)),
  []⟩
noncomputable def t197 : List Ent := e197 :: t196
noncomputable def e198 : Ent := ⟨67, [(.one (iC 3)), (.agg [(.sl false 0 []), (iC 1)])],
  (.one (iC 0)),
  []⟩
noncomputable def t198 : List Ent := e198 :: t197
noncomputable def e199 : Ent := ⟨25, [(.agg [(iC 0), (.sl false 2 [(iC 2), (iC 0), (iC 2), (iC 0)]), (.sl false 0 []), (.sl false 1 [(iC 4)]), (.sl false 0 [])]), (.agg [(iC 0), (.sl false 3 [(iC 13), (iC 0), (iC 13), (iC 0), (iC 0), (iC 1)]), (.sl false 8 [(iC 6), (iC 2), (iC 7), (iC 2), (iC 11), (iC 9), (iC 7), (iC 4), (iC 15), (iC 9), (iC 5), (iC 3), (iC 19), (iC 6), (iC 21), (iC 16)]), (.sl false 1 [(iC 23)]), (.sl false 1 [(iC 1)])]), (.agg [(iC 0), (.sl false 3 [(iC 13), (iC 0), (iC 13), (iC 0), (iC 0), (iC 1)]), (.sl false 9 [(iC 6), (iC 2), (iC 7), (iC 2), (iC 11), (iC 9), (iC 7), (iC 4), (iC 15), (iC 9), (iC 5), (iC 3), (iC 19), (iC 6), (iC 21), (iC 16), (iC 22), (iC 12)]), (.sl false 1 [(iC 25)]), (.sl false 1 [(iC 1)])]), (.agg [(iC 2), (iC 1), (.sl false 2 [(iC 2), (iC 4)]), (.sl false 3 [(.sl false 0 []), (.sl false 0 []), (.sl false 0 [])]), (.sl false 3 [(iC 2), (iC 4), (iC (-1))]), (.sl false 0 []), (iC 1)]), (.agg [(iC 0), (iC 2), (.sl false 3 [(iC 2), (iC 4), (iC 6)]), (.sl false 2 [(.sl false 0 []), (.sl false 0 [])]), (.sl false 3 [(iC 2), (iC 4), (iC 6)]), (.sl false 0 []), (iC 1)])],
  (.tup [(.agg [(iC 2), (iC 2), (.own (0, 0)), (.own (0, 1)), (.own (0, 6)), (.own (0, 7)), (iC 1)]), (.one (iC 0))]),
  [(.arr 3 1 2 [(iC 2), (iC 4)]), (.arr 25 1 4 [(.own (0, 2)), (.own (0, 3)), (.own (0, 4)), (.own (0, 5))]), (.arr 3 1 0 []), (.arr 3 1 0 []), (.arr 3 1 0 []), (.arr 3 1 0 []), (.arr 3 1 3 [(iC 2), (iC 4), (iC (-1))]), (.arr 72 2 0 [])]⟩
noncomputable def t199 : List Ent := e199 :: t198
noncomputable def e200 : Ent := ⟨11, [(.agg [(iC 0), (.sl false 2 [(iC 2), (iC 0), (iC 2), (iC 0)]), (.sl false 0 []), (.sl false 1 [(iC 4)]), (.sl false 0 [])]), (.one (.sl false 2 [(sC [112, 114, 101, 102, 105, 120]), (iC 2), (sC [112, 104, 97, 115, 101, 115]), (iC 2)])), (.one (iC 0))],
  (.tup [(.agg [(iC 0), (.own (0, 0)), (.own (0, 1)), (.own (0, 2)), (.own (0, 3)), (iC 2), (iC 2), (.own (0, 4)), (.own (0, 5)), (.own (0, 10)), (.own (0, 11)), (iC 1)]), (.one (.own (0, 12))), (.one (iC 0))]),
  [(.arr 23 2 3 [(iC 13), (iC 0), (iC 13), (iC 0), (iC 0), (iC 1)]), (.arr 72 2 9 [(iC 6), (iC 2), (iC 7), (iC 2), (iC 11), (iC 9), (iC 7), (iC 4), (iC 15), (iC 9), (iC 5), (iC 3), (iC 19), (iC 6), (iC 21), (iC 16), (iC 22), (iC 12)]), (.arr 3 1 1 [(iC 25)]), (.arr 3 1 1 [(iC 1)]), (.arr 3 1 2 [(iC 2), (iC 4)]), (.arr 25 1 4 [(.own (0, 6)), (.own (0, 7)), (.own (0, 8)), (.own (0, 9))]), (.arr 3 1 0 []), (.arr 3 1 0 []), (.arr 3 1 0 []), (.arr 3 1 0 []), (.arr 3 1 3 [(iC 2), (iC 4), (iC (-1))]), (.arr 72 2 0 []), (.arr 4 1 2 [(bC true), (bC true)])]⟩
noncomputable def t200 : List Ent := e200 :: t199
noncomputable def e201 : Ent := ⟨240, [(.agg [(iC 0), (.sl false 3 [(iC 13), (iC 0), (iC 13), (iC 0), (iC 0), (iC 1)]), (.sl false 9 [(iC 6), (iC 2), (iC 7), (iC 2), (iC 11), (iC 9), (iC 7), (iC 4), (iC 15), (iC 9), (iC 5), (iC 3), (iC 19), (iC 6), (iC 21), (iC 16), (iC 22), (iC 12)]), (.sl false 1 [(iC 25)]), (.sl false 1 [(iC 1)])]), (.one (iC 1)), (.one (.sl false 3 [(iC 0), (iC 0), (iC 1)]))],
  (.tup [(.agg [(iC 9), (.own (0, 0)), (.own (0, 2))]), (.one (iC 0))]),
  [(.arr 25 1 1 [(.own (0, 1))]), (.arr 3 1 13 [(iC 0), (iC 0), (iC 0), (iC 1), (iC 2), (iC 4), (iC 6), (iC 8), (iC 10), (iC 12), (iC 14), (iC 16), (iC 18)]), (.arr 25 1 20 [(.own (0, 3)), (.own (0, 4)), (.own (0, 5)), (.own (0, 6)), (.own (0, 7)), (.own (0, 8)), (.own (0, 9)), (.own (0, 10)), (.own (0, 11)), (.own (0, 12)), (.own (0, 13)), (.own (0, 14)), (.own (0, 15)), (.own (0, 16)), (.own (0, 17)), (.own (0, 18)), (.own (0, 19)), (.own (0, 20)), (.own (0, 21)), (.own (0, 22))]), (.arr 3 1 1 [(iC 3)]), (.arr 3 1 1 [(iC 5)]), (.arr 3 1 1 [(iC 5)]), (.arr 3 1 2 [(iC 5), (iC 7)]), (.arr 3 1 2 [(iC 3), (iC 7)]), (.arr 3 1 3 [(iC 2), (iC 4), (iC 6)]), (.arr 3 1 1 [(iC 9)]), (.arr 3 1 1 [(iC 9)]), (.arr 3 1 2 [(iC 9), (iC 11)]), (.arr 3 1 2 [(iC 3), (iC 11)]), (.arr 3 1 3 [(iC 2), (iC 8), (iC 10)]), (.arr 3 1 1 [(iC 12)]), (.arr 3 1 2 [(iC 13), (iC 15)]), (.arr 3 1 2 [(iC 12), (iC 14)]), (.arr 3 1 2 [(iC 15), (iC 17)]), (.arr 3 1 2 [(iC 10), (iC 17)]), (.arr 3 1 3 [(iC 11), (iC 14), (iC 16)]), (.arr 3 1 2 [(iC 16), (iC 19)]), (.arr 3 1 2 [(iC 6), (iC 19)]), (.arr 3 1 3 [(iC 7), (iC 17), (iC 18)])]⟩
noncomputable def t201 : List Ent := e201 :: t200
noncomputable def e202 : Ent := ⟨187, [(.agg [(iC 0), (.sl false 3 [(iC 13), (iC 0), (iC 13), (iC 0), (iC 0), (iC 1)]), (.sl false 9 [(iC 6), (iC 2), (iC 7), (iC 2), (iC 11), (iC 9), (iC 7), (iC 4), (iC 15), (iC 9), (iC 5), (iC 3), (iC 19), (iC 6), (iC 21), (iC 16), (iC 22), (iC 12)]), (.sl false 1 [(iC 25)]), (.sl false 1 [(iC 1)])]), (.one (iC 1))],
  (.tup [(.agg [(iC 9), (.own (0, 0)), (.own (0, 2))]), (.one (iC 0))]),
  [(.arr 25 1 1 [(.own (0, 1))]), (.arr 3 1 13 [(iC 0), (iC 0), (iC 0), (iC 1), (iC 2), (iC 4), (iC 6), (iC 8), (iC 10), (iC 12), (iC 14), (iC 16), (iC 18)]), (.arr 25 1 20 [(.own (0, 3)), (.own (0, 4)), (.own (0, 5)), (.own (0, 6)), (.own (0, 7)), (.own (0, 8)), (.own (0, 9)), (.own (0, 10)), (.own (0, 11)), (.own (0, 12)), (.own (0, 13)), (.own (0, 14)), (.own (0, 15)), (.own (0, 16)), (.own (0, 17)), (.own (0, 18)), (.own (0, 19)), (.own (0, 20)), (.own (0, 21)), (.own (0, 22))]), (.arr 3 1 1 [(iC 3)]), (.arr 3 1 1 [(iC 5)]), (.arr 3 1 1 [(iC 5)]), (.arr 3 1 2 [(iC 5), (iC 7)]), (.arr 3 1 2 [(iC 3), (iC 7)]), (.arr 3 1 3 [(iC 2), (iC 4), (iC 6)]), (.arr 3 1 1 [(iC 9)]), (.arr 3 1 1 [(iC 9)]), (.arr 3 1 2 [(iC 9), (iC 11)]), (.arr 3 1 2 [(iC 3), (iC 11)]), (.arr 3 1 3 [(iC 2), (iC 8), (iC 10)]), (.arr 3 1 1 [(iC 12)]), (.arr 3 1 2 [(iC 13), (iC 15)]), (.arr 3 1 2 [(iC 12), (iC 14)]), (.arr 3 1 2 [(iC 15), (iC 17)]), (.arr 3 1 2 [(iC 10), (iC 17)]), (.arr 3 1 3 [(iC 11), (iC 14), (iC 16)]), (.arr 3 1 2 [(iC 16), (iC 19)]), (.arr 3 1 2 [(iC 6), (iC 19)]), (.arr 3 1 3 [(iC 7), (iC 17), (iC 18)])]⟩
noncomputable def t202 : List Ent := e202 :: t201
noncomputable def e203 : Ent := ⟨165, [(.agg [(iC 0), (.sl false 3 [(iC 13), (iC 0), (iC 13), (iC 0), (iC 0), (iC 1)]), (.sl false 9 [(iC 6), (iC 2), (iC 7), (iC 2), (iC 11), (iC 9), (iC 7), (iC 4), (iC 15), (iC 9), (iC 5), (iC 3), (iC 19), (iC 6), (iC 21), (iC 16), (iC 22), (iC 12)]), (.sl false 1 [(iC 25)]), (.sl false 1 [(iC 1)])]), (.one (iC 0))],
  (.tup [(.agg [(iC 9), (.own (0, 0)), (.own (0, 2))]), (.one (iC 0))]),
  [(.arr 25 1 1 [(.own (0, 1))]), (.arr 3 1 13 [(iC 0), (iC 0), (iC 0), (iC 1), (iC 2), (iC 4), (iC 6), (iC 8), (iC 10), (iC 12), (iC 14), (iC 16), (iC 18)]), (.arr 25 1 21 [(.own (0, 3)), (.own (0, 4)), (.own (0, 5)), (.own (0, 6)), (.own (0, 7)), (.own (0, 8)), (.own (0, 9)), (.own (0, 10)), (.own (0, 11)), (.own (0, 12)), (.own (0, 13)), (.own (0, 14)), (.own (0, 15)), (.own (0, 16)), (.own (0, 17)), (.own (0, 18)), (.own (0, 19)), (.own (0, 20)), (.own (0, 21)), (.own (0, 22)), (.own (0, 23))]), (.arr 3 1 1 [(iC 3)]), (.arr 3 1 1 [(iC 5)]), (.arr 3 1 1 [(iC 5)]), (.arr 3 1 2 [(iC 5), (iC 7)]), (.arr 3 1 2 [(iC 3), (iC 7)]), (.arr 3 1 3 [(iC 2), (iC 4), (iC 6)]), (.arr 3 1 1 [(iC 9)]), (.arr 3 1 1 [(iC 9)]), (.arr 3 1 2 [(iC 9), (iC 11)]), (.arr 3 1 2 [(iC 3), (iC 11)]), (.arr 3 1 3 [(iC 2), (iC 8), (iC 10)]), (.arr 3 1 1 [(iC 12)]), (.arr 3 1 2 [(iC 13), (iC 15)]), (.arr 3 1 2 [(iC 12), (iC 14)]), (.arr 3 1 2 [(iC 15), (iC 17)]), (.arr 3 1 2 [(iC 10), (iC 17)]), (.arr 3 1 3 [(iC 11), (iC 14), (iC 16)]), (.arr 3 1 2 [(iC 16), (iC 19)]), (.arr 3 1 2 [(iC 6), (iC 19)]), (.arr 3 1 3 [(iC 7), (iC 17), (iC 18)]), (.arr 3 1 1 [(iC 19)])]⟩
noncomputable def t203 : List Ent := e203 :: t202
noncomputable def e204 : Ent := ⟨166, [(.one (iC 9)), (.one (.sl false 21 [(.sl false 1 [(iC 3)]), (.sl false 1 [(iC 5)]), (.sl false 1 [(iC 5)]), (.sl false 2 [(iC 5), (iC 7)]), (.sl false 2 [(iC 3), (iC 7)]), (.sl false 3 [(iC 2), (iC 4), (iC 6)]), (.sl false 1 [(iC 9)]), (.sl false 1 [(iC 9)]), (.sl false 2 [(iC 9), (iC 11)]), (.sl false 2 [(iC 3), (iC 11)]), (.sl false 3 [(iC 2), (iC 8), (iC 10)]), (.sl false 1 [(iC 12)]), (.sl false 2 [(iC 13), (iC 15)]), (.sl false 2 [(iC 12), (iC 14)]), (.sl false 2 [(iC 15), (iC 17)]), (.sl false 2 [(iC 10), (iC 17)]), (.sl false 3 [(iC 11), (iC 14), (iC 16)]), (.sl false 2 [(iC 16), (iC 19)]), (.sl false 2 [(iC 6), (iC 19)]), (.sl false 3 [(iC 7), (iC 17), (iC 18)]), (.sl false 1 [(iC 19)])])), (.one (iC 100000))],
  (.tup [(.agg [(bC false), nC, nC, (.own (0, 0)), (iC 0)]), (.one (iC 0))]),
  [(.arr 25 1 1 [(.own (0, 1))]), (.arr 3 1 0 [])]⟩
noncomputable def t204 : List Ent := e204 :: t203
noncomputable def e205 : Ent := ⟨107, [(.agg [(iC 0), (.sl false 3 [(iC 13), (iC 0), (iC 13), (iC 0), (iC 0), (iC 1)]), (.sl false 9 [(iC 6), (iC 2), (iC 7), (iC 2), (iC 11), (iC 9), (iC 7), (iC 4), (iC 15), (iC 9), (iC 5), (iC 3), (iC 19), (iC 6), (iC 21), (iC 16), (iC 22), (iC 12)]), (.sl false 1 [(iC 25)]), (.sl false 1 [(iC 1)])]), (.one (iC 0)), (.one (iC 100000))],
  (.tup [(.agg [(bC false), nC, nC, (iC 1), (iC 0)]), (.one (iC 0))]),
  []⟩
noncomputable def t205 : List Ent := e205 :: t204
noncomputable def e206 : Ent := ⟨240, [(.agg [(iC 0), (.sl false 3 [(iC 13), (iC 0), (iC 13), (iC 0), (iC 0), (iC 1)]), (.sl false 9 [(iC 6), (iC 2), (iC 7), (iC 2), (iC 11), (iC 9), (iC 7), (iC 4), (iC 15), (iC 9), (iC 5), (iC 3), (iC 19), (iC 6), (iC 21), (iC 16), (iC 22), (iC 12)]), (.sl false 1 [(iC 25)]), (.sl false 1 [(iC 1)])]), (.one (iC 1)), (.one (.sl false 3 [(iC (-1)), (iC (-1)), (iC (-1))]))],
  (.tup [(.agg [(iC 12), (.own (0, 0)), (.own (0, 2))]), (.one (iC 0))]),
  [(.arr 25 1 1 [(.own (0, 1))]), (.arr 3 1 13 [(iC 0), (iC 2), (iC 4), (iC 6), (iC 8), (iC 10), (iC 12), (iC 14), (iC 16), (iC 18), (iC 20), (iC 22), (iC 24)]), (.arr 25 1 27 [(.own (0, 3)), (.own (0, 4)), (.own (0, 5)), (.own (0, 6)), (.own (0, 7)), (.own (0, 8)), (.own (0, 9)), (.own (0, 10)), (.own (0, 11)), (.own (0, 12)), (.own (0, 13)), (.own (0, 14)), (.own (0, 15)), (.own (0, 16)), (.own (0, 17)), (.own (0, 18)), (.own (0, 19)), (.own (0, 20)), (.own (0, 21)), (.own (0, 22)), (.own (0, 23)), (.own (0, 24)), (.own (0, 25)), (.own (0, 26)), (.own (0, 27)), (.own (0, 28)), (.own (0, 29))]), (.arr 3 1 2 [(iC 6), (iC 9)]), (.arr 3 1 2 [(iC 2), (iC 9)]), (.arr 3 1 3 [(iC 3), (iC 7), (iC 8)]), (.arr 3 1 2 [(iC 7), (iC 11)]), (.arr 3 1 2 [(iC 2), (iC 11)]), (.arr 3 1 3 [(iC 3), (iC 6), (iC 10)]), (.arr 3 1 2 [(iC 11), (iC 13)]), (.arr 3 1 2 [(iC 9), (iC 13)]), (.arr 3 1 3 [(iC 8), (iC 10), (iC 12)]), (.arr 3 1 2 [(iC 7), (iC 15)]), (.arr 3 1 2 [(iC 4), (iC 15)]), (.arr 3 1 3 [(iC 5), (iC 6), (iC 14)]), (.arr 3 1 2 [(iC 15), (iC 17)]), (.arr 3 1 2 [(iC 9), (iC 17)]), (.arr 3 1 3 [(iC 8), (iC 14), (iC 16)]), (.arr 3 1 2 [(iC 5), (iC 19)]), (.arr 3 1 2 [(iC 3), (iC 19)]), (.arr 3 1 3 [(iC 2), (iC 4), (iC 18)]), (.arr 3 1 2 [(iC 19), (iC 21)]), (.arr 3 1 2 [(iC 6), (iC 21)]), (.arr 3 1 3 [(iC 7), (iC 18), (iC 20)]), (.arr 3 1 2 [(iC 21), (iC 23)]), (.arr 3 1 2 [(iC 16), (iC 23)]), (.arr 3 1 3 [(iC 17), (iC 20), (iC 22)]), (.arr 3 1 2 [(iC 22), (iC 25)]), (.arr 3 1 2 [(iC 12), (iC 25)]), (.arr 3 1 3 [(iC 13), (iC 23), (iC 24)])]⟩
noncomputable def t206 : List Ent := e206 :: t205
noncomputable def e207 : Ent := ⟨191, [(.agg [(iC 0), (.sl false 3 [(iC 13), (iC 0), (iC 13), (iC 0), (iC 0), (iC 1)]), (.sl false 9 [(iC 6), (iC 2), (iC 7), (iC 2), (iC 11), (iC 9), (iC 7), (iC 4), (iC 15), (iC 9), (iC 5), (iC 3), (iC 19), (iC 6), (iC 21), (iC 16), (iC 22), (iC 12)]), (.sl false 1 [(iC 25)]), (.sl false 1 [(iC 1)])]), (.one (iC 1))],
  (.tup [(.agg [(iC 12), (.own (0, 0)), (.own (0, 2))]), (.one (iC 0))]),
  [(.arr 25 1 1 [(.own (0, 1))]), (.arr 3 1 13 [(iC 0), (iC 2), (iC 4), (iC 6), (iC 8), (iC 10), (iC 12), (iC 14), (iC 16), (iC 18), (iC 20), (iC 22), (iC 24)]), (.arr 25 1 27 [(.own (0, 3)), (.own (0, 4)), (.own (0, 5)), (.own (0, 6)), (.own (0, 7)), (.own (0, 8)), (.own (0, 9)), (.own (0, 10)), (.own (0, 11)), (.own (0, 12)), (.own (0, 13)), (.own (0, 14)), (.own (0, 15)), (.own (0, 16)), (.own (0, 17)), (.own (0, 18)), (.own (0, 19)), (.own (0, 20)), (.own (0, 21)), (.own (0, 22)), (.own (0, 23)), (.own (0, 24)), (.own (0, 25)), (.own (0, 26)), (.own (0, 27)), (.own (0, 28)), (.own (0, 29))]), (.arr 3 1 2 [(iC 6), (iC 9)]), (.arr 3 1 2 [(iC 2), (iC 9)]), (.arr 3 1 3 [(iC 3), (iC 7), (iC 8)]), (.arr 3 1 2 [(iC 7), (iC 11)]), (.arr 3 1 2 [(iC 2), (iC 11)]), (.arr 3 1 3 [(iC 3), (iC 6), (iC 10)]), (.arr 3 1 2 [(iC 11), (iC 13)]), (.arr 3 1 2 [(iC 9), (iC 13)]), (.arr 3 1 3 [(iC 8), (iC 10), (iC 12)]), (.arr 3 1 2 [(iC 7), (iC 15)]), (.arr 3 1 2 [(iC 4), (iC 15)]), (.arr 3 1 3 [(iC 5), (iC 6), (iC 14)]), (.arr 3 1 2 [(iC 15), (iC 17)]), (.arr 3 1 2 [(iC 9), (iC 17)]), (.arr 3 1 3 [(iC 8), (iC 14), (iC 16)]), (.arr 3 1 2 [(iC 5), (iC 19)]), (.arr 3 1 2 [(iC 3), (iC 19)]), (.arr 3 1 3 [(iC 2), (iC 4), (iC 18)]), (.arr 3 1 2 [(iC 19), (iC 21)]), (.arr 3 1 2 [(iC 6), (iC 21)]), (.arr 3 1 3 [(iC 7), (iC 18), (iC 20)]), (.arr 3 1 2 [(iC 21), (iC 23)]), (.arr 3 1 2 [(iC 16), (iC 23)]), (.arr 3 1 3 [(iC 17), (iC 20), (iC 22)]), (.arr 3 1 2 [(iC 22), (iC 25)]), (.arr 3 1 2 [(iC 12), (iC 25)]), (.arr 3 1 3 [(iC 13), (iC 23), (iC 24)])]⟩
noncomputable def t207 : List Ent := e207 :: t206
noncomputable def e208 : Ent := ⟨217, [(.agg [(iC 0), (.sl false 3 [(iC 13), (iC 0), (iC 13), (iC 0), (iC 0), (iC 1)]), (.sl false 9 [(iC 6), (iC 2), (iC 7), (iC 2), (iC 11), (iC 9), (iC 7), (iC 4), (iC 15), (iC 9), (iC 5), (iC 3), (iC 19), (iC 6), (iC 21), (iC 16), (iC 22), (iC 12)]), (.sl false 1 [(iC 25)]), (.sl false 1 [(iC 1)])]), (.agg [(.sl false 1 [(.sl false 0 [])])]), (.one (iC 1)), (.one (iC 100000))],
  (.tup [(.one (.loc (0, 0) 0)), (.one (iC 0))]),
  [(.box 353 [(iC 0), (.sl false 3 [(iC 13), (iC 0), (iC 13), (iC 0), (iC 0), (iC 1)]), (.sl false 9 [(iC 6), (iC 2), (iC 7), (iC 2), (iC 11), (iC 9), (iC 7), (iC 4), (iC 15), (iC 9), (iC 5), (iC 3), (iC 19), (iC 6), (iC 21), (iC 16), (iC 22), (iC 12)]), (.sl false 1 [(iC 25)]), (.sl false 1 [(iC 1)]), (iC 12), (.own (0, 1)), (.own (0, 3)), (.own (0, 2))]), (.arr 25 1 1 [(.own (0, 2))]), (.arr 3 1 13 [(iC 0), (iC 2), (iC 4), (iC 6), (iC 8), (iC 10), (iC 12), (iC 14), (iC 16), (iC 18), (iC 20), (iC 22), (iC 24)]), (.arr 25 1 27 [(.own (0, 4)), (.own (0, 5)), (.own (0, 6)), (.own (0, 7)), (.own (0, 8)), (.own (0, 9)), (.own (0, 10)), (.own (0, 11)), (.own (0, 12)), (.own (0, 13)), (.own (0, 14)), (.own (0, 15)), (.own (0, 16)), (.own (0, 17)), (.own (0, 18)), (.own (0, 19)), (.own (0, 20)), (.own (0, 21)), (.own (0, 22)), (.own (0, 23)), (.own (0, 24)), (.own (0, 25)), (.own (0, 26)), (.own (0, 27)), (.own (0, 28)), (.own (0, 29)), (.own (0, 30))]), (.arr 3 1 2 [(iC 6), (iC 9)]), (.arr 3 1 2 [(iC 2), (iC 9)]), (.arr 3 1 3 [(iC 3), (iC 7), (iC 8)]), (.arr 3 1 2 [(iC 7), (iC 11)]), (.arr 3 1 2 [(iC 2), (iC 11)]), (.arr 3 1 3 [(iC 3), (iC 6), (iC 10)]), (.arr 3 1 2 [(iC 11), (iC 13)]), (.arr 3 1 2 [(iC 9), (iC 13)]), (.arr 3 1 3 [(iC 8), (iC 10), (iC 12)]), (.arr 3 1 2 [(iC 7), (iC 15)]), (.arr 3 1 2 [(iC 4), (iC 15)]), (.arr 3 1 3 [(iC 5), (iC 6), (iC 14)]), (.arr 3 1 2 [(iC 15), (iC 17)]), (.arr 3 1 2 [(iC 9), (iC 17)]), (.arr 3 1 3 [(iC 8), (iC 14), (iC 16)]), (.arr 3 1 2 [(iC 5), (iC 19)]), (.arr 3 1 2 [(iC 3), (iC 19)]), (.arr 3 1 3 [(iC 2), (iC 4), (iC 18)]), (.arr 3 1 2 [(iC 19), (iC 21)]), (.arr 3 1 2 [(iC 6), (iC 21)]), (.arr 3 1 3 [(iC 7), (iC 18), (iC 20)]), (.arr 3 1 2 [(iC 21), (iC 23)]), (.arr 3 1 2 [(iC 16), (iC 23)]), (.arr 3 1 3 [(iC 17), (iC 20), (iC 22)]), (.arr 3 1 2 [(iC 22), (iC 25)]), (.arr 3 1 2 [(iC 12), (iC 25)]), (.arr 3 1 3 [(iC 13), (iC 23), (iC 24)])]⟩
noncomputable def t208 : List Ent := e208 :: t207
noncomputable def e209 : Ent := ⟨259, [(.one (.sl false 12 [(iC 1), (iC 2), (iC 3), (iC 4), (iC 5), (iC 6), (iC 7), (iC 8), (iC 9), (iC 10), (iC 11), (iC 12)])), (.agg [(iC 12), (.sl false 1 [(iC 25)]), (.sl false 0 [])])],
  (.tup [(.one (iC 1)), (.one (.cut (0, 0) 11)), (.one (iC 0))]),
  [(.arr 3 1 12 [(iC 2), (iC 4), (iC 3), (iC 8), (iC 5), (iC 6), (iC 7), (iC 12), (iC 9), (iC 10), (iC 11), (iC 12)])]⟩
noncomputable def t209 : List Ent := e209 :: t208
noncomputable def e210 : Ent := ⟨259, [(.one (.sl false 12 [(iC 1), (iC 2), (iC 3), (iC 4), (iC 5), (iC 6), (iC 7), (iC 8), (iC 9), (iC 10), (iC 11), (iC 12)])), (.agg [(iC 12), (.sl false 6 [(iC 25), (iC 3), (iC 9), (iC 11), (iC 12), (iC 23)]), (.sl false 1 [(iC 1)])])],
  (.tup [(.one (iC 2)), (.one (.cut (0, 0) 10)), (.one (iC 0))]),
  [(.arr 3 1 12 [(iC 3), (iC 4), (iC 6), (iC 8), (iC 5), (iC 11), (iC 7), (iC 12), (iC 9), (iC 10), (iC 11), (iC 12)])]⟩
noncomputable def t210 : List Ent := e210 :: t209
noncomputable def e211 : Ent := ⟨256, [(.one (iC 12)), (.one (.sl false 28 [(.sl false 2 [(iC 6), (iC 9)]), (.sl false 2 [(iC 2), (iC 9)]), (.sl false 3 [(iC 3), (iC 7), (iC 8)]), (.sl false 2 [(iC 7), (iC 11)]), (.sl false 2 [(iC 2), (iC 11)]), (.sl false 3 [(iC 3), (iC 6), (iC 10)]), (.sl false 2 [(iC 11), (iC 13)]), (.sl false 2 [(iC 9), (iC 13)]), (.sl false 3 [(iC 8), (iC 10), (iC 12)]), (.sl false 2 [(iC 7), (iC 15)]), (.sl false 2 [(iC 4), (iC 15)]), (.sl false 3 [(iC 5), (iC 6), (iC 14)]), (.sl false 2 [(iC 15), (iC 17)]), (.sl false 2 [(iC 9), (iC 17)]), (.sl false 3 [(iC 8), (iC 14), (iC 16)]), (.sl false 2 [(iC 5), (iC 19)]), (.sl false 2 [(iC 3), (iC 19)]), (.sl false 3 [(iC 2), (iC 4), (iC 18)]), (.sl false 2 [(iC 19), (iC 21)]), (.sl false 2 [(iC 6), (iC 21)]), (.sl false 3 [(iC 7), (iC 18), (iC 20)]), (.sl false 2 [(iC 21), (iC 23)]), (.sl false 2 [(iC 16), (iC 23)]), (.sl false 3 [(iC 17), (iC 20), (iC 22)]), (.sl false 2 [(iC 22), (iC 25)]), (.sl false 2 [(iC 12), (iC 25)]), (.sl false 3 [(iC 13), (iC 23), (iC 24)]), (.sl false 1 [(iC 25)])])), (.one (.sl false 2 [(iC 3), (iC 5)]))],
  (.tup [(.one (.own (0, 0))), (.one (iC 0))]),
  [(.arr 3 1 2 [(iC 2), (iC 4)])]⟩
noncomputable def t211 : List Ent := e211 :: t210
noncomputable def e212 : Ent := ⟨258, [(.agg [(iC 12), (.sl false 11 [(iC 25), (iC 3), (iC 9), (iC 11), (iC 12), (iC 23), (iC 5), (iC 15), (iC 16), (iC 18), (iC 21)]), (.sl false 2 [(iC 1), (iC 6)])]), (.one (.sl false 2 [(iC 2), (iC 4)]))],
  (.tup [(.agg [(iC 12), (.own (0, 0)), (.own (0, 1))]), (.one (iC 0))]),
  [(.arr 3 1 7 [(iC 25), (iC 3), (iC 9), (iC 11), (iC 12), (iC 23), (iC 4)]), (.arr 3 1 1 [(iC 1)])]⟩
noncomputable def t212 : List Ent := e212 :: t211
noncomputable def e213 : Ent := ⟨259, [(.one (.sl false 12 [(iC 1), (iC 2), (iC 3), (iC 4), (iC 5), (iC 6), (iC 7), (iC 8), (iC 9), (iC 10), (iC 11), (iC 12)])), (.agg [(iC 12), (.sl false 8 [(iC 25), (iC 3), (iC 9), (iC 11), (iC 12), (iC 23), (iC 4), (iC 19)]), (.sl false 1 [(iC 1)])])],
  (.tup [(.one (iC 3)), (.one (.cut (0, 0) 9)), (.one (iC 0))]),
  [(.arr 3 1 12 [(iC 4), (iC 5), (iC 6), (iC 8), (iC 10), (iC 11), (iC 7), (iC 12), (iC 9), (iC 10), (iC 11), (iC 12)])]⟩
noncomputable def t213 : List Ent := e213 :: t212
noncomputable def e214 : Ent := ⟨259, [(.one (.sl false 12 [(iC 1), (iC 2), (iC 3), (iC 4), (iC 5), (iC 6), (iC 7), (iC 8), (iC 9), (iC 10), (iC 11), (iC 12)])), (.agg [(iC 12), (.sl false 12 [(iC 25), (iC 3), (iC 9), (iC 11), (iC 12), (iC 23), (iC 4), (iC 19), (iC 7), (iC 14), (iC 17), (iC 21)]), (.sl false 2 [(iC 1), (iC 8)])])],
  (.tup [(.one (iC 0)), (.one nC), (.one (iC 6))]),
  []⟩
noncomputable def t214 : List Ent := e214 :: t213
noncomputable def e215 : Ent := ⟨166, [(.one (iC 12)), (.one (.sl false 28 [(.sl false 2 [(iC 6), (iC 9)]), (.sl false 2 [(iC 2), (iC 9)]), (.sl false 3 [(iC 3), (iC 7), (iC 8)]), (.sl false 2 [(iC 7), (iC 11)]), (.sl false 2 [(iC 2), (iC 11)]), (.sl false 3 [(iC 3), (iC 6), (iC 10)]), (.sl false 2 [(iC 11), (iC 13)]), (.sl false 2 [(iC 9), (iC 13)]), (.sl false 3 [(iC 8), (iC 10), (iC 12)]), (.sl false 2 [(iC 7), (iC 15)]), (.sl false 2 [(iC 4), (iC 15)]), (.sl false 3 [(iC 5), (iC 6), (iC 14)]), (.sl false 2 [(iC 15), (iC 17)]), (.sl false 2 [(iC 9), (iC 17)]), (.sl false 3 [(iC 8), (iC 14), (iC 16)]), (.sl false 2 [(iC 5), (iC 19)]), (.sl false 2 [(iC 3), (iC 19)]), (.sl false 3 [(iC 2), (iC 4), (iC 18)]), (.sl false 2 [(iC 19), (iC 21)]), (.sl false 2 [(iC 6), (iC 21)]), (.sl false 3 [(iC 7), (iC 18), (iC 20)]), (.sl false 2 [(iC 21), (iC 23)]), (.sl false 2 [(iC 16), (iC 23)]), (.sl false 3 [(iC 17), (iC 20), (iC 22)]), (.sl false 2 [(iC 22), (iC 25)]), (.sl false 2 [(iC 12), (iC 25)]), (.sl false 3 [(iC 13), (iC 23), (iC 24)]), (.sl false 1 [(iC 25)])])), (.one (iC 100000))],
  (.tup [(.agg [(bC true), (.own (0, 0)), nC, (.own (0, 1)), (iC 1)]), (.one (iC 0))]),
  [(.arr 4 1 12 [(bC false), (bC true), (bC false), (bC false), (bC false), (bC true), (bC true), (bC false), (bC false), (bC false), (bC false), (bC false)]), (.arr 25 1 1 [(.own (0, 2))]), (.arr 3 1 2 [(iC 2), (iC 4)])]⟩
noncomputable def t215 : List Ent := e215 :: t214
noncomputable def e216 : Ent := ⟨215, [(.agg [(iC 12), (.sl false 1 [(.sl false 13 [(iC 0), (iC 2), (iC 4), (iC 6), (iC 8), (iC 10), (iC 12), (iC 14), (iC 16), (iC 18), (iC 20), (iC 22), (iC 24)])]), (.sl false 28 [(.sl false 2 [(iC 6), (iC 9)]), (.sl false 2 [(iC 2), (iC 9)]), (.sl false 3 [(iC 3), (iC 7), (iC 8)]), (.sl false 2 [(iC 7), (iC 11)]), (.sl false 2 [(iC 2), (iC 11)]), (.sl false 3 [(iC 3), (iC 6), (iC 10)]), (.sl false 2 [(iC 11), (iC 13)]), (.sl false 2 [(iC 9), (iC 13)]), (.sl false 3 [(iC 8), (iC 10), (iC 12)]), (.sl false 2 [(iC 7), (iC 15)]), (.sl false 2 [(iC 4), (iC 15)]), (.sl false 3 [(iC 5), (iC 6), (iC 14)]), (.sl false 2 [(iC 15), (iC 17)]), (.sl false 2 [(iC 9), (iC 17)]), (.sl false 3 [(iC 8), (iC 14), (iC 16)]), (.sl false 2 [(iC 5), (iC 19)]), (.sl false 2 [(iC 3), (iC 19)]), (.sl false 3 [(iC 2), (iC 4), (iC 18)]), (.sl false 2 [(iC 19), (iC 21)]), (.sl false 2 [(iC 6), (iC 21)]), (.sl false 3 [(iC 7), (iC 18), (iC 20)]), (.sl false 2 [(iC 21), (iC 23)]), (.sl false 2 [(iC 16), (iC 23)]), (.sl false 3 [(iC 17), (iC 20), (iC 22)]), (.sl false 2 [(iC 22), (iC 25)]), (.sl false 2 [(iC 12), (iC 25)]), (.sl false 3 [(iC 13), (iC 23), (iC 24)]), (.sl false 1 [(iC 25)])])])],
  (.one (iC 0)),
  []⟩
noncomputable def t216 : List Ent := e216 :: t215
noncomputable def e217 : Ent := ⟨167, [(.agg [(iC 0), (.sl false 3 [(iC 13), (iC 0), (iC 13), (iC 0), (iC 0), (iC 1)]), (.sl false 9 [(iC 6), (iC 2), (iC 7), (iC 2), (iC 11), (iC 9), (iC 7), (iC 4), (iC 15), (iC 9), (iC 5), (iC 3), (iC 19), (iC 6), (iC 21), (iC 16), (iC 22), (iC 12)]), (.sl false 1 [(iC 25)]), (.sl false 1 [(iC 1)])]), (.agg [(iC 12), (.sl false 1 [(.sl false 13 [(iC 0), (iC 2), (iC 4), (iC 6), (iC 8), (iC 10), (iC 12), (iC 14), (iC 16), (iC 18), (iC 20), (iC 22), (iC 24)])]), (.sl false 28 [(.sl false 2 [(iC 6), (iC 9)]), (.sl false 2 [(iC 2), (iC 9)]), (.sl false 3 [(iC 3), (iC 7), (iC 8)]), (.sl false 2 [(iC 7), (iC 11)]), (.sl false 2 [(iC 2), (iC 11)]), (.sl false 3 [(iC 3), (iC 6), (iC 10)]), (.sl false 2 [(iC 11), (iC 13)]), (.sl false 2 [(iC 9), (iC 13)]), (.sl false 3 [(iC 8), (iC 10), (iC 12)]), (.sl false 2 [(iC 7), (iC 15)]), (.sl false 2 [(iC 4), (iC 15)]), (.sl false 3 [(iC 5), (iC 6), (iC 14)]), (.sl false 2 [(iC 15), (iC 17)]), (.sl false 2 [(iC 9), (iC 17)]), (.sl false 3 [(iC 8), (iC 14), (iC 16)]), (.sl false 2 [(iC 5), (iC 19)]), (.sl false 2 [(iC 3), (iC 19)]), (.sl false 3 [(iC 2), (iC 4), (iC 18)]), (.sl false 2 [(iC 19), (iC 21)]), (.sl false 2 [(iC 6), (iC 21)]), (.sl false 3 [(iC 7), (iC 18), (iC 20)]), (.sl false 2 [(iC 21), (iC 23)]), (.sl false 2 [(iC 16), (iC 23)]), (.sl false 3 [(iC 17), (iC 20), (iC 22)]), (.sl false 2 [(iC 22), (iC 25)]), (.sl false 2 [(iC 12), (iC 25)]), (.sl false 3 [(iC 13), (iC 23), (iC 24)]), (.sl false 1 [(iC 25)])])]), (.one (.sl false 12 [(bC false), (bC true), (bC false), (bC false), (bC false), (bC true), (bC true), (bC false), (bC false), (bC false), (bC false), (bC false)]))],
  (.tup [(.agg [(.own (0, 0)), (.own (0, 1))]), (.one (iC 0))]),
  [(.arr 4 1 3 [(bC false), (bC true), (bC false)]), (.arr 32 1 1 [nC])]⟩
noncomputable def t217 : List Ent := e217 :: t216
noncomputable def e218 : Ent := ⟨168, [(.agg [(iC 0), (.sl false 3 [(iC 13), (iC 0), (iC 13), (iC 0), (iC 0), (iC 1)]), (.sl false 9 [(iC 6), (iC 2), (iC 7), (iC 2), (iC 11), (iC 9), (iC 7), (iC 4), (iC 15), (iC 9), (iC 5), (iC 3), (iC 19), (iC 6), (iC 21), (iC 16), (iC 22), (iC 12)]), (.sl false 1 [(iC 25)]), (.sl false 1 [(iC 1)])]), (.agg [(.sl false 1 [(.sl false 0 [])])]), (.one (iC 1)), (.one (iC 100000))],
  (.tup [(.agg [(bC true), (.own (0, 0)), nC, (iC 1)]), (.one (iC 0))]),
  [(.arr 4 1 3 [(bC false), (bC true), (bC false)])]⟩
noncomputable def t218 : List Ent := e218 :: t217
noncomputable def e219 : Ent := ⟨222, [(.agg [(iC 0), (.sl false 3 [(iC 13), (iC 0), (iC 13), (iC 0), (iC 0), (iC 1)]), (.sl false 9 [(iC 6), (iC 2), (iC 7), (iC 2), (iC 11), (iC 9), (iC 7), (iC 4), (iC 15), (iC 9), (iC 5), (iC 3), (iC 19), (iC 6), (iC 21), (iC 16), (iC 22), (iC 12)]), (.sl false 1 [(iC 25)]), (.sl false 1 [(iC 1)])]), (.one (.sl false 3 [(bC false), (bC true), (bC false)])), (.one (.sl false 0 []))],
  (.tup [(.one (.own (0, 0))), (.one (iC 0))]),
  [(.arr 3 1 2 [(iC 4), (iC 7)])]⟩
noncomputable def t219 : List Ent := e219 :: t218
noncomputable def e220 : Ent := ⟨217, [(.agg [(iC 0), (.sl false 3 [(iC 13), (iC 0), (iC 13), (iC 0), (iC 0), (iC 1)]), (.sl false 9 [(iC 6), (iC 2), (iC 7), (iC 2), (iC 11), (iC 9), (iC 7), (iC 4), (iC 15), (iC 9), (iC 5), (iC 3), (iC 19), (iC 6), (iC 21), (iC 16), (iC 22), (iC 12)]), (.sl false 1 [(iC 25)]), (.sl false 1 [(iC 1)])]), (.agg [(.sl false 1 [(.sl false 0 [])])]), (.one (iC 0)), (.one (iC 100000))],
  (.tup [(.one (.loc (0, 0) 0)), (.one (iC 0))]),
  [(.box 353 [(iC 0), (.sl false 3 [(iC 13), (iC 0), (iC 13), (iC 0), (iC 0), (iC 1)]), (.sl false 9 [(iC 6), (iC 2), (iC 7), (iC 2), (iC 11), (iC 9), (iC 7), (iC 4), (iC 15), (iC 9), (iC 5), (iC 3), (iC 19), (iC 6), (iC 21), (iC 16), (iC 22), (iC 12)]), (.sl false 1 [(iC 25)]), (.sl false 1 [(iC 1)]), (iC 12), (.own (0, 1)), (.own (0, 3)), (.own (0, 2))]), (.arr 25 1 1 [(.own (0, 2))]), (.arr 3 1 13 [(iC 0), (iC 2), (iC 4), (iC 6), (iC 8), (iC 10), (iC 12), (iC 14), (iC 16), (iC 18), (iC 20), (iC 22), (iC 24)]), (.arr 25 1 30 [(.own (0, 4)), (.own (0, 5)), (.own (0, 6)), (.own (0, 7)), (.own (0, 8)), (.own (0, 9)), (.own (0, 10)), (.own (0, 11)), (.own (0, 12)), (.own (0, 13)), (.own (0, 14)), (.own (0, 15)), (.own (0, 16)), (.own (0, 17)), (.own (0, 18)), (.own (0, 19)), (.own (0, 20)), (.own (0, 21)), (.own (0, 22)), (.own (0, 23)), (.own (0, 24)), (.own (0, 25)), (.own (0, 26)), (.own (0, 27)), (.own (0, 28)), (.own (0, 29)), (.own (0, 30)), (.own (0, 31)), (.own (0, 32)), (.own (0, 33))]), (.arr 3 1 2 [(iC 6), (iC 9)]), (.arr 3 1 2 [(iC 2), (iC 9)]), (.arr 3 1 3 [(iC 3), (iC 7), (iC 8)]), (.arr 3 1 2 [(iC 7), (iC 11)]), (.arr 3 1 2 [(iC 2), (iC 11)]), (.arr 3 1 3 [(iC 3), (iC 6), (iC 10)]), (.arr 3 1 2 [(iC 11), (iC 13)]), (.arr 3 1 2 [(iC 9), (iC 13)]), (.arr 3 1 3 [(iC 8), (iC 10), (iC 12)]), (.arr 3 1 2 [(iC 7), (iC 15)]), (.arr 3 1 2 [(iC 4), (iC 15)]), (.arr 3 1 3 [(iC 5), (iC 6), (iC 14)]), (.arr 3 1 2 [(iC 15), (iC 17)]), (.arr 3 1 2 [(iC 9), (iC 17)]), (.arr 3 1 3 [(iC 8), (iC 14), (iC 16)]), (.arr 3 1 2 [(iC 5), (iC 19)]), (.arr 3 1 2 [(iC 3), (iC 19)]), (.arr 3 1 3 [(iC 2), (iC 4), (iC 18)]), (.arr 3 1 2 [(iC 19), (iC 21)]), (.arr 3 1 2 [(iC 6), (iC 21)]), (.arr 3 1 3 [(iC 7), (iC 18), (iC 20)]), (.arr 3 1 2 [(iC 21), (iC 23)]), (.arr 3 1 2 [(iC 16), (iC 23)]), (.arr 3 1 3 [(iC 17), (iC 20), (iC 22)]), (.arr 3 1 2 [(iC 22), (iC 25)]), (.arr 3 1 2 [(iC 12), (iC 25)]), (.arr 3 1 3 [(iC 13), (iC 23), (iC 24)]), (.arr 3 1 1 [(iC 3)]), (.arr 3 1 1 [(iC 5)]), (.arr 3 1 1 [(iC 6)])]⟩
noncomputable def t220 : List Ent := e220 :: t219
noncomputable def e221 : Ent := ⟨166, [(.one (iC 12)), (.one (.sl false 32 [(.sl false 2 [(iC 6), (iC 9)]), (.sl false 2 [(iC 2), (iC 9)]), (.sl false 3 [(iC 3), (iC 7), (iC 8)]), (.sl false 2 [(iC 7), (iC 11)]), (.sl false 2 [(iC 2), (iC 11)]), (.sl false 3 [(iC 3), (iC 6), (iC 10)]), (.sl false 2 [(iC 11), (iC 13)]), (.sl false 2 [(iC 9), (iC 13)]), (.sl false 3 [(iC 8), (iC 10), (iC 12)]), (.sl false 2 [(iC 7), (iC 15)]), (.sl false 2 [(iC 4), (iC 15)]), (.sl false 3 [(iC 5), (iC 6), (iC 14)]), (.sl false 2 [(iC 15), (iC 17)]), (.sl false 2 [(iC 9), (iC 17)]), (.sl false 3 [(iC 8), (iC 14), (iC 16)]), (.sl false 2 [(iC 5), (iC 19)]), (.sl false 2 [(iC 3), (iC 19)]), (.sl false 3 [(iC 2), (iC 4), (iC 18)]), (.sl false 2 [(iC 19), (iC 21)]), (.sl false 2 [(iC 6), (iC 21)]), (.sl false 3 [(iC 7), (iC 18), (iC 20)]), (.sl false 2 [(iC 21), (iC 23)]), (.sl false 2 [(iC 16), (iC 23)]), (.sl false 3 [(iC 17), (iC 20), (iC 22)]), (.sl false 2 [(iC 22), (iC 25)]), (.sl false 2 [(iC 12), (iC 25)]), (.sl false 3 [(iC 13), (iC 23), (iC 24)]), (.sl false 1 [(iC 3)]), (.sl false 1 [(iC 5)]), (.sl false 1 [(iC 6)]), (.sl false 2 [(iC 5), (iC 6)]), (.sl false 1 [(iC 13)])])), (.one (iC 100000))],
  (.tup [(.agg [(bC false), nC, nC, (.own (0, 0)), (iC 0)]), (.one (iC 0))]),
  [(.arr 25 1 1 [(.own (0, 1))]), (.arr 3 1 0 [])]⟩
noncomputable def t221 : List Ent := e221 :: t220
noncomputable def e222 : Ent := ⟨175, [(.agg [(iC 0), (.sl false 3 [(iC 13), (iC 0), (iC 13), (iC 0), (iC 0), (iC 1)]), (.sl false 9 [(iC 6), (iC 2), (iC 7), (iC 2), (iC 11), (iC 9), (iC 7), (iC 4), (iC 15), (iC 9), (iC 5), (iC 3), (iC 19), (iC 6), (iC 21), (iC 16), (iC 22), (iC 12)]), (.sl false 1 [(iC 25)]), (.sl false 1 [(iC 1)])]), (.agg [(.sl false 1 [(.sl false 0 [])])]), (.one (iC 0)), (.one (.sl false 2 [(iC 4), (iC 7)])), (.one (bC true)), (.one (iC 100000))],
  (.tup [(.agg [(bC false), nC, nC, (iC 0)]), (.one (iC 0))]),
  []⟩
noncomputable def t222 : List Ent := e222 :: t221
noncomputable def e223 : Ent := ⟨310, [(.agg [(iC 0), (.sl false 3 [(iC 13), (iC 0), (iC 13), (iC 0), (iC 0), (iC 1)]), (.sl false 9 [(iC 6), (iC 2), (iC 7), (iC 2), (iC 11), (iC 9), (iC 7), (iC 4), (iC 15), (iC 9), (iC 5), (iC 3), (iC 19), (iC 6), (iC 21), (iC 16), (iC 22), (iC 12)]), (.sl false 1 [(iC 25)]), (.sl false 1 [(iC 1)])]), (.agg [(.sl false 1 [(.sl false 0 [])])]), (.one (iC 1)), (.one (.sl false 2 [(iC 4), (iC 7)])), (.one (iC 100000))],
  (.tup [(.one (bC true)), (.one (iC 0)), (.one (iC 0))]),
  []⟩
noncomputable def t223 : List Ent := e223 :: t222
noncomputable def e224 : Ent := ⟨259, [(.one (.sl false 12 [(iC 1), (iC 2), (iC 3), (iC 4), (iC 5), (iC 6), (iC 7), (iC 8), (iC 9), (iC 10), (iC 11), (iC 12)])), (.agg [(iC 12), (.sl false 12 [(iC 3), (iC 9), (iC 11), (iC 12), (iC 5), (iC 15), (iC 16), (iC 18), (iC 21), (iC 22), (iC 24), (iC 6)]), (.sl false 0 [])])],
  (.tup [(.one (iC 0)), (.one nC), (.one (iC 6))]),
  []⟩
noncomputable def t224 : List Ent := e224 :: t223
noncomputable def e225 : Ent := ⟨166, [(.one (iC 12)), (.one (.sl false 31 [(.sl false 2 [(iC 6), (iC 9)]), (.sl false 2 [(iC 2), (iC 9)]), (.sl false 3 [(iC 3), (iC 7), (iC 8)]), (.sl false 2 [(iC 7), (iC 11)]), (.sl false 2 [(iC 2), (iC 11)]), (.sl false 3 [(iC 3), (iC 6), (iC 10)]), (.sl false 2 [(iC 11), (iC 13)]), (.sl false 2 [(iC 9), (iC 13)]), (.sl false 3 [(iC 8), (iC 10), (iC 12)]), (.sl false 2 [(iC 7), (iC 15)]), (.sl false 2 [(iC 4), (iC 15)]), (.sl false 3 [(iC 5), (iC 6), (iC 14)]), (.sl false 2 [(iC 15), (iC 17)]), (.sl false 2 [(iC 9), (iC 17)]), (.sl false 3 [(iC 8), (iC 14), (iC 16)]), (.sl false 2 [(iC 5), (iC 19)]), (.sl false 2 [(iC 3), (iC 19)]), (.sl false 3 [(iC 2), (iC 4), (iC 18)]), (.sl false 2 [(iC 19), (iC 21)]), (.sl false 2 [(iC 6), (iC 21)]), (.sl false 3 [(iC 7), (iC 18), (iC 20)]), (.sl false 2 [(iC 21), (iC 23)]), (.sl false 2 [(iC 16), (iC 23)]), (.sl false 3 [(iC 17), (iC 20), (iC 22)]), (.sl false 2 [(iC 22), (iC 25)]), (.sl false 2 [(iC 12), (iC 25)]), (.sl false 3 [(iC 13), (iC 23), (iC 24)]), (.sl false 1 [(iC 3)]), (.sl false 1 [(iC 5)]), (.sl false 1 [(iC 6)]), (.sl false 1 [(iC 6)])])), (.one (iC 100000))],
  (.tup [(.agg [(bC true), (.own (0, 0)), nC, nC, (iC 0)]), (.one (iC 0))]),
  [(.arr 4 1 12 [(bC false), (bC false), (bC true), (bC false), (bC false), (bC true), (bC false), (bC true), (bC true), (bC false), (bC true), (bC true)])]⟩
noncomputable def t225 : List Ent := e225 :: t224
noncomputable def e226 : Ent := ⟨215, [(.agg [(iC 12), (.sl false 1 [(.sl false 13 [(iC 0), (iC 2), (iC 4), (iC 6), (iC 8), (iC 10), (iC 12), (iC 14), (iC 16), (iC 18), (iC 20), (iC 22), (iC 24)])]), (.sl false 31 [(.sl false 2 [(iC 6), (iC 9)]), (.sl false 2 [(iC 2), (iC 9)]), (.sl false 3 [(iC 3), (iC 7), (iC 8)]), (.sl false 2 [(iC 7), (iC 11)]), (.sl false 2 [(iC 2), (iC 11)]), (.sl false 3 [(iC 3), (iC 6), (iC 10)]), (.sl false 2 [(iC 11), (iC 13)]), (.sl false 2 [(iC 9), (iC 13)]), (.sl false 3 [(iC 8), (iC 10), (iC 12)]), (.sl false 2 [(iC 7), (iC 15)]), (.sl false 2 [(iC 4), (iC 15)]), (.sl false 3 [(iC 5), (iC 6), (iC 14)]), (.sl false 2 [(iC 15), (iC 17)]), (.sl false 2 [(iC 9), (iC 17)]), (.sl false 3 [(iC 8), (iC 14), (iC 16)]), (.sl false 2 [(iC 5), (iC 19)]), (.sl false 2 [(iC 3), (iC 19)]), (.sl false 3 [(iC 2), (iC 4), (iC 18)]), (.sl false 2 [(iC 19), (iC 21)]), (.sl false 2 [(iC 6), (iC 21)]), (.sl false 3 [(iC 7), (iC 18), (iC 20)]), (.sl false 2 [(iC 21), (iC 23)]), (.sl false 2 [(iC 16), (iC 23)]), (.sl false 3 [(iC 17), (iC 20), (iC 22)]), (.sl false 2 [(iC 22), (iC 25)]), (.sl false 2 [(iC 12), (iC 25)]), (.sl false 3 [(iC 13), (iC 23), (iC 24)]), (.sl false 1 [(iC 3)]), (.sl false 1 [(iC 5)]), (.sl false 1 [(iC 6)]), (.sl false 1 [(iC 6)])])])],
  (.one (iC 0)),
  []⟩
noncomputable def t226 : List Ent := e226 :: t225
noncomputable def e227 : Ent := ⟨167, [(.agg [(iC 0), (.sl false 3 [(iC 13), (iC 0), (iC 13), (iC 0), (iC 0), (iC 1)]), (.sl false 9 [(iC 6), (iC 2), (iC 7), (iC 2), (iC 11), (iC 9), (iC 7), (iC 4), (iC 15), (iC 9), (iC 5), (iC 3), (iC 19), (iC 6), (iC 21), (iC 16), (iC 22), (iC 12)]), (.sl false 1 [(iC 25)]), (.sl false 1 [(iC 1)])]), (.agg [(iC 12), (.sl false 1 [(.sl false 13 [(iC 0), (iC 2), (iC 4), (iC 6), (iC 8), (iC 10), (iC 12), (iC 14), (iC 16), (iC 18), (iC 20), (iC 22), (iC 24)])]), (.sl false 31 [(.sl false 2 [(iC 6), (iC 9)]), (.sl false 2 [(iC 2), (iC 9)]), (.sl false 3 [(iC 3), (iC 7), (iC 8)]), (.sl false 2 [(iC 7), (iC 11)]), (.sl false 2 [(iC 2), (iC 11)]), (.sl false 3 [(iC 3), (iC 6), (iC 10)]), (.sl false 2 [(iC 11), (iC 13)]), (.sl false 2 [(iC 9), (iC 13)]), (.sl false 3 [(iC 8), (iC 10), (iC 12)]), (.sl false 2 [(iC 7), (iC 15)]), (.sl false 2 [(iC 4), (iC 15)]), (.sl false 3 [(iC 5), (iC 6), (iC 14)]), (.sl false 2 [(iC 15), (iC 17)]), (.sl false 2 [(iC 9), (iC 17)]), (.sl false 3 [(iC 8), (iC 14), (iC 16)]), (.sl false 2 [(iC 5), (iC 19)]), (.sl false 2 [(iC 3), (iC 19)]), (.sl false 3 [(iC 2), (iC 4), (iC 18)]), (.sl false 2 [(iC 19), (iC 21)]), (.sl false 2 [(iC 6), (iC 21)]), (.sl false 3 [(iC 7), (iC 18), (iC 20)]), (.sl false 2 [(iC 21), (iC 23)]), (.sl false 2 [(iC 16), (iC 23)]), (.sl false 3 [(iC 17), (iC 20), (iC 22)]), (.sl false 2 [(iC 22), (iC 25)]), (.sl false 2 [(iC 12), (iC 25)]), (.sl false 3 [(iC 13), (iC 23), (iC 24)]), (.sl false 1 [(iC 3)]), (.sl false 1 [(iC 5)]), (.sl false 1 [(iC 6)]), (.sl false 1 [(iC 6)])])]), (.one (.sl false 12 [(bC false), (bC false), (bC true), (bC false), (bC false), (bC true), (bC false), (bC true), (bC true), (bC false), (bC true), (bC true)]))],
  (.tup [(.agg [(.own (0, 0)), (.own (0, 1))]), (.one (iC 0))]),
  [(.arr 4 1 3 [(bC false), (bC false), (bC true)]), (.arr 32 1 1 [nC])]⟩
noncomputable def t227 : List Ent := e227 :: t226
noncomputable def e228 : Ent := ⟨175, [(.agg [(iC 0), (.sl false 3 [(iC 13), (iC 0), (iC 13), (iC 0), (iC 0), (iC 1)]), (.sl false 9 [(iC 6), (iC 2), (iC 7), (iC 2), (iC 11), (iC 9), (iC 7), (iC 4), (iC 15), (iC 9), (iC 5), (iC 3), (iC 19), (iC 6), (iC 21), (iC 16), (iC 22), (iC 12)]), (.sl false 1 [(iC 25)]), (.sl false 1 [(iC 1)])]), (.agg [(.sl false 1 [(.sl false 0 [])])]), (.one (iC 0)), (.one (.sl false 1 [(iC 7)])), (.one (bC true)), (.one (iC 100000))],
  (.tup [(.agg [(bC true), (.own (0, 0)), nC, (iC 0)]), (.one (iC 0))]),
  [(.arr 4 1 3 [(bC false), (bC false), (bC true)])]⟩
noncomputable def t228 : List Ent := e228 :: t227
noncomputable def e229 : Ent := ⟨310, [(.agg [(iC 0), (.sl false 3 [(iC 13), (iC 0), (iC 13), (iC 0), (iC 0), (iC 1)]), (.sl false 9 [(iC 6), (iC 2), (iC 7), (iC 2), (iC 11), (iC 9), (iC 7), (iC 4), (iC 15), (iC 9), (iC 5), (iC 3), (iC 19), (iC 6), (iC 21), (iC 16), (iC 22), (iC 12)]), (.sl false 1 [(iC 25)]), (.sl false 1 [(iC 1)])]), (.agg [(.sl false 1 [(.sl false 0 [])])]), (.one (iC 1)), (.one (.sl false 1 [(iC 7)])), (.one (iC 100000))],
  (.tup [(.one (bC false)), (.one (iC 0)), (.one (iC 0))]),
  []⟩
noncomputable def t229 : List Ent := e229 :: t228
noncomputable def e230 : Ent := ⟨166, [(.one (iC 12)), (.one (.sl false 32 [(.sl false 2 [(iC 6), (iC 9)]), (.sl false 2 [(iC 2), (iC 9)]), (.sl false 3 [(iC 3), (iC 7), (iC 8)]), (.sl false 2 [(iC 7), (iC 11)]), (.sl false 2 [(iC 2), (iC 11)]), (.sl false 3 [(iC 3), (iC 6), (iC 10)]), (.sl false 2 [(iC 11), (iC 13)]), (.sl false 2 [(iC 9), (iC 13)]), (.sl false 3 [(iC 8), (iC 10), (iC 12)]), (.sl false 2 [(iC 7), (iC 15)]), (.sl false 2 [(iC 4), (iC 15)]), (.sl false 3 [(iC 5), (iC 6), (iC 14)]), (.sl false 2 [(iC 15), (iC 17)]), (.sl false 2 [(iC 9), (iC 17)]), (.sl false 3 [(iC 8), (iC 14), (iC 16)]), (.sl false 2 [(iC 5), (iC 19)]), (.sl false 2 [(iC 3), (iC 19)]), (.sl false 3 [(iC 2), (iC 4), (iC 18)]), (.sl false 2 [(iC 19), (iC 21)]), (.sl false 2 [(iC 6), (iC 21)]), (.sl false 3 [(iC 7), (iC 18), (iC 20)]), (.sl false 2 [(iC 21), (iC 23)]), (.sl false 2 [(iC 16), (iC 23)]), (.sl false 3 [(iC 17), (iC 20), (iC 22)]), (.sl false 2 [(iC 22), (iC 25)]), (.sl false 2 [(iC 12), (iC 25)]), (.sl false 3 [(iC 13), (iC 23), (iC 24)]), (.sl false 1 [(iC 3)]), (.sl false 1 [(iC 5)]), (.sl false 1 [(iC 6)]), (.sl false 1 [(iC 5)]), (.sl false 1 [(iC 13)])])), (.one (iC 100000))],
  (.tup [(.agg [(bC false), nC, nC, (.own (0, 0)), (iC 0)]), (.one (iC 0))]),
  [(.arr 25 1 1 [(.own (0, 1))]), (.arr 3 1 0 [])]⟩
noncomputable def t230 : List Ent := e230 :: t229
noncomputable def e231 : Ent := ⟨175, [(.agg [(iC 0), (.sl false 3 [(iC 13), (iC 0), (iC 13), (iC 0), (iC 0), (iC 1)]), (.sl false 9 [(iC 6), (iC 2), (iC 7), (iC 2), (iC 11), (iC 9), (iC 7), (iC 4), (iC 15), (iC 9), (iC 5), (iC 3), (iC 19), (iC 6), (iC 21), (iC 16), (iC 22), (iC 12)]), (.sl false 1 [(iC 25)]), (.sl false 1 [(iC 1)])]), (.agg [(.sl false 1 [(.sl false 0 [])])]), (.one (iC 0)), (.one (.sl false 1 [(iC 4)])), (.one (bC true)), (.one (iC 100000))],
  (.tup [(.agg [(bC false), nC, nC, (iC 0)]), (.one (iC 0))]),
  []⟩
noncomputable def t231 : List Ent := e231 :: t230
noncomputable def e232 : Ent := ⟨310, [(.agg [(iC 0), (.sl false 3 [(iC 13), (iC 0), (iC 13), (iC 0), (iC 0), (iC 1)]), (.sl false 9 [(iC 6), (iC 2), (iC 7), (iC 2), (iC 11), (iC 9), (iC 7), (iC 4), (iC 15), (iC 9), (iC 5), (iC 3), (iC 19), (iC 6), (iC 21), (iC 16), (iC 22), (iC 12)]), (.sl false 1 [(iC 25)]), (.sl false 1 [(iC 1)])]), (.agg [(.sl false 1 [(.sl false 0 [])])]), (.one (iC 1)), (.one (.sl false 1 [(iC 4)])), (.one (iC 100000))],
  (.tup [(.one (bC true)), (.one (iC 0)), (.one (iC 0))]),
  []⟩
noncomputable def t232 : List Ent := e232 :: t231
noncomputable def e233 : Ent := ⟨270, [(.agg [(iC 0), (.sl false 3 [(iC 13), (iC 0), (iC 13), (iC 0), (iC 0), (iC 1)]), (.sl false 9 [(iC 6), (iC 2), (iC 7), (iC 2), (iC 11), (iC 9), (iC 7), (iC 4), (iC 15), (iC 9), (iC 5), (iC 3), (iC 19), (iC 6), (iC 21), (iC 16), (iC 22), (iC 12)]), (.sl false 1 [(iC 25)]), (.sl false 1 [(iC 1)])]), (.agg [(.sl false 1 [(.sl false 0 [])])]), (.one (iC 1)), (.one (.sl false 2 [(iC 4), (iC 7)])), (.one (iC 100000))],
  (.tup [(.agg [(.cut (0, 0) 1), (iC 0)]), (.one (iC 0))]),
  [(.arr 3 1 2 [(iC 4), (iC 0)])]⟩
noncomputable def t233 : List Ent := e233 :: t232
noncomputable def e234 : Ent := ⟨217, [(.agg [(iC 0), (.sl false 3 [(iC 13), (iC 0), (iC 13), (iC 0), (iC 0), (iC 1)]), (.sl false 9 [(iC 6), (iC 2), (iC 7), (iC 2), (iC 11), (iC 9), (iC 7), (iC 4), (iC 15), (iC 9), (iC 5), (iC 3), (iC 19), (iC 6), (iC 21), (iC 16), (iC 22), (iC 12)]), (.sl false 1 [(iC 25)]), (.sl false 1 [(iC 1)])]), (.agg [(.sl false 1 [(.sl false 1 [(.sl false 1 [(iC 5)])])])]), (.one (iC 1)), (.one (iC 100000))],
  (.tup [(.one (.loc (0, 0) 0)), (.one (iC 0))]),
  [(.box 353 [(iC 0), (.sl false 3 [(iC 13), (iC 0), (iC 13), (iC 0), (iC 0), (iC 1)]), (.sl false 9 [(iC 6), (iC 2), (iC 7), (iC 2), (iC 11), (iC 9), (iC 7), (iC 4), (iC 15), (iC 9), (iC 5), (iC 3), (iC 19), (iC 6), (iC 21), (iC 16), (iC 22), (iC 12)]), (.sl false 1 [(iC 25)]), (.sl false 1 [(iC 1)]), (iC 12), (.own (0, 1)), (.own (0, 3)), (.own (0, 2))]), (.arr 25 1 1 [(.own (0, 2))]), (.arr 3 1 13 [(iC 0), (iC 2), (iC 4), (iC 6), (iC 8), (iC 10), (iC 12), (iC 14), (iC 16), (iC 18), (iC 20), (iC 22), (iC 24)]), (.arr 25 1 28 [(.own (0, 4)), (.own (0, 5)), (.own (0, 6)), (.own (0, 7)), (.own (0, 8)), (.own (0, 9)), (.own (0, 10)), (.own (0, 11)), (.own (0, 12)), (.own (0, 13)), (.own (0, 14)), (.own (0, 15)), (.own (0, 16)), (.own (0, 17)), (.own (0, 18)), (.own (0, 19)), (.own (0, 20)), (.own (0, 21)), (.own (0, 22)), (.own (0, 23)), (.own (0, 24)), (.own (0, 25)), (.own (0, 26)), (.own (0, 27)), (.own (0, 28)), (.own (0, 29)), (.own (0, 30)), (.own (0, 31))]), (.arr 3 1 2 [(iC 6), (iC 9)]), (.arr 3 1 2 [(iC 2), (iC 9)]), (.arr 3 1 3 [(iC 3), (iC 7), (iC 8)]), (.arr 3 1 2 [(iC 7), (iC 11)]), (.arr 3 1 2 [(iC 2), (iC 11)]), (.arr 3 1 3 [(iC 3), (iC 6), (iC 10)]), (.arr 3 1 2 [(iC 11), (iC 13)]), (.arr 3 1 2 [(iC 9), (iC 13)]), (.arr 3 1 3 [(iC 8), (iC 10), (iC 12)]), (.arr 3 1 2 [(iC 7), (iC 15)]), (.arr 3 1 2 [(iC 4), (iC 15)]), (.arr 3 1 3 [(iC 5), (iC 6), (iC 14)]), (.arr 3 1 2 [(iC 15), (iC 17)]), (.arr 3 1 2 [(iC 9), (iC 17)]), (.arr 3 1 3 [(iC 8), (iC 14), (iC 16)]), (.arr 3 1 2 [(iC 5), (iC 19)]), (.arr 3 1 2 [(iC 3), (iC 19)]), (.arr 3 1 3 [(iC 2), (iC 4), (iC 18)]), (.arr 3 1 2 [(iC 19), (iC 21)]), (.arr 3 1 2 [(iC 6), (iC 21)]), (.arr 3 1 3 [(iC 7), (iC 18), (iC 20)]), (.arr 3 1 2 [(iC 21), (iC 23)]), (.arr 3 1 2 [(iC 16), (iC 23)]), (.arr 3 1 3 [(iC 17), (iC 20), (iC 22)]), (.arr 3 1 2 [(iC 22), (iC 25)]), (.arr 3 1 2 [(iC 12), (iC 25)]), (.arr 3 1 3 [(iC 13), (iC 23), (iC 24)]), (.arr 3 1 1 [(iC 5)])]⟩
noncomputable def t234 : List Ent := e234 :: t233
noncomputable def e235 : Ent := ⟨259, [(.one (.sl false 12 [(iC 1), (iC 2), (iC 3), (iC 4), (iC 5), (iC 6), (iC 7), (iC 8), (iC 9), (iC 10), (iC 11), (iC 12)])), (.agg [(iC 12), (.sl false 3 [(iC 5), (iC 15), (iC 25)]), (.sl false 0 [])])],
  (.tup [(.one (iC 1)), (.one (.cut (0, 0) 11)), (.one (iC 0))]),
  [(.arr 3 1 12 [(iC 2), (iC 4), (iC 3), (iC 8), (iC 5), (iC 6), (iC 7), (iC 12), (iC 9), (iC 10), (iC 11), (iC 12)])]⟩
noncomputable def t235 : List Ent := e235 :: t234
noncomputable def e236 : Ent := ⟨256, [(.one (iC 12)), (.one (.sl false 29 [(.sl false 2 [(iC 6), (iC 9)]), (.sl false 2 [(iC 2), (iC 9)]), (.sl false 3 [(iC 3), (iC 7), (iC 8)]), (.sl false 2 [(iC 7), (iC 11)]), (.sl false 2 [(iC 2), (iC 11)]), (.sl false 3 [(iC 3), (iC 6), (iC 10)]), (.sl false 2 [(iC 11), (iC 13)]), (.sl false 2 [(iC 9), (iC 13)]), (.sl false 3 [(iC 8), (iC 10), (iC 12)]), (.sl false 2 [(iC 7), (iC 15)]), (.sl false 2 [(iC 4), (iC 15)]), (.sl false 3 [(iC 5), (iC 6), (iC 14)]), (.sl false 2 [(iC 15), (iC 17)]), (.sl false 2 [(iC 9), (iC 17)]), (.sl false 3 [(iC 8), (iC 14), (iC 16)]), (.sl false 2 [(iC 5), (iC 19)]), (.sl false 2 [(iC 3), (iC 19)]), (.sl false 3 [(iC 2), (iC 4), (iC 18)]), (.sl false 2 [(iC 19), (iC 21)]), (.sl false 2 [(iC 6), (iC 21)]), (.sl false 3 [(iC 7), (iC 18), (iC 20)]), (.sl false 2 [(iC 21), (iC 23)]), (.sl false 2 [(iC 16), (iC 23)]), (.sl false 3 [(iC 17), (iC 20), (iC 22)]), (.sl false 2 [(iC 22), (iC 25)]), (.sl false 2 [(iC 12), (iC 25)]), (.sl false 3 [(iC 13), (iC 23), (iC 24)]), (.sl false 1 [(iC 5)]), (.sl false 1 [(iC 25)])])), (.one (.sl false 1 [(iC 3)]))],
  (.tup [(.one (.own (0, 0))), (.one (iC 0))]),
  [(.arr 3 1 1 [(iC 2)])]⟩
noncomputable def t236 : List Ent := e236 :: t235
noncomputable def e237 : Ent := ⟨258, [(.agg [(iC 12), (.sl false 11 [(iC 5), (iC 15), (iC 25), (iC 3), (iC 9), (iC 11), (iC 12), (iC 16), (iC 18), (iC 21), (iC 22)]), (.sl false 1 [(iC 3)])]), (.one (.sl false 1 [(iC 2)]))],
  (.tup [(.agg [(iC 12), (.own (0, 0)), (.own (0, 1))]), (.one (iC 0))]),
  [(.arr 3 1 4 [(iC 5), (iC 15), (iC 25), (iC 2)]), (.arr 3 1 0 [])]⟩
noncomputable def t237 : List Ent := e237 :: t236
noncomputable def e238 : Ent := ⟨259, [(.one (.sl false 12 [(iC 1), (iC 2), (iC 3), (iC 4), (iC 5), (iC 6), (iC 7), (iC 8), (iC 9), (iC 10), (iC 11), (iC 12)])), (.agg [(iC 12), (.sl false 5 [(iC 5), (iC 15), (iC 25), (iC 2), (iC 19)]), (.sl false 0 [])])],
  (.tup [(.one (iC 3)), (.one (.cut (0, 0) 9)), (.one (iC 0))]),
  [(.arr 3 1 12 [(iC 4), (iC 5), (iC 6), (iC 8), (iC 10), (iC 11), (iC 7), (iC 12), (iC 9), (iC 10), (iC 11), (iC 12)])]⟩
noncomputable def t238 : List Ent := e238 :: t237
noncomputable def e239 : Ent := ⟨259, [(.one (.sl false 12 [(iC 1), (iC 2), (iC 3), (iC 4), (iC 5), (iC 6), (iC 7), (iC 8), (iC 9), (iC 10), (iC 11), (iC 12)])), (.agg [(iC 12), (.sl false 12 [(iC 5), (iC 15), (iC 25), (iC 2), (iC 19), (iC 7), (iC 9), (iC 10), (iC 13), (iC 16), (iC 21), (iC 22)]), (.sl false 1 [(iC 5)])])],
  (.tup [(.one (iC 0)), (.one nC), (.one (iC 6))]),
  []⟩
noncomputable def t239 : List Ent := e239 :: t238
noncomputable def e240 : Ent := ⟨166, [(.one (iC 12)), (.one (.sl false 29 [(.sl false 2 [(iC 6), (iC 9)]), (.sl false 2 [(iC 2), (iC 9)]), (.sl false 3 [(iC 3), (iC 7), (iC 8)]), (.sl false 2 [(iC 7), (iC 11)]), (.sl false 2 [(iC 2), (iC 11)]), (.sl false 3 [(iC 3), (iC 6), (iC 10)]), (.sl false 2 [(iC 11), (iC 13)]), (.sl false 2 [(iC 9), (iC 13)]), (.sl false 3 [(iC 8), (iC 10), (iC 12)]), (.sl false 2 [(iC 7), (iC 15)]), (.sl false 2 [(iC 4), (iC 15)]), (.sl false 3 [(iC 5), (iC 6), (iC 14)]), (.sl false 2 [(iC 15), (iC 17)]), (.sl false 2 [(iC 9), (iC 17)]), (.sl false 3 [(iC 8), (iC 14), (iC 16)]), (.sl false 2 [(iC 5), (iC 19)]), (.sl false 2 [(iC 3), (iC 19)]), (.sl false 3 [(iC 2), (iC 4), (iC 18)]), (.sl false 2 [(iC 19), (iC 21)]), (.sl false 2 [(iC 6), (iC 21)]), (.sl false 3 [(iC 7), (iC 18), (iC 20)]), (.sl false 2 [(iC 21), (iC 23)]), (.sl false 2 [(iC 16), (iC 23)]), (.sl false 3 [(iC 17), (iC 20), (iC 22)]), (.sl false 2 [(iC 22), (iC 25)]), (.sl false 2 [(iC 12), (iC 25)]), (.sl false 3 [(iC 13), (iC 23), (iC 24)]), (.sl false 1 [(iC 5)]), (.sl false 1 [(iC 25)])])), (.one (iC 100000))],
  (.tup [(.agg [(bC true), (.own (0, 0)), nC, (.own (0, 1)), (iC 1)]), (.one (iC 0))]),
  [(.arr 4 1 12 [(bC true), (bC false), (bC false), (bC false), (bC true), (bC false), (bC false), (bC true), (bC false), (bC false), (bC true), (bC false)]), (.arr 25 1 1 [(.own (0, 2))]), (.arr 3 1 1 [(iC 2)])]⟩
noncomputable def t240 : List Ent := e240 :: t239
noncomputable def e241 : Ent := ⟨215, [(.agg [(iC 12), (.sl false 1 [(.sl false 13 [(iC 0), (iC 2), (iC 4), (iC 6), (iC 8), (iC 10), (iC 12), (iC 14), (iC 16), (iC 18), (iC 20), (iC 22), (iC 24)])]), (.sl false 29 [(.sl false 2 [(iC 6), (iC 9)]), (.sl false 2 [(iC 2), (iC 9)]), (.sl false 3 [(iC 3), (iC 7), (iC 8)]), (.sl false 2 [(iC 7), (iC 11)]), (.sl false 2 [(iC 2), (iC 11)]), (.sl false 3 [(iC 3), (iC 6), (iC 10)]), (.sl false 2 [(iC 11), (iC 13)]), (.sl false 2 [(iC 9), (iC 13)]), (.sl false 3 [(iC 8), (iC 10), (iC 12)]), (.sl false 2 [(iC 7), (iC 15)]), (.sl false 2 [(iC 4), (iC 15)]), (.sl false 3 [(iC 5), (iC 6), (iC 14)]), (.sl false 2 [(iC 15), (iC 17)]), (.sl false 2 [(iC 9), (iC 17)]), (.sl false 3 [(iC 8), (iC 14), (iC 16)]), (.sl false 2 [(iC 5), (iC 19)]), (.sl false 2 [(iC 3), (iC 19)]), (.sl false 3 [(iC 2), (iC 4), (iC 18)]), (.sl false 2 [(iC 19), (iC 21)]), (.sl false 2 [(iC 6), (iC 21)]), (.sl false 3 [(iC 7), (iC 18), (iC 20)]), (.sl false 2 [(iC 21), (iC 23)]), (.sl false 2 [(iC 16), (iC 23)]), (.sl false 3 [(iC 17), (iC 20), (iC 22)]), (.sl false 2 [(iC 22), (iC 25)]), (.sl false 2 [(iC 12), (iC 25)]), (.sl false 3 [(iC 13), (iC 23), (iC 24)]), (.sl false 1 [(iC 5)]), (.sl false 1 [(iC 25)])])])],
  (.one (iC 0)),
  []⟩
noncomputable def t241 : List Ent := e241 :: t240
noncomputable def e242 : Ent := ⟨167, [(.agg [(iC 0), (.sl false 3 [(iC 13), (iC 0), (iC 13), (iC 0), (iC 0), (iC 1)]), (.sl false 9 [(iC 6), (iC 2), (iC 7), (iC 2), (iC 11), (iC 9), (iC 7), (iC 4), (iC 15), (iC 9), (iC 5), (iC 3), (iC 19), (iC 6), (iC 21), (iC 16), (iC 22), (iC 12)]), (.sl false 1 [(iC 25)]), (.sl false 1 [(iC 1)])]), (.agg [(iC 12), (.sl false 1 [(.sl false 13 [(iC 0), (iC 2), (iC 4), (iC 6), (iC 8), (iC 10), (iC 12), (iC 14), (iC 16), (iC 18), (iC 20), (iC 22), (iC 24)])]), (.sl false 29 [(.sl false 2 [(iC 6), (iC 9)]), (.sl false 2 [(iC 2), (iC 9)]), (.sl false 3 [(iC 3), (iC 7), (iC 8)]), (.sl false 2 [(iC 7), (iC 11)]), (.sl false 2 [(iC 2), (iC 11)]), (.sl false 3 [(iC 3), (iC 6), (iC 10)]), (.sl false 2 [(iC 11), (iC 13)]), (.sl false 2 [(iC 9), (iC 13)]), (.sl false 3 [(iC 8), (iC 10), (iC 12)]), (.sl false 2 [(iC 7), (iC 15)]), (.sl false 2 [(iC 4), (iC 15)]), (.sl false 3 [(iC 5), (iC 6), (iC 14)]), (.sl false 2 [(iC 15), (iC 17)]), (.sl false 2 [(iC 9), (iC 17)]), (.sl false 3 [(iC 8), (iC 14), (iC 16)]), (.sl false 2 [(iC 5), (iC 19)]), (.sl false 2 [(iC 3), (iC 19)]), (.sl false 3 [(iC 2), (iC 4), (iC 18)]), (.sl false 2 [(iC 19), (iC 21)]), (.sl false 2 [(iC 6), (iC 21)]), (.sl false 3 [(iC 7), (iC 18), (iC 20)]), (.sl false 2 [(iC 21), (iC 23)]), (.sl false 2 [(iC 16), (iC 23)]), (.sl false 3 [(iC 17), (iC 20), (iC 22)]), (.sl false 2 [(iC 22), (iC 25)]), (.sl false 2 [(iC 12), (iC 25)]), (.sl false 3 [(iC 13), (iC 23), (iC 24)]), (.sl false 1 [(iC 5)]), (.sl false 1 [(iC 25)])])]), (.one (.sl false 12 [(bC true), (bC false), (bC false), (bC false), (bC true), (bC false), (bC false), (bC true), (bC false), (bC false), (bC true), (bC false)]))],
  (.tup [(.agg [(.own (0, 0)), (.own (0, 1))]), (.one (iC 0))]),
  [(.arr 4 1 3 [(bC true), (bC false), (bC false)]), (.arr 32 1 1 [nC])]⟩
noncomputable def t242 : List Ent := e242 :: t241
noncomputable def e243 : Ent := ⟨168, [(.agg [(iC 0), (.sl false 3 [(iC 13), (iC 0), (iC 13), (iC 0), (iC 0), (iC 1)]), (.sl false 9 [(iC 6), (iC 2), (iC 7), (iC 2), (iC 11), (iC 9), (iC 7), (iC 4), (iC 15), (iC 9), (iC 5), (iC 3), (iC 19), (iC 6), (iC 21), (iC 16), (iC 22), (iC 12)]), (.sl false 1 [(iC 25)]), (.sl false 1 [(iC 1)])]), (.agg [(.sl false 1 [(.sl false 1 [(.sl false 1 [(iC 5)])])])]), (.one (iC 1)), (.one (iC 100000))],
  (.tup [(.agg [(bC true), (.own (0, 0)), nC, (iC 1)]), (.one (iC 0))]),
  [(.arr 4 1 3 [(bC true), (bC false), (bC false)])]⟩
noncomputable def t243 : List Ent := e243 :: t242
noncomputable def e244 : Ent := ⟨222, [(.agg [(iC 0), (.sl false 3 [(iC 13), (iC 0), (iC 13), (iC 0), (iC 0), (iC 1)]), (.sl false 9 [(iC 6), (iC 2), (iC 7), (iC 2), (iC 11), (iC 9), (iC 7), (iC 4), (iC 15), (iC 9), (iC 5), (iC 3), (iC 19), (iC 6), (iC 21), (iC 16), (iC 22), (iC 12)]), (.sl false 1 [(iC 25)]), (.sl false 1 [(iC 1)])]), (.one (.sl false 3 [(bC true), (bC false), (bC false)])), (.one (.sl false 0 []))],
  (.tup [(.one (.own (0, 0))), (.one (iC 0))]),
  [(.arr 3 1 2 [(iC 2), (iC 7)])]⟩
noncomputable def t244 : List Ent := e244 :: t243
noncomputable def e245 : Ent := ⟨217, [(.agg [(iC 0), (.sl false 3 [(iC 13), (iC 0), (iC 13), (iC 0), (iC 0), (iC 1)]), (.sl false 9 [(iC 6), (iC 2), (iC 7), (iC 2), (iC 11), (iC 9), (iC 7), (iC 4), (iC 15), (iC 9), (iC 5), (iC 3), (iC 19), (iC 6), (iC 21), (iC 16), (iC 22), (iC 12)]), (.sl false 1 [(iC 25)]), (.sl false 1 [(iC 1)])]), (.agg [(.sl false 1 [(.sl false 1 [(.sl false 1 [(iC 5)])])])]), (.one (iC 0)), (.one (iC 100000))],
  (.tup [(.one (.loc (0, 0) 0)), (.one (iC 0))]),
  [(.box 353 [(iC 0), (.sl false 3 [(iC 13), (iC 0), (iC 13), (iC 0), (iC 0), (iC 1)]), (.sl false 9 [(iC 6), (iC 2), (iC 7), (iC 2), (iC 11), (iC 9), (iC 7), (iC 4), (iC 15), (iC 9), (iC 5), (iC 3), (iC 19), (iC 6), (iC 21), (iC 16), (iC 22), (iC 12)]), (.sl false 1 [(iC 25)]), (.sl false 1 [(iC 1)]), (iC 12), (.own (0, 1)), (.own (0, 3)), (.own (0, 2))]), (.arr 25 1 1 [(.own (0, 2))]), (.arr 3 1 13 [(iC 0), (iC 2), (iC 4), (iC 6), (iC 8), (iC 10), (iC 12), (iC 14), (iC 16), (iC 18), (iC 20), (iC 22), (iC 24)]), (.arr 25 1 30 [(.own (0, 4)), (.own (0, 5)), (.own (0, 6)), (.own (0, 7)), (.own (0, 8)), (.own (0, 9)), (.own (0, 10)), (.own (0, 11)), (.own (0, 12)), (.own (0, 13)), (.own (0, 14)), (.own (0, 15)), (.own (0, 16)), (.own (0, 17)), (.own (0, 18)), (.own (0, 19)), (.own (0, 20)), (.own (0, 21)), (.own (0, 22)), (.own (0, 23)), (.own (0, 24)), (.own (0, 25)), (.own (0, 26)), (.own (0, 27)), (.own (0, 28)), (.own (0, 29)), (.own (0, 30)), (.own (0, 31)), (.own (0, 32)), (.own (0, 33))]), (.arr 3 1 2 [(iC 6), (iC 9)]), (.arr 3 1 2 [(iC 2), (iC 9)]), (.arr 3 1 3 [(iC 3), (iC 7), (iC 8)]), (.arr 3 1 2 [(iC 7), (iC 11)]), (.arr 3 1 2 [(iC 2), (iC 11)]), (.arr 3 1 3 [(iC 3), (iC 6), (iC 10)]), (.arr 3 1 2 [(iC 11), (iC 13)]), (.arr 3 1 2 [(iC 9), (iC 13)]), (.arr 3 1 3 [(iC 8), (iC 10), (iC 12)]), (.arr 3 1 2 [(iC 7), (iC 15)]), (.arr 3 1 2 [(iC 4), (iC 15)]), (.arr 3 1 3 [(iC 5), (iC 6), (iC 14)]), (.arr 3 1 2 [(iC 15), (iC 17)]), (.arr 3 1 2 [(iC 9), (iC 17)]), (.arr 3 1 3 [(iC 8), (iC 14), (iC 16)]), (.arr 3 1 2 [(iC 5), (iC 19)]), (.arr 3 1 2 [(iC 3), (iC 19)]), (.arr 3 1 3 [(iC 2), (iC 4), (iC 18)]), (.arr 3 1 2 [(iC 19), (iC 21)]), (.arr 3 1 2 [(iC 6), (iC 21)]), (.arr 3 1 3 [(iC 7), (iC 18), (iC 20)]), (.arr 3 1 2 [(iC 21), (iC 23)]), (.arr 3 1 2 [(iC 16), (iC 23)]), (.arr 3 1 3 [(iC 17), (iC 20), (iC 22)]), (.arr 3 1 2 [(iC 22), (iC 25)]), (.arr 3 1 2 [(iC 12), (iC 25)]), (.arr 3 1 3 [(iC 13), (iC 23), (iC 24)]), (.arr 3 1 1 [(iC 3)]), (.arr 3 1 1 [(iC 5)]), (.arr 3 1 1 [(iC 6)])]⟩
noncomputable def t245 : List Ent := e245 :: t244
noncomputable def e246 : Ent := ⟨166, [(.one (iC 12)), (.one (.sl false 32 [(.sl false 2 [(iC 6), (iC 9)]), (.sl false 2 [(iC 2), (iC 9)]), (.sl false 3 [(iC 3), (iC 7), (iC 8)]), (.sl false 2 [(iC 7), (iC 11)]), (.sl false 2 [(iC 2), (iC 11)]), (.sl false 3 [(iC 3), (iC 6), (iC 10)]), (.sl false 2 [(iC 11), (iC 13)]), (.sl false 2 [(iC 9), (iC 13)]), (.sl false 3 [(iC 8), (iC 10), (iC 12)]), (.sl false 2 [(iC 7), (iC 15)]), (.sl false 2 [(iC 4), (iC 15)]), (.sl false 3 [(iC 5), (iC 6), (iC 14)]), (.sl false 2 [(iC 15), (iC 17)]), (.sl false 2 [(iC 9), (iC 17)]), (.sl false 3 [(iC 8), (iC 14), (iC 16)]), (.sl false 2 [(iC 5), (iC 19)]), (.sl false 2 [(iC 3), (iC 19)]), (.sl false 3 [(iC 2), (iC 4), (iC 18)]), (.sl false 2 [(iC 19), (iC 21)]), (.sl false 2 [(iC 6), (iC 21)]), (.sl false 3 [(iC 7), (iC 18), (iC 20)]), (.sl false 2 [(iC 21), (iC 23)]), (.sl false 2 [(iC 16), (iC 23)]), (.sl false 3 [(iC 17), (iC 20), (iC 22)]), (.sl false 2 [(iC 22), (iC 25)]), (.sl false 2 [(iC 12), (iC 25)]), (.sl false 3 [(iC 13), (iC 23), (iC 24)]), (.sl false 1 [(iC 3)]), (.sl false 1 [(iC 5)]), (.sl false 1 [(iC 6)]), (.sl false 2 [(iC 3), (iC 6)]), (.sl false 1 [(iC 13)])])), (.one (iC 100000))],
  (.tup [(.agg [(bC false), nC, nC, (.own (0, 0)), (iC 0)]), (.one (iC 0))]),
  [(.arr 25 1 1 [(.own (0, 1))]), (.arr 3 1 0 [])]⟩
noncomputable def t246 : List Ent := e246 :: t245
noncomputable def e247 : Ent := ⟨175, [(.agg [(iC 0), (.sl false 3 [(iC 13), (iC 0), (iC 13), (iC 0), (iC 0), (iC 1)]), (.sl false 9 [(iC 6), (iC 2), (iC 7), (iC 2), (iC 11), (iC 9), (iC 7), (iC 4), (iC 15), (iC 9), (iC 5), (iC 3), (iC 19), (iC 6), (iC 21), (iC 16), (iC 22), (iC 12)]), (.sl false 1 [(iC 25)]), (.sl false 1 [(iC 1)])]), (.agg [(.sl false 1 [(.sl false 1 [(.sl false 1 [(iC 5)])])])]), (.one (iC 0)), (.one (.sl false 2 [(iC 2), (iC 7)])), (.one (bC true)), (.one (iC 100000))],
  (.tup [(.agg [(bC false), nC, nC, (iC 0)]), (.one (iC 0))]),
  []⟩
noncomputable def t247 : List Ent := e247 :: t246
noncomputable def e248 : Ent := ⟨310, [(.agg [(iC 0), (.sl false 3 [(iC 13), (iC 0), (iC 13), (iC 0), (iC 0), (iC 1)]), (.sl false 9 [(iC 6), (iC 2), (iC 7), (iC 2), (iC 11), (iC 9), (iC 7), (iC 4), (iC 15), (iC 9), (iC 5), (iC 3), (iC 19), (iC 6), (iC 21), (iC 16), (iC 22), (iC 12)]), (.sl false 1 [(iC 25)]), (.sl false 1 [(iC 1)])]), (.agg [(.sl false 1 [(.sl false 1 [(.sl false 1 [(iC 5)])])])]), (.one (iC 1)), (.one (.sl false 2 [(iC 2), (iC 7)])), (.one (iC 100000))],
  (.tup [(.one (bC true)), (.one (iC 0)), (.one (iC 0))]),
  []⟩
noncomputable def t248 : List Ent := e248 :: t247
noncomputable def e249 : Ent := ⟨175, [(.agg [(iC 0), (.sl false 3 [(iC 13), (iC 0), (iC 13), (iC 0), (iC 0), (iC 1)]), (.sl false 9 [(iC 6), (iC 2), (iC 7), (iC 2), (iC 11), (iC 9), (iC 7), (iC 4), (iC 15), (iC 9), (iC 5), (iC 3), (iC 19), (iC 6), (iC 21), (iC 16), (iC 22), (iC 12)]), (.sl false 1 [(iC 25)]), (.sl false 1 [(iC 1)])]), (.agg [(.sl false 1 [(.sl false 1 [(.sl false 1 [(iC 5)])])])]), (.one (iC 0)), (.one (.sl false 1 [(iC 7)])), (.one (bC true)), (.one (iC 100000))],
  (.tup [(.agg [(bC true), (.own (0, 0)), nC, (iC 0)]), (.one (iC 0))]),
  [(.arr 4 1 3 [(bC false), (bC false), (bC true)])]⟩
noncomputable def t249 : List Ent := e249 :: t248
noncomputable def e250 : Ent := ⟨310, [(.agg [(iC 0), (.sl false 3 [(iC 13), (iC 0), (iC 13), (iC 0), (iC 0), (iC 1)]), (.sl false 9 [(iC 6), (iC 2), (iC 7), (iC 2), (iC 11), (iC 9), (iC 7), (iC 4), (iC 15), (iC 9), (iC 5), (iC 3), (iC 19), (iC 6), (iC 21), (iC 16), (iC 22), (iC 12)]), (.sl false 1 [(iC 25)]), (.sl false 1 [(iC 1)])]), (.agg [(.sl false 1 [(.sl false 1 [(.sl false 1 [(iC 5)])])])]), (.one (iC 1)), (.one (.sl false 1 [(iC 7)])), (.one (iC 100000))],
  (.tup [(.one (bC false)), (.one (iC 0)), (.one (iC 0))]),
  []⟩
noncomputable def t250 : List Ent := e250 :: t249
noncomputable def e251 : Ent := ⟨166, [(.one (iC 12)), (.one (.sl false 32 [(.sl false 2 [(iC 6), (iC 9)]), (.sl false 2 [(iC 2), (iC 9)]), (.sl false 3 [(iC 3), (iC 7), (iC 8)]), (.sl false 2 [(iC 7), (iC 11)]), (.sl false 2 [(iC 2), (iC 11)]), (.sl false 3 [(iC 3), (iC 6), (iC 10)]), (.sl false 2 [(iC 11), (iC 13)]), (.sl false 2 [(iC 9), (iC 13)]), (.sl false 3 [(iC 8), (iC 10), (iC 12)]), (.sl false 2 [(iC 7), (iC 15)]), (.sl false 2 [(iC 4), (iC 15)]), (.sl false 3 [(iC 5), (iC 6), (iC 14)]), (.sl false 2 [(iC 15), (iC 17)]), (.sl false 2 [(iC 9), (iC 17)]), (.sl false 3 [(iC 8), (iC 14), (iC 16)]), (.sl false 2 [(iC 5), (iC 19)]), (.sl false 2 [(iC 3), (iC 19)]), (.sl false 3 [(iC 2), (iC 4), (iC 18)]), (.sl false 2 [(iC 19), (iC 21)]), (.sl false 2 [(iC 6), (iC 21)]), (.sl false 3 [(iC 7), (iC 18), (iC 20)]), (.sl false 2 [(iC 21), (iC 23)]), (.sl false 2 [(iC 16), (iC 23)]), (.sl false 3 [(iC 17), (iC 20), (iC 22)]), (.sl false 2 [(iC 22), (iC 25)]), (.sl false 2 [(iC 12), (iC 25)]), (.sl false 3 [(iC 13), (iC 23), (iC 24)]), (.sl false 1 [(iC 3)]), (.sl false 1 [(iC 5)]), (.sl false 1 [(iC 6)]), (.sl false 1 [(iC 3)]), (.sl false 1 [(iC 13)])])), (.one (iC 100000))],
  (.tup [(.agg [(bC false), nC, nC, (.own (0, 0)), (iC 0)]), (.one (iC 0))]),
  [(.arr 25 1 1 [(.own (0, 1))]), (.arr 3 1 0 [])]⟩
noncomputable def t251 : List Ent := e251 :: t250
noncomputable def e252 : Ent := ⟨175, [(.agg [(iC 0), (.sl false 3 [(iC 13), (iC 0), (iC 13), (iC 0), (iC 0), (iC 1)]), (.sl false 9 [(iC 6), (iC 2), (iC 7), (iC 2), (iC 11), (iC 9), (iC 7), (iC 4), (iC 15), (iC 9), (iC 5), (iC 3), (iC 19), (iC 6), (iC 21), (iC 16), (iC 22), (iC 12)]), (.sl false 1 [(iC 25)]), (.sl false 1 [(iC 1)])]), (.agg [(.sl false 1 [(.sl false 1 [(.sl false 1 [(iC 5)])])])]), (.one (iC 0)), (.one (.sl false 1 [(iC 2)])), (.one (bC true)), (.one (iC 100000))],
  (.tup [(.agg [(bC false), nC, nC, (iC 0)]), (.one (iC 0))]),
  []⟩
noncomputable def t252 : List Ent := e252 :: t251
noncomputable def e253 : Ent := ⟨310, [(.agg [(iC 0), (.sl false 3 [(iC 13), (iC 0), (iC 13), (iC 0), (iC 0), (iC 1)]), (.sl false 9 [(iC 6), (iC 2), (iC 7), (iC 2), (iC 11), (iC 9), (iC 7), (iC 4), (iC 15), (iC 9), (iC 5), (iC 3), (iC 19), (iC 6), (iC 21), (iC 16), (iC 22), (iC 12)]), (.sl false 1 [(iC 25)]), (.sl false 1 [(iC 1)])]), (.agg [(.sl false 1 [(.sl false 1 [(.sl false 1 [(iC 5)])])])]), (.one (iC 1)), (.one (.sl false 1 [(iC 2)])), (.one (iC 100000))],
  (.tup [(.one (bC true)), (.one (iC 0)), (.one (iC 0))]),
  []⟩
noncomputable def t253 : List Ent := e253 :: t252
noncomputable def e254 : Ent := ⟨270, [(.agg [(iC 0), (.sl false 3 [(iC 13), (iC 0), (iC 13), (iC 0), (iC 0), (iC 1)]), (.sl false 9 [(iC 6), (iC 2), (iC 7), (iC 2), (iC 11), (iC 9), (iC 7), (iC 4), (iC 15), (iC 9), (iC 5), (iC 3), (iC 19), (iC 6), (iC 21), (iC 16), (iC 22), (iC 12)]), (.sl false 1 [(iC 25)]), (.sl false 1 [(iC 1)])]), (.agg [(.sl false 1 [(.sl false 1 [(.sl false 1 [(iC 5)])])])]), (.one (iC 1)), (.one (.sl false 2 [(iC 2), (iC 7)])), (.one (iC 100000))],
  (.tup [(.agg [(.cut (0, 0) 1), (iC 0)]), (.one (iC 0))]),
  [(.arr 3 1 2 [(iC 2), (iC 0)])]⟩
noncomputable def t254 : List Ent := e254 :: t253
noncomputable def e255 : Ent := ⟨217, [(.agg [(iC 0), (.sl false 3 [(iC 13), (iC 0), (iC 13), (iC 0), (iC 0), (iC 1)]), (.sl false 9 [(iC 6), (iC 2), (iC 7), (iC 2), (iC 11), (iC 9), (iC 7), (iC 4), (iC 15), (iC 9), (iC 5), (iC 3), (iC 19), (iC 6), (iC 21), (iC 16), (iC 22), (iC 12)]), (.sl false 1 [(iC 25)]), (.sl false 1 [(iC 1)])]), (.agg [(.sl false 1 [(.sl false 2 [(.sl false 1 [(iC 5)]), (.sl false 1 [(iC 3)])])])]), (.one (iC 1)), (.one (iC 100000))],
  (.tup [(.one (.loc (0, 0) 0)), (.one (iC 0))]),
  [(.box 353 [(iC 0), (.sl false 3 [(iC 13), (iC 0), (iC 13), (iC 0), (iC 0), (iC 1)]), (.sl false 9 [(iC 6), (iC 2), (iC 7), (iC 2), (iC 11), (iC 9), (iC 7), (iC 4), (iC 15), (iC 9), (iC 5), (iC 3), (iC 19), (iC 6), (iC 21), (iC 16), (iC 22), (iC 12)]), (.sl false 1 [(iC 25)]), (.sl false 1 [(iC 1)]), (iC 12), (.own (0, 1)), (.own (0, 3)), (.own (0, 2))]), (.arr 25 1 1 [(.own (0, 2))]), (.arr 3 1 13 [(iC 0), (iC 2), (iC 4), (iC 6), (iC 8), (iC 10), (iC 12), (iC 14), (iC 16), (iC 18), (iC 20), (iC 22), (iC 24)]), (.arr 25 1 29 [(.own (0, 4)), (.own (0, 5)), (.own (0, 6)), (.own (0, 7)), (.own (0, 8)), (.own (0, 9)), (.own (0, 10)), (.own (0, 11)), (.own (0, 12)), (.own (0, 13)), (.own (0, 14)), (.own (0, 15)), (.own (0, 16)), (.own (0, 17)), (.own (0, 18)), (.own (0, 19)), (.own (0, 20)), (.own (0, 21)), (.own (0, 22)), (.own (0, 23)), (.own (0, 24)), (.own (0, 25)), (.own (0, 26)), (.own (0, 27)), (.own (0, 28)), (.own (0, 29)), (.own (0, 30)), (.own (0, 31)), (.own (0, 32))]), (.arr 3 1 2 [(iC 6), (iC 9)]), (.arr 3 1 2 [(iC 2), (iC 9)]), (.arr 3 1 3 [(iC 3), (iC 7), (iC 8)]), (.arr 3 1 2 [(iC 7), (iC 11)]), (.arr 3 1 2 [(iC 2), (iC 11)]), (.arr 3 1 3 [(iC 3), (iC 6), (iC 10)]), (.arr 3 1 2 [(iC 11), (iC 13)]), (.arr 3 1 2 [(iC 9), (iC 13)]), (.arr 3 1 3 [(iC 8), (iC 10), (iC 12)]), (.arr 3 1 2 [(iC 7), (iC 15)]), (.arr 3 1 2 [(iC 4), (iC 15)]), (.arr 3 1 3 [(iC 5), (iC 6), (iC 14)]), (.arr 3 1 2 [(iC 15), (iC 17)]), (.arr 3 1 2 [(iC 9), (iC 17)]), (.arr 3 1 3 [(iC 8), (iC 14), (iC 16)]), (.arr 3 1 2 [(iC 5), (iC 19)]), (.arr 3 1 2 [(iC 3), (iC 19)]), (.arr 3 1 3 [(iC 2), (iC 4), (iC 18)]), (.arr 3 1 2 [(iC 19), (iC 21)]), (.arr 3 1 2 [(iC 6), (iC 21)]), (.arr 3 1 3 [(iC 7), (iC 18), (iC 20)]), (.arr 3 1 2 [(iC 21), (iC 23)]), (.arr 3 1 2 [(iC 16), (iC 23)]), (.arr 3 1 3 [(iC 17), (iC 20), (iC 22)]), (.arr 3 1 2 [(iC 22), (iC 25)]), (.arr 3 1 2 [(iC 12), (iC 25)]), (.arr 3 1 3 [(iC 13), (iC 23), (iC 24)]), (.arr 3 1 1 [(iC 5)]), (.arr 3 1 1 [(iC 3)])]⟩
noncomputable def t255 : List Ent := e255 :: t254
noncomputable def e256 : Ent := ⟨166, [(.one (iC 12)), (.one (.sl false 30 [(.sl false 2 [(iC 6), (iC 9)]), (.sl false 2 [(iC 2), (iC 9)]), (.sl false 3 [(iC 3), (iC 7), (iC 8)]), (.sl false 2 [(iC 7), (iC 11)]), (.sl false 2 [(iC 2), (iC 11)]), (.sl false 3 [(iC 3), (iC 6), (iC 10)]), (.sl false 2 [(iC 11), (iC 13)]), (.sl false 2 [(iC 9), (iC 13)]), (.sl false 3 [(iC 8), (iC 10), (iC 12)]), (.sl false 2 [(iC 7), (iC 15)]), (.sl false 2 [(iC 4), (iC 15)]), (.sl false 3 [(iC 5), (iC 6), (iC 14)]), (.sl false 2 [(iC 15), (iC 17)]), (.sl false 2 [(iC 9), (iC 17)]), (.sl false 3 [(iC 8), (iC 14), (iC 16)]), (.sl false 2 [(iC 5), (iC 19)]), (.sl false 2 [(iC 3), (iC 19)]), (.sl false 3 [(iC 2), (iC 4), (iC 18)]), (.sl false 2 [(iC 19), (iC 21)]), (.sl false 2 [(iC 6), (iC 21)]), (.sl false 3 [(iC 7), (iC 18), (iC 20)]), (.sl false 2 [(iC 21), (iC 23)]), (.sl false 2 [(iC 16), (iC 23)]), (.sl false 3 [(iC 17), (iC 20), (iC 22)]), (.sl false 2 [(iC 22), (iC 25)]), (.sl false 2 [(iC 12), (iC 25)]), (.sl false 3 [(iC 13), (iC 23), (iC 24)]), (.sl false 1 [(iC 5)]), (.sl false 1 [(iC 3)]), (.sl false 1 [(iC 25)])])), (.one (iC 100000))],
  (.tup [(.agg [(bC false), nC, nC, (.own (0, 0)), (iC 0)]), (.one (iC 0))]),
  [(.arr 25 1 1 [(.own (0, 1))]), (.arr 3 1 0 [])]⟩
noncomputable def t256 : List Ent := e256 :: t255
noncomputable def e257 : Ent := ⟨168, [(.agg [(iC 0), (.sl false 3 [(iC 13), (iC 0), (iC 13), (iC 0), (iC 0), (iC 1)]), (.sl false 9 [(iC 6), (iC 2), (iC 7), (iC 2), (iC 11), (iC 9), (iC 7), (iC 4), (iC 15), (iC 9), (iC 5), (iC 3), (iC 19), (iC 6), (iC 21), (iC 16), (iC 22), (iC 12)]), (.sl false 1 [(iC 25)]), (.sl false 1 [(iC 1)])]), (.agg [(.sl false 1 [(.sl false 2 [(.sl false 1 [(iC 5)]), (.sl false 1 [(iC 3)])])])]), (.one (iC 1)), (.one (iC 100000))],
  (.tup [(.agg [(bC false), nC, nC, (iC 0)]), (.one (iC 0))]),
  []⟩
noncomputable def t257 : List Ent := e257 :: t256
noncomputable def e258 : Ent := ⟨217, [(.agg [(iC 0), (.sl false 3 [(iC 13), (iC 0), (iC 13), (iC 0), (iC 0), (iC 1)]), (.sl false 9 [(iC 6), (iC 2), (iC 7), (iC 2), (iC 11), (iC 9), (iC 7), (iC 4), (iC 15), (iC 9), (iC 5), (iC 3), (iC 19), (iC 6), (iC 21), (iC 16), (iC 22), (iC 12)]), (.sl false 1 [(iC 25)]), (.sl false 1 [(iC 1)])]), (.agg [(.sl false 2 [(.sl false 2 [(.sl false 1 [(iC 5)]), (.sl false 1 [(iC 3)])]), (.sl false 0 [])])]), (.one (iC 1)), (.one (iC 100000))],
  (.tup [(.one (.loc (0, 0) 0)), (.one (iC 0))]),
  [(.box 353 [(iC 0), (.sl false 3 [(iC 13), (iC 0), (iC 13), (iC 0), (iC 0), (iC 1)]), (.sl false 9 [(iC 6), (iC 2), (iC 7), (iC 2), (iC 11), (iC 9), (iC 7), (iC 4), (iC 15), (iC 9), (iC 5), (iC 3), (iC 19), (iC 6), (iC 21), (iC 16), (iC 22), (iC 12)]), (.sl false 1 [(iC 25)]), (.sl false 1 [(iC 1)]), (iC 12), (.own (0, 1)), (.own (0, 3)), (.own (0, 2))]), (.arr 25 1 1 [(.own (0, 2))]), (.arr 3 1 13 [(iC 0), (iC 2), (iC 4), (iC 6), (iC 8), (iC 10), (iC 12), (iC 14), (iC 16), (iC 18), (iC 20), (iC 22), (iC 24)]), (.arr 25 1 29 [(.own (0, 4)), (.own (0, 5)), (.own (0, 6)), (.own (0, 7)), (.own (0, 8)), (.own (0, 9)), (.own (0, 10)), (.own (0, 11)), (.own (0, 12)), (.own (0, 13)), (.own (0, 14)), (.own (0, 15)), (.own (0, 16)), (.own (0, 17)), (.own (0, 18)), (.own (0, 19)), (.own (0, 20)), (.own (0, 21)), (.own (0, 22)), (.own (0, 23)), (.own (0, 24)), (.own (0, 25)), (.own (0, 26)), (.own (0, 27)), (.own (0, 28)), (.own (0, 29)), (.own (0, 30)), (.own (0, 31)), (.own (0, 32))]), (.arr 3 1 2 [(iC 6), (iC 9)]), (.arr 3 1 2 [(iC 2), (iC 9)]), (.arr 3 1 3 [(iC 3), (iC 7), (iC 8)]), (.arr 3 1 2 [(iC 7), (iC 11)]), (.arr 3 1 2 [(iC 2), (iC 11)]), (.arr 3 1 3 [(iC 3), (iC 6), (iC 10)]), (.arr 3 1 2 [(iC 11), (iC 13)]), (.arr 3 1 2 [(iC 9), (iC 13)]), (.arr 3 1 3 [(iC 8), (iC 10), (iC 12)]), (.arr 3 1 2 [(iC 7), (iC 15)]), (.arr 3 1 2 [(iC 4), (iC 15)]), (.arr 3 1 3 [(iC 5), (iC 6), (iC 14)]), (.arr 3 1 2 [(iC 15), (iC 17)]), (.arr 3 1 2 [(iC 9), (iC 17)]), (.arr 3 1 3 [(iC 8), (iC 14), (iC 16)]), (.arr 3 1 2 [(iC 5), (iC 19)]), (.arr 3 1 2 [(iC 3), (iC 19)]), (.arr 3 1 3 [(iC 2), (iC 4), (iC 18)]), (.arr 3 1 2 [(iC 19), (iC 21)]), (.arr 3 1 2 [(iC 6), (iC 21)]), (.arr 3 1 3 [(iC 7), (iC 18), (iC 20)]), (.arr 3 1 2 [(iC 21), (iC 23)]), (.arr 3 1 2 [(iC 16), (iC 23)]), (.arr 3 1 3 [(iC 17), (iC 20), (iC 22)]), (.arr 3 1 2 [(iC 22), (iC 25)]), (.arr 3 1 2 [(iC 12), (iC 25)]), (.arr 3 1 3 [(iC 13), (iC 23), (iC 24)]), (.arr 3 1 1 [(iC 5)]), (.arr 3 1 1 [(iC 3)])]⟩
noncomputable def t258 : List Ent := e258 :: t257
noncomputable def e259 : Ent := ⟨166, [(.one (iC 12)), (.one (.sl false 30 [(.sl false 2 [(iC 6), (iC 9)]), (.sl false 2 [(iC 2), (iC 9)]), (.sl false 3 [(iC 3), (iC 7), (iC 8)]), (.sl false 2 [(iC 7), (iC 11)]), (.sl false 2 [(iC 2), (iC 11)]), (.sl false 3 [(iC 3), (iC 6), (iC 10)]), (.sl false 2 [(iC 11), (iC 13)]), (.sl false 2 [(iC 9), (iC 13)]), (.sl false 3 [(iC 8), (iC 10), (iC 12)]), (.sl false 2 [(iC 7), (iC 15)]), (.sl false 2 [(iC 4), (iC 15)]), (.sl false 3 [(iC 5), (iC 6), (iC 14)]), (.sl false 2 [(iC 15), (iC 17)]), (.sl false 2 [(iC 9), (iC 17)]), (.sl false 3 [(iC 8), (iC 14), (iC 16)]), (.sl false 2 [(iC 5), (iC 19)]), (.sl false 2 [(iC 3), (iC 19)]), (.sl false 3 [(iC 2), (iC 4), (iC 18)]), (.sl false 2 [(iC 19), (iC 21)]), (.sl false 2 [(iC 6), (iC 21)]), (.sl false 3 [(iC 7), (iC 18), (iC 20)]), (.sl false 2 [(iC 21), (iC 23)]), (.sl false 2 [(iC 16), (iC 23)]), (.sl false 3 [(iC 17), (iC 20), (iC 22)]), (.sl false 2 [(iC 22), (iC 25)]), (.sl false 2 [(iC 12), (iC 25)]), (.sl false 3 [(iC 13), (iC 23), (iC 24)]), (.sl false 1 [(iC 5)]), (.sl false 1 [(iC 3)]), (.sl false 1 [(iC 13)])])), (.one (iC 100000))],
  (.tup [(.agg [(bC false), nC, nC, (.own (0, 0)), (iC 0)]), (.one (iC 0))]),
  [(.arr 25 1 1 [(.own (0, 1))]), (.arr 3 1 0 [])]⟩
noncomputable def t259 : List Ent := e259 :: t258
noncomputable def e260 : Ent := ⟨175, [(.agg [(iC 0), (.sl false 3 [(iC 13), (iC 0), (iC 13), (iC 0), (iC 0), (iC 1)]), (.sl false 9 [(iC 6), (iC 2), (iC 7), (iC 2), (iC 11), (iC 9), (iC 7), (iC 4), (iC 15), (iC 9), (iC 5), (iC 3), (iC 19), (iC 6), (iC 21), (iC 16), (iC 22), (iC 12)]), (.sl false 1 [(iC 25)]), (.sl false 1 [(iC 1)])]), (.agg [(.sl false 2 [(.sl false 2 [(.sl false 1 [(iC 5)]), (.sl false 1 [(iC 3)])]), (.sl false 0 [])])]), (.one (iC 1)), (.one (.sl false 1 [(iC 4)])), (.one (bC false)), (.one (iC 100000))],
  (.tup [(.agg [(bC false), nC, nC, (iC 0)]), (.one (iC 0))]),
  []⟩
noncomputable def t260 : List Ent := e260 :: t259
noncomputable def e261 : Ent := ⟨217, [(.agg [(iC 0), (.sl false 3 [(iC 13), (iC 0), (iC 13), (iC 0), (iC 0), (iC 1)]), (.sl false 9 [(iC 6), (iC 2), (iC 7), (iC 2), (iC 11), (iC 9), (iC 7), (iC 4), (iC 15), (iC 9), (iC 5), (iC 3), (iC 19), (iC 6), (iC 21), (iC 16), (iC 22), (iC 12)]), (.sl false 1 [(iC 25)]), (.sl false 1 [(iC 1)])]), (.agg [(.sl false 2 [(.sl false 1 [(.sl false 1 [(iC 3)])]), (.sl false 1 [(.sl false 1 [(iC 5)])])])]), (.one (iC 1)), (.one (iC 100000))],
  (.tup [(.one (.loc (0, 0) 0)), (.one (iC 0))]),
  [(.box 353 [(iC 0), (.sl false 3 [(iC 13), (iC 0), (iC 13), (iC 0), (iC 0), (iC 1)]), (.sl false 9 [(iC 6), (iC 2), (iC 7), (iC 2), (iC 11), (iC 9), (iC 7), (iC 4), (iC 15), (iC 9), (iC 5), (iC 3), (iC 19), (iC 6), (iC 21), (iC 16), (iC 22), (iC 12)]), (.sl false 1 [(iC 25)]), (.sl false 1 [(iC 1)]), (iC 12), (.own (0, 1)), (.own (0, 3)), (.own (0, 2))]), (.arr 25 1 1 [(.own (0, 2))]), (.arr 3 1 13 [(iC 0), (iC 2), (iC 4), (iC 6), (iC 8), (iC 10), (iC 12), (iC 14), (iC 16), (iC 18), (iC 20), (iC 22), (iC 24)]), (.arr 25 1 29 [(.own (0, 4)), (.own (0, 5)), (.own (0, 6)), (.own (0, 7)), (.own (0, 8)), (.own (0, 9)), (.own (0, 10)), (.own (0, 11)), (.own (0, 12)), (.own (0, 13)), (.own (0, 14)), (.own (0, 15)), (.own (0, 16)), (.own (0, 17)), (.own (0, 18)), (.own (0, 19)), (.own (0, 20)), (.own (0, 21)), (.own (0, 22)), (.own (0, 23)), (.own (0, 24)), (.own (0, 25)), (.own (0, 26)), (.own (0, 27)), (.own (0, 28)), (.own (0, 29)), (.own (0, 30)), (.own (0, 31)), (.own (0, 32))]), (.arr 3 1 2 [(iC 6), (iC 9)]), (.arr 3 1 2 [(iC 2), (iC 9)]), (.arr 3 1 3 [(iC 3), (iC 7), (iC 8)]), (.arr 3 1 2 [(iC 7), (iC 11)]), (.arr 3 1 2 [(iC 2), (iC 11)]), (.arr 3 1 3 [(iC 3), (iC 6), (iC 10)]), (.arr 3 1 2 [(iC 11), (iC 13)]), (.arr 3 1 2 [(iC 9), (iC 13)]), (.arr 3 1 3 [(iC 8), (iC 10), (iC 12)]), (.arr 3 1 2 [(iC 7), (iC 15)]), (.arr 3 1 2 [(iC 4), (iC 15)]), (.arr 3 1 3 [(iC 5), (iC 6), (iC 14)]), (.arr 3 1 2 [(iC 15), (iC 17)]), (.arr 3 1 2 [(iC 9), (iC 17)]), (.arr 3 1 3 [(iC 8), (iC 14), (iC 16)]), (.arr 3 1 2 [(iC 5), (iC 19)]), (.arr 3 1 2 [(iC 3), (iC 19)]), (.arr 3 1 3 [(iC 2), (iC 4), (iC 18)]), (.arr 3 1 2 [(iC 19), (iC 21)]), (.arr 3 1 2 [(iC 6), (iC 21)]), (.arr 3 1 3 [(iC 7), (iC 18), (iC 20)]), (.arr 3 1 2 [(iC 21), (iC 23)]), (.arr 3 1 2 [(iC 16), (iC 23)]), (.arr 3 1 3 [(iC 17), (iC 20), (iC 22)]), (.arr 3 1 2 [(iC 22), (iC 25)]), (.arr 3 1 2 [(iC 12), (iC 25)]), (.arr 3 1 3 [(iC 13), (iC 23), (iC 24)]), (.arr 3 1 1 [(iC 3)]), (.arr 3 1 1 [(iC 5)])]⟩
noncomputable def t261 : List Ent := e261 :: t260
noncomputable def e262 : Ent := ⟨166, [(.one (iC 12)), (.one (.sl false 30 [(.sl false 2 [(iC 6), (iC 9)]), (.sl false 2 [(iC 2), (iC 9)]), (.sl false 3 [(iC 3), (iC 7), (iC 8)]), (.sl false 2 [(iC 7), (iC 11)]), (.sl false 2 [(iC 2), (iC 11)]), (.sl false 3 [(iC 3), (iC 6), (iC 10)]), (.sl false 2 [(iC 11), (iC 13)]), (.sl false 2 [(iC 9), (iC 13)]), (.sl false 3 [(iC 8), (iC 10), (iC 12)]), (.sl false 2 [(iC 7), (iC 15)]), (.sl false 2 [(iC 4), (iC 15)]), (.sl false 3 [(iC 5), (iC 6), (iC 14)]), (.sl false 2 [(iC 15), (iC 17)]), (.sl false 2 [(iC 9), (iC 17)]), (.sl false 3 [(iC 8), (iC 14), (iC 16)]), (.sl false 2 [(iC 5), (iC 19)]), (.sl false 2 [(iC 3), (iC 19)]), (.sl false 3 [(iC 2), (iC 4), (iC 18)]), (.sl false 2 [(iC 19), (iC 21)]), (.sl false 2 [(iC 6), (iC 21)]), (.sl false 3 [(iC 7), (iC 18), (iC 20)]), (.sl false 2 [(iC 21), (iC 23)]), (.sl false 2 [(iC 16), (iC 23)]), (.sl false 3 [(iC 17), (iC 20), (iC 22)]), (.sl false 2 [(iC 22), (iC 25)]), (.sl false 2 [(iC 12), (iC 25)]), (.sl false 3 [(iC 13), (iC 23), (iC 24)]), (.sl false 1 [(iC 3)]), (.sl false 1 [(iC 5)]), (.sl false 1 [(iC 13)])])), (.one (iC 100000))],
  (.tup [(.agg [(bC false), nC, nC, (.own (0, 0)), (iC 0)]), (.one (iC 0))]),
  [(.arr 25 1 1 [(.own (0, 1))]), (.arr 3 1 0 [])]⟩
noncomputable def t262 : List Ent := e262 :: t261
noncomputable def e263 : Ent := ⟨175, [(.agg [(iC 0), (.sl false 3 [(iC 13), (iC 0), (iC 13), (iC 0), (iC 0), (iC 1)]), (.sl false 9 [(iC 6), (iC 2), (iC 7), (iC 2), (iC 11), (iC 9), (iC 7), (iC 4), (iC 15), (iC 9), (iC 5), (iC 3), (iC 19), (iC 6), (iC 21), (iC 16), (iC 22), (iC 12)]), (.sl false 1 [(iC 25)]), (.sl false 1 [(iC 1)])]), (.agg [(.sl false 2 [(.sl false 1 [(.sl false 1 [(iC 3)])]), (.sl false 1 [(.sl false 1 [(iC 5)])])])]), (.one (iC 1)), (.one (.sl false 1 [(iC 2)])), (.one (bC false)), (.one (iC 100000))],
  (.tup [(.agg [(bC false), nC, nC, (iC 0)]), (.one (iC 0))]),
  []⟩
noncomputable def t263 : List Ent := e263 :: t262
noncomputable def e264 : Ent := ⟨110, [(.agg [(iC 0), (.sl false 3 [(iC 13), (iC 0), (iC 13), (iC 0), (iC 0), (iC 1)]), (.sl false 9 [(iC 6), (iC 2), (iC 7), (iC 2), (iC 11), (iC 9), (iC 7), (iC 4), (iC 15), (iC 9), (iC 5), (iC 3), (iC 19), (iC 6), (iC 21), (iC 16), (iC 22), (iC 12)]), (.sl false 1 [(iC 25)]), (.sl false 1 [(iC 1)])]), (.agg [(.sl false 2 [(.sl false 2 [(.sl false 1 [(iC 5)]), (.sl false 1 [(iC 3)])]), (.sl false 0 [])])]), (.one (iC 100000))],
  (.tup [(.agg [(.own (0, 0))]), (.one (iC 0)), (.one (iC 0))]),
  [(.arr 54 1 2 [nC, (.own (0, 1))]), (.arr 25 1 2 [(.own (0, 2)), (.own (0, 3))]), (.arr 3 1 1 [(iC 5)]), (.arr 3 1 1 [(iC 3)])]⟩
noncomputable def t264 : List Ent := e264 :: t263
noncomputable def e265 : Ent := ⟨27, [(.agg [(iC 0), (.sl false 3 [(iC 13), (iC 0), (iC 13), (iC 0), (iC 0), (iC 1)]), (.sl false 9 [(iC 6), (iC 2), (iC 7), (iC 2), (iC 11), (iC 9), (iC 7), (iC 4), (iC 15), (iC 9), (iC 5), (iC 3), (iC 19), (iC 6), (iC 21), (iC 16), (iC 22), (iC 12)]), (.sl false 1 [(iC 25)]), (.sl false 1 [(iC 1)])]), (.one (iC 60)), (.one (iC 100000))],
  (.tup [(.agg [(.c (.int .u8 (1))), nC, nC, (.own (0, 0)), (iC 8), (.own (0, 1)), (iC 2), (iC 1)]), (.one (iC 0))]),
  [(.arr 72 2 1 [(iC 5), (iC 3)]), (.arr 54 1 2 [nC, (.own (0, 2))]), (.arr 25 1 2 [(.own (0, 3)), (.own (0, 4))]), (.arr 3 1 1 [(iC 5)]), (.arr 3 1 1 [(iC 3)])]⟩
noncomputable def t265 : List Ent := e265 :: t264
noncomputable def e266 : Ent := ⟨12, [(.agg [(iC 0), (.sl false 3 [(iC 13), (iC 0), (iC 13), (iC 0), (iC 0), (iC 1)]), (.sl false 9 [(iC 6), (iC 2), (iC 7), (iC 2), (iC 11), (iC 9), (iC 7), (iC 4), (iC 15), (iC 9), (iC 5), (iC 3), (iC 19), (iC 6), (iC 21), (iC 16), (iC 22), (iC 12)]), (.sl false 1 [(iC 25)]), (.sl false 1 [(iC 1)])]), (.agg [(bC true), (iC 60), (iC 100000)])],
  (.tup [(.agg [(.c (.int .u8 (1))), nC, nC, (iC 0), (iC 1), (.own (0, 0)), (iC 8)]), (.one (iC 1)), (.one (iC 0))]),
  [(.arr 72 2 1 [(iC 5), (iC 3)])]⟩
noncomputable def t266 : List Ent := e266 :: t265
noncomputable def e267 : Ent := ⟨66, [(.agg [(iC 0), (.sl false 2 [(iC 2), (iC 0), (iC 2), (iC 0)]), (.sl false 0 []), (.sl false 1 [(iC 4)]), (.sl false 0 [])]), (.agg [(iC 0), (.sl false 3 [(iC 13), (iC 0), (iC 13), (iC 0), (iC 0), (iC 1)]), (.sl false 9 [(iC 6), (iC 2), (iC 7), (iC 2), (iC 11), (iC 9), (iC 7), (iC 4), (iC 15), (iC 9), (iC 5), (iC 3), (iC 19), (iC 6), (iC 21), (iC 16), (iC 22), (iC 12)]), (.sl false 1 [(iC 25)]), (.sl false 1 [(iC 1)])]), (.agg [(iC 2), (iC 2), (.sl false 2 [(iC 2), (iC 4)]), (.sl false 4 [(.sl false 0 []), (.sl false 0 []), (.sl false 0 []), (.sl false 0 [])]), (.sl false 3 [(iC 2), (iC 4), (iC (-1))]), (.sl false 0 []), (iC 1)])],
  (.one (iC 0)),
  []⟩
noncomputable def t267 : List Ent := e267 :: t266
noncomputable def e268 : Ent := ⟨29, [(.agg [(iC 0), (.sl false 2 [(iC 2), (iC 0), (iC 2), (iC 0)]), (.sl false 0 []), (.sl false 1 [(iC 4)]), (.sl false 0 [])]), (.agg [(iC 0), (.sl false 3 [(iC 13), (iC 0), (iC 13), (iC 0), (iC 0), (iC 1)]), (.sl false 9 [(iC 6), (iC 2), (iC 7), (iC 2), (iC 11), (iC 9), (iC 7), (iC 4), (iC 15), (iC 9), (iC 5), (iC 3), (iC 19), (iC 6), (iC 21), (iC 16), (iC 22), (iC 12)]), (.sl false 1 [(iC 25)]), (.sl false 1 [(iC 1)])]), (.agg [(iC 2), (iC 2), (.sl false 2 [(iC 2), (iC 4)]), (.sl false 4 [(.sl false 0 []), (.sl false 0 []), (.sl false 0 []), (.sl false 0 [])]), (.sl false 3 [(iC 2), (iC 4), (iC (-1))]), (.sl false 0 []), (iC 1)]), (.agg [(iC 0), (iC 1), (.sl false 1 [(iC 5), (iC 3)]), (iC 8)])],
  (.tup [(.agg [(iC 4), (iC 2), (.own (0, 0)), (iC 6)]), (.one (iC 0))]),
  [(.arr 72 2 1 [(iC 5), (iC 3)])]⟩
noncomputable def t268 : List Ent := e268 :: t267
noncomputable def e269 : Ent := ⟨4, [(.agg [(iC 0), (.sl false 2 [(iC 2), (iC 0), (iC 2), (iC 0)]), (.sl false 0 []), (.sl false 1 [(iC 4)]), (.sl false 0 [])]), (.one (.sl false 2 [(sC [112, 114, 101, 102, 105, 120]), (iC 2), (sC [112, 104, 97, 115, 101, 115]), (iC 2)])), (.one (iC 0)), (.agg [(bC true), (iC 60), (iC 100000)])],
  (.tup [(.agg [(.c (.int .u8 (1))), nC, nC, (iC 4), (iC 2), (.own (0, 0)), (iC 6)]), (.agg [(iC 0), (.own (0, 1)), (.own (0, 2)), (.own (0, 3)), (.own (0, 4))]), (.one (iC 0))]),
  [(.arr 72 2 1 [(iC 5), (iC 3)]), (.arr 23 2 3 [(iC 13), (iC 0), (iC 13), (iC 0), (iC 0), (iC 1)]), (.arr 72 2 9 [(iC 6), (iC 2), (iC 7), (iC 2), (iC 11), (iC 9), (iC 7), (iC 4), (iC 15), (iC 9), (iC 5), (iC 3), (iC 19), (iC 6), (iC 21), (iC 16), (iC 22), (iC 12)]), (.arr 3 1 1 [(iC 25)]), (.arr 3 1 1 [(iC 1)])]⟩
noncomputable def t269 : List Ent := e269 :: t268
noncomputable def e270 : Ent := ⟨240, [(.agg [(iC 0), (.sl false 2 [(iC 2), (iC 0), (iC 2), (iC 0)]), (.sl false 0 []), (.sl false 1 [(iC 4)]), (.sl false 0 [])]), (.one (iC 4)), (.one (.sl false 2 [(iC 0), (iC 0)]))],
  (.tup [(.agg [(iC 0), (.own (0, 0)), nC]), (.one (iC 0))]),
  [(.arr 25 1 4 [(.own (0, 1)), (.own (0, 2)), (.own (0, 3)), (.own (0, 4))]), (.arr 3 1 3 [(iC 0), (iC 0), (iC 0)]), (.arr 3 1 3 [(iC 0), (iC 0), (iC 0)]), (.arr 3 1 3 [(iC 0), (iC 0), (iC 0)]), (.arr 3 1 3 [(iC 0), (iC 0), (iC 0)])]⟩
noncomputable def t270 : List Ent := e270 :: t269
noncomputable def e271 : Ent := ⟨187, [(.agg [(iC 0), (.sl false 2 [(iC 2), (iC 0), (iC 2), (iC 0)]), (.sl false 0 []), (.sl false 1 [(iC 4)]), (.sl false 0 [])]), (.one (iC 4))],
  (.tup [(.agg [(iC 0), (.own (0, 0)), nC]), (.one (iC 0))]),
  [(.arr 25 1 4 [(.own (0, 1)), (.own (0, 2)), (.own (0, 3)), (.own (0, 4))]), (.arr 3 1 3 [(iC 0), (iC 0), (iC 0)]), (.arr 3 1 3 [(iC 0), (iC 0), (iC 0)]), (.arr 3 1 3 [(iC 0), (iC 0), (iC 0)]), (.arr 3 1 3 [(iC 0), (iC 0), (iC 0)])]⟩
noncomputable def t271 : List Ent := e271 :: t270
noncomputable def e272 : Ent := ⟨165, [(.agg [(iC 0), (.sl false 2 [(iC 2), (iC 0), (iC 2), (iC 0)]), (.sl false 0 []), (.sl false 1 [(iC 4)]), (.sl false 0 [])]), (.one (iC 3))],
  (.tup [(.agg [(iC 0), (.own (0, 0)), (.own (0, 5))]), (.one (iC 0))]),
  [(.arr 25 1 4 [(.own (0, 1)), (.own (0, 2)), (.own (0, 3)), (.own (0, 4))]), (.arr 3 1 3 [(iC 0), (iC 0), (iC 0)]), (.arr 3 1 3 [(iC 0), (iC 0), (iC 0)]), (.arr 3 1 3 [(iC 0), (iC 0), (iC 0)]), (.arr 3 1 3 [(iC 0), (iC 0), (iC 0)]), (.arr 25 1 1 [nC])]⟩
noncomputable def t272 : List Ent := e272 :: t271
noncomputable def e273 : Ent := ⟨107, [(.agg [(iC 0), (.sl false 2 [(iC 2), (iC 0), (iC 2), (iC 0)]), (.sl false 0 []), (.sl false 1 [(iC 4)]), (.sl false 0 [])]), (.one (iC 3)), (.one (iC 100000))],
  (.tup [(.agg [(bC false), nC, nC, (iC 1), (iC 0)]), (.one (iC 0))]),
  []⟩
noncomputable def t273 : List Ent := e273 :: t272
noncomputable def e274 : Ent := ⟨240, [(.agg [(iC 0), (.sl false 2 [(iC 2), (iC 0), (iC 2), (iC 0)]), (.sl false 1 [(iC 5), (iC 3)]), (.sl false 1 [(iC 4)]), (.sl false 0 [])]), (.one (iC 5)), (.one (.sl false 2 [(iC 0), (iC 0)]))],
  (.tup [(.agg [(iC 5), (.own (0, 0)), (.own (0, 6))]), (.one (iC 0))]),
  [(.arr 25 1 5 [(.own (0, 1)), (.own (0, 2)), (.own (0, 3)), (.own (0, 4)), (.own (0, 5))]), (.arr 3 1 4 [(iC 0), (iC 0), (iC 0), (iC 2)]), (.arr 3 1 4 [(iC 0), (iC 0), (iC 0), (iC 4)]), (.arr 3 1 4 [(iC 0), (iC 0), (iC 0), (iC 6)]), (.arr 3 1 4 [(iC 0), (iC 0), (iC 0), (iC 8)]), (.arr 3 1 4 [(iC 0), (iC 0), (iC 0), (iC 10)]), (.arr 25 1 5 [(.own (0, 7)), (.own (0, 8)), (.own (0, 9)), (.own (0, 10)), (.own (0, 11))]), (.arr 3 1 1 [(iC 2)]), (.arr 3 1 1 [(iC 4)]), (.arr 3 1 1 [(iC 6)]), (.arr 3 1 1 [(iC 8)]), (.arr 3 1 1 [(iC 10)])]⟩
noncomputable def t274 : List Ent := e274 :: t273
noncomputable def e275 : Ent := ⟨187, [(.agg [(iC 0), (.sl false 2 [(iC 2), (iC 0), (iC 2), (iC 0)]), (.sl false 1 [(iC 5), (iC 3)]), (.sl false 1 [(iC 4)]), (.sl false 0 [])]), (.one (iC 5))],
  (.tup [(.agg [(iC 5), (.own (0, 0)), (.own (0, 6))]), (.one (iC 0))]),
  [(.arr 25 1 5 [(.own (0, 1)), (.own (0, 2)), (.own (0, 3)), (.own (0, 4)), (.own (0, 5))]), (.arr 3 1 4 [(iC 0), (iC 0), (iC 0), (iC 2)]), (.arr 3 1 4 [(iC 0), (iC 0), (iC 0), (iC 4)]), (.arr 3 1 4 [(iC 0), (iC 0), (iC 0), (iC 6)]), (.arr 3 1 4 [(iC 0), (iC 0), (iC 0), (iC 8)]), (.arr 3 1 4 [(iC 0), (iC 0), (iC 0), (iC 10)]), (.arr 25 1 5 [(.own (0, 7)), (.own (0, 8)), (.own (0, 9)), (.own (0, 10)), (.own (0, 11))]), (.arr 3 1 1 [(iC 2)]), (.arr 3 1 1 [(iC 4)]), (.arr 3 1 1 [(iC 6)]), (.arr 3 1 1 [(iC 8)]), (.arr 3 1 1 [(iC 10)])]⟩
noncomputable def t275 : List Ent := e275 :: t274
noncomputable def e276 : Ent := ⟨166, [(.one (iC 5)), (.one (.sl false 6 [(.sl false 1 [(iC 2)]), (.sl false 1 [(iC 4)]), (.sl false 1 [(iC 6)]), (.sl false 1 [(iC 8)]), (.sl false 1 [(iC 10)]), (.sl false 1 [(iC 11)])])), (.one (iC 100000))],
  (.tup [(.agg [(bC false), nC, nC, (.own (0, 0)), (iC 0)]), (.one (iC 0))]),
  [(.arr 25 1 1 [(.own (0, 1))]), (.arr 3 1 0 [])]⟩
noncomputable def t276 : List Ent := e276 :: t275
noncomputable def e277 : Ent := ⟨166, [(.one (iC 4)), (.one (.sl false 8 [(.sl false 2 [(iC 5), (iC 7)]), (.sl false 2 [(iC 3), (iC 7)]), (.sl false 3 [(iC 2), (iC 4), (iC 6)]), (.sl false 2 [(iC 3), (iC 9)]), (.sl false 2 [(iC 3), (iC 9)]), (.sl false 2 [(iC 2), (iC 8)]), (.sl false 1 [(iC 6)]), (.sl false 1 [(iC 2)])])), (.one (iC 100000))],
  (.tup [(.agg [(bC false), nC, nC, (.own (0, 0)), (iC 0)]), (.one (iC 0))]),
  [(.arr 25 1 1 [(.own (0, 1))]), (.arr 3 1 0 [])]⟩
noncomputable def t277 : List Ent := e277 :: t276
noncomputable def e278 : Ent := ⟨240, [(.agg [(iC 0), (.sl false 2 [(iC 2), (iC 0), (iC 2), (iC 0)]), (.sl false 1 [(iC 5), (iC 3)]), (.sl false 1 [(iC 4)]), (.sl false 0 [])]), (.one (iC 3)), (.one (.sl false 2 [(iC (-1)), (iC (-1))]))],
  (.tup [(.agg [(iC 5), (.own (0, 0)), (.own (0, 4))]), (.one (iC 0))]),
  [(.arr 25 1 3 [(.own (0, 1)), (.own (0, 2)), (.own (0, 3))]), (.arr 3 1 4 [(iC 0), (iC 2), (iC 4), (iC 6)]), (.arr 3 1 4 [(iC 0), (iC 2), (iC 2), (iC 8)]), (.arr 3 1 4 [(iC 0), (iC 2), (iC 2), (iC 10)]), (.arr 25 1 9 [(.own (0, 5)), (.own (0, 6)), (.own (0, 7)), (.own (0, 8)), (.own (0, 9)), (.cut (0, 10) 2), (.own (0, 11)), (.own (0, 12)), (.cut (0, 13) 2)]), (.arr 3 1 2 [(iC 5), (iC 7)]), (.arr 3 1 2 [(iC 3), (iC 7)]), (.arr 3 1 3 [(iC 2), (iC 4), (iC 6)]), (.arr 3 1 2 [(iC 3), (iC 9)]), (.arr 3 1 2 [(iC 3), (iC 9)]), (.arr 3 1 3 [(iC 2), (iC 8), (iC 0)]), (.arr 3 1 2 [(iC 3), (iC 11)]), (.arr 3 1 2 [(iC 3), (iC 11)]), (.arr 3 1 3 [(iC 2), (iC 10), (iC 0)])]⟩
noncomputable def t278 : List Ent := e278 :: t277
noncomputable def e279 : Ent := ⟨191, [(.agg [(iC 0), (.sl false 2 [(iC 2), (iC 0), (iC 2), (iC 0)]), (.sl false 1 [(iC 5), (iC 3)]), (.sl false 1 [(iC 4)]), (.sl false 0 [])]), (.one (iC 3))],
  (.tup [(.agg [(iC 5), (.own (0, 0)), (.own (0, 4))]), (.one (iC 0))]),
  [(.arr 25 1 3 [(.own (0, 1)), (.own (0, 2)), (.own (0, 3))]), (.arr 3 1 4 [(iC 0), (iC 2), (iC 4), (iC 6)]), (.arr 3 1 4 [(iC 0), (iC 2), (iC 2), (iC 8)]), (.arr 3 1 4 [(iC 0), (iC 2), (iC 2), (iC 10)]), (.arr 25 1 9 [(.own (0, 5)), (.own (0, 6)), (.own (0, 7)), (.own (0, 8)), (.own (0, 9)), (.cut (0, 10) 2), (.own (0, 11)), (.own (0, 12)), (.cut (0, 13) 2)]), (.arr 3 1 2 [(iC 5), (iC 7)]), (.arr 3 1 2 [(iC 3), (iC 7)]), (.arr 3 1 3 [(iC 2), (iC 4), (iC 6)]), (.arr 3 1 2 [(iC 3), (iC 9)]), (.arr 3 1 2 [(iC 3), (iC 9)]), (.arr 3 1 3 [(iC 2), (iC 8), (iC 0)]), (.arr 3 1 2 [(iC 3), (iC 11)]), (.arr 3 1 2 [(iC 3), (iC 11)]), (.arr 3 1 3 [(iC 2), (iC 10), (iC 0)])]⟩
noncomputable def t279 : List Ent := e279 :: t278
noncomputable def e280 : Ent := ⟨166, [(.one (iC 5)), (.one (.sl false 11 [(.sl false 2 [(iC 5), (iC 7)]), (.sl false 2 [(iC 3), (iC 7)]), (.sl false 3 [(iC 2), (iC 4), (iC 6)]), (.sl false 2 [(iC 3), (iC 9)]), (.sl false 2 [(iC 3), (iC 9)]), (.sl false 2 [(iC 2), (iC 8)]), (.sl false 2 [(iC 3), (iC 11)]), (.sl false 2 [(iC 3), (iC 11)]), (.sl false 2 [(iC 2), (iC 10)]), (.sl false 1 [(iC 6)]), (.sl false 1 [(iC 11)])])), (.one (iC 100000))],
  (.tup [(.agg [(bC false), nC, nC, (.own (0, 0)), (iC 0)]), (.one (iC 0))]),
  [(.arr 25 1 1 [(.own (0, 1))]), (.arr 3 1 0 [])]⟩
noncomputable def t280 : List Ent := e280 :: t279
noncomputable def e281 : Ent := ⟨32, [(.agg [(iC 0), (.sl false 2 [(iC 2), (iC 0), (iC 2), (iC 0)]), (.sl false 0 []), (.sl false 1 [(iC 4)]), (.sl false 0 [])]), (.agg [(iC 4), (iC 2), (.sl false 1 [(iC 5), (iC 3)]), (iC 6)]), (.one (iC 100000))],
  (.tup [(.one (bC true)), (.one (iC 0))]),
  []⟩
noncomputable def t281 : List Ent := e281 :: t280
noncomputable def e282 : Ent := ⟨14, [(.agg [(iC 0), (.sl false 2 [(iC 2), (iC 0), (iC 2), (iC 0)]), (.sl false 0 []), (.sl false 1 [(iC 4)]), (.sl false 0 [])]), (.agg [(.c (.int .u8 (1))), (.sl false 0 []), (.sl false 0 []), (iC 4), (iC 2), (.sl false 1 [(iC 5), (iC 3)]), (iC 6)]), (.one (iC 100000))],
  (.one (iC 0)),
  []⟩
noncomputable def t282 : List Ent := e282 :: t281
noncomputable def e283 : Ent := ⟨5, [(.agg [(iC 0), (.sl false 2 [(iC 2), (iC 0), (iC 2), (iC 0)]), (.sl false 0 []), (.sl false 1 [(iC 4)]), (.sl false 0 [])]), (.one (.sl false 2 [(sC [112, 114, 101, 102, 105, 120]), (iC 2), (sC [112, 104, 97, 115, 101, 115]), (iC 2)])), (.one (iC 0)), (.agg [(bC true), (iC 60), (iC 100000)])],
  (.tup [(.agg [(.c (.int .u8 (1))), nC, nC, (iC 4), (iC 2), (.own (0, 0)), (iC 6)]), (.one (iC 0))]),
  [(.arr 72 2 1 [(iC 5), (iC 3)])]⟩
noncomputable def t283 : List Ent := e283 :: t282
noncomputable def e284 : Ent := ⟨9, [(.agg [(iC 0), (.sl false 1 [(iC 1), (iC 0)]), (.sl false 0 []), (.sl false 1 [(iC 2)]), (.sl false 0 [])]), (.one (.sl false 1 [(sC [112, 104, 97, 115, 101, 115]), (iC 2)])), (.one (iC 0)), (.agg [(.c (.int .u8 (3))), (.sl false 1 [(bC true)]), (.sl false 0 []), (iC 5), (iC 0), (.sl false 0 []), (iC 0)])],
  (.tup [(.agg [(.c (.int .u8 (3))), nC, nC, (iC 0), (iC 0), nC, (iC 0)]), (.one (iC 0))]),
  []⟩
noncomputable def t284 : List Ent := e284 :: t283
noncomputable def e285 : Ent := ⟨9, [(.agg [(iC 0), (.sl false 1 [(iC 1), (iC 0)]), (.sl false 0 []), (.sl false 1 [(iC 2)]), (.sl false 0 [])]), (.one (.sl false 1 [(sC [112, 104, 97, 115, 101, 115]), (iC 2)])), (.one (iC 0)), (.agg [(.c (.int .u8 (0))), (.sl false 0 []), (.sl false 0 []), (iC 0), (iC 0), (.sl false 0 []), (iC 0)])],
  (.tup [(.agg [(.c (.int .u8 (0))), nC, nC, (iC 0), (iC 0), nC, (iC 0)]), (.one (iC 8))]),
  []⟩
noncomputable def t285 : List Ent := e285 :: t284
noncomputable def e286 : Ent := ⟨9, [(.agg [(iC 0), (.sl false 1 [(iC 1), (iC 0)]), (.sl false 0 []), (.sl false 1 [(iC 2)]), (.sl false 0 [])]), (.one (.sl false 1 [(sC [112, 104, 97, 115, 101, 115]), (iC 2)])), (.one (iC 0)), (.agg [(.c (.int .u8 (4))), (.sl false 0 []), (.sl false 0 []), (iC 0), (iC 0), (.sl false 0 []), (iC 0)])],
  (.tup [(.agg [(.c (.int .u8 (0))), nC, nC, (iC 0), (iC 0), nC, (iC 0)]), (.one (iC 8))]),
  []⟩
noncomputable def t286 : List Ent := e286 :: t285
noncomputable def e287 : Ent := ⟨30, [(.agg [(iC 0), (.sl false 1 [(iC 1), (iC 0)]), (.sl false 0 []), (.sl false 1 [(iC 2)]), (.sl false 0 [])]), (.agg [(iC 0), (.sl false 1 [(iC 1), (iC 0)]), (.sl false 0 []), (.sl false 1 [(iC 1)]), (.sl false 1 [(iC 1)])]), (.agg [(iC 0), (iC 2), (.sl false 1 [(iC 2)]), (.sl false 2 [(.sl false 0 []), (.sl false 0 [])]), (.sl false 1 [(iC 2)]), (.sl false 0 []), (iC 1)]), (.agg [(.sl false 0 []), (.sl false 0 [])])],
  (.tup [(.agg [nC, nC]), (.one (iC 8))]),
  []⟩
noncomputable def t287 : List Ent := e287 :: t286
noncomputable def e288 : Ent := ⟨9, [(.agg [(iC 0), (.sl false 1 [(iC 1), (iC 0)]), (.sl false 0 []), (.sl false 1 [(iC 2)]), (.sl false 0 [])]), (.one (.sl false 1 [(sC [112, 104, 97, 115, 101, 115]), (iC 2)])), (.one (iC 0)), (.agg [(.c (.int .u8 (2))), (.sl false 0 []), (.sl false 0 []), (iC 0), (iC 0), (.sl false 0 []), (iC 0)])],
  (.tup [(.agg [(.c (.int .u8 (0))), nC, nC, (iC 0), (iC 0), nC, (iC 0)]), (.one (iC 8))]),
  []⟩
noncomputable def t288 : List Ent := e288 :: t287
noncomputable def e289 : Ent := ⟨29, [(.agg [(iC 0), (.sl false 1 [(iC 1), (iC 0)]), (.sl false 0 []), (.sl false 1 [(iC 2)]), (.sl false 0 [])]), (.agg [(iC 0), (.sl false 1 [(iC 1), (iC 0)]), (.sl false 0 []), (.sl false 1 [(iC 1)]), (.sl false 1 [(iC 1)])]), (.agg [(iC 0), (iC 2), (.sl false 1 [(iC 2)]), (.sl false 2 [(.sl false 0 []), (.sl false 0 [])]), (.sl false 1 [(iC 2)]), (.sl false 0 []), (iC 1)]), (.agg [(iC 0), (iC 0), (.sl false 0 []), (iC 0)])],
  (.tup [(.agg [(iC 0), (iC 0), nC, (iC 0)]), (.one (iC 2))]),
  []⟩
noncomputable def t289 : List Ent := e289 :: t288
noncomputable def e290 : Ent := ⟨9, [(.agg [(iC 0), (.sl false 1 [(iC 1), (iC 0)]), (.sl false 0 []), (.sl false 1 [(iC 2)]), (.sl false 0 [])]), (.one (.sl false 1 [(sC [112, 104, 97, 115, 101, 115]), (iC 2)])), (.one (iC 0)), (.agg [(.c (.int .u8 (1))), (.sl false 0 []), (.sl false 0 []), (iC 0), (iC 0), (.sl false 0 []), (iC 0)])],
  (.tup [(.agg [(.c (.int .u8 (0))), nC, nC, (iC 0), (iC 0), nC, (iC 0)]), (.one (iC 2))]),
  []⟩
noncomputable def t290 : List Ent := e290 :: t289
noncomputable def e291 : Ent := ⟨30, [(.agg [(iC 0), (.sl false 1 [(iC 1), (iC 0)]), (.sl false 0 []), (.sl false 1 [(iC 2)]), (.sl false 0 [])]), (.agg [(iC 0), (.sl false 1 [(iC 1), (iC 0)]), (.sl false 0 []), (.sl false 1 [(iC 1)]), (.sl false 1 [(iC 1)])]), (.agg [(iC 0), (iC 2), (.sl false 1 [(iC 2)]), (.sl false 2 [(.sl false 0 []), (.sl false 0 [])]), (.sl false 1 [(iC 2)]), (.sl false 0 []), (iC 1)]), (.agg [(.sl false 1 [(bC false)]), (.sl false 51 [(.sl false 0 []), (.sl false 0 []), (.sl false 0 []), (.sl false 0 []), (.sl false 0 []), (.sl false 0 []), (.sl false 0 []), (.sl false 0 []), (.sl false 0 []), (.sl false 0 []), (.sl false 0 []), (.sl false 0 []), (.sl false 0 []), (.sl false 0 []), (.sl false 0 []), (.sl false 0 []), (.sl false 0 []), (.sl false 0 []), (.sl false 0 []), (.sl false 0 []), (.sl false 0 []), (.sl false 0 []), (.sl false 0 []), (.sl false 0 []), (.sl false 0 []), (.sl false 0 []), (.sl false 0 []), (.sl false 0 []), (.sl false 0 []), (.sl false 0 []), (.sl false 0 []), (.sl false 0 []), (.sl false 0 []), (.sl false 0 []), (.sl false 0 []), (.sl false 0 []), (.sl false 0 []), (.sl false 0 []), (.sl false 0 []), (.sl false 0 []), (.sl false 0 []), (.sl false 0 []), (.sl false 0 []), (.sl false 0 []), (.sl false 0 []), (.sl false 0 []), (.sl false 0 []), (.sl false 0 []), (.sl false 0 []), (.sl false 0 []), (.sl false 0 [])])])],
  (.tup [(.agg [nC, nC]), (.one (iC 4))]),
  []⟩
noncomputable def t291 : List Ent := e291 :: t290
noncomputable def e292 : Ent := ⟨9, [(.agg [(iC 0), (.sl false 1 [(iC 1), (iC 0)]), (.sl false 0 []), (.sl false 1 [(iC 2)]), (.sl false 0 [])]), (.one (.sl false 1 [(sC [112, 104, 97, 115, 101, 115]), (iC 2)])), (.one (iC 0)), (.agg [(.c (.int .u8 (2))), (.sl false 1 [(bC false)]), (.sl false 51 [(.sl false 0 []), (.sl false 0 []), (.sl false 0 []), (.sl false 0 []), (.sl false 0 []), (.sl false 0 []), (.sl false 0 []), (.sl false 0 []), (.sl false 0 []), (.sl false 0 []), (.sl false 0 []), (.sl false 0 []), (.sl false 0 []), (.sl false 0 []), (.sl false 0 []), (.sl false 0 []), (.sl false 0 []), (.sl false 0 []), (.sl false 0 []), (.sl false 0 []), (.sl false 0 []), (.sl false 0 []), (.sl false 0 []), (.sl false 0 []), (.sl false 0 []), (.sl false 0 []), (.sl false 0 []), (.sl false 0 []), (.sl false 0 []), (.sl false 0 []), (.sl false 0 []), (.sl false 0 []), (.sl false 0 []), (.sl false 0 []), (.sl false 0 []), (.sl false 0 []), (.sl false 0 []), (.sl false 0 []), (.sl false 0 []), (.sl false 0 []), (.sl false 0 []), (.sl false 0 []), (.sl false 0 []), (.sl false 0 []), (.sl false 0 []), (.sl false 0 []), (.sl false 0 []), (.sl false 0 []), (.sl false 0 []), (.sl false 0 []), (.sl false 0 [])]), (iC 0), (iC 0), (.sl false 0 []), (iC 0)])],
  (.tup [(.agg [(.c (.int .u8 (3))), nC, nC, (iC 0), (iC 0), nC, (iC 0)]), (.one (iC 0))]),
  []⟩
noncomputable def t292 : List Ent := e292 :: t291
noncomputable def e293 : Ent := ⟨67, [(.one (iC 1)), (.agg [(.sl false 0 []), (iC 0)])],
  (.one (iC 0)),
  []⟩
noncomputable def t293 : List Ent := e293 :: t292
noncomputable def e294 : Ent := ⟨29, [(.agg [(iC 0), (.sl false 1 [(iC 1), (iC 0)]), (.sl false 0 []), (.sl false 1 [(iC 2)]), (.sl false 0 [])]), (.agg [(iC 0), (.sl false 1 [(iC 1), (iC 0)]), (.sl false 0 []), (.sl false 1 [(iC 1)]), (.sl false 1 [(iC 1)])]), (.agg [(iC 0), (iC 2), (.sl false 1 [(iC 2)]), (.sl false 2 [(.sl false 0 []), (.sl false 0 [])]), (.sl false 1 [(iC 2)]), (.sl false 0 []), (iC 1)]), (.agg [(iC 51), (iC 1), (.sl false 0 []), (iC 0)])],
  (.tup [(.agg [(iC 0), (iC 0), nC, (iC 0)]), (.one (iC 4))]),
  []⟩
noncomputable def t294 : List Ent := e294 :: t293
noncomputable def e295 : Ent := ⟨9, [(.agg [(iC 0), (.sl false 1 [(iC 1), (iC 0)]), (.sl false 0 []), (.sl false 1 [(iC 2)]), (.sl false 0 [])]), (.one (.sl false 1 [(sC [112, 104, 97, 115, 101, 115]), (iC 2)])), (.one (iC 0)), (.agg [(.c (.int .u8 (1))), (.sl false 0 []), (.sl false 0 []), (iC 51), (iC 1), (.sl false 0 []), (iC 0)])],
  (.tup [(.agg [(.c (.int .u8 (3))), nC, nC, (iC 0), (iC 0), nC, (iC 0)]), (.one (iC 0))]),
  []⟩
noncomputable def t295 : List Ent := e295 :: t294
noncomputable def e296 : Ent := ⟨11, [(.agg [(iC 0), (.sl false 1 [(iC 1), (iC 0)]), (.sl false 0 []), (.sl false 1 [(iC 2)]), (.sl false 0 [])]), (.one (.sl false 1 [(sC []), (iC 0)])), (.one (iC 0))],
  (.tup [(.agg [(iC 0), nC, nC, nC, nC, (iC 0), (iC 0), nC, nC, nC, nC, (iC 0)]), (.one nC), (.one (iC 12))]),
  []⟩
noncomputable def t296 : List Ent := e296 :: t295
noncomputable def e297 : Ent := ⟨4, [(.agg [(iC 0), (.sl false 1 [(iC 1), (iC 0)]), (.sl false 0 []), (.sl false 1 [(iC 2)]), (.sl false 0 [])]), (.one (.sl false 1 [(sC []), (iC 0)])), (.one (iC 0)), (.agg [(bC false), (iC (-1)), (iC 0)])],
  (.tup [(.agg [(.c (.int .u8 (0))), nC, nC, (iC 0), (iC 0), nC, (iC 0)]), (.agg [(iC 0), nC, nC, nC, nC]), (.one (iC 12))]),
  []⟩
noncomputable def t297 : List Ent := e297 :: t296
noncomputable def e298 : Ent := ⟨11, [(.agg [(iC 0), (.sl false 1 [(iC 1), (iC 0)]), (.sl false 0 []), (.sl false 1 [(iC 2)]), (.sl false 0 [])]), (.one (.sl false 0 [])), (.one (iC (-1)))],
  (.tup [(.agg [(iC 0), nC, nC, nC, nC, (iC 0), (iC 0), nC, nC, nC, nC, (iC 0)]), (.one nC), (.one (iC 2))]),
  []⟩
noncomputable def t298 : List Ent := e298 :: t297
noncomputable def e299 : Ent := ⟨4, [(.agg [(iC 0), (.sl false 1 [(iC 1), (iC 0)]), (.sl false 0 []), (.sl false 1 [(iC 2)]), (.sl false 0 [])]), (.one (.sl false 0 [])), (.one (iC (-1))), (.agg [(bC false), (iC (-1)), (iC 0)])],
  (.tup [(.agg [(.c (.int .u8 (0))), nC, nC, (iC 0), (iC 0), nC, (iC 0)]), (.agg [(iC 0), nC, nC, nC, nC]), (.one (iC 2))]),
  []⟩
noncomputable def t299 : List Ent := e299 :: t298
noncomputable def e300 : Ent := ⟨18, [(.agg [(iC (-1)), (.sl false 0 []), (.sl false 0 []), (.sl false 0 []), (.sl false 0 [])])],
  (.one (iC 8)),
  []⟩
noncomputable def t300 : List Ent := e300 :: t299
noncomputable def e301 : Ent := ⟨11, [(.agg [(iC (-1)), (.sl false 0 []), (.sl false 0 []), (.sl false 0 []), (.sl false 0 [])]), (.one (.sl false 0 [])), (.one (iC 0))],
  (.tup [(.agg [(iC 0), nC, nC, nC, nC, (iC 0), (iC 0), nC, nC, nC, nC, (iC 0)]), (.one nC), (.one (iC 8))]),
  []⟩
noncomputable def t301 : List Ent := e301 :: t300
noncomputable def e302 : Ent := ⟨4, [(.agg [(iC (-1)), (.sl false 0 []), (.sl false 0 []), (.sl false 0 []), (.sl false 0 [])]), (.one (.sl false 0 [])), (.one (iC 0)), (.agg [(bC false), (iC (-1)), (iC 0)])],
  (.tup [(.agg [(.c (.int .u8 (0))), nC, nC, (iC 0), (iC 0), nC, (iC 0)]), (.agg [(iC 0), nC, nC, nC, nC]), (.one (iC 8))]),
  []⟩
noncomputable def t302 : List Ent := e302 :: t301
noncomputable def e303 : Ent := ⟨11, [(.agg [(iC 0), (.sl false 1 [(iC 1), (iC 0)]), (.sl false 0 []), (.sl false 1 [(iC 2)]), (.sl false 0 [])]), (.one (.sl false 0 [])), (.one (iC 0))],
  (.tup [(.agg [(iC 0), (.own (0, 0)), (.own (0, 1)), (.own (0, 2)), (.own (0, 3)), (iC 0), (iC 1), (.own (0, 4)), (.own (0, 5)), (.own (0, 6)), nC, (iC 1)]), (.one (.own (0, 7))), (.one (iC 0))]),
  [(.arr 23 2 1 [(iC 1), (iC 0)]), (.arr 72 2 0 []), (.arr 3 1 1 [(iC 2)]), (.arr 3 1 0 []), (.arr 3 1 1 [(iC 2)]), (.arr 25 1 1 [nC]), (.arr 3 1 1 [(iC 2)]), (.arr 4 1 0 [])]⟩
noncomputable def t303 : List Ent := e303 :: t302
noncomputable def e304 : Ent := ⟨12, [(.agg [(iC 0), (.sl false 1 [(iC 1), (iC 0)]), (.sl false 0 []), (.sl false 1 [(iC 2)]), (.sl false 0 [])]), (.agg [(bC false), (iC (-1)), (iC 0)])],
  (.tup [(.agg [(.c (.int .u8 (0))), nC, nC, (iC 0), (iC 0), nC, (iC 0)]), (.one (iC 0)), (.one (iC 2))]),
  []⟩
noncomputable def t304 : List Ent := e304 :: t303
noncomputable def e305 : Ent := ⟨4, [(.agg [(iC 0), (.sl false 1 [(iC 1), (iC 0)]), (.sl false 0 []), (.sl false 1 [(iC 2)]), (.sl false 0 [])]), (.one (.sl false 0 [])), (.one (iC 0)), (.agg [(bC false), (iC (-1)), (iC 0)])],
  (.tup [(.agg [(.c (.int .u8 (0))), nC, nC, (iC 0), (iC 0), nC, (iC 0)]), (.agg [(iC 0), nC, nC, nC, nC]), (.one (iC 2))]),
  []⟩
noncomputable def t305 : List Ent := e305 :: t304
noncomputable def e306 : Ent := ⟨5, [(.agg [(iC 0), (.sl false 1 [(iC 1), (iC 0)]), (.sl false 0 []), (.sl false 1 [(iC 2)]), (.sl false 0 [])]), (.one (.sl false 0 [])), (.one (iC 0)), (.agg [(bC false), (iC (-1)), (iC 0)])],
  (.tup [(.agg [(.c (.int .u8 (0))), nC, nC, (iC 0), (iC 0), nC, (iC 0)]), (.one (iC 2))]),
  []⟩
noncomputable def t306 : List Ent := e306 :: t305
noncomputable def e307 : Ent := ⟨11, [(.agg [(iC 0), (.sl false 1 [(iC 1), (iC 0)]), (.sl false 0 []), (.sl false 1 [(iC 2)]), (.sl false 0 [])]), (.one (.sl false 11 [(sC []), (iC 0), (sC []), (iC 0), (sC []), (iC 0), (sC []), (iC 0), (sC []), (iC 0), (sC []), (iC 0), (sC []), (iC 0), (sC []), (iC 0), (sC []), (iC 0), (sC []), (iC 0), (sC []), (iC 0)])), (.one (iC 0))],
  (.tup [(.agg [(iC 0), nC, nC, nC, nC, (iC 0), (iC 0), nC, nC, nC, nC, (iC 0)]), (.one nC), (.one (iC 4))]),
  []⟩
noncomputable def t307 : List Ent := e307 :: t306
noncomputable def e308 : Ent := ⟨9, [(.agg [(iC 0), (.sl false 1 [(iC 1), (iC 0)]), (.sl false 0 []), (.sl false 1 [(iC 2)]), (.sl false 0 [])]), (.one (.sl false 11 [(sC []), (iC 0), (sC []), (iC 0), (sC []), (iC 0), (sC []), (iC 0), (sC []), (iC 0), (sC []), (iC 0), (sC []), (iC 0), (sC []), (iC 0), (sC []), (iC 0), (sC []), (iC 0), (sC []), (iC 0)])), (.one (iC 0)), (.agg [(.c (.int .u8 (0))), (.sl false 0 []), (.sl false 0 []), (iC 0), (iC 0), (.sl false 0 []), (iC 0)])],
  (.tup [(.agg [(.c (.int .u8 (0))), nC, nC, (iC 0), (iC 0), nC, (iC 0)]), (.one (iC 4))]),
  []⟩
noncomputable def t308 : List Ent := e308 :: t307
noncomputable def e309 : Ent := ⟨3, [],
  (.one (bC true)),
  []⟩
end Go.Vm
