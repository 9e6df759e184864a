/-
  Walks of the program's functions by the framework, and what they compute (PtAT). Conditions: each theorem's own premises. By an AI agent.
-/
import Derived.Test.YtnpbndglolcilaaGreatDoorPtAS
namespace Go.Vm
open Go Go.RowKit Go.Proofs
set_option maxRecDepth 100000
set_option linter.unusedSimpArgs false
set_option linter.unusedVariables false
set_option maxHeartbeats 4000000

instance : Inhabited Ver := ⟨⟨0, [], [], 0, 0, [], 0⟩⟩
def badsL : List Ver := [⟨0, [], [], 0, 0, [], 0⟩, ⟨4, [], [], 0, 0, [], 0⟩, ⟨2, [], [], 0, 0, [], 0⟩, ⟨2, (List.replicate 1001 false), [[]], 0, 0, [], 0⟩, ⟨2, [], (List.replicate 101 []), 0, 0, [], 0⟩, ⟨2, [], [(List.replicate 1001 false)], 0, 0, [], 0⟩, ⟨3, [], [(List.replicate 1001 false)], 0, 0, [], 0⟩, ⟨3, [], [], 1, 0, [], 0⟩, ⟨1, [], [], 101, 0, [], 0⟩, ⟨1, [], [], 0, -1, [], 0⟩, ⟨1, [], [], 0, 0, [], 2002⟩, ⟨1, [], [], 0, 0, (List.replicate 1001 (0, 0)), 0⟩, ⟨1, [], [], 0, 0, [(-1, 0)], 0⟩]
def rowV (l : List Ver) : Blk := .arr 34 7 l.length (l.flatMap fun v => [.c (.int .u8 v.kind), .sl true v.first.length (v.first.map fun b => .c (.bool b)), .sl true v.inputs.length (v.inputs.map fun l => .sl true l.length (l.map fun b => .c (.bool b))), .c (.int .i64 v.skip), .c (.int .i64 v.phases), .sl true v.ands.length (v.ands.flatMap fun g => [.c (.int .i64 g.1), .c (.int .i64 g.2)]), .c (.int .i64 v.lit)])
attribute [push_cast] rowV
theorem bads_all : badsL.all (fun v => (verdictF v).2 == 8) = true := by decide +kernel
theorem bads_fit : badsL.all (fun v => decide (v.first.length ≤ 100000 ∧ v.inputs.length ≤ 100000 ∧ v.ands.length ≤ 100000) && v.inputs.all fun l => decide (l.length ≤ 100000)) = true := by decide +kernel
theorem bads_len : (badsL.length : Int) = 13 := rfl
theorem bads_mem {i : Int} (h0 : 0 ≤ i) (h1 : i < (badsL.length : Int)) : atI badsL i ∈ badsL := atI_mem h0 h1
theorem bads_eight {i : Int} (h0 : 0 ≤ i) (h1 : i < (badsL.length : Int)) : (verdictF (atI badsL i)).2 = 8 := by
  have := List.all_eq_true.1 bads_all _ (bads_mem h0 h1)
  simpa using this
theorem bads_fit' {i : Int} (h0 : 0 ≤ i) (h1 : i < (badsL.length : Int)) : Fit (atI badsL i) := by
  have := List.all_eq_true.1 bads_fit _ (bads_mem h0 h1)
  rw [Bool.and_eq_true, decide_eq_true_eq, List.all_eq_true] at this
  exact ⟨this.1.1, this.1.2.1, this.1.2.2, fun l hl => by simpa using this.2 l hl⟩
theorem drop_seven {α : Type} (f0 f1 f2 f3 f4 f5 f6 : α → PC) : ∀ (n : Nat) (l : List α), List.drop (n * 7) (l.flatMap fun a => [f0 a, f1 a, f2 a, f3 a, f4 a, f5 a, f6 a]) = (l.drop n).flatMap fun a => [f0 a, f1 a, f2 a, f3 a, f4 a, f5 a, f6 a]
  | 0, l => by simp
  | n + 1, [] => by simp
  | n + 1, a :: l => by
    rw [List.flatMap_cons, show (n + 1) * 7 = 7 + n * 7 by omega, ← List.drop_drop]
    exact drop_seven f0 f1 f2 f3 f4 f5 f6 n l
theorem dropI_seven {α : Type} [Inhabited α] {l : List α} {i : Int} (f0 f1 f2 f3 f4 f5 f6 : α → PC) (h0 : 0 ≤ i) (h1 : i < (l.length : Int)) : List.drop (i.toNat * 7) (l.flatMap fun a => [f0 a, f1 a, f2 a, f3 a, f4 a, f5 a, f6 a]) = f0 (atI l i) :: f1 (atI l i) :: f2 (atI l i) :: f3 (atI l i) :: f4 (atI l i) :: f5 (atI l i) :: f6 (atI l i) :: (l.drop (i.toNat + 1)).flatMap fun a => [f0 a, f1 a, f2 a, f3 a, f4 a, f5 a, f6 a] := by
  rw [drop_seven, drop_atI h0 h1, List.flatMap_cons]
  rfl
section
variable {H : Vm.Id → Option Blk} {Z : Vm.Id → Prop} {G : Vm.Id → Vm.Id → Prop}
theorem rz_b : ∀ n : Nat, ConvL H Z G (rowZ [.c (.bool false)] n) ((List.replicate n false).map fun b => PC.c (.bool b))
  | 0 => .nil
  | n + 1 => by rw [List.replicate_succ, List.map_cons]; exact .cons (.free rfl) (rz_b n)
theorem rz_n : ∀ n : Nat, ConvL H Z G (rowZ [.c (.slice none 0 0)] n) ((List.replicate n ([] : List Bool)).map fun l => PC.sl true l.length (l.map fun b => PC.c (.bool b)))
  | 0 => .nil
  | n + 1 => by rw [List.replicate_succ, List.map_cons]; exact .cons .nil (rz_n n)
theorem rz_a : ∀ n : Nat, ConvL H Z G (rowZ [.c (.int .i64 0), .c (.int .i64 0)] n) ((List.replicate n ((0 : Int), (0 : Int))).flatMap fun g => [PC.c (.int .i64 g.1), PC.c (.int .i64 g.2)])
  | 0 => .nil
  | n + 1 => by rw [List.replicate_succ, List.flatMap_cons]; exact .cons (.free rfl) (.cons (.free rfl) (rz_a n))
end
theorem rep_next {α : Type} {a : α} {r : List α} {i : Int} (h0 : 0 ≤ i) (h : r = List.replicate i.toNat a) : r ++ [a] = List.replicate (i + 1).toNat a := by
  rw [h, show (i + 1).toNat = i.toNat + 1 by omega]
  exact (List.replicate_succ' (n := i.toNat) (a := a)).symm
def fullV (r : List (List Bool)) : Ver := ⟨2, [], r, 0, 0, [], 0⟩
def fr40 : List (List Bool) := List.replicate 40 (List.replicate 1000 false)
def fr39 : List (List Bool) := List.replicate 39 (List.replicate 1000 false)
theorem fr40_len : fr40.length = 40 := List.length_replicate
theorem fr39_len : fr39.length = 39 := List.length_replicate
theorem take39 : List.take 39 (List.map bbP fr40) = List.map bbP fr39 := by
  unfold fr40 fr39
  rw [List.map_replicate, List.map_replicate, List.take_replicate]
  rfl
theorem fit_rep (n m : Nat) (hn : n ≤ 100000) (hm : m ≤ 100000) : Fit (fullV (List.replicate n (List.replicate m false))) :=
  ⟨Nat.zero_le _, by show (List.replicate n _).length ≤ 100000; rw [List.length_replicate]; exact hn, Nat.zero_le _, fun l hl => by
    have : l ∈ List.replicate n (List.replicate m false) := hl
    rw [List.eq_of_mem_replicate this, List.length_replicate]; exact hm⟩
theorem q4 : (passesF (List.replicate 11 (⟨#[]⟩, 0))).2 = 4 := by decide +kernel
theorem q5 : (passesF [((⟨#[112, 114, 101, 102, 105, 120]⟩ : ByteArray), 0)]).2 = 2 := by decide +kernel
theorem q6 : (engineF ⟨true, 0, 0⟩).2 = 2 := by decide +kernel
theorem m40 : mayF (fullV fr40) = true := by decide +kernel
theorem m39 : mayF (fullV fr39) = true := by decide +kernel
theorem q1 : (verdictL (fullV fr39)).length = 39171 := by decide +kernel
theorem q2 : 40000 < (verdictL (fullV fr40)).length := by decide +kernel
theorem v40 : verdictF (fullV fr40) = (⟨#[]⟩, 18) := by
  unfold verdictF
  rw [if_neg (by rw [m40]; simp), if_pos q2]
theorem v39 : verdictF (fullV fr39) = (bOf (verdictL (fullV fr39)), 0) := by
  unfold verdictF
  rw [if_neg (by rw [m39]; simp), if_neg (by rw [q1]; decide)]
theorem names_end : ((verdictF (fullV fr40)).2 == 18 && (verdictF (fullV fr39)).2 == 0 && ((verdictF (fullV fr39)).1.size : Int) == 39171 && (passesF (List.replicate 11 (⟨#[]⟩, 0))).2 == 4 && (passesF [((⟨#[112, 114, 101, 102, 105, 120]⟩ : ByteArray), 0)]).2 == 2 && (engineF ⟨true, 0, 0⟩).2 == 2) = true := by
  rw [v40, q4, q5, q6, v39]
  show (_ && ((bOf (verdictL (fullV fr39))).size : Int) == 39171 && _ && _ && _) = true
  rw [bOf_size, q1]
  rfl
theorem fit40 : Fit (fullV fr40) := fit_rep 40 1000 (by decide) (by decide)
theorem fit39 : Fit (fullV fr39) := fit_rep 39 1000 (by decide) (by decide)
theorem linesNames_call (gw : World) (hg : Glob gw) : VCall Tryz.prog gw (gw.heap.size) 3 [] (.one (.c (.bool true))) [] := by
  refine vcall_of [.tmp 0] Tryz.func3 rfl rfl Tryz.ntmps3 rfl (by simp) ?_
  intro C hP hnt hgw hgb hfull
  refine vwp_seq_region rfl fun K hK => ?_
  simp (dsimp := false) only [push_cast, hP, hnt, hgw, hgb, Nat.reduceLT, Nat.reduceEqDiff, Nat.reduceAdd, Nat.reduceSub, Nat.reduceMul, Nat.reduceLeDiff, ↓reduceIte, reduceCtorEq, String.reduceEq]
  refine hK _ ?_; clear hK
  refine vwp_seq_region rfl fun K hK => ?_
  simp (dsimp := false) only [push_cast, hP, hnt, hgw, hgb, Nat.reduceLT, Nat.reduceEqDiff, Nat.reduceAdd, Nat.reduceSub, Nat.reduceMul, Nat.reduceLeDiff, ↓reduceIte, reduceCtorEq, String.reduceEq]
  refine hK _ ?_; clear hK
  refine vwp_seq_region rfl fun K hK => ?_
  simp (dsimp := false) only [push_cast, hP, hnt, hgw, hgb, Nat.reduceLT, Nat.reduceEqDiff, Nat.reduceAdd, Nat.reduceSub, Nat.reduceMul, Nat.reduceLeDiff, ↓reduceIte, reduceCtorEq, String.reduceEq]
  refine hK _ ?_; clear hK
  refine vwp_seq_regionG fun K hK => ?_
  simp (dsimp := false) only [push_cast, hP, hnt, hgw, hgb, Nat.reduceLT, Nat.reduceEqDiff, Nat.reduceAdd, Nat.reduceSub, Nat.reduceMul, Nat.reduceLeDiff, ↓reduceIte, reduceCtorEq, String.reduceEq]
  refine .inl (callE_intro (saysV_ok gw hg w37 ⟨#[85, 78, 75, 78, 79, 87, 78, 10]⟩ z37) (.inl ⟨rfl, rfl⟩) ?_)
  simp (dsimp := false) only [push_cast, hP, hnt, hgw, hgb, Nat.reduceLT, Nat.reduceEqDiff, Nat.reduceAdd, Nat.reduceSub, Nat.reduceMul, Nat.reduceLeDiff, ↓reduceIte, reduceCtorEq, String.reduceEq]
  refine guardR_may (by simp (dsimp := false) only [push_cast, hP, hnt, hgw, hgb, Nat.reduceLT, Nat.reduceEqDiff, Nat.reduceAdd, Nat.reduceSub, Nat.reduceMul, Nat.reduceLeDiff, ↓reduceIte, reduceCtorEq, String.reduceEq, List.getElem?_cons_zero, List.getElem?_cons_succ]; rfl) ?_
  simp (dsimp := false) only [push_cast, hP, hnt, hgw, hgb, Nat.reduceLT, Nat.reduceEqDiff, Nat.reduceAdd, Nat.reduceSub, Nat.reduceMul, Nat.reduceLeDiff, ↓reduceIte, reduceCtorEq, String.reduceEq]
  refine guardR_may (by simp (dsimp := false) only [push_cast, hP, hnt, hgw, hgb, Nat.reduceLT, Nat.reduceEqDiff, Nat.reduceAdd, Nat.reduceSub, Nat.reduceMul, Nat.reduceLeDiff, ↓reduceIte, reduceCtorEq, String.reduceEq, List.getElem?_cons_zero, List.getElem?_cons_succ]; rfl) ?_
  simp (dsimp := false) only [push_cast, hP, hnt, hgw, hgb, Nat.reduceLT, Nat.reduceEqDiff, Nat.reduceAdd, Nat.reduceSub, Nat.reduceMul, Nat.reduceLeDiff, ↓reduceIte, reduceCtorEq, String.reduceEq]
  refine callE_intro (saysV_ok gw hg w40 ⟨#[83, 65, 70, 69, 10, 115, 107, 105, 112, 32, 48, 10, 112, 104, 97, 115, 101, 115, 32, 48, 10, 108, 105, 116, 32, 48, 10]⟩ z40) (.inl ⟨rfl, rfl⟩) ?_
  refine ⟨rfl, ?_⟩
  simp (dsimp := false) only [push_cast, hP, hnt, hgw, hgb, Nat.reduceLT, Nat.reduceEqDiff, Nat.reduceAdd, Nat.reduceSub, Nat.reduceMul, Nat.reduceLeDiff, ↓reduceIte, reduceCtorEq, String.reduceEq]
  refine guardR_may (by simp (dsimp := false) only [push_cast, hP, hnt, hgw, hgb, Nat.reduceLT, Nat.reduceEqDiff, Nat.reduceAdd, Nat.reduceSub, Nat.reduceMul, Nat.reduceLeDiff, ↓reduceIte, reduceCtorEq, String.reduceEq, List.getElem?_cons_zero, List.getElem?_cons_succ]; rfl) ?_
  simp (dsimp := false) only [push_cast, hP, hnt, hgw, hgb, Nat.reduceLT, Nat.reduceEqDiff, Nat.reduceAdd, Nat.reduceSub, Nat.reduceMul, Nat.reduceLeDiff, ↓reduceIte, reduceCtorEq, String.reduceEq]
  refine guardR_may (by simp (dsimp := false) only [push_cast, hP, hnt, hgw, hgb, Nat.reduceLT, Nat.reduceEqDiff, Nat.reduceAdd, Nat.reduceSub, Nat.reduceMul, Nat.reduceLeDiff, ↓reduceIte, reduceCtorEq, String.reduceEq, List.getElem?_cons_zero, List.getElem?_cons_succ]; rfl) ?_
  simp (dsimp := false) only [push_cast, hP, hnt, hgw, hgb, Nat.reduceLT, Nat.reduceEqDiff, Nat.reduceAdd, Nat.reduceSub, Nat.reduceMul, Nat.reduceLeDiff, ↓reduceIte, reduceCtorEq, String.reduceEq]
  refine guardR_may (by simp (dsimp := false) only [push_cast, hP, hnt, hgw, hgb, Nat.reduceLT, Nat.reduceEqDiff, Nat.reduceAdd, Nat.reduceSub, Nat.reduceMul, Nat.reduceLeDiff, ↓reduceIte, reduceCtorEq, String.reduceEq, List.getElem?_cons_zero, List.getElem?_cons_succ]; rfl) ?_
  simp (dsimp := false) only [push_cast, hP, hnt, hgw, hgb, Nat.reduceLT, Nat.reduceEqDiff, Nat.reduceAdd, Nat.reduceSub, Nat.reduceMul, Nat.reduceLeDiff, ↓reduceIte, reduceCtorEq, String.reduceEq]
  refine callE_intro (saysV_ok gw hg w45 ⟨#[83, 65, 70, 69, 10, 115, 107, 105, 112, 32, 49, 48, 48, 10, 112, 104, 97, 115, 101, 115, 32, 52, 10, 97, 110, 100, 32, 52, 32, 50, 10, 97, 110, 100, 32, 50, 48, 48, 49, 32, 48, 10, 108, 105, 116, 32, 55, 10]⟩ z45) (.inl ⟨rfl, rfl⟩) ?_
  refine ⟨rfl, ?_⟩
  simp (dsimp := false) only [push_cast, hP, hnt, hgw, hgb, Nat.reduceLT, Nat.reduceEqDiff, Nat.reduceAdd, Nat.reduceSub, Nat.reduceMul, Nat.reduceLeDiff, ↓reduceIte, reduceCtorEq, String.reduceEq]
  refine guardR_may (by simp (dsimp := false) only [push_cast, hP, hnt, hgw, hgb, Nat.reduceLT, Nat.reduceEqDiff, Nat.reduceAdd, Nat.reduceSub, Nat.reduceMul, Nat.reduceLeDiff, ↓reduceIte, reduceCtorEq, String.reduceEq, List.getElem?_cons_zero, List.getElem?_cons_succ]; rfl) ?_
  simp (dsimp := false) only [push_cast, hP, hnt, hgw, hgb, Nat.reduceLT, Nat.reduceEqDiff, Nat.reduceAdd, Nat.reduceSub, Nat.reduceMul, Nat.reduceLeDiff, ↓reduceIte, reduceCtorEq, String.reduceEq]
  refine guardR_may (by simp (dsimp := false) only [push_cast, hP, hnt, hgw, hgb, Nat.reduceLT, Nat.reduceEqDiff, Nat.reduceAdd, Nat.reduceSub, Nat.reduceMul, Nat.reduceLeDiff, ↓reduceIte, reduceCtorEq, String.reduceEq, List.getElem?_cons_zero, List.getElem?_cons_succ]; rfl) ?_
  simp (dsimp := false) only [push_cast, hP, hnt, hgw, hgb, Nat.reduceLT, Nat.reduceEqDiff, Nat.reduceAdd, Nat.reduceSub, Nat.reduceMul, Nat.reduceLeDiff, ↓reduceIte, reduceCtorEq, String.reduceEq]
  refine callE_intro (saysV_ok gw hg w49 ⟨#[85, 78, 83, 65, 70, 69, 10, 102, 105, 114, 115, 116, 32, 45, 10, 105, 110, 32, 49, 10, 105, 110, 32, 48, 49, 10]⟩ z49) (.inl ⟨rfl, rfl⟩) ?_
  refine ⟨rfl, ?_⟩
  simp (dsimp := false) only [push_cast, hP, hnt, hgw, hgb, Nat.reduceLT, Nat.reduceEqDiff, Nat.reduceAdd, Nat.reduceSub, Nat.reduceMul, Nat.reduceLeDiff, ↓reduceIte, reduceCtorEq, String.reduceEq]
  refine guardR_may (by simp (dsimp := false) only [push_cast, hP, hnt, hgw, hgb, Nat.reduceLT, Nat.reduceEqDiff, Nat.reduceAdd, Nat.reduceSub, Nat.reduceMul, Nat.reduceLeDiff, ↓reduceIte, reduceCtorEq, String.reduceEq, List.getElem?_cons_zero, List.getElem?_cons_succ]; rfl) ?_
  simp (dsimp := false) only [push_cast, hP, hnt, hgw, hgb, Nat.reduceLT, Nat.reduceEqDiff, Nat.reduceAdd, Nat.reduceSub, Nat.reduceMul, Nat.reduceLeDiff, ↓reduceIte, reduceCtorEq, String.reduceEq]
  refine callE_intro (saysP_ok gw hg w52 ⟨#[]⟩ (by decide) z52) (.inl ⟨rfl, rfl⟩) ?_
  refine ⟨rfl, ?_⟩
  simp (dsimp := false) only [push_cast, hP, hnt, hgw, hgb, Nat.reduceLT, Nat.reduceEqDiff, Nat.reduceAdd, Nat.reduceSub, Nat.reduceMul, Nat.reduceLeDiff, ↓reduceIte, reduceCtorEq, String.reduceEq]
  refine guardR_may (by simp (dsimp := false) only [push_cast, hP, hnt, hgw, hgb, Nat.reduceLT, Nat.reduceEqDiff, Nat.reduceAdd, Nat.reduceSub, Nat.reduceMul, Nat.reduceLeDiff, ↓reduceIte, reduceCtorEq, String.reduceEq, List.getElem?_cons_zero, List.getElem?_cons_succ]; rfl) ?_
  simp (dsimp := false) only [push_cast, hP, hnt, hgw, hgb, Nat.reduceLT, Nat.reduceEqDiff, Nat.reduceAdd, Nat.reduceSub, Nat.reduceMul, Nat.reduceLeDiff, ↓reduceIte, reduceCtorEq, String.reduceEq]
  refine guardR_may (by simp (dsimp := false) only [push_cast, hP, hnt, hgw, hgb, Nat.reduceLT, Nat.reduceEqDiff, Nat.reduceAdd, Nat.reduceSub, Nat.reduceMul, Nat.reduceLeDiff, ↓reduceIte, reduceCtorEq, String.reduceEq, List.getElem?_cons_zero, List.getElem?_cons_succ]; rfl) ?_
  simp (dsimp := false) only [push_cast, hP, hnt, hgw, hgb, Nat.reduceLT, Nat.reduceEqDiff, Nat.reduceAdd, Nat.reduceSub, Nat.reduceMul, Nat.reduceLeDiff, ↓reduceIte, reduceCtorEq, String.reduceEq]
  refine guardR_may (by simp (dsimp := false) only [push_cast, hP, hnt, hgw, hgb, Nat.reduceLT, Nat.reduceEqDiff, Nat.reduceAdd, Nat.reduceSub, Nat.reduceMul, Nat.reduceLeDiff, ↓reduceIte, reduceCtorEq, String.reduceEq, List.getElem?_cons_zero, List.getElem?_cons_succ]; rfl) ?_
  simp (dsimp := false) only [push_cast, hP, hnt, hgw, hgb, Nat.reduceLT, Nat.reduceEqDiff, Nat.reduceAdd, Nat.reduceSub, Nat.reduceMul, Nat.reduceLeDiff, ↓reduceIte, reduceCtorEq, String.reduceEq]
  refine guardR_may (by simp (dsimp := false) only [push_cast, hP, hnt, hgw, hgb, Nat.reduceLT, Nat.reduceEqDiff, Nat.reduceAdd, Nat.reduceSub, Nat.reduceMul, Nat.reduceLeDiff, ↓reduceIte, reduceCtorEq, String.reduceEq, List.getElem?_cons_zero, List.getElem?_cons_succ]; rfl) ?_
  simp (dsimp := false) only [push_cast, hP, hnt, hgw, hgb, Nat.reduceLT, Nat.reduceEqDiff, Nat.reduceAdd, Nat.reduceSub, Nat.reduceMul, Nat.reduceLeDiff, ↓reduceIte, reduceCtorEq, String.reduceEq]
  refine guardR_may (by simp (dsimp := false) only [push_cast, hP, hnt, hgw, hgb, Nat.reduceLT, Nat.reduceEqDiff, Nat.reduceAdd, Nat.reduceSub, Nat.reduceMul, Nat.reduceLeDiff, ↓reduceIte, reduceCtorEq, String.reduceEq, List.getElem?_cons_zero, List.getElem?_cons_succ]; rfl) ?_
  simp (dsimp := false) only [push_cast, hP, hnt, hgw, hgb, Nat.reduceLT, Nat.reduceEqDiff, Nat.reduceAdd, Nat.reduceSub, Nat.reduceMul, Nat.reduceLeDiff, ↓reduceIte, reduceCtorEq, String.reduceEq]
  refine callE_intro (saysP_ok gw hg w59 ⟨#[112, 104, 97, 115, 101, 115, 58, 52, 44, 115, 119, 101, 101, 112, 44, 112, 114, 101, 102, 105, 120, 58, 56]⟩ (by decide) z59) (.inl ⟨rfl, rfl⟩) ?_
  refine ⟨rfl, ?_⟩
  simp (dsimp := false) only [push_cast, hP, hnt, hgw, hgb, Nat.reduceLT, Nat.reduceEqDiff, Nat.reduceAdd, Nat.reduceSub, Nat.reduceMul, Nat.reduceLeDiff, ↓reduceIte, reduceCtorEq, String.reduceEq]
  refine guardR_may (by simp (dsimp := false) only [push_cast, hP, hnt, hgw, hgb, Nat.reduceLT, Nat.reduceEqDiff, Nat.reduceAdd, Nat.reduceSub, Nat.reduceMul, Nat.reduceLeDiff, ↓reduceIte, reduceCtorEq, String.reduceEq, List.getElem?_cons_zero, List.getElem?_cons_succ]; rfl) ?_
  simp (dsimp := false) only [push_cast, hP, hnt, hgw, hgb, Nat.reduceLT, Nat.reduceEqDiff, Nat.reduceAdd, Nat.reduceSub, Nat.reduceMul, Nat.reduceLeDiff, ↓reduceIte, reduceCtorEq, String.reduceEq]
  refine guardR_may (by simp (dsimp := false) only [push_cast, hP, hnt, hgw, hgb, Nat.reduceLT, Nat.reduceEqDiff, Nat.reduceAdd, Nat.reduceSub, Nat.reduceMul, Nat.reduceLeDiff, ↓reduceIte, reduceCtorEq, String.reduceEq, List.getElem?_cons_zero, List.getElem?_cons_succ]; rfl) ?_
  simp (dsimp := false) only [push_cast, hP, hnt, hgw, hgb, Nat.reduceLT, Nat.reduceEqDiff, Nat.reduceAdd, Nat.reduceSub, Nat.reduceMul, Nat.reduceLeDiff, ↓reduceIte, reduceCtorEq, String.reduceEq]
  refine callE_intro (saysE_ok gw hg w63 ⟨#[98, 109, 99, 32, 48, 32, 53]⟩ z63) (.inl ⟨rfl, rfl⟩) ?_
  refine ⟨rfl, ?_⟩
  simp (dsimp := false) only [push_cast, hP, hnt, hgw, hgb, Nat.reduceLT, Nat.reduceEqDiff, Nat.reduceAdd, Nat.reduceSub, Nat.reduceMul, Nat.reduceLeDiff, ↓reduceIte, reduceCtorEq, String.reduceEq]
  refine guardR_may (by simp (dsimp := false) only [push_cast, hP, hnt, hgw, hgb, Nat.reduceLT, Nat.reduceEqDiff, Nat.reduceAdd, Nat.reduceSub, Nat.reduceMul, Nat.reduceLeDiff, ↓reduceIte, reduceCtorEq, String.reduceEq, List.getElem?_cons_zero, List.getElem?_cons_succ]; rfl) ?_
  simp (dsimp := false) only [push_cast, hP, hnt, hgw, hgb, Nat.reduceLT, Nat.reduceEqDiff, Nat.reduceAdd, Nat.reduceSub, Nat.reduceMul, Nat.reduceLeDiff, ↓reduceIte, reduceCtorEq, String.reduceEq]
  refine guardR_may (by simp (dsimp := false) only [push_cast, hP, hnt, hgw, hgb, Nat.reduceLT, Nat.reduceEqDiff, Nat.reduceAdd, Nat.reduceSub, Nat.reduceMul, Nat.reduceLeDiff, ↓reduceIte, reduceCtorEq, String.reduceEq, List.getElem?_cons_zero, List.getElem?_cons_succ]; rfl) ?_
  simp (dsimp := false) only [push_cast, hP, hnt, hgw, hgb, Nat.reduceLT, Nat.reduceEqDiff, Nat.reduceAdd, Nat.reduceSub, Nat.reduceMul, Nat.reduceLeDiff, ↓reduceIte, reduceCtorEq, String.reduceEq]
  refine callE_intro (saysE_ok gw hg w67 ⟨#[112, 100, 114, 32, 54, 48, 32, 49, 48, 48, 48, 48, 48]⟩ z67) (.inl ⟨rfl, rfl⟩) ?_
  refine ⟨rfl, ?_⟩
  simp (dsimp := false) only [push_cast, hP, hnt, hgw, hgb, Nat.reduceLT, Nat.reduceEqDiff, Nat.reduceAdd, Nat.reduceSub, Nat.reduceMul, Nat.reduceLeDiff, ↓reduceIte, reduceCtorEq, String.reduceEq]
  refine hK _ ?_; clear hK
  refine vwp_seq_regionG fun K hK => ?_
  simp (dsimp := false) only [push_cast, hP, hnt, hgw, hgb, Nat.reduceLT, Nat.reduceEqDiff, Nat.reduceAdd, Nat.reduceSub, Nat.reduceMul, Nat.reduceLeDiff, ↓reduceIte, reduceCtorEq, String.reduceEq]
  refine .inl (callE_intro (none_ok gw hg ⟨#[]⟩ z69) (.inl ⟨rfl, rfl⟩) ?_)
  simp (dsimp := false) only [push_cast, hP, hnt, hgw, hgb, Nat.reduceLT, Nat.reduceEqDiff, Nat.reduceAdd, Nat.reduceSub, Nat.reduceMul, Nat.reduceLeDiff, ↓reduceIte, reduceCtorEq, String.reduceEq]
  refine guardR_may (by simp (dsimp := false) only [push_cast, hP, hnt, hgw, hgb, Nat.reduceLT, Nat.reduceEqDiff, Nat.reduceAdd, Nat.reduceSub, Nat.reduceMul, Nat.reduceLeDiff, ↓reduceIte, reduceCtorEq, String.reduceEq, List.getElem?_cons_zero, List.getElem?_cons_succ]; rfl) ?_
  simp (dsimp := false) only [push_cast, hP, hnt, hgw, hgb, Nat.reduceLT, Nat.reduceEqDiff, Nat.reduceAdd, Nat.reduceSub, Nat.reduceMul, Nat.reduceLeDiff, ↓reduceIte, reduceCtorEq, String.reduceEq]
  refine callE_intro (none_ok gw hg ⟨#[83, 65, 70, 69]⟩ z71) (.inl ⟨rfl, rfl⟩) ?_
  refine ⟨rfl, ?_⟩
  simp (dsimp := false) only [push_cast, hP, hnt, hgw, hgb, Nat.reduceLT, Nat.reduceEqDiff, Nat.reduceAdd, Nat.reduceSub, Nat.reduceMul, Nat.reduceLeDiff, ↓reduceIte, reduceCtorEq, String.reduceEq]
  refine guardR_may (by simp (dsimp := false) only [push_cast, hP, hnt, hgw, hgb, Nat.reduceLT, Nat.reduceEqDiff, Nat.reduceAdd, Nat.reduceSub, Nat.reduceMul, Nat.reduceLeDiff, ↓reduceIte, reduceCtorEq, String.reduceEq, List.getElem?_cons_zero, List.getElem?_cons_succ]; rfl) ?_
  simp (dsimp := false) only [push_cast, hP, hnt, hgw, hgb, Nat.reduceLT, Nat.reduceEqDiff, Nat.reduceAdd, Nat.reduceSub, Nat.reduceMul, Nat.reduceLeDiff, ↓reduceIte, reduceCtorEq, String.reduceEq]
  refine callE_intro (none_ok gw hg ⟨#[85, 78, 75, 78, 79, 87, 78]⟩ z74) (.inl ⟨rfl, rfl⟩) ?_
  refine ⟨rfl, ?_⟩
  simp (dsimp := false) only [push_cast, hP, hnt, hgw, hgb, Nat.reduceLT, Nat.reduceEqDiff, Nat.reduceAdd, Nat.reduceSub, Nat.reduceMul, Nat.reduceLeDiff, ↓reduceIte, reduceCtorEq, String.reduceEq]
  refine guardR_may (by simp (dsimp := false) only [push_cast, hP, hnt, hgw, hgb, Nat.reduceLT, Nat.reduceEqDiff, Nat.reduceAdd, Nat.reduceSub, Nat.reduceMul, Nat.reduceLeDiff, ↓reduceIte, reduceCtorEq, String.reduceEq, List.getElem?_cons_zero, List.getElem?_cons_succ]; rfl) ?_
  simp (dsimp := false) only [push_cast, hP, hnt, hgw, hgb, Nat.reduceLT, Nat.reduceEqDiff, Nat.reduceAdd, Nat.reduceSub, Nat.reduceMul, Nat.reduceLeDiff, ↓reduceIte, reduceCtorEq, String.reduceEq]
  refine callE_intro (none_ok gw hg ⟨#[85, 78, 75, 78, 79, 87, 78, 10, 10]⟩ z77) (.inl ⟨rfl, rfl⟩) ?_
  refine ⟨rfl, ?_⟩
  simp (dsimp := false) only [push_cast, hP, hnt, hgw, hgb, Nat.reduceLT, Nat.reduceEqDiff, Nat.reduceAdd, Nat.reduceSub, Nat.reduceMul, Nat.reduceLeDiff, ↓reduceIte, reduceCtorEq, String.reduceEq]
  refine guardR_may (by simp (dsimp := false) only [push_cast, hP, hnt, hgw, hgb, Nat.reduceLT, Nat.reduceEqDiff, Nat.reduceAdd, Nat.reduceSub, Nat.reduceMul, Nat.reduceLeDiff, ↓reduceIte, reduceCtorEq, String.reduceEq, List.getElem?_cons_zero, List.getElem?_cons_succ]; rfl) ?_
  simp (dsimp := false) only [push_cast, hP, hnt, hgw, hgb, Nat.reduceLT, Nat.reduceEqDiff, Nat.reduceAdd, Nat.reduceSub, Nat.reduceMul, Nat.reduceLeDiff, ↓reduceIte, reduceCtorEq, String.reduceEq]
  refine callE_intro (none_ok gw hg ⟨#[115, 97, 102, 101, 10]⟩ z80) (.inl ⟨rfl, rfl⟩) ?_
  refine ⟨rfl, ?_⟩
  simp (dsimp := false) only [push_cast, hP, hnt, hgw, hgb, Nat.reduceLT, Nat.reduceEqDiff, Nat.reduceAdd, Nat.reduceSub, Nat.reduceMul, Nat.reduceLeDiff, ↓reduceIte, reduceCtorEq, String.reduceEq]
  refine guardR_may (by simp (dsimp := false) only [push_cast, hP, hnt, hgw, hgb, Nat.reduceLT, Nat.reduceEqDiff, Nat.reduceAdd, Nat.reduceSub, Nat.reduceMul, Nat.reduceLeDiff, ↓reduceIte, reduceCtorEq, String.reduceEq, List.getElem?_cons_zero, List.getElem?_cons_succ]; rfl) ?_
  simp (dsimp := false) only [push_cast, hP, hnt, hgw, hgb, Nat.reduceLT, Nat.reduceEqDiff, Nat.reduceAdd, Nat.reduceSub, Nat.reduceMul, Nat.reduceLeDiff, ↓reduceIte, reduceCtorEq, String.reduceEq]
  refine callE_intro (none_ok gw hg ⟨#[85, 78, 83, 65, 70, 69, 10]⟩ z83) (.inl ⟨rfl, rfl⟩) ?_
  refine ⟨rfl, ?_⟩
  simp (dsimp := false) only [push_cast, hP, hnt, hgw, hgb, Nat.reduceLT, Nat.reduceEqDiff, Nat.reduceAdd, Nat.reduceSub, Nat.reduceMul, Nat.reduceLeDiff, ↓reduceIte, reduceCtorEq, String.reduceEq]
  refine guardR_may (by simp (dsimp := false) only [push_cast, hP, hnt, hgw, hgb, Nat.reduceLT, Nat.reduceEqDiff, Nat.reduceAdd, Nat.reduceSub, Nat.reduceMul, Nat.reduceLeDiff, ↓reduceIte, reduceCtorEq, String.reduceEq, List.getElem?_cons_zero, List.getElem?_cons_succ]; rfl) ?_
  simp (dsimp := false) only [push_cast, hP, hnt, hgw, hgb, Nat.reduceLT, Nat.reduceEqDiff, Nat.reduceAdd, Nat.reduceSub, Nat.reduceMul, Nat.reduceLeDiff, ↓reduceIte, reduceCtorEq, String.reduceEq]
  refine callE_intro (none_ok gw hg ⟨#[85, 78, 83, 65, 70, 69, 10, 102, 105, 114, 115, 116, 32, 48, 10]⟩ z86) (.inl ⟨rfl, rfl⟩) ?_
  refine ⟨rfl, ?_⟩
  simp (dsimp := false) only [push_cast, hP, hnt, hgw, hgb, Nat.reduceLT, Nat.reduceEqDiff, Nat.reduceAdd, Nat.reduceSub, Nat.reduceMul, Nat.reduceLeDiff, ↓reduceIte, reduceCtorEq, String.reduceEq]
  refine guardR_may (by simp (dsimp := false) only [push_cast, hP, hnt, hgw, hgb, Nat.reduceLT, Nat.reduceEqDiff, Nat.reduceAdd, Nat.reduceSub, Nat.reduceMul, Nat.reduceLeDiff, ↓reduceIte, reduceCtorEq, String.reduceEq, List.getElem?_cons_zero, List.getElem?_cons_succ]; rfl) ?_
  simp (dsimp := false) only [push_cast, hP, hnt, hgw, hgb, Nat.reduceLT, Nat.reduceEqDiff, Nat.reduceAdd, Nat.reduceSub, Nat.reduceMul, Nat.reduceLeDiff, ↓reduceIte, reduceCtorEq, String.reduceEq]
  refine callE_intro (none_ok gw hg ⟨#[85, 78, 83, 65, 70, 69, 10, 102, 105, 114, 115, 116, 32, 10, 105, 110, 32, 45, 10]⟩ z89) (.inl ⟨rfl, rfl⟩) ?_
  refine ⟨rfl, ?_⟩
  simp (dsimp := false) only [push_cast, hP, hnt, hgw, hgb, Nat.reduceLT, Nat.reduceEqDiff, Nat.reduceAdd, Nat.reduceSub, Nat.reduceMul, Nat.reduceLeDiff, ↓reduceIte, reduceCtorEq, String.reduceEq]
  refine guardR_may (by simp (dsimp := false) only [push_cast, hP, hnt, hgw, hgb, Nat.reduceLT, Nat.reduceEqDiff, Nat.reduceAdd, Nat.reduceSub, Nat.reduceMul, Nat.reduceLeDiff, ↓reduceIte, reduceCtorEq, String.reduceEq, List.getElem?_cons_zero, List.getElem?_cons_succ]; rfl) ?_
  simp (dsimp := false) only [push_cast, hP, hnt, hgw, hgb, Nat.reduceLT, Nat.reduceEqDiff, Nat.reduceAdd, Nat.reduceSub, Nat.reduceMul, Nat.reduceLeDiff, ↓reduceIte, reduceCtorEq, String.reduceEq]
  refine callE_intro (none_ok gw hg ⟨#[85, 78, 83, 65, 70, 69, 10, 102, 105, 114, 115, 116, 32, 50, 10, 105, 110, 32, 45, 10]⟩ z92) (.inl ⟨rfl, rfl⟩) ?_
  refine ⟨rfl, ?_⟩
  simp (dsimp := false) only [push_cast, hP, hnt, hgw, hgb, Nat.reduceLT, Nat.reduceEqDiff, Nat.reduceAdd, Nat.reduceSub, Nat.reduceMul, Nat.reduceLeDiff, ↓reduceIte, reduceCtorEq, String.reduceEq]
  refine guardR_may (by simp (dsimp := false) only [push_cast, hP, hnt, hgw, hgb, Nat.reduceLT, Nat.reduceEqDiff, Nat.reduceAdd, Nat.reduceSub, Nat.reduceMul, Nat.reduceLeDiff, ↓reduceIte, reduceCtorEq, String.reduceEq, List.getElem?_cons_zero, List.getElem?_cons_succ]; rfl) ?_
  simp (dsimp := false) only [push_cast, hP, hnt, hgw, hgb, Nat.reduceLT, Nat.reduceEqDiff, Nat.reduceAdd, Nat.reduceSub, Nat.reduceMul, Nat.reduceLeDiff, ↓reduceIte, reduceCtorEq, String.reduceEq]
  refine callE_intro (none_ok gw hg ⟨#[85, 78, 83, 65, 70, 69, 10, 105, 110, 32, 45, 10, 102, 105, 114, 115, 116, 32, 45, 10]⟩ z95) (.inl ⟨rfl, rfl⟩) ?_
  refine ⟨rfl, ?_⟩
  simp (dsimp := false) only [push_cast, hP, hnt, hgw, hgb, Nat.reduceLT, Nat.reduceEqDiff, Nat.reduceAdd, Nat.reduceSub, Nat.reduceMul, Nat.reduceLeDiff, ↓reduceIte, reduceCtorEq, String.reduceEq]
  refine guardR_may (by simp (dsimp := false) only [push_cast, hP, hnt, hgw, hgb, Nat.reduceLT, Nat.reduceEqDiff, Nat.reduceAdd, Nat.reduceSub, Nat.reduceMul, Nat.reduceLeDiff, ↓reduceIte, reduceCtorEq, String.reduceEq, List.getElem?_cons_zero, List.getElem?_cons_succ]; rfl) ?_
  simp (dsimp := false) only [push_cast, hP, hnt, hgw, hgb, Nat.reduceLT, Nat.reduceEqDiff, Nat.reduceAdd, Nat.reduceSub, Nat.reduceMul, Nat.reduceLeDiff, ↓reduceIte, reduceCtorEq, String.reduceEq]
  refine callE_intro (none_ok gw hg ⟨#[85, 78, 83, 65, 70, 69, 10, 102, 105, 114, 115, 116, 32, 45, 10, 105, 110, 32, 45, 45, 10]⟩ z98) (.inl ⟨rfl, rfl⟩) ?_
  refine ⟨rfl, ?_⟩
  simp (dsimp := false) only [push_cast, hP, hnt, hgw, hgb, Nat.reduceLT, Nat.reduceEqDiff, Nat.reduceAdd, Nat.reduceSub, Nat.reduceMul, Nat.reduceLeDiff, ↓reduceIte, reduceCtorEq, String.reduceEq]
  refine guardR_may (by simp (dsimp := false) only [push_cast, hP, hnt, hgw, hgb, Nat.reduceLT, Nat.reduceEqDiff, Nat.reduceAdd, Nat.reduceSub, Nat.reduceMul, Nat.reduceLeDiff, ↓reduceIte, reduceCtorEq, String.reduceEq, List.getElem?_cons_zero, List.getElem?_cons_succ]; rfl) ?_
  simp (dsimp := false) only [push_cast, hP, hnt, hgw, hgb, Nat.reduceLT, Nat.reduceEqDiff, Nat.reduceAdd, Nat.reduceSub, Nat.reduceMul, Nat.reduceLeDiff, ↓reduceIte, reduceCtorEq, String.reduceEq]
  refine callE_intro (none_ok gw hg ⟨#[83, 65, 70, 69, 10, 115, 107, 105, 112, 32, 48, 10, 112, 104, 97, 115, 101, 115, 32, 49, 10]⟩ z101) (.inl ⟨rfl, rfl⟩) ?_
  refine ⟨rfl, ?_⟩
  simp (dsimp := false) only [push_cast, hP, hnt, hgw, hgb, Nat.reduceLT, Nat.reduceEqDiff, Nat.reduceAdd, Nat.reduceSub, Nat.reduceMul, Nat.reduceLeDiff, ↓reduceIte, reduceCtorEq, String.reduceEq]
  refine guardR_may (by simp (dsimp := false) only [push_cast, hP, hnt, hgw, hgb, Nat.reduceLT, Nat.reduceEqDiff, Nat.reduceAdd, Nat.reduceSub, Nat.reduceMul, Nat.reduceLeDiff, ↓reduceIte, reduceCtorEq, String.reduceEq, List.getElem?_cons_zero, List.getElem?_cons_succ]; rfl) ?_
  simp (dsimp := false) only [push_cast, hP, hnt, hgw, hgb, Nat.reduceLT, Nat.reduceEqDiff, Nat.reduceAdd, Nat.reduceSub, Nat.reduceMul, Nat.reduceLeDiff, ↓reduceIte, reduceCtorEq, String.reduceEq]
  refine callE_intro (none_ok gw hg ⟨#[83, 65, 70, 69, 10, 115, 107, 105, 112, 32, 48, 48, 10, 112, 104, 97, 115, 101, 115, 32, 49, 10, 108, 105, 116, 32, 49, 10]⟩ z104) (.inl ⟨rfl, rfl⟩) ?_
  refine ⟨rfl, ?_⟩
  simp (dsimp := false) only [push_cast, hP, hnt, hgw, hgb, Nat.reduceLT, Nat.reduceEqDiff, Nat.reduceAdd, Nat.reduceSub, Nat.reduceMul, Nat.reduceLeDiff, ↓reduceIte, reduceCtorEq, String.reduceEq]
  refine guardR_may (by simp (dsimp := false) only [push_cast, hP, hnt, hgw, hgb, Nat.reduceLT, Nat.reduceEqDiff, Nat.reduceAdd, Nat.reduceSub, Nat.reduceMul, Nat.reduceLeDiff, ↓reduceIte, reduceCtorEq, String.reduceEq, List.getElem?_cons_zero, List.getElem?_cons_succ]; rfl) ?_
  simp (dsimp := false) only [push_cast, hP, hnt, hgw, hgb, Nat.reduceLT, Nat.reduceEqDiff, Nat.reduceAdd, Nat.reduceSub, Nat.reduceMul, Nat.reduceLeDiff, ↓reduceIte, reduceCtorEq, String.reduceEq]
  refine callE_intro (none_ok gw hg ⟨#[83, 65, 70, 69, 10, 115, 107, 105, 112, 32, 49, 48, 49, 10, 112, 104, 97, 115, 101, 115, 32, 49, 10, 108, 105, 116, 32, 49, 10]⟩ z107) (.inl ⟨rfl, rfl⟩) ?_
  refine ⟨rfl, ?_⟩
  simp (dsimp := false) only [push_cast, hP, hnt, hgw, hgb, Nat.reduceLT, Nat.reduceEqDiff, Nat.reduceAdd, Nat.reduceSub, Nat.reduceMul, Nat.reduceLeDiff, ↓reduceIte, reduceCtorEq, String.reduceEq]
  refine guardR_may (by simp (dsimp := false) only [push_cast, hP, hnt, hgw, hgb, Nat.reduceLT, Nat.reduceEqDiff, Nat.reduceAdd, Nat.reduceSub, Nat.reduceMul, Nat.reduceLeDiff, ↓reduceIte, reduceCtorEq, String.reduceEq, List.getElem?_cons_zero, List.getElem?_cons_succ]; rfl) ?_
  simp (dsimp := false) only [push_cast, hP, hnt, hgw, hgb, Nat.reduceLT, Nat.reduceEqDiff, Nat.reduceAdd, Nat.reduceSub, Nat.reduceMul, Nat.reduceLeDiff, ↓reduceIte, reduceCtorEq, String.reduceEq]
  refine callE_intro (none_ok gw hg ⟨#[83, 65, 70, 69, 10, 115, 107, 105, 112, 32, 48, 10, 112, 104, 97, 115, 101, 115, 32, 49, 10, 108, 105, 116, 32, 50, 48, 48, 50, 10]⟩ z110) (.inl ⟨rfl, rfl⟩) ?_
  refine ⟨rfl, ?_⟩
  simp (dsimp := false) only [push_cast, hP, hnt, hgw, hgb, Nat.reduceLT, Nat.reduceEqDiff, Nat.reduceAdd, Nat.reduceSub, Nat.reduceMul, Nat.reduceLeDiff, ↓reduceIte, reduceCtorEq, String.reduceEq]
  refine guardR_may (by simp (dsimp := false) only [push_cast, hP, hnt, hgw, hgb, Nat.reduceLT, Nat.reduceEqDiff, Nat.reduceAdd, Nat.reduceSub, Nat.reduceMul, Nat.reduceLeDiff, ↓reduceIte, reduceCtorEq, String.reduceEq, List.getElem?_cons_zero, List.getElem?_cons_succ]; rfl) ?_
  simp (dsimp := false) only [push_cast, hP, hnt, hgw, hgb, Nat.reduceLT, Nat.reduceEqDiff, Nat.reduceAdd, Nat.reduceSub, Nat.reduceMul, Nat.reduceLeDiff, ↓reduceIte, reduceCtorEq, String.reduceEq]
  refine callE_intro (none_ok gw hg ⟨#[83, 65, 70, 69, 10, 115, 107, 105, 112, 32, 48, 10, 112, 104, 97, 115, 101, 115, 32, 49, 10, 97, 110, 100, 32, 49, 10, 108, 105, 116, 32, 49, 10]⟩ z113) (.inl ⟨rfl, rfl⟩) ?_
  refine ⟨rfl, ?_⟩
  simp (dsimp := false) only [push_cast, hP, hnt, hgw, hgb, Nat.reduceLT, Nat.reduceEqDiff, Nat.reduceAdd, Nat.reduceSub, Nat.reduceMul, Nat.reduceLeDiff, ↓reduceIte, reduceCtorEq, String.reduceEq]
  refine guardR_may (by simp (dsimp := false) only [push_cast, hP, hnt, hgw, hgb, Nat.reduceLT, Nat.reduceEqDiff, Nat.reduceAdd, Nat.reduceSub, Nat.reduceMul, Nat.reduceLeDiff, ↓reduceIte, reduceCtorEq, String.reduceEq, List.getElem?_cons_zero, List.getElem?_cons_succ]; rfl) ?_
  simp (dsimp := false) only [push_cast, hP, hnt, hgw, hgb, Nat.reduceLT, Nat.reduceEqDiff, Nat.reduceAdd, Nat.reduceSub, Nat.reduceMul, Nat.reduceLeDiff, ↓reduceIte, reduceCtorEq, String.reduceEq]
  refine callE_intro (none_ok gw hg ⟨#[83, 65, 70, 69, 10, 115, 107, 105, 112, 32, 48, 10, 112, 104, 97, 115, 101, 115, 32, 49, 10, 97, 110, 100, 32, 49, 32, 50, 32, 51, 10, 108, 105, 116, 32, 49, 10]⟩ z116) (.inl ⟨rfl, rfl⟩) ?_
  refine ⟨rfl, ?_⟩
  simp (dsimp := false) only [push_cast, hP, hnt, hgw, hgb, Nat.reduceLT, Nat.reduceEqDiff, Nat.reduceAdd, Nat.reduceSub, Nat.reduceMul, Nat.reduceLeDiff, ↓reduceIte, reduceCtorEq, String.reduceEq]
  refine guardR_may (by simp (dsimp := false) only [push_cast, hP, hnt, hgw, hgb, Nat.reduceLT, Nat.reduceEqDiff, Nat.reduceAdd, Nat.reduceSub, Nat.reduceMul, Nat.reduceLeDiff, ↓reduceIte, reduceCtorEq, String.reduceEq, List.getElem?_cons_zero, List.getElem?_cons_succ]; rfl) ?_
  simp (dsimp := false) only [push_cast, hP, hnt, hgw, hgb, Nat.reduceLT, Nat.reduceEqDiff, Nat.reduceAdd, Nat.reduceSub, Nat.reduceMul, Nat.reduceLeDiff, ↓reduceIte, reduceCtorEq, String.reduceEq]
  refine callE_intro (none_ok gw hg ⟨#[83, 65, 70, 69, 10, 112, 104, 97, 115, 101, 115, 32, 49, 10, 115, 107, 105, 112, 32, 48, 10, 108, 105, 116, 32, 49, 10]⟩ z119) (.inl ⟨rfl, rfl⟩) ?_
  refine ⟨rfl, ?_⟩
  simp (dsimp := false) only [push_cast, hP, hnt, hgw, hgb, Nat.reduceLT, Nat.reduceEqDiff, Nat.reduceAdd, Nat.reduceSub, Nat.reduceMul, Nat.reduceLeDiff, ↓reduceIte, reduceCtorEq, String.reduceEq]
  refine guardR_may (by simp (dsimp := false) only [push_cast, hP, hnt, hgw, hgb, Nat.reduceLT, Nat.reduceEqDiff, Nat.reduceAdd, Nat.reduceSub, Nat.reduceMul, Nat.reduceLeDiff, ↓reduceIte, reduceCtorEq, String.reduceEq, List.getElem?_cons_zero, List.getElem?_cons_succ]; rfl) ?_
  simp (dsimp := false) only [push_cast, hP, hnt, hgw, hgb, Nat.reduceLT, Nat.reduceEqDiff, Nat.reduceAdd, Nat.reduceSub, Nat.reduceMul, Nat.reduceLeDiff, ↓reduceIte, reduceCtorEq, String.reduceEq]
  refine callE_intro (none_ok gw hg ⟨#[83, 65, 70, 69, 10, 115, 107, 105, 112, 32, 45, 49, 10, 112, 104, 97, 115, 101, 115, 32, 49, 10, 108, 105, 116, 32, 49, 10]⟩ z122) (.inl ⟨rfl, rfl⟩) ?_
  refine ⟨rfl, ?_⟩
  simp (dsimp := false) only [push_cast, hP, hnt, hgw, hgb, Nat.reduceLT, Nat.reduceEqDiff, Nat.reduceAdd, Nat.reduceSub, Nat.reduceMul, Nat.reduceLeDiff, ↓reduceIte, reduceCtorEq, String.reduceEq]
  refine guardR_may (by simp (dsimp := false) only [push_cast, hP, hnt, hgw, hgb, Nat.reduceLT, Nat.reduceEqDiff, Nat.reduceAdd, Nat.reduceSub, Nat.reduceMul, Nat.reduceLeDiff, ↓reduceIte, reduceCtorEq, String.reduceEq, List.getElem?_cons_zero, List.getElem?_cons_succ]; rfl) ?_
  simp (dsimp := false) only [push_cast, hP, hnt, hgw, hgb, Nat.reduceLT, Nat.reduceEqDiff, Nat.reduceAdd, Nat.reduceSub, Nat.reduceMul, Nat.reduceLeDiff, ↓reduceIte, reduceCtorEq, String.reduceEq]
  refine callE_intro (none_ok gw hg ⟨#[83, 65, 70, 69, 10, 115, 107, 105, 112, 32, 48, 10, 112, 104, 97, 115, 101, 115, 32, 49, 10, 108, 105, 116, 32, 49, 10, 108, 105, 116, 32, 49, 10]⟩ z125) (.inl ⟨rfl, rfl⟩) ?_
  refine ⟨rfl, ?_⟩
  simp (dsimp := false) only [push_cast, hP, hnt, hgw, hgb, Nat.reduceLT, Nat.reduceEqDiff, Nat.reduceAdd, Nat.reduceSub, Nat.reduceMul, Nat.reduceLeDiff, ↓reduceIte, reduceCtorEq, String.reduceEq]
  refine hK _ ?_; clear hK
  refine vwp_seq_regionG fun K hK => ?_
  simp (dsimp := false) only [push_cast, hP, hnt, hgw, hgb, Nat.reduceLT, Nat.reduceEqDiff, Nat.reduceAdd, Nat.reduceSub, Nat.reduceMul, Nat.reduceLeDiff, ↓reduceIte, reduceCtorEq, String.reduceEq]
  refine .inl (callE_intro (unlisted_ok gw hg ⟨#[44]⟩ z127) (.inl ⟨rfl, rfl⟩) ?_)
  simp (dsimp := false) only [push_cast, hP, hnt, hgw, hgb, Nat.reduceLT, Nat.reduceEqDiff, Nat.reduceAdd, Nat.reduceSub, Nat.reduceMul, Nat.reduceLeDiff, ↓reduceIte, reduceCtorEq, String.reduceEq]
  refine guardR_may (by simp (dsimp := false) only [push_cast, hP, hnt, hgw, hgb, Nat.reduceLT, Nat.reduceEqDiff, Nat.reduceAdd, Nat.reduceSub, Nat.reduceMul, Nat.reduceLeDiff, ↓reduceIte, reduceCtorEq, String.reduceEq, List.getElem?_cons_zero, List.getElem?_cons_succ]; rfl) ?_
  simp (dsimp := false) only [push_cast, hP, hnt, hgw, hgb, Nat.reduceLT, Nat.reduceEqDiff, Nat.reduceAdd, Nat.reduceSub, Nat.reduceMul, Nat.reduceLeDiff, ↓reduceIte, reduceCtorEq, String.reduceEq]
  refine callE_intro (unlisted_ok gw hg ⟨#[104, 97, 115, 104, 44]⟩ z129) (.inl ⟨rfl, rfl⟩) ?_
  refine ⟨rfl, ?_⟩
  simp (dsimp := false) only [push_cast, hP, hnt, hgw, hgb, Nat.reduceLT, Nat.reduceEqDiff, Nat.reduceAdd, Nat.reduceSub, Nat.reduceMul, Nat.reduceLeDiff, ↓reduceIte, reduceCtorEq, String.reduceEq]
  refine guardR_may (by simp (dsimp := false) only [push_cast, hP, hnt, hgw, hgb, Nat.reduceLT, Nat.reduceEqDiff, Nat.reduceAdd, Nat.reduceSub, Nat.reduceMul, Nat.reduceLeDiff, ↓reduceIte, reduceCtorEq, String.reduceEq, List.getElem?_cons_zero, List.getElem?_cons_succ]; rfl) ?_
  simp (dsimp := false) only [push_cast, hP, hnt, hgw, hgb, Nat.reduceLT, Nat.reduceEqDiff, Nat.reduceAdd, Nat.reduceSub, Nat.reduceMul, Nat.reduceLeDiff, ↓reduceIte, reduceCtorEq, String.reduceEq]
  refine callE_intro (unlisted_ok gw hg ⟨#[44, 104, 97, 115, 104]⟩ z132) (.inl ⟨rfl, rfl⟩) ?_
  refine ⟨rfl, ?_⟩
  simp (dsimp := false) only [push_cast, hP, hnt, hgw, hgb, Nat.reduceLT, Nat.reduceEqDiff, Nat.reduceAdd, Nat.reduceSub, Nat.reduceMul, Nat.reduceLeDiff, ↓reduceIte, reduceCtorEq, String.reduceEq]
  refine guardR_may (by simp (dsimp := false) only [push_cast, hP, hnt, hgw, hgb, Nat.reduceLT, Nat.reduceEqDiff, Nat.reduceAdd, Nat.reduceSub, Nat.reduceMul, Nat.reduceLeDiff, ↓reduceIte, reduceCtorEq, String.reduceEq, List.getElem?_cons_zero, List.getElem?_cons_succ]; rfl) ?_
  simp (dsimp := false) only [push_cast, hP, hnt, hgw, hgb, Nat.reduceLT, Nat.reduceEqDiff, Nat.reduceAdd, Nat.reduceSub, Nat.reduceMul, Nat.reduceLeDiff, ↓reduceIte, reduceCtorEq, String.reduceEq]
  refine callE_intro (unlisted_ok gw hg ⟨#[104, 97, 115, 104, 44, 44, 99, 111, 110, 101]⟩ z135) (.inl ⟨rfl, rfl⟩) ?_
  refine ⟨rfl, ?_⟩
  simp (dsimp := false) only [push_cast, hP, hnt, hgw, hgb, Nat.reduceLT, Nat.reduceEqDiff, Nat.reduceAdd, Nat.reduceSub, Nat.reduceMul, Nat.reduceLeDiff, ↓reduceIte, reduceCtorEq, String.reduceEq]
  refine guardR_may (by simp (dsimp := false) only [push_cast, hP, hnt, hgw, hgb, Nat.reduceLT, Nat.reduceEqDiff, Nat.reduceAdd, Nat.reduceSub, Nat.reduceMul, Nat.reduceLeDiff, ↓reduceIte, reduceCtorEq, String.reduceEq, List.getElem?_cons_zero, List.getElem?_cons_succ]; rfl) ?_
  simp (dsimp := false) only [push_cast, hP, hnt, hgw, hgb, Nat.reduceLT, Nat.reduceEqDiff, Nat.reduceAdd, Nat.reduceSub, Nat.reduceMul, Nat.reduceLeDiff, ↓reduceIte, reduceCtorEq, String.reduceEq]
  refine callE_intro (unlisted_ok gw hg ⟨#[112, 114, 101, 102, 105, 120]⟩ z138) (.inl ⟨rfl, rfl⟩) ?_
  refine ⟨rfl, ?_⟩
  simp (dsimp := false) only [push_cast, hP, hnt, hgw, hgb, Nat.reduceLT, Nat.reduceEqDiff, Nat.reduceAdd, Nat.reduceSub, Nat.reduceMul, Nat.reduceLeDiff, ↓reduceIte, reduceCtorEq, String.reduceEq]
  refine guardR_may (by simp (dsimp := false) only [push_cast, hP, hnt, hgw, hgb, Nat.reduceLT, Nat.reduceEqDiff, Nat.reduceAdd, Nat.reduceSub, Nat.reduceMul, Nat.reduceLeDiff, ↓reduceIte, reduceCtorEq, String.reduceEq, List.getElem?_cons_zero, List.getElem?_cons_succ]; rfl) ?_
  simp (dsimp := false) only [push_cast, hP, hnt, hgw, hgb, Nat.reduceLT, Nat.reduceEqDiff, Nat.reduceAdd, Nat.reduceSub, Nat.reduceMul, Nat.reduceLeDiff, ↓reduceIte, reduceCtorEq, String.reduceEq]
  refine callE_intro (unlisted_ok gw hg ⟨#[112, 114, 101, 102, 105, 120, 58, 57]⟩ z141) (.inl ⟨rfl, rfl⟩) ?_
  refine ⟨rfl, ?_⟩
  simp (dsimp := false) only [push_cast, hP, hnt, hgw, hgb, Nat.reduceLT, Nat.reduceEqDiff, Nat.reduceAdd, Nat.reduceSub, Nat.reduceMul, Nat.reduceLeDiff, ↓reduceIte, reduceCtorEq, String.reduceEq]
  refine guardR_may (by simp (dsimp := false) only [push_cast, hP, hnt, hgw, hgb, Nat.reduceLT, Nat.reduceEqDiff, Nat.reduceAdd, Nat.reduceSub, Nat.reduceMul, Nat.reduceLeDiff, ↓reduceIte, reduceCtorEq, String.reduceEq, List.getElem?_cons_zero, List.getElem?_cons_succ]; rfl) ?_
  simp (dsimp := false) only [push_cast, hP, hnt, hgw, hgb, Nat.reduceLT, Nat.reduceEqDiff, Nat.reduceAdd, Nat.reduceSub, Nat.reduceMul, Nat.reduceLeDiff, ↓reduceIte, reduceCtorEq, String.reduceEq]
  refine callE_intro (unlisted_ok gw hg ⟨#[104, 97, 115, 104, 58, 48]⟩ z144) (.inl ⟨rfl, rfl⟩) ?_
  refine ⟨rfl, ?_⟩
  simp (dsimp := false) only [push_cast, hP, hnt, hgw, hgb, Nat.reduceLT, Nat.reduceEqDiff, Nat.reduceAdd, Nat.reduceSub, Nat.reduceMul, Nat.reduceLeDiff, ↓reduceIte, reduceCtorEq, String.reduceEq]
  refine guardR_may (by simp (dsimp := false) only [push_cast, hP, hnt, hgw, hgb, Nat.reduceLT, Nat.reduceEqDiff, Nat.reduceAdd, Nat.reduceSub, Nat.reduceMul, Nat.reduceLeDiff, ↓reduceIte, reduceCtorEq, String.reduceEq, List.getElem?_cons_zero, List.getElem?_cons_succ]; rfl) ?_
  simp (dsimp := false) only [push_cast, hP, hnt, hgw, hgb, Nat.reduceLT, Nat.reduceEqDiff, Nat.reduceAdd, Nat.reduceSub, Nat.reduceMul, Nat.reduceLeDiff, ↓reduceIte, reduceCtorEq, String.reduceEq]
  refine callE_intro (unlisted_ok gw hg ⟨#[72, 97, 115, 104]⟩ z147) (.inl ⟨rfl, rfl⟩) ?_
  refine ⟨rfl, ?_⟩
  simp (dsimp := false) only [push_cast, hP, hnt, hgw, hgb, Nat.reduceLT, Nat.reduceEqDiff, Nat.reduceAdd, Nat.reduceSub, Nat.reduceMul, Nat.reduceLeDiff, ↓reduceIte, reduceCtorEq, String.reduceEq]
  refine guardR_may (by simp (dsimp := false) only [push_cast, hP, hnt, hgw, hgb, Nat.reduceLT, Nat.reduceEqDiff, Nat.reduceAdd, Nat.reduceSub, Nat.reduceMul, Nat.reduceLeDiff, ↓reduceIte, reduceCtorEq, String.reduceEq, List.getElem?_cons_zero, List.getElem?_cons_succ]; rfl) ?_
  simp (dsimp := false) only [push_cast, hP, hnt, hgw, hgb, Nat.reduceLT, Nat.reduceEqDiff, Nat.reduceAdd, Nat.reduceSub, Nat.reduceMul, Nat.reduceLeDiff, ↓reduceIte, reduceCtorEq, String.reduceEq]
  refine callE_intro (unlisted_ok gw hg ⟨#[112, 104, 97, 115, 101, 115, 58, 49]⟩ z150) (.inl ⟨rfl, rfl⟩) ?_
  refine ⟨rfl, ?_⟩
  simp (dsimp := false) only [push_cast, hP, hnt, hgw, hgb, Nat.reduceLT, Nat.reduceEqDiff, Nat.reduceAdd, Nat.reduceSub, Nat.reduceMul, Nat.reduceLeDiff, ↓reduceIte, reduceCtorEq, String.reduceEq]
  refine guardR_may (by simp (dsimp := false) only [push_cast, hP, hnt, hgw, hgb, Nat.reduceLT, Nat.reduceEqDiff, Nat.reduceAdd, Nat.reduceSub, Nat.reduceMul, Nat.reduceLeDiff, ↓reduceIte, reduceCtorEq, String.reduceEq, List.getElem?_cons_zero, List.getElem?_cons_succ]; rfl) ?_
  simp (dsimp := false) only [push_cast, hP, hnt, hgw, hgb, Nat.reduceLT, Nat.reduceEqDiff, Nat.reduceAdd, Nat.reduceSub, Nat.reduceMul, Nat.reduceLeDiff, ↓reduceIte, reduceCtorEq, String.reduceEq]
  refine callE_intro (unlisted_ok gw hg ⟨#[32, 104, 97, 115, 104]⟩ z153) (.inl ⟨rfl, rfl⟩) ?_
  refine ⟨rfl, ?_⟩
  simp (dsimp := false) only [push_cast, hP, hnt, hgw, hgb, Nat.reduceLT, Nat.reduceEqDiff, Nat.reduceAdd, Nat.reduceSub, Nat.reduceMul, Nat.reduceLeDiff, ↓reduceIte, reduceCtorEq, String.reduceEq]
  refine guardR_may (by simp (dsimp := false) only [push_cast, hP, hnt, hgw, hgb, Nat.reduceLT, Nat.reduceEqDiff, Nat.reduceAdd, Nat.reduceSub, Nat.reduceMul, Nat.reduceLeDiff, ↓reduceIte, reduceCtorEq, String.reduceEq, List.getElem?_cons_zero, List.getElem?_cons_succ]; rfl) ?_
  simp (dsimp := false) only [push_cast, hP, hnt, hgw, hgb, Nat.reduceLT, Nat.reduceEqDiff, Nat.reduceAdd, Nat.reduceSub, Nat.reduceMul, Nat.reduceLeDiff, ↓reduceIte, reduceCtorEq, String.reduceEq]
  refine callE_intro (unlisted_ok gw hg ⟨#[104, 97, 115, 104, 44, 104, 97, 115, 104, 44, 104, 97, 115, 104, 44, 104, 97, 115, 104, 44, 104, 97, 115, 104, 44, 104, 97, 115, 104, 44, 104, 97, 115, 104, 44, 104, 97, 115, 104, 44, 104, 97, 115, 104, 44, 104, 97, 115, 104, 44, 104, 97, 115, 104]⟩ z156) (.inl ⟨rfl, rfl⟩) ?_
  refine ⟨rfl, ?_⟩
  simp (dsimp := false) only [push_cast, hP, hnt, hgw, hgb, Nat.reduceLT, Nat.reduceEqDiff, Nat.reduceAdd, Nat.reduceSub, Nat.reduceMul, Nat.reduceLeDiff, ↓reduceIte, reduceCtorEq, String.reduceEq]
  refine hK _ ?_; clear hK
  refine vwp_seq_regionG fun K hK => ?_
  simp (dsimp := false) only [push_cast, hP, hnt, hgw, hgb, Nat.reduceLT, Nat.reduceEqDiff, Nat.reduceAdd, Nat.reduceSub, Nat.reduceMul, Nat.reduceLeDiff, ↓reduceIte, reduceCtorEq, String.reduceEq]
  refine .inl (callE_intro (unread_ok gw hg ⟨#[]⟩ z158) (.inl ⟨rfl, rfl⟩) ?_)
  simp (dsimp := false) only [push_cast, hP, hnt, hgw, hgb, Nat.reduceLT, Nat.reduceEqDiff, Nat.reduceAdd, Nat.reduceSub, Nat.reduceMul, Nat.reduceLeDiff, ↓reduceIte, reduceCtorEq, String.reduceEq]
  refine guardR_may (by simp (dsimp := false) only [push_cast, hP, hnt, hgw, hgb, Nat.reduceLT, Nat.reduceEqDiff, Nat.reduceAdd, Nat.reduceSub, Nat.reduceMul, Nat.reduceLeDiff, ↓reduceIte, reduceCtorEq, String.reduceEq, List.getElem?_cons_zero, List.getElem?_cons_succ]; rfl) ?_
  simp (dsimp := false) only [push_cast, hP, hnt, hgw, hgb, Nat.reduceLT, Nat.reduceEqDiff, Nat.reduceAdd, Nat.reduceSub, Nat.reduceMul, Nat.reduceLeDiff, ↓reduceIte, reduceCtorEq, String.reduceEq]
  refine callE_intro (unread_ok gw hg ⟨#[98, 109, 99]⟩ z160) (.inl ⟨rfl, rfl⟩) ?_
  refine ⟨rfl, ?_⟩
  simp (dsimp := false) only [push_cast, hP, hnt, hgw, hgb, Nat.reduceLT, Nat.reduceEqDiff, Nat.reduceAdd, Nat.reduceSub, Nat.reduceMul, Nat.reduceLeDiff, ↓reduceIte, reduceCtorEq, String.reduceEq]
  refine guardR_may (by simp (dsimp := false) only [push_cast, hP, hnt, hgw, hgb, Nat.reduceLT, Nat.reduceEqDiff, Nat.reduceAdd, Nat.reduceSub, Nat.reduceMul, Nat.reduceLeDiff, ↓reduceIte, reduceCtorEq, String.reduceEq, List.getElem?_cons_zero, List.getElem?_cons_succ]; rfl) ?_
  simp (dsimp := false) only [push_cast, hP, hnt, hgw, hgb, Nat.reduceLT, Nat.reduceEqDiff, Nat.reduceAdd, Nat.reduceSub, Nat.reduceMul, Nat.reduceLeDiff, ↓reduceIte, reduceCtorEq, String.reduceEq]
  refine callE_intro (unread_ok gw hg ⟨#[98, 109, 99, 32, 49]⟩ z163) (.inl ⟨rfl, rfl⟩) ?_
  refine ⟨rfl, ?_⟩
  simp (dsimp := false) only [push_cast, hP, hnt, hgw, hgb, Nat.reduceLT, Nat.reduceEqDiff, Nat.reduceAdd, Nat.reduceSub, Nat.reduceMul, Nat.reduceLeDiff, ↓reduceIte, reduceCtorEq, String.reduceEq]
  refine guardR_may (by simp (dsimp := false) only [push_cast, hP, hnt, hgw, hgb, Nat.reduceLT, Nat.reduceEqDiff, Nat.reduceAdd, Nat.reduceSub, Nat.reduceMul, Nat.reduceLeDiff, ↓reduceIte, reduceCtorEq, String.reduceEq, List.getElem?_cons_zero, List.getElem?_cons_succ]; rfl) ?_
  simp (dsimp := false) only [push_cast, hP, hnt, hgw, hgb, Nat.reduceLT, Nat.reduceEqDiff, Nat.reduceAdd, Nat.reduceSub, Nat.reduceMul, Nat.reduceLeDiff, ↓reduceIte, reduceCtorEq, String.reduceEq]
  refine callE_intro (unread_ok gw hg ⟨#[98, 109, 99, 32, 49, 32, 50, 32, 51]⟩ z166) (.inl ⟨rfl, rfl⟩) ?_
  refine ⟨rfl, ?_⟩
  simp (dsimp := false) only [push_cast, hP, hnt, hgw, hgb, Nat.reduceLT, Nat.reduceEqDiff, Nat.reduceAdd, Nat.reduceSub, Nat.reduceMul, Nat.reduceLeDiff, ↓reduceIte, reduceCtorEq, String.reduceEq]
  refine guardR_may (by simp (dsimp := false) only [push_cast, hP, hnt, hgw, hgb, Nat.reduceLT, Nat.reduceEqDiff, Nat.reduceAdd, Nat.reduceSub, Nat.reduceMul, Nat.reduceLeDiff, ↓reduceIte, reduceCtorEq, String.reduceEq, List.getElem?_cons_zero, List.getElem?_cons_succ]; rfl) ?_
  simp (dsimp := false) only [push_cast, hP, hnt, hgw, hgb, Nat.reduceLT, Nat.reduceEqDiff, Nat.reduceAdd, Nat.reduceSub, Nat.reduceMul, Nat.reduceLeDiff, ↓reduceIte, reduceCtorEq, String.reduceEq]
  refine callE_intro (unread_ok gw hg ⟨#[98, 109, 99, 32, 48, 49, 32, 50]⟩ z169) (.inl ⟨rfl, rfl⟩) ?_
  refine ⟨rfl, ?_⟩
  simp (dsimp := false) only [push_cast, hP, hnt, hgw, hgb, Nat.reduceLT, Nat.reduceEqDiff, Nat.reduceAdd, Nat.reduceSub, Nat.reduceMul, Nat.reduceLeDiff, ↓reduceIte, reduceCtorEq, String.reduceEq]
  refine guardR_may (by simp (dsimp := false) only [push_cast, hP, hnt, hgw, hgb, Nat.reduceLT, Nat.reduceEqDiff, Nat.reduceAdd, Nat.reduceSub, Nat.reduceMul, Nat.reduceLeDiff, ↓reduceIte, reduceCtorEq, String.reduceEq, List.getElem?_cons_zero, List.getElem?_cons_succ]; rfl) ?_
  simp (dsimp := false) only [push_cast, hP, hnt, hgw, hgb, Nat.reduceLT, Nat.reduceEqDiff, Nat.reduceAdd, Nat.reduceSub, Nat.reduceMul, Nat.reduceLeDiff, ↓reduceIte, reduceCtorEq, String.reduceEq]
  refine callE_intro (unread_ok gw hg ⟨#[98, 109, 99, 32, 49, 48, 48, 32, 48]⟩ z172) (.inl ⟨rfl, rfl⟩) ?_
  refine ⟨rfl, ?_⟩
  simp (dsimp := false) only [push_cast, hP, hnt, hgw, hgb, Nat.reduceLT, Nat.reduceEqDiff, Nat.reduceAdd, Nat.reduceSub, Nat.reduceMul, Nat.reduceLeDiff, ↓reduceIte, reduceCtorEq, String.reduceEq]
  refine guardR_may (by simp (dsimp := false) only [push_cast, hP, hnt, hgw, hgb, Nat.reduceLT, Nat.reduceEqDiff, Nat.reduceAdd, Nat.reduceSub, Nat.reduceMul, Nat.reduceLeDiff, ↓reduceIte, reduceCtorEq, String.reduceEq, List.getElem?_cons_zero, List.getElem?_cons_succ]; rfl) ?_
  simp (dsimp := false) only [push_cast, hP, hnt, hgw, hgb, Nat.reduceLT, Nat.reduceEqDiff, Nat.reduceAdd, Nat.reduceSub, Nat.reduceMul, Nat.reduceLeDiff, ↓reduceIte, reduceCtorEq, String.reduceEq]
  refine callE_intro (unread_ok gw hg ⟨#[112, 100, 114, 32, 48, 32, 48]⟩ z175) (.inl ⟨rfl, rfl⟩) ?_
  refine ⟨rfl, ?_⟩
  simp (dsimp := false) only [push_cast, hP, hnt, hgw, hgb, Nat.reduceLT, Nat.reduceEqDiff, Nat.reduceAdd, Nat.reduceSub, Nat.reduceMul, Nat.reduceLeDiff, ↓reduceIte, reduceCtorEq, String.reduceEq]
  refine guardR_may (by simp (dsimp := false) only [push_cast, hP, hnt, hgw, hgb, Nat.reduceLT, Nat.reduceEqDiff, Nat.reduceAdd, Nat.reduceSub, Nat.reduceMul, Nat.reduceLeDiff, ↓reduceIte, reduceCtorEq, String.reduceEq, List.getElem?_cons_zero, List.getElem?_cons_succ]; rfl) ?_
  simp (dsimp := false) only [push_cast, hP, hnt, hgw, hgb, Nat.reduceLT, Nat.reduceEqDiff, Nat.reduceAdd, Nat.reduceSub, Nat.reduceMul, Nat.reduceLeDiff, ↓reduceIte, reduceCtorEq, String.reduceEq]
  refine callE_intro (unread_ok gw hg ⟨#[112, 100, 114, 32, 54, 49, 32, 48]⟩ z178) (.inl ⟨rfl, rfl⟩) ?_
  refine ⟨rfl, ?_⟩
  simp (dsimp := false) only [push_cast, hP, hnt, hgw, hgb, Nat.reduceLT, Nat.reduceEqDiff, Nat.reduceAdd, Nat.reduceSub, Nat.reduceMul, Nat.reduceLeDiff, ↓reduceIte, reduceCtorEq, String.reduceEq]
  refine guardR_may (by simp (dsimp := false) only [push_cast, hP, hnt, hgw, hgb, Nat.reduceLT, Nat.reduceEqDiff, Nat.reduceAdd, Nat.reduceSub, Nat.reduceMul, Nat.reduceLeDiff, ↓reduceIte, reduceCtorEq, String.reduceEq, List.getElem?_cons_zero, List.getElem?_cons_succ]; rfl) ?_
  simp (dsimp := false) only [push_cast, hP, hnt, hgw, hgb, Nat.reduceLT, Nat.reduceEqDiff, Nat.reduceAdd, Nat.reduceSub, Nat.reduceMul, Nat.reduceLeDiff, ↓reduceIte, reduceCtorEq, String.reduceEq]
  refine callE_intro (unread_ok gw hg ⟨#[112, 100, 114, 32, 49, 32, 49, 48, 48, 48, 48, 49]⟩ z181) (.inl ⟨rfl, rfl⟩) ?_
  refine ⟨rfl, ?_⟩
  simp (dsimp := false) only [push_cast, hP, hnt, hgw, hgb, Nat.reduceLT, Nat.reduceEqDiff, Nat.reduceAdd, Nat.reduceSub, Nat.reduceMul, Nat.reduceLeDiff, ↓reduceIte, reduceCtorEq, String.reduceEq]
  refine guardR_may (by simp (dsimp := false) only [push_cast, hP, hnt, hgw, hgb, Nat.reduceLT, Nat.reduceEqDiff, Nat.reduceAdd, Nat.reduceSub, Nat.reduceMul, Nat.reduceLeDiff, ↓reduceIte, reduceCtorEq, String.reduceEq, List.getElem?_cons_zero, List.getElem?_cons_succ]; rfl) ?_
  simp (dsimp := false) only [push_cast, hP, hnt, hgw, hgb, Nat.reduceLT, Nat.reduceEqDiff, Nat.reduceAdd, Nat.reduceSub, Nat.reduceMul, Nat.reduceLeDiff, ↓reduceIte, reduceCtorEq, String.reduceEq]
  refine callE_intro (unread_ok gw hg ⟨#[115, 97, 116, 32, 49, 32, 49]⟩ z184) (.inl ⟨rfl, rfl⟩) ?_
  refine ⟨rfl, ?_⟩
  simp (dsimp := false) only [push_cast, hP, hnt, hgw, hgb, Nat.reduceLT, Nat.reduceEqDiff, Nat.reduceAdd, Nat.reduceSub, Nat.reduceMul, Nat.reduceLeDiff, ↓reduceIte, reduceCtorEq, String.reduceEq]
  refine guardR_may (by simp (dsimp := false) only [push_cast, hP, hnt, hgw, hgb, Nat.reduceLT, Nat.reduceEqDiff, Nat.reduceAdd, Nat.reduceSub, Nat.reduceMul, Nat.reduceLeDiff, ↓reduceIte, reduceCtorEq, String.reduceEq, List.getElem?_cons_zero, List.getElem?_cons_succ]; rfl) ?_
  simp (dsimp := false) only [push_cast, hP, hnt, hgw, hgb, Nat.reduceLT, Nat.reduceEqDiff, Nat.reduceAdd, Nat.reduceSub, Nat.reduceMul, Nat.reduceLeDiff, ↓reduceIte, reduceCtorEq, String.reduceEq]
  refine callE_intro (unread_ok gw hg ⟨#[98, 109, 99, 32, 45, 49, 32, 48]⟩ z187) (.inl ⟨rfl, rfl⟩) ?_
  refine ⟨rfl, ?_⟩
  simp (dsimp := false) only [push_cast, hP, hnt, hgw, hgb, Nat.reduceLT, Nat.reduceEqDiff, Nat.reduceAdd, Nat.reduceSub, Nat.reduceMul, Nat.reduceLeDiff, ↓reduceIte, reduceCtorEq, String.reduceEq]
  refine guardR_may (by simp (dsimp := false) only [push_cast, hP, hnt, hgw, hgb, Nat.reduceLT, Nat.reduceEqDiff, Nat.reduceAdd, Nat.reduceSub, Nat.reduceMul, Nat.reduceLeDiff, ↓reduceIte, reduceCtorEq, String.reduceEq, List.getElem?_cons_zero, List.getElem?_cons_succ]; rfl) ?_
  simp (dsimp := false) only [push_cast, hP, hnt, hgw, hgb, Nat.reduceLT, Nat.reduceEqDiff, Nat.reduceAdd, Nat.reduceSub, Nat.reduceMul, Nat.reduceLeDiff, ↓reduceIte, reduceCtorEq, String.reduceEq]
  refine callE_intro (unread_ok gw hg ⟨#[98, 109, 99, 32, 32, 49, 32, 48]⟩ z190) (.inl ⟨rfl, rfl⟩) ?_
  refine ⟨rfl, ?_⟩
  simp (dsimp := false) only [push_cast, hP, hnt, hgw, hgb, Nat.reduceLT, Nat.reduceEqDiff, Nat.reduceAdd, Nat.reduceSub, Nat.reduceMul, Nat.reduceLeDiff, ↓reduceIte, reduceCtorEq, String.reduceEq]
  refine guardR_may (by simp (dsimp := false) only [push_cast, hP, hnt, hgw, hgb, Nat.reduceLT, Nat.reduceEqDiff, Nat.reduceAdd, Nat.reduceSub, Nat.reduceMul, Nat.reduceLeDiff, ↓reduceIte, reduceCtorEq, String.reduceEq, List.getElem?_cons_zero, List.getElem?_cons_succ]; rfl) ?_
  simp (dsimp := false) only [push_cast, hP, hnt, hgw, hgb, Nat.reduceLT, Nat.reduceEqDiff, Nat.reduceAdd, Nat.reduceSub, Nat.reduceMul, Nat.reduceLeDiff, ↓reduceIte, reduceCtorEq, String.reduceEq]
  refine callE_intro (unread_ok gw hg ⟨#[98, 109, 99, 32, 49, 32, 48, 32]⟩ z193) (.inl ⟨rfl, rfl⟩) ?_
  refine ⟨rfl, ?_⟩
  simp (dsimp := false) only [push_cast, hP, hnt, hgw, hgb, Nat.reduceLT, Nat.reduceEqDiff, Nat.reduceAdd, Nat.reduceSub, Nat.reduceMul, Nat.reduceLeDiff, ↓reduceIte, reduceCtorEq, String.reduceEq]
  refine hK _ ?_; clear hK
  refine vwp_seq_region rfl fun K hK => ?_
  simp (dsimp := false) only [push_cast, hP, hnt, hgw, hgb, Nat.reduceLT, Nat.reduceEqDiff, Nat.reduceAdd, Nat.reduceSub, Nat.reduceMul, Nat.reduceLeDiff, ↓reduceIte, reduceCtorEq, String.reduceEq]
  refine hK _ ?_; clear hK
  refine vwp_seq_region rfl fun K hK => ?_
  simp (dsimp := false) only [push_cast, hP, hnt, hgw, hgb, Nat.reduceLT, Nat.reduceEqDiff, Nat.reduceAdd, Nat.reduceSub, Nat.reduceMul, Nat.reduceLeDiff, ↓reduceIte, reduceCtorEq, String.reduceEq]
  refine hK _ ?_; clear hK
  refine vwp_seq_region rfl fun K hK => ?_
  simp (dsimp := false) only [push_cast, hP, hnt, hgw, hgb, Nat.reduceLT, Nat.reduceEqDiff, Nat.reduceAdd, Nat.reduceSub, Nat.reduceMul, Nat.reduceLeDiff, ↓reduceIte, reduceCtorEq, String.reduceEq]
  refine hK _ ?_; clear hK
  refine vwp_seq_anyF [[], [], [], [], [3], [], [5], [], [7], [], [9], [], [11], [], [13], [], [15], [], [17], [17, 18], [], [20], [20, 21], [20, 21, 22], [], [24], [24, 25], [24, 25, 26], [24, 25, 26, 27], [0, 1, 2, 3, 4, 5, 6, 7, 8, 9, 10, 11, 12, 13, 14, 15, 16, 17, 18, 19, 20, 21, 22, 23, 24, 25, 26, 27, 28], [0, 1, 2, 3, 4, 5, 6, 7, 8, 9, 10, 11, 12, 13, 14, 15, 16, 17, 18, 19, 20, 21, 22, 23, 24, 25, 26, 27, 28, 29]] [([(203, .dead), (204, .dead), (205, .dead), (206, .dead), (207, .dead), (208, .dead), (209, .dead), (210, .dead), (211, .dead), (212, .dead), (213, .dead), (214, .dead), (215, .dead), (216, .dead), (217, .dead), (218, .dead), (219, .dead), (220, .dead), (221, .dead), (222, .dead), (223, .dead), (224, .dead), (225, .dead), (226, .dead), (227, .dead), (228, .dead), (229, .dead), (230, .dead), (231, .dead), (232, .old), (10, .old)], [204, 205, 206, 207, 208, 209, 210, 211, 212, 213, 214, 215, 216, 217, 218, 219, 220, 221, 222, 223, 224, 225, 226, 227, 228, 229, 230, 231, 232, 10], []), ([(203, .dead), (204, .dead), (205, .dead), (206, .dead), (207, .dead), (208, .dead), (209, .dead), (210, .dead), (211, .dead), (212, .dead), (213, .dead), (214, .dead), (215, .dead), (216, .dead), (217, .dead), (218, .dead), (219, .dead), (220, .dead), (221, .dead), (222, .dead), (223, .dead), (224, .dead), (225, .dead), (226, .dead), (227, .dead), (228, .dead), (229, .dead), (230, .dead), (231, .dead), (232, .old), (10, .old)], [203, 205, 206, 207, 208, 209, 210, 211, 212, 213, 214, 215, 216, 217, 218, 219, 220, 221, 222, 223, 224, 225, 226, 227, 228, 229, 230, 231, 232, 10], []), ([(203, .dead), (204, .dead), (205, .dead), (206, .dead), (207, .dead), (208, .dead), (209, .dead), (210, .dead), (211, .dead), (212, .dead), (213, .dead), (214, .dead), (215, .dead), (216, .dead), (217, .dead), (218, .dead), (219, .dead), (220, .dead), (221, .dead), (222, .dead), (223, .dead), (224, .dead), (225, .dead), (226, .dead), (227, .dead), (228, .dead), (229, .dead), (230, .dead), (231, .dead), (232, .old), (10, .old)], [203, 204, 206, 207, 208, 209, 210, 211, 212, 213, 214, 215, 216, 217, 218, 219, 220, 221, 222, 223, 224, 225, 226, 227, 228, 229, 230, 231, 232, 10], []), ([(203, .dead), (204, .dead), (205, .dead), (206, .dead), (207, .old), (208, .dead), (209, .dead), (210, .dead), (211, .dead), (212, .dead), (213, .dead), (214, .dead), (215, .dead), (216, .dead), (217, .dead), (218, .dead), (219, .dead), (220, .dead), (221, .dead), (222, .dead), (223, .dead), (224, .dead), (225, .dead), (226, .dead), (227, .dead), (228, .dead), (229, .dead), (230, .dead), (231, .dead), (232, .old), (10, .old)], [203, 204, 205, 207, 208, 209, 210, 211, 212, 213, 214, 215, 216, 217, 218, 219, 220, 221, 222, 223, 224, 225, 226, 227, 228, 229, 230, 231, 232, 10], []), ([(203, .dead), (204, .dead), (205, .dead), (206, .dep 0), (207, .dead), (208, .dead), (209, .dead), (210, .dead), (211, .dead), (212, .dead), (213, .dead), (214, .dead), (215, .dead), (216, .dead), (217, .dead), (218, .dead), (219, .dead), (220, .dead), (221, .dead), (222, .dead), (223, .dead), (224, .dead), (225, .dead), (226, .dead), (227, .dead), (228, .dead), (229, .dead), (230, .dead), (231, .dead), (232, .old), (10, .old)], [203, 204, 205, 208, 209, 210, 211, 212, 213, 214, 215, 216, 217, 218, 219, 220, 221, 222, 223, 224, 225, 226, 227, 228, 229, 230, 231, 232, 10], [0]), ([(203, .dead), (204, .dead), (205, .dead), (206, .dead), (207, .dead), (208, .dead), (209, .old), (210, .dead), (211, .dead), (212, .dead), (213, .dead), (214, .dead), (215, .dead), (216, .dead), (217, .dead), (218, .dead), (219, .dead), (220, .dead), (221, .dead), (222, .dead), (223, .dead), (224, .dead), (225, .dead), (226, .dead), (227, .dead), (228, .dead), (229, .dead), (230, .dead), (231, .dead), (232, .old), (10, .old)], [203, 204, 205, 206, 207, 209, 210, 211, 212, 213, 214, 215, 216, 217, 218, 219, 220, 221, 222, 223, 224, 225, 226, 227, 228, 229, 230, 231, 232, 10], []), ([(203, .dead), (204, .dead), (205, .dead), (206, .dead), (207, .dead), (208, .dep 0), (209, .dead), (210, .dead), (211, .dead), (212, .dead), (213, .dead), (214, .dead), (215, .dead), (216, .dead), (217, .dead), (218, .dead), (219, .dead), (220, .dead), (221, .dead), (222, .dead), (223, .dead), (224, .dead), (225, .dead), (226, .dead), (227, .dead), (228, .dead), (229, .dead), (230, .dead), (231, .dead), (232, .old), (10, .old)], [203, 204, 205, 206, 207, 210, 211, 212, 213, 214, 215, 216, 217, 218, 219, 220, 221, 222, 223, 224, 225, 226, 227, 228, 229, 230, 231, 232, 10], [0]), ([(203, .dead), (204, .dead), (205, .dead), (206, .dead), (207, .dead), (208, .dead), (209, .dead), (210, .dead), (211, .old), (212, .dead), (213, .dead), (214, .dead), (215, .dead), (216, .dead), (217, .dead), (218, .dead), (219, .dead), (220, .dead), (221, .dead), (222, .dead), (223, .dead), (224, .dead), (225, .dead), (226, .dead), (227, .dead), (228, .dead), (229, .dead), (230, .dead), (231, .dead), (232, .old), (10, .old)], [203, 204, 205, 206, 207, 208, 209, 211, 212, 213, 214, 215, 216, 217, 218, 219, 220, 221, 222, 223, 224, 225, 226, 227, 228, 229, 230, 231, 232, 10], []), ([(203, .dead), (204, .dead), (205, .dead), (206, .dead), (207, .dead), (208, .dead), (209, .dead), (210, .dep 0), (211, .dead), (212, .dead), (213, .dead), (214, .dead), (215, .dead), (216, .dead), (217, .dead), (218, .dead), (219, .dead), (220, .dead), (221, .dead), (222, .dead), (223, .dead), (224, .dead), (225, .dead), (226, .dead), (227, .dead), (228, .dead), (229, .dead), (230, .dead), (231, .dead), (232, .old), (10, .old)], [203, 204, 205, 206, 207, 208, 209, 212, 213, 214, 215, 216, 217, 218, 219, 220, 221, 222, 223, 224, 225, 226, 227, 228, 229, 230, 231, 232, 10], [0]), ([(203, .dead), (204, .dead), (205, .dead), (206, .dead), (207, .dead), (208, .dead), (209, .dead), (210, .dead), (211, .dead), (212, .dead), (213, .old), (214, .dead), (215, .dead), (216, .dead), (217, .dead), (218, .dead), (219, .dead), (220, .dead), (221, .dead), (222, .dead), (223, .dead), (224, .dead), (225, .dead), (226, .dead), (227, .dead), (228, .dead), (229, .dead), (230, .dead), (231, .dead), (232, .old), (10, .old)], [203, 204, 205, 206, 207, 208, 209, 210, 211, 213, 214, 215, 216, 217, 218, 219, 220, 221, 222, 223, 224, 225, 226, 227, 228, 229, 230, 231, 232, 10], []), ([(203, .dead), (204, .dead), (205, .dead), (206, .dead), (207, .dead), (208, .dead), (209, .dead), (210, .dead), (211, .dead), (212, .dep 0), (213, .dead), (214, .dead), (215, .dead), (216, .dead), (217, .dead), (218, .dead), (219, .dead), (220, .dead), (221, .dead), (222, .dead), (223, .dead), (224, .dead), (225, .dead), (226, .dead), (227, .dead), (228, .dead), (229, .dead), (230, .dead), (231, .dead), (232, .old), (10, .old)], [203, 204, 205, 206, 207, 208, 209, 210, 211, 214, 215, 216, 217, 218, 219, 220, 221, 222, 223, 224, 225, 226, 227, 228, 229, 230, 231, 232, 10], [0]), ([(203, .dead), (204, .dead), (205, .dead), (206, .dead), (207, .dead), (208, .dead), (209, .dead), (210, .dead), (211, .dead), (212, .dead), (213, .dead), (214, .dead), (215, .old), (216, .dead), (217, .dead), (218, .dead), (219, .dead), (220, .dead), (221, .dead), (222, .dead), (223, .dead), (224, .dead), (225, .dead), (226, .dead), (227, .dead), (228, .dead), (229, .dead), (230, .dead), (231, .dead), (232, .old), (10, .old)], [203, 204, 205, 206, 207, 208, 209, 210, 211, 212, 213, 215, 216, 217, 218, 219, 220, 221, 222, 223, 224, 225, 226, 227, 228, 229, 230, 231, 232, 10], []), ([(203, .dead), (204, .dead), (205, .dead), (206, .dead), (207, .dead), (208, .dead), (209, .dead), (210, .dead), (211, .dead), (212, .dead), (213, .dead), (214, .dep 0), (215, .dead), (216, .dead), (217, .dead), (218, .dead), (219, .dead), (220, .dead), (221, .dead), (222, .dead), (223, .dead), (224, .dead), (225, .dead), (226, .dead), (227, .dead), (228, .dead), (229, .dead), (230, .dead), (231, .dead), (232, .old), (10, .old)], [203, 204, 205, 206, 207, 208, 209, 210, 211, 212, 213, 216, 217, 218, 219, 220, 221, 222, 223, 224, 225, 226, 227, 228, 229, 230, 231, 232, 10], [0]), ([(203, .dead), (204, .dead), (205, .dead), (206, .dead), (207, .dead), (208, .dead), (209, .dead), (210, .dead), (211, .dead), (212, .dead), (213, .dead), (214, .dead), (215, .dead), (216, .dead), (217, .old), (218, .dead), (219, .dead), (220, .dead), (221, .dead), (222, .dead), (223, .dead), (224, .dead), (225, .dead), (226, .dead), (227, .dead), (228, .dead), (229, .dead), (230, .dead), (231, .dead), (232, .old), (10, .old)], [203, 204, 205, 206, 207, 208, 209, 210, 211, 212, 213, 214, 215, 217, 218, 219, 220, 221, 222, 223, 224, 225, 226, 227, 228, 229, 230, 231, 232, 10], []), ([(203, .dead), (204, .dead), (205, .dead), (206, .dead), (207, .dead), (208, .dead), (209, .dead), (210, .dead), (211, .dead), (212, .dead), (213, .dead), (214, .dead), (215, .dead), (216, .dep 0), (217, .dead), (218, .dead), (219, .dead), (220, .dead), (221, .dead), (222, .dead), (223, .dead), (224, .dead), (225, .dead), (226, .dead), (227, .dead), (228, .dead), (229, .dead), (230, .dead), (231, .dead), (232, .old), (10, .old)], [203, 204, 205, 206, 207, 208, 209, 210, 211, 212, 213, 214, 215, 218, 219, 220, 221, 222, 223, 224, 225, 226, 227, 228, 229, 230, 231, 232, 10], [0]), ([(203, .dead), (204, .dead), (205, .dead), (206, .dead), (207, .dead), (208, .dead), (209, .dead), (210, .dead), (211, .dead), (212, .dead), (213, .dead), (214, .dead), (215, .dead), (216, .dead), (217, .dead), (218, .dead), (219, .old), (220, .dead), (221, .dead), (222, .dead), (223, .dead), (224, .dead), (225, .dead), (226, .dead), (227, .dead), (228, .dead), (229, .dead), (230, .dead), (231, .dead), (232, .old), (10, .old)], [203, 204, 205, 206, 207, 208, 209, 210, 211, 212, 213, 214, 215, 216, 217, 219, 220, 221, 222, 223, 224, 225, 226, 227, 228, 229, 230, 231, 232, 10], []), ([(203, .dead), (204, .dead), (205, .dead), (206, .dead), (207, .dead), (208, .dead), (209, .dead), (210, .dead), (211, .dead), (212, .dead), (213, .dead), (214, .dead), (215, .dead), (216, .dead), (217, .dead), (218, .dep 0), (219, .dead), (220, .dead), (221, .dead), (222, .dead), (223, .dead), (224, .dead), (225, .dead), (226, .dead), (227, .dead), (228, .dead), (229, .dead), (230, .dead), (231, .dead), (232, .old), (10, .old)], [203, 204, 205, 206, 207, 208, 209, 210, 211, 212, 213, 214, 215, 216, 217, 220, 221, 222, 223, 224, 225, 226, 227, 228, 229, 230, 231, 232, 10], [0]), ([(203, .dead), (204, .dead), (205, .dead), (206, .dead), (207, .dead), (208, .dead), (209, .dead), (210, .dead), (211, .dead), (212, .dead), (213, .dead), (214, .dead), (215, .dead), (216, .dead), (217, .dead), (218, .dead), (219, .dead), (220, .dead), (221, .old), (222, .old), (223, .dead), (224, .dead), (225, .dead), (226, .dead), (227, .dead), (228, .dead), (229, .dead), (230, .dead), (231, .dead), (232, .old), (10, .old)], [203, 204, 205, 206, 207, 208, 209, 210, 211, 212, 213, 214, 215, 216, 217, 218, 219, 221, 222, 223, 224, 225, 226, 227, 228, 229, 230, 231, 232, 10], []), ([(203, .dead), (204, .dead), (205, .dead), (206, .dead), (207, .dead), (208, .dead), (209, .dead), (210, .dead), (211, .dead), (212, .dead), (213, .dead), (214, .dead), (215, .dead), (216, .dead), (217, .dead), (218, .dead), (219, .dead), (220, .dep 0), (221, .dead), (222, .old), (223, .dead), (224, .dead), (225, .dead), (226, .dead), (227, .dead), (228, .dead), (229, .dead), (230, .dead), (231, .dead), (232, .old), (10, .old)], [203, 204, 205, 206, 207, 208, 209, 210, 211, 212, 213, 214, 215, 216, 217, 218, 219, 222, 223, 224, 225, 226, 227, 228, 229, 230, 231, 232, 10], [0]), ([(203, .dead), (204, .dead), (205, .dead), (206, .dead), (207, .dead), (208, .dead), (209, .dead), (210, .dead), (211, .dead), (212, .dead), (213, .dead), (214, .dead), (215, .dead), (216, .dead), (217, .dead), (218, .dead), (219, .dead), (220, .dep 1), (221, .dep 0), (222, .dead), (223, .dead), (224, .dead), (225, .dead), (226, .dead), (227, .dead), (228, .dead), (229, .dead), (230, .dead), (231, .dead), (232, .old), (10, .old)], [203, 204, 205, 206, 207, 208, 209, 210, 211, 212, 213, 214, 215, 216, 217, 218, 219, 223, 224, 225, 226, 227, 228, 229, 230, 231, 232, 10], [1, 0]), ([(203, .dead), (204, .dead), (205, .dead), (206, .dead), (207, .dead), (208, .dead), (209, .dead), (210, .dead), (211, .dead), (212, .dead), (213, .dead), (214, .dead), (215, .dead), (216, .dead), (217, .dead), (218, .dead), (219, .dead), (220, .dead), (221, .dead), (222, .dead), (223, .dead), (224, .old), (225, .old), (226, .old), (227, .dead), (228, .dead), (229, .dead), (230, .dead), (231, .dead), (232, .old), (10, .old)], [203, 204, 205, 206, 207, 208, 209, 210, 211, 212, 213, 214, 215, 216, 217, 218, 219, 220, 221, 222, 224, 225, 226, 227, 228, 229, 230, 231, 232, 10], []), ([(203, .dead), (204, .dead), (205, .dead), (206, .dead), (207, .dead), (208, .dead), (209, .dead), (210, .dead), (211, .dead), (212, .dead), (213, .dead), (214, .dead), (215, .dead), (216, .dead), (217, .dead), (218, .dead), (219, .dead), (220, .dead), (221, .dead), (222, .dead), (223, .dep 0), (224, .dead), (225, .old), (226, .old), (227, .dead), (228, .dead), (229, .dead), (230, .dead), (231, .dead), (232, .old), (10, .old)], [203, 204, 205, 206, 207, 208, 209, 210, 211, 212, 213, 214, 215, 216, 217, 218, 219, 220, 221, 222, 225, 226, 227, 228, 229, 230, 231, 232, 10], [0]), ([(203, .dead), (204, .dead), (205, .dead), (206, .dead), (207, .dead), (208, .dead), (209, .dead), (210, .dead), (211, .dead), (212, .dead), (213, .dead), (214, .dead), (215, .dead), (216, .dead), (217, .dead), (218, .dead), (219, .dead), (220, .dead), (221, .dead), (222, .dead), (223, .dep 1), (224, .dep 0), (225, .dead), (226, .old), (227, .dead), (228, .dead), (229, .dead), (230, .dead), (231, .dead), (232, .old), (10, .old)], [203, 204, 205, 206, 207, 208, 209, 210, 211, 212, 213, 214, 215, 216, 217, 218, 219, 220, 221, 222, 226, 227, 228, 229, 230, 231, 232, 10], [1, 0]), ([(203, .dead), (204, .dead), (205, .dead), (206, .dead), (207, .dead), (208, .dead), (209, .dead), (210, .dead), (211, .dead), (212, .dead), (213, .dead), (214, .dead), (215, .dead), (216, .dead), (217, .dead), (218, .dead), (219, .dead), (220, .dead), (221, .dead), (222, .dead), (223, .dep 2), (224, .dep 1), (225, .dep 0), (226, .dead), (227, .dead), (228, .dead), (229, .dead), (230, .dead), (231, .dead), (232, .old), (10, .old)], [203, 204, 205, 206, 207, 208, 209, 210, 211, 212, 213, 214, 215, 216, 217, 218, 219, 220, 221, 222, 227, 228, 229, 230, 231, 232, 10], [2, 1, 0]), ([(203, .dead), (204, .dead), (205, .dead), (206, .dead), (207, .dead), (208, .dead), (209, .dead), (210, .dead), (211, .dead), (212, .dead), (213, .dead), (214, .dead), (215, .dead), (216, .dead), (217, .dead), (218, .dead), (219, .dead), (220, .dead), (221, .dead), (222, .dead), (223, .dead), (224, .dead), (225, .dead), (226, .dead), (227, .dead), (228, .old), (229, .old), (230, .old), (231, .old), (232, .old), (10, .old)], [203, 204, 205, 206, 207, 208, 209, 210, 211, 212, 213, 214, 215, 216, 217, 218, 219, 220, 221, 222, 223, 224, 225, 226, 228, 229, 230, 231, 232, 10], []), ([(203, .dead), (204, .dead), (205, .dead), (206, .dead), (207, .dead), (208, .dead), (209, .dead), (210, .dead), (211, .dead), (212, .dead), (213, .dead), (214, .dead), (215, .dead), (216, .dead), (217, .dead), (218, .dead), (219, .dead), (220, .dead), (221, .dead), (222, .dead), (223, .dead), (224, .dead), (225, .dead), (226, .dead), (227, .dep 0), (228, .dead), (229, .old), (230, .old), (231, .old), (232, .old), (10, .old)], [203, 204, 205, 206, 207, 208, 209, 210, 211, 212, 213, 214, 215, 216, 217, 218, 219, 220, 221, 222, 223, 224, 225, 226, 229, 230, 231, 232, 10], [0]), ([(203, .dead), (204, .dead), (205, .dead), (206, .dead), (207, .dead), (208, .dead), (209, .dead), (210, .dead), (211, .dead), (212, .dead), (213, .dead), (214, .dead), (215, .dead), (216, .dead), (217, .dead), (218, .dead), (219, .dead), (220, .dead), (221, .dead), (222, .dead), (223, .dead), (224, .dead), (225, .dead), (226, .dead), (227, .dep 1), (228, .dep 0), (229, .dead), (230, .old), (231, .old), (232, .old), (10, .old)], [203, 204, 205, 206, 207, 208, 209, 210, 211, 212, 213, 214, 215, 216, 217, 218, 219, 220, 221, 222, 223, 224, 225, 226, 230, 231, 232, 10], [1, 0]), ([(203, .dead), (204, .dead), (205, .dead), (206, .dead), (207, .dead), (208, .dead), (209, .dead), (210, .dead), (211, .dead), (212, .dead), (213, .dead), (214, .dead), (215, .dead), (216, .dead), (217, .dead), (218, .dead), (219, .dead), (220, .dead), (221, .dead), (222, .dead), (223, .dead), (224, .dead), (225, .dead), (226, .dead), (227, .dep 2), (228, .dep 1), (229, .dep 0), (230, .dead), (231, .old), (232, .old), (10, .old)], [203, 204, 205, 206, 207, 208, 209, 210, 211, 212, 213, 214, 215, 216, 217, 218, 219, 220, 221, 222, 223, 224, 225, 226, 231, 232, 10], [2, 1, 0]), ([(203, .dead), (204, .dead), (205, .dead), (206, .dead), (207, .dead), (208, .dead), (209, .dead), (210, .dead), (211, .dead), (212, .dead), (213, .dead), (214, .dead), (215, .dead), (216, .dead), (217, .dead), (218, .dead), (219, .dead), (220, .dead), (221, .dead), (222, .dead), (223, .dead), (224, .dead), (225, .dead), (226, .dead), (227, .dep 3), (228, .dep 2), (229, .dep 1), (230, .dep 0), (231, .dead), (232, .old), (10, .old)], [203, 204, 205, 206, 207, 208, 209, 210, 211, 212, 213, 214, 215, 216, 217, 218, 219, 220, 221, 222, 223, 224, 225, 226, 232, 10], [3, 2, 1, 0]), ([(203, .dep 28), (204, .dep 27), (205, .dep 26), (206, .dep 25), (207, .dep 24), (208, .dep 23), (209, .dep 22), (210, .dep 21), (211, .dep 20), (212, .dep 19), (213, .dep 18), (214, .dep 17), (215, .dep 16), (216, .dep 15), (217, .dep 14), (218, .dep 13), (219, .dep 12), (220, .dep 11), (221, .dep 10), (222, .dep 9), (223, .dep 8), (224, .dep 7), (225, .dep 6), (226, .dep 5), (227, .dep 4), (228, .dep 3), (229, .dep 2), (230, .dep 1), (231, .dep 0), (232, .dead), (10, .old)], [10], [28, 27, 26, 25, 24, 23, 22, 21, 20, 19, 18, 17, 16, 15, 14, 13, 12, 11, 10, 9, 8, 7, 6, 5, 4, 3, 2, 1, 0]), ([(203, .dep 29), (204, .dep 28), (205, .dep 27), (206, .dep 26), (207, .dep 25), (208, .dep 24), (209, .dep 23), (210, .dep 22), (211, .dep 21), (212, .dep 20), (213, .dep 19), (214, .dep 18), (215, .dep 17), (216, .dep 16), (217, .dep 15), (218, .dep 14), (219, .dep 13), (220, .dep 12), (221, .dep 11), (222, .dep 10), (223, .dep 9), (224, .dep 8), (225, .dep 7), (226, .dep 6), (227, .dep 5), (228, .dep 4), (229, .dep 3), (230, .dep 2), (231, .dep 1), (232, .dep 0), (10, .dead)], [], [29, 28, 27, 26, 25, 24, 23, 22, 21, 20, 19, 18, 17, 16, 15, 14, 13, 12, 11, 10, 9, 8, 7, 6, 5, 4, 3, 2, 1, 0])] (by rw [hP]; exact mixed) rfl rfl rfl fun K hK => ?_
  simp (dsimp := false) only [push_cast, hP, hnt, hgw, hgb, Nat.reduceLT, Nat.reduceEqDiff, Nat.reduceAdd, Nat.reduceSub, Nat.reduceMul, Nat.reduceLeDiff, ↓reduceIte, reduceCtorEq, String.reduceEq, Nat.reduceBNe, Nat.reduceBEq]
  refine ⟨rfl, ?_⟩
  refine hK _ ?_; clear hK
  refine vwp_seq fun K hK => ?_
  refine vwp_seq_region rfl fun K hK => ?_
  simp (dsimp := false) only [push_cast, hP, hnt, hgw, hgb, Nat.reduceLT, Nat.reduceEqDiff, Nat.reduceAdd, Nat.reduceSub, Nat.reduceMul, Nat.reduceLeDiff, ↓reduceIte, reduceCtorEq, String.reduceEq]
  refine hK _ ?_; clear hK
  refine vwp_block ?_
  refine vwp_loop (fun m σ => ∃ (i : Int), m = (badsL.length - i).toNat ∧ ((0 ≤ i) ∧ (i ≤ badsL.length)) ∧ σ = St.of [(3, .one (.c (.bool true))), (4, .one (.c (.bool true))), (5, .one (.c (.bool true))), (6, .one (.c (.bool true))), (10, .one (.own (233, 0))), (11, .one (.c (.int .i64 i)))] [((233, 0), rowV badsL)] [232]) _ ⟨_, ?_, 0, rfl, ?_, rfl⟩ ?_
  · refine wk_conv [(196, 0), (197, 0), (199, 0), (201, 0), (202, 0), (224, 0), (229, 0)] [((233, 0), (233, 0))] (by simp) (by simp) (by decide) ?_ ?_
    · refine hf_cons (by simp (dsimp := false) only [push_cast, ↓reduceIte, Nat.reduceEqDiff, Nat.reduceAdd, reduceCtorEq, String.reduceEq] <;> rfl) (by exact ConvV.self rfl) ?_
      refine hf_cons (by simp (dsimp := false) only [push_cast, ↓reduceIte, Nat.reduceEqDiff, Nat.reduceAdd, reduceCtorEq, String.reduceEq] <;> rfl) (by exact ConvV.self rfl) ?_
      refine hf_cons (by simp (dsimp := false) only [push_cast, ↓reduceIte, Nat.reduceEqDiff, Nat.reduceAdd, reduceCtorEq, String.reduceEq] <;> rfl) (by exact ConvV.self rfl) ?_
      refine hf_cons (by simp (dsimp := false) only [push_cast, ↓reduceIte, Nat.reduceEqDiff, Nat.reduceAdd, reduceCtorEq, String.reduceEq] <;> rfl) (by exact ConvV.self rfl) ?_
      refine hf_cons (by simp (dsimp := false) only [push_cast, ↓reduceIte, Nat.reduceEqDiff, Nat.reduceAdd, reduceCtorEq, String.reduceEq] <;> rfl) (by exact .one (.own (by simp))) ?_
      refine hf_cons (by simp (dsimp := false) only [push_cast, ↓reduceIte, Nat.reduceEqDiff, Nat.reduceAdd, reduceCtorEq, String.reduceEq] <;> rfl) (by exact ConvV.self rfl) ?_
      exact hf_nil
    · refine hh_cons (i := (233, 0)) (by simp) (by simp) (by simp (dsimp := false) only [push_cast, ↓reduceIte, Nat.reduceEqDiff, Nat.reduceAdd, reduceCtorEq, String.reduceEq] <;> rfl) (by simp only [rowV, badsL, List.flatMap_cons, List.flatMap_nil, List.cons_append, List.nil_append, List.length_replicate, List.length_cons, List.length_nil, List.map_cons, List.map_nil, Nat.reduceAdd]; exact ConvB.arr (by repeat (first | exact ConvL.nil | exact rz_b _ | exact rz_n _ | exact rz_a _ | refine ConvL.cons ?_ ?_ | exact Conv.free rfl | exact Conv.nil | refine Conv.frz (by simp) (by first | (simp (dsimp := false) only [push_cast, hP, hnt, hgw, hgb, Nat.reduceLT, Nat.reduceEqDiff, Nat.reduceAdd, Nat.reduceSub, Nat.reduceMul, Nat.reduceLeDiff, ↓reduceIte, reduceCtorEq, String.reduceEq]; rfl) | (simp (dsimp := false) only [push_cast, hP, hnt, hgw, hgb, Nat.reduceLT, Nat.reduceEqDiff, Nat.reduceAdd, Nat.reduceSub, Nat.reduceMul, Nat.reduceLeDiff, ↓reduceIte, reduceCtorEq, String.reduceEq]; done)) ?_))) ?_
      exact hh_nil
  · exact ⟨by omega, by rw [bads_len]; omega⟩
  · rintro m τ ⟨i, hm, ⟨hi0, hi1⟩, rfl⟩ K hL0
    have hbl := bads_len
    have hw := fun h : i < (badsL.length : Int) => wrap_next hi0 h (by omega)
    have hd := fun h : i < (badsL.length : Int) => dropI_seven (l := badsL) (fun v : Ver => PC.c (Value.int .u8 v.kind)) (fun v : Ver => PC.sl true v.first.length (v.first.map fun b => PC.c (Value.bool b))) (fun v : Ver => PC.sl true v.inputs.length (v.inputs.map fun l => PC.sl true l.length (l.map fun b => PC.c (Value.bool b)))) (fun v : Ver => PC.c (Value.int .i64 v.skip)) (fun v : Ver => PC.c (Value.int .i64 v.phases)) (fun v : Ver => PC.sl true v.ands.length (v.ands.flatMap fun g => [PC.c (Value.int .i64 g.1), PC.c (Value.int .i64 g.2)])) (fun v : Ver => PC.c (Value.int .i64 v.lit)) hi0 h
    refine vwp_seq fun K hK => ?_
    refine vwp_seq_region rfl fun K hK => ?_
    simp (dsimp := false) only [push_cast, hP, hnt, hgw, hgb, Nat.reduceLT, Nat.reduceEqDiff, Nat.reduceAdd, Nat.reduceSub, Nat.reduceMul, Nat.reduceLeDiff, ↓reduceIte, reduceCtorEq, String.reduceEq, hi0, rowV]
    refine hK _ ?_; clear hK
    refine vwp_cond (b := _) (by simp (dsimp := false) only [push_cast, hP, hnt, hgw, hgb, Nat.reduceLT, Nat.reduceEqDiff, Nat.reduceAdd, Nat.reduceSub, Nat.reduceMul, Nat.reduceLeDiff, ↓reduceIte, reduceCtorEq, String.reduceEq, hi0, rowV]; rfl) (fun rb0 => ?_) (fun rb0 => ?_)
    · have hb0 := rb0
      try simp only [beq_iff_eq, bne_iff_ne, ne_eq, bne_eq_false_iff_eq, beq_eq_false_iff_ne, decide_eq_true_eq, decide_eq_false_iff_not, Bool.not_eq_true', Bool.not_eq_false', Bool.or_eq_true, Bool.and_eq_true, Bool.or_eq_false_iff, Bool.and_eq_false_iff] at hb0
      have hw := hw hb0
      have hd := hd hb0
      have hbi := hb0
      have hfb := bads_fit' hi0 hb0
      refine vwp_skip ?_
      apply_assumption
      refine vwp_seq fun K hK => ?_
      refine vwp_block ?_
      refine vwp_seq_region rfl fun K hK => ?_
      simp (dsimp := false) only [push_cast, hP, hnt, hgw, hgb, Nat.reduceLT, Nat.reduceEqDiff, Nat.reduceAdd, Nat.reduceSub, Nat.reduceMul, Nat.reduceLeDiff, ↓reduceIte, reduceCtorEq, String.reduceEq, hi0, rowV, hw, hd, hb0]
      refine .inl (callE_intro (verdict_call gw hg (atI badsL i) hfb) (.inl ⟨rfl, rfl⟩) ?_)
      simp (dsimp := false) only [push_cast, hP, hnt, hgw, hgb, Nat.reduceLT, Nat.reduceEqDiff, Nat.reduceAdd, Nat.reduceSub, Nat.reduceMul, Nat.reduceLeDiff, ↓reduceIte, reduceCtorEq, String.reduceEq, hi0, rowV, hw, hd, hb0]
      refine hK _ ?_; clear hK
      refine vwp_seq_region rfl fun K hK => ?_
      simp (dsimp := false) only [push_cast, hP, hnt, hgw, hgb, Nat.reduceLT, Nat.reduceEqDiff, Nat.reduceAdd, Nat.reduceSub, Nat.reduceMul, Nat.reduceLeDiff, ↓reduceIte, reduceCtorEq, String.reduceEq, hi0, rowV, hw, hd, hb0]
      refine hK _ ?_; clear hK
      refine vwp_cond (b := _) (by simp (dsimp := false) only [push_cast, hP, hnt, hgw, hgb, Nat.reduceLT, Nat.reduceEqDiff, Nat.reduceAdd, Nat.reduceSub, Nat.reduceMul, Nat.reduceLeDiff, ↓reduceIte, reduceCtorEq, String.reduceEq, hi0, rowV, hw, hd, hb0]; rfl) (fun rb1 => ?_) (fun rb1 => ?_)
      · have hb1 := rb1
        try simp only [beq_iff_eq, bne_iff_ne, ne_eq, bne_eq_false_iff_eq, beq_eq_false_iff_ne, decide_eq_true_eq, decide_eq_false_iff_not, Bool.not_eq_true', Bool.not_eq_false', Bool.or_eq_true, Bool.and_eq_true, Bool.or_eq_false_iff, Bool.and_eq_false_iff] at hb1
        refine vwp_seq_region rfl fun K hK => ?_
        simp (dsimp := false) only [push_cast, hP, hnt, hgw, hgb, Nat.reduceLT, Nat.reduceEqDiff, Nat.reduceAdd, Nat.reduceSub, Nat.reduceMul, Nat.reduceLeDiff, ↓reduceIte, reduceCtorEq, String.reduceEq, hi0, rowV, hw, hd, hb0]
        refine hK _ ?_; clear hK
        refine vwp_ret ?_
        refine ret_free (by simp (dsimp := false) only [push_cast, hP, hnt, hgw, hgb, Nat.reduceLT, Nat.reduceEqDiff, Nat.reduceAdd, Nat.reduceSub, Nat.reduceMul, Nat.reduceLeDiff, ↓reduceIte, reduceCtorEq, String.reduceEq, hi0, rowV, hw, hd, hb0]; rfl) (by simp (dsimp := false) only [push_cast, hP, hnt, hgw, hgb, Nat.reduceLT, Nat.reduceEqDiff, Nat.reduceAdd, Nat.reduceSub, Nat.reduceMul, Nat.reduceLeDiff, ↓reduceIte, reduceCtorEq, String.reduceEq, hi0, rowV, hw, hd, hb0]) ?_
        exact absurd (bads_eight hi0 hbi) hb1
      · have hb1 := rb1
        try simp only [beq_iff_eq, bne_iff_ne, ne_eq, bne_eq_false_iff_eq, beq_eq_false_iff_ne, decide_eq_true_eq, decide_eq_false_iff_not, Bool.not_eq_true', Bool.not_eq_false', Bool.or_eq_true, Bool.and_eq_true, Bool.or_eq_false_iff, Bool.and_eq_false_iff] at hb1
        refine vwp_skip ?_
        apply_assumption
        refine vwp_region rfl ?_
        simp (dsimp := false) only [push_cast, hP, hnt, hgw, hgb, Nat.reduceLT, Nat.reduceEqDiff, Nat.reduceAdd, Nat.reduceSub, Nat.reduceMul, Nat.reduceLeDiff, ↓reduceIte, reduceCtorEq, String.reduceEq, hi0, rowV, hw, hd, hb0]
        refine hL0 _ _ _ ?_ ?_ ⟨i + 1, rfl, ?_, rfl⟩
        · omega
        · refine wk_conv [] [((233, 0), (233, 0))] (by simp) (by simp) (by decide) ?_ ?_
          · refine hf_cons (by simp (dsimp := false) only [push_cast, ↓reduceIte, Nat.reduceEqDiff, Nat.reduceAdd, reduceCtorEq, String.reduceEq, hi0, rowV, hw, hd, hb0] <;> rfl) (by exact ConvV.self rfl) ?_
            refine hf_cons (by simp (dsimp := false) only [push_cast, ↓reduceIte, Nat.reduceEqDiff, Nat.reduceAdd, reduceCtorEq, String.reduceEq, hi0, rowV, hw, hd, hb0] <;> rfl) (by exact ConvV.self rfl) ?_
            refine hf_cons (by simp (dsimp := false) only [push_cast, ↓reduceIte, Nat.reduceEqDiff, Nat.reduceAdd, reduceCtorEq, String.reduceEq, hi0, rowV, hw, hd, hb0] <;> rfl) (by exact ConvV.self rfl) ?_
            refine hf_cons (by simp (dsimp := false) only [push_cast, ↓reduceIte, Nat.reduceEqDiff, Nat.reduceAdd, reduceCtorEq, String.reduceEq, hi0, rowV, hw, hd, hb0] <;> rfl) (by exact ConvV.self rfl) ?_
            refine hf_cons (by simp (dsimp := false) only [push_cast, ↓reduceIte, Nat.reduceEqDiff, Nat.reduceAdd, reduceCtorEq, String.reduceEq, hi0, rowV, hw, hd, hb0] <;> rfl) (by exact .one (.own (by simp))) ?_
            refine hf_cons (by simp (dsimp := false) only [push_cast, ↓reduceIte, Nat.reduceEqDiff, Nat.reduceAdd, reduceCtorEq, String.reduceEq, hi0, rowV, hw, hd, hb0] <;> rfl) (by exact ConvV.self rfl) ?_
            exact hf_nil
          · refine hh_cons (i := (233, 0)) (by simp) (by simp) (by simp (dsimp := false) only [push_cast, ↓reduceIte, Nat.reduceEqDiff, Nat.reduceAdd, reduceCtorEq, String.reduceEq, hi0, rowV, hw, hd, hb0] <;> rfl) (by exact ConvB.arr (ConvL.free (by decide +kernel))) ?_
            exact hh_nil
        · exact ⟨by omega, by omega⟩
    · have hb0 := rb0
      try simp only [beq_iff_eq, bne_iff_ne, ne_eq, bne_eq_false_iff_eq, beq_eq_false_iff_ne, decide_eq_true_eq, decide_eq_false_iff_not, Bool.not_eq_true', Bool.not_eq_false', Bool.or_eq_true, Bool.and_eq_true, Bool.or_eq_false_iff, Bool.and_eq_false_iff] at hb0
      refine vwp_exit ?_
      simp only [thenQ, blockQ, Nat.reduceEqDiff, reduceIte]
      apply_assumption
      refine vwp_seq_region rfl fun K hK => ?_
      simp (dsimp := false) only [push_cast, hP, hnt, hgw, hgb, Nat.reduceLT, Nat.reduceEqDiff, Nat.reduceAdd, Nat.reduceSub, Nat.reduceMul, Nat.reduceLeDiff, ↓reduceIte, reduceCtorEq, String.reduceEq, hi0, rowV]
      refine hK _ ?_; clear hK
      refine vwp_seq fun K hK => ?_
      refine vwp_seq_region rfl fun K hK => ?_
      simp (dsimp := false) only [push_cast, hP, hnt, hgw, hgb, Nat.reduceLT, Nat.reduceEqDiff, Nat.reduceAdd, Nat.reduceSub, Nat.reduceMul, Nat.reduceLeDiff, ↓reduceIte, reduceCtorEq, String.reduceEq, hi0, rowV]
      refine hK _ ?_; clear hK
      refine vwp_wk (wk_nil_cell (i := (15, 0)) (k := 2) (d := 253) 29 1 (by first | (simp (dsimp := false) only [push_cast, hP, hnt, hgw, hgb, Nat.reduceLT, Nat.reduceEqDiff, Nat.reduceAdd, Nat.reduceSub, Nat.reduceMul, Nat.reduceLeDiff, ↓reduceIte, reduceCtorEq, String.reduceEq, hi0, rowV]; rfl) | (simp (dsimp := false) only [push_cast, hP, hnt, hgw, hgb, Nat.reduceLT, Nat.reduceEqDiff, Nat.reduceAdd, Nat.reduceSub, Nat.reduceMul, Nat.reduceLeDiff, ↓reduceIte, reduceCtorEq, String.reduceEq, hi0, rowV]; done)) rfl (by first | (simp (dsimp := false) only [push_cast, hP, hnt, hgw, hgb, Nat.reduceLT, Nat.reduceEqDiff, Nat.reduceAdd, Nat.reduceSub, Nat.reduceMul, Nat.reduceLeDiff, ↓reduceIte, reduceCtorEq, String.reduceEq, hi0, rowV]; done) | (simp (dsimp := false) only [push_cast, hP, hnt, hgw, hgb, Nat.reduceLT, Nat.reduceEqDiff, Nat.reduceAdd, Nat.reduceSub, Nat.reduceMul, Nat.reduceLeDiff, ↓reduceIte, reduceCtorEq, String.reduceEq, hi0, rowV]; rfl))) ?_
      simp only [List.set]
      simp (dsimp := false) only [push_cast, hP, hnt, hgw, hgb, Nat.reduceLT, Nat.reduceEqDiff, Nat.reduceAdd, Nat.reduceSub, Nat.reduceMul, Nat.reduceLeDiff, ↓reduceIte, reduceCtorEq, String.reduceEq, hi0, rowV]
      refine vwp_block ?_
      refine vwp_loop (fun m σ => ∃ (i : Int) (r : List (List Bool)), m = (40 - i).toNat ∧ ((0 ≤ i) ∧ (i ≤ 40) ∧ (r = List.replicate i.toNat (List.replicate 1000 false)) ∧ ((r.length : Int) = i)) ∧ σ = St.of [(3, .one (.c (.bool true))), (4, .one (.c (.bool true))), (5, .one (.c (.bool true))), (6, .one (.c (.bool true))), (14, .one (.loc (15, 0) 0)), (15, .one (.c (.int .i64 i)))] [((15, 0), .box 34 [.c (.int .u8 2), .c (.slice none 0 0), .own (254, 0), .c (.int .i64 0), .c (.int .i64 0), .c (.slice none 0 0), .c (.int .i64 0)]), ((254, 0), rowBB r)] [14, 253]) _ ⟨_, ?_, 0, [], rfl, ?_, rfl⟩ ?_
      · refine wk_conv [] [((15, 0), (15, 0)), ((254, 0), (254, 0))] (by simp) (by simp) (by decide) ?_ ?_
        · refine hf_cons (by simp (dsimp := false) only [push_cast, ↓reduceIte, Nat.reduceEqDiff, Nat.reduceAdd, reduceCtorEq, String.reduceEq, hi0, rowV] <;> rfl) (by exact ConvV.self rfl) ?_
          refine hf_cons (by simp (dsimp := false) only [push_cast, ↓reduceIte, Nat.reduceEqDiff, Nat.reduceAdd, reduceCtorEq, String.reduceEq, hi0, rowV] <;> rfl) (by exact ConvV.self rfl) ?_
          refine hf_cons (by simp (dsimp := false) only [push_cast, ↓reduceIte, Nat.reduceEqDiff, Nat.reduceAdd, reduceCtorEq, String.reduceEq, hi0, rowV] <;> rfl) (by exact ConvV.self rfl) ?_
          refine hf_cons (by simp (dsimp := false) only [push_cast, ↓reduceIte, Nat.reduceEqDiff, Nat.reduceAdd, reduceCtorEq, String.reduceEq, hi0, rowV] <;> rfl) (by exact ConvV.self rfl) ?_
          refine hf_cons (by simp (dsimp := false) only [push_cast, ↓reduceIte, Nat.reduceEqDiff, Nat.reduceAdd, reduceCtorEq, String.reduceEq, hi0, rowV] <;> rfl) (by exact .one (.loc (by simp))) ?_
          refine hf_cons (by simp (dsimp := false) only [push_cast, ↓reduceIte, Nat.reduceEqDiff, Nat.reduceAdd, reduceCtorEq, String.reduceEq, hi0, rowV] <;> rfl) (by exact ConvV.self rfl) ?_
          exact hf_nil
        · refine hh_cons (i := (15, 0)) (by simp) (by simp) (by simp (dsimp := false) only [push_cast, ↓reduceIte, Nat.reduceEqDiff, Nat.reduceAdd, reduceCtorEq, String.reduceEq, hi0, rowV] <;> rfl) (by first | (refine ConvB.free ?_; simp only [push_cast, bbP_free, boolP_free, ands_free]; done) | (refine ConvB.box ?_; repeat' (first | exact ConvVs.nil | exact ConvL.nil | refine ConvV.tup ?_ | refine ConvVs.cons ?_ ?_ | (refine ConvV.self ?_; simp only [push_cast, bbP_free, boolP_free, ands_free]; done) | refine ConvV.one ?_ | refine ConvV.agg ?_ | (refine ConvL.free ?_; simp only [push_cast, bbP_free, boolP_free, ands_free]; done) | refine ConvL.append ?_ ?_ | refine ConvL.cons ?_ ?_ | exact Conv.free rfl | exact Conv.nil | (refine Conv.own ?_; simp; done) | (refine Conv.loc ?_; simp; done) | refine Conv.frz (by simp) (by simp (dsimp := false) only [push_cast, ↓reduceIte, Nat.reduceEqDiff, Nat.reduceAdd, reduceCtorEq, String.reduceEq, hi0, rowV] <;> rfl) ?_ | refine Conv.sl (by simp) ?_ | refine Conv.fn ?_))) ?_
          refine hh_cons (i := (254, 0)) (by simp) (by simp) (by simp (dsimp := false) only [push_cast, ↓reduceIte, Nat.reduceEqDiff, Nat.reduceAdd, reduceCtorEq, String.reduceEq, hi0, rowV] <;> rfl) (by exact ConvB.arr (ConvL.free (bbP_free []))) ?_
          exact hh_nil
      · exact ⟨by omega, by omega, rfl, rfl⟩
      · rintro m τ ⟨i, r, hm, ⟨hi0, hi1, hr, hrl⟩, rfl⟩ K hL2
        have hw := fun h : i < 40 => wrap_next hi0 h (by omega)
        have hz3 : r.length + 1 ≤ 140737488355328 := by omega
        have hz4 : (r.length + 1) * 24 ≤ 140737488355328 := by omega
        refine vwp_seq fun K hK => ?_
        refine vwp_seq_region rfl fun K hK => ?_
        simp (dsimp := false) only [push_cast, hP, hnt, hgw, hgb, Nat.reduceLT, Nat.reduceEqDiff, Nat.reduceAdd, Nat.reduceSub, Nat.reduceMul, Nat.reduceLeDiff, ↓reduceIte, reduceCtorEq, String.reduceEq, hi0, rowV, hi0, rowBB, bbP, hz3, hz4, Int.reduceLE, Int.reduceAdd, Int.reduceMul, Int.reduceToNat, and_self]
        refine hK _ ?_; clear hK
        refine vwp_cond (b := _) (by simp (dsimp := false) only [push_cast, hP, hnt, hgw, hgb, Nat.reduceLT, Nat.reduceEqDiff, Nat.reduceAdd, Nat.reduceSub, Nat.reduceMul, Nat.reduceLeDiff, ↓reduceIte, reduceCtorEq, String.reduceEq, hi0, rowV, hi0, rowBB, bbP, hz3, hz4, Int.reduceLE, Int.reduceAdd, Int.reduceMul, Int.reduceToNat, and_self]; rfl) (fun rb2 => ?_) (fun rb2 => ?_)
        · have hb2 := rb2
          try simp only [beq_iff_eq, bne_iff_ne, ne_eq, bne_eq_false_iff_eq, beq_eq_false_iff_ne, decide_eq_true_eq, decide_eq_false_iff_not, Bool.not_eq_true', Bool.not_eq_false', Bool.or_eq_true, Bool.and_eq_true, Bool.or_eq_false_iff, Bool.and_eq_false_iff] at hb2
          have hw := hw hb2
          refine vwp_skip ?_
          apply_assumption
          refine vwp_seq fun K hK => ?_
          refine vwp_block ?_
          refine vwp_anyF [[], [0], [0, 1], [], [3], [0, 1, 2, 3, 4], [0, 1, 2, 3, 4, 5], [0, 1, 2, 3, 4, 5, 6], [0, 1, 2, 3, 4, 5, 6, 7]] [([(254, .dead), (255, .old), (256, .old), (257, .dead), (258, .dead), (259, .old), (260, .old), (261, .old)], [255, 256, 257, 258, 259, 260, 261], []), ([(254, .dep 0), (255, .dead), (256, .old), (257, .dead), (258, .dead), (259, .old), (260, .old), (261, .old)], [256, 257, 258, 259, 260, 261], [0]), ([(254, .dep 1), (255, .dep 0), (256, .dead), (257, .dead), (258, .dead), (259, .old), (260, .old), (261, .old)], [257, 258, 259, 260, 261], [1, 0]), ([(254, .dead), (255, .dead), (256, .dead), (257, .dead), (258, .old), (259, .old), (260, .old), (261, .old)], [254, 255, 256, 258, 259, 260, 261], []), ([(254, .dead), (255, .dead), (256, .dead), (257, .dep 0), (258, .dead), (259, .old), (260, .old), (261, .old)], [254, 255, 256, 259, 260, 261], [0]), ([(254, .dep 4), (255, .dep 3), (256, .dep 2), (257, .dep 1), (258, .dep 0), (259, .dead), (260, .old), (261, .old)], [260, 261], [4, 3, 2, 1, 0]), ([(254, .dep 5), (255, .dep 4), (256, .dep 3), (257, .dep 2), (258, .dep 1), (259, .dep 0), (260, .dead), (261, .old)], [261], [5, 4, 3, 2, 1, 0]), ([(254, .dep 6), (255, .dep 5), (256, .dep 4), (257, .dep 3), (258, .dep 2), (259, .dep 1), (260, .dep 0), (261, .dead)], [], [6, 5, 4, 3, 2, 1, 0]), ([(254, .dep 7), (255, .dep 6), (256, .dep 5), (257, .dep 4), (258, .dep 3), (259, .dep 2), (260, .dep 1), (261, .dep 0)], [], [7, 6, 5, 4, 3, 2, 1, 0])] (by rw [hP]; exact mixed) rfl rfl rfl ?_
          simp (dsimp := false) only [push_cast, hP, hnt, hgw, hgb, Nat.reduceLT, Nat.reduceEqDiff, Nat.reduceAdd, Nat.reduceSub, Nat.reduceMul, Nat.reduceLeDiff, ↓reduceIte, reduceCtorEq, String.reduceEq, hi0, rowV, hi0, rowBB, bbP, hz3, hz4, Int.reduceLE, Int.reduceAdd, Int.reduceMul, Int.reduceToNat, and_self, hw, Nat.reduceBNe, Nat.reduceBEq]
          refine ⟨rfl, ?_⟩
          apply_assumption
          refine vwp_region rfl ?_
          simp (dsimp := false) only [push_cast, hP, hnt, hgw, hgb, Nat.reduceLT, Nat.reduceEqDiff, Nat.reduceAdd, Nat.reduceSub, Nat.reduceMul, Nat.reduceLeDiff, ↓reduceIte, reduceCtorEq, String.reduceEq, hi0, rowV, hi0, rowBB, bbP, hz3, hz4, Int.reduceLE, Int.reduceAdd, Int.reduceMul, Int.reduceToNat, and_self, hw]
          refine hL2 _ _ _ ?_ ?_ ⟨i + 1, r ++ [List.replicate 1000 false], rfl, ?_, rfl⟩
          · omega
          · refine wk_conv [(258, 0)] [((15, 0), (15, 0)), ((260, 0), (254, 0))] (by simp) (by simp) (by decide) ?_ ?_
            · refine hf_cons (by simp (dsimp := false) only [push_cast, ↓reduceIte, Nat.reduceEqDiff, Nat.reduceAdd, reduceCtorEq, String.reduceEq, hi0, rowV, hi0, rowBB, bbP, hz3, hz4, Int.reduceLE, Int.reduceAdd, Int.reduceMul, Int.reduceToNat, and_self, hw] <;> rfl) (by exact ConvV.self rfl) ?_
              refine hf_cons (by simp (dsimp := false) only [push_cast, ↓reduceIte, Nat.reduceEqDiff, Nat.reduceAdd, reduceCtorEq, String.reduceEq, hi0, rowV, hi0, rowBB, bbP, hz3, hz4, Int.reduceLE, Int.reduceAdd, Int.reduceMul, Int.reduceToNat, and_self, hw] <;> rfl) (by exact ConvV.self rfl) ?_
              refine hf_cons (by simp (dsimp := false) only [push_cast, ↓reduceIte, Nat.reduceEqDiff, Nat.reduceAdd, reduceCtorEq, String.reduceEq, hi0, rowV, hi0, rowBB, bbP, hz3, hz4, Int.reduceLE, Int.reduceAdd, Int.reduceMul, Int.reduceToNat, and_self, hw] <;> rfl) (by exact ConvV.self rfl) ?_
              refine hf_cons (by simp (dsimp := false) only [push_cast, ↓reduceIte, Nat.reduceEqDiff, Nat.reduceAdd, reduceCtorEq, String.reduceEq, hi0, rowV, hi0, rowBB, bbP, hz3, hz4, Int.reduceLE, Int.reduceAdd, Int.reduceMul, Int.reduceToNat, and_self, hw] <;> rfl) (by exact ConvV.self rfl) ?_
              refine hf_cons (by simp (dsimp := false) only [push_cast, ↓reduceIte, Nat.reduceEqDiff, Nat.reduceAdd, reduceCtorEq, String.reduceEq, hi0, rowV, hi0, rowBB, bbP, hz3, hz4, Int.reduceLE, Int.reduceAdd, Int.reduceMul, Int.reduceToNat, and_self, hw] <;> rfl) (by exact .one (.loc (by simp))) ?_
              refine hf_cons (by simp (dsimp := false) only [push_cast, ↓reduceIte, Nat.reduceEqDiff, Nat.reduceAdd, reduceCtorEq, String.reduceEq, hi0, rowV, hi0, rowBB, bbP, hz3, hz4, Int.reduceLE, Int.reduceAdd, Int.reduceMul, Int.reduceToNat, and_self, hw] <;> rfl) (by exact ConvV.self rfl) ?_
              exact hf_nil
            · refine hh_cons (i := (15, 0)) (by simp) (by simp) (by simp (dsimp := false) only [push_cast, ↓reduceIte, Nat.reduceEqDiff, Nat.reduceAdd, reduceCtorEq, String.reduceEq, hi0, rowV, hi0, rowBB, bbP, hz3, hz4, Int.reduceLE, Int.reduceAdd, Int.reduceMul, Int.reduceToNat, and_self, hw] <;> rfl) (by first | (refine ConvB.free ?_; simp only [push_cast, bbP_free, boolP_free, ands_free]; done) | (refine ConvB.box ?_; repeat' (first | exact ConvVs.nil | exact ConvL.nil | refine ConvV.tup ?_ | refine ConvVs.cons ?_ ?_ | (refine ConvV.self ?_; simp only [push_cast, bbP_free, boolP_free, ands_free]; done) | refine ConvV.one ?_ | refine ConvV.agg ?_ | (refine ConvL.free ?_; simp only [push_cast, bbP_free, boolP_free, ands_free]; done) | refine ConvL.append ?_ ?_ | refine ConvL.cons ?_ ?_ | exact Conv.free rfl | exact Conv.nil | (refine Conv.own ?_; simp; done) | (refine Conv.loc ?_; simp; done) | refine Conv.frz (by simp) (by simp (dsimp := false) only [push_cast, ↓reduceIte, Nat.reduceEqDiff, Nat.reduceAdd, reduceCtorEq, String.reduceEq, hi0, rowV, hi0, rowBB, bbP, hz3, hz4, Int.reduceLE, Int.reduceAdd, Int.reduceMul, Int.reduceToNat, and_self, hw] <;> rfl) ?_ | refine Conv.sl (by simp) ?_ | refine Conv.fn ?_))) ?_
              refine hh_cons (i := (260, 0)) (by simp) (by simp) (by simp (dsimp := false) only [push_cast, ↓reduceIte, Nat.reduceEqDiff, Nat.reduceAdd, reduceCtorEq, String.reduceEq, hi0, rowV, hi0, rowBB, bbP, hz3, hz4, Int.reduceLE, Int.reduceAdd, Int.reduceMul, Int.reduceToNat, and_self, hw] <;> rfl) (by simp only [rowBB, List.map_append (f := bbP), List.length_append, List.map_cons, List.map_nil]; exact ConvB.arr (ConvL.append (ConvL.free (bbP_free r)) (ConvL.cons (Conv.frz (by simp) (by first | (simp (dsimp := false) only [push_cast, hP, hnt, hgw, hgb, Nat.reduceLT, Nat.reduceEqDiff, Nat.reduceAdd, Nat.reduceSub, Nat.reduceMul, Nat.reduceLeDiff, ↓reduceIte, reduceCtorEq, String.reduceEq, hi0, rowV, hi0, rowBB, bbP, hz3, hz4, Int.reduceLE, Int.reduceAdd, Int.reduceMul, Int.reduceToNat, and_self, hw]; rfl) | (simp (dsimp := false) only [push_cast, hP, hnt, hgw, hgb, Nat.reduceLT, Nat.reduceEqDiff, Nat.reduceAdd, Nat.reduceSub, Nat.reduceMul, Nat.reduceLeDiff, ↓reduceIte, reduceCtorEq, String.reduceEq, hi0, rowV, hi0, rowBB, bbP, hz3, hz4, Int.reduceLE, Int.reduceAdd, Int.reduceMul, Int.reduceToNat, and_self, hw]; done)) (rz_b 1000)) ConvL.nil))) ?_
              exact hh_nil
          · exact ⟨by omega, by omega, rep_next hi0 hr, by simp; omega⟩
        · have hb2 := rb2
          try simp only [beq_iff_eq, bne_iff_ne, ne_eq, bne_eq_false_iff_eq, beq_eq_false_iff_ne, decide_eq_true_eq, decide_eq_false_iff_not, Bool.not_eq_true', Bool.not_eq_false', Bool.or_eq_true, Bool.and_eq_true, Bool.or_eq_false_iff, Bool.and_eq_false_iff] at hb2
          have h40 : r = fr40 := by rw [hr, show i.toNat = 40 by omega]; rfl
          subst h40
          refine vwp_exit ?_
          simp only [thenQ, blockQ, Nat.reduceEqDiff, reduceIte]
          apply_assumption
          refine vwp_seq_region rfl fun K hK => ?_
          simp (dsimp := false) only [push_cast, hP, hnt, hgw, hgb, Nat.reduceLT, Nat.reduceEqDiff, Nat.reduceAdd, Nat.reduceSub, Nat.reduceMul, Nat.reduceLeDiff, ↓reduceIte, reduceCtorEq, String.reduceEq, hi0, rowV, hi0, rowBB, bbP, hz3, hz4, Int.reduceLE, Int.reduceAdd, Int.reduceMul, Int.reduceToNat, and_self, fr40_len, take39, fr39_len]
          refine .inl (callE_intro (verdict_call gw hg (fullV fr40) fit40) (.inl ⟨rfl, rfl⟩) ?_)
          simp (dsimp := false) only [push_cast, hP, hnt, hgw, hgb, Nat.reduceLT, Nat.reduceEqDiff, Nat.reduceAdd, Nat.reduceSub, Nat.reduceMul, Nat.reduceLeDiff, ↓reduceIte, reduceCtorEq, String.reduceEq, hi0, rowV, hi0, rowBB, bbP, hz3, hz4, Int.reduceLE, Int.reduceAdd, Int.reduceMul, Int.reduceToNat, and_self, fr40_len, take39, fr39_len]
          refine hK _ ?_; clear hK
          refine vwp_seq_region rfl fun K hK => ?_
          simp (dsimp := false) only [push_cast, hP, hnt, hgw, hgb, Nat.reduceLT, Nat.reduceEqDiff, Nat.reduceAdd, Nat.reduceSub, Nat.reduceMul, Nat.reduceLeDiff, ↓reduceIte, reduceCtorEq, String.reduceEq, hi0, rowV, hi0, rowBB, bbP, hz3, hz4, Int.reduceLE, Int.reduceAdd, Int.reduceMul, Int.reduceToNat, and_self, fr40_len, take39, fr39_len]
          refine hK _ ?_; clear hK
          refine vwp_seq_region rfl fun K hK => ?_
          simp (dsimp := false) only [push_cast, hP, hnt, hgw, hgb, Nat.reduceLT, Nat.reduceEqDiff, Nat.reduceAdd, Nat.reduceSub, Nat.reduceMul, Nat.reduceLeDiff, ↓reduceIte, reduceCtorEq, String.reduceEq, hi0, rowV, hi0, rowBB, bbP, hz3, hz4, Int.reduceLE, Int.reduceAdd, Int.reduceMul, Int.reduceToNat, and_self, fr40_len, take39, fr39_len]
          refine .inl (callE_intro (verdict_call gw hg (fullV fr39) fit39) (.inl ⟨rfl, rfl⟩) ?_)
          simp (dsimp := false) only [push_cast, hP, hnt, hgw, hgb, Nat.reduceLT, Nat.reduceEqDiff, Nat.reduceAdd, Nat.reduceSub, Nat.reduceMul, Nat.reduceLeDiff, ↓reduceIte, reduceCtorEq, String.reduceEq, hi0, rowV, hi0, rowBB, bbP, hz3, hz4, Int.reduceLE, Int.reduceAdd, Int.reduceMul, Int.reduceToNat, and_self, fr40_len, take39, fr39_len]
          refine hK _ ?_; clear hK
          refine vwp_seq_region rfl fun K hK => ?_
          simp (dsimp := false) only [push_cast, hP, hnt, hgw, hgb, Nat.reduceLT, Nat.reduceEqDiff, Nat.reduceAdd, Nat.reduceSub, Nat.reduceMul, Nat.reduceLeDiff, ↓reduceIte, reduceCtorEq, String.reduceEq, hi0, rowV, hi0, rowBB, bbP, hz3, hz4, Int.reduceLE, Int.reduceAdd, Int.reduceMul, Int.reduceToNat, and_self, fr40_len, take39, fr39_len]
          refine .inl (callE_intro (passes_call gw gw.heap.size (List.replicate 11 (⟨#[]⟩, 0)) (by decide)) (.inl ⟨rfl, rfl⟩) ?_)
          simp (dsimp := false) only [push_cast, hP, hnt, hgw, hgb, Nat.reduceLT, Nat.reduceEqDiff, Nat.reduceAdd, Nat.reduceSub, Nat.reduceMul, Nat.reduceLeDiff, ↓reduceIte, reduceCtorEq, String.reduceEq, hi0, rowV, hi0, rowBB, bbP, hz3, hz4, Int.reduceLE, Int.reduceAdd, Int.reduceMul, Int.reduceToNat, and_self, fr40_len, take39, fr39_len]
          refine hK _ ?_; clear hK
          refine vwp_seq_region rfl fun K hK => ?_
          simp (dsimp := false) only [push_cast, hP, hnt, hgw, hgb, Nat.reduceLT, Nat.reduceEqDiff, Nat.reduceAdd, Nat.reduceSub, Nat.reduceMul, Nat.reduceLeDiff, ↓reduceIte, reduceCtorEq, String.reduceEq, hi0, rowV, hi0, rowBB, bbP, hz3, hz4, Int.reduceLE, Int.reduceAdd, Int.reduceMul, Int.reduceToNat, and_self, fr40_len, take39, fr39_len]
          refine .inl (callE_intro (passes_call gw gw.heap.size [(⟨#[112, 114, 101, 102, 105, 120]⟩, 0)] (by decide)) (.inl ⟨rfl, rfl⟩) ?_)
          simp (dsimp := false) only [push_cast, hP, hnt, hgw, hgb, Nat.reduceLT, Nat.reduceEqDiff, Nat.reduceAdd, Nat.reduceSub, Nat.reduceMul, Nat.reduceLeDiff, ↓reduceIte, reduceCtorEq, String.reduceEq, hi0, rowV, hi0, rowBB, bbP, hz3, hz4, Int.reduceLE, Int.reduceAdd, Int.reduceMul, Int.reduceToNat, and_self, fr40_len, take39, fr39_len]
          refine hK _ ?_; clear hK
          refine vwp_seq_region rfl fun K hK => ?_
          simp (dsimp := false) only [push_cast, hP, hnt, hgw, hgb, Nat.reduceLT, Nat.reduceEqDiff, Nat.reduceAdd, Nat.reduceSub, Nat.reduceMul, Nat.reduceLeDiff, ↓reduceIte, reduceCtorEq, String.reduceEq, hi0, rowV, hi0, rowBB, bbP, hz3, hz4, Int.reduceLE, Int.reduceAdd, Int.reduceMul, Int.reduceToNat, and_self, fr40_len, take39, fr39_len]
          refine .inl (callE_intro (engineText_call gw hg ⟨true, 0, 0⟩) (.inl ⟨rfl, rfl⟩) ?_)
          simp (dsimp := false) only [push_cast, hP, hnt, hgw, hgb, Nat.reduceLT, Nat.reduceEqDiff, Nat.reduceAdd, Nat.reduceSub, Nat.reduceMul, Nat.reduceLeDiff, ↓reduceIte, reduceCtorEq, String.reduceEq, hi0, rowV, hi0, rowBB, bbP, hz3, hz4, Int.reduceLE, Int.reduceAdd, Int.reduceMul, Int.reduceToNat, and_self, fr40_len, take39, fr39_len]
          refine hK _ ?_; clear hK
          refine vwp_seq_regionG fun K hK => ?_
          simp (dsimp := false) only [push_cast, hP, hnt, hgw, hgb, Nat.reduceLT, Nat.reduceEqDiff, Nat.reduceAdd, Nat.reduceSub, Nat.reduceMul, Nat.reduceLeDiff, ↓reduceIte, reduceCtorEq, String.reduceEq, hi0, rowV, hi0, rowBB, bbP, hz3, hz4, Int.reduceLE, Int.reduceAdd, Int.reduceMul, Int.reduceToNat, and_self, fr40_len, take39, fr39_len]
          refine guardR_may (by simp (dsimp := false) only [push_cast, hP, hnt, hgw, hgb, Nat.reduceLT, Nat.reduceEqDiff, Nat.reduceAdd, Nat.reduceSub, Nat.reduceMul, Nat.reduceLeDiff, ↓reduceIte, reduceCtorEq, String.reduceEq, hi0, rowV, hi0, rowBB, bbP, hz3, hz4, Int.reduceLE, Int.reduceAdd, Int.reduceMul, Int.reduceToNat, and_self, fr40_len, take39, fr39_len, List.getElem?_cons_zero, List.getElem?_cons_succ]; rfl) ?_
          simp (dsimp := false) only [push_cast, hP, hnt, hgw, hgb, Nat.reduceLT, Nat.reduceEqDiff, Nat.reduceAdd, Nat.reduceSub, Nat.reduceMul, Nat.reduceLeDiff, ↓reduceIte, reduceCtorEq, String.reduceEq, hi0, rowV, hi0, rowBB, bbP, hz3, hz4, Int.reduceLE, Int.reduceAdd, Int.reduceMul, Int.reduceToNat, and_self, fr40_len, take39, fr39_len]
          refine guardR_may (by simp (dsimp := false) only [push_cast, hP, hnt, hgw, hgb, Nat.reduceLT, Nat.reduceEqDiff, Nat.reduceAdd, Nat.reduceSub, Nat.reduceMul, Nat.reduceLeDiff, ↓reduceIte, reduceCtorEq, String.reduceEq, hi0, rowV, hi0, rowBB, bbP, hz3, hz4, Int.reduceLE, Int.reduceAdd, Int.reduceMul, Int.reduceToNat, and_self, fr40_len, take39, fr39_len, List.getElem?_cons_zero, List.getElem?_cons_succ]; rfl) ?_
          simp (dsimp := false) only [push_cast, hP, hnt, hgw, hgb, Nat.reduceLT, Nat.reduceEqDiff, Nat.reduceAdd, Nat.reduceSub, Nat.reduceMul, Nat.reduceLeDiff, ↓reduceIte, reduceCtorEq, String.reduceEq, hi0, rowV, hi0, rowBB, bbP, hz3, hz4, Int.reduceLE, Int.reduceAdd, Int.reduceMul, Int.reduceToNat, and_self, fr40_len, take39, fr39_len]
          refine guardR_may (by simp (dsimp := false) only [push_cast, hP, hnt, hgw, hgb, Nat.reduceLT, Nat.reduceEqDiff, Nat.reduceAdd, Nat.reduceSub, Nat.reduceMul, Nat.reduceLeDiff, ↓reduceIte, reduceCtorEq, String.reduceEq, hi0, rowV, hi0, rowBB, bbP, hz3, hz4, Int.reduceLE, Int.reduceAdd, Int.reduceMul, Int.reduceToNat, and_self, fr40_len, take39, fr39_len, List.getElem?_cons_zero, List.getElem?_cons_succ]; rfl) ?_
          simp (dsimp := false) only [push_cast, hP, hnt, hgw, hgb, Nat.reduceLT, Nat.reduceEqDiff, Nat.reduceAdd, Nat.reduceSub, Nat.reduceMul, Nat.reduceLeDiff, ↓reduceIte, reduceCtorEq, String.reduceEq, hi0, rowV, hi0, rowBB, bbP, hz3, hz4, Int.reduceLE, Int.reduceAdd, Int.reduceMul, Int.reduceToNat, and_self, fr40_len, take39, fr39_len]
          refine guardR_may (by simp (dsimp := false) only [push_cast, hP, hnt, hgw, hgb, Nat.reduceLT, Nat.reduceEqDiff, Nat.reduceAdd, Nat.reduceSub, Nat.reduceMul, Nat.reduceLeDiff, ↓reduceIte, reduceCtorEq, String.reduceEq, hi0, rowV, hi0, rowBB, bbP, hz3, hz4, Int.reduceLE, Int.reduceAdd, Int.reduceMul, Int.reduceToNat, and_self, fr40_len, take39, fr39_len, List.getElem?_cons_zero, List.getElem?_cons_succ]; rfl) ?_
          simp (dsimp := false) only [push_cast, hP, hnt, hgw, hgb, Nat.reduceLT, Nat.reduceEqDiff, Nat.reduceAdd, Nat.reduceSub, Nat.reduceMul, Nat.reduceLeDiff, ↓reduceIte, reduceCtorEq, String.reduceEq, hi0, rowV, hi0, rowBB, bbP, hz3, hz4, Int.reduceLE, Int.reduceAdd, Int.reduceMul, Int.reduceToNat, and_self, fr40_len, take39, fr39_len]
          refine guardR_may (by simp (dsimp := false) only [push_cast, hP, hnt, hgw, hgb, Nat.reduceLT, Nat.reduceEqDiff, Nat.reduceAdd, Nat.reduceSub, Nat.reduceMul, Nat.reduceLeDiff, ↓reduceIte, reduceCtorEq, String.reduceEq, hi0, rowV, hi0, rowBB, bbP, hz3, hz4, Int.reduceLE, Int.reduceAdd, Int.reduceMul, Int.reduceToNat, and_self, fr40_len, take39, fr39_len, List.getElem?_cons_zero, List.getElem?_cons_succ]; rfl) ?_
          simp (dsimp := false) only [push_cast, hP, hnt, hgw, hgb, Nat.reduceLT, Nat.reduceEqDiff, Nat.reduceAdd, Nat.reduceSub, Nat.reduceMul, Nat.reduceLeDiff, ↓reduceIte, reduceCtorEq, String.reduceEq, hi0, rowV, hi0, rowBB, bbP, hz3, hz4, Int.reduceLE, Int.reduceAdd, Int.reduceMul, Int.reduceToNat, and_self, fr40_len, take39, fr39_len]
          refine guardR_may (by simp (dsimp := false) only [push_cast, hP, hnt, hgw, hgb, Nat.reduceLT, Nat.reduceEqDiff, Nat.reduceAdd, Nat.reduceSub, Nat.reduceMul, Nat.reduceLeDiff, ↓reduceIte, reduceCtorEq, String.reduceEq, hi0, rowV, hi0, rowBB, bbP, hz3, hz4, Int.reduceLE, Int.reduceAdd, Int.reduceMul, Int.reduceToNat, and_self, fr40_len, take39, fr39_len, List.getElem?_cons_zero, List.getElem?_cons_succ]; rfl) ?_
          simp (dsimp := false) only [push_cast, hP, hnt, hgw, hgb, Nat.reduceLT, Nat.reduceEqDiff, Nat.reduceAdd, Nat.reduceSub, Nat.reduceMul, Nat.reduceLeDiff, ↓reduceIte, reduceCtorEq, String.reduceEq, hi0, rowV, hi0, rowBB, bbP, hz3, hz4, Int.reduceLE, Int.reduceAdd, Int.reduceMul, Int.reduceToNat, and_self, fr40_len, take39, fr39_len]
          refine guardR_may (by simp (dsimp := false) only [push_cast, hP, hnt, hgw, hgb, Nat.reduceLT, Nat.reduceEqDiff, Nat.reduceAdd, Nat.reduceSub, Nat.reduceMul, Nat.reduceLeDiff, ↓reduceIte, reduceCtorEq, String.reduceEq, hi0, rowV, hi0, rowBB, bbP, hz3, hz4, Int.reduceLE, Int.reduceAdd, Int.reduceMul, Int.reduceToNat, and_self, fr40_len, take39, fr39_len, List.getElem?_cons_zero, List.getElem?_cons_succ]; rfl) ?_
          simp (dsimp := false) only [push_cast, hP, hnt, hgw, hgb, Nat.reduceLT, Nat.reduceEqDiff, Nat.reduceAdd, Nat.reduceSub, Nat.reduceMul, Nat.reduceLeDiff, ↓reduceIte, reduceCtorEq, String.reduceEq, hi0, rowV, hi0, rowBB, bbP, hz3, hz4, Int.reduceLE, Int.reduceAdd, Int.reduceMul, Int.reduceToNat, and_self, fr40_len, take39, fr39_len]
          refine guardR_may (by simp (dsimp := false) only [push_cast, hP, hnt, hgw, hgb, Nat.reduceLT, Nat.reduceEqDiff, Nat.reduceAdd, Nat.reduceSub, Nat.reduceMul, Nat.reduceLeDiff, ↓reduceIte, reduceCtorEq, String.reduceEq, hi0, rowV, hi0, rowBB, bbP, hz3, hz4, Int.reduceLE, Int.reduceAdd, Int.reduceMul, Int.reduceToNat, and_self, fr40_len, take39, fr39_len, List.getElem?_cons_zero, List.getElem?_cons_succ]; rfl) ?_
          simp (dsimp := false) only [push_cast, hP, hnt, hgw, hgb, Nat.reduceLT, Nat.reduceEqDiff, Nat.reduceAdd, Nat.reduceSub, Nat.reduceMul, Nat.reduceLeDiff, ↓reduceIte, reduceCtorEq, String.reduceEq, hi0, rowV, hi0, rowBB, bbP, hz3, hz4, Int.reduceLE, Int.reduceAdd, Int.reduceMul, Int.reduceToNat, and_self, fr40_len, take39, fr39_len]
          refine guardR_may (by simp (dsimp := false) only [push_cast, hP, hnt, hgw, hgb, Nat.reduceLT, Nat.reduceEqDiff, Nat.reduceAdd, Nat.reduceSub, Nat.reduceMul, Nat.reduceLeDiff, ↓reduceIte, reduceCtorEq, String.reduceEq, hi0, rowV, hi0, rowBB, bbP, hz3, hz4, Int.reduceLE, Int.reduceAdd, Int.reduceMul, Int.reduceToNat, and_self, fr40_len, take39, fr39_len, List.getElem?_cons_zero, List.getElem?_cons_succ]; rfl) ?_
          simp (dsimp := false) only [push_cast, hP, hnt, hgw, hgb, Nat.reduceLT, Nat.reduceEqDiff, Nat.reduceAdd, Nat.reduceSub, Nat.reduceMul, Nat.reduceLeDiff, ↓reduceIte, reduceCtorEq, String.reduceEq, hi0, rowV, hi0, rowBB, bbP, hz3, hz4, Int.reduceLE, Int.reduceAdd, Int.reduceMul, Int.reduceToNat, and_self, fr40_len, take39, fr39_len]
          refine guardR_may (by simp (dsimp := false) only [push_cast, hP, hnt, hgw, hgb, Nat.reduceLT, Nat.reduceEqDiff, Nat.reduceAdd, Nat.reduceSub, Nat.reduceMul, Nat.reduceLeDiff, ↓reduceIte, reduceCtorEq, String.reduceEq, hi0, rowV, hi0, rowBB, bbP, hz3, hz4, Int.reduceLE, Int.reduceAdd, Int.reduceMul, Int.reduceToNat, and_self, fr40_len, take39, fr39_len, List.getElem?_cons_zero, List.getElem?_cons_succ]; rfl) ?_
          simp (dsimp := false) only [push_cast, hP, hnt, hgw, hgb, Nat.reduceLT, Nat.reduceEqDiff, Nat.reduceAdd, Nat.reduceSub, Nat.reduceMul, Nat.reduceLeDiff, ↓reduceIte, reduceCtorEq, String.reduceEq, hi0, rowV, hi0, rowBB, bbP, hz3, hz4, Int.reduceLE, Int.reduceAdd, Int.reduceMul, Int.reduceToNat, and_self, fr40_len, take39, fr39_len]
          refine guardR_may (by simp (dsimp := false) only [push_cast, hP, hnt, hgw, hgb, Nat.reduceLT, Nat.reduceEqDiff, Nat.reduceAdd, Nat.reduceSub, Nat.reduceMul, Nat.reduceLeDiff, ↓reduceIte, reduceCtorEq, String.reduceEq, hi0, rowV, hi0, rowBB, bbP, hz3, hz4, Int.reduceLE, Int.reduceAdd, Int.reduceMul, Int.reduceToNat, and_self, fr40_len, take39, fr39_len, List.getElem?_cons_zero, List.getElem?_cons_succ]; rfl) ?_
          simp (dsimp := false) only [push_cast, hP, hnt, hgw, hgb, Nat.reduceLT, Nat.reduceEqDiff, Nat.reduceAdd, Nat.reduceSub, Nat.reduceMul, Nat.reduceLeDiff, ↓reduceIte, reduceCtorEq, String.reduceEq, hi0, rowV, hi0, rowBB, bbP, hz3, hz4, Int.reduceLE, Int.reduceAdd, Int.reduceMul, Int.reduceToNat, and_self, fr40_len, take39, fr39_len]
          refine guardR_may (by simp (dsimp := false) only [push_cast, hP, hnt, hgw, hgb, Nat.reduceLT, Nat.reduceEqDiff, Nat.reduceAdd, Nat.reduceSub, Nat.reduceMul, Nat.reduceLeDiff, ↓reduceIte, reduceCtorEq, String.reduceEq, hi0, rowV, hi0, rowBB, bbP, hz3, hz4, Int.reduceLE, Int.reduceAdd, Int.reduceMul, Int.reduceToNat, and_self, fr40_len, take39, fr39_len, List.getElem?_cons_zero, List.getElem?_cons_succ]; rfl) ?_
          simp (dsimp := false) only [push_cast, hP, hnt, hgw, hgb, Nat.reduceLT, Nat.reduceEqDiff, Nat.reduceAdd, Nat.reduceSub, Nat.reduceMul, Nat.reduceLeDiff, ↓reduceIte, reduceCtorEq, String.reduceEq, hi0, rowV, hi0, rowBB, bbP, hz3, hz4, Int.reduceLE, Int.reduceAdd, Int.reduceMul, Int.reduceToNat, and_self, fr40_len, take39, fr39_len]
          refine guardR_may (by simp (dsimp := false) only [push_cast, hP, hnt, hgw, hgb, Nat.reduceLT, Nat.reduceEqDiff, Nat.reduceAdd, Nat.reduceSub, Nat.reduceMul, Nat.reduceLeDiff, ↓reduceIte, reduceCtorEq, String.reduceEq, hi0, rowV, hi0, rowBB, bbP, hz3, hz4, Int.reduceLE, Int.reduceAdd, Int.reduceMul, Int.reduceToNat, and_self, fr40_len, take39, fr39_len, List.getElem?_cons_zero, List.getElem?_cons_succ]; rfl) ?_
          simp (dsimp := false) only [push_cast, hP, hnt, hgw, hgb, Nat.reduceLT, Nat.reduceEqDiff, Nat.reduceAdd, Nat.reduceSub, Nat.reduceMul, Nat.reduceLeDiff, ↓reduceIte, reduceCtorEq, String.reduceEq, hi0, rowV, hi0, rowBB, bbP, hz3, hz4, Int.reduceLE, Int.reduceAdd, Int.reduceMul, Int.reduceToNat, and_self, fr40_len, take39, fr39_len]
          refine guardR_may (by simp (dsimp := false) only [push_cast, hP, hnt, hgw, hgb, Nat.reduceLT, Nat.reduceEqDiff, Nat.reduceAdd, Nat.reduceSub, Nat.reduceMul, Nat.reduceLeDiff, ↓reduceIte, reduceCtorEq, String.reduceEq, hi0, rowV, hi0, rowBB, bbP, hz3, hz4, Int.reduceLE, Int.reduceAdd, Int.reduceMul, Int.reduceToNat, and_self, fr40_len, take39, fr39_len, List.getElem?_cons_zero, List.getElem?_cons_succ]; rfl) ?_
          simp (dsimp := false) only [push_cast, hP, hnt, hgw, hgb, Nat.reduceLT, Nat.reduceEqDiff, Nat.reduceAdd, Nat.reduceSub, Nat.reduceMul, Nat.reduceLeDiff, ↓reduceIte, reduceCtorEq, String.reduceEq, hi0, rowV, hi0, rowBB, bbP, hz3, hz4, Int.reduceLE, Int.reduceAdd, Int.reduceMul, Int.reduceToNat, and_self, fr40_len, take39, fr39_len]
          refine guardR_may (by simp (dsimp := false) only [push_cast, hP, hnt, hgw, hgb, Nat.reduceLT, Nat.reduceEqDiff, Nat.reduceAdd, Nat.reduceSub, Nat.reduceMul, Nat.reduceLeDiff, ↓reduceIte, reduceCtorEq, String.reduceEq, hi0, rowV, hi0, rowBB, bbP, hz3, hz4, Int.reduceLE, Int.reduceAdd, Int.reduceMul, Int.reduceToNat, and_self, fr40_len, take39, fr39_len, List.getElem?_cons_zero, List.getElem?_cons_succ]; rfl) ?_
          simp (dsimp := false) only [push_cast, hP, hnt, hgw, hgb, Nat.reduceLT, Nat.reduceEqDiff, Nat.reduceAdd, Nat.reduceSub, Nat.reduceMul, Nat.reduceLeDiff, ↓reduceIte, reduceCtorEq, String.reduceEq, hi0, rowV, hi0, rowBB, bbP, hz3, hz4, Int.reduceLE, Int.reduceAdd, Int.reduceMul, Int.reduceToNat, and_self, fr40_len, take39, fr39_len]
          refine guardR_may (by simp (dsimp := false) only [push_cast, hP, hnt, hgw, hgb, Nat.reduceLT, Nat.reduceEqDiff, Nat.reduceAdd, Nat.reduceSub, Nat.reduceMul, Nat.reduceLeDiff, ↓reduceIte, reduceCtorEq, String.reduceEq, hi0, rowV, hi0, rowBB, bbP, hz3, hz4, Int.reduceLE, Int.reduceAdd, Int.reduceMul, Int.reduceToNat, and_self, fr40_len, take39, fr39_len, List.getElem?_cons_zero, List.getElem?_cons_succ]; rfl) ?_
          simp (dsimp := false) only [push_cast, hP, hnt, hgw, hgb, Nat.reduceLT, Nat.reduceEqDiff, Nat.reduceAdd, Nat.reduceSub, Nat.reduceMul, Nat.reduceLeDiff, ↓reduceIte, reduceCtorEq, String.reduceEq, hi0, rowV, hi0, rowBB, bbP, hz3, hz4, Int.reduceLE, Int.reduceAdd, Int.reduceMul, Int.reduceToNat, and_self, fr40_len, take39, fr39_len]
          refine guardR_may (by simp (dsimp := false) only [push_cast, hP, hnt, hgw, hgb, Nat.reduceLT, Nat.reduceEqDiff, Nat.reduceAdd, Nat.reduceSub, Nat.reduceMul, Nat.reduceLeDiff, ↓reduceIte, reduceCtorEq, String.reduceEq, hi0, rowV, hi0, rowBB, bbP, hz3, hz4, Int.reduceLE, Int.reduceAdd, Int.reduceMul, Int.reduceToNat, and_self, fr40_len, take39, fr39_len, List.getElem?_cons_zero, List.getElem?_cons_succ]; rfl) ?_
          simp (dsimp := false) only [push_cast, hP, hnt, hgw, hgb, Nat.reduceLT, Nat.reduceEqDiff, Nat.reduceAdd, Nat.reduceSub, Nat.reduceMul, Nat.reduceLeDiff, ↓reduceIte, reduceCtorEq, String.reduceEq, hi0, rowV, hi0, rowBB, bbP, hz3, hz4, Int.reduceLE, Int.reduceAdd, Int.reduceMul, Int.reduceToNat, and_self, fr40_len, take39, fr39_len]
          refine guardR_may (by simp (dsimp := false) only [push_cast, hP, hnt, hgw, hgb, Nat.reduceLT, Nat.reduceEqDiff, Nat.reduceAdd, Nat.reduceSub, Nat.reduceMul, Nat.reduceLeDiff, ↓reduceIte, reduceCtorEq, String.reduceEq, hi0, rowV, hi0, rowBB, bbP, hz3, hz4, Int.reduceLE, Int.reduceAdd, Int.reduceMul, Int.reduceToNat, and_self, fr40_len, take39, fr39_len, List.getElem?_cons_zero, List.getElem?_cons_succ]; rfl) ?_
          simp (dsimp := false) only [push_cast, hP, hnt, hgw, hgb, Nat.reduceLT, Nat.reduceEqDiff, Nat.reduceAdd, Nat.reduceSub, Nat.reduceMul, Nat.reduceLeDiff, ↓reduceIte, reduceCtorEq, String.reduceEq, hi0, rowV, hi0, rowBB, bbP, hz3, hz4, Int.reduceLE, Int.reduceAdd, Int.reduceMul, Int.reduceToNat, and_self, fr40_len, take39, fr39_len]
          refine callE_intro (alive_true_call gw hg) (.inl ⟨rfl, rfl⟩) ?_
          refine ⟨rfl, ?_⟩
          simp (dsimp := false) only [push_cast, hP, hnt, hgw, hgb, Nat.reduceLT, Nat.reduceEqDiff, Nat.reduceAdd, Nat.reduceSub, Nat.reduceMul, Nat.reduceLeDiff, ↓reduceIte, reduceCtorEq, String.reduceEq, hi0, rowV, hi0, rowBB, bbP, hz3, hz4, Int.reduceLE, Int.reduceAdd, Int.reduceMul, Int.reduceToNat, and_self, fr40_len, take39, fr39_len]
          refine hK _ ?_; clear hK
          refine vwp_ret ?_
          refine ret_free (by simp (dsimp := false) only [push_cast, hP, hnt, hgw, hgb, Nat.reduceLT, Nat.reduceEqDiff, Nat.reduceAdd, Nat.reduceSub, Nat.reduceMul, Nat.reduceLeDiff, ↓reduceIte, reduceCtorEq, String.reduceEq, hi0, rowV, hi0, rowBB, bbP, hz3, hz4, Int.reduceLE, Int.reduceAdd, Int.reduceMul, Int.reduceToNat, and_self, fr40_len, take39, fr39_len]; rfl) (by simp (dsimp := false) only [push_cast, hP, hnt, hgw, hgb, Nat.reduceLT, Nat.reduceEqDiff, Nat.reduceAdd, Nat.reduceSub, Nat.reduceMul, Nat.reduceLeDiff, ↓reduceIte, reduceCtorEq, String.reduceEq, hi0, rowV, hi0, rowBB, bbP, hz3, hz4, Int.reduceLE, Int.reduceAdd, Int.reduceMul, Int.reduceToNat, and_self, fr40_len, take39, fr39_len]) ?_
          rw [names_end]; rfl
end Go.Vm
