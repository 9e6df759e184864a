/-
  Walks of the program's functions by the framework, and what they compute (PtAJ). Conditions: each theorem's own premises. By an AI agent.
-/
import Derived.Test.YtnpbndglolcilaaDoorPtAI
namespace Go.Vm
open Go Go.RowKit Go.Proofs
set_option maxRecDepth 100000
set_option linter.unusedSimpArgs false
set_option linter.unusedVariables false
set_option maxHeartbeats 4000000
def nm0 : ByteArray := ⟨#[104, 97, 115, 104]⟩
def nm1 : ByteArray := ⟨#[99, 111, 110, 115, 116, 97, 110, 116, 115]⟩
def nm2 : ByteArray := ⟨#[99, 111, 110, 101]⟩
def nm3 : ByteArray := ⟨#[115, 119, 101, 101, 112]⟩
def nm4 : ByteArray := ⟨#[116, 101, 114, 110, 97, 114, 121]⟩
def nm5 : ByteArray := ⟨#[108, 97, 116, 99, 104, 101, 115]⟩

def refCheckF (n : ByteArray) (k : Int) : Int :=
  if n.toList = nm0.toList ∨ n.toList = nm1.toList ∨ n.toList = nm2.toList ∨ n.toList = nm3.toList ∨ n.toList = nm4.toList ∨ n.toList = nm5.toList then (if k < 0 ∨ 0 < k then 2 else 0)
  else if n.toList = nPrefix.toList then (if k < 1 ∨ 8 < k then 2 else 0)
  else if n.toList = nPhases.toList then (if k < 2 ∨ 4 < k then 2 else 0)
  else 12
def writtenF (n : ByteArray) (k : Int) : ByteArray :=
  if 0 < k then n ++ colon ++ ofBytes [IntKind.wrap .u8 (IntKind.wrap .i64 (48 + k))] else n
def refTextF (n : ByteArray) (k : Int) : ByteArray × Int :=
  if refCheckF n k ≠ 0 then (⟨#[]⟩, refCheckF n k) else (writtenF n k, 0)

theorem refCheck_call (gw : World) (gb : Nat) (n : ByteArray) (k : Int) : VCall Tryd.prog gw (gb) 32 [.agg [.c (.string n), .c (.int .i64 k)]] (.one (.c (.int .i64 (refCheckF n k)))) [] := by
  refine vcall_of [.tmp 2] Tryd.func32 rfl rfl Tryd.ntmps32 rfl (by simp) ?_
  intro C hP hnt hgw hgb hfull
  refine vwp_seq_region rfl fun K hK => ?_
  simp (dsimp := false) only [push_cast, hP, hnt, hgw, hgb, Int.reduceLE, Int.reduceLT, Nat.reduceLT, Nat.reduceEqDiff, Nat.reduceAdd, Nat.reduceSub, Nat.reduceMul, Nat.reduceLeDiff, ↓reduceIte, reduceCtorEq, String.reduceEq]
  refine hK _ ?_; clear hK
  refine vwp_seq_region rfl fun K hK => ?_
  simp (dsimp := false) only [push_cast, hP, hnt, hgw, hgb, Int.reduceLE, Int.reduceLT, Nat.reduceLT, Nat.reduceEqDiff, Nat.reduceAdd, Nat.reduceSub, Nat.reduceMul, Nat.reduceLeDiff, ↓reduceIte, reduceCtorEq, String.reduceEq]
  refine hK _ ?_; clear hK
  refine vwp_seq fun K hK => ?_
  refine vwp_seq_region rfl fun K hK => ?_
  simp (dsimp := false) only [push_cast, hP, hnt, hgw, hgb, Int.reduceLE, Int.reduceLT, Nat.reduceLT, Nat.reduceEqDiff, Nat.reduceAdd, Nat.reduceSub, Nat.reduceMul, Nat.reduceLeDiff, ↓reduceIte, reduceCtorEq, String.reduceEq]
  refine hK _ ?_; clear hK
  refine vwp_block ?_
  refine vwp_seq fun K hK => ?_
  refine vwp_seq_region rfl fun K hK => ?_
  simp (dsimp := false) only [push_cast, hP, hnt, hgw, hgb, Int.reduceLE, Int.reduceLT, Nat.reduceLT, Nat.reduceEqDiff, Nat.reduceAdd, Nat.reduceSub, Nat.reduceMul, Nat.reduceLeDiff, ↓reduceIte, reduceCtorEq, String.reduceEq]
  refine hK _ ?_; clear hK
  refine vwp_cond (b := _) (by simp (dsimp := false) only [push_cast, hP, hnt, hgw, hgb, Int.reduceLE, Int.reduceLT, Nat.reduceLT, Nat.reduceEqDiff, Nat.reduceAdd, Nat.reduceSub, Nat.reduceMul, Nat.reduceLeDiff, ↓reduceIte, reduceCtorEq, String.reduceEq]; rfl) (fun rb0 => ?_) (fun rb0 => ?_)
  · have hb0 := rb0
    try simp only [beq_iff_eq, bne_iff_ne, ne_eq, bne_eq_false_iff_eq, beq_eq_false_iff_ne, decide_eq_true_eq, decide_eq_false_iff_not, Bool.not_eq_true', Bool.not_eq_false', Bool.or_eq_true, Bool.and_eq_true, Bool.or_eq_false_iff, Bool.and_eq_false_iff] at hb0
    refine vwp_skip ?_
    apply_assumption
    refine vwp_cond (b := true) (by first | (simp (dsimp := false) only [push_cast, hP, hnt, hgw, hgb, Int.reduceLE, Int.reduceLT, Nat.reduceLT, Nat.reduceEqDiff, Nat.reduceAdd, Nat.reduceSub, Nat.reduceMul, Nat.reduceLeDiff, ↓reduceIte, reduceCtorEq, String.reduceEq, rb0]; rfl) | simp (dsimp := false) only [push_cast, hP, hnt, hgw, hgb, Int.reduceLE, Int.reduceLT, Nat.reduceLT, Nat.reduceEqDiff, Nat.reduceAdd, Nat.reduceSub, Nat.reduceMul, Nat.reduceLeDiff, ↓reduceIte, reduceCtorEq, String.reduceEq, rb0]) (fun hx => ?_) (fun hx => by cases hx)
    refine vwp_skip ?_
    apply_assumption
    refine vwp_seq fun K hK => ?_
    refine vwp_seq_regionG fun K hK => ?_
    simp (dsimp := false) only [push_cast, hP, hnt, hgw, hgb, Int.reduceLE, Int.reduceLT, Nat.reduceLT, Nat.reduceEqDiff, Nat.reduceAdd, Nat.reduceSub, Nat.reduceMul, Nat.reduceLeDiff, ↓reduceIte, reduceCtorEq, String.reduceEq]
    refine guardR_may (by simp (dsimp := false) only [push_cast, hP, hnt, hgw, hgb, Int.reduceLE, Int.reduceLT, Nat.reduceLT, Nat.reduceEqDiff, Nat.reduceAdd, Nat.reduceSub, Nat.reduceMul, Nat.reduceLeDiff, ↓reduceIte, reduceCtorEq, String.reduceEq, List.getElem?_cons_zero, List.getElem?_cons_succ]; rfl) ?_
    simp (dsimp := false) only [push_cast, hP, hnt, hgw, hgb, Int.reduceLE, Int.reduceLT, Nat.reduceLT, Nat.reduceEqDiff, Nat.reduceAdd, Nat.reduceSub, Nat.reduceMul, Nat.reduceLeDiff, ↓reduceIte, reduceCtorEq, String.reduceEq]
    refine guardR_may (by simp (dsimp := false) only [push_cast, hP, hnt, hgw, hgb, Int.reduceLE, Int.reduceLT, Nat.reduceLT, Nat.reduceEqDiff, Nat.reduceAdd, Nat.reduceSub, Nat.reduceMul, Nat.reduceLeDiff, ↓reduceIte, reduceCtorEq, String.reduceEq, List.getElem?_cons_zero, List.getElem?_cons_succ]; rfl) ?_
    simp (dsimp := false) only [push_cast, hP, hnt, hgw, hgb, Int.reduceLE, Int.reduceLT, Nat.reduceLT, Nat.reduceEqDiff, Nat.reduceAdd, Nat.reduceSub, Nat.reduceMul, Nat.reduceLeDiff, ↓reduceIte, reduceCtorEq, String.reduceEq]
    refine guardR_may (by simp (dsimp := false) only [push_cast, hP, hnt, hgw, hgb, Int.reduceLE, Int.reduceLT, Nat.reduceLT, Nat.reduceEqDiff, Nat.reduceAdd, Nat.reduceSub, Nat.reduceMul, Nat.reduceLeDiff, ↓reduceIte, reduceCtorEq, String.reduceEq, List.getElem?_cons_zero, List.getElem?_cons_succ]; rfl) ?_
    simp (dsimp := false) only [push_cast, hP, hnt, hgw, hgb, Int.reduceLE, Int.reduceLT, Nat.reduceLT, Nat.reduceEqDiff, Nat.reduceAdd, Nat.reduceSub, Nat.reduceMul, Nat.reduceLeDiff, ↓reduceIte, reduceCtorEq, String.reduceEq]
    refine guardR_may (by simp (dsimp := false) only [push_cast, hP, hnt, hgw, hgb, Int.reduceLE, Int.reduceLT, Nat.reduceLT, Nat.reduceEqDiff, Nat.reduceAdd, Nat.reduceSub, Nat.reduceMul, Nat.reduceLeDiff, ↓reduceIte, reduceCtorEq, String.reduceEq, List.getElem?_cons_zero, List.getElem?_cons_succ]; rfl) ?_
    simp (dsimp := false) only [push_cast, hP, hnt, hgw, hgb, Int.reduceLE, Int.reduceLT, Nat.reduceLT, Nat.reduceEqDiff, Nat.reduceAdd, Nat.reduceSub, Nat.reduceMul, Nat.reduceLeDiff, ↓reduceIte, reduceCtorEq, String.reduceEq]
    refine hK _ ?_; clear hK
    refine vwp_cond (b := _) (by simp (dsimp := false) only [push_cast, hP, hnt, hgw, hgb, Int.reduceLE, Int.reduceLT, Nat.reduceLT, Nat.reduceEqDiff, Nat.reduceAdd, Nat.reduceSub, Nat.reduceMul, Nat.reduceLeDiff, ↓reduceIte, reduceCtorEq, String.reduceEq]; rfl) (fun rb1 => ?_) (fun rb1 => ?_)
    · have hb1 := rb1
      try simp only [beq_iff_eq, bne_iff_ne, ne_eq, bne_eq_false_iff_eq, beq_eq_false_iff_ne, decide_eq_true_eq, decide_eq_false_iff_not, Bool.not_eq_true', Bool.not_eq_false', Bool.or_eq_true, Bool.and_eq_true, Bool.or_eq_false_iff, Bool.and_eq_false_iff] at hb1
      refine vwp_seq_region rfl fun K hK => ?_
      simp (dsimp := false) only [push_cast, hP, hnt, hgw, hgb, Int.reduceLE, Int.reduceLT, Nat.reduceLT, Nat.reduceEqDiff, Nat.reduceAdd, Nat.reduceSub, Nat.reduceMul, Nat.reduceLeDiff, ↓reduceIte, reduceCtorEq, String.reduceEq]
      refine hK _ ?_; clear hK
      refine vwp_ret ?_
      refine ret_free (by simp (dsimp := false) only [push_cast, hP, hnt, hgw, hgb, Int.reduceLE, Int.reduceLT, Nat.reduceLT, Nat.reduceEqDiff, Nat.reduceAdd, Nat.reduceSub, Nat.reduceMul, Nat.reduceLeDiff, ↓reduceIte, reduceCtorEq, String.reduceEq]; rfl) (by simp (dsimp := false) only [push_cast, hP, hnt, hgw, hgb, Int.reduceLE, Int.reduceLT, Nat.reduceLT, Nat.reduceEqDiff, Nat.reduceAdd, Nat.reduceSub, Nat.reduceMul, Nat.reduceLeDiff, ↓reduceIte, reduceCtorEq, String.reduceEq]) ?_
      first | (simp only [pack, refCheckF, nPrefix, nPhases, nm0, nm1, nm2, nm3, nm4, nm5, rb0, rb1, if_true, if_false, Bool.false_eq_true, reduceIte]; done) | (simp only [pack, refCheckF, nPrefix, nPhases, nm0, nm1, nm2, nm3, nm4, nm5, hb0, hb1, if_true, if_false, ne_eq, not_true_eq_false, not_false_eq_true, true_or, or_true, or_self, ite_self, Bool.true_eq_false, Bool.false_eq_true, or_false, false_or]; done) | (subst_vars; simp only [pack, refCheckF, nPrefix, nPhases, nm0, nm1, nm2, nm3, nm4, nm5, *, if_true, if_false, ne_eq, not_true_eq_false, not_false_eq_true, true_or, or_true, or_self, ite_self, Bool.true_eq_false, Bool.false_eq_true, or_false, false_or]; done) | (simp [pack, refCheckF, nPrefix, nPhases, nm0, nm1, nm2, nm3, nm4, nm5, hb0, hb1] <;> omega)
    · have hb1 := rb1
      try simp only [beq_iff_eq, bne_iff_ne, ne_eq, bne_eq_false_iff_eq, beq_eq_false_iff_ne, decide_eq_true_eq, decide_eq_false_iff_not, Bool.not_eq_true', Bool.not_eq_false', Bool.or_eq_true, Bool.and_eq_true, Bool.or_eq_false_iff, Bool.and_eq_false_iff] at hb1
      refine vwp_skip ?_
      apply_assumption
      refine vwp_seq_region rfl fun K hK => ?_
      simp (dsimp := false) only [push_cast, hP, hnt, hgw, hgb, Int.reduceLE, Int.reduceLT, Nat.reduceLT, Nat.reduceEqDiff, Nat.reduceAdd, Nat.reduceSub, Nat.reduceMul, Nat.reduceLeDiff, ↓reduceIte, reduceCtorEq, String.reduceEq]
      refine hK _ ?_; clear hK
      refine vwp_ret ?_
      refine ret_free (by simp (dsimp := false) only [push_cast, hP, hnt, hgw, hgb, Int.reduceLE, Int.reduceLT, Nat.reduceLT, Nat.reduceEqDiff, Nat.reduceAdd, Nat.reduceSub, Nat.reduceMul, Nat.reduceLeDiff, ↓reduceIte, reduceCtorEq, String.reduceEq]; rfl) (by simp (dsimp := false) only [push_cast, hP, hnt, hgw, hgb, Int.reduceLE, Int.reduceLT, Nat.reduceLT, Nat.reduceEqDiff, Nat.reduceAdd, Nat.reduceSub, Nat.reduceMul, Nat.reduceLeDiff, ↓reduceIte, reduceCtorEq, String.reduceEq]) ?_
      first | (simp only [pack, refCheckF, nPrefix, nPhases, nm0, nm1, nm2, nm3, nm4, nm5, rb0, rb1, if_true, if_false, Bool.false_eq_true, reduceIte]; done) | (simp only [pack, refCheckF, nPrefix, nPhases, nm0, nm1, nm2, nm3, nm4, nm5, hb0, hb1, if_true, if_false, ne_eq, not_true_eq_false, not_false_eq_true, true_or, or_true, or_self, ite_self, Bool.true_eq_false, Bool.false_eq_true, or_false, false_or]; done) | (subst_vars; simp only [pack, refCheckF, nPrefix, nPhases, nm0, nm1, nm2, nm3, nm4, nm5, *, if_true, if_false, ne_eq, not_true_eq_false, not_false_eq_true, true_or, or_true, or_self, ite_self, Bool.true_eq_false, Bool.false_eq_true, or_false, false_or]; done) | (simp [pack, refCheckF, nPrefix, nPhases, nm0, nm1, nm2, nm3, nm4, nm5, hb0, hb1] <;> omega)
  · have hb0 := rb0
    try simp only [beq_iff_eq, bne_iff_ne, ne_eq, bne_eq_false_iff_eq, beq_eq_false_iff_ne, decide_eq_true_eq, decide_eq_false_iff_not, Bool.not_eq_true', Bool.not_eq_false', Bool.or_eq_true, Bool.and_eq_true, Bool.or_eq_false_iff, Bool.and_eq_false_iff] at hb0
    refine vwp_seq_region rfl fun K hK => ?_
    simp (dsimp := false) only [push_cast, hP, hnt, hgw, hgb, Int.reduceLE, Int.reduceLT, Nat.reduceLT, Nat.reduceEqDiff, Nat.reduceAdd, Nat.reduceSub, Nat.reduceMul, Nat.reduceLeDiff, ↓reduceIte, reduceCtorEq, String.reduceEq]
    refine hK _ ?_; clear hK
    refine vwp_cond (b := _) (by simp (dsimp := false) only [push_cast, hP, hnt, hgw, hgb, Int.reduceLE, Int.reduceLT, Nat.reduceLT, Nat.reduceEqDiff, Nat.reduceAdd, Nat.reduceSub, Nat.reduceMul, Nat.reduceLeDiff, ↓reduceIte, reduceCtorEq, String.reduceEq]; rfl) (fun rb2 => ?_) (fun rb2 => ?_)
    · have hb2 := rb2
      try simp only [beq_iff_eq, bne_iff_ne, ne_eq, bne_eq_false_iff_eq, beq_eq_false_iff_ne, decide_eq_true_eq, decide_eq_false_iff_not, Bool.not_eq_true', Bool.not_eq_false', Bool.or_eq_true, Bool.and_eq_true, Bool.or_eq_false_iff, Bool.and_eq_false_iff] at hb2
      refine vwp_skip ?_
      apply_assumption
      refine vwp_cond (b := true) (by first | (simp (dsimp := false) only [push_cast, hP, hnt, hgw, hgb, Int.reduceLE, Int.reduceLT, Nat.reduceLT, Nat.reduceEqDiff, Nat.reduceAdd, Nat.reduceSub, Nat.reduceMul, Nat.reduceLeDiff, ↓reduceIte, reduceCtorEq, String.reduceEq, rb2]; rfl) | simp (dsimp := false) only [push_cast, hP, hnt, hgw, hgb, Int.reduceLE, Int.reduceLT, Nat.reduceLT, Nat.reduceEqDiff, Nat.reduceAdd, Nat.reduceSub, Nat.reduceMul, Nat.reduceLeDiff, ↓reduceIte, reduceCtorEq, String.reduceEq, rb2]) (fun hx => ?_) (fun hx => by cases hx)
      refine vwp_skip ?_
      apply_assumption
      refine vwp_seq fun K hK => ?_
      refine vwp_seq_regionG fun K hK => ?_
      simp (dsimp := false) only [push_cast, hP, hnt, hgw, hgb, Int.reduceLE, Int.reduceLT, Nat.reduceLT, Nat.reduceEqDiff, Nat.reduceAdd, Nat.reduceSub, Nat.reduceMul, Nat.reduceLeDiff, ↓reduceIte, reduceCtorEq, String.reduceEq]
      refine guardR_may (by simp (dsimp := false) only [push_cast, hP, hnt, hgw, hgb, Int.reduceLE, Int.reduceLT, Nat.reduceLT, Nat.reduceEqDiff, Nat.reduceAdd, Nat.reduceSub, Nat.reduceMul, Nat.reduceLeDiff, ↓reduceIte, reduceCtorEq, String.reduceEq, List.getElem?_cons_zero, List.getElem?_cons_succ]; rfl) ?_
      simp (dsimp := false) only [push_cast, hP, hnt, hgw, hgb, Int.reduceLE, Int.reduceLT, Nat.reduceLT, Nat.reduceEqDiff, Nat.reduceAdd, Nat.reduceSub, Nat.reduceMul, Nat.reduceLeDiff, ↓reduceIte, reduceCtorEq, String.reduceEq]
      refine guardR_may (by simp (dsimp := false) only [push_cast, hP, hnt, hgw, hgb, Int.reduceLE, Int.reduceLT, Nat.reduceLT, Nat.reduceEqDiff, Nat.reduceAdd, Nat.reduceSub, Nat.reduceMul, Nat.reduceLeDiff, ↓reduceIte, reduceCtorEq, String.reduceEq, List.getElem?_cons_zero, List.getElem?_cons_succ]; rfl) ?_
      simp (dsimp := false) only [push_cast, hP, hnt, hgw, hgb, Int.reduceLE, Int.reduceLT, Nat.reduceLT, Nat.reduceEqDiff, Nat.reduceAdd, Nat.reduceSub, Nat.reduceMul, Nat.reduceLeDiff, ↓reduceIte, reduceCtorEq, String.reduceEq]
      refine guardR_may (by simp (dsimp := false) only [push_cast, hP, hnt, hgw, hgb, Int.reduceLE, Int.reduceLT, Nat.reduceLT, Nat.reduceEqDiff, Nat.reduceAdd, Nat.reduceSub, Nat.reduceMul, Nat.reduceLeDiff, ↓reduceIte, reduceCtorEq, String.reduceEq, List.getElem?_cons_zero, List.getElem?_cons_succ]; rfl) ?_
      simp (dsimp := false) only [push_cast, hP, hnt, hgw, hgb, Int.reduceLE, Int.reduceLT, Nat.reduceLT, Nat.reduceEqDiff, Nat.reduceAdd, Nat.reduceSub, Nat.reduceMul, Nat.reduceLeDiff, ↓reduceIte, reduceCtorEq, String.reduceEq]
      refine guardR_may (by simp (dsimp := false) only [push_cast, hP, hnt, hgw, hgb, Int.reduceLE, Int.reduceLT, Nat.reduceLT, Nat.reduceEqDiff, Nat.reduceAdd, Nat.reduceSub, Nat.reduceMul, Nat.reduceLeDiff, ↓reduceIte, reduceCtorEq, String.reduceEq, List.getElem?_cons_zero, List.getElem?_cons_succ]; rfl) ?_
      simp (dsimp := false) only [push_cast, hP, hnt, hgw, hgb, Int.reduceLE, Int.reduceLT, Nat.reduceLT, Nat.reduceEqDiff, Nat.reduceAdd, Nat.reduceSub, Nat.reduceMul, Nat.reduceLeDiff, ↓reduceIte, reduceCtorEq, String.reduceEq]
      refine hK _ ?_; clear hK
      refine vwp_cond (b := _) (by simp (dsimp := false) only [push_cast, hP, hnt, hgw, hgb, Int.reduceLE, Int.reduceLT, Nat.reduceLT, Nat.reduceEqDiff, Nat.reduceAdd, Nat.reduceSub, Nat.reduceMul, Nat.reduceLeDiff, ↓reduceIte, reduceCtorEq, String.reduceEq]; rfl) (fun rb3 => ?_) (fun rb3 => ?_)
      · have hb3 := rb3
        try simp only [beq_iff_eq, bne_iff_ne, ne_eq, bne_eq_false_iff_eq, beq_eq_false_iff_ne, decide_eq_true_eq, decide_eq_false_iff_not, Bool.not_eq_true', Bool.not_eq_false', Bool.or_eq_true, Bool.and_eq_true, Bool.or_eq_false_iff, Bool.and_eq_false_iff] at hb3
        refine vwp_seq_region rfl fun K hK => ?_
        simp (dsimp := false) only [push_cast, hP, hnt, hgw, hgb, Int.reduceLE, Int.reduceLT, Nat.reduceLT, Nat.reduceEqDiff, Nat.reduceAdd, Nat.reduceSub, Nat.reduceMul, Nat.reduceLeDiff, ↓reduceIte, reduceCtorEq, String.reduceEq]
        refine hK _ ?_; clear hK
        refine vwp_ret ?_
        refine ret_free (by simp (dsimp := false) only [push_cast, hP, hnt, hgw, hgb, Int.reduceLE, Int.reduceLT, Nat.reduceLT, Nat.reduceEqDiff, Nat.reduceAdd, Nat.reduceSub, Nat.reduceMul, Nat.reduceLeDiff, ↓reduceIte, reduceCtorEq, String.reduceEq]; rfl) (by simp (dsimp := false) only [push_cast, hP, hnt, hgw, hgb, Int.reduceLE, Int.reduceLT, Nat.reduceLT, Nat.reduceEqDiff, Nat.reduceAdd, Nat.reduceSub, Nat.reduceMul, Nat.reduceLeDiff, ↓reduceIte, reduceCtorEq, String.reduceEq]) ?_
        first | (simp only [pack, refCheckF, nPrefix, nPhases, nm0, nm1, nm2, nm3, nm4, nm5, rb0, rb2, rb3, if_true, if_false, Bool.false_eq_true, reduceIte]; done) | (simp only [pack, refCheckF, nPrefix, nPhases, nm0, nm1, nm2, nm3, nm4, nm5, hb0, hb2, hb3, if_true, if_false, ne_eq, not_true_eq_false, not_false_eq_true, true_or, or_true, or_self, ite_self, Bool.true_eq_false, Bool.false_eq_true, or_false, false_or]; done) | (subst_vars; simp only [pack, refCheckF, nPrefix, nPhases, nm0, nm1, nm2, nm3, nm4, nm5, *, if_true, if_false, ne_eq, not_true_eq_false, not_false_eq_true, true_or, or_true, or_self, ite_self, Bool.true_eq_false, Bool.false_eq_true, or_false, false_or]; done) | (simp [pack, refCheckF, nPrefix, nPhases, nm0, nm1, nm2, nm3, nm4, nm5, hb0, hb2, hb3] <;> omega)
      · have hb3 := rb3
        try simp only [beq_iff_eq, bne_iff_ne, ne_eq, bne_eq_false_iff_eq, beq_eq_false_iff_ne, decide_eq_true_eq, decide_eq_false_iff_not, Bool.not_eq_true', Bool.not_eq_false', Bool.or_eq_true, Bool.and_eq_true, Bool.or_eq_false_iff, Bool.and_eq_false_iff] at hb3
        refine vwp_skip ?_
        apply_assumption
        refine vwp_seq_region rfl fun K hK => ?_
        simp (dsimp := false) only [push_cast, hP, hnt, hgw, hgb, Int.reduceLE, Int.reduceLT, Nat.reduceLT, Nat.reduceEqDiff, Nat.reduceAdd, Nat.reduceSub, Nat.reduceMul, Nat.reduceLeDiff, ↓reduceIte, reduceCtorEq, String.reduceEq]
        refine hK _ ?_; clear hK
        refine vwp_ret ?_
        refine ret_free (by simp (dsimp := false) only [push_cast, hP, hnt, hgw, hgb, Int.reduceLE, Int.reduceLT, Nat.reduceLT, Nat.reduceEqDiff, Nat.reduceAdd, Nat.reduceSub, Nat.reduceMul, Nat.reduceLeDiff, ↓reduceIte, reduceCtorEq, String.reduceEq]; rfl) (by simp (dsimp := false) only [push_cast, hP, hnt, hgw, hgb, Int.reduceLE, Int.reduceLT, Nat.reduceLT, Nat.reduceEqDiff, Nat.reduceAdd, Nat.reduceSub, Nat.reduceMul, Nat.reduceLeDiff, ↓reduceIte, reduceCtorEq, String.reduceEq]) ?_
        first | (simp only [pack, refCheckF, nPrefix, nPhases, nm0, nm1, nm2, nm3, nm4, nm5, rb0, rb2, rb3, if_true, if_false, Bool.false_eq_true, reduceIte]; done) | (simp only [pack, refCheckF, nPrefix, nPhases, nm0, nm1, nm2, nm3, nm4, nm5, hb0, hb2, hb3, if_true, if_false, ne_eq, not_true_eq_false, not_false_eq_true, true_or, or_true, or_self, ite_self, Bool.true_eq_false, Bool.false_eq_true, or_false, false_or]; done) | (subst_vars; simp only [pack, refCheckF, nPrefix, nPhases, nm0, nm1, nm2, nm3, nm4, nm5, *, if_true, if_false, ne_eq, not_true_eq_false, not_false_eq_true, true_or, or_true, or_self, ite_self, Bool.true_eq_false, Bool.false_eq_true, or_false, false_or]; done) | (simp [pack, refCheckF, nPrefix, nPhases, nm0, nm1, nm2, nm3, nm4, nm5, hb0, hb2, hb3] <;> omega)
    · have hb2 := rb2
      try simp only [beq_iff_eq, bne_iff_ne, ne_eq, bne_eq_false_iff_eq, beq_eq_false_iff_ne, decide_eq_true_eq, decide_eq_false_iff_not, Bool.not_eq_true', Bool.not_eq_false', Bool.or_eq_true, Bool.and_eq_true, Bool.or_eq_false_iff, Bool.and_eq_false_iff] at hb2
      refine vwp_seq_region rfl fun K hK => ?_
      simp (dsimp := false) only [push_cast, hP, hnt, hgw, hgb, Int.reduceLE, Int.reduceLT, Nat.reduceLT, Nat.reduceEqDiff, Nat.reduceAdd, Nat.reduceSub, Nat.reduceMul, Nat.reduceLeDiff, ↓reduceIte, reduceCtorEq, String.reduceEq]
      refine hK _ ?_; clear hK
      refine vwp_cond (b := _) (by simp (dsimp := false) only [push_cast, hP, hnt, hgw, hgb, Int.reduceLE, Int.reduceLT, Nat.reduceLT, Nat.reduceEqDiff, Nat.reduceAdd, Nat.reduceSub, Nat.reduceMul, Nat.reduceLeDiff, ↓reduceIte, reduceCtorEq, String.reduceEq]; rfl) (fun rb4 => ?_) (fun rb4 => ?_)
      · have hb4 := rb4
        try simp only [beq_iff_eq, bne_iff_ne, ne_eq, bne_eq_false_iff_eq, beq_eq_false_iff_ne, decide_eq_true_eq, decide_eq_false_iff_not, Bool.not_eq_true', Bool.not_eq_false', Bool.or_eq_true, Bool.and_eq_true, Bool.or_eq_false_iff, Bool.and_eq_false_iff] at hb4
        refine vwp_skip ?_
        apply_assumption
        refine vwp_cond (b := true) (by first | (simp (dsimp := false) only [push_cast, hP, hnt, hgw, hgb, Int.reduceLE, Int.reduceLT, Nat.reduceLT, Nat.reduceEqDiff, Nat.reduceAdd, Nat.reduceSub, Nat.reduceMul, Nat.reduceLeDiff, ↓reduceIte, reduceCtorEq, String.reduceEq, rb4]; rfl) | simp (dsimp := false) only [push_cast, hP, hnt, hgw, hgb, Int.reduceLE, Int.reduceLT, Nat.reduceLT, Nat.reduceEqDiff, Nat.reduceAdd, Nat.reduceSub, Nat.reduceMul, Nat.reduceLeDiff, ↓reduceIte, reduceCtorEq, String.reduceEq, rb4]) (fun hx => ?_) (fun hx => by cases hx)
        refine vwp_skip ?_
        apply_assumption
        refine vwp_seq fun K hK => ?_
        refine vwp_seq_regionG fun K hK => ?_
        simp (dsimp := false) only [push_cast, hP, hnt, hgw, hgb, Int.reduceLE, Int.reduceLT, Nat.reduceLT, Nat.reduceEqDiff, Nat.reduceAdd, Nat.reduceSub, Nat.reduceMul, Nat.reduceLeDiff, ↓reduceIte, reduceCtorEq, String.reduceEq]
        refine guardR_may (by simp (dsimp := false) only [push_cast, hP, hnt, hgw, hgb, Int.reduceLE, Int.reduceLT, Nat.reduceLT, Nat.reduceEqDiff, Nat.reduceAdd, Nat.reduceSub, Nat.reduceMul, Nat.reduceLeDiff, ↓reduceIte, reduceCtorEq, String.reduceEq, List.getElem?_cons_zero, List.getElem?_cons_succ]; rfl) ?_
        simp (dsimp := false) only [push_cast, hP, hnt, hgw, hgb, Int.reduceLE, Int.reduceLT, Nat.reduceLT, Nat.reduceEqDiff, Nat.reduceAdd, Nat.reduceSub, Nat.reduceMul, Nat.reduceLeDiff, ↓reduceIte, reduceCtorEq, String.reduceEq]
        refine guardR_may (by simp (dsimp := false) only [push_cast, hP, hnt, hgw, hgb, Int.reduceLE, Int.reduceLT, Nat.reduceLT, Nat.reduceEqDiff, Nat.reduceAdd, Nat.reduceSub, Nat.reduceMul, Nat.reduceLeDiff, ↓reduceIte, reduceCtorEq, String.reduceEq, List.getElem?_cons_zero, List.getElem?_cons_succ]; rfl) ?_
        simp (dsimp := false) only [push_cast, hP, hnt, hgw, hgb, Int.reduceLE, Int.reduceLT, Nat.reduceLT, Nat.reduceEqDiff, Nat.reduceAdd, Nat.reduceSub, Nat.reduceMul, Nat.reduceLeDiff, ↓reduceIte, reduceCtorEq, String.reduceEq]
        refine guardR_may (by simp (dsimp := false) only [push_cast, hP, hnt, hgw, hgb, Int.reduceLE, Int.reduceLT, Nat.reduceLT, Nat.reduceEqDiff, Nat.reduceAdd, Nat.reduceSub, Nat.reduceMul, Nat.reduceLeDiff, ↓reduceIte, reduceCtorEq, String.reduceEq, List.getElem?_cons_zero, List.getElem?_cons_succ]; rfl) ?_
        simp (dsimp := false) only [push_cast, hP, hnt, hgw, hgb, Int.reduceLE, Int.reduceLT, Nat.reduceLT, Nat.reduceEqDiff, Nat.reduceAdd, Nat.reduceSub, Nat.reduceMul, Nat.reduceLeDiff, ↓reduceIte, reduceCtorEq, String.reduceEq]
        refine guardR_may (by simp (dsimp := false) only [push_cast, hP, hnt, hgw, hgb, Int.reduceLE, Int.reduceLT, Nat.reduceLT, Nat.reduceEqDiff, Nat.reduceAdd, Nat.reduceSub, Nat.reduceMul, Nat.reduceLeDiff, ↓reduceIte, reduceCtorEq, String.reduceEq, List.getElem?_cons_zero, List.getElem?_cons_succ]; rfl) ?_
        simp (dsimp := false) only [push_cast, hP, hnt, hgw, hgb, Int.reduceLE, Int.reduceLT, Nat.reduceLT, Nat.reduceEqDiff, Nat.reduceAdd, Nat.reduceSub, Nat.reduceMul, Nat.reduceLeDiff, ↓reduceIte, reduceCtorEq, String.reduceEq]
        refine hK _ ?_; clear hK
        refine vwp_cond (b := _) (by simp (dsimp := false) only [push_cast, hP, hnt, hgw, hgb, Int.reduceLE, Int.reduceLT, Nat.reduceLT, Nat.reduceEqDiff, Nat.reduceAdd, Nat.reduceSub, Nat.reduceMul, Nat.reduceLeDiff, ↓reduceIte, reduceCtorEq, String.reduceEq]; rfl) (fun rb5 => ?_) (fun rb5 => ?_)
        · have hb5 := rb5
          try simp only [beq_iff_eq, bne_iff_ne, ne_eq, bne_eq_false_iff_eq, beq_eq_false_iff_ne, decide_eq_true_eq, decide_eq_false_iff_not, Bool.not_eq_true', Bool.not_eq_false', Bool.or_eq_true, Bool.and_eq_true, Bool.or_eq_false_iff, Bool.and_eq_false_iff] at hb5
          refine vwp_seq_region rfl fun K hK => ?_
          simp (dsimp := false) only [push_cast, hP, hnt, hgw, hgb, Int.reduceLE, Int.reduceLT, Nat.reduceLT, Nat.reduceEqDiff, Nat.reduceAdd, Nat.reduceSub, Nat.reduceMul, Nat.reduceLeDiff, ↓reduceIte, reduceCtorEq, String.reduceEq]
          refine hK _ ?_; clear hK
          refine vwp_ret ?_
          refine ret_free (by simp (dsimp := false) only [push_cast, hP, hnt, hgw, hgb, Int.reduceLE, Int.reduceLT, Nat.reduceLT, Nat.reduceEqDiff, Nat.reduceAdd, Nat.reduceSub, Nat.reduceMul, Nat.reduceLeDiff, ↓reduceIte, reduceCtorEq, String.reduceEq]; rfl) (by simp (dsimp := false) only [push_cast, hP, hnt, hgw, hgb, Int.reduceLE, Int.reduceLT, Nat.reduceLT, Nat.reduceEqDiff, Nat.reduceAdd, Nat.reduceSub, Nat.reduceMul, Nat.reduceLeDiff, ↓reduceIte, reduceCtorEq, String.reduceEq]) ?_
          first | (simp only [pack, refCheckF, nPrefix, nPhases, nm0, nm1, nm2, nm3, nm4, nm5, rb0, rb2, rb4, rb5, if_true, if_false, Bool.false_eq_true, reduceIte]; done) | (simp only [pack, refCheckF, nPrefix, nPhases, nm0, nm1, nm2, nm3, nm4, nm5, hb0, hb2, hb4, hb5, if_true, if_false, ne_eq, not_true_eq_false, not_false_eq_true, true_or, or_true, or_self, ite_self, Bool.true_eq_false, Bool.false_eq_true, or_false, false_or]; done) | (subst_vars; simp only [pack, refCheckF, nPrefix, nPhases, nm0, nm1, nm2, nm3, nm4, nm5, *, if_true, if_false, ne_eq, not_true_eq_false, not_false_eq_true, true_or, or_true, or_self, ite_self, Bool.true_eq_false, Bool.false_eq_true, or_false, false_or]; done) | (simp [pack, refCheckF, nPrefix, nPhases, nm0, nm1, nm2, nm3, nm4, nm5, hb0, hb2, hb4, hb5] <;> omega)
        · have hb5 := rb5
          try simp only [beq_iff_eq, bne_iff_ne, ne_eq, bne_eq_false_iff_eq, beq_eq_false_iff_ne, decide_eq_true_eq, decide_eq_false_iff_not, Bool.not_eq_true', Bool.not_eq_false', Bool.or_eq_true, Bool.and_eq_true, Bool.or_eq_false_iff, Bool.and_eq_false_iff] at hb5
          refine vwp_skip ?_
          apply_assumption
          refine vwp_seq_region rfl fun K hK => ?_
          simp (dsimp := false) only [push_cast, hP, hnt, hgw, hgb, Int.reduceLE, Int.reduceLT, Nat.reduceLT, Nat.reduceEqDiff, Nat.reduceAdd, Nat.reduceSub, Nat.reduceMul, Nat.reduceLeDiff, ↓reduceIte, reduceCtorEq, String.reduceEq]
          refine hK _ ?_; clear hK
          refine vwp_ret ?_
          refine ret_free (by simp (dsimp := false) only [push_cast, hP, hnt, hgw, hgb, Int.reduceLE, Int.reduceLT, Nat.reduceLT, Nat.reduceEqDiff, Nat.reduceAdd, Nat.reduceSub, Nat.reduceMul, Nat.reduceLeDiff, ↓reduceIte, reduceCtorEq, String.reduceEq]; rfl) (by simp (dsimp := false) only [push_cast, hP, hnt, hgw, hgb, Int.reduceLE, Int.reduceLT, Nat.reduceLT, Nat.reduceEqDiff, Nat.reduceAdd, Nat.reduceSub, Nat.reduceMul, Nat.reduceLeDiff, ↓reduceIte, reduceCtorEq, String.reduceEq]) ?_
          first | (simp only [pack, refCheckF, nPrefix, nPhases, nm0, nm1, nm2, nm3, nm4, nm5, rb0, rb2, rb4, rb5, if_true, if_false, Bool.false_eq_true, reduceIte]; done) | (simp only [pack, refCheckF, nPrefix, nPhases, nm0, nm1, nm2, nm3, nm4, nm5, hb0, hb2, hb4, hb5, if_true, if_false, ne_eq, not_true_eq_false, not_false_eq_true, true_or, or_true, or_self, ite_self, Bool.true_eq_false, Bool.false_eq_true, or_false, false_or]; done) | (subst_vars; simp only [pack, refCheckF, nPrefix, nPhases, nm0, nm1, nm2, nm3, nm4, nm5, *, if_true, if_false, ne_eq, not_true_eq_false, not_false_eq_true, true_or, or_true, or_self, ite_self, Bool.true_eq_false, Bool.false_eq_true, or_false, false_or]; done) | (simp [pack, refCheckF, nPrefix, nPhases, nm0, nm1, nm2, nm3, nm4, nm5, hb0, hb2, hb4, hb5] <;> omega)
      · have hb4 := rb4
        try simp only [beq_iff_eq, bne_iff_ne, ne_eq, bne_eq_false_iff_eq, beq_eq_false_iff_ne, decide_eq_true_eq, decide_eq_false_iff_not, Bool.not_eq_true', Bool.not_eq_false', Bool.or_eq_true, Bool.and_eq_true, Bool.or_eq_false_iff, Bool.and_eq_false_iff] at hb4
        refine vwp_seq_region rfl fun K hK => ?_
        simp (dsimp := false) only [push_cast, hP, hnt, hgw, hgb, Int.reduceLE, Int.reduceLT, Nat.reduceLT, Nat.reduceEqDiff, Nat.reduceAdd, Nat.reduceSub, Nat.reduceMul, Nat.reduceLeDiff, ↓reduceIte, reduceCtorEq, String.reduceEq]
        refine hK _ ?_; clear hK
        refine vwp_cond (b := _) (by simp (dsimp := false) only [push_cast, hP, hnt, hgw, hgb, Int.reduceLE, Int.reduceLT, Nat.reduceLT, Nat.reduceEqDiff, Nat.reduceAdd, Nat.reduceSub, Nat.reduceMul, Nat.reduceLeDiff, ↓reduceIte, reduceCtorEq, String.reduceEq]; rfl) (fun rb6 => ?_) (fun rb6 => ?_)
        · have hb6 := rb6
          try simp only [beq_iff_eq, bne_iff_ne, ne_eq, bne_eq_false_iff_eq, beq_eq_false_iff_ne, decide_eq_true_eq, decide_eq_false_iff_not, Bool.not_eq_true', Bool.not_eq_false', Bool.or_eq_true, Bool.and_eq_true, Bool.or_eq_false_iff, Bool.and_eq_false_iff] at hb6
          refine vwp_skip ?_
          apply_assumption
          refine vwp_cond (b := true) (by first | (simp (dsimp := false) only [push_cast, hP, hnt, hgw, hgb, Int.reduceLE, Int.reduceLT, Nat.reduceLT, Nat.reduceEqDiff, Nat.reduceAdd, Nat.reduceSub, Nat.reduceMul, Nat.reduceLeDiff, ↓reduceIte, reduceCtorEq, String.reduceEq, rb6]; rfl) | simp (dsimp := false) only [push_cast, hP, hnt, hgw, hgb, Int.reduceLE, Int.reduceLT, Nat.reduceLT, Nat.reduceEqDiff, Nat.reduceAdd, Nat.reduceSub, Nat.reduceMul, Nat.reduceLeDiff, ↓reduceIte, reduceCtorEq, String.reduceEq, rb6]) (fun hx => ?_) (fun hx => by cases hx)
          refine vwp_skip ?_
          apply_assumption
          refine vwp_seq fun K hK => ?_
          refine vwp_seq_regionG fun K hK => ?_
          simp (dsimp := false) only [push_cast, hP, hnt, hgw, hgb, Int.reduceLE, Int.reduceLT, Nat.reduceLT, Nat.reduceEqDiff, Nat.reduceAdd, Nat.reduceSub, Nat.reduceMul, Nat.reduceLeDiff, ↓reduceIte, reduceCtorEq, String.reduceEq]
          refine guardR_may (by simp (dsimp := false) only [push_cast, hP, hnt, hgw, hgb, Int.reduceLE, Int.reduceLT, Nat.reduceLT, Nat.reduceEqDiff, Nat.reduceAdd, Nat.reduceSub, Nat.reduceMul, Nat.reduceLeDiff, ↓reduceIte, reduceCtorEq, String.reduceEq, List.getElem?_cons_zero, List.getElem?_cons_succ]; rfl) ?_
          simp (dsimp := false) only [push_cast, hP, hnt, hgw, hgb, Int.reduceLE, Int.reduceLT, Nat.reduceLT, Nat.reduceEqDiff, Nat.reduceAdd, Nat.reduceSub, Nat.reduceMul, Nat.reduceLeDiff, ↓reduceIte, reduceCtorEq, String.reduceEq]
          refine guardR_may (by simp (dsimp := false) only [push_cast, hP, hnt, hgw, hgb, Int.reduceLE, Int.reduceLT, Nat.reduceLT, Nat.reduceEqDiff, Nat.reduceAdd, Nat.reduceSub, Nat.reduceMul, Nat.reduceLeDiff, ↓reduceIte, reduceCtorEq, String.reduceEq, List.getElem?_cons_zero, List.getElem?_cons_succ]; rfl) ?_
          simp (dsimp := false) only [push_cast, hP, hnt, hgw, hgb, Int.reduceLE, Int.reduceLT, Nat.reduceLT, Nat.reduceEqDiff, Nat.reduceAdd, Nat.reduceSub, Nat.reduceMul, Nat.reduceLeDiff, ↓reduceIte, reduceCtorEq, String.reduceEq]
          refine guardR_may (by simp (dsimp := false) only [push_cast, hP, hnt, hgw, hgb, Int.reduceLE, Int.reduceLT, Nat.reduceLT, Nat.reduceEqDiff, Nat.reduceAdd, Nat.reduceSub, Nat.reduceMul, Nat.reduceLeDiff, ↓reduceIte, reduceCtorEq, String.reduceEq, List.getElem?_cons_zero, List.getElem?_cons_succ]; rfl) ?_
          simp (dsimp := false) only [push_cast, hP, hnt, hgw, hgb, Int.reduceLE, Int.reduceLT, Nat.reduceLT, Nat.reduceEqDiff, Nat.reduceAdd, Nat.reduceSub, Nat.reduceMul, Nat.reduceLeDiff, ↓reduceIte, reduceCtorEq, String.reduceEq]
          refine guardR_may (by simp (dsimp := false) only [push_cast, hP, hnt, hgw, hgb, Int.reduceLE, Int.reduceLT, Nat.reduceLT, Nat.reduceEqDiff, Nat.reduceAdd, Nat.reduceSub, Nat.reduceMul, Nat.reduceLeDiff, ↓reduceIte, reduceCtorEq, String.reduceEq, List.getElem?_cons_zero, List.getElem?_cons_succ]; rfl) ?_
          simp (dsimp := false) only [push_cast, hP, hnt, hgw, hgb, Int.reduceLE, Int.reduceLT, Nat.reduceLT, Nat.reduceEqDiff, Nat.reduceAdd, Nat.reduceSub, Nat.reduceMul, Nat.reduceLeDiff, ↓reduceIte, reduceCtorEq, String.reduceEq]
          refine hK _ ?_; clear hK
          refine vwp_cond (b := _) (by simp (dsimp := false) only [push_cast, hP, hnt, hgw, hgb, Int.reduceLE, Int.reduceLT, Nat.reduceLT, Nat.reduceEqDiff, Nat.reduceAdd, Nat.reduceSub, Nat.reduceMul, Nat.reduceLeDiff, ↓reduceIte, reduceCtorEq, String.reduceEq]; rfl) (fun rb7 => ?_) (fun rb7 => ?_)
          · have hb7 := rb7
            try simp only [beq_iff_eq, bne_iff_ne, ne_eq, bne_eq_false_iff_eq, beq_eq_false_iff_ne, decide_eq_true_eq, decide_eq_false_iff_not, Bool.not_eq_true', Bool.not_eq_false', Bool.or_eq_true, Bool.and_eq_true, Bool.or_eq_false_iff, Bool.and_eq_false_iff] at hb7
            refine vwp_seq_region rfl fun K hK => ?_
            simp (dsimp := false) only [push_cast, hP, hnt, hgw, hgb, Int.reduceLE, Int.reduceLT, Nat.reduceLT, Nat.reduceEqDiff, Nat.reduceAdd, Nat.reduceSub, Nat.reduceMul, Nat.reduceLeDiff, ↓reduceIte, reduceCtorEq, String.reduceEq]
            refine hK _ ?_; clear hK
            refine vwp_ret ?_
            refine ret_free (by simp (dsimp := false) only [push_cast, hP, hnt, hgw, hgb, Int.reduceLE, Int.reduceLT, Nat.reduceLT, Nat.reduceEqDiff, Nat.reduceAdd, Nat.reduceSub, Nat.reduceMul, Nat.reduceLeDiff, ↓reduceIte, reduceCtorEq, String.reduceEq]; rfl) (by simp (dsimp := false) only [push_cast, hP, hnt, hgw, hgb, Int.reduceLE, Int.reduceLT, Nat.reduceLT, Nat.reduceEqDiff, Nat.reduceAdd, Nat.reduceSub, Nat.reduceMul, Nat.reduceLeDiff, ↓reduceIte, reduceCtorEq, String.reduceEq]) ?_
            first | (simp only [pack, refCheckF, nPrefix, nPhases, nm0, nm1, nm2, nm3, nm4, nm5, rb0, rb2, rb4, rb6, rb7, if_true, if_false, Bool.false_eq_true, reduceIte]; done) | (simp only [pack, refCheckF, nPrefix, nPhases, nm0, nm1, nm2, nm3, nm4, nm5, hb0, hb2, hb4, hb6, hb7, if_true, if_false, ne_eq, not_true_eq_false, not_false_eq_true, true_or, or_true, or_self, ite_self, Bool.true_eq_false, Bool.false_eq_true, or_false, false_or]; done) | (subst_vars; simp only [pack, refCheckF, nPrefix, nPhases, nm0, nm1, nm2, nm3, nm4, nm5, *, if_true, if_false, ne_eq, not_true_eq_false, not_false_eq_true, true_or, or_true, or_self, ite_self, Bool.true_eq_false, Bool.false_eq_true, or_false, false_or]; done) | (simp [pack, refCheckF, nPrefix, nPhases, nm0, nm1, nm2, nm3, nm4, nm5, hb0, hb2, hb4, hb6, hb7] <;> omega)
          · have hb7 := rb7
            try simp only [beq_iff_eq, bne_iff_ne, ne_eq, bne_eq_false_iff_eq, beq_eq_false_iff_ne, decide_eq_true_eq, decide_eq_false_iff_not, Bool.not_eq_true', Bool.not_eq_false', Bool.or_eq_true, Bool.and_eq_true, Bool.or_eq_false_iff, Bool.and_eq_false_iff] at hb7
            refine vwp_skip ?_
            apply_assumption
            refine vwp_seq_region rfl fun K hK => ?_
            simp (dsimp := false) only [push_cast, hP, hnt, hgw, hgb, Int.reduceLE, Int.reduceLT, Nat.reduceLT, Nat.reduceEqDiff, Nat.reduceAdd, Nat.reduceSub, Nat.reduceMul, Nat.reduceLeDiff, ↓reduceIte, reduceCtorEq, String.reduceEq]
            refine hK _ ?_; clear hK
            refine vwp_ret ?_
            refine ret_free (by simp (dsimp := false) only [push_cast, hP, hnt, hgw, hgb, Int.reduceLE, Int.reduceLT, Nat.reduceLT, Nat.reduceEqDiff, Nat.reduceAdd, Nat.reduceSub, Nat.reduceMul, Nat.reduceLeDiff, ↓reduceIte, reduceCtorEq, String.reduceEq]; rfl) (by simp (dsimp := false) only [push_cast, hP, hnt, hgw, hgb, Int.reduceLE, Int.reduceLT, Nat.reduceLT, Nat.reduceEqDiff, Nat.reduceAdd, Nat.reduceSub, Nat.reduceMul, Nat.reduceLeDiff, ↓reduceIte, reduceCtorEq, String.reduceEq]) ?_
            first | (simp only [pack, refCheckF, nPrefix, nPhases, nm0, nm1, nm2, nm3, nm4, nm5, rb0, rb2, rb4, rb6, rb7, if_true, if_false, Bool.false_eq_true, reduceIte]; done) | (simp only [pack, refCheckF, nPrefix, nPhases, nm0, nm1, nm2, nm3, nm4, nm5, hb0, hb2, hb4, hb6, hb7, if_true, if_false, ne_eq, not_true_eq_false, not_false_eq_true, true_or, or_true, or_self, ite_self, Bool.true_eq_false, Bool.false_eq_true, or_false, false_or]; done) | (subst_vars; simp only [pack, refCheckF, nPrefix, nPhases, nm0, nm1, nm2, nm3, nm4, nm5, *, if_true, if_false, ne_eq, not_true_eq_false, not_false_eq_true, true_or, or_true, or_self, ite_self, Bool.true_eq_false, Bool.false_eq_true, or_false, false_or]; done) | (simp [pack, refCheckF, nPrefix, nPhases, nm0, nm1, nm2, nm3, nm4, nm5, hb0, hb2, hb4, hb6, hb7] <;> omega)
        · have hb6 := rb6
          try simp only [beq_iff_eq, bne_iff_ne, ne_eq, bne_eq_false_iff_eq, beq_eq_false_iff_ne, decide_eq_true_eq, decide_eq_false_iff_not, Bool.not_eq_true', Bool.not_eq_false', Bool.or_eq_true, Bool.and_eq_true, Bool.or_eq_false_iff, Bool.and_eq_false_iff] at hb6
          refine vwp_seq_region rfl fun K hK => ?_
          simp (dsimp := false) only [push_cast, hP, hnt, hgw, hgb, Int.reduceLE, Int.reduceLT, Nat.reduceLT, Nat.reduceEqDiff, Nat.reduceAdd, Nat.reduceSub, Nat.reduceMul, Nat.reduceLeDiff, ↓reduceIte, reduceCtorEq, String.reduceEq]
          refine hK _ ?_; clear hK
          refine vwp_cond (b := _) (by simp (dsimp := false) only [push_cast, hP, hnt, hgw, hgb, Int.reduceLE, Int.reduceLT, Nat.reduceLT, Nat.reduceEqDiff, Nat.reduceAdd, Nat.reduceSub, Nat.reduceMul, Nat.reduceLeDiff, ↓reduceIte, reduceCtorEq, String.reduceEq]; rfl) (fun rb8 => ?_) (fun rb8 => ?_)
          · have hb8 := rb8
            try simp only [beq_iff_eq, bne_iff_ne, ne_eq, bne_eq_false_iff_eq, beq_eq_false_iff_ne, decide_eq_true_eq, decide_eq_false_iff_not, Bool.not_eq_true', Bool.not_eq_false', Bool.or_eq_true, Bool.and_eq_true, Bool.or_eq_false_iff, Bool.and_eq_false_iff] at hb8
            refine vwp_skip ?_
            apply_assumption
            refine vwp_cond (b := true) (by first | (simp (dsimp := false) only [push_cast, hP, hnt, hgw, hgb, Int.reduceLE, Int.reduceLT, Nat.reduceLT, Nat.reduceEqDiff, Nat.reduceAdd, Nat.reduceSub, Nat.reduceMul, Nat.reduceLeDiff, ↓reduceIte, reduceCtorEq, String.reduceEq, rb8]; rfl) | simp (dsimp := false) only [push_cast, hP, hnt, hgw, hgb, Int.reduceLE, Int.reduceLT, Nat.reduceLT, Nat.reduceEqDiff, Nat.reduceAdd, Nat.reduceSub, Nat.reduceMul, Nat.reduceLeDiff, ↓reduceIte, reduceCtorEq, String.reduceEq, rb8]) (fun hx => ?_) (fun hx => by cases hx)
            refine vwp_skip ?_
            apply_assumption
            refine vwp_seq fun K hK => ?_
            refine vwp_seq_regionG fun K hK => ?_
            simp (dsimp := false) only [push_cast, hP, hnt, hgw, hgb, Int.reduceLE, Int.reduceLT, Nat.reduceLT, Nat.reduceEqDiff, Nat.reduceAdd, Nat.reduceSub, Nat.reduceMul, Nat.reduceLeDiff, ↓reduceIte, reduceCtorEq, String.reduceEq]
            refine guardR_may (by simp (dsimp := false) only [push_cast, hP, hnt, hgw, hgb, Int.reduceLE, Int.reduceLT, Nat.reduceLT, Nat.reduceEqDiff, Nat.reduceAdd, Nat.reduceSub, Nat.reduceMul, Nat.reduceLeDiff, ↓reduceIte, reduceCtorEq, String.reduceEq, List.getElem?_cons_zero, List.getElem?_cons_succ]; rfl) ?_
            simp (dsimp := false) only [push_cast, hP, hnt, hgw, hgb, Int.reduceLE, Int.reduceLT, Nat.reduceLT, Nat.reduceEqDiff, Nat.reduceAdd, Nat.reduceSub, Nat.reduceMul, Nat.reduceLeDiff, ↓reduceIte, reduceCtorEq, String.reduceEq]
            refine guardR_may (by simp (dsimp := false) only [push_cast, hP, hnt, hgw, hgb, Int.reduceLE, Int.reduceLT, Nat.reduceLT, Nat.reduceEqDiff, Nat.reduceAdd, Nat.reduceSub, Nat.reduceMul, Nat.reduceLeDiff, ↓reduceIte, reduceCtorEq, String.reduceEq, List.getElem?_cons_zero, List.getElem?_cons_succ]; rfl) ?_
            simp (dsimp := false) only [push_cast, hP, hnt, hgw, hgb, Int.reduceLE, Int.reduceLT, Nat.reduceLT, Nat.reduceEqDiff, Nat.reduceAdd, Nat.reduceSub, Nat.reduceMul, Nat.reduceLeDiff, ↓reduceIte, reduceCtorEq, String.reduceEq]
            refine guardR_may (by simp (dsimp := false) only [push_cast, hP, hnt, hgw, hgb, Int.reduceLE, Int.reduceLT, Nat.reduceLT, Nat.reduceEqDiff, Nat.reduceAdd, Nat.reduceSub, Nat.reduceMul, Nat.reduceLeDiff, ↓reduceIte, reduceCtorEq, String.reduceEq, List.getElem?_cons_zero, List.getElem?_cons_succ]; rfl) ?_
            simp (dsimp := false) only [push_cast, hP, hnt, hgw, hgb, Int.reduceLE, Int.reduceLT, Nat.reduceLT, Nat.reduceEqDiff, Nat.reduceAdd, Nat.reduceSub, Nat.reduceMul, Nat.reduceLeDiff, ↓reduceIte, reduceCtorEq, String.reduceEq]
            refine guardR_may (by simp (dsimp := false) only [push_cast, hP, hnt, hgw, hgb, Int.reduceLE, Int.reduceLT, Nat.reduceLT, Nat.reduceEqDiff, Nat.reduceAdd, Nat.reduceSub, Nat.reduceMul, Nat.reduceLeDiff, ↓reduceIte, reduceCtorEq, String.reduceEq, List.getElem?_cons_zero, List.getElem?_cons_succ]; rfl) ?_
            simp (dsimp := false) only [push_cast, hP, hnt, hgw, hgb, Int.reduceLE, Int.reduceLT, Nat.reduceLT, Nat.reduceEqDiff, Nat.reduceAdd, Nat.reduceSub, Nat.reduceMul, Nat.reduceLeDiff, ↓reduceIte, reduceCtorEq, String.reduceEq]
            refine hK _ ?_; clear hK
            refine vwp_cond (b := _) (by simp (dsimp := false) only [push_cast, hP, hnt, hgw, hgb, Int.reduceLE, Int.reduceLT, Nat.reduceLT, Nat.reduceEqDiff, Nat.reduceAdd, Nat.reduceSub, Nat.reduceMul, Nat.reduceLeDiff, ↓reduceIte, reduceCtorEq, String.reduceEq]; rfl) (fun rb9 => ?_) (fun rb9 => ?_)
            · have hb9 := rb9
              try simp only [beq_iff_eq, bne_iff_ne, ne_eq, bne_eq_false_iff_eq, beq_eq_false_iff_ne, decide_eq_true_eq, decide_eq_false_iff_not, Bool.not_eq_true', Bool.not_eq_false', Bool.or_eq_true, Bool.and_eq_true, Bool.or_eq_false_iff, Bool.and_eq_false_iff] at hb9
              refine vwp_seq_region rfl fun K hK => ?_
              simp (dsimp := false) only [push_cast, hP, hnt, hgw, hgb, Int.reduceLE, Int.reduceLT, Nat.reduceLT, Nat.reduceEqDiff, Nat.reduceAdd, Nat.reduceSub, Nat.reduceMul, Nat.reduceLeDiff, ↓reduceIte, reduceCtorEq, String.reduceEq]
              refine hK _ ?_; clear hK
              refine vwp_ret ?_
              refine ret_free (by simp (dsimp := false) only [push_cast, hP, hnt, hgw, hgb, Int.reduceLE, Int.reduceLT, Nat.reduceLT, Nat.reduceEqDiff, Nat.reduceAdd, Nat.reduceSub, Nat.reduceMul, Nat.reduceLeDiff, ↓reduceIte, reduceCtorEq, String.reduceEq]; rfl) (by simp (dsimp := false) only [push_cast, hP, hnt, hgw, hgb, Int.reduceLE, Int.reduceLT, Nat.reduceLT, Nat.reduceEqDiff, Nat.reduceAdd, Nat.reduceSub, Nat.reduceMul, Nat.reduceLeDiff, ↓reduceIte, reduceCtorEq, String.reduceEq]) ?_
              first | (simp only [pack, refCheckF, nPrefix, nPhases, nm0, nm1, nm2, nm3, nm4, nm5, rb0, rb2, rb4, rb6, rb8, rb9, if_true, if_false, Bool.false_eq_true, reduceIte]; done) | (simp only [pack, refCheckF, nPrefix, nPhases, nm0, nm1, nm2, nm3, nm4, nm5, hb0, hb2, hb4, hb6, hb8, hb9, if_true, if_false, ne_eq, not_true_eq_false, not_false_eq_true, true_or, or_true, or_self, ite_self, Bool.true_eq_false, Bool.false_eq_true, or_false, false_or]; done) | (subst_vars; simp only [pack, refCheckF, nPrefix, nPhases, nm0, nm1, nm2, nm3, nm4, nm5, *, if_true, if_false, ne_eq, not_true_eq_false, not_false_eq_true, true_or, or_true, or_self, ite_self, Bool.true_eq_false, Bool.false_eq_true, or_false, false_or]; done) | (simp [pack, refCheckF, nPrefix, nPhases, nm0, nm1, nm2, nm3, nm4, nm5, hb0, hb2, hb4, hb6, hb8, hb9] <;> omega)
            · have hb9 := rb9
              try simp only [beq_iff_eq, bne_iff_ne, ne_eq, bne_eq_false_iff_eq, beq_eq_false_iff_ne, decide_eq_true_eq, decide_eq_false_iff_not, Bool.not_eq_true', Bool.not_eq_false', Bool.or_eq_true, Bool.and_eq_true, Bool.or_eq_false_iff, Bool.and_eq_false_iff] at hb9
              refine vwp_skip ?_
              apply_assumption
              refine vwp_seq_region rfl fun K hK => ?_
              simp (dsimp := false) only [push_cast, hP, hnt, hgw, hgb, Int.reduceLE, Int.reduceLT, Nat.reduceLT, Nat.reduceEqDiff, Nat.reduceAdd, Nat.reduceSub, Nat.reduceMul, Nat.reduceLeDiff, ↓reduceIte, reduceCtorEq, String.reduceEq]
              refine hK _ ?_; clear hK
              refine vwp_ret ?_
              refine ret_free (by simp (dsimp := false) only [push_cast, hP, hnt, hgw, hgb, Int.reduceLE, Int.reduceLT, Nat.reduceLT, Nat.reduceEqDiff, Nat.reduceAdd, Nat.reduceSub, Nat.reduceMul, Nat.reduceLeDiff, ↓reduceIte, reduceCtorEq, String.reduceEq]; rfl) (by simp (dsimp := false) only [push_cast, hP, hnt, hgw, hgb, Int.reduceLE, Int.reduceLT, Nat.reduceLT, Nat.reduceEqDiff, Nat.reduceAdd, Nat.reduceSub, Nat.reduceMul, Nat.reduceLeDiff, ↓reduceIte, reduceCtorEq, String.reduceEq]) ?_
              first | (simp only [pack, refCheckF, nPrefix, nPhases, nm0, nm1, nm2, nm3, nm4, nm5, rb0, rb2, rb4, rb6, rb8, rb9, if_true, if_false, Bool.false_eq_true, reduceIte]; done) | (simp only [pack, refCheckF, nPrefix, nPhases, nm0, nm1, nm2, nm3, nm4, nm5, hb0, hb2, hb4, hb6, hb8, hb9, if_true, if_false, ne_eq, not_true_eq_false, not_false_eq_true, true_or, or_true, or_self, ite_self, Bool.true_eq_false, Bool.false_eq_true, or_false, false_or]; done) | (subst_vars; simp only [pack, refCheckF, nPrefix, nPhases, nm0, nm1, nm2, nm3, nm4, nm5, *, if_true, if_false, ne_eq, not_true_eq_false, not_false_eq_true, true_or, or_true, or_self, ite_self, Bool.true_eq_false, Bool.false_eq_true, or_false, false_or]; done) | (simp [pack, refCheckF, nPrefix, nPhases, nm0, nm1, nm2, nm3, nm4, nm5, hb0, hb2, hb4, hb6, hb8, hb9] <;> omega)
          · have hb8 := rb8
            try simp only [beq_iff_eq, bne_iff_ne, ne_eq, bne_eq_false_iff_eq, beq_eq_false_iff_ne, decide_eq_true_eq, decide_eq_false_iff_not, Bool.not_eq_true', Bool.not_eq_false', Bool.or_eq_true, Bool.and_eq_true, Bool.or_eq_false_iff, Bool.and_eq_false_iff] at hb8
            refine vwp_region rfl ?_
            simp (dsimp := false) only [push_cast, hP, hnt, hgw, hgb, Int.reduceLE, Int.reduceLT, Nat.reduceLT, Nat.reduceEqDiff, Nat.reduceAdd, Nat.reduceSub, Nat.reduceMul, Nat.reduceLeDiff, ↓reduceIte, reduceCtorEq, String.reduceEq]
            apply_assumption
            refine vwp_cond (b := _) (by simp (dsimp := false) only [push_cast, hP, hnt, hgw, hgb, Int.reduceLE, Int.reduceLT, Nat.reduceLT, Nat.reduceEqDiff, Nat.reduceAdd, Nat.reduceSub, Nat.reduceMul, Nat.reduceLeDiff, ↓reduceIte, reduceCtorEq, String.reduceEq]; rfl) (fun rb10 => ?_) (fun rb10 => ?_)
            · have hb10 := rb10
              try simp only [beq_iff_eq, bne_iff_ne, ne_eq, bne_eq_false_iff_eq, beq_eq_false_iff_ne, decide_eq_true_eq, decide_eq_false_iff_not, Bool.not_eq_true', Bool.not_eq_false', Bool.or_eq_true, Bool.and_eq_true, Bool.or_eq_false_iff, Bool.and_eq_false_iff] at hb10
              refine vwp_skip ?_
              apply_assumption
              refine vwp_seq fun K hK => ?_
              refine vwp_seq_regionG fun K hK => ?_
              simp (dsimp := false) only [push_cast, hP, hnt, hgw, hgb, Int.reduceLE, Int.reduceLT, Nat.reduceLT, Nat.reduceEqDiff, Nat.reduceAdd, Nat.reduceSub, Nat.reduceMul, Nat.reduceLeDiff, ↓reduceIte, reduceCtorEq, String.reduceEq]
              refine guardR_may (by simp (dsimp := false) only [push_cast, hP, hnt, hgw, hgb, Int.reduceLE, Int.reduceLT, Nat.reduceLT, Nat.reduceEqDiff, Nat.reduceAdd, Nat.reduceSub, Nat.reduceMul, Nat.reduceLeDiff, ↓reduceIte, reduceCtorEq, String.reduceEq, List.getElem?_cons_zero, List.getElem?_cons_succ]; rfl) ?_
              simp (dsimp := false) only [push_cast, hP, hnt, hgw, hgb, Int.reduceLE, Int.reduceLT, Nat.reduceLT, Nat.reduceEqDiff, Nat.reduceAdd, Nat.reduceSub, Nat.reduceMul, Nat.reduceLeDiff, ↓reduceIte, reduceCtorEq, String.reduceEq]
              refine guardR_may (by simp (dsimp := false) only [push_cast, hP, hnt, hgw, hgb, Int.reduceLE, Int.reduceLT, Nat.reduceLT, Nat.reduceEqDiff, Nat.reduceAdd, Nat.reduceSub, Nat.reduceMul, Nat.reduceLeDiff, ↓reduceIte, reduceCtorEq, String.reduceEq, List.getElem?_cons_zero, List.getElem?_cons_succ]; rfl) ?_
              simp (dsimp := false) only [push_cast, hP, hnt, hgw, hgb, Int.reduceLE, Int.reduceLT, Nat.reduceLT, Nat.reduceEqDiff, Nat.reduceAdd, Nat.reduceSub, Nat.reduceMul, Nat.reduceLeDiff, ↓reduceIte, reduceCtorEq, String.reduceEq]
              refine guardR_may (by simp (dsimp := false) only [push_cast, hP, hnt, hgw, hgb, Int.reduceLE, Int.reduceLT, Nat.reduceLT, Nat.reduceEqDiff, Nat.reduceAdd, Nat.reduceSub, Nat.reduceMul, Nat.reduceLeDiff, ↓reduceIte, reduceCtorEq, String.reduceEq, List.getElem?_cons_zero, List.getElem?_cons_succ]; rfl) ?_
              simp (dsimp := false) only [push_cast, hP, hnt, hgw, hgb, Int.reduceLE, Int.reduceLT, Nat.reduceLT, Nat.reduceEqDiff, Nat.reduceAdd, Nat.reduceSub, Nat.reduceMul, Nat.reduceLeDiff, ↓reduceIte, reduceCtorEq, String.reduceEq]
              refine guardR_may (by simp (dsimp := false) only [push_cast, hP, hnt, hgw, hgb, Int.reduceLE, Int.reduceLT, Nat.reduceLT, Nat.reduceEqDiff, Nat.reduceAdd, Nat.reduceSub, Nat.reduceMul, Nat.reduceLeDiff, ↓reduceIte, reduceCtorEq, String.reduceEq, List.getElem?_cons_zero, List.getElem?_cons_succ]; rfl) ?_
              simp (dsimp := false) only [push_cast, hP, hnt, hgw, hgb, Int.reduceLE, Int.reduceLT, Nat.reduceLT, Nat.reduceEqDiff, Nat.reduceAdd, Nat.reduceSub, Nat.reduceMul, Nat.reduceLeDiff, ↓reduceIte, reduceCtorEq, String.reduceEq]
              refine hK _ ?_; clear hK
              refine vwp_cond (b := _) (by simp (dsimp := false) only [push_cast, hP, hnt, hgw, hgb, Int.reduceLE, Int.reduceLT, Nat.reduceLT, Nat.reduceEqDiff, Nat.reduceAdd, Nat.reduceSub, Nat.reduceMul, Nat.reduceLeDiff, ↓reduceIte, reduceCtorEq, String.reduceEq]; rfl) (fun rb11 => ?_) (fun rb11 => ?_)
              · have hb11 := rb11
                try simp only [beq_iff_eq, bne_iff_ne, ne_eq, bne_eq_false_iff_eq, beq_eq_false_iff_ne, decide_eq_true_eq, decide_eq_false_iff_not, Bool.not_eq_true', Bool.not_eq_false', Bool.or_eq_true, Bool.and_eq_true, Bool.or_eq_false_iff, Bool.and_eq_false_iff] at hb11
                refine vwp_seq_region rfl fun K hK => ?_
                simp (dsimp := false) only [push_cast, hP, hnt, hgw, hgb, Int.reduceLE, Int.reduceLT, Nat.reduceLT, Nat.reduceEqDiff, Nat.reduceAdd, Nat.reduceSub, Nat.reduceMul, Nat.reduceLeDiff, ↓reduceIte, reduceCtorEq, String.reduceEq]
                refine hK _ ?_; clear hK
                refine vwp_ret ?_
                refine ret_free (by simp (dsimp := false) only [push_cast, hP, hnt, hgw, hgb, Int.reduceLE, Int.reduceLT, Nat.reduceLT, Nat.reduceEqDiff, Nat.reduceAdd, Nat.reduceSub, Nat.reduceMul, Nat.reduceLeDiff, ↓reduceIte, reduceCtorEq, String.reduceEq]; rfl) (by simp (dsimp := false) only [push_cast, hP, hnt, hgw, hgb, Int.reduceLE, Int.reduceLT, Nat.reduceLT, Nat.reduceEqDiff, Nat.reduceAdd, Nat.reduceSub, Nat.reduceMul, Nat.reduceLeDiff, ↓reduceIte, reduceCtorEq, String.reduceEq]) ?_
                first | (simp only [pack, refCheckF, nPrefix, nPhases, nm0, nm1, nm2, nm3, nm4, nm5, rb0, rb2, rb4, rb6, rb8, rb10, rb11, if_true, if_false, Bool.false_eq_true, reduceIte]; done) | (simp only [pack, refCheckF, nPrefix, nPhases, nm0, nm1, nm2, nm3, nm4, nm5, hb0, hb2, hb4, hb6, hb8, hb10, hb11, if_true, if_false, ne_eq, not_true_eq_false, not_false_eq_true, true_or, or_true, or_self, ite_self, Bool.true_eq_false, Bool.false_eq_true, or_false, false_or]; done) | (subst_vars; simp only [pack, refCheckF, nPrefix, nPhases, nm0, nm1, nm2, nm3, nm4, nm5, *, if_true, if_false, ne_eq, not_true_eq_false, not_false_eq_true, true_or, or_true, or_self, ite_self, Bool.true_eq_false, Bool.false_eq_true, or_false, false_or]; done) | (simp [pack, refCheckF, nPrefix, nPhases, nm0, nm1, nm2, nm3, nm4, nm5, hb0, hb2, hb4, hb6, hb8, hb10, hb11] <;> omega)
              · have hb11 := rb11
                try simp only [beq_iff_eq, bne_iff_ne, ne_eq, bne_eq_false_iff_eq, beq_eq_false_iff_ne, decide_eq_true_eq, decide_eq_false_iff_not, Bool.not_eq_true', Bool.not_eq_false', Bool.or_eq_true, Bool.and_eq_true, Bool.or_eq_false_iff, Bool.and_eq_false_iff] at hb11
                refine vwp_skip ?_
                apply_assumption
                refine vwp_seq_region rfl fun K hK => ?_
                simp (dsimp := false) only [push_cast, hP, hnt, hgw, hgb, Int.reduceLE, Int.reduceLT, Nat.reduceLT, Nat.reduceEqDiff, Nat.reduceAdd, Nat.reduceSub, Nat.reduceMul, Nat.reduceLeDiff, ↓reduceIte, reduceCtorEq, String.reduceEq]
                refine hK _ ?_; clear hK
                refine vwp_ret ?_
                refine ret_free (by simp (dsimp := false) only [push_cast, hP, hnt, hgw, hgb, Int.reduceLE, Int.reduceLT, Nat.reduceLT, Nat.reduceEqDiff, Nat.reduceAdd, Nat.reduceSub, Nat.reduceMul, Nat.reduceLeDiff, ↓reduceIte, reduceCtorEq, String.reduceEq]; rfl) (by simp (dsimp := false) only [push_cast, hP, hnt, hgw, hgb, Int.reduceLE, Int.reduceLT, Nat.reduceLT, Nat.reduceEqDiff, Nat.reduceAdd, Nat.reduceSub, Nat.reduceMul, Nat.reduceLeDiff, ↓reduceIte, reduceCtorEq, String.reduceEq]) ?_
                first | (simp only [pack, refCheckF, nPrefix, nPhases, nm0, nm1, nm2, nm3, nm4, nm5, rb0, rb2, rb4, rb6, rb8, rb10, rb11, if_true, if_false, Bool.false_eq_true, reduceIte]; done) | (simp only [pack, refCheckF, nPrefix, nPhases, nm0, nm1, nm2, nm3, nm4, nm5, hb0, hb2, hb4, hb6, hb8, hb10, hb11, if_true, if_false, ne_eq, not_true_eq_false, not_false_eq_true, true_or, or_true, or_self, ite_self, Bool.true_eq_false, Bool.false_eq_true, or_false, false_or]; done) | (subst_vars; simp only [pack, refCheckF, nPrefix, nPhases, nm0, nm1, nm2, nm3, nm4, nm5, *, if_true, if_false, ne_eq, not_true_eq_false, not_false_eq_true, true_or, or_true, or_self, ite_self, Bool.true_eq_false, Bool.false_eq_true, or_false, false_or]; done) | (simp [pack, refCheckF, nPrefix, nPhases, nm0, nm1, nm2, nm3, nm4, nm5, hb0, hb2, hb4, hb6, hb8, hb10, hb11] <;> omega)
            · have hb10 := rb10
              try simp only [beq_iff_eq, bne_iff_ne, ne_eq, bne_eq_false_iff_eq, beq_eq_false_iff_ne, decide_eq_true_eq, decide_eq_false_iff_not, Bool.not_eq_true', Bool.not_eq_false', Bool.or_eq_true, Bool.and_eq_true, Bool.or_eq_false_iff, Bool.and_eq_false_iff] at hb10
              refine vwp_seq_region rfl fun K hK => ?_
              simp (dsimp := false) only [push_cast, hP, hnt, hgw, hgb, Int.reduceLE, Int.reduceLT, Nat.reduceLT, Nat.reduceEqDiff, Nat.reduceAdd, Nat.reduceSub, Nat.reduceMul, Nat.reduceLeDiff, ↓reduceIte, reduceCtorEq, String.reduceEq]
              refine hK _ ?_; clear hK
              refine vwp_cond (b := _) (by simp (dsimp := false) only [push_cast, hP, hnt, hgw, hgb, Int.reduceLE, Int.reduceLT, Nat.reduceLT, Nat.reduceEqDiff, Nat.reduceAdd, Nat.reduceSub, Nat.reduceMul, Nat.reduceLeDiff, ↓reduceIte, reduceCtorEq, String.reduceEq]; rfl) (fun rb12 => ?_) (fun rb12 => ?_)
              · have hb12 := rb12
                try simp only [beq_iff_eq, bne_iff_ne, ne_eq, bne_eq_false_iff_eq, beq_eq_false_iff_ne, decide_eq_true_eq, decide_eq_false_iff_not, Bool.not_eq_true', Bool.not_eq_false', Bool.or_eq_true, Bool.and_eq_true, Bool.or_eq_false_iff, Bool.and_eq_false_iff] at hb12
                refine vwp_region rfl ?_
                simp (dsimp := false) only [push_cast, hP, hnt, hgw, hgb, Int.reduceLE, Int.reduceLT, Nat.reduceLT, Nat.reduceEqDiff, Nat.reduceAdd, Nat.reduceSub, Nat.reduceMul, Nat.reduceLeDiff, ↓reduceIte, reduceCtorEq, String.reduceEq]
                apply_assumption
                refine vwp_seq fun K hK => ?_
                refine vwp_seq_regionG fun K hK => ?_
                simp (dsimp := false) only [push_cast, hP, hnt, hgw, hgb, Int.reduceLE, Int.reduceLT, Nat.reduceLT, Nat.reduceEqDiff, Nat.reduceAdd, Nat.reduceSub, Nat.reduceMul, Nat.reduceLeDiff, ↓reduceIte, reduceCtorEq, String.reduceEq]
                refine guardR_may (by simp (dsimp := false) only [push_cast, hP, hnt, hgw, hgb, Int.reduceLE, Int.reduceLT, Nat.reduceLT, Nat.reduceEqDiff, Nat.reduceAdd, Nat.reduceSub, Nat.reduceMul, Nat.reduceLeDiff, ↓reduceIte, reduceCtorEq, String.reduceEq, List.getElem?_cons_zero, List.getElem?_cons_succ]; rfl) ?_
                simp (dsimp := false) only [push_cast, hP, hnt, hgw, hgb, Int.reduceLE, Int.reduceLT, Nat.reduceLT, Nat.reduceEqDiff, Nat.reduceAdd, Nat.reduceSub, Nat.reduceMul, Nat.reduceLeDiff, ↓reduceIte, reduceCtorEq, String.reduceEq]
                refine guardR_may (by simp (dsimp := false) only [push_cast, hP, hnt, hgw, hgb, Int.reduceLE, Int.reduceLT, Nat.reduceLT, Nat.reduceEqDiff, Nat.reduceAdd, Nat.reduceSub, Nat.reduceMul, Nat.reduceLeDiff, ↓reduceIte, reduceCtorEq, String.reduceEq, List.getElem?_cons_zero, List.getElem?_cons_succ]; rfl) ?_
                simp (dsimp := false) only [push_cast, hP, hnt, hgw, hgb, Int.reduceLE, Int.reduceLT, Nat.reduceLT, Nat.reduceEqDiff, Nat.reduceAdd, Nat.reduceSub, Nat.reduceMul, Nat.reduceLeDiff, ↓reduceIte, reduceCtorEq, String.reduceEq]
                refine guardR_may (by simp (dsimp := false) only [push_cast, hP, hnt, hgw, hgb, Int.reduceLE, Int.reduceLT, Nat.reduceLT, Nat.reduceEqDiff, Nat.reduceAdd, Nat.reduceSub, Nat.reduceMul, Nat.reduceLeDiff, ↓reduceIte, reduceCtorEq, String.reduceEq, List.getElem?_cons_zero, List.getElem?_cons_succ]; rfl) ?_
                simp (dsimp := false) only [push_cast, hP, hnt, hgw, hgb, Int.reduceLE, Int.reduceLT, Nat.reduceLT, Nat.reduceEqDiff, Nat.reduceAdd, Nat.reduceSub, Nat.reduceMul, Nat.reduceLeDiff, ↓reduceIte, reduceCtorEq, String.reduceEq]
                refine guardR_may (by simp (dsimp := false) only [push_cast, hP, hnt, hgw, hgb, Int.reduceLE, Int.reduceLT, Nat.reduceLT, Nat.reduceEqDiff, Nat.reduceAdd, Nat.reduceSub, Nat.reduceMul, Nat.reduceLeDiff, ↓reduceIte, reduceCtorEq, String.reduceEq, List.getElem?_cons_zero, List.getElem?_cons_succ]; rfl) ?_
                simp (dsimp := false) only [push_cast, hP, hnt, hgw, hgb, Int.reduceLE, Int.reduceLT, Nat.reduceLT, Nat.reduceEqDiff, Nat.reduceAdd, Nat.reduceSub, Nat.reduceMul, Nat.reduceLeDiff, ↓reduceIte, reduceCtorEq, String.reduceEq]
                refine hK _ ?_; clear hK
                refine vwp_cond (b := _) (by simp (dsimp := false) only [push_cast, hP, hnt, hgw, hgb, Int.reduceLE, Int.reduceLT, Nat.reduceLT, Nat.reduceEqDiff, Nat.reduceAdd, Nat.reduceSub, Nat.reduceMul, Nat.reduceLeDiff, ↓reduceIte, reduceCtorEq, String.reduceEq]; rfl) (fun rb13 => ?_) (fun rb13 => ?_)
                · have hb13 := rb13
                  try simp only [beq_iff_eq, bne_iff_ne, ne_eq, bne_eq_false_iff_eq, beq_eq_false_iff_ne, decide_eq_true_eq, decide_eq_false_iff_not, Bool.not_eq_true', Bool.not_eq_false', Bool.or_eq_true, Bool.and_eq_true, Bool.or_eq_false_iff, Bool.and_eq_false_iff] at hb13
                  refine vwp_seq_region rfl fun K hK => ?_
                  simp (dsimp := false) only [push_cast, hP, hnt, hgw, hgb, Int.reduceLE, Int.reduceLT, Nat.reduceLT, Nat.reduceEqDiff, Nat.reduceAdd, Nat.reduceSub, Nat.reduceMul, Nat.reduceLeDiff, ↓reduceIte, reduceCtorEq, String.reduceEq]
                  refine hK _ ?_; clear hK
                  refine vwp_ret ?_
                  refine ret_free (by simp (dsimp := false) only [push_cast, hP, hnt, hgw, hgb, Int.reduceLE, Int.reduceLT, Nat.reduceLT, Nat.reduceEqDiff, Nat.reduceAdd, Nat.reduceSub, Nat.reduceMul, Nat.reduceLeDiff, ↓reduceIte, reduceCtorEq, String.reduceEq]; rfl) (by simp (dsimp := false) only [push_cast, hP, hnt, hgw, hgb, Int.reduceLE, Int.reduceLT, Nat.reduceLT, Nat.reduceEqDiff, Nat.reduceAdd, Nat.reduceSub, Nat.reduceMul, Nat.reduceLeDiff, ↓reduceIte, reduceCtorEq, String.reduceEq]) ?_
                  first | (simp only [pack, refCheckF, nPrefix, nPhases, nm0, nm1, nm2, nm3, nm4, nm5, rb0, rb2, rb4, rb6, rb8, rb10, rb12, rb13, if_true, if_false, Bool.false_eq_true, reduceIte]; done) | (simp only [pack, refCheckF, nPrefix, nPhases, nm0, nm1, nm2, nm3, nm4, nm5, hb0, hb2, hb4, hb6, hb8, hb10, hb12, hb13, if_true, if_false, ne_eq, not_true_eq_false, not_false_eq_true, true_or, or_true, or_self, ite_self, Bool.true_eq_false, Bool.false_eq_true, or_false, false_or]; done) | (subst_vars; simp only [pack, refCheckF, nPrefix, nPhases, nm0, nm1, nm2, nm3, nm4, nm5, *, if_true, if_false, ne_eq, not_true_eq_false, not_false_eq_true, true_or, or_true, or_self, ite_self, Bool.true_eq_false, Bool.false_eq_true, or_false, false_or]; done) | (simp [pack, refCheckF, nPrefix, nPhases, nm0, nm1, nm2, nm3, nm4, nm5, hb0, hb2, hb4, hb6, hb8, hb10, hb12, hb13] <;> omega)
                · have hb13 := rb13
                  try simp only [beq_iff_eq, bne_iff_ne, ne_eq, bne_eq_false_iff_eq, beq_eq_false_iff_ne, decide_eq_true_eq, decide_eq_false_iff_not, Bool.not_eq_true', Bool.not_eq_false', Bool.or_eq_true, Bool.and_eq_true, Bool.or_eq_false_iff, Bool.and_eq_false_iff] at hb13
                  refine vwp_skip ?_
                  apply_assumption
                  refine vwp_seq_region rfl fun K hK => ?_
                  simp (dsimp := false) only [push_cast, hP, hnt, hgw, hgb, Int.reduceLE, Int.reduceLT, Nat.reduceLT, Nat.reduceEqDiff, Nat.reduceAdd, Nat.reduceSub, Nat.reduceMul, Nat.reduceLeDiff, ↓reduceIte, reduceCtorEq, String.reduceEq]
                  refine hK _ ?_; clear hK
                  refine vwp_ret ?_
                  refine ret_free (by simp (dsimp := false) only [push_cast, hP, hnt, hgw, hgb, Int.reduceLE, Int.reduceLT, Nat.reduceLT, Nat.reduceEqDiff, Nat.reduceAdd, Nat.reduceSub, Nat.reduceMul, Nat.reduceLeDiff, ↓reduceIte, reduceCtorEq, String.reduceEq]; rfl) (by simp (dsimp := false) only [push_cast, hP, hnt, hgw, hgb, Int.reduceLE, Int.reduceLT, Nat.reduceLT, Nat.reduceEqDiff, Nat.reduceAdd, Nat.reduceSub, Nat.reduceMul, Nat.reduceLeDiff, ↓reduceIte, reduceCtorEq, String.reduceEq]) ?_
                  first | (simp only [pack, refCheckF, nPrefix, nPhases, nm0, nm1, nm2, nm3, nm4, nm5, rb0, rb2, rb4, rb6, rb8, rb10, rb12, rb13, if_true, if_false, Bool.false_eq_true, reduceIte]; done) | (simp only [pack, refCheckF, nPrefix, nPhases, nm0, nm1, nm2, nm3, nm4, nm5, hb0, hb2, hb4, hb6, hb8, hb10, hb12, hb13, if_true, if_false, ne_eq, not_true_eq_false, not_false_eq_true, true_or, or_true, or_self, ite_self, Bool.true_eq_false, Bool.false_eq_true, or_false, false_or]; done) | (subst_vars; simp only [pack, refCheckF, nPrefix, nPhases, nm0, nm1, nm2, nm3, nm4, nm5, *, if_true, if_false, ne_eq, not_true_eq_false, not_false_eq_true, true_or, or_true, or_self, ite_self, Bool.true_eq_false, Bool.false_eq_true, or_false, false_or]; done) | (simp [pack, refCheckF, nPrefix, nPhases, nm0, nm1, nm2, nm3, nm4, nm5, hb0, hb2, hb4, hb6, hb8, hb10, hb12, hb13] <;> omega)
              · have hb12 := rb12
                try simp only [beq_iff_eq, bne_iff_ne, ne_eq, bne_eq_false_iff_eq, beq_eq_false_iff_ne, decide_eq_true_eq, decide_eq_false_iff_not, Bool.not_eq_true', Bool.not_eq_false', Bool.or_eq_true, Bool.and_eq_true, Bool.or_eq_false_iff, Bool.and_eq_false_iff] at hb12
                refine vwp_seq_region rfl fun K hK => ?_
                simp (dsimp := false) only [push_cast, hP, hnt, hgw, hgb, Int.reduceLE, Int.reduceLT, Nat.reduceLT, Nat.reduceEqDiff, Nat.reduceAdd, Nat.reduceSub, Nat.reduceMul, Nat.reduceLeDiff, ↓reduceIte, reduceCtorEq, String.reduceEq]
                refine hK _ ?_; clear hK
                refine vwp_cond (b := _) (by simp (dsimp := false) only [push_cast, hP, hnt, hgw, hgb, Int.reduceLE, Int.reduceLT, Nat.reduceLT, Nat.reduceEqDiff, Nat.reduceAdd, Nat.reduceSub, Nat.reduceMul, Nat.reduceLeDiff, ↓reduceIte, reduceCtorEq, String.reduceEq]; rfl) (fun rb14 => ?_) (fun rb14 => ?_)
                · have hb14 := rb14
                  try simp only [beq_iff_eq, bne_iff_ne, ne_eq, bne_eq_false_iff_eq, beq_eq_false_iff_ne, decide_eq_true_eq, decide_eq_false_iff_not, Bool.not_eq_true', Bool.not_eq_false', Bool.or_eq_true, Bool.and_eq_true, Bool.or_eq_false_iff, Bool.and_eq_false_iff] at hb14
                  refine vwp_region rfl ?_
                  simp (dsimp := false) only [push_cast, hP, hnt, hgw, hgb, Int.reduceLE, Int.reduceLT, Nat.reduceLT, Nat.reduceEqDiff, Nat.reduceAdd, Nat.reduceSub, Nat.reduceMul, Nat.reduceLeDiff, ↓reduceIte, reduceCtorEq, String.reduceEq]
                  apply_assumption
                  refine vwp_seq fun K hK => ?_
                  refine vwp_seq_regionG fun K hK => ?_
                  simp (dsimp := false) only [push_cast, hP, hnt, hgw, hgb, Int.reduceLE, Int.reduceLT, Nat.reduceLT, Nat.reduceEqDiff, Nat.reduceAdd, Nat.reduceSub, Nat.reduceMul, Nat.reduceLeDiff, ↓reduceIte, reduceCtorEq, String.reduceEq]
                  refine guardR_may (by simp (dsimp := false) only [push_cast, hP, hnt, hgw, hgb, Int.reduceLE, Int.reduceLT, Nat.reduceLT, Nat.reduceEqDiff, Nat.reduceAdd, Nat.reduceSub, Nat.reduceMul, Nat.reduceLeDiff, ↓reduceIte, reduceCtorEq, String.reduceEq, List.getElem?_cons_zero, List.getElem?_cons_succ]; rfl) ?_
                  simp (dsimp := false) only [push_cast, hP, hnt, hgw, hgb, Int.reduceLE, Int.reduceLT, Nat.reduceLT, Nat.reduceEqDiff, Nat.reduceAdd, Nat.reduceSub, Nat.reduceMul, Nat.reduceLeDiff, ↓reduceIte, reduceCtorEq, String.reduceEq]
                  refine guardR_may (by simp (dsimp := false) only [push_cast, hP, hnt, hgw, hgb, Int.reduceLE, Int.reduceLT, Nat.reduceLT, Nat.reduceEqDiff, Nat.reduceAdd, Nat.reduceSub, Nat.reduceMul, Nat.reduceLeDiff, ↓reduceIte, reduceCtorEq, String.reduceEq, List.getElem?_cons_zero, List.getElem?_cons_succ]; rfl) ?_
                  simp (dsimp := false) only [push_cast, hP, hnt, hgw, hgb, Int.reduceLE, Int.reduceLT, Nat.reduceLT, Nat.reduceEqDiff, Nat.reduceAdd, Nat.reduceSub, Nat.reduceMul, Nat.reduceLeDiff, ↓reduceIte, reduceCtorEq, String.reduceEq]
                  refine guardR_may (by simp (dsimp := false) only [push_cast, hP, hnt, hgw, hgb, Int.reduceLE, Int.reduceLT, Nat.reduceLT, Nat.reduceEqDiff, Nat.reduceAdd, Nat.reduceSub, Nat.reduceMul, Nat.reduceLeDiff, ↓reduceIte, reduceCtorEq, String.reduceEq, List.getElem?_cons_zero, List.getElem?_cons_succ]; rfl) ?_
                  simp (dsimp := false) only [push_cast, hP, hnt, hgw, hgb, Int.reduceLE, Int.reduceLT, Nat.reduceLT, Nat.reduceEqDiff, Nat.reduceAdd, Nat.reduceSub, Nat.reduceMul, Nat.reduceLeDiff, ↓reduceIte, reduceCtorEq, String.reduceEq]
                  refine guardR_may (by simp (dsimp := false) only [push_cast, hP, hnt, hgw, hgb, Int.reduceLE, Int.reduceLT, Nat.reduceLT, Nat.reduceEqDiff, Nat.reduceAdd, Nat.reduceSub, Nat.reduceMul, Nat.reduceLeDiff, ↓reduceIte, reduceCtorEq, String.reduceEq, List.getElem?_cons_zero, List.getElem?_cons_succ]; rfl) ?_
                  simp (dsimp := false) only [push_cast, hP, hnt, hgw, hgb, Int.reduceLE, Int.reduceLT, Nat.reduceLT, Nat.reduceEqDiff, Nat.reduceAdd, Nat.reduceSub, Nat.reduceMul, Nat.reduceLeDiff, ↓reduceIte, reduceCtorEq, String.reduceEq]
                  refine hK _ ?_; clear hK
                  refine vwp_cond (b := _) (by simp (dsimp := false) only [push_cast, hP, hnt, hgw, hgb, Int.reduceLE, Int.reduceLT, Nat.reduceLT, Nat.reduceEqDiff, Nat.reduceAdd, Nat.reduceSub, Nat.reduceMul, Nat.reduceLeDiff, ↓reduceIte, reduceCtorEq, String.reduceEq]; rfl) (fun rb15 => ?_) (fun rb15 => ?_)
                  · have hb15 := rb15
                    try simp only [beq_iff_eq, bne_iff_ne, ne_eq, bne_eq_false_iff_eq, beq_eq_false_iff_ne, decide_eq_true_eq, decide_eq_false_iff_not, Bool.not_eq_true', Bool.not_eq_false', Bool.or_eq_true, Bool.and_eq_true, Bool.or_eq_false_iff, Bool.and_eq_false_iff] at hb15
                    refine vwp_seq_region rfl fun K hK => ?_
                    simp (dsimp := false) only [push_cast, hP, hnt, hgw, hgb, Int.reduceLE, Int.reduceLT, Nat.reduceLT, Nat.reduceEqDiff, Nat.reduceAdd, Nat.reduceSub, Nat.reduceMul, Nat.reduceLeDiff, ↓reduceIte, reduceCtorEq, String.reduceEq]
                    refine hK _ ?_; clear hK
                    refine vwp_ret ?_
                    refine ret_free (by simp (dsimp := false) only [push_cast, hP, hnt, hgw, hgb, Int.reduceLE, Int.reduceLT, Nat.reduceLT, Nat.reduceEqDiff, Nat.reduceAdd, Nat.reduceSub, Nat.reduceMul, Nat.reduceLeDiff, ↓reduceIte, reduceCtorEq, String.reduceEq]; rfl) (by simp (dsimp := false) only [push_cast, hP, hnt, hgw, hgb, Int.reduceLE, Int.reduceLT, Nat.reduceLT, Nat.reduceEqDiff, Nat.reduceAdd, Nat.reduceSub, Nat.reduceMul, Nat.reduceLeDiff, ↓reduceIte, reduceCtorEq, String.reduceEq]) ?_
                    first | (simp only [pack, refCheckF, nPrefix, nPhases, nm0, nm1, nm2, nm3, nm4, nm5, rb0, rb2, rb4, rb6, rb8, rb10, rb12, rb14, rb15, if_true, if_false, Bool.false_eq_true, reduceIte]; done) | (simp only [pack, refCheckF, nPrefix, nPhases, nm0, nm1, nm2, nm3, nm4, nm5, hb0, hb2, hb4, hb6, hb8, hb10, hb12, hb14, hb15, if_true, if_false, ne_eq, not_true_eq_false, not_false_eq_true, true_or, or_true, or_self, ite_self, Bool.true_eq_false, Bool.false_eq_true, or_false, false_or]; done) | (subst_vars; simp only [pack, refCheckF, nPrefix, nPhases, nm0, nm1, nm2, nm3, nm4, nm5, *, if_true, if_false, ne_eq, not_true_eq_false, not_false_eq_true, true_or, or_true, or_self, ite_self, Bool.true_eq_false, Bool.false_eq_true, or_false, false_or]; done) | (simp [pack, refCheckF, nPrefix, nPhases, nm0, nm1, nm2, nm3, nm4, nm5, hb0, hb2, hb4, hb6, hb8, hb10, hb12, hb14, hb15] <;> omega)
                  · have hb15 := rb15
                    try simp only [beq_iff_eq, bne_iff_ne, ne_eq, bne_eq_false_iff_eq, beq_eq_false_iff_ne, decide_eq_true_eq, decide_eq_false_iff_not, Bool.not_eq_true', Bool.not_eq_false', Bool.or_eq_true, Bool.and_eq_true, Bool.or_eq_false_iff, Bool.and_eq_false_iff] at hb15
                    refine vwp_skip ?_
                    apply_assumption
                    refine vwp_seq_region rfl fun K hK => ?_
                    simp (dsimp := false) only [push_cast, hP, hnt, hgw, hgb, Int.reduceLE, Int.reduceLT, Nat.reduceLT, Nat.reduceEqDiff, Nat.reduceAdd, Nat.reduceSub, Nat.reduceMul, Nat.reduceLeDiff, ↓reduceIte, reduceCtorEq, String.reduceEq]
                    refine hK _ ?_; clear hK
                    refine vwp_ret ?_
                    refine ret_free (by simp (dsimp := false) only [push_cast, hP, hnt, hgw, hgb, Int.reduceLE, Int.reduceLT, Nat.reduceLT, Nat.reduceEqDiff, Nat.reduceAdd, Nat.reduceSub, Nat.reduceMul, Nat.reduceLeDiff, ↓reduceIte, reduceCtorEq, String.reduceEq]; rfl) (by simp (dsimp := false) only [push_cast, hP, hnt, hgw, hgb, Int.reduceLE, Int.reduceLT, Nat.reduceLT, Nat.reduceEqDiff, Nat.reduceAdd, Nat.reduceSub, Nat.reduceMul, Nat.reduceLeDiff, ↓reduceIte, reduceCtorEq, String.reduceEq]) ?_
                    first | (simp only [pack, refCheckF, nPrefix, nPhases, nm0, nm1, nm2, nm3, nm4, nm5, rb0, rb2, rb4, rb6, rb8, rb10, rb12, rb14, rb15, if_true, if_false, Bool.false_eq_true, reduceIte]; done) | (simp only [pack, refCheckF, nPrefix, nPhases, nm0, nm1, nm2, nm3, nm4, nm5, hb0, hb2, hb4, hb6, hb8, hb10, hb12, hb14, hb15, if_true, if_false, ne_eq, not_true_eq_false, not_false_eq_true, true_or, or_true, or_self, ite_self, Bool.true_eq_false, Bool.false_eq_true, or_false, false_or]; done) | (subst_vars; simp only [pack, refCheckF, nPrefix, nPhases, nm0, nm1, nm2, nm3, nm4, nm5, *, if_true, if_false, ne_eq, not_true_eq_false, not_false_eq_true, true_or, or_true, or_self, ite_self, Bool.true_eq_false, Bool.false_eq_true, or_false, false_or]; done) | (simp [pack, refCheckF, nPrefix, nPhases, nm0, nm1, nm2, nm3, nm4, nm5, hb0, hb2, hb4, hb6, hb8, hb10, hb12, hb14, hb15] <;> omega)
                · have hb14 := rb14
                  try simp only [beq_iff_eq, bne_iff_ne, ne_eq, bne_eq_false_iff_eq, beq_eq_false_iff_ne, decide_eq_true_eq, decide_eq_false_iff_not, Bool.not_eq_true', Bool.not_eq_false', Bool.or_eq_true, Bool.and_eq_true, Bool.or_eq_false_iff, Bool.and_eq_false_iff] at hb14
                  refine vwp_seq_region rfl fun K hK => ?_
                  simp (dsimp := false) only [push_cast, hP, hnt, hgw, hgb, Int.reduceLE, Int.reduceLT, Nat.reduceLT, Nat.reduceEqDiff, Nat.reduceAdd, Nat.reduceSub, Nat.reduceMul, Nat.reduceLeDiff, ↓reduceIte, reduceCtorEq, String.reduceEq]
                  refine hK _ ?_; clear hK
                  refine vwp_ret ?_
                  refine ret_free (by simp (dsimp := false) only [push_cast, hP, hnt, hgw, hgb, Int.reduceLE, Int.reduceLT, Nat.reduceLT, Nat.reduceEqDiff, Nat.reduceAdd, Nat.reduceSub, Nat.reduceMul, Nat.reduceLeDiff, ↓reduceIte, reduceCtorEq, String.reduceEq]; rfl) (by simp (dsimp := false) only [push_cast, hP, hnt, hgw, hgb, Int.reduceLE, Int.reduceLT, Nat.reduceLT, Nat.reduceEqDiff, Nat.reduceAdd, Nat.reduceSub, Nat.reduceMul, Nat.reduceLeDiff, ↓reduceIte, reduceCtorEq, String.reduceEq]) ?_
                  first | (simp only [pack, refCheckF, nPrefix, nPhases, nm0, nm1, nm2, nm3, nm4, nm5, rb0, rb2, rb4, rb6, rb8, rb10, rb12, rb14, if_true, if_false, Bool.false_eq_true, reduceIte]; done) | (simp only [pack, refCheckF, nPrefix, nPhases, nm0, nm1, nm2, nm3, nm4, nm5, hb0, hb2, hb4, hb6, hb8, hb10, hb12, hb14, if_true, if_false, ne_eq, not_true_eq_false, not_false_eq_true, true_or, or_true, or_self, ite_self, Bool.true_eq_false, Bool.false_eq_true, or_false, false_or]; done) | (subst_vars; simp only [pack, refCheckF, nPrefix, nPhases, nm0, nm1, nm2, nm3, nm4, nm5, *, if_true, if_false, ne_eq, not_true_eq_false, not_false_eq_true, true_or, or_true, or_self, ite_self, Bool.true_eq_false, Bool.false_eq_true, or_false, false_or]; done) | (simp [pack, refCheckF, nPrefix, nPhases, nm0, nm1, nm2, nm3, nm4, nm5, hb0, hb2, hb4, hb6, hb8, hb10, hb12, hb14] <;> omega)
theorem refWritten_call (gw : World) (gb : Nat) (n : ByteArray) (k : Int) (hn : n.size ≤ 9) : VCall Tryd.prog gw (gb) 33 [.agg [.c (.string n), .c (.int .i64 k)]] (.one (.c (.string (writtenF n k)))) [] := by
  have h1 : n.size + (⟨#[58]⟩ : ByteArray).size ≤ 9223372036854775807 := by
    have : (⟨#[58]⟩ : ByteArray).size = 1 := rfl
    omega
  have h2 : (n ++ (⟨#[58]⟩ : ByteArray)).size + (ofBytes [IntKind.wrap .u8 (IntKind.wrap .i64 (48 + k))]).size ≤ 9223372036854775807 := by
    rw [ByteArray.size_append]
    have : (⟨#[58]⟩ : ByteArray).size = 1 := rfl
    have : (ofBytes [IntKind.wrap .u8 (IntKind.wrap .i64 (48 + k))]).size = 1 := rfl
    omega
  refine vcall_of [.tmp 2] Tryd.func33 rfl rfl Tryd.ntmps33 rfl (by simp) ?_
  intro C hP hnt hgw hgb hfull
  refine vwp_seq_region rfl fun K hK => ?_
  simp (dsimp := false) only [push_cast, hP, hnt, hgw, hgb, Int.reduceLE, Int.reduceLT, Nat.reduceLT, Nat.reduceEqDiff, Nat.reduceAdd, Nat.reduceSub, Nat.reduceMul, Nat.reduceLeDiff, ↓reduceIte, reduceCtorEq, String.reduceEq, h1, h2]
  refine hK _ ?_; clear hK
  refine vwp_seq fun K hK => ?_
  refine vwp_seq_region rfl fun K hK => ?_
  simp (dsimp := false) only [push_cast, hP, hnt, hgw, hgb, Int.reduceLE, Int.reduceLT, Nat.reduceLT, Nat.reduceEqDiff, Nat.reduceAdd, Nat.reduceSub, Nat.reduceMul, Nat.reduceLeDiff, ↓reduceIte, reduceCtorEq, String.reduceEq, h1, h2]
  refine hK _ ?_; clear hK
  refine vwp_cond (b := _) (by simp (dsimp := false) only [push_cast, hP, hnt, hgw, hgb, Int.reduceLE, Int.reduceLT, Nat.reduceLT, Nat.reduceEqDiff, Nat.reduceAdd, Nat.reduceSub, Nat.reduceMul, Nat.reduceLeDiff, ↓reduceIte, reduceCtorEq, String.reduceEq, h1, h2]; rfl) (fun rb0 => ?_) (fun rb0 => ?_)
  · have hb0 := rb0
    try simp only [beq_iff_eq, bne_iff_ne, ne_eq, bne_eq_false_iff_eq, beq_eq_false_iff_ne, decide_eq_true_eq, decide_eq_false_iff_not, Bool.not_eq_true', Bool.not_eq_false', Bool.or_eq_true, Bool.and_eq_true, Bool.or_eq_false_iff, Bool.and_eq_false_iff] at hb0
    refine vwp_seq_region rfl fun K hK => ?_
    simp (dsimp := false) only [push_cast, hP, hnt, hgw, hgb, Int.reduceLE, Int.reduceLT, Nat.reduceLT, Nat.reduceEqDiff, Nat.reduceAdd, Nat.reduceSub, Nat.reduceMul, Nat.reduceLeDiff, ↓reduceIte, reduceCtorEq, String.reduceEq, h1, h2]
    refine hK _ ?_; clear hK
    refine vwp_ret ?_
    refine ret_free (by simp (dsimp := false) only [push_cast, hP, hnt, hgw, hgb, Int.reduceLE, Int.reduceLT, Nat.reduceLT, Nat.reduceEqDiff, Nat.reduceAdd, Nat.reduceSub, Nat.reduceMul, Nat.reduceLeDiff, ↓reduceIte, reduceCtorEq, String.reduceEq, h1, h2]; rfl) (by simp (dsimp := false) only [push_cast, hP, hnt, hgw, hgb, Int.reduceLE, Int.reduceLT, Nat.reduceLT, Nat.reduceEqDiff, Nat.reduceAdd, Nat.reduceSub, Nat.reduceMul, Nat.reduceLeDiff, ↓reduceIte, reduceCtorEq, String.reduceEq, h1, h2]) ?_
    first | (simp only [pack, writtenF, colon, rb0, if_true, if_false, Bool.false_eq_true, reduceIte]; done) | (simp only [pack, writtenF, colon, hb0, if_true, if_false, ne_eq, not_true_eq_false, not_false_eq_true, true_or, or_true, or_self, ite_self, Bool.true_eq_false, Bool.false_eq_true, or_false, false_or]; done) | (subst_vars; simp only [pack, writtenF, colon, *, if_true, if_false, ne_eq, not_true_eq_false, not_false_eq_true, true_or, or_true, or_self, ite_self, Bool.true_eq_false, Bool.false_eq_true, or_false, false_or]; done) | (simp [pack, writtenF, colon, hb0] <;> omega)
  · have hb0 := rb0
    try simp only [beq_iff_eq, bne_iff_ne, ne_eq, bne_eq_false_iff_eq, beq_eq_false_iff_ne, decide_eq_true_eq, decide_eq_false_iff_not, Bool.not_eq_true', Bool.not_eq_false', Bool.or_eq_true, Bool.and_eq_true, Bool.or_eq_false_iff, Bool.and_eq_false_iff] at hb0
    refine vwp_skip ?_
    apply_assumption
    refine vwp_seq_region rfl fun K hK => ?_
    simp (dsimp := false) only [push_cast, hP, hnt, hgw, hgb, Int.reduceLE, Int.reduceLT, Nat.reduceLT, Nat.reduceEqDiff, Nat.reduceAdd, Nat.reduceSub, Nat.reduceMul, Nat.reduceLeDiff, ↓reduceIte, reduceCtorEq, String.reduceEq, h1, h2]
    refine hK _ ?_; clear hK
    refine vwp_ret ?_
    refine ret_free (by simp (dsimp := false) only [push_cast, hP, hnt, hgw, hgb, Int.reduceLE, Int.reduceLT, Nat.reduceLT, Nat.reduceEqDiff, Nat.reduceAdd, Nat.reduceSub, Nat.reduceMul, Nat.reduceLeDiff, ↓reduceIte, reduceCtorEq, String.reduceEq, h1, h2]; rfl) (by simp (dsimp := false) only [push_cast, hP, hnt, hgw, hgb, Int.reduceLE, Int.reduceLT, Nat.reduceLT, Nat.reduceEqDiff, Nat.reduceAdd, Nat.reduceSub, Nat.reduceMul, Nat.reduceLeDiff, ↓reduceIte, reduceCtorEq, String.reduceEq, h1, h2]) ?_
    first | (simp only [pack, writtenF, colon, rb0, if_true, if_false, Bool.false_eq_true, reduceIte]; done) | (simp only [pack, writtenF, colon, hb0, if_true, if_false, ne_eq, not_true_eq_false, not_false_eq_true, true_or, or_true, or_self, ite_self, Bool.true_eq_false, Bool.false_eq_true, or_false, false_or]; done) | (subst_vars; simp only [pack, writtenF, colon, *, if_true, if_false, ne_eq, not_true_eq_false, not_false_eq_true, true_or, or_true, or_self, ite_self, Bool.true_eq_false, Bool.false_eq_true, or_false, false_or]; done) | (simp [pack, writtenF, colon, hb0] <;> omega)
theorem refNames_call (gw : World) (gb : Nat) : VCall Tryd.prog gw (gb) 36 [] (.one (.own (0, 0))) [.arr 9 1 8 (names8.map fun s => .c (.string s))] := by
  refine vcall_of [.tmp 0] Tryd.func36 rfl rfl Tryd.ntmps36 rfl (by simp) ?_
  intro C hP hnt hgw hgb hfull
  refine vwp_seq_region rfl fun K hK => ?_
  simp (dsimp := false) only [push_cast, hP, hnt, hgw, hgb, Int.reduceLE, Int.reduceLT, Nat.reduceLT, Nat.reduceEqDiff, Nat.reduceAdd, Nat.reduceSub, Nat.reduceMul, Nat.reduceLeDiff, ↓reduceIte, reduceCtorEq, String.reduceEq]
  refine hK _ ?_; clear hK
  refine vwp_seq_region rfl fun K hK => ?_
  simp (dsimp := false) only [push_cast, hP, hnt, hgw, hgb, Int.reduceLE, Int.reduceLT, Nat.reduceLT, Nat.reduceEqDiff, Nat.reduceAdd, Nat.reduceSub, Nat.reduceMul, Nat.reduceLeDiff, ↓reduceIte, reduceCtorEq, String.reduceEq]
  refine hK _ ?_; clear hK
  refine vwp_ret ?_
  refine ret_own (by simp (dsimp := false) only [push_cast, hP, hnt, hgw, hgb, Int.reduceLE, Int.reduceLT, Nat.reduceLT, Nat.reduceEqDiff, Nat.reduceAdd, Nat.reduceSub, Nat.reduceMul, Nat.reduceLeDiff, ↓reduceIte, reduceCtorEq, String.reduceEq]; rfl) (by simp (dsimp := false) only [push_cast, hP, hnt, hgw, hgb, Int.reduceLE, Int.reduceLT, Nat.reduceLT, Nat.reduceEqDiff, Nat.reduceAdd, Nat.reduceSub, Nat.reduceMul, Nat.reduceLeDiff, ↓reduceIte, reduceCtorEq, String.reduceEq]; rfl) (by simp (dsimp := false) only [push_cast, hP, hnt, hgw, hgb, Int.reduceLE, Int.reduceLT, Nat.reduceLT, Nat.reduceEqDiff, Nat.reduceAdd, Nat.reduceSub, Nat.reduceMul, Nat.reduceLeDiff, ↓reduceIte, reduceCtorEq, String.reduceEq])
end Go.Vm
