/-
  Walks of the program's functions by the framework, and what they compute (PtAI). Conditions: each theorem's own premises. By an AI agent.
-/
import Derived.Test.YtnpbndglolcilaaGreatDoorPtAH
namespace Go.Vm
open Go Go.RowKit Go.Proofs
set_option maxRecDepth 100000
set_option linter.unusedSimpArgs false
set_option linter.unusedVariables false
set_option maxHeartbeats 4000000

def nPrefix : ByteArray := ⟨#[112, 114, 101, 102, 105, 120]⟩
def nPhases : ByteArray := ⟨#[112, 104, 97, 115, 101, 115]⟩
def checkF (n : ByteArray) (k : Int) : Int :=
  if Lib.containsS names8 n = false then 12
  else if n.toList = nPrefix.toList then (if k < 1 ∨ 8 < k then 2 else 0)
  else if n.toList = nPhases.toList then (if k < 2 ∨ 4 < k then 2 else 0)
  else if k < 0 ∨ 0 < k then 2 else 0

theorem names_call (gw : World) (gb : Nat) : VCall Tryz.prog gw (gb) 67 [] (.one (.own (0, 0))) [.arr 9 1 8 (names8.map fun s => .c (.string s))] := by
  refine vcall_of [.tmp 0] Tryz.func67 rfl rfl Tryz.ntmps67 rfl (by simp) ?_
  intro C hP hnt hgw hgb hfull
  refine vwp_seq_region rfl fun K hK => ?_
  simp (dsimp := false) only [push_cast, hP, hnt, hgw, hgb, Int.reduceLE, Int.reduceLT, sevalprocAttr, String.reduceEq]
  refine hK _ ?_; clear hK
  refine vwp_seq_region rfl fun K hK => ?_
  simp (dsimp := false) only [push_cast, hP, hnt, hgw, hgb, Int.reduceLE, Int.reduceLT, sevalprocAttr, String.reduceEq]
  refine hK _ ?_; clear hK
  refine vwp_ret ?_
  refine ret_own (by simp (dsimp := false) only [push_cast, hP, hnt, hgw, hgb, Int.reduceLE, Int.reduceLT, sevalprocAttr, String.reduceEq]; rfl) (by simp (dsimp := false) only [push_cast, hP, hnt, hgw, hgb, Int.reduceLE, Int.reduceLT, sevalprocAttr, String.reduceEq]; rfl) (by simp (dsimp := false) only [push_cast, hP, hnt, hgw, hgb, Int.reduceLE, Int.reduceLT, sevalprocAttr, String.reduceEq])
theorem check_call (gw : World) (gb : Nat) (n : ByteArray) (k : Int) : VCall Tryz.prog gw (gb) 53 [.agg [.c (.string n), .c (.int .i64 k)]] (.one (.c (.int .i64 (checkF n k)))) [] := by
  refine vcall_of [.tmp 2] Tryz.func53 rfl rfl Tryz.ntmps53 rfl (by simp) ?_
  intro C hP hnt hgw hgb hfull
  refine vwp_seq_region rfl fun K hK => ?_
  simp (dsimp := false) only [push_cast, hP, hnt, hgw, hgb, Int.reduceLE, Int.reduceLT, sevalprocAttr, String.reduceEq]
  refine hK _ ?_; clear hK
  refine vwp_seq fun K hK => ?_
  refine vwp_seq_anyF [[], [], [1], [0, 1, 2], [0, 1, 2, 3]] [([(5, .dead), (6, .dead), (7, .dead), (8, .old), (9, .old)], [6, 7, 8, 9], []), ([(5, .dead), (6, .dead), (7, .old), (8, .old), (9, .old)], [5, 7, 8, 9], []), ([(5, .dead), (6, .dep 0), (7, .dead), (8, .old), (9, .old)], [5, 8, 9], [0]), ([(5, .dep 2), (6, .dep 1), (7, .dep 0), (8, .dead), (9, .old)], [9], [2, 1, 0]), ([(5, .dep 3), (6, .dep 2), (7, .dep 1), (8, .dep 0), (9, .dead)], [], [3, 2, 1, 0])] (by rw [hP]; exact mixed) rfl rfl rfl fun K hK => ?_
  simp (dsimp := false) only [push_cast, hP, hnt, hgw, hgb, Int.reduceLE, Int.reduceLT, sevalprocAttr, String.reduceEq, Nat.reduceBNe, Nat.reduceBEq]
  refine .inl (callE_intro (names_call gw gb) (.inl ⟨rfl, rfl⟩) ?_)
  simp (dsimp := false) only [push_cast, hP, hnt, hgw, hgb, Int.reduceLE, Int.reduceLT, sevalprocAttr, String.reduceEq, Nat.reduceBNe, Nat.reduceBEq]
  refine .inl (callE_intro (contains_call gw gb names8 n (by decide)) (.inl ⟨rfl, rfl⟩) ?_)
  simp (dsimp := false) only [push_cast, hP, hnt, hgw, hgb, Int.reduceLE, Int.reduceLT, sevalprocAttr, String.reduceEq, Nat.reduceBNe, Nat.reduceBEq]
  refine ⟨rfl, ?_⟩
  refine hK _ ?_; clear hK
  refine vwp_cond (b := _) (by simp (dsimp := false) only [push_cast, hP, hnt, hgw, hgb, Int.reduceLE, Int.reduceLT, sevalprocAttr, String.reduceEq]; rfl) (fun rb0 => ?_) (fun rb0 => ?_)
  · have hb0 := rb0
    try simp only [beq_iff_eq, bne_iff_ne, ne_eq, bne_eq_false_iff_eq, beq_eq_false_iff_ne, decide_eq_true_eq, decide_eq_false_iff_not, Bool.not_eq_true', Bool.not_eq_false', Bool.or_eq_true, Bool.and_eq_true, Bool.or_eq_false_iff, Bool.and_eq_false_iff] at hb0
    refine vwp_seq_region rfl fun K hK => ?_
    simp (dsimp := false) only [push_cast, hP, hnt, hgw, hgb, Int.reduceLE, Int.reduceLT, sevalprocAttr, String.reduceEq]
    refine hK _ ?_; clear hK
    refine vwp_ret ?_
    refine ret_free (by simp (dsimp := false) only [push_cast, hP, hnt, hgw, hgb, Int.reduceLE, Int.reduceLT, sevalprocAttr, String.reduceEq]; rfl) (by simp (dsimp := false) only [push_cast, hP, hnt, hgw, hgb, Int.reduceLE, Int.reduceLT, sevalprocAttr, String.reduceEq]) ?_
    first | (simp only [pack, checkF, nPrefix, nPhases, rb0, if_true, if_false, Bool.false_eq_true, reduceIte]; done) | (simp only [pack, checkF, nPrefix, nPhases, hb0, if_true, if_false, ne_eq, not_true_eq_false, not_false_eq_true, true_or, or_true, or_self, ite_self, Bool.true_eq_false, Bool.false_eq_true, or_false, false_or]; done) | (subst_vars; simp only [pack, checkF, nPrefix, nPhases, *, if_true, if_false, ne_eq, not_true_eq_false, not_false_eq_true, true_or, or_true, or_self, ite_self, Bool.true_eq_false, Bool.false_eq_true, or_false, false_or]; done) | (simp [pack, checkF, nPrefix, nPhases, hb0] <;> omega)
  · have hb0 := rb0
    try simp only [beq_iff_eq, bne_iff_ne, ne_eq, bne_eq_false_iff_eq, beq_eq_false_iff_ne, decide_eq_true_eq, decide_eq_false_iff_not, Bool.not_eq_true', Bool.not_eq_false', Bool.or_eq_true, Bool.and_eq_true, Bool.or_eq_false_iff, Bool.and_eq_false_iff] at hb0
    refine vwp_skip ?_
    apply_assumption
    refine vwp_seq_region rfl fun K hK => ?_
    simp (dsimp := false) only [push_cast, hP, hnt, hgw, hgb, Int.reduceLE, Int.reduceLT, sevalprocAttr, String.reduceEq]
    refine hK _ ?_; clear hK
    refine vwp_seq fun K hK => ?_
    refine vwp_seq_region rfl fun K hK => ?_
    simp (dsimp := false) only [push_cast, hP, hnt, hgw, hgb, Int.reduceLE, Int.reduceLT, sevalprocAttr, String.reduceEq]
    refine hK _ ?_; clear hK
    refine vwp_block ?_
    refine vwp_seq_region rfl fun K hK => ?_
    simp (dsimp := false) only [push_cast, hP, hnt, hgw, hgb, Int.reduceLE, Int.reduceLT, sevalprocAttr, String.reduceEq]
    refine hK _ ?_; clear hK
    refine vwp_cond (b := _) (by simp (dsimp := false) only [push_cast, hP, hnt, hgw, hgb, Int.reduceLE, Int.reduceLT, sevalprocAttr, String.reduceEq]; rfl) (fun rb1 => ?_) (fun rb1 => ?_)
    · have hb1 := rb1
      try simp only [beq_iff_eq, bne_iff_ne, ne_eq, bne_eq_false_iff_eq, beq_eq_false_iff_ne, decide_eq_true_eq, decide_eq_false_iff_not, Bool.not_eq_true', Bool.not_eq_false', Bool.or_eq_true, Bool.and_eq_true, Bool.or_eq_false_iff, Bool.and_eq_false_iff] at hb1
      refine vwp_region rfl ?_
      simp (dsimp := false) only [push_cast, hP, hnt, hgw, hgb, Int.reduceLE, Int.reduceLT, sevalprocAttr, String.reduceEq]
      apply_assumption
      refine vwp_seq fun K hK => ?_
      refine vwp_seq_regionG fun K hK => ?_
      simp (dsimp := false) only [push_cast, hP, hnt, hgw, hgb, Int.reduceLE, Int.reduceLT, sevalprocAttr, String.reduceEq]
      refine guardR_may (by simp (dsimp := false) only [push_cast, hP, hnt, hgw, hgb, Int.reduceLE, Int.reduceLT, sevalprocAttr, String.reduceEq, List.getElem?_cons_zero, List.getElem?_cons_succ]; rfl) ?_
      simp (dsimp := false) only [push_cast, hP, hnt, hgw, hgb, Int.reduceLE, Int.reduceLT, sevalprocAttr, String.reduceEq]
      refine guardR_may (by simp (dsimp := false) only [push_cast, hP, hnt, hgw, hgb, Int.reduceLE, Int.reduceLT, sevalprocAttr, String.reduceEq, List.getElem?_cons_zero, List.getElem?_cons_succ]; rfl) ?_
      simp (dsimp := false) only [push_cast, hP, hnt, hgw, hgb, Int.reduceLE, Int.reduceLT, sevalprocAttr, String.reduceEq]
      refine guardR_may (by simp (dsimp := false) only [push_cast, hP, hnt, hgw, hgb, Int.reduceLE, Int.reduceLT, sevalprocAttr, String.reduceEq, List.getElem?_cons_zero, List.getElem?_cons_succ]; rfl) ?_
      simp (dsimp := false) only [push_cast, hP, hnt, hgw, hgb, Int.reduceLE, Int.reduceLT, sevalprocAttr, String.reduceEq]
      refine guardR_may (by simp (dsimp := false) only [push_cast, hP, hnt, hgw, hgb, Int.reduceLE, Int.reduceLT, sevalprocAttr, String.reduceEq, List.getElem?_cons_zero, List.getElem?_cons_succ]; rfl) ?_
      simp (dsimp := false) only [push_cast, hP, hnt, hgw, hgb, Int.reduceLE, Int.reduceLT, sevalprocAttr, String.reduceEq]
      refine hK _ ?_; clear hK
      refine vwp_cond (b := _) (by simp (dsimp := false) only [push_cast, hP, hnt, hgw, hgb, Int.reduceLE, Int.reduceLT, sevalprocAttr, String.reduceEq]; rfl) (fun rb2 => ?_) (fun rb2 => ?_)
      · have hb2 := rb2
        try simp only [beq_iff_eq, bne_iff_ne, ne_eq, bne_eq_false_iff_eq, beq_eq_false_iff_ne, decide_eq_true_eq, decide_eq_false_iff_not, Bool.not_eq_true', Bool.not_eq_false', Bool.or_eq_true, Bool.and_eq_true, Bool.or_eq_false_iff, Bool.and_eq_false_iff] at hb2
        refine vwp_seq_region rfl fun K hK => ?_
        simp (dsimp := false) only [push_cast, hP, hnt, hgw, hgb, Int.reduceLE, Int.reduceLT, sevalprocAttr, String.reduceEq]
        refine hK _ ?_; clear hK
        refine vwp_ret ?_
        refine ret_free (by simp (dsimp := false) only [push_cast, hP, hnt, hgw, hgb, Int.reduceLE, Int.reduceLT, sevalprocAttr, String.reduceEq]; rfl) (by simp (dsimp := false) only [push_cast, hP, hnt, hgw, hgb, Int.reduceLE, Int.reduceLT, sevalprocAttr, String.reduceEq]) ?_
        first | (simp only [pack, checkF, nPrefix, nPhases, rb0, rb1, rb2, if_true, if_false, Bool.false_eq_true, reduceIte]; done) | (simp only [pack, checkF, nPrefix, nPhases, hb0, hb1, hb2, if_true, if_false, ne_eq, not_true_eq_false, not_false_eq_true, true_or, or_true, or_self, ite_self, Bool.true_eq_false, Bool.false_eq_true, or_false, false_or]; done) | (subst_vars; simp only [pack, checkF, nPrefix, nPhases, *, if_true, if_false, ne_eq, not_true_eq_false, not_false_eq_true, true_or, or_true, or_self, ite_self, Bool.true_eq_false, Bool.false_eq_true, or_false, false_or]; done) | (simp [pack, checkF, nPrefix, nPhases, hb0, hb1, hb2] <;> omega)
      · have hb2 := rb2
        try simp only [beq_iff_eq, bne_iff_ne, ne_eq, bne_eq_false_iff_eq, beq_eq_false_iff_ne, decide_eq_true_eq, decide_eq_false_iff_not, Bool.not_eq_true', Bool.not_eq_false', Bool.or_eq_true, Bool.and_eq_true, Bool.or_eq_false_iff, Bool.and_eq_false_iff] at hb2
        refine vwp_skip ?_
        apply_assumption
        refine vwp_seq_region rfl fun K hK => ?_
        simp (dsimp := false) only [push_cast, hP, hnt, hgw, hgb, Int.reduceLE, Int.reduceLT, sevalprocAttr, String.reduceEq]
        refine hK _ ?_; clear hK
        refine vwp_ret ?_
        refine ret_free (by simp (dsimp := false) only [push_cast, hP, hnt, hgw, hgb, Int.reduceLE, Int.reduceLT, sevalprocAttr, String.reduceEq]; rfl) (by simp (dsimp := false) only [push_cast, hP, hnt, hgw, hgb, Int.reduceLE, Int.reduceLT, sevalprocAttr, String.reduceEq]) ?_
        first | (simp only [pack, checkF, nPrefix, nPhases, rb0, rb1, rb2, if_true, if_false, Bool.false_eq_true, reduceIte]; done) | (simp only [pack, checkF, nPrefix, nPhases, hb0, hb1, hb2, if_true, if_false, ne_eq, not_true_eq_false, not_false_eq_true, true_or, or_true, or_self, ite_self, Bool.true_eq_false, Bool.false_eq_true, or_false, false_or]; done) | (subst_vars; simp only [pack, checkF, nPrefix, nPhases, *, if_true, if_false, ne_eq, not_true_eq_false, not_false_eq_true, true_or, or_true, or_self, ite_self, Bool.true_eq_false, Bool.false_eq_true, or_false, false_or]; done) | (simp [pack, checkF, nPrefix, nPhases, hb0, hb1, hb2] <;> omega)
    · have hb1 := rb1
      try simp only [beq_iff_eq, bne_iff_ne, ne_eq, bne_eq_false_iff_eq, beq_eq_false_iff_ne, decide_eq_true_eq, decide_eq_false_iff_not, Bool.not_eq_true', Bool.not_eq_false', Bool.or_eq_true, Bool.and_eq_true, Bool.or_eq_false_iff, Bool.and_eq_false_iff] at hb1
      refine vwp_seq_region rfl fun K hK => ?_
      simp (dsimp := false) only [push_cast, hP, hnt, hgw, hgb, Int.reduceLE, Int.reduceLT, sevalprocAttr, String.reduceEq]
      refine hK _ ?_; clear hK
      refine vwp_cond (b := _) (by simp (dsimp := false) only [push_cast, hP, hnt, hgw, hgb, Int.reduceLE, Int.reduceLT, sevalprocAttr, String.reduceEq]; rfl) (fun rb3 => ?_) (fun rb3 => ?_)
      · have hb3 := rb3
        try simp only [beq_iff_eq, bne_iff_ne, ne_eq, bne_eq_false_iff_eq, beq_eq_false_iff_ne, decide_eq_true_eq, decide_eq_false_iff_not, Bool.not_eq_true', Bool.not_eq_false', Bool.or_eq_true, Bool.and_eq_true, Bool.or_eq_false_iff, Bool.and_eq_false_iff] at hb3
        refine vwp_region rfl ?_
        simp (dsimp := false) only [push_cast, hP, hnt, hgw, hgb, Int.reduceLE, Int.reduceLT, sevalprocAttr, String.reduceEq]
        apply_assumption
        refine vwp_seq fun K hK => ?_
        refine vwp_seq_regionG fun K hK => ?_
        simp (dsimp := false) only [push_cast, hP, hnt, hgw, hgb, Int.reduceLE, Int.reduceLT, sevalprocAttr, String.reduceEq]
        refine guardR_may (by simp (dsimp := false) only [push_cast, hP, hnt, hgw, hgb, Int.reduceLE, Int.reduceLT, sevalprocAttr, String.reduceEq, List.getElem?_cons_zero, List.getElem?_cons_succ]; rfl) ?_
        simp (dsimp := false) only [push_cast, hP, hnt, hgw, hgb, Int.reduceLE, Int.reduceLT, sevalprocAttr, String.reduceEq]
        refine guardR_may (by simp (dsimp := false) only [push_cast, hP, hnt, hgw, hgb, Int.reduceLE, Int.reduceLT, sevalprocAttr, String.reduceEq, List.getElem?_cons_zero, List.getElem?_cons_succ]; rfl) ?_
        simp (dsimp := false) only [push_cast, hP, hnt, hgw, hgb, Int.reduceLE, Int.reduceLT, sevalprocAttr, String.reduceEq]
        refine guardR_may (by simp (dsimp := false) only [push_cast, hP, hnt, hgw, hgb, Int.reduceLE, Int.reduceLT, sevalprocAttr, String.reduceEq, List.getElem?_cons_zero, List.getElem?_cons_succ]; rfl) ?_
        simp (dsimp := false) only [push_cast, hP, hnt, hgw, hgb, Int.reduceLE, Int.reduceLT, sevalprocAttr, String.reduceEq]
        refine guardR_may (by simp (dsimp := false) only [push_cast, hP, hnt, hgw, hgb, Int.reduceLE, Int.reduceLT, sevalprocAttr, String.reduceEq, List.getElem?_cons_zero, List.getElem?_cons_succ]; rfl) ?_
        simp (dsimp := false) only [push_cast, hP, hnt, hgw, hgb, Int.reduceLE, Int.reduceLT, sevalprocAttr, String.reduceEq]
        refine hK _ ?_; clear hK
        refine vwp_cond (b := _) (by simp (dsimp := false) only [push_cast, hP, hnt, hgw, hgb, Int.reduceLE, Int.reduceLT, sevalprocAttr, String.reduceEq]; rfl) (fun rb4 => ?_) (fun rb4 => ?_)
        · have hb4 := rb4
          try simp only [beq_iff_eq, bne_iff_ne, ne_eq, bne_eq_false_iff_eq, beq_eq_false_iff_ne, decide_eq_true_eq, decide_eq_false_iff_not, Bool.not_eq_true', Bool.not_eq_false', Bool.or_eq_true, Bool.and_eq_true, Bool.or_eq_false_iff, Bool.and_eq_false_iff] at hb4
          refine vwp_seq_region rfl fun K hK => ?_
          simp (dsimp := false) only [push_cast, hP, hnt, hgw, hgb, Int.reduceLE, Int.reduceLT, sevalprocAttr, String.reduceEq]
          refine hK _ ?_; clear hK
          refine vwp_ret ?_
          refine ret_free (by simp (dsimp := false) only [push_cast, hP, hnt, hgw, hgb, Int.reduceLE, Int.reduceLT, sevalprocAttr, String.reduceEq]; rfl) (by simp (dsimp := false) only [push_cast, hP, hnt, hgw, hgb, Int.reduceLE, Int.reduceLT, sevalprocAttr, String.reduceEq]) ?_
          first | (simp only [pack, checkF, nPrefix, nPhases, rb0, rb1, rb3, rb4, if_true, if_false, Bool.false_eq_true, reduceIte]; done) | (simp only [pack, checkF, nPrefix, nPhases, hb0, hb1, hb3, hb4, if_true, if_false, ne_eq, not_true_eq_false, not_false_eq_true, true_or, or_true, or_self, ite_self, Bool.true_eq_false, Bool.false_eq_true, or_false, false_or]; done) | (subst_vars; simp only [pack, checkF, nPrefix, nPhases, *, if_true, if_false, ne_eq, not_true_eq_false, not_false_eq_true, true_or, or_true, or_self, ite_self, Bool.true_eq_false, Bool.false_eq_true, or_false, false_or]; done) | (simp [pack, checkF, nPrefix, nPhases, hb0, hb1, hb3, hb4] <;> omega)
        · have hb4 := rb4
          try simp only [beq_iff_eq, bne_iff_ne, ne_eq, bne_eq_false_iff_eq, beq_eq_false_iff_ne, decide_eq_true_eq, decide_eq_false_iff_not, Bool.not_eq_true', Bool.not_eq_false', Bool.or_eq_true, Bool.and_eq_true, Bool.or_eq_false_iff, Bool.and_eq_false_iff] at hb4
          refine vwp_skip ?_
          apply_assumption
          refine vwp_seq_region rfl fun K hK => ?_
          simp (dsimp := false) only [push_cast, hP, hnt, hgw, hgb, Int.reduceLE, Int.reduceLT, sevalprocAttr, String.reduceEq]
          refine hK _ ?_; clear hK
          refine vwp_ret ?_
          refine ret_free (by simp (dsimp := false) only [push_cast, hP, hnt, hgw, hgb, Int.reduceLE, Int.reduceLT, sevalprocAttr, String.reduceEq]; rfl) (by simp (dsimp := false) only [push_cast, hP, hnt, hgw, hgb, Int.reduceLE, Int.reduceLT, sevalprocAttr, String.reduceEq]) ?_
          first | (simp only [pack, checkF, nPrefix, nPhases, rb0, rb1, rb3, rb4, if_true, if_false, Bool.false_eq_true, reduceIte]; done) | (simp only [pack, checkF, nPrefix, nPhases, hb0, hb1, hb3, hb4, if_true, if_false, ne_eq, not_true_eq_false, not_false_eq_true, true_or, or_true, or_self, ite_self, Bool.true_eq_false, Bool.false_eq_true, or_false, false_or]; done) | (subst_vars; simp only [pack, checkF, nPrefix, nPhases, *, if_true, if_false, ne_eq, not_true_eq_false, not_false_eq_true, true_or, or_true, or_self, ite_self, Bool.true_eq_false, Bool.false_eq_true, or_false, false_or]; done) | (simp [pack, checkF, nPrefix, nPhases, hb0, hb1, hb3, hb4] <;> omega)
      · have hb3 := rb3
        try simp only [beq_iff_eq, bne_iff_ne, ne_eq, bne_eq_false_iff_eq, beq_eq_false_iff_ne, decide_eq_true_eq, decide_eq_false_iff_not, Bool.not_eq_true', Bool.not_eq_false', Bool.or_eq_true, Bool.and_eq_true, Bool.or_eq_false_iff, Bool.and_eq_false_iff] at hb3
        refine vwp_skip ?_
        apply_assumption
        refine vwp_seq fun K hK => ?_
        refine vwp_seq_regionG fun K hK => ?_
        simp (dsimp := false) only [push_cast, hP, hnt, hgw, hgb, Int.reduceLE, Int.reduceLT, sevalprocAttr, String.reduceEq]
        refine guardR_may (by simp (dsimp := false) only [push_cast, hP, hnt, hgw, hgb, Int.reduceLE, Int.reduceLT, sevalprocAttr, String.reduceEq, List.getElem?_cons_zero, List.getElem?_cons_succ]; rfl) ?_
        simp (dsimp := false) only [push_cast, hP, hnt, hgw, hgb, Int.reduceLE, Int.reduceLT, sevalprocAttr, String.reduceEq]
        refine guardR_may (by simp (dsimp := false) only [push_cast, hP, hnt, hgw, hgb, Int.reduceLE, Int.reduceLT, sevalprocAttr, String.reduceEq, List.getElem?_cons_zero, List.getElem?_cons_succ]; rfl) ?_
        simp (dsimp := false) only [push_cast, hP, hnt, hgw, hgb, Int.reduceLE, Int.reduceLT, sevalprocAttr, String.reduceEq]
        refine guardR_may (by simp (dsimp := false) only [push_cast, hP, hnt, hgw, hgb, Int.reduceLE, Int.reduceLT, sevalprocAttr, String.reduceEq, List.getElem?_cons_zero, List.getElem?_cons_succ]; rfl) ?_
        simp (dsimp := false) only [push_cast, hP, hnt, hgw, hgb, Int.reduceLE, Int.reduceLT, sevalprocAttr, String.reduceEq]
        refine guardR_may (by simp (dsimp := false) only [push_cast, hP, hnt, hgw, hgb, Int.reduceLE, Int.reduceLT, sevalprocAttr, String.reduceEq, List.getElem?_cons_zero, List.getElem?_cons_succ]; rfl) ?_
        simp (dsimp := false) only [push_cast, hP, hnt, hgw, hgb, Int.reduceLE, Int.reduceLT, sevalprocAttr, String.reduceEq]
        refine hK _ ?_; clear hK
        refine vwp_cond (b := _) (by simp (dsimp := false) only [push_cast, hP, hnt, hgw, hgb, Int.reduceLE, Int.reduceLT, sevalprocAttr, String.reduceEq]; rfl) (fun rb5 => ?_) (fun rb5 => ?_)
        · have hb5 := rb5
          try simp only [beq_iff_eq, bne_iff_ne, ne_eq, bne_eq_false_iff_eq, beq_eq_false_iff_ne, decide_eq_true_eq, decide_eq_false_iff_not, Bool.not_eq_true', Bool.not_eq_false', Bool.or_eq_true, Bool.and_eq_true, Bool.or_eq_false_iff, Bool.and_eq_false_iff] at hb5
          refine vwp_seq_region rfl fun K hK => ?_
          simp (dsimp := false) only [push_cast, hP, hnt, hgw, hgb, Int.reduceLE, Int.reduceLT, sevalprocAttr, String.reduceEq]
          refine hK _ ?_; clear hK
          refine vwp_ret ?_
          refine ret_free (by simp (dsimp := false) only [push_cast, hP, hnt, hgw, hgb, Int.reduceLE, Int.reduceLT, sevalprocAttr, String.reduceEq]; rfl) (by simp (dsimp := false) only [push_cast, hP, hnt, hgw, hgb, Int.reduceLE, Int.reduceLT, sevalprocAttr, String.reduceEq]) ?_
          first | (simp only [pack, checkF, nPrefix, nPhases, rb0, rb1, rb3, rb5, if_true, if_false, Bool.false_eq_true, reduceIte]; done) | (simp only [pack, checkF, nPrefix, nPhases, hb0, hb1, hb3, hb5, if_true, if_false, ne_eq, not_true_eq_false, not_false_eq_true, true_or, or_true, or_self, ite_self, Bool.true_eq_false, Bool.false_eq_true, or_false, false_or]; done) | (subst_vars; simp only [pack, checkF, nPrefix, nPhases, *, if_true, if_false, ne_eq, not_true_eq_false, not_false_eq_true, true_or, or_true, or_self, ite_self, Bool.true_eq_false, Bool.false_eq_true, or_false, false_or]; done) | (simp [pack, checkF, nPrefix, nPhases, hb0, hb1, hb3, hb5] <;> omega)
        · have hb5 := rb5
          try simp only [beq_iff_eq, bne_iff_ne, ne_eq, bne_eq_false_iff_eq, beq_eq_false_iff_ne, decide_eq_true_eq, decide_eq_false_iff_not, Bool.not_eq_true', Bool.not_eq_false', Bool.or_eq_true, Bool.and_eq_true, Bool.or_eq_false_iff, Bool.and_eq_false_iff] at hb5
          refine vwp_skip ?_
          apply_assumption
          refine vwp_seq_region rfl fun K hK => ?_
          simp (dsimp := false) only [push_cast, hP, hnt, hgw, hgb, Int.reduceLE, Int.reduceLT, sevalprocAttr, String.reduceEq]
          refine hK _ ?_; clear hK
          refine vwp_ret ?_
          refine ret_free (by simp (dsimp := false) only [push_cast, hP, hnt, hgw, hgb, Int.reduceLE, Int.reduceLT, sevalprocAttr, String.reduceEq]; rfl) (by simp (dsimp := false) only [push_cast, hP, hnt, hgw, hgb, Int.reduceLE, Int.reduceLT, sevalprocAttr, String.reduceEq]) ?_
          first | (simp only [pack, checkF, nPrefix, nPhases, rb0, rb1, rb3, rb5, if_true, if_false, Bool.false_eq_true, reduceIte]; done) | (simp only [pack, checkF, nPrefix, nPhases, hb0, hb1, hb3, hb5, if_true, if_false, ne_eq, not_true_eq_false, not_false_eq_true, true_or, or_true, or_self, ite_self, Bool.true_eq_false, Bool.false_eq_true, or_false, false_or]; done) | (subst_vars; simp only [pack, checkF, nPrefix, nPhases, *, if_true, if_false, ne_eq, not_true_eq_false, not_false_eq_true, true_or, or_true, or_self, ite_self, Bool.true_eq_false, Bool.false_eq_true, or_false, false_or]; done) | (simp [pack, checkF, nPrefix, nPhases, hb0, hb1, hb3, hb5] <;> omega)
theorem names8_size : ∀ n, Lib.containsS names8 n = true → n.size ≤ 9 := by
  intro n h
  rw [Lib.containsS_iff] at h
  simp only [names8, List.mem_cons, List.not_mem_nil, or_false] at h
  rcases h with rfl | rfl | rfl | rfl | rfl | rfl | rfl | rfl <;> decide
theorem checkF_ok {n : ByteArray} {k : Int} (h : checkF n k = 0) : 0 ≤ k ∧ k ≤ 8 ∧ n.size ≤ 9 := by
  unfold checkF at h
  split at h
  · cases h
  · rename_i hc
    have hsz := names8_size n (by simpa using hc)
    repeat' split at h
    all_goals first
      | (exfalso; revert h; decide)
      | omega
def colon : ByteArray := ⟨#[58]⟩
def digitsB (k : Int) : ByteArray := ⟨(Lib.decDigits k.toNat).toArray⟩
theorem itoaZ_call (gw : World) (gb : Nat) (k : Int) (h : 0 ≤ k ∧ k < 100) : VCall Tryz.prog gw gb 29 [.one (.c (.int .i64 k))] (.one (.c (.string (digitsB k)))) [] := by
  have := itoa_call gw gb k.toNat (by omega)
  rwa [Int.toNat_of_nonneg h.1] at this
theorem digitsB_size (k : Int) (h : 0 ≤ k ∧ k ≤ 8) : (digitsB k).size = 1 := by
  unfold digitsB
  rw [Lib.decDigits_one (by omega)]
  rfl
def textF (n : ByteArray) (k : Int) : ByteArray × Int :=
  if checkF n k ≠ 0 then (⟨#[]⟩, checkF n k) else if k = 0 then (n, 0) else (n ++ colon ++ digitsB k, 0)

theorem text_call (gw : World) (gb : Nat) (n : ByteArray) (k : Int) : VCall Tryz.prog gw (gb) 33 [.agg [.c (.string n), .c (.int .i64 k)]] (.tup [.one (.c (.string (textF n k).1)), .one (.c (.int .i64 (textF n k).2))]) [] := by
  refine vcall_of [.tmp 2, .tmp 3] Tryz.func33 rfl rfl Tryz.ntmps33 rfl (by simp) ?_
  intro C hP hnt hgw hgb hfull
  refine vwp_seq_region rfl fun K hK => ?_
  simp (dsimp := false) only [push_cast, hP, hnt, hgw, hgb, Int.reduceLE, Int.reduceLT, sevalprocAttr, String.reduceEq]
  refine hK _ ?_; clear hK
  refine vwp_seq fun K hK => ?_
  refine vwp_seq_region rfl fun K hK => ?_
  simp (dsimp := false) only [push_cast, hP, hnt, hgw, hgb, Int.reduceLE, Int.reduceLT, sevalprocAttr, String.reduceEq]
  refine .inl (callE_intro (check_call gw gb n k) (.inl ⟨rfl, rfl⟩) ?_)
  simp (dsimp := false) only [push_cast, hP, hnt, hgw, hgb, Int.reduceLE, Int.reduceLT, sevalprocAttr, String.reduceEq]
  refine hK _ ?_; clear hK
  refine vwp_seq_region rfl fun K hK => ?_
  simp (dsimp := false) only [push_cast, hP, hnt, hgw, hgb, Int.reduceLE, Int.reduceLT, sevalprocAttr, String.reduceEq]
  refine hK _ ?_; clear hK
  refine vwp_cond (b := _) (by simp (dsimp := false) only [push_cast, hP, hnt, hgw, hgb, Int.reduceLE, Int.reduceLT, sevalprocAttr, String.reduceEq]; rfl) (fun rb0 => ?_) (fun rb0 => ?_)
  · have hb0 := rb0
    try simp only [beq_iff_eq, bne_iff_ne, ne_eq, bne_eq_false_iff_eq, beq_eq_false_iff_ne, decide_eq_true_eq, decide_eq_false_iff_not, Bool.not_eq_true', Bool.not_eq_false', Bool.or_eq_true, Bool.and_eq_true, Bool.or_eq_false_iff, Bool.and_eq_false_iff] at hb0
    refine vwp_seq_region rfl fun K hK => ?_
    simp (dsimp := false) only [push_cast, hP, hnt, hgw, hgb, Int.reduceLE, Int.reduceLT, sevalprocAttr, String.reduceEq]
    refine hK _ ?_; clear hK
    refine vwp_ret ?_
    refine ret_free (by simp (dsimp := false) only [push_cast, hP, hnt, hgw, hgb, Int.reduceLE, Int.reduceLT, sevalprocAttr, String.reduceEq]; rfl) (by simp (dsimp := false) only [push_cast, hP, hnt, hgw, hgb, Int.reduceLE, Int.reduceLT, sevalprocAttr, String.reduceEq]) ?_
    first | (simp only [pack, textF, colon, rb0, if_true, if_false, Bool.false_eq_true, reduceIte]; done) | (simp only [pack, textF, colon, hb0, if_true, if_false, ne_eq, not_true_eq_false, not_false_eq_true, true_or, or_true, or_self, ite_self, Bool.true_eq_false, Bool.false_eq_true, or_false, false_or]; done) | (subst_vars; simp only [pack, textF, colon, *, if_true, if_false, ne_eq, not_true_eq_false, not_false_eq_true, true_or, or_true, or_self, ite_self, Bool.true_eq_false, Bool.false_eq_true, or_false, false_or]; done) | (simp [pack, textF, colon, hb0] <;> omega)
  · have hb0 := rb0
    try simp only [beq_iff_eq, bne_iff_ne, ne_eq, bne_eq_false_iff_eq, beq_eq_false_iff_ne, decide_eq_true_eq, decide_eq_false_iff_not, Bool.not_eq_true', Bool.not_eq_false', Bool.or_eq_true, Bool.and_eq_true, Bool.or_eq_false_iff, Bool.and_eq_false_iff] at hb0
    have hz := checkF_ok hb0
    have h1 : n.size + (⟨#[58]⟩ : ByteArray).size ≤ 9223372036854775807 := by have : (⟨#[58]⟩ : ByteArray).size = 1 := rfl; omega
    have h2 : (n ++ (⟨#[58]⟩ : ByteArray)).size + (digitsB k).size ≤ 9223372036854775807 := by rw [ByteArray.size_append, digitsB_size k (by omega)]; have : (⟨#[58]⟩ : ByteArray).size = 1 := rfl; omega
    refine vwp_skip ?_
    apply_assumption
    refine vwp_seq fun K hK => ?_
    refine vwp_seq_region rfl fun K hK => ?_
    simp (dsimp := false) only [push_cast, hP, hnt, hgw, hgb, Int.reduceLE, Int.reduceLT, sevalprocAttr, String.reduceEq, h1, h2]
    refine hK _ ?_; clear hK
    refine vwp_cond (b := _) (by simp (dsimp := false) only [push_cast, hP, hnt, hgw, hgb, Int.reduceLE, Int.reduceLT, sevalprocAttr, String.reduceEq, h1, h2]; rfl) (fun rb1 => ?_) (fun rb1 => ?_)
    · have hb1 := rb1
      try simp only [beq_iff_eq, bne_iff_ne, ne_eq, bne_eq_false_iff_eq, beq_eq_false_iff_ne, decide_eq_true_eq, decide_eq_false_iff_not, Bool.not_eq_true', Bool.not_eq_false', Bool.or_eq_true, Bool.and_eq_true, Bool.or_eq_false_iff, Bool.and_eq_false_iff] at hb1
      refine vwp_seq_region rfl fun K hK => ?_
      simp (dsimp := false) only [push_cast, hP, hnt, hgw, hgb, Int.reduceLE, Int.reduceLT, sevalprocAttr, String.reduceEq, h1, h2]
      refine hK _ ?_; clear hK
      refine vwp_ret ?_
      refine ret_free (by simp (dsimp := false) only [push_cast, hP, hnt, hgw, hgb, Int.reduceLE, Int.reduceLT, sevalprocAttr, String.reduceEq, h1, h2]; rfl) (by simp (dsimp := false) only [push_cast, hP, hnt, hgw, hgb, Int.reduceLE, Int.reduceLT, sevalprocAttr, String.reduceEq, h1, h2]) ?_
      first | (simp only [pack, textF, colon, rb0, rb1, if_true, if_false, Bool.false_eq_true, reduceIte]; done) | (simp only [pack, textF, colon, hb0, hb1, if_true, if_false, ne_eq, not_true_eq_false, not_false_eq_true, true_or, or_true, or_self, ite_self, Bool.true_eq_false, Bool.false_eq_true, or_false, false_or]; done) | (subst_vars; simp only [pack, textF, colon, *, if_true, if_false, ne_eq, not_true_eq_false, not_false_eq_true, true_or, or_true, or_self, ite_self, Bool.true_eq_false, Bool.false_eq_true, or_false, false_or]; done) | (simp [pack, textF, colon, hb0, hb1] <;> omega)
    · have hb1 := rb1
      try simp only [beq_iff_eq, bne_iff_ne, ne_eq, bne_eq_false_iff_eq, beq_eq_false_iff_ne, decide_eq_true_eq, decide_eq_false_iff_not, Bool.not_eq_true', Bool.not_eq_false', Bool.or_eq_true, Bool.and_eq_true, Bool.or_eq_false_iff, Bool.and_eq_false_iff] at hb1
      refine vwp_skip ?_
      apply_assumption
      refine vwp_seq_anyF [[], [0], [0, 1], [], [3], [3, 4], [0, 1, 2, 3, 4, 5], [0, 1, 2, 3, 4, 5, 6], [0, 1, 2, 3, 4, 5, 6, 7]] [([(15, .dead), (16, .old), (17, .old), (18, .dead), (19, .dead), (20, .dead), (21, .old), (2, .old), (3, .old)], [16, 17, 18, 19, 20, 21, 2, 3], []), ([(15, .dep 0), (16, .dead), (17, .old), (18, .dead), (19, .dead), (20, .dead), (21, .old), (2, .old), (3, .old)], [17, 18, 19, 20, 21, 2, 3], [0]), ([(15, .dep 1), (16, .dep 0), (17, .dead), (18, .dead), (19, .dead), (20, .dead), (21, .old), (2, .old), (3, .old)], [18, 19, 20, 21, 2, 3], [1, 0]), ([(15, .dead), (16, .dead), (17, .dead), (18, .dead), (19, .old), (20, .old), (21, .old), (2, .old), (3, .old)], [15, 16, 17, 19, 20, 21, 2, 3], []), ([(15, .dead), (16, .dead), (17, .dead), (18, .dep 0), (19, .dead), (20, .old), (21, .old), (2, .old), (3, .old)], [15, 16, 17, 20, 21, 2, 3], [0]), ([(15, .dead), (16, .dead), (17, .dead), (18, .dep 1), (19, .dep 0), (20, .dead), (21, .old), (2, .old), (3, .old)], [15, 16, 17, 21, 2, 3], [1, 0]), ([(15, .dep 5), (16, .dep 4), (17, .dep 3), (18, .dep 2), (19, .dep 1), (20, .dep 0), (21, .dead), (2, .old), (3, .old)], [2, 3], [5, 4, 3, 2, 1, 0]), ([(15, .dep 6), (16, .dep 5), (17, .dep 4), (18, .dep 3), (19, .dep 2), (20, .dep 1), (21, .dep 0), (2, .dead), (3, .old)], [3], [6, 5, 4, 3, 2, 1, 0]), ([(15, .dep 7), (16, .dep 6), (17, .dep 5), (18, .dep 4), (19, .dep 3), (20, .dep 2), (21, .dep 1), (2, .dep 0), (3, .dead)], [], [7, 6, 5, 4, 3, 2, 1, 0])] (by rw [hP]; exact mixed) rfl rfl rfl fun K hK => ?_
      simp (dsimp := false) only [push_cast, hP, hnt, hgw, hgb, Int.reduceLE, Int.reduceLT, sevalprocAttr, String.reduceEq, h1, h2, Nat.reduceBNe, Nat.reduceBEq]
      refine .inl (callE_intro (itoaZ_call gw gb k (by have := checkF_ok hb0; omega)) (.inl ⟨rfl, rfl⟩) ?_)
      simp (dsimp := false) only [push_cast, hP, hnt, hgw, hgb, Int.reduceLE, Int.reduceLT, sevalprocAttr, String.reduceEq, h1, h2, Nat.reduceBNe, Nat.reduceBEq]
      refine ⟨rfl, ?_⟩
      refine hK _ ?_; clear hK
      refine vwp_ret ?_
      refine ret_free (by simp (dsimp := false) only [push_cast, hP, hnt, hgw, hgb, Int.reduceLE, Int.reduceLT, sevalprocAttr, String.reduceEq, h1, h2]; rfl) (by simp (dsimp := false) only [push_cast, hP, hnt, hgw, hgb, Int.reduceLE, Int.reduceLT, sevalprocAttr, String.reduceEq, h1, h2]) ?_
      first | (simp only [pack, textF, colon, rb0, rb1, if_true, if_false, Bool.false_eq_true, reduceIte]; done) | (simp only [pack, textF, colon, hb0, hb1, if_true, if_false, ne_eq, not_true_eq_false, not_false_eq_true, true_or, or_true, or_self, ite_self, Bool.true_eq_false, Bool.false_eq_true, or_false, false_or]; done) | (subst_vars; simp only [pack, textF, colon, *, if_true, if_false, ne_eq, not_true_eq_false, not_false_eq_true, true_or, or_true, or_self, ite_self, Bool.true_eq_false, Bool.false_eq_true, or_false, false_or]; done) | (simp [pack, textF, colon, hb0, hb1] <;> omega)
end Go.Vm
