/-
  Walks of the program's functions by the framework, and what they compute (PtAI). Conditions: each theorem's own premises. By an AI agent.
-/
import Derived.Test.YtnpbndglolcilaaGreatDoorPtAH
import Derived.Lib.ConvBytes
import Derived.Test.YtnpbndglolcilaaGreatDoorVmAG
import Derived.Shelf.Strings.Builder1
section
namespace Go.Vm
open Go Go.RowKit Go.Proofs
set_option maxRecDepth 100000
set_option linter.unusedSimpArgs false
set_option linter.unusedVariables false
set_option maxHeartbeats 4000000

def nPrefix : ByteArray := ⟨#[112, 114, 101, 102, 105, 120]⟩
def nPhases : ByteArray := ⟨#[112, 104, 97, 115, 101, 115]⟩
def checkF (n : ByteArray) (k : Int) : Int :=
  if Lib.containsS names8 n = false then 12
  else if n.toList = nPrefix.toList then (if k < 1 ∨ 8 < k then 2 else 0)
  else if n.toList = nPhases.toList then (if k < 2 ∨ 4 < k then 2 else 0)
  else if k < 0 ∨ 0 < k then 2 else 0

theorem names_call (gw : World) (gb : Nat) : VCall Tryz.prog gw (gb) 67 [] (.one (.own (0, 0))) [.arr 9 1 8 (names8.map fun s => .c (.string s))] := by
  refine vcall_of [.tmp 0] Tryz.func67 rfl rfl Tryz.ntmps67 rfl (by simp) ?_
  intro C hP hnt hgw hgb hfull
  refine vwp_seq_region rfl fun K hK => ?_
  simp (dsimp := false) only [push_cast, hP, hnt, hgw, hgb, Int.reduceLE, Int.reduceLT, sevalprocAttr, String.reduceEq]
  refine hK _ ?_; clear hK
  refine vwp_seq_region rfl fun K hK => ?_
  simp (dsimp := false) only [push_cast, hP, hnt, hgw, hgb, Int.reduceLE, Int.reduceLT, sevalprocAttr, String.reduceEq]
  refine hK _ ?_; clear hK
  refine vwp_ret ?_
  refine ret_own (by simp (dsimp := false) only [push_cast, hP, hnt, hgw, hgb, Int.reduceLE, Int.reduceLT, sevalprocAttr, String.reduceEq]; rfl) (by simp (dsimp := false) only [push_cast, hP, hnt, hgw, hgb, Int.reduceLE, Int.reduceLT, sevalprocAttr, String.reduceEq]; rfl) (by simp (dsimp := false) only [push_cast, hP, hnt, hgw, hgb, Int.reduceLE, Int.reduceLT, sevalprocAttr, String.reduceEq])
theorem check_call (gw : World) (gb : Nat) (n : ByteArray) (k : Int) : VCall Tryz.prog gw (gb) 53 [.agg [.c (.string n), .c (.int .i64 k)]] (.one (.c (.int .i64 (checkF n k)))) [] := by
  refine vcall_of [.tmp 2] Tryz.func53 rfl rfl Tryz.ntmps53 rfl (by simp) ?_
  intro C hP hnt hgw hgb hfull
  refine vwp_seq_region rfl fun K hK => ?_
  simp (dsimp := false) only [push_cast, hP, hnt, hgw, hgb, Int.reduceLE, Int.reduceLT, sevalprocAttr, String.reduceEq]
  refine hK _ ?_; clear hK
  refine vwp_seq fun K hK => ?_
  refine vwp_seq_anyF [[], [], [1], [0, 1, 2], [0, 1, 2, 3]] [([(5, .dead), (6, .dead), (7, .dead), (8, .old), (9, .old)], [6, 7, 8, 9], []), ([(5, .dead), (6, .dead), (7, .old), (8, .old), (9, .old)], [5, 7, 8, 9], []), ([(5, .dead), (6, .dep 0), (7, .dead), (8, .old), (9, .old)], [5, 8, 9], [0]), ([(5, .dep 2), (6, .dep 1), (7, .dep 0), (8, .dead), (9, .old)], [9], [2, 1, 0]), ([(5, .dep 3), (6, .dep 2), (7, .dep 1), (8, .dep 0), (9, .dead)], [], [3, 2, 1, 0])] (by rw [hP]; exact mixed) rfl rfl rfl fun K hK => ?_
  simp (dsimp := false) only [push_cast, hP, hnt, hgw, hgb, Int.reduceLE, Int.reduceLT, sevalprocAttr, String.reduceEq, Nat.reduceBNe, Nat.reduceBEq]
  refine .inl (callE_intro (names_call gw gb) (.inl ⟨rfl, rfl⟩) ?_)
  simp (dsimp := false) only [push_cast, hP, hnt, hgw, hgb, Int.reduceLE, Int.reduceLT, sevalprocAttr, String.reduceEq, Nat.reduceBNe, Nat.reduceBEq]
  refine .inl (callE_intro (contains_call gw gb names8 n (by decide)) (.inl ⟨rfl, rfl⟩) ?_)
  simp (dsimp := false) only [push_cast, hP, hnt, hgw, hgb, Int.reduceLE, Int.reduceLT, sevalprocAttr, String.reduceEq, Nat.reduceBNe, Nat.reduceBEq]
  refine ⟨rfl, ?_⟩
  refine hK _ ?_; clear hK
  refine vwp_cond (b := _) (by simp (dsimp := false) only [push_cast, hP, hnt, hgw, hgb, Int.reduceLE, Int.reduceLT, sevalprocAttr, String.reduceEq]; rfl) (fun rb0 => ?_) (fun rb0 => ?_)
  · have hb0 := rb0
    try simp only [beq_iff_eq, bne_iff_ne, ne_eq, bne_eq_false_iff_eq, beq_eq_false_iff_ne, decide_eq_true_eq, decide_eq_false_iff_not, Bool.not_eq_true', Bool.not_eq_false', Bool.or_eq_true, Bool.and_eq_true, Bool.or_eq_false_iff, Bool.and_eq_false_iff] at hb0
    refine vwp_seq_region rfl fun K hK => ?_
    simp (dsimp := false) only [push_cast, hP, hnt, hgw, hgb, Int.reduceLE, Int.reduceLT, sevalprocAttr, String.reduceEq]
    refine hK _ ?_; clear hK
    refine vwp_ret ?_
    refine ret_free (by simp (dsimp := false) only [push_cast, hP, hnt, hgw, hgb, Int.reduceLE, Int.reduceLT, sevalprocAttr, String.reduceEq]; rfl) (by simp (dsimp := false) only [push_cast, hP, hnt, hgw, hgb, Int.reduceLE, Int.reduceLT, sevalprocAttr, String.reduceEq]) ?_
    first | (simp only [pack, checkF, nPrefix, nPhases, rb0, if_true, if_false, Bool.false_eq_true, reduceIte]; done) | (simp only [pack, checkF, nPrefix, nPhases, hb0, if_true, if_false, ne_eq, not_true_eq_false, not_false_eq_true, true_or, or_true, or_self, ite_self, Bool.true_eq_false, Bool.false_eq_true, or_false, false_or]; done) | (subst_vars; simp only [pack, checkF, nPrefix, nPhases, *, if_true, if_false, ne_eq, not_true_eq_false, not_false_eq_true, true_or, or_true, or_self, ite_self, Bool.true_eq_false, Bool.false_eq_true, or_false, false_or]; done) | (simp [pack, checkF, nPrefix, nPhases, hb0] <;> omega)
  · have hb0 := rb0
    try simp only [beq_iff_eq, bne_iff_ne, ne_eq, bne_eq_false_iff_eq, beq_eq_false_iff_ne, decide_eq_true_eq, decide_eq_false_iff_not, Bool.not_eq_true', Bool.not_eq_false', Bool.or_eq_true, Bool.and_eq_true, Bool.or_eq_false_iff, Bool.and_eq_false_iff] at hb0
    refine vwp_skip ?_
    apply_assumption
    refine vwp_seq_region rfl fun K hK => ?_
    simp (dsimp := false) only [push_cast, hP, hnt, hgw, hgb, Int.reduceLE, Int.reduceLT, sevalprocAttr, String.reduceEq]
    refine hK _ ?_; clear hK
    refine vwp_seq fun K hK => ?_
    refine vwp_seq_region rfl fun K hK => ?_
    simp (dsimp := false) only [push_cast, hP, hnt, hgw, hgb, Int.reduceLE, Int.reduceLT, sevalprocAttr, String.reduceEq]
    refine hK _ ?_; clear hK
    refine vwp_block ?_
    refine vwp_seq_region rfl fun K hK => ?_
    simp (dsimp := false) only [push_cast, hP, hnt, hgw, hgb, Int.reduceLE, Int.reduceLT, sevalprocAttr, String.reduceEq]
    refine hK _ ?_; clear hK
    refine vwp_cond (b := _) (by simp (dsimp := false) only [push_cast, hP, hnt, hgw, hgb, Int.reduceLE, Int.reduceLT, sevalprocAttr, String.reduceEq]; rfl) (fun rb1 => ?_) (fun rb1 => ?_)
    · have hb1 := rb1
      try simp only [beq_iff_eq, bne_iff_ne, ne_eq, bne_eq_false_iff_eq, beq_eq_false_iff_ne, decide_eq_true_eq, decide_eq_false_iff_not, Bool.not_eq_true', Bool.not_eq_false', Bool.or_eq_true, Bool.and_eq_true, Bool.or_eq_false_iff, Bool.and_eq_false_iff] at hb1
      refine vwp_region rfl ?_
      simp (dsimp := false) only [push_cast, hP, hnt, hgw, hgb, Int.reduceLE, Int.reduceLT, sevalprocAttr, String.reduceEq]
      apply_assumption
      refine vwp_seq fun K hK => ?_
      refine vwp_seq_regionG fun K hK => ?_
      simp (dsimp := false) only [push_cast, hP, hnt, hgw, hgb, Int.reduceLE, Int.reduceLT, sevalprocAttr, String.reduceEq]
      refine guardR_may (by simp (dsimp := false) only [push_cast, hP, hnt, hgw, hgb, Int.reduceLE, Int.reduceLT, sevalprocAttr, String.reduceEq, List.getElem?_cons_zero, List.getElem?_cons_succ]; rfl) ?_
      simp (dsimp := false) only [push_cast, hP, hnt, hgw, hgb, Int.reduceLE, Int.reduceLT, sevalprocAttr, String.reduceEq]
      refine guardR_may (by simp (dsimp := false) only [push_cast, hP, hnt, hgw, hgb, Int.reduceLE, Int.reduceLT, sevalprocAttr, String.reduceEq, List.getElem?_cons_zero, List.getElem?_cons_succ]; rfl) ?_
      simp (dsimp := false) only [push_cast, hP, hnt, hgw, hgb, Int.reduceLE, Int.reduceLT, sevalprocAttr, String.reduceEq]
      refine guardR_may (by simp (dsimp := false) only [push_cast, hP, hnt, hgw, hgb, Int.reduceLE, Int.reduceLT, sevalprocAttr, String.reduceEq, List.getElem?_cons_zero, List.getElem?_cons_succ]; rfl) ?_
      simp (dsimp := false) only [push_cast, hP, hnt, hgw, hgb, Int.reduceLE, Int.reduceLT, sevalprocAttr, String.reduceEq]
      refine guardR_may (by simp (dsimp := false) only [push_cast, hP, hnt, hgw, hgb, Int.reduceLE, Int.reduceLT, sevalprocAttr, String.reduceEq, List.getElem?_cons_zero, List.getElem?_cons_succ]; rfl) ?_
      simp (dsimp := false) only [push_cast, hP, hnt, hgw, hgb, Int.reduceLE, Int.reduceLT, sevalprocAttr, String.reduceEq]
      refine hK _ ?_; clear hK
      refine vwp_cond (b := _) (by simp (dsimp := false) only [push_cast, hP, hnt, hgw, hgb, Int.reduceLE, Int.reduceLT, sevalprocAttr, String.reduceEq]; rfl) (fun rb2 => ?_) (fun rb2 => ?_)
      · have hb2 := rb2
        try simp only [beq_iff_eq, bne_iff_ne, ne_eq, bne_eq_false_iff_eq, beq_eq_false_iff_ne, decide_eq_true_eq, decide_eq_false_iff_not, Bool.not_eq_true', Bool.not_eq_false', Bool.or_eq_true, Bool.and_eq_true, Bool.or_eq_false_iff, Bool.and_eq_false_iff] at hb2
        refine vwp_seq_region rfl fun K hK => ?_
        simp (dsimp := false) only [push_cast, hP, hnt, hgw, hgb, Int.reduceLE, Int.reduceLT, sevalprocAttr, String.reduceEq]
        refine hK _ ?_; clear hK
        refine vwp_ret ?_
        refine ret_free (by simp (dsimp := false) only [push_cast, hP, hnt, hgw, hgb, Int.reduceLE, Int.reduceLT, sevalprocAttr, String.reduceEq]; rfl) (by simp (dsimp := false) only [push_cast, hP, hnt, hgw, hgb, Int.reduceLE, Int.reduceLT, sevalprocAttr, String.reduceEq]) ?_
        first | (simp only [pack, checkF, nPrefix, nPhases, rb0, rb1, rb2, if_true, if_false, Bool.false_eq_true, reduceIte]; done) | (simp only [pack, checkF, nPrefix, nPhases, hb0, hb1, hb2, if_true, if_false, ne_eq, not_true_eq_false, not_false_eq_true, true_or, or_true, or_self, ite_self, Bool.true_eq_false, Bool.false_eq_true, or_false, false_or]; done) | (subst_vars; simp only [pack, checkF, nPrefix, nPhases, *, if_true, if_false, ne_eq, not_true_eq_false, not_false_eq_true, true_or, or_true, or_self, ite_self, Bool.true_eq_false, Bool.false_eq_true, or_false, false_or]; done) | (simp [pack, checkF, nPrefix, nPhases, hb0, hb1, hb2] <;> omega)
      · have hb2 := rb2
        try simp only [beq_iff_eq, bne_iff_ne, ne_eq, bne_eq_false_iff_eq, beq_eq_false_iff_ne, decide_eq_true_eq, decide_eq_false_iff_not, Bool.not_eq_true', Bool.not_eq_false', Bool.or_eq_true, Bool.and_eq_true, Bool.or_eq_false_iff, Bool.and_eq_false_iff] at hb2
        refine vwp_skip ?_
        apply_assumption
        refine vwp_seq_region rfl fun K hK => ?_
        simp (dsimp := false) only [push_cast, hP, hnt, hgw, hgb, Int.reduceLE, Int.reduceLT, sevalprocAttr, String.reduceEq]
        refine hK _ ?_; clear hK
        refine vwp_ret ?_
        refine ret_free (by simp (dsimp := false) only [push_cast, hP, hnt, hgw, hgb, Int.reduceLE, Int.reduceLT, sevalprocAttr, String.reduceEq]; rfl) (by simp (dsimp := false) only [push_cast, hP, hnt, hgw, hgb, Int.reduceLE, Int.reduceLT, sevalprocAttr, String.reduceEq]) ?_
        first | (simp only [pack, checkF, nPrefix, nPhases, rb0, rb1, rb2, if_true, if_false, Bool.false_eq_true, reduceIte]; done) | (simp only [pack, checkF, nPrefix, nPhases, hb0, hb1, hb2, if_true, if_false, ne_eq, not_true_eq_false, not_false_eq_true, true_or, or_true, or_self, ite_self, Bool.true_eq_false, Bool.false_eq_true, or_false, false_or]; done) | (subst_vars; simp only [pack, checkF, nPrefix, nPhases, *, if_true, if_false, ne_eq, not_true_eq_false, not_false_eq_true, true_or, or_true, or_self, ite_self, Bool.true_eq_false, Bool.false_eq_true, or_false, false_or]; done) | (simp [pack, checkF, nPrefix, nPhases, hb0, hb1, hb2] <;> omega)
    · have hb1 := rb1
      try simp only [beq_iff_eq, bne_iff_ne, ne_eq, bne_eq_false_iff_eq, beq_eq_false_iff_ne, decide_eq_true_eq, decide_eq_false_iff_not, Bool.not_eq_true', Bool.not_eq_false', Bool.or_eq_true, Bool.and_eq_true, Bool.or_eq_false_iff, Bool.and_eq_false_iff] at hb1
      refine vwp_seq_region rfl fun K hK => ?_
      simp (dsimp := false) only [push_cast, hP, hnt, hgw, hgb, Int.reduceLE, Int.reduceLT, sevalprocAttr, String.reduceEq]
      refine hK _ ?_; clear hK
      refine vwp_cond (b := _) (by simp (dsimp := false) only [push_cast, hP, hnt, hgw, hgb, Int.reduceLE, Int.reduceLT, sevalprocAttr, String.reduceEq]; rfl) (fun rb3 => ?_) (fun rb3 => ?_)
      · have hb3 := rb3
        try simp only [beq_iff_eq, bne_iff_ne, ne_eq, bne_eq_false_iff_eq, beq_eq_false_iff_ne, decide_eq_true_eq, decide_eq_false_iff_not, Bool.not_eq_true', Bool.not_eq_false', Bool.or_eq_true, Bool.and_eq_true, Bool.or_eq_false_iff, Bool.and_eq_false_iff] at hb3
        refine vwp_region rfl ?_
        simp (dsimp := false) only [push_cast, hP, hnt, hgw, hgb, Int.reduceLE, Int.reduceLT, sevalprocAttr, String.reduceEq]
        apply_assumption
        refine vwp_seq fun K hK => ?_
        refine vwp_seq_regionG fun K hK => ?_
        simp (dsimp := false) only [push_cast, hP, hnt, hgw, hgb, Int.reduceLE, Int.reduceLT, sevalprocAttr, String.reduceEq]
        refine guardR_may (by simp (dsimp := false) only [push_cast, hP, hnt, hgw, hgb, Int.reduceLE, Int.reduceLT, sevalprocAttr, String.reduceEq, List.getElem?_cons_zero, List.getElem?_cons_succ]; rfl) ?_
        simp (dsimp := false) only [push_cast, hP, hnt, hgw, hgb, Int.reduceLE, Int.reduceLT, sevalprocAttr, String.reduceEq]
        refine guardR_may (by simp (dsimp := false) only [push_cast, hP, hnt, hgw, hgb, Int.reduceLE, Int.reduceLT, sevalprocAttr, String.reduceEq, List.getElem?_cons_zero, List.getElem?_cons_succ]; rfl) ?_
        simp (dsimp := false) only [push_cast, hP, hnt, hgw, hgb, Int.reduceLE, Int.reduceLT, sevalprocAttr, String.reduceEq]
        refine guardR_may (by simp (dsimp := false) only [push_cast, hP, hnt, hgw, hgb, Int.reduceLE, Int.reduceLT, sevalprocAttr, String.reduceEq, List.getElem?_cons_zero, List.getElem?_cons_succ]; rfl) ?_
        simp (dsimp := false) only [push_cast, hP, hnt, hgw, hgb, Int.reduceLE, Int.reduceLT, sevalprocAttr, String.reduceEq]
        refine guardR_may (by simp (dsimp := false) only [push_cast, hP, hnt, hgw, hgb, Int.reduceLE, Int.reduceLT, sevalprocAttr, String.reduceEq, List.getElem?_cons_zero, List.getElem?_cons_succ]; rfl) ?_
        simp (dsimp := false) only [push_cast, hP, hnt, hgw, hgb, Int.reduceLE, Int.reduceLT, sevalprocAttr, String.reduceEq]
        refine hK _ ?_; clear hK
        refine vwp_cond (b := _) (by simp (dsimp := false) only [push_cast, hP, hnt, hgw, hgb, Int.reduceLE, Int.reduceLT, sevalprocAttr, String.reduceEq]; rfl) (fun rb4 => ?_) (fun rb4 => ?_)
        · have hb4 := rb4
          try simp only [beq_iff_eq, bne_iff_ne, ne_eq, bne_eq_false_iff_eq, beq_eq_false_iff_ne, decide_eq_true_eq, decide_eq_false_iff_not, Bool.not_eq_true', Bool.not_eq_false', Bool.or_eq_true, Bool.and_eq_true, Bool.or_eq_false_iff, Bool.and_eq_false_iff] at hb4
          refine vwp_seq_region rfl fun K hK => ?_
          simp (dsimp := false) only [push_cast, hP, hnt, hgw, hgb, Int.reduceLE, Int.reduceLT, sevalprocAttr, String.reduceEq]
          refine hK _ ?_; clear hK
          refine vwp_ret ?_
          refine ret_free (by simp (dsimp := false) only [push_cast, hP, hnt, hgw, hgb, Int.reduceLE, Int.reduceLT, sevalprocAttr, String.reduceEq]; rfl) (by simp (dsimp := false) only [push_cast, hP, hnt, hgw, hgb, Int.reduceLE, Int.reduceLT, sevalprocAttr, String.reduceEq]) ?_
          first | (simp only [pack, checkF, nPrefix, nPhases, rb0, rb1, rb3, rb4, if_true, if_false, Bool.false_eq_true, reduceIte]; done) | (simp only [pack, checkF, nPrefix, nPhases, hb0, hb1, hb3, hb4, if_true, if_false, ne_eq, not_true_eq_false, not_false_eq_true, true_or, or_true, or_self, ite_self, Bool.true_eq_false, Bool.false_eq_true, or_false, false_or]; done) | (subst_vars; simp only [pack, checkF, nPrefix, nPhases, *, if_true, if_false, ne_eq, not_true_eq_false, not_false_eq_true, true_or, or_true, or_self, ite_self, Bool.true_eq_false, Bool.false_eq_true, or_false, false_or]; done) | (simp [pack, checkF, nPrefix, nPhases, hb0, hb1, hb3, hb4] <;> omega)
        · have hb4 := rb4
          try simp only [beq_iff_eq, bne_iff_ne, ne_eq, bne_eq_false_iff_eq, beq_eq_false_iff_ne, decide_eq_true_eq, decide_eq_false_iff_not, Bool.not_eq_true', Bool.not_eq_false', Bool.or_eq_true, Bool.and_eq_true, Bool.or_eq_false_iff, Bool.and_eq_false_iff] at hb4
          refine vwp_skip ?_
          apply_assumption
          refine vwp_seq_region rfl fun K hK => ?_
          simp (dsimp := false) only [push_cast, hP, hnt, hgw, hgb, Int.reduceLE, Int.reduceLT, sevalprocAttr, String.reduceEq]
          refine hK _ ?_; clear hK
          refine vwp_ret ?_
          refine ret_free (by simp (dsimp := false) only [push_cast, hP, hnt, hgw, hgb, Int.reduceLE, Int.reduceLT, sevalprocAttr, String.reduceEq]; rfl) (by simp (dsimp := false) only [push_cast, hP, hnt, hgw, hgb, Int.reduceLE, Int.reduceLT, sevalprocAttr, String.reduceEq]) ?_
          first | (simp only [pack, checkF, nPrefix, nPhases, rb0, rb1, rb3, rb4, if_true, if_false, Bool.false_eq_true, reduceIte]; done) | (simp only [pack, checkF, nPrefix, nPhases, hb0, hb1, hb3, hb4, if_true, if_false, ne_eq, not_true_eq_false, not_false_eq_true, true_or, or_true, or_self, ite_self, Bool.true_eq_false, Bool.false_eq_true, or_false, false_or]; done) | (subst_vars; simp only [pack, checkF, nPrefix, nPhases, *, if_true, if_false, ne_eq, not_true_eq_false, not_false_eq_true, true_or, or_true, or_self, ite_self, Bool.true_eq_false, Bool.false_eq_true, or_false, false_or]; done) | (simp [pack, checkF, nPrefix, nPhases, hb0, hb1, hb3, hb4] <;> omega)
      · have hb3 := rb3
        try simp only [beq_iff_eq, bne_iff_ne, ne_eq, bne_eq_false_iff_eq, beq_eq_false_iff_ne, decide_eq_true_eq, decide_eq_false_iff_not, Bool.not_eq_true', Bool.not_eq_false', Bool.or_eq_true, Bool.and_eq_true, Bool.or_eq_false_iff, Bool.and_eq_false_iff] at hb3
        refine vwp_skip ?_
        apply_assumption
        refine vwp_seq fun K hK => ?_
        refine vwp_seq_regionG fun K hK => ?_
        simp (dsimp := false) only [push_cast, hP, hnt, hgw, hgb, Int.reduceLE, Int.reduceLT, sevalprocAttr, String.reduceEq]
        refine guardR_may (by simp (dsimp := false) only [push_cast, hP, hnt, hgw, hgb, Int.reduceLE, Int.reduceLT, sevalprocAttr, String.reduceEq, List.getElem?_cons_zero, List.getElem?_cons_succ]; rfl) ?_
        simp (dsimp := false) only [push_cast, hP, hnt, hgw, hgb, Int.reduceLE, Int.reduceLT, sevalprocAttr, String.reduceEq]
        refine guardR_may (by simp (dsimp := false) only [push_cast, hP, hnt, hgw, hgb, Int.reduceLE, Int.reduceLT, sevalprocAttr, String.reduceEq, List.getElem?_cons_zero, List.getElem?_cons_succ]; rfl) ?_
        simp (dsimp := false) only [push_cast, hP, hnt, hgw, hgb, Int.reduceLE, Int.reduceLT, sevalprocAttr, String.reduceEq]
        refine guardR_may (by simp (dsimp := false) only [push_cast, hP, hnt, hgw, hgb, Int.reduceLE, Int.reduceLT, sevalprocAttr, String.reduceEq, List.getElem?_cons_zero, List.getElem?_cons_succ]; rfl) ?_
        simp (dsimp := false) only [push_cast, hP, hnt, hgw, hgb, Int.reduceLE, Int.reduceLT, sevalprocAttr, String.reduceEq]
        refine guardR_may (by simp (dsimp := false) only [push_cast, hP, hnt, hgw, hgb, Int.reduceLE, Int.reduceLT, sevalprocAttr, String.reduceEq, List.getElem?_cons_zero, List.getElem?_cons_succ]; rfl) ?_
        simp (dsimp := false) only [push_cast, hP, hnt, hgw, hgb, Int.reduceLE, Int.reduceLT, sevalprocAttr, String.reduceEq]
        refine hK _ ?_; clear hK
        refine vwp_cond (b := _) (by simp (dsimp := false) only [push_cast, hP, hnt, hgw, hgb, Int.reduceLE, Int.reduceLT, sevalprocAttr, String.reduceEq]; rfl) (fun rb5 => ?_) (fun rb5 => ?_)
        · have hb5 := rb5
          try simp only [beq_iff_eq, bne_iff_ne, ne_eq, bne_eq_false_iff_eq, beq_eq_false_iff_ne, decide_eq_true_eq, decide_eq_false_iff_not, Bool.not_eq_true', Bool.not_eq_false', Bool.or_eq_true, Bool.and_eq_true, Bool.or_eq_false_iff, Bool.and_eq_false_iff] at hb5
          refine vwp_seq_region rfl fun K hK => ?_
          simp (dsimp := false) only [push_cast, hP, hnt, hgw, hgb, Int.reduceLE, Int.reduceLT, sevalprocAttr, String.reduceEq]
          refine hK _ ?_; clear hK
          refine vwp_ret ?_
          refine ret_free (by simp (dsimp := false) only [push_cast, hP, hnt, hgw, hgb, Int.reduceLE, Int.reduceLT, sevalprocAttr, String.reduceEq]; rfl) (by simp (dsimp := false) only [push_cast, hP, hnt, hgw, hgb, Int.reduceLE, Int.reduceLT, sevalprocAttr, String.reduceEq]) ?_
          first | (simp only [pack, checkF, nPrefix, nPhases, rb0, rb1, rb3, rb5, if_true, if_false, Bool.false_eq_true, reduceIte]; done) | (simp only [pack, checkF, nPrefix, nPhases, hb0, hb1, hb3, hb5, if_true, if_false, ne_eq, not_true_eq_false, not_false_eq_true, true_or, or_true, or_self, ite_self, Bool.true_eq_false, Bool.false_eq_true, or_false, false_or]; done) | (subst_vars; simp only [pack, checkF, nPrefix, nPhases, *, if_true, if_false, ne_eq, not_true_eq_false, not_false_eq_true, true_or, or_true, or_self, ite_self, Bool.true_eq_false, Bool.false_eq_true, or_false, false_or]; done) | (simp [pack, checkF, nPrefix, nPhases, hb0, hb1, hb3, hb5] <;> omega)
        · have hb5 := rb5
          try simp only [beq_iff_eq, bne_iff_ne, ne_eq, bne_eq_false_iff_eq, beq_eq_false_iff_ne, decide_eq_true_eq, decide_eq_false_iff_not, Bool.not_eq_true', Bool.not_eq_false', Bool.or_eq_true, Bool.and_eq_true, Bool.or_eq_false_iff, Bool.and_eq_false_iff] at hb5
          refine vwp_skip ?_
          apply_assumption
          refine vwp_seq_region rfl fun K hK => ?_
          simp (dsimp := false) only [push_cast, hP, hnt, hgw, hgb, Int.reduceLE, Int.reduceLT, sevalprocAttr, String.reduceEq]
          refine hK _ ?_; clear hK
          refine vwp_ret ?_
          refine ret_free (by simp (dsimp := false) only [push_cast, hP, hnt, hgw, hgb, Int.reduceLE, Int.reduceLT, sevalprocAttr, String.reduceEq]; rfl) (by simp (dsimp := false) only [push_cast, hP, hnt, hgw, hgb, Int.reduceLE, Int.reduceLT, sevalprocAttr, String.reduceEq]) ?_
          first | (simp only [pack, checkF, nPrefix, nPhases, rb0, rb1, rb3, rb5, if_true, if_false, Bool.false_eq_true, reduceIte]; done) | (simp only [pack, checkF, nPrefix, nPhases, hb0, hb1, hb3, hb5, if_true, if_false, ne_eq, not_true_eq_false, not_false_eq_true, true_or, or_true, or_self, ite_self, Bool.true_eq_false, Bool.false_eq_true, or_false, false_or]; done) | (subst_vars; simp only [pack, checkF, nPrefix, nPhases, *, if_true, if_false, ne_eq, not_true_eq_false, not_false_eq_true, true_or, or_true, or_self, ite_self, Bool.true_eq_false, Bool.false_eq_true, or_false, false_or]; done) | (simp [pack, checkF, nPrefix, nPhases, hb0, hb1, hb3, hb5] <;> omega)
theorem names8_size : ∀ n, Lib.containsS names8 n = true → n.size ≤ 9 := by
  intro n h
  rw [Lib.containsS_iff] at h
  simp only [names8, List.mem_cons, List.not_mem_nil, or_false] at h
  rcases h with rfl | rfl | rfl | rfl | rfl | rfl | rfl | rfl <;> decide
theorem checkF_ok {n : ByteArray} {k : Int} (h : checkF n k = 0) : 0 ≤ k ∧ k ≤ 8 ∧ n.size ≤ 9 := by
  unfold checkF at h
  split at h
  · cases h
  · rename_i hc
    have hsz := names8_size n (by simpa using hc)
    repeat' split at h
    all_goals first
      | (exfalso; revert h; decide)
      | omega
def colon : ByteArray := ⟨#[58]⟩
def digitsB (k : Int) : ByteArray := ⟨(Lib.decDigits k.toNat).toArray⟩
theorem itoaZ_call (gw : World) (gb : Nat) (k : Int) (h : 0 ≤ k ∧ k < 100) : VCall Tryz.prog gw gb 29 [.one (.c (.int .i64 k))] (.one (.c (.string (digitsB k)))) [] := by
  have := itoa_call gw gb k.toNat (by omega)
  rwa [Int.toNat_of_nonneg h.1] at this
theorem digitsB_size (k : Int) (h : 0 ≤ k ∧ k ≤ 8) : (digitsB k).size = 1 := by
  unfold digitsB
  rw [Lib.decDigits_one (by omega)]
  rfl
def textF (n : ByteArray) (k : Int) : ByteArray × Int :=
  if checkF n k ≠ 0 then (⟨#[]⟩, checkF n k) else if k = 0 then (n, 0) else (n ++ colon ++ digitsB k, 0)

theorem text_call (gw : World) (gb : Nat) (n : ByteArray) (k : Int) : VCall Tryz.prog gw (gb) 33 [.agg [.c (.string n), .c (.int .i64 k)]] (.tup [.one (.c (.string (textF n k).1)), .one (.c (.int .i64 (textF n k).2))]) [] := by
  refine vcall_of [.tmp 2, .tmp 3] Tryz.func33 rfl rfl Tryz.ntmps33 rfl (by simp) ?_
  intro C hP hnt hgw hgb hfull
  refine vwp_seq_region rfl fun K hK => ?_
  simp (dsimp := false) only [push_cast, hP, hnt, hgw, hgb, Int.reduceLE, Int.reduceLT, sevalprocAttr, String.reduceEq]
  refine hK _ ?_; clear hK
  refine vwp_seq fun K hK => ?_
  refine vwp_seq_region rfl fun K hK => ?_
  simp (dsimp := false) only [push_cast, hP, hnt, hgw, hgb, Int.reduceLE, Int.reduceLT, sevalprocAttr, String.reduceEq]
  refine .inl (callE_intro (check_call gw gb n k) (.inl ⟨rfl, rfl⟩) ?_)
  simp (dsimp := false) only [push_cast, hP, hnt, hgw, hgb, Int.reduceLE, Int.reduceLT, sevalprocAttr, String.reduceEq]
  refine hK _ ?_; clear hK
  refine vwp_seq_region rfl fun K hK => ?_
  simp (dsimp := false) only [push_cast, hP, hnt, hgw, hgb, Int.reduceLE, Int.reduceLT, sevalprocAttr, String.reduceEq]
  refine hK _ ?_; clear hK
  refine vwp_cond (b := _) (by simp (dsimp := false) only [push_cast, hP, hnt, hgw, hgb, Int.reduceLE, Int.reduceLT, sevalprocAttr, String.reduceEq]; rfl) (fun rb0 => ?_) (fun rb0 => ?_)
  · have hb0 := rb0
    try simp only [beq_iff_eq, bne_iff_ne, ne_eq, bne_eq_false_iff_eq, beq_eq_false_iff_ne, decide_eq_true_eq, decide_eq_false_iff_not, Bool.not_eq_true', Bool.not_eq_false', Bool.or_eq_true, Bool.and_eq_true, Bool.or_eq_false_iff, Bool.and_eq_false_iff] at hb0
    refine vwp_seq_region rfl fun K hK => ?_
    simp (dsimp := false) only [push_cast, hP, hnt, hgw, hgb, Int.reduceLE, Int.reduceLT, sevalprocAttr, String.reduceEq]
    refine hK _ ?_; clear hK
    refine vwp_ret ?_
    refine ret_free (by simp (dsimp := false) only [push_cast, hP, hnt, hgw, hgb, Int.reduceLE, Int.reduceLT, sevalprocAttr, String.reduceEq]; rfl) (by simp (dsimp := false) only [push_cast, hP, hnt, hgw, hgb, Int.reduceLE, Int.reduceLT, sevalprocAttr, String.reduceEq]) ?_
    first | (simp only [pack, textF, colon, rb0, if_true, if_false, Bool.false_eq_true, reduceIte]; done) | (simp only [pack, textF, colon, hb0, if_true, if_false, ne_eq, not_true_eq_false, not_false_eq_true, true_or, or_true, or_self, ite_self, Bool.true_eq_false, Bool.false_eq_true, or_false, false_or]; done) | (subst_vars; simp only [pack, textF, colon, *, if_true, if_false, ne_eq, not_true_eq_false, not_false_eq_true, true_or, or_true, or_self, ite_self, Bool.true_eq_false, Bool.false_eq_true, or_false, false_or]; done) | (simp [pack, textF, colon, hb0] <;> omega)
  · have hb0 := rb0
    try simp only [beq_iff_eq, bne_iff_ne, ne_eq, bne_eq_false_iff_eq, beq_eq_false_iff_ne, decide_eq_true_eq, decide_eq_false_iff_not, Bool.not_eq_true', Bool.not_eq_false', Bool.or_eq_true, Bool.and_eq_true, Bool.or_eq_false_iff, Bool.and_eq_false_iff] at hb0
    have hz := checkF_ok hb0
    have h1 : n.size + (⟨#[58]⟩ : ByteArray).size ≤ 9223372036854775807 := by have : (⟨#[58]⟩ : ByteArray).size = 1 := rfl; omega
    have h2 : (n ++ (⟨#[58]⟩ : ByteArray)).size + (digitsB k).size ≤ 9223372036854775807 := by rw [ByteArray.size_append, digitsB_size k (by omega)]; have : (⟨#[58]⟩ : ByteArray).size = 1 := rfl; omega
    refine vwp_skip ?_
    apply_assumption
    refine vwp_seq fun K hK => ?_
    refine vwp_seq_region rfl fun K hK => ?_
    simp (dsimp := false) only [push_cast, hP, hnt, hgw, hgb, Int.reduceLE, Int.reduceLT, sevalprocAttr, String.reduceEq, h1, h2]
    refine hK _ ?_; clear hK
    refine vwp_cond (b := _) (by simp (dsimp := false) only [push_cast, hP, hnt, hgw, hgb, Int.reduceLE, Int.reduceLT, sevalprocAttr, String.reduceEq, h1, h2]; rfl) (fun rb1 => ?_) (fun rb1 => ?_)
    · have hb1 := rb1
      try simp only [beq_iff_eq, bne_iff_ne, ne_eq, bne_eq_false_iff_eq, beq_eq_false_iff_ne, decide_eq_true_eq, decide_eq_false_iff_not, Bool.not_eq_true', Bool.not_eq_false', Bool.or_eq_true, Bool.and_eq_true, Bool.or_eq_false_iff, Bool.and_eq_false_iff] at hb1
      refine vwp_seq_region rfl fun K hK => ?_
      simp (dsimp := false) only [push_cast, hP, hnt, hgw, hgb, Int.reduceLE, Int.reduceLT, sevalprocAttr, String.reduceEq, h1, h2]
      refine hK _ ?_; clear hK
      refine vwp_ret ?_
      refine ret_free (by simp (dsimp := false) only [push_cast, hP, hnt, hgw, hgb, Int.reduceLE, Int.reduceLT, sevalprocAttr, String.reduceEq, h1, h2]; rfl) (by simp (dsimp := false) only [push_cast, hP, hnt, hgw, hgb, Int.reduceLE, Int.reduceLT, sevalprocAttr, String.reduceEq, h1, h2]) ?_
      first | (simp only [pack, textF, colon, rb0, rb1, if_true, if_false, Bool.false_eq_true, reduceIte]; done) | (simp only [pack, textF, colon, hb0, hb1, if_true, if_false, ne_eq, not_true_eq_false, not_false_eq_true, true_or, or_true, or_self, ite_self, Bool.true_eq_false, Bool.false_eq_true, or_false, false_or]; done) | (subst_vars; simp only [pack, textF, colon, *, if_true, if_false, ne_eq, not_true_eq_false, not_false_eq_true, true_or, or_true, or_self, ite_self, Bool.true_eq_false, Bool.false_eq_true, or_false, false_or]; done) | (simp [pack, textF, colon, hb0, hb1] <;> omega)
    · have hb1 := rb1
      try simp only [beq_iff_eq, bne_iff_ne, ne_eq, bne_eq_false_iff_eq, beq_eq_false_iff_ne, decide_eq_true_eq, decide_eq_false_iff_not, Bool.not_eq_true', Bool.not_eq_false', Bool.or_eq_true, Bool.and_eq_true, Bool.or_eq_false_iff, Bool.and_eq_false_iff] at hb1
      refine vwp_skip ?_
      apply_assumption
      refine vwp_seq_anyF [[], [0], [0, 1], [], [3], [3, 4], [0, 1, 2, 3, 4, 5], [0, 1, 2, 3, 4, 5, 6], [0, 1, 2, 3, 4, 5, 6, 7]] [([(15, .dead), (16, .old), (17, .old), (18, .dead), (19, .dead), (20, .dead), (21, .old), (2, .old), (3, .old)], [16, 17, 18, 19, 20, 21, 2, 3], []), ([(15, .dep 0), (16, .dead), (17, .old), (18, .dead), (19, .dead), (20, .dead), (21, .old), (2, .old), (3, .old)], [17, 18, 19, 20, 21, 2, 3], [0]), ([(15, .dep 1), (16, .dep 0), (17, .dead), (18, .dead), (19, .dead), (20, .dead), (21, .old), (2, .old), (3, .old)], [18, 19, 20, 21, 2, 3], [1, 0]), ([(15, .dead), (16, .dead), (17, .dead), (18, .dead), (19, .old), (20, .old), (21, .old), (2, .old), (3, .old)], [15, 16, 17, 19, 20, 21, 2, 3], []), ([(15, .dead), (16, .dead), (17, .dead), (18, .dep 0), (19, .dead), (20, .old), (21, .old), (2, .old), (3, .old)], [15, 16, 17, 20, 21, 2, 3], [0]), ([(15, .dead), (16, .dead), (17, .dead), (18, .dep 1), (19, .dep 0), (20, .dead), (21, .old), (2, .old), (3, .old)], [15, 16, 17, 21, 2, 3], [1, 0]), ([(15, .dep 5), (16, .dep 4), (17, .dep 3), (18, .dep 2), (19, .dep 1), (20, .dep 0), (21, .dead), (2, .old), (3, .old)], [2, 3], [5, 4, 3, 2, 1, 0]), ([(15, .dep 6), (16, .dep 5), (17, .dep 4), (18, .dep 3), (19, .dep 2), (20, .dep 1), (21, .dep 0), (2, .dead), (3, .old)], [3], [6, 5, 4, 3, 2, 1, 0]), ([(15, .dep 7), (16, .dep 6), (17, .dep 5), (18, .dep 4), (19, .dep 3), (20, .dep 2), (21, .dep 1), (2, .dep 0), (3, .dead)], [], [7, 6, 5, 4, 3, 2, 1, 0])] (by rw [hP]; exact mixed) rfl rfl rfl fun K hK => ?_
      simp (dsimp := false) only [push_cast, hP, hnt, hgw, hgb, Int.reduceLE, Int.reduceLT, sevalprocAttr, String.reduceEq, h1, h2, Nat.reduceBNe, Nat.reduceBEq]
      refine .inl (callE_intro (itoaZ_call gw gb k (by have := checkF_ok hb0; omega)) (.inl ⟨rfl, rfl⟩) ?_)
      simp (dsimp := false) only [push_cast, hP, hnt, hgw, hgb, Int.reduceLE, Int.reduceLT, sevalprocAttr, String.reduceEq, h1, h2, Nat.reduceBNe, Nat.reduceBEq]
      refine ⟨rfl, ?_⟩
      refine hK _ ?_; clear hK
      refine vwp_ret ?_
      refine ret_free (by simp (dsimp := false) only [push_cast, hP, hnt, hgw, hgb, Int.reduceLE, Int.reduceLT, sevalprocAttr, String.reduceEq, h1, h2]; rfl) (by simp (dsimp := false) only [push_cast, hP, hnt, hgw, hgb, Int.reduceLE, Int.reduceLT, sevalprocAttr, String.reduceEq, h1, h2]) ?_
      first | (simp only [pack, textF, colon, rb0, rb1, if_true, if_false, Bool.false_eq_true, reduceIte]; done) | (simp only [pack, textF, colon, hb0, hb1, if_true, if_false, ne_eq, not_true_eq_false, not_false_eq_true, true_or, or_true, or_self, ite_self, Bool.true_eq_false, Bool.false_eq_true, or_false, false_or]; done) | (subst_vars; simp only [pack, textF, colon, *, if_true, if_false, ne_eq, not_true_eq_false, not_false_eq_true, true_or, or_true, or_self, ite_self, Bool.true_eq_false, Bool.false_eq_true, or_false, false_or]; done) | (simp [pack, textF, colon, hb0, hb1] <;> omega)
end Go.Vm
end

section
namespace Go.Vm
open Go Go.RowKit Go.Proofs
set_option maxRecDepth 100000
set_option linter.unusedSimpArgs false
set_option linter.unusedVariables false
set_option maxHeartbeats 4000000
def nm0 : ByteArray := ⟨#[104, 97, 115, 104]⟩
def nm1 : ByteArray := ⟨#[99, 111, 110, 115, 116, 97, 110, 116, 115]⟩
def nm2 : ByteArray := ⟨#[99, 111, 110, 101]⟩
def nm3 : ByteArray := ⟨#[115, 119, 101, 101, 112]⟩
def nm4 : ByteArray := ⟨#[116, 101, 114, 110, 97, 114, 121]⟩
def nm5 : ByteArray := ⟨#[108, 97, 116, 99, 104, 101, 115]⟩

def refCheckF (n : ByteArray) (k : Int) : Int :=
  if n.toList = nm0.toList ∨ n.toList = nm1.toList ∨ n.toList = nm2.toList ∨ n.toList = nm3.toList ∨ n.toList = nm4.toList ∨ n.toList = nm5.toList then (if k < 0 ∨ 0 < k then 2 else 0)
  else if n.toList = nPrefix.toList then (if k < 1 ∨ 8 < k then 2 else 0)
  else if n.toList = nPhases.toList then (if k < 2 ∨ 4 < k then 2 else 0)
  else 12
def writtenF (n : ByteArray) (k : Int) : ByteArray :=
  if 0 < k then n ++ colon ++ ofBytes [IntKind.wrap .u8 (IntKind.wrap .i64 (48 + k))] else n
def refTextF (n : ByteArray) (k : Int) : ByteArray × Int :=
  if refCheckF n k ≠ 0 then (⟨#[]⟩, refCheckF n k) else (writtenF n k, 0)

end Go.Vm
end

section
namespace Go.Vm
open Go Go.RowKit Go.Proofs
set_option maxRecDepth 100000
set_option linter.unusedSimpArgs false
set_option linter.unusedVariables false
set_option maxHeartbeats 4000000

theorem bytes_ext {a b : ByteArray} (h : a.toList = b.toList) : a = b := by
  rw [ByteArray.toList_eq, ByteArray.toList_eq] at h
  obtain ⟨a⟩ := a
  obtain ⟨b⟩ := b
  congr 1
  exact Array.toList_inj.1 h
def refPairs : List (ByteArray × Int) := names8.flatMap fun n => [(n, 0), (n, 1), (n, 2), (n, 3), (n, 4), (n, 5), (n, 6), (n, 7), (n, 8), (n, 9)]
end Go.Vm
end

section
namespace Go.Vm
open Go Go.RowKit Go.Proofs
set_option maxRecDepth 100000
set_option linter.unusedSimpArgs false
set_option linter.unusedVariables false
set_option maxHeartbeats 4000000

structure Glob (gw : World) : Prop where
  pow10 : Lib.TabIs Tryz.prog gw "internal/strconv.uint64pow10" .u64 Lib.pow10Tab
  maxlen : ∃ m, gw.cell? ⟨0, 0, none⟩ = some (.int .i64 m)
  esyn : ∃ tp p, gw.var? Tryz.prog "strconv.ErrSyntax" = some #[.iface tp p]
  erange : ∃ tp p, gw.var? Tryz.prog "strconv.ErrRange" = some #[.iface tp p]

theorem var_alike {gw w : World} (ha : Alike gw gw.heap.size w) {name : String} {cs : Array Value} (h : gw.var? Tryz.prog name = some cs) : w.var? Tryz.prog name = some cs := by
  unfold World.var? at h ⊢
  obtain ⟨g, hg, hc⟩ := Option.bind_eq_some_iff.1 h
  rw [hg, Option.bind_some]
  have hlt : g < gw.heap.size := by
    apply Classical.byContradiction
    intro hge
    rw [Array.getElem?_eq_none (by omega)] at hc
    cases hc
  rw [ha.2 g hlt]
  exact hc

theorem cell_alike {gw w : World} (ha : Alike gw gw.heap.size w) {a : Addr} {v : Value} (h : gw.cell? a = some v) : w.cell? a = some v := by
  have hlt : a.block < gw.heap.size := by
    apply Classical.byContradiction
    intro hge
    unfold World.cell? at h
    rw [Array.getElem?_eq_none (by omega)] at h
    cases h
  rw [World.cell?_of_block (ha.2 a.block hlt)]
  exact h

def atoiV (t : ByteArray) : Int :=
  match Lib.atoiAll t.data.toList with
  | .ok v => v
  | .range => Lib.atoiSat t.data.toList
  | _ => 0
def atoiE (t : ByteArray) : PC :=
  match Lib.atoiAll t.data.toList with
  | .ok _ => .c .nilIface
  | _ => .ifc

theorem atoi_call (gw : World) (hg : Glob gw) (t : ByteArray) (ht : t.size ≤ 1000000) : VCall Tryz.prog gw gw.heap.size 58 [.one (.c (.string t))] (.tup [.one (.c (.int .i64 (atoiV t))), .one (atoiE t)]) [] := by
  refine vcall_plain (callable_of Tryz.func58 rfl rfl) [.string t] _ fun w hw => ?_
  unfold atoiV atoiE
  cases h : Lib.atoiAll t.data.toList with
  | ok v =>
    refine (Tryz.strconv_Atoi_ok t (by omega) v h w).mono fun e w' ⟨he, hb⟩ => ⟨_, he, ?_, fun F => ?_⟩
    · rcases hb with rfl | ⟨t', rfl⟩
      · exact Below.refl _ _
      · exact ⟨rfl, rfl, rfl, by rw [Lib.bytesWorld_size]; omega, fun k hk => Lib.bytesWorld_at_old w 5 t' k hk⟩
    · simp only [repV, repVs, rep]
      exact ⟨_, rfl, _, _, rfl, ⟨rfl, rfl⟩, _, _, rfl, ⟨rfl, rfl⟩, rfl⟩
  | range =>
    obtain ⟨tp, p, hv⟩ := hg.erange
    refine (Tryz.strconv_Atoi_range_var t (by omega) h tp p w (var_alike hw hv)).mono fun e w' ⟨N, he, _, _, hb⟩ => ⟨_, he, hb, fun F => ?_⟩
    simp only [repV, repVs, rep]
    exact ⟨_, rfl, _, _, rfl, ⟨rfl, rfl⟩, _, _, rfl, ⟨_, _, rfl⟩, rfl⟩
  | _ =>
    obtain ⟨tp, p, hv⟩ := hg.esyn
    refine (Any.strconv_Atoi_syntax_var Tryz.laysC172 t (by omega) h tp p w (var_alike hw hv)).mono fun e w' ⟨N, he, _, _, hb⟩ => ⟨_, he, hb, fun F => ?_⟩
    simp only [repV, repVs, rep]
    exact ⟨_, rfl, _, _, rfl, ⟨rfl, rfl⟩, _, _, rfl, ⟨_, _, rfl⟩, rfl⟩

theorem atoiE_strict (t : ByteArray) : (PV.tup [.one (.c (.int .i64 (atoiV t))), .one (atoiE t)]).strict = true := by
  have : (atoiE t).strict = true := by unfold atoiE; split <;> rfl
  simp only [PV.strict, PV.stricts, this]; rfl

end Go.Vm
end

section
namespace Go.Vm
open Go Go.RowKit Go.Proofs
set_option maxHeartbeats 2000000
set_option maxRecDepth 100000

theorem builder_size : (Tryz.prog.info? 66).map (·.size) = some 2 := by kernel_rfl
theorem builder_lies : liesAt Tryz.prog Tryz.prog.depth 66 (2 / Tryz.prog.cellsOf 66) 0 66 1 = true := by kernel_rfl

theorem copyCheck_used (b : Nat) (w : World) (h0 : w.cell? ⟨b, 0, none⟩ = some (.pointer (some ⟨b, 0, none⟩))) :
    Calls Tryz.prog 50 #[.pointer (some ⟨b, 0, none⟩)] w fun e w' => e = .returned (.tuple #[]) ∧ w' = w := by
  obtain ⟨j, hj, _⟩ := Option.map_eq_some_iff.1 builder_size
  have mixed : Tryz.prog.follows .mixedOrders = true := by kernel_rfl
  have t92 := Tryz.underlying66; have a92 := Tryz.isAgg66; have z92 := Tryz.sizeOf66; have v92 := Tryz.zeroValue66; have u92 := run_underlying Tryz.underlying66
  have t89 := Tryz.underlying63; have a89 := Tryz.isAgg63; have z89 := Tryz.sizeOf63; have v89 := Tryz.zeroValue63; have u89 := run_underlying Tryz.underlying63
  have t4 := Tryz.underlying4; have a4 := Tryz.isAgg4; have z4 := Tryz.sizeOf4; have v4 := Tryz.zeroValue4; have u4 := run_underlying Tryz.underlying4
  have t142 := Tryz.underlying109; have a142 := Tryz.isAgg109; have z142 := Tryz.sizeOf109; have v142 := Tryz.zeroValue109; have u142 := run_underlying Tryz.underlying109
  go_enter Tryz.func50, Tryz.ntmps50
  go_wp2
  rw [Lib.run_neq_ptr_same w _ t89 hj]
  go_wp2
  go_end0
  exact ⟨rfl, rfl⟩

theorem copyCheck_fresh (b : Nat) (w : World) (h0 : w.cell? ⟨b, 0, none⟩ = some (.pointer none)) (hsh : w.shape? b = some (66, 2)) (hfz : w.frozen? ⟨b, 0, none⟩ = false) :
    Calls Tryz.prog 50 #[.pointer (some ⟨b, 0, none⟩)] w fun e w' => e = .returned (.tuple #[]) ∧ w' = w.setCell ⟨b, 0, none⟩ (.pointer (some ⟨b, 0, none⟩)) := by
  obtain ⟨j, hj, hjs⟩ := Option.map_eq_some_iff.1 builder_size
  have mixed : Tryz.prog.follows .mixedOrders = true := by kernel_rfl
  have t92 := Tryz.underlying66; have a92 := Tryz.isAgg66; have z92 := Tryz.sizeOf66; have v92 := Tryz.zeroValue66; have u92 := run_underlying Tryz.underlying66
  have t89 := Tryz.underlying63; have a89 := Tryz.isAgg63; have z89 := Tryz.sizeOf63; have v89 := Tryz.zeroValue63; have u89 := run_underlying Tryz.underlying63
  have t4 := Tryz.underlying4; have a4 := Tryz.isAgg4; have z4 := Tryz.sizeOf4; have v4 := Tryz.zeroValue4; have u4 := run_underlying Tryz.underlying4
  have t142 := Tryz.underlying109; have a142 := Tryz.isAgg109; have z142 := Tryz.sizeOf109; have v142 := Tryz.zeroValue109; have u142 := run_underlying Tryz.underlying109
  go_enter Tryz.func50, Tryz.ntmps50
  go_wp2
  rw [Lib.run_to_unsafe w ⟨b, 0, none⟩ t89 t142 hj (by rw [hjs]; decide) hsh (Nat.zero_lt_succ 1)]
  simp only [Result.andThen]
  rw [Oper.upon_value]
  go_wp2
  rw [run_callFunc_extern Tryz.func63 (by kernel_rfl) (by kernel_rfl) (by kernel_rfl) (e := Extern.AbiNoEscape.same) (by kernel_rfl)]
  rw [Lib.run_noEscape]
  simp only [Result.andThen]
  rw [Oper.upon_value]
  go_wp2
  rw [Lib.run_from_unsafe w ⟨b, 0, none⟩ t142 t89 hj hsh builder_lies]
  simp only [Result.andThen]
  rw [Oper.upon_value]
  go_wp2
  go_end0
  exact ⟨rfl, rfl⟩
end Go.Vm
end

section
namespace Go.Vm
open Go Go.RowKit Go.Proofs
set_option maxRecDepth 100000
set_option linter.unusedSimpArgs false
set_option linter.unusedVariables false
set_option maxHeartbeats 4000000

def inTo (top n : Int) : Bool := decide (0 ≤ n ∧ n ≤ top)
theorem inTo_true {top n : Int} (h : ¬ (n < 0 ∨ top < n)) : inTo top n = true := by unfold inTo; simp; omega
theorem inTo_false {top n : Int} (h : n < 0 ∨ top < n) : inTo top n = false := by unfold inTo; simp; omega
theorem within_call (gw : World) (gb : Nat) (top : Int) (l : List Int) (hl : l.length ≤ 100000) : VCall Tryz.prog gw (gb) 49 [.one (.c (.int .i64 top)), .one (.sl false l.length (l.map fun n => .c (.int .i64 n)))] (.one (.c (.bool (l.all (inTo top))))) [] := by
  refine vcall_of [.tmp 4] Tryz.func49 rfl rfl Tryz.ntmps49 rfl (by simp) ?_
  intro C hP hnt hgw hgb hfull
  refine vwp_seq_region rfl fun K hK => ?_
  simp (dsimp := false) only [push_cast, hP, hnt, hgw, hgb, sevalprocAttr]
  refine hK _ ?_; clear hK
  refine vwp_seq fun K hK => ?_
  refine vwp_seq_region rfl fun K hK => ?_
  simp (dsimp := false) only [push_cast, hP, hnt, hgw, hgb, sevalprocAttr]
  refine hK _ ?_; clear hK
  refine vwp_block ?_
  refine vwp_loop (fun m σ => ∃ (i : Int), m = (l.length - i).toNat ∧ ((0 ≤ i) ∧ (i ≤ l.length) ∧ ((l.drop i.toNat).all (inTo top) = l.all (inTo top))) ∧ σ = St.of [(0, .one (.c (.int .i64 top))), (7, .one (.sl false l.length (l.map fun n => .c (.int .i64 n)))), (8, .one (.c (.int .i64 l.length))), (9, .one (.c (.int .i64 i)))] [] []) _ ⟨_, ?_, 0, rfl, ?_, rfl⟩ ?_
  · refine wk_conv [] [] (by simp) (by simp) (by decide) ?_ ?_
    · refine hf_cons (by simp (dsimp := false) only [push_cast, ↓reduceIte, Nat.reduceEqDiff, Nat.reduceAdd, reduceCtorEq] <;> rfl) (by exact ConvV.self rfl) ?_
      refine hf_cons (by simp (dsimp := false) only [push_cast, ↓reduceIte, Nat.reduceEqDiff, Nat.reduceAdd, reduceCtorEq] <;> rfl) (by repeat' (first | exact ConvVs.nil | exact ConvL.nil | refine ConvV.tup ?_ | refine ConvVs.cons ?_ ?_ | (refine ConvV.self ?_; simp only [push_cast]; done) | refine ConvV.one ?_ | refine ConvV.agg ?_ | (refine ConvL.free ?_; simp only [push_cast]; done) | refine ConvL.append ?_ ?_ | refine ConvL.cons ?_ ?_ | exact Conv.free rfl | exact Conv.nil | (refine Conv.own ?_; simp; done) | (refine Conv.loc ?_; simp; done) | refine Conv.frz (by simp) (by simp (dsimp := false) only [push_cast, ↓reduceIte, Nat.reduceEqDiff, Nat.reduceAdd, reduceCtorEq] <;> rfl) ?_ | refine Conv.sl (by simp) ?_ | refine Conv.fn ?_)) ?_
      refine hf_cons (by simp (dsimp := false) only [push_cast, ↓reduceIte, Nat.reduceEqDiff, Nat.reduceAdd, reduceCtorEq] <;> rfl) (by exact ConvV.self rfl) ?_
      refine hf_cons (by simp (dsimp := false) only [push_cast, ↓reduceIte, Nat.reduceEqDiff, Nat.reduceAdd, reduceCtorEq] <;> rfl) (by exact ConvV.self rfl) ?_
      exact hf_nil
    · exact hh_nil
  · exact ⟨by omega, by omega, rfl⟩
  · rintro m τ ⟨i, hm, ⟨hi0, hi1, hi2⟩, rfl⟩ K hL0
    have hw := fun h : i < (l.length : Int) => wrap_next hi0 h (by omega)
    have hd := fun h : i < (l.length : Int) => dropI_map (fun n => PC.c (Value.int .i64 n)) hi0 h
    refine vwp_seq_region rfl fun K hK => ?_
    simp (dsimp := false) only [push_cast, hP, hnt, hgw, hgb, sevalprocAttr, hi0]
    refine hK _ ?_; clear hK
    refine vwp_seq fun K hK => ?_
    refine vwp_cond (b := _) (by simp (dsimp := false) only [push_cast, hP, hnt, hgw, hgb, sevalprocAttr, hi0]; rfl) (fun rb0 => ?_) (fun rb0 => ?_)
    · have hb0 := rb0
      try simp only [beq_iff_eq, bne_iff_ne, ne_eq, bne_eq_false_iff_eq, beq_eq_false_iff_ne, decide_eq_true_eq, decide_eq_false_iff_not, Bool.not_eq_true', Bool.not_eq_false', Bool.or_eq_true, Bool.and_eq_true, Bool.or_eq_false_iff, Bool.and_eq_false_iff] at hb0
      have hw := hw hb0
      have hd := hd hb0
      refine vwp_skip ?_
      apply_assumption
      refine vwp_seq fun K hK => ?_
      refine vwp_block ?_
      refine vwp_seq_region rfl fun K hK => ?_
      simp (dsimp := false) only [push_cast, hP, hnt, hgw, hgb, sevalprocAttr, hi0, hw, hd, hb0]
      refine hK _ ?_; clear hK
      refine vwp_seq_regionG fun K hK => ?_
      simp (dsimp := false) only [push_cast, hP, hnt, hgw, hgb, sevalprocAttr, hi0, hw, hd, hb0]
      refine guardR_may (by simp (dsimp := false) only [push_cast, hP, hnt, hgw, hgb, sevalprocAttr, hi0, hw, hd, hb0, List.getElem?_cons_zero, List.getElem?_cons_succ]; rfl) ?_
      simp (dsimp := false) only [push_cast, hP, hnt, hgw, hgb, sevalprocAttr, hi0, hw, hd, hb0]
      refine guardR_may (by simp (dsimp := false) only [push_cast, hP, hnt, hgw, hgb, sevalprocAttr, hi0, hw, hd, hb0, List.getElem?_cons_zero, List.getElem?_cons_succ]; rfl) ?_
      simp (dsimp := false) only [push_cast, hP, hnt, hgw, hgb, sevalprocAttr, hi0, hw, hd, hb0]
      refine guardR_may (by simp (dsimp := false) only [push_cast, hP, hnt, hgw, hgb, sevalprocAttr, hi0, hw, hd, hb0, List.getElem?_cons_zero, List.getElem?_cons_succ]; rfl) ?_
      simp (dsimp := false) only [push_cast, hP, hnt, hgw, hgb, sevalprocAttr, hi0, hw, hd, hb0]
      refine hK _ ?_; clear hK
      refine vwp_cond (b := _) (by simp (dsimp := false) only [push_cast, hP, hnt, hgw, hgb, sevalprocAttr, hi0, hw, hd, hb0]; rfl) (fun rb1 => ?_) (fun rb1 => ?_)
      · have hb1 := rb1
        try simp only [beq_iff_eq, bne_iff_ne, ne_eq, bne_eq_false_iff_eq, beq_eq_false_iff_ne, decide_eq_true_eq, decide_eq_false_iff_not, Bool.not_eq_true', Bool.not_eq_false', Bool.or_eq_true, Bool.and_eq_true, Bool.or_eq_false_iff, Bool.and_eq_false_iff] at hb1
        refine vwp_seq_region rfl fun K hK => ?_
        simp (dsimp := false) only [push_cast, hP, hnt, hgw, hgb, sevalprocAttr, hi0, hw, hd, hb0]
        refine hK _ ?_; clear hK
        refine vwp_ret ?_
        refine ret_free (by simp (dsimp := false) only [push_cast, hP, hnt, hgw, hgb, sevalprocAttr, hi0, hw, hd, hb0]; rfl) (by simp (dsimp := false) only [push_cast, hP, hnt, hgw, hgb, sevalprocAttr, hi0, hw, hd, hb0]) ?_
        simp only [pack, all_stop hi0 hb0 hi2 (inTo_false (by omega))]
      · have hb1 := rb1
        try simp only [beq_iff_eq, bne_iff_ne, ne_eq, bne_eq_false_iff_eq, beq_eq_false_iff_ne, decide_eq_true_eq, decide_eq_false_iff_not, Bool.not_eq_true', Bool.not_eq_false', Bool.or_eq_true, Bool.and_eq_true, Bool.or_eq_false_iff, Bool.and_eq_false_iff] at hb1
        refine vwp_skip ?_
        apply_assumption
        refine vwp_region rfl ?_
        simp (dsimp := false) only [push_cast, hP, hnt, hgw, hgb, sevalprocAttr, hi0, hw, hd, hb0]
        refine hL0 _ _ _ ?_ ?_ ⟨i + 1, rfl, ?_, rfl⟩
        · omega
        · refine wk_conv [] [] (by simp) (by simp) (by decide) ?_ ?_
          · refine hf_cons (by simp (dsimp := false) only [push_cast, ↓reduceIte, Nat.reduceEqDiff, Nat.reduceAdd, reduceCtorEq, hi0, hw, hd, hb0] <;> rfl) (by exact ConvV.self rfl) ?_
            refine hf_cons (by simp (dsimp := false) only [push_cast, ↓reduceIte, Nat.reduceEqDiff, Nat.reduceAdd, reduceCtorEq, hi0, hw, hd, hb0] <;> rfl) (by repeat' (first | exact ConvVs.nil | exact ConvL.nil | refine ConvV.tup ?_ | refine ConvVs.cons ?_ ?_ | (refine ConvV.self ?_; simp only [push_cast]; done) | refine ConvV.one ?_ | refine ConvV.agg ?_ | (refine ConvL.free ?_; simp only [push_cast]; done) | refine ConvL.append ?_ ?_ | refine ConvL.cons ?_ ?_ | exact Conv.free rfl | exact Conv.nil | (refine Conv.own ?_; simp; done) | (refine Conv.loc ?_; simp; done) | refine Conv.frz (by simp) (by simp (dsimp := false) only [push_cast, ↓reduceIte, Nat.reduceEqDiff, Nat.reduceAdd, reduceCtorEq, hi0, hw, hd, hb0] <;> rfl) ?_ | refine Conv.sl (by simp) ?_ | refine Conv.fn ?_)) ?_
            refine hf_cons (by simp (dsimp := false) only [push_cast, ↓reduceIte, Nat.reduceEqDiff, Nat.reduceAdd, reduceCtorEq, hi0, hw, hd, hb0] <;> rfl) (by exact ConvV.self rfl) ?_
            refine hf_cons (by simp (dsimp := false) only [push_cast, ↓reduceIte, Nat.reduceEqDiff, Nat.reduceAdd, reduceCtorEq, hi0, hw, hd, hb0] <;> rfl) (by exact ConvV.self rfl) ?_
            exact hf_nil
          · exact hh_nil
        · exact ⟨by omega, by omega, all_next hi0 hb0 hi2 (inTo_true (by omega))⟩
    · have hb0 := rb0
      try simp only [beq_iff_eq, bne_iff_ne, ne_eq, bne_eq_false_iff_eq, beq_eq_false_iff_ne, decide_eq_true_eq, decide_eq_false_iff_not, Bool.not_eq_true', Bool.not_eq_false', Bool.or_eq_true, Bool.and_eq_true, Bool.or_eq_false_iff, Bool.and_eq_false_iff] at hb0
      refine vwp_exit ?_
      simp only [thenQ, blockQ, Nat.reduceEqDiff, reduceIte]
      apply_assumption
      refine vwp_seq_region rfl fun K hK => ?_
      simp (dsimp := false) only [push_cast, hP, hnt, hgw, hgb, sevalprocAttr, hi0]
      refine hK _ ?_; clear hK
      refine vwp_ret ?_
      refine ret_free (by simp (dsimp := false) only [push_cast, hP, hnt, hgw, hgb, sevalprocAttr, hi0]; rfl) (by simp (dsimp := false) only [push_cast, hP, hnt, hgw, hgb, sevalprocAttr, hi0]) ?_
      simp only [pack, all_end hb0 hi2]
end Go.Vm
end

section
namespace Go.Vm
open Go Go.RowKit Go.Proofs
set_option maxRecDepth 100000
set_option linter.unusedSimpArgs false
set_option linter.unusedVariables false
set_option maxHeartbeats 4000000

def bitc (b : Bool) : UInt8 := if b then 49 else 48
def bitsB (l : List Bool) : ByteArray := bOf (l.map bitc)
def bitsS (l : List Bool) : ByteArray := if l = [] then bOf [45] else bitsB l
def bitP (b : Bool) : PC := .c (.int .u8 (bitc b).toNat)
theorem bytesOf_map {α : Type} (f : α → UInt8) (l : List α) : bytesOf (l.map fun a => .c (.int .u8 (f a).toNat)) = some (l.map fun a => ((f a).toNat : Int)) := by
  induction l with
  | nil => rfl
  | cons a l ih => simp only [List.map_cons, bytesOf, ih]
theorem ofBytes_acc : ∀ (l : List UInt8) (b : ByteArray), (l.map fun a => (a.toNat : Int)).foldl (fun r n => r.push (UInt8.ofNat n.toNat)) b = b ++ bOf l
  | [], b => by apply ByteArray.ext; simp [bOf]
  | x :: l, b => by
    simp only [List.map_cons, List.foldl_cons, ofBytes_acc l]
    apply ByteArray.ext
    simp [bOf, ByteArray.data_append]
theorem ofBytes_eq (l : List UInt8) : ofBytes (l.map fun a => (a.toNat : Int)) = bOf l := by
  unfold ofBytes
  rw [ofBytes_acc]
  apply ByteArray.ext
  simp
theorem ofBytes_bits (l : List Bool) : ofBytes (l.map fun a => ((bitc a).toNat : Int)) = bitsB l := by
  have := ofBytes_eq (l.map bitc)
  rwa [List.map_map] at this
theorem bits_call (gw : World) (gb : Nat) (l : List Bool) (hl : l.length ≤ 100000) : VCall Tryz.prog gw (gb) 28 [.one (.sl false l.length (l.map fun b => .c (.bool b)))] (.one (.c (.string (bitsS l)))) [] := by
  have hz : rowZ [PC.c (Value.int .u8 0)] l.length = rowAt bitP (.c (.int .u8 0)) l (Int.toNat 0) := rowAt_zero
  have hm1 : (0 + 1) * (l.length : Int) ≤ 140737488355328 := by omega
  have hm2 : (l.length : Int) ≤ 140737488355328 := by omega
  have hm3 : (0 : Int) ≤ (l.length : Int) := by omega
  have hrf : ∀ k, PC.frees (rowAt bitP (.c (.int .u8 0)) l k) = true := fun k => rowAt_frees rfl fun _ => rfl
  refine vcall_of [.tmp 2] Tryz.func28 rfl rfl Tryz.ntmps28 rfl (by simp) ?_
  intro C hP hnt hgw hgb hfull
  refine vwp_seq_region rfl fun K hK => ?_
  simp (dsimp := false) only [push_cast, hP, hnt, hgw, hgb, Nat.reduceLT, Nat.reduceEqDiff, Nat.reduceAdd, Nat.reduceSub, Nat.reduceMul, Nat.reduceLeDiff, ↓reduceIte, reduceCtorEq, Int.toNat_natCast, hm1, hm2, hm3]
  refine hK _ ?_; clear hK
  refine vwp_seq fun K hK => ?_
  refine vwp_seq_region rfl fun K hK => ?_
  simp (dsimp := false) only [push_cast, hP, hnt, hgw, hgb, Nat.reduceLT, Nat.reduceEqDiff, Nat.reduceAdd, Nat.reduceSub, Nat.reduceMul, Nat.reduceLeDiff, ↓reduceIte, reduceCtorEq, Int.toNat_natCast, hm1, hm2, hm3]
  refine hK _ ?_; clear hK
  refine vwp_cond (b := _) (by simp (dsimp := false) only [push_cast, hP, hnt, hgw, hgb, Nat.reduceLT, Nat.reduceEqDiff, Nat.reduceAdd, Nat.reduceSub, Nat.reduceMul, Nat.reduceLeDiff, ↓reduceIte, reduceCtorEq, Int.toNat_natCast, hm1, hm2, hm3]; rfl) (fun rb0 => ?_) (fun rb0 => ?_)
  · have hb0 := rb0
    try simp only [beq_iff_eq, bne_iff_ne, ne_eq, bne_eq_false_iff_eq, beq_eq_false_iff_ne, decide_eq_true_eq, decide_eq_false_iff_not, Bool.not_eq_true', Bool.not_eq_false', Bool.or_eq_true, Bool.and_eq_true, Bool.or_eq_false_iff, Bool.and_eq_false_iff] at hb0
    refine vwp_seq_region rfl fun K hK => ?_
    simp (dsimp := false) only [push_cast, hP, hnt, hgw, hgb, Nat.reduceLT, Nat.reduceEqDiff, Nat.reduceAdd, Nat.reduceSub, Nat.reduceMul, Nat.reduceLeDiff, ↓reduceIte, reduceCtorEq, Int.toNat_natCast, hm1, hm2, hm3]
    refine hK _ ?_; clear hK
    refine vwp_ret ?_
    refine ret_free (by simp (dsimp := false) only [push_cast, hP, hnt, hgw, hgb, Nat.reduceLT, Nat.reduceEqDiff, Nat.reduceAdd, Nat.reduceSub, Nat.reduceMul, Nat.reduceLeDiff, ↓reduceIte, reduceCtorEq, Int.toNat_natCast, hm1, hm2, hm3]; rfl) (by simp (dsimp := false) only [push_cast, hP, hnt, hgw, hgb, Nat.reduceLT, Nat.reduceEqDiff, Nat.reduceAdd, Nat.reduceSub, Nat.reduceMul, Nat.reduceLeDiff, ↓reduceIte, reduceCtorEq, Int.toNat_natCast, hm1, hm2, hm3]) ?_
    rw [show bitsS l = bOf [45] from if_pos (List.length_eq_zero_iff.1 (by omega))]; rfl
  · have hb0 := rb0
    try simp only [beq_iff_eq, bne_iff_ne, ne_eq, bne_eq_false_iff_eq, beq_eq_false_iff_ne, decide_eq_true_eq, decide_eq_false_iff_not, Bool.not_eq_true', Bool.not_eq_false', Bool.or_eq_true, Bool.and_eq_true, Bool.or_eq_false_iff, Bool.and_eq_false_iff] at hb0
    refine vwp_skip ?_
    apply_assumption
    refine vwp_seq_region rfl fun K hK => ?_
    simp (dsimp := false) only [push_cast, hP, hnt, hgw, hgb, Nat.reduceLT, Nat.reduceEqDiff, Nat.reduceAdd, Nat.reduceSub, Nat.reduceMul, Nat.reduceLeDiff, ↓reduceIte, reduceCtorEq, Int.toNat_natCast, hm1, hm2, hm3]
    refine hK _ ?_; clear hK
    refine vwp_seq fun K hK => ?_
    refine vwp_seq_region rfl fun K hK => ?_
    simp (dsimp := false) only [push_cast, hP, hnt, hgw, hgb, Nat.reduceLT, Nat.reduceEqDiff, Nat.reduceAdd, Nat.reduceSub, Nat.reduceMul, Nat.reduceLeDiff, ↓reduceIte, reduceCtorEq, Int.toNat_natCast, hm1, hm2, hm3]
    refine hK _ ?_; clear hK
    refine vwp_block ?_
    refine vwp_loop (fun m σ => ∃ (i : Int), m = (l.length - i).toNat ∧ ((0 ≤ i) ∧ (i ≤ l.length)) ∧ σ = St.of [(3, .one (.own (12, 0))), (12, .one (.sl false l.length (l.map fun b => .c (.bool b)))), (13, .one (.c (.int .i64 l.length))), (14, .one (.c (.int .i64 i)))] [((12, 0), .arr 5 1 l.length (rowAt bitP (.c (.int .u8 0)) l i.toNat))] [11]) _ ⟨_, ?_, 0, rfl, ?_, rfl⟩ ?_
    · refine wk_conv [] [((12, 0), (12, 0))] (by simp) (by simp) (by decide) ?_ ?_
      · refine hf_cons (by simp (dsimp := false) only [push_cast, ↓reduceIte, Nat.reduceEqDiff, Nat.reduceAdd, reduceCtorEq, Int.toNat_natCast, hm1, hm2, hm3, hz] <;> rfl) (by exact .one (.own (by simp))) ?_
        refine hf_cons (by simp (dsimp := false) only [push_cast, ↓reduceIte, Nat.reduceEqDiff, Nat.reduceAdd, reduceCtorEq, Int.toNat_natCast, hm1, hm2, hm3, hz] <;> rfl) (by repeat' (first | exact ConvVs.nil | exact ConvL.nil | refine ConvV.tup ?_ | refine ConvVs.cons ?_ ?_ | (refine ConvV.self ?_; simp only [push_cast, hrf]; done) | refine ConvV.one ?_ | refine ConvV.agg ?_ | (refine ConvL.free ?_; simp only [push_cast, hrf]; done) | refine ConvL.append ?_ ?_ | refine ConvL.cons ?_ ?_ | exact Conv.free rfl | exact Conv.nil | (refine Conv.own ?_; simp; done) | (refine Conv.loc ?_; simp; done) | refine Conv.frz (by simp) (by simp (dsimp := false) only [push_cast, ↓reduceIte, Nat.reduceEqDiff, Nat.reduceAdd, reduceCtorEq, Int.toNat_natCast, hm1, hm2, hm3, hz] <;> rfl) ?_ | refine Conv.sl (by simp) ?_ | refine Conv.fn ?_)) ?_
        refine hf_cons (by simp (dsimp := false) only [push_cast, ↓reduceIte, Nat.reduceEqDiff, Nat.reduceAdd, reduceCtorEq, Int.toNat_natCast, hm1, hm2, hm3, hz] <;> rfl) (by exact ConvV.self rfl) ?_
        refine hf_cons (by simp (dsimp := false) only [push_cast, ↓reduceIte, Nat.reduceEqDiff, Nat.reduceAdd, reduceCtorEq, Int.toNat_natCast, hm1, hm2, hm3, hz] <;> rfl) (by exact ConvV.self rfl) ?_
        exact hf_nil
      · refine hh_cons (i := (12, 0)) (by simp) (by simp) (by simp (dsimp := false) only [push_cast, ↓reduceIte, Nat.reduceEqDiff, Nat.reduceAdd, reduceCtorEq, Int.toNat_natCast, hm1, hm2, hm3, hz] <;> rfl) (by first | (refine ConvB.free ?_; simp only [push_cast, hrf]; done) | (refine ConvB.arr ?_; repeat' (first | exact ConvVs.nil | exact ConvL.nil | refine ConvV.tup ?_ | refine ConvVs.cons ?_ ?_ | (refine ConvV.self ?_; simp only [push_cast, hrf]; done) | refine ConvV.one ?_ | refine ConvV.agg ?_ | (refine ConvL.free ?_; simp only [push_cast, hrf]; done) | refine ConvL.append ?_ ?_ | refine ConvL.cons ?_ ?_ | exact Conv.free rfl | exact Conv.nil | (refine Conv.own ?_; simp; done) | (refine Conv.loc ?_; simp; done) | refine Conv.frz (by simp) (by simp (dsimp := false) only [push_cast, ↓reduceIte, Nat.reduceEqDiff, Nat.reduceAdd, reduceCtorEq, Int.toNat_natCast, hm1, hm2, hm3, hz] <;> rfl) ?_ | refine Conv.sl (by simp) ?_ | refine Conv.fn ?_))) ?_
        exact hh_nil
    · exact ⟨by omega, by omega⟩
    · rintro m τ ⟨i, hm, ⟨hi0, hi1⟩, rfl⟩ K hL0
      have hw := fun h : i < (l.length : Int) => wrap_next hi0 h (by omega)
      have hd := fun h : i < (l.length : Int) => dropI_map (fun b => PC.c (Value.bool b)) hi0 h
      refine vwp_seq_region rfl fun K hK => ?_
      simp (dsimp := false) only [push_cast, hP, hnt, hgw, hgb, Nat.reduceLT, Nat.reduceEqDiff, Nat.reduceAdd, Nat.reduceSub, Nat.reduceMul, Nat.reduceLeDiff, ↓reduceIte, reduceCtorEq, Int.toNat_natCast, hm1, hm2, hm3, hi0]
      refine hK _ ?_; clear hK
      refine vwp_seq fun K hK => ?_
      refine vwp_cond (b := _) (by simp (dsimp := false) only [push_cast, hP, hnt, hgw, hgb, Nat.reduceLT, Nat.reduceEqDiff, Nat.reduceAdd, Nat.reduceSub, Nat.reduceMul, Nat.reduceLeDiff, ↓reduceIte, reduceCtorEq, Int.toNat_natCast, hm1, hm2, hm3, hi0]; rfl) (fun rb1 => ?_) (fun rb1 => ?_)
      · have hb1 := rb1
        try simp only [beq_iff_eq, bne_iff_ne, ne_eq, bne_eq_false_iff_eq, beq_eq_false_iff_ne, decide_eq_true_eq, decide_eq_false_iff_not, Bool.not_eq_true', Bool.not_eq_false', Bool.or_eq_true, Bool.and_eq_true, Bool.or_eq_false_iff, Bool.and_eq_false_iff] at hb1
        have hw := hw hb1
        have hd := hd hb1
        have hk : i.toNat < l.length := by omega
        have hf1 : i.toNat * 1 + 1 ≤ (rowAt bitP (PC.c (Value.int .u8 0)) l i.toNat).length := by rw [rowAt_len (by omega)]; omega
        have hs1 : splice (rowAt bitP (PC.c (Value.int .u8 0)) l i.toNat) (i.toNat * 1) [PC.c (Value.int .u8 48)] = rowPut bitP (PC.c (Value.int .u8 0)) l i.toNat (bitP false) := by rw [Nat.mul_one]; exact rowAt_put hk
        have hf2 : i.toNat * 1 + 1 ≤ (rowPut bitP (PC.c (Value.int .u8 0)) l i.toNat (bitP false)).length := by rw [rowPut_len hk]; omega
        have hs2 : splice (rowPut bitP (PC.c (Value.int .u8 0)) l i.toNat (bitP false)) (i.toNat * 1) [PC.c (Value.int .u8 49)] = rowPut bitP (PC.c (Value.int .u8 0)) l i.toNat (bitP true) := by rw [Nat.mul_one]; exact rowPut_put hk
        refine vwp_skip ?_
        apply_assumption
        refine vwp_seq fun K hK => ?_
        refine vwp_block ?_
        refine vwp_seq_region rfl fun K hK => ?_
        simp (dsimp := false) only [push_cast, hP, hnt, hgw, hgb, Nat.reduceLT, Nat.reduceEqDiff, Nat.reduceAdd, Nat.reduceSub, Nat.reduceMul, Nat.reduceLeDiff, ↓reduceIte, reduceCtorEq, Int.toNat_natCast, hm1, hm2, hm3, hi0, hw, hd, hb1, hf1, hs1, hf2, hs2]
        refine hK _ ?_; clear hK
        refine vwp_seq_region rfl fun K hK => ?_
        simp (dsimp := false) only [push_cast, hP, hnt, hgw, hgb, Nat.reduceLT, Nat.reduceEqDiff, Nat.reduceAdd, Nat.reduceSub, Nat.reduceMul, Nat.reduceLeDiff, ↓reduceIte, reduceCtorEq, Int.toNat_natCast, hm1, hm2, hm3, hi0, hw, hd, hb1, hf1, hs1, hf2, hs2]
        refine hK _ ?_; clear hK
        refine vwp_seq_region rfl fun K hK => ?_
        simp (dsimp := false) only [push_cast, hP, hnt, hgw, hgb, Nat.reduceLT, Nat.reduceEqDiff, Nat.reduceAdd, Nat.reduceSub, Nat.reduceMul, Nat.reduceLeDiff, ↓reduceIte, reduceCtorEq, Int.toNat_natCast, hm1, hm2, hm3, hi0, hw, hd, hb1, hf1, hs1, hf2, hs2]
        refine hK _ ?_; clear hK
        refine vwp_cond (b := _) (by simp (dsimp := false) only [push_cast, hP, hnt, hgw, hgb, Nat.reduceLT, Nat.reduceEqDiff, Nat.reduceAdd, Nat.reduceSub, Nat.reduceMul, Nat.reduceLeDiff, ↓reduceIte, reduceCtorEq, Int.toNat_natCast, hm1, hm2, hm3, hi0, hw, hd, hb1, hf1, hs1, hf2, hs2]; rfl) (fun rb2 => ?_) (fun rb2 => ?_)
        · have hb2 := rb2
          try simp only [beq_iff_eq, bne_iff_ne, ne_eq, bne_eq_false_iff_eq, beq_eq_false_iff_ne, decide_eq_true_eq, decide_eq_false_iff_not, Bool.not_eq_true', Bool.not_eq_false', Bool.or_eq_true, Bool.and_eq_true, Bool.or_eq_false_iff, Bool.and_eq_false_iff] at hb2
          refine vwp_region rfl ?_
          simp (dsimp := false) only [push_cast, hP, hnt, hgw, hgb, Nat.reduceLT, Nat.reduceEqDiff, Nat.reduceAdd, Nat.reduceSub, Nat.reduceMul, Nat.reduceLeDiff, ↓reduceIte, reduceCtorEq, Int.toNat_natCast, hm1, hm2, hm3, hi0, hw, hd, hb1, hf1, hs1, hf2, hs2]
          apply_assumption
          refine vwp_region rfl ?_
          simp (dsimp := false) only [push_cast, hP, hnt, hgw, hgb, Nat.reduceLT, Nat.reduceEqDiff, Nat.reduceAdd, Nat.reduceSub, Nat.reduceMul, Nat.reduceLeDiff, ↓reduceIte, reduceCtorEq, Int.toNat_natCast, hm1, hm2, hm3, hi0, hw, hd, hb1, hf1, hs1, hf2, hs2]
          have hn : rowPut bitP (PC.c (Value.int .u8 0)) l i.toNat (bitP true) = rowAt bitP (PC.c (Value.int .u8 0)) l (i + 1).toNat := by rw [← rowAt_next hi0 hb1, hb2]
          refine hL0 _ _ _ ?_ ?_ ⟨i + 1, rfl, ?_, rfl⟩
          · omega
          · refine wk_conv [] [((12, 0), (12, 0))] (by simp) (by simp) (by decide) ?_ ?_
            · refine hf_cons (by simp (dsimp := false) only [push_cast, ↓reduceIte, Nat.reduceEqDiff, Nat.reduceAdd, reduceCtorEq, Int.toNat_natCast, hm1, hm2, hm3, hi0, hw, hd, hb1, hf1, hs1, hf2, hs2, hn] <;> rfl) (by exact .one (.own (by simp))) ?_
              refine hf_cons (by simp (dsimp := false) only [push_cast, ↓reduceIte, Nat.reduceEqDiff, Nat.reduceAdd, reduceCtorEq, Int.toNat_natCast, hm1, hm2, hm3, hi0, hw, hd, hb1, hf1, hs1, hf2, hs2, hn] <;> rfl) (by repeat' (first | exact ConvVs.nil | exact ConvL.nil | refine ConvV.tup ?_ | refine ConvVs.cons ?_ ?_ | (refine ConvV.self ?_; simp only [push_cast, hrf]; done) | refine ConvV.one ?_ | refine ConvV.agg ?_ | (refine ConvL.free ?_; simp only [push_cast, hrf]; done) | refine ConvL.append ?_ ?_ | refine ConvL.cons ?_ ?_ | exact Conv.free rfl | exact Conv.nil | (refine Conv.own ?_; simp; done) | (refine Conv.loc ?_; simp; done) | refine Conv.frz (by simp) (by simp (dsimp := false) only [push_cast, ↓reduceIte, Nat.reduceEqDiff, Nat.reduceAdd, reduceCtorEq, Int.toNat_natCast, hm1, hm2, hm3, hi0, hw, hd, hb1, hf1, hs1, hf2, hs2, hn] <;> rfl) ?_ | refine Conv.sl (by simp) ?_ | refine Conv.fn ?_)) ?_
              refine hf_cons (by simp (dsimp := false) only [push_cast, ↓reduceIte, Nat.reduceEqDiff, Nat.reduceAdd, reduceCtorEq, Int.toNat_natCast, hm1, hm2, hm3, hi0, hw, hd, hb1, hf1, hs1, hf2, hs2, hn] <;> rfl) (by exact ConvV.self rfl) ?_
              refine hf_cons (by simp (dsimp := false) only [push_cast, ↓reduceIte, Nat.reduceEqDiff, Nat.reduceAdd, reduceCtorEq, Int.toNat_natCast, hm1, hm2, hm3, hi0, hw, hd, hb1, hf1, hs1, hf2, hs2, hn] <;> rfl) (by exact ConvV.self rfl) ?_
              exact hf_nil
            · refine hh_cons (i := (12, 0)) (by simp) (by simp) (by simp (dsimp := false) only [push_cast, ↓reduceIte, Nat.reduceEqDiff, Nat.reduceAdd, reduceCtorEq, Int.toNat_natCast, hm1, hm2, hm3, hi0, hw, hd, hb1, hf1, hs1, hf2, hs2, hn] <;> rfl) (by first | (refine ConvB.free ?_; simp only [push_cast, hrf]; done) | (refine ConvB.arr ?_; repeat' (first | exact ConvVs.nil | exact ConvL.nil | refine ConvV.tup ?_ | refine ConvVs.cons ?_ ?_ | (refine ConvV.self ?_; simp only [push_cast, hrf]; done) | refine ConvV.one ?_ | refine ConvV.agg ?_ | (refine ConvL.free ?_; simp only [push_cast, hrf]; done) | refine ConvL.append ?_ ?_ | refine ConvL.cons ?_ ?_ | exact Conv.free rfl | exact Conv.nil | (refine Conv.own ?_; simp; done) | (refine Conv.loc ?_; simp; done) | refine Conv.frz (by simp) (by simp (dsimp := false) only [push_cast, ↓reduceIte, Nat.reduceEqDiff, Nat.reduceAdd, reduceCtorEq, Int.toNat_natCast, hm1, hm2, hm3, hi0, hw, hd, hb1, hf1, hs1, hf2, hs2, hn] <;> rfl) ?_ | refine Conv.sl (by simp) ?_ | refine Conv.fn ?_))) ?_
              exact hh_nil
          · exact ⟨by omega, by omega⟩
        · have hb2 := rb2
          try simp only [beq_iff_eq, bne_iff_ne, ne_eq, bne_eq_false_iff_eq, beq_eq_false_iff_ne, decide_eq_true_eq, decide_eq_false_iff_not, Bool.not_eq_true', Bool.not_eq_false', Bool.or_eq_true, Bool.and_eq_true, Bool.or_eq_false_iff, Bool.and_eq_false_iff] at hb2
          refine vwp_skip ?_
          apply_assumption
          refine vwp_region rfl ?_
          simp (dsimp := false) only [push_cast, hP, hnt, hgw, hgb, Nat.reduceLT, Nat.reduceEqDiff, Nat.reduceAdd, Nat.reduceSub, Nat.reduceMul, Nat.reduceLeDiff, ↓reduceIte, reduceCtorEq, Int.toNat_natCast, hm1, hm2, hm3, hi0, hw, hd, hb1, hf1, hs1, hf2, hs2]
          have hn : rowPut bitP (PC.c (Value.int .u8 0)) l i.toNat (bitP false) = rowAt bitP (PC.c (Value.int .u8 0)) l (i + 1).toNat := by rw [← rowAt_next hi0 hb1, hb2]
          refine hL0 _ _ _ ?_ ?_ ⟨i + 1, rfl, ?_, rfl⟩
          · omega
          · refine wk_conv [] [((12, 0), (12, 0))] (by simp) (by simp) (by decide) ?_ ?_
            · refine hf_cons (by simp (dsimp := false) only [push_cast, ↓reduceIte, Nat.reduceEqDiff, Nat.reduceAdd, reduceCtorEq, Int.toNat_natCast, hm1, hm2, hm3, hi0, hw, hd, hb1, hf1, hs1, hf2, hs2, hn] <;> rfl) (by exact .one (.own (by simp))) ?_
              refine hf_cons (by simp (dsimp := false) only [push_cast, ↓reduceIte, Nat.reduceEqDiff, Nat.reduceAdd, reduceCtorEq, Int.toNat_natCast, hm1, hm2, hm3, hi0, hw, hd, hb1, hf1, hs1, hf2, hs2, hn] <;> rfl) (by repeat' (first | exact ConvVs.nil | exact ConvL.nil | refine ConvV.tup ?_ | refine ConvVs.cons ?_ ?_ | (refine ConvV.self ?_; simp only [push_cast, hrf]; done) | refine ConvV.one ?_ | refine ConvV.agg ?_ | (refine ConvL.free ?_; simp only [push_cast, hrf]; done) | refine ConvL.append ?_ ?_ | refine ConvL.cons ?_ ?_ | exact Conv.free rfl | exact Conv.nil | (refine Conv.own ?_; simp; done) | (refine Conv.loc ?_; simp; done) | refine Conv.frz (by simp) (by simp (dsimp := false) only [push_cast, ↓reduceIte, Nat.reduceEqDiff, Nat.reduceAdd, reduceCtorEq, Int.toNat_natCast, hm1, hm2, hm3, hi0, hw, hd, hb1, hf1, hs1, hf2, hs2, hn] <;> rfl) ?_ | refine Conv.sl (by simp) ?_ | refine Conv.fn ?_)) ?_
              refine hf_cons (by simp (dsimp := false) only [push_cast, ↓reduceIte, Nat.reduceEqDiff, Nat.reduceAdd, reduceCtorEq, Int.toNat_natCast, hm1, hm2, hm3, hi0, hw, hd, hb1, hf1, hs1, hf2, hs2, hn] <;> rfl) (by exact ConvV.self rfl) ?_
              refine hf_cons (by simp (dsimp := false) only [push_cast, ↓reduceIte, Nat.reduceEqDiff, Nat.reduceAdd, reduceCtorEq, Int.toNat_natCast, hm1, hm2, hm3, hi0, hw, hd, hb1, hf1, hs1, hf2, hs2, hn] <;> rfl) (by exact ConvV.self rfl) ?_
              exact hf_nil
            · refine hh_cons (i := (12, 0)) (by simp) (by simp) (by simp (dsimp := false) only [push_cast, ↓reduceIte, Nat.reduceEqDiff, Nat.reduceAdd, reduceCtorEq, Int.toNat_natCast, hm1, hm2, hm3, hi0, hw, hd, hb1, hf1, hs1, hf2, hs2, hn] <;> rfl) (by first | (refine ConvB.free ?_; simp only [push_cast, hrf]; done) | (refine ConvB.arr ?_; repeat' (first | exact ConvVs.nil | exact ConvL.nil | refine ConvV.tup ?_ | refine ConvVs.cons ?_ ?_ | (refine ConvV.self ?_; simp only [push_cast, hrf]; done) | refine ConvV.one ?_ | refine ConvV.agg ?_ | (refine ConvL.free ?_; simp only [push_cast, hrf]; done) | refine ConvL.append ?_ ?_ | refine ConvL.cons ?_ ?_ | exact Conv.free rfl | exact Conv.nil | (refine Conv.own ?_; simp; done) | (refine Conv.loc ?_; simp; done) | refine Conv.frz (by simp) (by simp (dsimp := false) only [push_cast, ↓reduceIte, Nat.reduceEqDiff, Nat.reduceAdd, reduceCtorEq, Int.toNat_natCast, hm1, hm2, hm3, hi0, hw, hd, hb1, hf1, hs1, hf2, hs2, hn] <;> rfl) ?_ | refine Conv.sl (by simp) ?_ | refine Conv.fn ?_))) ?_
              exact hh_nil
          · exact ⟨by omega, by omega⟩
      · have hb1 := rb1
        try simp only [beq_iff_eq, bne_iff_ne, ne_eq, bne_eq_false_iff_eq, beq_eq_false_iff_ne, decide_eq_true_eq, decide_eq_false_iff_not, Bool.not_eq_true', Bool.not_eq_false', Bool.or_eq_true, Bool.and_eq_true, Bool.or_eq_false_iff, Bool.and_eq_false_iff] at hb1
        have hend : rowAt bitP (PC.c (Value.int .u8 0)) l i.toNat = l.map bitP := by rw [show i.toNat = l.length by omega]; exact rowAt_end
        have hbb : bytesOf (l.map bitP) = some (l.map fun a => ((bitc a).toNat : Int)) := bytesOf_map bitc l
        have hob := ofBytes_bits l
        refine vwp_exit ?_
        simp only [thenQ, blockQ, Nat.reduceEqDiff, reduceIte]
        apply_assumption
        refine vwp_seq_region rfl fun K hK => ?_
        simp (dsimp := false) only [push_cast, hP, hnt, hgw, hgb, Nat.reduceLT, Nat.reduceEqDiff, Nat.reduceAdd, Nat.reduceSub, Nat.reduceMul, Nat.reduceLeDiff, ↓reduceIte, reduceCtorEq, Int.toNat_natCast, hm1, hm2, hm3, hi0, hend, hbb, hob]
        refine hK _ ?_; clear hK
        refine vwp_ret ?_
        refine ret_free (by simp (dsimp := false) only [push_cast, hP, hnt, hgw, hgb, Nat.reduceLT, Nat.reduceEqDiff, Nat.reduceAdd, Nat.reduceSub, Nat.reduceMul, Nat.reduceLeDiff, ↓reduceIte, reduceCtorEq, Int.toNat_natCast, hm1, hm2, hm3, hi0, hend, hbb, hob]; rfl) (by simp (dsimp := false) only [push_cast, hP, hnt, hgw, hgb, Nat.reduceLT, Nat.reduceEqDiff, Nat.reduceAdd, Nat.reduceSub, Nat.reduceMul, Nat.reduceLeDiff, ↓reduceIte, reduceCtorEq, Int.toNat_natCast, hm1, hm2, hm3, hi0, hend, hbb, hob]) ?_
        rw [show bitsS l = bitsB l from if_neg (fun h => hb0 (by simp [h]))]; rfl
end Go.Vm
end

section
namespace Go.Vm
open Go Go.RowKit Go.Proofs
set_option maxRecDepth 100000
set_option linter.unusedSimpArgs false
set_option linter.unusedVariables false
set_option maxHeartbeats 4000000

structure Ver where
  kind : Int
  first : List Bool
  inputs : List (List Bool)
  skip : Int
  phases : Int
  ands : List (Int × Int)
  lit : Int
def Ver.prf (t : Bool) (v : Ver) : List PC := [.c (.int .i64 v.skip), .c (.int .i64 v.phases), .sl t v.ands.length (v.ands.flatMap fun g => [.c (.int .i64 g.1), .c (.int .i64 g.2)]), .c (.int .i64 v.lit)]
def Ver.pcs (t : Bool) (v : Ver) : List PC := .c (.int .u8 v.kind) :: .sl t v.first.length (v.first.map fun b => .c (.bool b)) :: .sl t v.inputs.length (v.inputs.map fun l => .sl t l.length (l.map fun b => .c (.bool b))) :: v.prf t
theorem nat_nonneg (n : Nat) : (0 ≤ (n : Int)) = True := by simp
attribute [push_cast] Ver.pcs Ver.prf Int.toNat_natCast nat_nonneg
def noProofF (v : Ver) : Bool := (((v.skip == 0) && (v.phases == 0)) && ((v.ands.length : Int) == 0)) && (v.lit == 0)
theorem bitsB_size (l : List Bool) : (bitsB l).size = l.length := by unfold bitsB; rw [bOf_size, List.length_map]
end Go.Vm
end

section
namespace Go.Vm
open Go Go.RowKit Go.Proofs
set_option maxRecDepth 100000
set_option linter.unusedSimpArgs false
set_option linter.unusedVariables false
set_option maxHeartbeats 4000000

structure Fit (v : Ver) : Prop where
  first : v.first.length ≤ 100000
  inputs : v.inputs.length ≤ 100000
  ands : v.ands.length ≤ 100000
  each : ∀ l ∈ v.inputs, l.length ≤ 100000
def longF (l : List Bool) : Bool := decide (60 < l.length ∧ l.length ≠ 1001)
def greatHead (v : Ver) : Bool := decide ((200 < v.ands.length ∧ v.ands.length ≠ 1001) ∨ (20 < v.inputs.length ∧ v.inputs.length ≠ 101) ∨ (60 < v.first.length ∧ v.first.length ≠ 1001))
def greatF (v : Ver) : Bool := greatHead v || v.inputs.any longF
def noRun (v : Ver) : Bool := decide (v.first.length + v.inputs.length = 0)
def framesF (v : Ver) : Bool := decide (1 ≤ v.inputs.length ∧ v.inputs.length ≤ 100 ∧ v.first.length ≤ 1000)
def wideF (l : List Bool) : Bool := decide (l.length ≤ 1000)
def gateF (g : Int × Int) : Bool := inTo 2001 g.1 && inTo 2001 g.2
def mayF (v : Ver) : Bool :=
  if v.kind = 3 then noRun v && noProofF v
  else if v.kind = 2 then noProofF v && framesF v && v.inputs.all wideF
  else if v.kind = 1 then (noRun v && inTo 100 v.skip && inTo 100 v.phases && decide (v.ands.length ≤ 1000) && inTo 2001 v.lit) && v.ands.all gateF
  else false
end Go.Vm
end
