/-
  Walks of the program's functions by the framework, and what they compute (PtAJ). Conditions: each theorem's own premises. By an AI agent.
-/
import Derived.Test.YtnpbndglolcilaaGreatDoorPtAI
import Derived.Test.YtnpbndglolcilaaGreatDoorPtAH
import Derived.Lib.ConvBytes
import Derived.Test.YtnpbndglolcilaaGreatDoorVmAG
import Derived.Shelf.Strings.Builder1
section
namespace Go.Vm
open Go Go.RowKit Go.Proofs
set_option maxRecDepth 100000
set_option linter.unusedSimpArgs false
set_option linter.unusedVariables false
set_option maxHeartbeats 4000000
def nm0 : ByteArray := ⟨#[104, 97, 115, 104]⟩
def nm1 : ByteArray := ⟨#[99, 111, 110, 115, 116, 97, 110, 116, 115]⟩
def nm2 : ByteArray := ⟨#[99, 111, 110, 101]⟩
def nm3 : ByteArray := ⟨#[115, 119, 101, 101, 112]⟩
def nm4 : ByteArray := ⟨#[116, 101, 114, 110, 97, 114, 121]⟩
def nm5 : ByteArray := ⟨#[108, 97, 116, 99, 104, 101, 115]⟩

def refCheckF (n : ByteArray) (k : Int) : Int :=
  if n.toList = nm0.toList ∨ n.toList = nm1.toList ∨ n.toList = nm2.toList ∨ n.toList = nm3.toList ∨ n.toList = nm4.toList ∨ n.toList = nm5.toList then (if k < 0 ∨ 0 < k then 2 else 0)
  else if n.toList = nPrefix.toList then (if k < 1 ∨ 8 < k then 2 else 0)
  else if n.toList = nPhases.toList then (if k < 2 ∨ 4 < k then 2 else 0)
  else 12
def writtenF (n : ByteArray) (k : Int) : ByteArray :=
  if 0 < k then n ++ colon ++ ofBytes [IntKind.wrap .u8 (IntKind.wrap .i64 (48 + k))] else n
def refTextF (n : ByteArray) (k : Int) : ByteArray × Int :=
  if refCheckF n k ≠ 0 then (⟨#[]⟩, refCheckF n k) else (writtenF n k, 0)

theorem refCheck_call (gw : World) (gb : Nat) (n : ByteArray) (k : Int) : VCall Tryz.prog gw (gb) 38 [.agg [.c (.string n), .c (.int .i64 k)]] (.one (.c (.int .i64 (refCheckF n k)))) [] := by
  refine vcall_of [.tmp 2] Tryz.func38 rfl rfl Tryz.ntmps38 rfl (by simp) ?_
  intro C hP hnt hgw hgb hfull
  refine vwp_seq_region rfl fun K hK => ?_
  simp (dsimp := false) only [push_cast, hP, hnt, hgw, hgb, Int.reduceLE, Int.reduceLT, sevalprocAttr, String.reduceEq]
  refine hK _ ?_; clear hK
  refine vwp_seq_region rfl fun K hK => ?_
  simp (dsimp := false) only [push_cast, hP, hnt, hgw, hgb, Int.reduceLE, Int.reduceLT, sevalprocAttr, String.reduceEq]
  refine hK _ ?_; clear hK
  refine vwp_seq fun K hK => ?_
  refine vwp_seq_region rfl fun K hK => ?_
  simp (dsimp := false) only [push_cast, hP, hnt, hgw, hgb, Int.reduceLE, Int.reduceLT, sevalprocAttr, String.reduceEq]
  refine hK _ ?_; clear hK
  refine vwp_block ?_
  refine vwp_seq fun K hK => ?_
  refine vwp_seq_region rfl fun K hK => ?_
  simp (dsimp := false) only [push_cast, hP, hnt, hgw, hgb, Int.reduceLE, Int.reduceLT, sevalprocAttr, String.reduceEq]
  refine hK _ ?_; clear hK
  refine vwp_cond (b := _) (by simp (dsimp := false) only [push_cast, hP, hnt, hgw, hgb, Int.reduceLE, Int.reduceLT, sevalprocAttr, String.reduceEq]; rfl) (fun rb0 => ?_) (fun rb0 => ?_)
  · have hb0 := rb0
    try simp only [beq_iff_eq, bne_iff_ne, ne_eq, bne_eq_false_iff_eq, beq_eq_false_iff_ne, decide_eq_true_eq, decide_eq_false_iff_not, Bool.not_eq_true', Bool.not_eq_false', Bool.or_eq_true, Bool.and_eq_true, Bool.or_eq_false_iff, Bool.and_eq_false_iff] at hb0
    refine vwp_skip ?_
    apply_assumption
    refine vwp_cond (b := true) (by first | (simp (dsimp := false) only [push_cast, hP, hnt, hgw, hgb, Int.reduceLE, Int.reduceLT, sevalprocAttr, String.reduceEq, rb0]; rfl) | simp (dsimp := false) only [push_cast, hP, hnt, hgw, hgb, Int.reduceLE, Int.reduceLT, sevalprocAttr, String.reduceEq, rb0]) (fun hx => ?_) (fun hx => by cases hx)
    refine vwp_skip ?_
    apply_assumption
    refine vwp_seq fun K hK => ?_
    refine vwp_seq_regionG fun K hK => ?_
    simp (dsimp := false) only [push_cast, hP, hnt, hgw, hgb, Int.reduceLE, Int.reduceLT, sevalprocAttr, String.reduceEq]
    refine guardR_may (by simp (dsimp := false) only [push_cast, hP, hnt, hgw, hgb, Int.reduceLE, Int.reduceLT, sevalprocAttr, String.reduceEq, List.getElem?_cons_zero, List.getElem?_cons_succ]; rfl) ?_
    simp (dsimp := false) only [push_cast, hP, hnt, hgw, hgb, Int.reduceLE, Int.reduceLT, sevalprocAttr, String.reduceEq]
    refine guardR_may (by simp (dsimp := false) only [push_cast, hP, hnt, hgw, hgb, Int.reduceLE, Int.reduceLT, sevalprocAttr, String.reduceEq, List.getElem?_cons_zero, List.getElem?_cons_succ]; rfl) ?_
    simp (dsimp := false) only [push_cast, hP, hnt, hgw, hgb, Int.reduceLE, Int.reduceLT, sevalprocAttr, String.reduceEq]
    refine guardR_may (by simp (dsimp := false) only [push_cast, hP, hnt, hgw, hgb, Int.reduceLE, Int.reduceLT, sevalprocAttr, String.reduceEq, List.getElem?_cons_zero, List.getElem?_cons_succ]; rfl) ?_
    simp (dsimp := false) only [push_cast, hP, hnt, hgw, hgb, Int.reduceLE, Int.reduceLT, sevalprocAttr, String.reduceEq]
    refine guardR_may (by simp (dsimp := false) only [push_cast, hP, hnt, hgw, hgb, Int.reduceLE, Int.reduceLT, sevalprocAttr, String.reduceEq, List.getElem?_cons_zero, List.getElem?_cons_succ]; rfl) ?_
    simp (dsimp := false) only [push_cast, hP, hnt, hgw, hgb, Int.reduceLE, Int.reduceLT, sevalprocAttr, String.reduceEq]
    refine hK _ ?_; clear hK
    refine vwp_cond (b := _) (by simp (dsimp := false) only [push_cast, hP, hnt, hgw, hgb, Int.reduceLE, Int.reduceLT, sevalprocAttr, String.reduceEq]; rfl) (fun rb1 => ?_) (fun rb1 => ?_)
    · have hb1 := rb1
      try simp only [beq_iff_eq, bne_iff_ne, ne_eq, bne_eq_false_iff_eq, beq_eq_false_iff_ne, decide_eq_true_eq, decide_eq_false_iff_not, Bool.not_eq_true', Bool.not_eq_false', Bool.or_eq_true, Bool.and_eq_true, Bool.or_eq_false_iff, Bool.and_eq_false_iff] at hb1
      refine vwp_seq_region rfl fun K hK => ?_
      simp (dsimp := false) only [push_cast, hP, hnt, hgw, hgb, Int.reduceLE, Int.reduceLT, sevalprocAttr, String.reduceEq]
      refine hK _ ?_; clear hK
      refine vwp_ret ?_
      refine ret_free (by simp (dsimp := false) only [push_cast, hP, hnt, hgw, hgb, Int.reduceLE, Int.reduceLT, sevalprocAttr, String.reduceEq]; rfl) (by simp (dsimp := false) only [push_cast, hP, hnt, hgw, hgb, Int.reduceLE, Int.reduceLT, sevalprocAttr, String.reduceEq]) ?_
      first | (simp only [pack, refCheckF, nPrefix, nPhases, nm0, nm1, nm2, nm3, nm4, nm5, rb0, rb1, if_true, if_false, Bool.false_eq_true, reduceIte]; done) | (simp only [pack, refCheckF, nPrefix, nPhases, nm0, nm1, nm2, nm3, nm4, nm5, hb0, hb1, if_true, if_false, ne_eq, not_true_eq_false, not_false_eq_true, true_or, or_true, or_self, ite_self, Bool.true_eq_false, Bool.false_eq_true, or_false, false_or]; done) | (subst_vars; simp only [pack, refCheckF, nPrefix, nPhases, nm0, nm1, nm2, nm3, nm4, nm5, *, if_true, if_false, ne_eq, not_true_eq_false, not_false_eq_true, true_or, or_true, or_self, ite_self, Bool.true_eq_false, Bool.false_eq_true, or_false, false_or]; done) | (simp [pack, refCheckF, nPrefix, nPhases, nm0, nm1, nm2, nm3, nm4, nm5, hb0, hb1] <;> omega)
    · have hb1 := rb1
      try simp only [beq_iff_eq, bne_iff_ne, ne_eq, bne_eq_false_iff_eq, beq_eq_false_iff_ne, decide_eq_true_eq, decide_eq_false_iff_not, Bool.not_eq_true', Bool.not_eq_false', Bool.or_eq_true, Bool.and_eq_true, Bool.or_eq_false_iff, Bool.and_eq_false_iff] at hb1
      refine vwp_skip ?_
      apply_assumption
      refine vwp_seq_region rfl fun K hK => ?_
      simp (dsimp := false) only [push_cast, hP, hnt, hgw, hgb, Int.reduceLE, Int.reduceLT, sevalprocAttr, String.reduceEq]
      refine hK _ ?_; clear hK
      refine vwp_ret ?_
      refine ret_free (by simp (dsimp := false) only [push_cast, hP, hnt, hgw, hgb, Int.reduceLE, Int.reduceLT, sevalprocAttr, String.reduceEq]; rfl) (by simp (dsimp := false) only [push_cast, hP, hnt, hgw, hgb, Int.reduceLE, Int.reduceLT, sevalprocAttr, String.reduceEq]) ?_
      first | (simp only [pack, refCheckF, nPrefix, nPhases, nm0, nm1, nm2, nm3, nm4, nm5, rb0, rb1, if_true, if_false, Bool.false_eq_true, reduceIte]; done) | (simp only [pack, refCheckF, nPrefix, nPhases, nm0, nm1, nm2, nm3, nm4, nm5, hb0, hb1, if_true, if_false, ne_eq, not_true_eq_false, not_false_eq_true, true_or, or_true, or_self, ite_self, Bool.true_eq_false, Bool.false_eq_true, or_false, false_or]; done) | (subst_vars; simp only [pack, refCheckF, nPrefix, nPhases, nm0, nm1, nm2, nm3, nm4, nm5, *, if_true, if_false, ne_eq, not_true_eq_false, not_false_eq_true, true_or, or_true, or_self, ite_self, Bool.true_eq_false, Bool.false_eq_true, or_false, false_or]; done) | (simp [pack, refCheckF, nPrefix, nPhases, nm0, nm1, nm2, nm3, nm4, nm5, hb0, hb1] <;> omega)
  · have hb0 := rb0
    try simp only [beq_iff_eq, bne_iff_ne, ne_eq, bne_eq_false_iff_eq, beq_eq_false_iff_ne, decide_eq_true_eq, decide_eq_false_iff_not, Bool.not_eq_true', Bool.not_eq_false', Bool.or_eq_true, Bool.and_eq_true, Bool.or_eq_false_iff, Bool.and_eq_false_iff] at hb0
    refine vwp_seq_region rfl fun K hK => ?_
    simp (dsimp := false) only [push_cast, hP, hnt, hgw, hgb, Int.reduceLE, Int.reduceLT, sevalprocAttr, String.reduceEq]
    refine hK _ ?_; clear hK
    refine vwp_cond (b := _) (by simp (dsimp := false) only [push_cast, hP, hnt, hgw, hgb, Int.reduceLE, Int.reduceLT, sevalprocAttr, String.reduceEq]; rfl) (fun rb2 => ?_) (fun rb2 => ?_)
    · have hb2 := rb2
      try simp only [beq_iff_eq, bne_iff_ne, ne_eq, bne_eq_false_iff_eq, beq_eq_false_iff_ne, decide_eq_true_eq, decide_eq_false_iff_not, Bool.not_eq_true', Bool.not_eq_false', Bool.or_eq_true, Bool.and_eq_true, Bool.or_eq_false_iff, Bool.and_eq_false_iff] at hb2
      refine vwp_skip ?_
      apply_assumption
      refine vwp_cond (b := true) (by first | (simp (dsimp := false) only [push_cast, hP, hnt, hgw, hgb, Int.reduceLE, Int.reduceLT, sevalprocAttr, String.reduceEq, rb2]; rfl) | simp (dsimp := false) only [push_cast, hP, hnt, hgw, hgb, Int.reduceLE, Int.reduceLT, sevalprocAttr, String.reduceEq, rb2]) (fun hx => ?_) (fun hx => by cases hx)
      refine vwp_skip ?_
      apply_assumption
      refine vwp_seq fun K hK => ?_
      refine vwp_seq_regionG fun K hK => ?_
      simp (dsimp := false) only [push_cast, hP, hnt, hgw, hgb, Int.reduceLE, Int.reduceLT, sevalprocAttr, String.reduceEq]
      refine guardR_may (by simp (dsimp := false) only [push_cast, hP, hnt, hgw, hgb, Int.reduceLE, Int.reduceLT, sevalprocAttr, String.reduceEq, List.getElem?_cons_zero, List.getElem?_cons_succ]; rfl) ?_
      simp (dsimp := false) only [push_cast, hP, hnt, hgw, hgb, Int.reduceLE, Int.reduceLT, sevalprocAttr, String.reduceEq]
      refine guardR_may (by simp (dsimp := false) only [push_cast, hP, hnt, hgw, hgb, Int.reduceLE, Int.reduceLT, sevalprocAttr, String.reduceEq, List.getElem?_cons_zero, List.getElem?_cons_succ]; rfl) ?_
      simp (dsimp := false) only [push_cast, hP, hnt, hgw, hgb, Int.reduceLE, Int.reduceLT, sevalprocAttr, String.reduceEq]
      refine guardR_may (by simp (dsimp := false) only [push_cast, hP, hnt, hgw, hgb, Int.reduceLE, Int.reduceLT, sevalprocAttr, String.reduceEq, List.getElem?_cons_zero, List.getElem?_cons_succ]; rfl) ?_
      simp (dsimp := false) only [push_cast, hP, hnt, hgw, hgb, Int.reduceLE, Int.reduceLT, sevalprocAttr, String.reduceEq]
      refine guardR_may (by simp (dsimp := false) only [push_cast, hP, hnt, hgw, hgb, Int.reduceLE, Int.reduceLT, sevalprocAttr, String.reduceEq, List.getElem?_cons_zero, List.getElem?_cons_succ]; rfl) ?_
      simp (dsimp := false) only [push_cast, hP, hnt, hgw, hgb, Int.reduceLE, Int.reduceLT, sevalprocAttr, String.reduceEq]
      refine hK _ ?_; clear hK
      refine vwp_cond (b := _) (by simp (dsimp := false) only [push_cast, hP, hnt, hgw, hgb, Int.reduceLE, Int.reduceLT, sevalprocAttr, String.reduceEq]; rfl) (fun rb3 => ?_) (fun rb3 => ?_)
      · have hb3 := rb3
        try simp only [beq_iff_eq, bne_iff_ne, ne_eq, bne_eq_false_iff_eq, beq_eq_false_iff_ne, decide_eq_true_eq, decide_eq_false_iff_not, Bool.not_eq_true', Bool.not_eq_false', Bool.or_eq_true, Bool.and_eq_true, Bool.or_eq_false_iff, Bool.and_eq_false_iff] at hb3
        refine vwp_seq_region rfl fun K hK => ?_
        simp (dsimp := false) only [push_cast, hP, hnt, hgw, hgb, Int.reduceLE, Int.reduceLT, sevalprocAttr, String.reduceEq]
        refine hK _ ?_; clear hK
        refine vwp_ret ?_
        refine ret_free (by simp (dsimp := false) only [push_cast, hP, hnt, hgw, hgb, Int.reduceLE, Int.reduceLT, sevalprocAttr, String.reduceEq]; rfl) (by simp (dsimp := false) only [push_cast, hP, hnt, hgw, hgb, Int.reduceLE, Int.reduceLT, sevalprocAttr, String.reduceEq]) ?_
        first | (simp only [pack, refCheckF, nPrefix, nPhases, nm0, nm1, nm2, nm3, nm4, nm5, rb0, rb2, rb3, if_true, if_false, Bool.false_eq_true, reduceIte]; done) | (simp only [pack, refCheckF, nPrefix, nPhases, nm0, nm1, nm2, nm3, nm4, nm5, hb0, hb2, hb3, if_true, if_false, ne_eq, not_true_eq_false, not_false_eq_true, true_or, or_true, or_self, ite_self, Bool.true_eq_false, Bool.false_eq_true, or_false, false_or]; done) | (subst_vars; simp only [pack, refCheckF, nPrefix, nPhases, nm0, nm1, nm2, nm3, nm4, nm5, *, if_true, if_false, ne_eq, not_true_eq_false, not_false_eq_true, true_or, or_true, or_self, ite_self, Bool.true_eq_false, Bool.false_eq_true, or_false, false_or]; done) | (simp [pack, refCheckF, nPrefix, nPhases, nm0, nm1, nm2, nm3, nm4, nm5, hb0, hb2, hb3] <;> omega)
      · have hb3 := rb3
        try simp only [beq_iff_eq, bne_iff_ne, ne_eq, bne_eq_false_iff_eq, beq_eq_false_iff_ne, decide_eq_true_eq, decide_eq_false_iff_not, Bool.not_eq_true', Bool.not_eq_false', Bool.or_eq_true, Bool.and_eq_true, Bool.or_eq_false_iff, Bool.and_eq_false_iff] at hb3
        refine vwp_skip ?_
        apply_assumption
        refine vwp_seq_region rfl fun K hK => ?_
        simp (dsimp := false) only [push_cast, hP, hnt, hgw, hgb, Int.reduceLE, Int.reduceLT, sevalprocAttr, String.reduceEq]
        refine hK _ ?_; clear hK
        refine vwp_ret ?_
        refine ret_free (by simp (dsimp := false) only [push_cast, hP, hnt, hgw, hgb, Int.reduceLE, Int.reduceLT, sevalprocAttr, String.reduceEq]; rfl) (by simp (dsimp := false) only [push_cast, hP, hnt, hgw, hgb, Int.reduceLE, Int.reduceLT, sevalprocAttr, String.reduceEq]) ?_
        first | (simp only [pack, refCheckF, nPrefix, nPhases, nm0, nm1, nm2, nm3, nm4, nm5, rb0, rb2, rb3, if_true, if_false, Bool.false_eq_true, reduceIte]; done) | (simp only [pack, refCheckF, nPrefix, nPhases, nm0, nm1, nm2, nm3, nm4, nm5, hb0, hb2, hb3, if_true, if_false, ne_eq, not_true_eq_false, not_false_eq_true, true_or, or_true, or_self, ite_self, Bool.true_eq_false, Bool.false_eq_true, or_false, false_or]; done) | (subst_vars; simp only [pack, refCheckF, nPrefix, nPhases, nm0, nm1, nm2, nm3, nm4, nm5, *, if_true, if_false, ne_eq, not_true_eq_false, not_false_eq_true, true_or, or_true, or_self, ite_self, Bool.true_eq_false, Bool.false_eq_true, or_false, false_or]; done) | (simp [pack, refCheckF, nPrefix, nPhases, nm0, nm1, nm2, nm3, nm4, nm5, hb0, hb2, hb3] <;> omega)
    · have hb2 := rb2
      try simp only [beq_iff_eq, bne_iff_ne, ne_eq, bne_eq_false_iff_eq, beq_eq_false_iff_ne, decide_eq_true_eq, decide_eq_false_iff_not, Bool.not_eq_true', Bool.not_eq_false', Bool.or_eq_true, Bool.and_eq_true, Bool.or_eq_false_iff, Bool.and_eq_false_iff] at hb2
      refine vwp_seq_region rfl fun K hK => ?_
      simp (dsimp := false) only [push_cast, hP, hnt, hgw, hgb, Int.reduceLE, Int.reduceLT, sevalprocAttr, String.reduceEq]
      refine hK _ ?_; clear hK
      refine vwp_cond (b := _) (by simp (dsimp := false) only [push_cast, hP, hnt, hgw, hgb, Int.reduceLE, Int.reduceLT, sevalprocAttr, String.reduceEq]; rfl) (fun rb4 => ?_) (fun rb4 => ?_)
      · have hb4 := rb4
        try simp only [beq_iff_eq, bne_iff_ne, ne_eq, bne_eq_false_iff_eq, beq_eq_false_iff_ne, decide_eq_true_eq, decide_eq_false_iff_not, Bool.not_eq_true', Bool.not_eq_false', Bool.or_eq_true, Bool.and_eq_true, Bool.or_eq_false_iff, Bool.and_eq_false_iff] at hb4
        refine vwp_skip ?_
        apply_assumption
        refine vwp_cond (b := true) (by first | (simp (dsimp := false) only [push_cast, hP, hnt, hgw, hgb, Int.reduceLE, Int.reduceLT, sevalprocAttr, String.reduceEq, rb4]; rfl) | simp (dsimp := false) only [push_cast, hP, hnt, hgw, hgb, Int.reduceLE, Int.reduceLT, sevalprocAttr, String.reduceEq, rb4]) (fun hx => ?_) (fun hx => by cases hx)
        refine vwp_skip ?_
        apply_assumption
        refine vwp_seq fun K hK => ?_
        refine vwp_seq_regionG fun K hK => ?_
        simp (dsimp := false) only [push_cast, hP, hnt, hgw, hgb, Int.reduceLE, Int.reduceLT, sevalprocAttr, String.reduceEq]
        refine guardR_may (by simp (dsimp := false) only [push_cast, hP, hnt, hgw, hgb, Int.reduceLE, Int.reduceLT, sevalprocAttr, String.reduceEq, List.getElem?_cons_zero, List.getElem?_cons_succ]; rfl) ?_
        simp (dsimp := false) only [push_cast, hP, hnt, hgw, hgb, Int.reduceLE, Int.reduceLT, sevalprocAttr, String.reduceEq]
        refine guardR_may (by simp (dsimp := false) only [push_cast, hP, hnt, hgw, hgb, Int.reduceLE, Int.reduceLT, sevalprocAttr, String.reduceEq, List.getElem?_cons_zero, List.getElem?_cons_succ]; rfl) ?_
        simp (dsimp := false) only [push_cast, hP, hnt, hgw, hgb, Int.reduceLE, Int.reduceLT, sevalprocAttr, String.reduceEq]
        refine guardR_may (by simp (dsimp := false) only [push_cast, hP, hnt, hgw, hgb, Int.reduceLE, Int.reduceLT, sevalprocAttr, String.reduceEq, List.getElem?_cons_zero, List.getElem?_cons_succ]; rfl) ?_
        simp (dsimp := false) only [push_cast, hP, hnt, hgw, hgb, Int.reduceLE, Int.reduceLT, sevalprocAttr, String.reduceEq]
        refine guardR_may (by simp (dsimp := false) only [push_cast, hP, hnt, hgw, hgb, Int.reduceLE, Int.reduceLT, sevalprocAttr, String.reduceEq, List.getElem?_cons_zero, List.getElem?_cons_succ]; rfl) ?_
        simp (dsimp := false) only [push_cast, hP, hnt, hgw, hgb, Int.reduceLE, Int.reduceLT, sevalprocAttr, String.reduceEq]
        refine hK _ ?_; clear hK
        refine vwp_cond (b := _) (by simp (dsimp := false) only [push_cast, hP, hnt, hgw, hgb, Int.reduceLE, Int.reduceLT, sevalprocAttr, String.reduceEq]; rfl) (fun rb5 => ?_) (fun rb5 => ?_)
        · have hb5 := rb5
          try simp only [beq_iff_eq, bne_iff_ne, ne_eq, bne_eq_false_iff_eq, beq_eq_false_iff_ne, decide_eq_true_eq, decide_eq_false_iff_not, Bool.not_eq_true', Bool.not_eq_false', Bool.or_eq_true, Bool.and_eq_true, Bool.or_eq_false_iff, Bool.and_eq_false_iff] at hb5
          refine vwp_seq_region rfl fun K hK => ?_
          simp (dsimp := false) only [push_cast, hP, hnt, hgw, hgb, Int.reduceLE, Int.reduceLT, sevalprocAttr, String.reduceEq]
          refine hK _ ?_; clear hK
          refine vwp_ret ?_
          refine ret_free (by simp (dsimp := false) only [push_cast, hP, hnt, hgw, hgb, Int.reduceLE, Int.reduceLT, sevalprocAttr, String.reduceEq]; rfl) (by simp (dsimp := false) only [push_cast, hP, hnt, hgw, hgb, Int.reduceLE, Int.reduceLT, sevalprocAttr, String.reduceEq]) ?_
          first | (simp only [pack, refCheckF, nPrefix, nPhases, nm0, nm1, nm2, nm3, nm4, nm5, rb0, rb2, rb4, rb5, if_true, if_false, Bool.false_eq_true, reduceIte]; done) | (simp only [pack, refCheckF, nPrefix, nPhases, nm0, nm1, nm2, nm3, nm4, nm5, hb0, hb2, hb4, hb5, if_true, if_false, ne_eq, not_true_eq_false, not_false_eq_true, true_or, or_true, or_self, ite_self, Bool.true_eq_false, Bool.false_eq_true, or_false, false_or]; done) | (subst_vars; simp only [pack, refCheckF, nPrefix, nPhases, nm0, nm1, nm2, nm3, nm4, nm5, *, if_true, if_false, ne_eq, not_true_eq_false, not_false_eq_true, true_or, or_true, or_self, ite_self, Bool.true_eq_false, Bool.false_eq_true, or_false, false_or]; done) | (simp [pack, refCheckF, nPrefix, nPhases, nm0, nm1, nm2, nm3, nm4, nm5, hb0, hb2, hb4, hb5] <;> omega)
        · have hb5 := rb5
          try simp only [beq_iff_eq, bne_iff_ne, ne_eq, bne_eq_false_iff_eq, beq_eq_false_iff_ne, decide_eq_true_eq, decide_eq_false_iff_not, Bool.not_eq_true', Bool.not_eq_false', Bool.or_eq_true, Bool.and_eq_true, Bool.or_eq_false_iff, Bool.and_eq_false_iff] at hb5
          refine vwp_skip ?_
          apply_assumption
          refine vwp_seq_region rfl fun K hK => ?_
          simp (dsimp := false) only [push_cast, hP, hnt, hgw, hgb, Int.reduceLE, Int.reduceLT, sevalprocAttr, String.reduceEq]
          refine hK _ ?_; clear hK
          refine vwp_ret ?_
          refine ret_free (by simp (dsimp := false) only [push_cast, hP, hnt, hgw, hgb, Int.reduceLE, Int.reduceLT, sevalprocAttr, String.reduceEq]; rfl) (by simp (dsimp := false) only [push_cast, hP, hnt, hgw, hgb, Int.reduceLE, Int.reduceLT, sevalprocAttr, String.reduceEq]) ?_
          first | (simp only [pack, refCheckF, nPrefix, nPhases, nm0, nm1, nm2, nm3, nm4, nm5, rb0, rb2, rb4, rb5, if_true, if_false, Bool.false_eq_true, reduceIte]; done) | (simp only [pack, refCheckF, nPrefix, nPhases, nm0, nm1, nm2, nm3, nm4, nm5, hb0, hb2, hb4, hb5, if_true, if_false, ne_eq, not_true_eq_false, not_false_eq_true, true_or, or_true, or_self, ite_self, Bool.true_eq_false, Bool.false_eq_true, or_false, false_or]; done) | (subst_vars; simp only [pack, refCheckF, nPrefix, nPhases, nm0, nm1, nm2, nm3, nm4, nm5, *, if_true, if_false, ne_eq, not_true_eq_false, not_false_eq_true, true_or, or_true, or_self, ite_self, Bool.true_eq_false, Bool.false_eq_true, or_false, false_or]; done) | (simp [pack, refCheckF, nPrefix, nPhases, nm0, nm1, nm2, nm3, nm4, nm5, hb0, hb2, hb4, hb5] <;> omega)
      · have hb4 := rb4
        try simp only [beq_iff_eq, bne_iff_ne, ne_eq, bne_eq_false_iff_eq, beq_eq_false_iff_ne, decide_eq_true_eq, decide_eq_false_iff_not, Bool.not_eq_true', Bool.not_eq_false', Bool.or_eq_true, Bool.and_eq_true, Bool.or_eq_false_iff, Bool.and_eq_false_iff] at hb4
        refine vwp_seq_region rfl fun K hK => ?_
        simp (dsimp := false) only [push_cast, hP, hnt, hgw, hgb, Int.reduceLE, Int.reduceLT, sevalprocAttr, String.reduceEq]
        refine hK _ ?_; clear hK
        refine vwp_cond (b := _) (by simp (dsimp := false) only [push_cast, hP, hnt, hgw, hgb, Int.reduceLE, Int.reduceLT, sevalprocAttr, String.reduceEq]; rfl) (fun rb6 => ?_) (fun rb6 => ?_)
        · have hb6 := rb6
          try simp only [beq_iff_eq, bne_iff_ne, ne_eq, bne_eq_false_iff_eq, beq_eq_false_iff_ne, decide_eq_true_eq, decide_eq_false_iff_not, Bool.not_eq_true', Bool.not_eq_false', Bool.or_eq_true, Bool.and_eq_true, Bool.or_eq_false_iff, Bool.and_eq_false_iff] at hb6
          refine vwp_skip ?_
          apply_assumption
          refine vwp_cond (b := true) (by first | (simp (dsimp := false) only [push_cast, hP, hnt, hgw, hgb, Int.reduceLE, Int.reduceLT, sevalprocAttr, String.reduceEq, rb6]; rfl) | simp (dsimp := false) only [push_cast, hP, hnt, hgw, hgb, Int.reduceLE, Int.reduceLT, sevalprocAttr, String.reduceEq, rb6]) (fun hx => ?_) (fun hx => by cases hx)
          refine vwp_skip ?_
          apply_assumption
          refine vwp_seq fun K hK => ?_
          refine vwp_seq_regionG fun K hK => ?_
          simp (dsimp := false) only [push_cast, hP, hnt, hgw, hgb, Int.reduceLE, Int.reduceLT, sevalprocAttr, String.reduceEq]
          refine guardR_may (by simp (dsimp := false) only [push_cast, hP, hnt, hgw, hgb, Int.reduceLE, Int.reduceLT, sevalprocAttr, String.reduceEq, List.getElem?_cons_zero, List.getElem?_cons_succ]; rfl) ?_
          simp (dsimp := false) only [push_cast, hP, hnt, hgw, hgb, Int.reduceLE, Int.reduceLT, sevalprocAttr, String.reduceEq]
          refine guardR_may (by simp (dsimp := false) only [push_cast, hP, hnt, hgw, hgb, Int.reduceLE, Int.reduceLT, sevalprocAttr, String.reduceEq, List.getElem?_cons_zero, List.getElem?_cons_succ]; rfl) ?_
          simp (dsimp := false) only [push_cast, hP, hnt, hgw, hgb, Int.reduceLE, Int.reduceLT, sevalprocAttr, String.reduceEq]
          refine guardR_may (by simp (dsimp := false) only [push_cast, hP, hnt, hgw, hgb, Int.reduceLE, Int.reduceLT, sevalprocAttr, String.reduceEq, List.getElem?_cons_zero, List.getElem?_cons_succ]; rfl) ?_
          simp (dsimp := false) only [push_cast, hP, hnt, hgw, hgb, Int.reduceLE, Int.reduceLT, sevalprocAttr, String.reduceEq]
          refine guardR_may (by simp (dsimp := false) only [push_cast, hP, hnt, hgw, hgb, Int.reduceLE, Int.reduceLT, sevalprocAttr, String.reduceEq, List.getElem?_cons_zero, List.getElem?_cons_succ]; rfl) ?_
          simp (dsimp := false) only [push_cast, hP, hnt, hgw, hgb, Int.reduceLE, Int.reduceLT, sevalprocAttr, String.reduceEq]
          refine hK _ ?_; clear hK
          refine vwp_cond (b := _) (by simp (dsimp := false) only [push_cast, hP, hnt, hgw, hgb, Int.reduceLE, Int.reduceLT, sevalprocAttr, String.reduceEq]; rfl) (fun rb7 => ?_) (fun rb7 => ?_)
          · have hb7 := rb7
            try simp only [beq_iff_eq, bne_iff_ne, ne_eq, bne_eq_false_iff_eq, beq_eq_false_iff_ne, decide_eq_true_eq, decide_eq_false_iff_not, Bool.not_eq_true', Bool.not_eq_false', Bool.or_eq_true, Bool.and_eq_true, Bool.or_eq_false_iff, Bool.and_eq_false_iff] at hb7
            refine vwp_seq_region rfl fun K hK => ?_
            simp (dsimp := false) only [push_cast, hP, hnt, hgw, hgb, Int.reduceLE, Int.reduceLT, sevalprocAttr, String.reduceEq]
            refine hK _ ?_; clear hK
            refine vwp_ret ?_
            refine ret_free (by simp (dsimp := false) only [push_cast, hP, hnt, hgw, hgb, Int.reduceLE, Int.reduceLT, sevalprocAttr, String.reduceEq]; rfl) (by simp (dsimp := false) only [push_cast, hP, hnt, hgw, hgb, Int.reduceLE, Int.reduceLT, sevalprocAttr, String.reduceEq]) ?_
            first | (simp only [pack, refCheckF, nPrefix, nPhases, nm0, nm1, nm2, nm3, nm4, nm5, rb0, rb2, rb4, rb6, rb7, if_true, if_false, Bool.false_eq_true, reduceIte]; done) | (simp only [pack, refCheckF, nPrefix, nPhases, nm0, nm1, nm2, nm3, nm4, nm5, hb0, hb2, hb4, hb6, hb7, if_true, if_false, ne_eq, not_true_eq_false, not_false_eq_true, true_or, or_true, or_self, ite_self, Bool.true_eq_false, Bool.false_eq_true, or_false, false_or]; done) | (subst_vars; simp only [pack, refCheckF, nPrefix, nPhases, nm0, nm1, nm2, nm3, nm4, nm5, *, if_true, if_false, ne_eq, not_true_eq_false, not_false_eq_true, true_or, or_true, or_self, ite_self, Bool.true_eq_false, Bool.false_eq_true, or_false, false_or]; done) | (simp [pack, refCheckF, nPrefix, nPhases, nm0, nm1, nm2, nm3, nm4, nm5, hb0, hb2, hb4, hb6, hb7] <;> omega)
          · have hb7 := rb7
            try simp only [beq_iff_eq, bne_iff_ne, ne_eq, bne_eq_false_iff_eq, beq_eq_false_iff_ne, decide_eq_true_eq, decide_eq_false_iff_not, Bool.not_eq_true', Bool.not_eq_false', Bool.or_eq_true, Bool.and_eq_true, Bool.or_eq_false_iff, Bool.and_eq_false_iff] at hb7
            refine vwp_skip ?_
            apply_assumption
            refine vwp_seq_region rfl fun K hK => ?_
            simp (dsimp := false) only [push_cast, hP, hnt, hgw, hgb, Int.reduceLE, Int.reduceLT, sevalprocAttr, String.reduceEq]
            refine hK _ ?_; clear hK
            refine vwp_ret ?_
            refine ret_free (by simp (dsimp := false) only [push_cast, hP, hnt, hgw, hgb, Int.reduceLE, Int.reduceLT, sevalprocAttr, String.reduceEq]; rfl) (by simp (dsimp := false) only [push_cast, hP, hnt, hgw, hgb, Int.reduceLE, Int.reduceLT, sevalprocAttr, String.reduceEq]) ?_
            first | (simp only [pack, refCheckF, nPrefix, nPhases, nm0, nm1, nm2, nm3, nm4, nm5, rb0, rb2, rb4, rb6, rb7, if_true, if_false, Bool.false_eq_true, reduceIte]; done) | (simp only [pack, refCheckF, nPrefix, nPhases, nm0, nm1, nm2, nm3, nm4, nm5, hb0, hb2, hb4, hb6, hb7, if_true, if_false, ne_eq, not_true_eq_false, not_false_eq_true, true_or, or_true, or_self, ite_self, Bool.true_eq_false, Bool.false_eq_true, or_false, false_or]; done) | (subst_vars; simp only [pack, refCheckF, nPrefix, nPhases, nm0, nm1, nm2, nm3, nm4, nm5, *, if_true, if_false, ne_eq, not_true_eq_false, not_false_eq_true, true_or, or_true, or_self, ite_self, Bool.true_eq_false, Bool.false_eq_true, or_false, false_or]; done) | (simp [pack, refCheckF, nPrefix, nPhases, nm0, nm1, nm2, nm3, nm4, nm5, hb0, hb2, hb4, hb6, hb7] <;> omega)
        · have hb6 := rb6
          try simp only [beq_iff_eq, bne_iff_ne, ne_eq, bne_eq_false_iff_eq, beq_eq_false_iff_ne, decide_eq_true_eq, decide_eq_false_iff_not, Bool.not_eq_true', Bool.not_eq_false', Bool.or_eq_true, Bool.and_eq_true, Bool.or_eq_false_iff, Bool.and_eq_false_iff] at hb6
          refine vwp_seq_region rfl fun K hK => ?_
          simp (dsimp := false) only [push_cast, hP, hnt, hgw, hgb, Int.reduceLE, Int.reduceLT, sevalprocAttr, String.reduceEq]
          refine hK _ ?_; clear hK
          refine vwp_cond (b := _) (by simp (dsimp := false) only [push_cast, hP, hnt, hgw, hgb, Int.reduceLE, Int.reduceLT, sevalprocAttr, String.reduceEq]; rfl) (fun rb8 => ?_) (fun rb8 => ?_)
          · have hb8 := rb8
            try simp only [beq_iff_eq, bne_iff_ne, ne_eq, bne_eq_false_iff_eq, beq_eq_false_iff_ne, decide_eq_true_eq, decide_eq_false_iff_not, Bool.not_eq_true', Bool.not_eq_false', Bool.or_eq_true, Bool.and_eq_true, Bool.or_eq_false_iff, Bool.and_eq_false_iff] at hb8
            refine vwp_skip ?_
            apply_assumption
            refine vwp_cond (b := true) (by first | (simp (dsimp := false) only [push_cast, hP, hnt, hgw, hgb, Int.reduceLE, Int.reduceLT, sevalprocAttr, String.reduceEq, rb8]; rfl) | simp (dsimp := false) only [push_cast, hP, hnt, hgw, hgb, Int.reduceLE, Int.reduceLT, sevalprocAttr, String.reduceEq, rb8]) (fun hx => ?_) (fun hx => by cases hx)
            refine vwp_skip ?_
            apply_assumption
            refine vwp_seq fun K hK => ?_
            refine vwp_seq_regionG fun K hK => ?_
            simp (dsimp := false) only [push_cast, hP, hnt, hgw, hgb, Int.reduceLE, Int.reduceLT, sevalprocAttr, String.reduceEq]
            refine guardR_may (by simp (dsimp := false) only [push_cast, hP, hnt, hgw, hgb, Int.reduceLE, Int.reduceLT, sevalprocAttr, String.reduceEq, List.getElem?_cons_zero, List.getElem?_cons_succ]; rfl) ?_
            simp (dsimp := false) only [push_cast, hP, hnt, hgw, hgb, Int.reduceLE, Int.reduceLT, sevalprocAttr, String.reduceEq]
            refine guardR_may (by simp (dsimp := false) only [push_cast, hP, hnt, hgw, hgb, Int.reduceLE, Int.reduceLT, sevalprocAttr, String.reduceEq, List.getElem?_cons_zero, List.getElem?_cons_succ]; rfl) ?_
            simp (dsimp := false) only [push_cast, hP, hnt, hgw, hgb, Int.reduceLE, Int.reduceLT, sevalprocAttr, String.reduceEq]
            refine guardR_may (by simp (dsimp := false) only [push_cast, hP, hnt, hgw, hgb, Int.reduceLE, Int.reduceLT, sevalprocAttr, String.reduceEq, List.getElem?_cons_zero, List.getElem?_cons_succ]; rfl) ?_
            simp (dsimp := false) only [push_cast, hP, hnt, hgw, hgb, Int.reduceLE, Int.reduceLT, sevalprocAttr, String.reduceEq]
            refine guardR_may (by simp (dsimp := false) only [push_cast, hP, hnt, hgw, hgb, Int.reduceLE, Int.reduceLT, sevalprocAttr, String.reduceEq, List.getElem?_cons_zero, List.getElem?_cons_succ]; rfl) ?_
            simp (dsimp := false) only [push_cast, hP, hnt, hgw, hgb, Int.reduceLE, Int.reduceLT, sevalprocAttr, String.reduceEq]
            refine hK _ ?_; clear hK
            refine vwp_cond (b := _) (by simp (dsimp := false) only [push_cast, hP, hnt, hgw, hgb, Int.reduceLE, Int.reduceLT, sevalprocAttr, String.reduceEq]; rfl) (fun rb9 => ?_) (fun rb9 => ?_)
            · have hb9 := rb9
              try simp only [beq_iff_eq, bne_iff_ne, ne_eq, bne_eq_false_iff_eq, beq_eq_false_iff_ne, decide_eq_true_eq, decide_eq_false_iff_not, Bool.not_eq_true', Bool.not_eq_false', Bool.or_eq_true, Bool.and_eq_true, Bool.or_eq_false_iff, Bool.and_eq_false_iff] at hb9
              refine vwp_seq_region rfl fun K hK => ?_
              simp (dsimp := false) only [push_cast, hP, hnt, hgw, hgb, Int.reduceLE, Int.reduceLT, sevalprocAttr, String.reduceEq]
              refine hK _ ?_; clear hK
              refine vwp_ret ?_
              refine ret_free (by simp (dsimp := false) only [push_cast, hP, hnt, hgw, hgb, Int.reduceLE, Int.reduceLT, sevalprocAttr, String.reduceEq]; rfl) (by simp (dsimp := false) only [push_cast, hP, hnt, hgw, hgb, Int.reduceLE, Int.reduceLT, sevalprocAttr, String.reduceEq]) ?_
              first | (simp only [pack, refCheckF, nPrefix, nPhases, nm0, nm1, nm2, nm3, nm4, nm5, rb0, rb2, rb4, rb6, rb8, rb9, if_true, if_false, Bool.false_eq_true, reduceIte]; done) | (simp only [pack, refCheckF, nPrefix, nPhases, nm0, nm1, nm2, nm3, nm4, nm5, hb0, hb2, hb4, hb6, hb8, hb9, if_true, if_false, ne_eq, not_true_eq_false, not_false_eq_true, true_or, or_true, or_self, ite_self, Bool.true_eq_false, Bool.false_eq_true, or_false, false_or]; done) | (subst_vars; simp only [pack, refCheckF, nPrefix, nPhases, nm0, nm1, nm2, nm3, nm4, nm5, *, if_true, if_false, ne_eq, not_true_eq_false, not_false_eq_true, true_or, or_true, or_self, ite_self, Bool.true_eq_false, Bool.false_eq_true, or_false, false_or]; done) | (simp [pack, refCheckF, nPrefix, nPhases, nm0, nm1, nm2, nm3, nm4, nm5, hb0, hb2, hb4, hb6, hb8, hb9] <;> omega)
            · have hb9 := rb9
              try simp only [beq_iff_eq, bne_iff_ne, ne_eq, bne_eq_false_iff_eq, beq_eq_false_iff_ne, decide_eq_true_eq, decide_eq_false_iff_not, Bool.not_eq_true', Bool.not_eq_false', Bool.or_eq_true, Bool.and_eq_true, Bool.or_eq_false_iff, Bool.and_eq_false_iff] at hb9
              refine vwp_skip ?_
              apply_assumption
              refine vwp_seq_region rfl fun K hK => ?_
              simp (dsimp := false) only [push_cast, hP, hnt, hgw, hgb, Int.reduceLE, Int.reduceLT, sevalprocAttr, String.reduceEq]
              refine hK _ ?_; clear hK
              refine vwp_ret ?_
              refine ret_free (by simp (dsimp := false) only [push_cast, hP, hnt, hgw, hgb, Int.reduceLE, Int.reduceLT, sevalprocAttr, String.reduceEq]; rfl) (by simp (dsimp := false) only [push_cast, hP, hnt, hgw, hgb, Int.reduceLE, Int.reduceLT, sevalprocAttr, String.reduceEq]) ?_
              first | (simp only [pack, refCheckF, nPrefix, nPhases, nm0, nm1, nm2, nm3, nm4, nm5, rb0, rb2, rb4, rb6, rb8, rb9, if_true, if_false, Bool.false_eq_true, reduceIte]; done) | (simp only [pack, refCheckF, nPrefix, nPhases, nm0, nm1, nm2, nm3, nm4, nm5, hb0, hb2, hb4, hb6, hb8, hb9, if_true, if_false, ne_eq, not_true_eq_false, not_false_eq_true, true_or, or_true, or_self, ite_self, Bool.true_eq_false, Bool.false_eq_true, or_false, false_or]; done) | (subst_vars; simp only [pack, refCheckF, nPrefix, nPhases, nm0, nm1, nm2, nm3, nm4, nm5, *, if_true, if_false, ne_eq, not_true_eq_false, not_false_eq_true, true_or, or_true, or_self, ite_self, Bool.true_eq_false, Bool.false_eq_true, or_false, false_or]; done) | (simp [pack, refCheckF, nPrefix, nPhases, nm0, nm1, nm2, nm3, nm4, nm5, hb0, hb2, hb4, hb6, hb8, hb9] <;> omega)
          · have hb8 := rb8
            try simp only [beq_iff_eq, bne_iff_ne, ne_eq, bne_eq_false_iff_eq, beq_eq_false_iff_ne, decide_eq_true_eq, decide_eq_false_iff_not, Bool.not_eq_true', Bool.not_eq_false', Bool.or_eq_true, Bool.and_eq_true, Bool.or_eq_false_iff, Bool.and_eq_false_iff] at hb8
            refine vwp_region rfl ?_
            simp (dsimp := false) only [push_cast, hP, hnt, hgw, hgb, Int.reduceLE, Int.reduceLT, sevalprocAttr, String.reduceEq]
            apply_assumption
            refine vwp_cond (b := _) (by simp (dsimp := false) only [push_cast, hP, hnt, hgw, hgb, Int.reduceLE, Int.reduceLT, sevalprocAttr, String.reduceEq]; rfl) (fun rb10 => ?_) (fun rb10 => ?_)
            · have hb10 := rb10
              try simp only [beq_iff_eq, bne_iff_ne, ne_eq, bne_eq_false_iff_eq, beq_eq_false_iff_ne, decide_eq_true_eq, decide_eq_false_iff_not, Bool.not_eq_true', Bool.not_eq_false', Bool.or_eq_true, Bool.and_eq_true, Bool.or_eq_false_iff, Bool.and_eq_false_iff] at hb10
              refine vwp_skip ?_
              apply_assumption
              refine vwp_seq fun K hK => ?_
              refine vwp_seq_regionG fun K hK => ?_
              simp (dsimp := false) only [push_cast, hP, hnt, hgw, hgb, Int.reduceLE, Int.reduceLT, sevalprocAttr, String.reduceEq]
              refine guardR_may (by simp (dsimp := false) only [push_cast, hP, hnt, hgw, hgb, Int.reduceLE, Int.reduceLT, sevalprocAttr, String.reduceEq, List.getElem?_cons_zero, List.getElem?_cons_succ]; rfl) ?_
              simp (dsimp := false) only [push_cast, hP, hnt, hgw, hgb, Int.reduceLE, Int.reduceLT, sevalprocAttr, String.reduceEq]
              refine guardR_may (by simp (dsimp := false) only [push_cast, hP, hnt, hgw, hgb, Int.reduceLE, Int.reduceLT, sevalprocAttr, String.reduceEq, List.getElem?_cons_zero, List.getElem?_cons_succ]; rfl) ?_
              simp (dsimp := false) only [push_cast, hP, hnt, hgw, hgb, Int.reduceLE, Int.reduceLT, sevalprocAttr, String.reduceEq]
              refine guardR_may (by simp (dsimp := false) only [push_cast, hP, hnt, hgw, hgb, Int.reduceLE, Int.reduceLT, sevalprocAttr, String.reduceEq, List.getElem?_cons_zero, List.getElem?_cons_succ]; rfl) ?_
              simp (dsimp := false) only [push_cast, hP, hnt, hgw, hgb, Int.reduceLE, Int.reduceLT, sevalprocAttr, String.reduceEq]
              refine guardR_may (by simp (dsimp := false) only [push_cast, hP, hnt, hgw, hgb, Int.reduceLE, Int.reduceLT, sevalprocAttr, String.reduceEq, List.getElem?_cons_zero, List.getElem?_cons_succ]; rfl) ?_
              simp (dsimp := false) only [push_cast, hP, hnt, hgw, hgb, Int.reduceLE, Int.reduceLT, sevalprocAttr, String.reduceEq]
              refine hK _ ?_; clear hK
              refine vwp_cond (b := _) (by simp (dsimp := false) only [push_cast, hP, hnt, hgw, hgb, Int.reduceLE, Int.reduceLT, sevalprocAttr, String.reduceEq]; rfl) (fun rb11 => ?_) (fun rb11 => ?_)
              · have hb11 := rb11
                try simp only [beq_iff_eq, bne_iff_ne, ne_eq, bne_eq_false_iff_eq, beq_eq_false_iff_ne, decide_eq_true_eq, decide_eq_false_iff_not, Bool.not_eq_true', Bool.not_eq_false', Bool.or_eq_true, Bool.and_eq_true, Bool.or_eq_false_iff, Bool.and_eq_false_iff] at hb11
                refine vwp_seq_region rfl fun K hK => ?_
                simp (dsimp := false) only [push_cast, hP, hnt, hgw, hgb, Int.reduceLE, Int.reduceLT, sevalprocAttr, String.reduceEq]
                refine hK _ ?_; clear hK
                refine vwp_ret ?_
                refine ret_free (by simp (dsimp := false) only [push_cast, hP, hnt, hgw, hgb, Int.reduceLE, Int.reduceLT, sevalprocAttr, String.reduceEq]; rfl) (by simp (dsimp := false) only [push_cast, hP, hnt, hgw, hgb, Int.reduceLE, Int.reduceLT, sevalprocAttr, String.reduceEq]) ?_
                first | (simp only [pack, refCheckF, nPrefix, nPhases, nm0, nm1, nm2, nm3, nm4, nm5, rb0, rb2, rb4, rb6, rb8, rb10, rb11, if_true, if_false, Bool.false_eq_true, reduceIte]; done) | (simp only [pack, refCheckF, nPrefix, nPhases, nm0, nm1, nm2, nm3, nm4, nm5, hb0, hb2, hb4, hb6, hb8, hb10, hb11, if_true, if_false, ne_eq, not_true_eq_false, not_false_eq_true, true_or, or_true, or_self, ite_self, Bool.true_eq_false, Bool.false_eq_true, or_false, false_or]; done) | (subst_vars; simp only [pack, refCheckF, nPrefix, nPhases, nm0, nm1, nm2, nm3, nm4, nm5, *, if_true, if_false, ne_eq, not_true_eq_false, not_false_eq_true, true_or, or_true, or_self, ite_self, Bool.true_eq_false, Bool.false_eq_true, or_false, false_or]; done) | (simp [pack, refCheckF, nPrefix, nPhases, nm0, nm1, nm2, nm3, nm4, nm5, hb0, hb2, hb4, hb6, hb8, hb10, hb11] <;> omega)
              · have hb11 := rb11
                try simp only [beq_iff_eq, bne_iff_ne, ne_eq, bne_eq_false_iff_eq, beq_eq_false_iff_ne, decide_eq_true_eq, decide_eq_false_iff_not, Bool.not_eq_true', Bool.not_eq_false', Bool.or_eq_true, Bool.and_eq_true, Bool.or_eq_false_iff, Bool.and_eq_false_iff] at hb11
                refine vwp_skip ?_
                apply_assumption
                refine vwp_seq_region rfl fun K hK => ?_
                simp (dsimp := false) only [push_cast, hP, hnt, hgw, hgb, Int.reduceLE, Int.reduceLT, sevalprocAttr, String.reduceEq]
                refine hK _ ?_; clear hK
                refine vwp_ret ?_
                refine ret_free (by simp (dsimp := false) only [push_cast, hP, hnt, hgw, hgb, Int.reduceLE, Int.reduceLT, sevalprocAttr, String.reduceEq]; rfl) (by simp (dsimp := false) only [push_cast, hP, hnt, hgw, hgb, Int.reduceLE, Int.reduceLT, sevalprocAttr, String.reduceEq]) ?_
                first | (simp only [pack, refCheckF, nPrefix, nPhases, nm0, nm1, nm2, nm3, nm4, nm5, rb0, rb2, rb4, rb6, rb8, rb10, rb11, if_true, if_false, Bool.false_eq_true, reduceIte]; done) | (simp only [pack, refCheckF, nPrefix, nPhases, nm0, nm1, nm2, nm3, nm4, nm5, hb0, hb2, hb4, hb6, hb8, hb10, hb11, if_true, if_false, ne_eq, not_true_eq_false, not_false_eq_true, true_or, or_true, or_self, ite_self, Bool.true_eq_false, Bool.false_eq_true, or_false, false_or]; done) | (subst_vars; simp only [pack, refCheckF, nPrefix, nPhases, nm0, nm1, nm2, nm3, nm4, nm5, *, if_true, if_false, ne_eq, not_true_eq_false, not_false_eq_true, true_or, or_true, or_self, ite_self, Bool.true_eq_false, Bool.false_eq_true, or_false, false_or]; done) | (simp [pack, refCheckF, nPrefix, nPhases, nm0, nm1, nm2, nm3, nm4, nm5, hb0, hb2, hb4, hb6, hb8, hb10, hb11] <;> omega)
            · have hb10 := rb10
              try simp only [beq_iff_eq, bne_iff_ne, ne_eq, bne_eq_false_iff_eq, beq_eq_false_iff_ne, decide_eq_true_eq, decide_eq_false_iff_not, Bool.not_eq_true', Bool.not_eq_false', Bool.or_eq_true, Bool.and_eq_true, Bool.or_eq_false_iff, Bool.and_eq_false_iff] at hb10
              refine vwp_seq_region rfl fun K hK => ?_
              simp (dsimp := false) only [push_cast, hP, hnt, hgw, hgb, Int.reduceLE, Int.reduceLT, sevalprocAttr, String.reduceEq]
              refine hK _ ?_; clear hK
              refine vwp_cond (b := _) (by simp (dsimp := false) only [push_cast, hP, hnt, hgw, hgb, Int.reduceLE, Int.reduceLT, sevalprocAttr, String.reduceEq]; rfl) (fun rb12 => ?_) (fun rb12 => ?_)
              · have hb12 := rb12
                try simp only [beq_iff_eq, bne_iff_ne, ne_eq, bne_eq_false_iff_eq, beq_eq_false_iff_ne, decide_eq_true_eq, decide_eq_false_iff_not, Bool.not_eq_true', Bool.not_eq_false', Bool.or_eq_true, Bool.and_eq_true, Bool.or_eq_false_iff, Bool.and_eq_false_iff] at hb12
                refine vwp_region rfl ?_
                simp (dsimp := false) only [push_cast, hP, hnt, hgw, hgb, Int.reduceLE, Int.reduceLT, sevalprocAttr, String.reduceEq]
                apply_assumption
                refine vwp_seq fun K hK => ?_
                refine vwp_seq_regionG fun K hK => ?_
                simp (dsimp := false) only [push_cast, hP, hnt, hgw, hgb, Int.reduceLE, Int.reduceLT, sevalprocAttr, String.reduceEq]
                refine guardR_may (by simp (dsimp := false) only [push_cast, hP, hnt, hgw, hgb, Int.reduceLE, Int.reduceLT, sevalprocAttr, String.reduceEq, List.getElem?_cons_zero, List.getElem?_cons_succ]; rfl) ?_
                simp (dsimp := false) only [push_cast, hP, hnt, hgw, hgb, Int.reduceLE, Int.reduceLT, sevalprocAttr, String.reduceEq]
                refine guardR_may (by simp (dsimp := false) only [push_cast, hP, hnt, hgw, hgb, Int.reduceLE, Int.reduceLT, sevalprocAttr, String.reduceEq, List.getElem?_cons_zero, List.getElem?_cons_succ]; rfl) ?_
                simp (dsimp := false) only [push_cast, hP, hnt, hgw, hgb, Int.reduceLE, Int.reduceLT, sevalprocAttr, String.reduceEq]
                refine guardR_may (by simp (dsimp := false) only [push_cast, hP, hnt, hgw, hgb, Int.reduceLE, Int.reduceLT, sevalprocAttr, String.reduceEq, List.getElem?_cons_zero, List.getElem?_cons_succ]; rfl) ?_
                simp (dsimp := false) only [push_cast, hP, hnt, hgw, hgb, Int.reduceLE, Int.reduceLT, sevalprocAttr, String.reduceEq]
                refine guardR_may (by simp (dsimp := false) only [push_cast, hP, hnt, hgw, hgb, Int.reduceLE, Int.reduceLT, sevalprocAttr, String.reduceEq, List.getElem?_cons_zero, List.getElem?_cons_succ]; rfl) ?_
                simp (dsimp := false) only [push_cast, hP, hnt, hgw, hgb, Int.reduceLE, Int.reduceLT, sevalprocAttr, String.reduceEq]
                refine hK _ ?_; clear hK
                refine vwp_cond (b := _) (by simp (dsimp := false) only [push_cast, hP, hnt, hgw, hgb, Int.reduceLE, Int.reduceLT, sevalprocAttr, String.reduceEq]; rfl) (fun rb13 => ?_) (fun rb13 => ?_)
                · have hb13 := rb13
                  try simp only [beq_iff_eq, bne_iff_ne, ne_eq, bne_eq_false_iff_eq, beq_eq_false_iff_ne, decide_eq_true_eq, decide_eq_false_iff_not, Bool.not_eq_true', Bool.not_eq_false', Bool.or_eq_true, Bool.and_eq_true, Bool.or_eq_false_iff, Bool.and_eq_false_iff] at hb13
                  refine vwp_seq_region rfl fun K hK => ?_
                  simp (dsimp := false) only [push_cast, hP, hnt, hgw, hgb, Int.reduceLE, Int.reduceLT, sevalprocAttr, String.reduceEq]
                  refine hK _ ?_; clear hK
                  refine vwp_ret ?_
                  refine ret_free (by simp (dsimp := false) only [push_cast, hP, hnt, hgw, hgb, Int.reduceLE, Int.reduceLT, sevalprocAttr, String.reduceEq]; rfl) (by simp (dsimp := false) only [push_cast, hP, hnt, hgw, hgb, Int.reduceLE, Int.reduceLT, sevalprocAttr, String.reduceEq]) ?_
                  first | (simp only [pack, refCheckF, nPrefix, nPhases, nm0, nm1, nm2, nm3, nm4, nm5, rb0, rb2, rb4, rb6, rb8, rb10, rb12, rb13, if_true, if_false, Bool.false_eq_true, reduceIte]; done) | (simp only [pack, refCheckF, nPrefix, nPhases, nm0, nm1, nm2, nm3, nm4, nm5, hb0, hb2, hb4, hb6, hb8, hb10, hb12, hb13, if_true, if_false, ne_eq, not_true_eq_false, not_false_eq_true, true_or, or_true, or_self, ite_self, Bool.true_eq_false, Bool.false_eq_true, or_false, false_or]; done) | (subst_vars; simp only [pack, refCheckF, nPrefix, nPhases, nm0, nm1, nm2, nm3, nm4, nm5, *, if_true, if_false, ne_eq, not_true_eq_false, not_false_eq_true, true_or, or_true, or_self, ite_self, Bool.true_eq_false, Bool.false_eq_true, or_false, false_or]; done) | (simp [pack, refCheckF, nPrefix, nPhases, nm0, nm1, nm2, nm3, nm4, nm5, hb0, hb2, hb4, hb6, hb8, hb10, hb12, hb13] <;> omega)
                · have hb13 := rb13
                  try simp only [beq_iff_eq, bne_iff_ne, ne_eq, bne_eq_false_iff_eq, beq_eq_false_iff_ne, decide_eq_true_eq, decide_eq_false_iff_not, Bool.not_eq_true', Bool.not_eq_false', Bool.or_eq_true, Bool.and_eq_true, Bool.or_eq_false_iff, Bool.and_eq_false_iff] at hb13
                  refine vwp_skip ?_
                  apply_assumption
                  refine vwp_seq_region rfl fun K hK => ?_
                  simp (dsimp := false) only [push_cast, hP, hnt, hgw, hgb, Int.reduceLE, Int.reduceLT, sevalprocAttr, String.reduceEq]
                  refine hK _ ?_; clear hK
                  refine vwp_ret ?_
                  refine ret_free (by simp (dsimp := false) only [push_cast, hP, hnt, hgw, hgb, Int.reduceLE, Int.reduceLT, sevalprocAttr, String.reduceEq]; rfl) (by simp (dsimp := false) only [push_cast, hP, hnt, hgw, hgb, Int.reduceLE, Int.reduceLT, sevalprocAttr, String.reduceEq]) ?_
                  first | (simp only [pack, refCheckF, nPrefix, nPhases, nm0, nm1, nm2, nm3, nm4, nm5, rb0, rb2, rb4, rb6, rb8, rb10, rb12, rb13, if_true, if_false, Bool.false_eq_true, reduceIte]; done) | (simp only [pack, refCheckF, nPrefix, nPhases, nm0, nm1, nm2, nm3, nm4, nm5, hb0, hb2, hb4, hb6, hb8, hb10, hb12, hb13, if_true, if_false, ne_eq, not_true_eq_false, not_false_eq_true, true_or, or_true, or_self, ite_self, Bool.true_eq_false, Bool.false_eq_true, or_false, false_or]; done) | (subst_vars; simp only [pack, refCheckF, nPrefix, nPhases, nm0, nm1, nm2, nm3, nm4, nm5, *, if_true, if_false, ne_eq, not_true_eq_false, not_false_eq_true, true_or, or_true, or_self, ite_self, Bool.true_eq_false, Bool.false_eq_true, or_false, false_or]; done) | (simp [pack, refCheckF, nPrefix, nPhases, nm0, nm1, nm2, nm3, nm4, nm5, hb0, hb2, hb4, hb6, hb8, hb10, hb12, hb13] <;> omega)
              · have hb12 := rb12
                try simp only [beq_iff_eq, bne_iff_ne, ne_eq, bne_eq_false_iff_eq, beq_eq_false_iff_ne, decide_eq_true_eq, decide_eq_false_iff_not, Bool.not_eq_true', Bool.not_eq_false', Bool.or_eq_true, Bool.and_eq_true, Bool.or_eq_false_iff, Bool.and_eq_false_iff] at hb12
                refine vwp_seq_region rfl fun K hK => ?_
                simp (dsimp := false) only [push_cast, hP, hnt, hgw, hgb, Int.reduceLE, Int.reduceLT, sevalprocAttr, String.reduceEq]
                refine hK _ ?_; clear hK
                refine vwp_cond (b := _) (by simp (dsimp := false) only [push_cast, hP, hnt, hgw, hgb, Int.reduceLE, Int.reduceLT, sevalprocAttr, String.reduceEq]; rfl) (fun rb14 => ?_) (fun rb14 => ?_)
                · have hb14 := rb14
                  try simp only [beq_iff_eq, bne_iff_ne, ne_eq, bne_eq_false_iff_eq, beq_eq_false_iff_ne, decide_eq_true_eq, decide_eq_false_iff_not, Bool.not_eq_true', Bool.not_eq_false', Bool.or_eq_true, Bool.and_eq_true, Bool.or_eq_false_iff, Bool.and_eq_false_iff] at hb14
                  refine vwp_region rfl ?_
                  simp (dsimp := false) only [push_cast, hP, hnt, hgw, hgb, Int.reduceLE, Int.reduceLT, sevalprocAttr, String.reduceEq]
                  apply_assumption
                  refine vwp_seq fun K hK => ?_
                  refine vwp_seq_regionG fun K hK => ?_
                  simp (dsimp := false) only [push_cast, hP, hnt, hgw, hgb, Int.reduceLE, Int.reduceLT, sevalprocAttr, String.reduceEq]
                  refine guardR_may (by simp (dsimp := false) only [push_cast, hP, hnt, hgw, hgb, Int.reduceLE, Int.reduceLT, sevalprocAttr, String.reduceEq, List.getElem?_cons_zero, List.getElem?_cons_succ]; rfl) ?_
                  simp (dsimp := false) only [push_cast, hP, hnt, hgw, hgb, Int.reduceLE, Int.reduceLT, sevalprocAttr, String.reduceEq]
                  refine guardR_may (by simp (dsimp := false) only [push_cast, hP, hnt, hgw, hgb, Int.reduceLE, Int.reduceLT, sevalprocAttr, String.reduceEq, List.getElem?_cons_zero, List.getElem?_cons_succ]; rfl) ?_
                  simp (dsimp := false) only [push_cast, hP, hnt, hgw, hgb, Int.reduceLE, Int.reduceLT, sevalprocAttr, String.reduceEq]
                  refine guardR_may (by simp (dsimp := false) only [push_cast, hP, hnt, hgw, hgb, Int.reduceLE, Int.reduceLT, sevalprocAttr, String.reduceEq, List.getElem?_cons_zero, List.getElem?_cons_succ]; rfl) ?_
                  simp (dsimp := false) only [push_cast, hP, hnt, hgw, hgb, Int.reduceLE, Int.reduceLT, sevalprocAttr, String.reduceEq]
                  refine guardR_may (by simp (dsimp := false) only [push_cast, hP, hnt, hgw, hgb, Int.reduceLE, Int.reduceLT, sevalprocAttr, String.reduceEq, List.getElem?_cons_zero, List.getElem?_cons_succ]; rfl) ?_
                  simp (dsimp := false) only [push_cast, hP, hnt, hgw, hgb, Int.reduceLE, Int.reduceLT, sevalprocAttr, String.reduceEq]
                  refine hK _ ?_; clear hK
                  refine vwp_cond (b := _) (by simp (dsimp := false) only [push_cast, hP, hnt, hgw, hgb, Int.reduceLE, Int.reduceLT, sevalprocAttr, String.reduceEq]; rfl) (fun rb15 => ?_) (fun rb15 => ?_)
                  · have hb15 := rb15
                    try simp only [beq_iff_eq, bne_iff_ne, ne_eq, bne_eq_false_iff_eq, beq_eq_false_iff_ne, decide_eq_true_eq, decide_eq_false_iff_not, Bool.not_eq_true', Bool.not_eq_false', Bool.or_eq_true, Bool.and_eq_true, Bool.or_eq_false_iff, Bool.and_eq_false_iff] at hb15
                    refine vwp_seq_region rfl fun K hK => ?_
                    simp (dsimp := false) only [push_cast, hP, hnt, hgw, hgb, Int.reduceLE, Int.reduceLT, sevalprocAttr, String.reduceEq]
                    refine hK _ ?_; clear hK
                    refine vwp_ret ?_
                    refine ret_free (by simp (dsimp := false) only [push_cast, hP, hnt, hgw, hgb, Int.reduceLE, Int.reduceLT, sevalprocAttr, String.reduceEq]; rfl) (by simp (dsimp := false) only [push_cast, hP, hnt, hgw, hgb, Int.reduceLE, Int.reduceLT, sevalprocAttr, String.reduceEq]) ?_
                    first | (simp only [pack, refCheckF, nPrefix, nPhases, nm0, nm1, nm2, nm3, nm4, nm5, rb0, rb2, rb4, rb6, rb8, rb10, rb12, rb14, rb15, if_true, if_false, Bool.false_eq_true, reduceIte]; done) | (simp only [pack, refCheckF, nPrefix, nPhases, nm0, nm1, nm2, nm3, nm4, nm5, hb0, hb2, hb4, hb6, hb8, hb10, hb12, hb14, hb15, if_true, if_false, ne_eq, not_true_eq_false, not_false_eq_true, true_or, or_true, or_self, ite_self, Bool.true_eq_false, Bool.false_eq_true, or_false, false_or]; done) | (subst_vars; simp only [pack, refCheckF, nPrefix, nPhases, nm0, nm1, nm2, nm3, nm4, nm5, *, if_true, if_false, ne_eq, not_true_eq_false, not_false_eq_true, true_or, or_true, or_self, ite_self, Bool.true_eq_false, Bool.false_eq_true, or_false, false_or]; done) | (simp [pack, refCheckF, nPrefix, nPhases, nm0, nm1, nm2, nm3, nm4, nm5, hb0, hb2, hb4, hb6, hb8, hb10, hb12, hb14, hb15] <;> omega)
                  · have hb15 := rb15
                    try simp only [beq_iff_eq, bne_iff_ne, ne_eq, bne_eq_false_iff_eq, beq_eq_false_iff_ne, decide_eq_true_eq, decide_eq_false_iff_not, Bool.not_eq_true', Bool.not_eq_false', Bool.or_eq_true, Bool.and_eq_true, Bool.or_eq_false_iff, Bool.and_eq_false_iff] at hb15
                    refine vwp_skip ?_
                    apply_assumption
                    refine vwp_seq_region rfl fun K hK => ?_
                    simp (dsimp := false) only [push_cast, hP, hnt, hgw, hgb, Int.reduceLE, Int.reduceLT, sevalprocAttr, String.reduceEq]
                    refine hK _ ?_; clear hK
                    refine vwp_ret ?_
                    refine ret_free (by simp (dsimp := false) only [push_cast, hP, hnt, hgw, hgb, Int.reduceLE, Int.reduceLT, sevalprocAttr, String.reduceEq]; rfl) (by simp (dsimp := false) only [push_cast, hP, hnt, hgw, hgb, Int.reduceLE, Int.reduceLT, sevalprocAttr, String.reduceEq]) ?_
                    first | (simp only [pack, refCheckF, nPrefix, nPhases, nm0, nm1, nm2, nm3, nm4, nm5, rb0, rb2, rb4, rb6, rb8, rb10, rb12, rb14, rb15, if_true, if_false, Bool.false_eq_true, reduceIte]; done) | (simp only [pack, refCheckF, nPrefix, nPhases, nm0, nm1, nm2, nm3, nm4, nm5, hb0, hb2, hb4, hb6, hb8, hb10, hb12, hb14, hb15, if_true, if_false, ne_eq, not_true_eq_false, not_false_eq_true, true_or, or_true, or_self, ite_self, Bool.true_eq_false, Bool.false_eq_true, or_false, false_or]; done) | (subst_vars; simp only [pack, refCheckF, nPrefix, nPhases, nm0, nm1, nm2, nm3, nm4, nm5, *, if_true, if_false, ne_eq, not_true_eq_false, not_false_eq_true, true_or, or_true, or_self, ite_self, Bool.true_eq_false, Bool.false_eq_true, or_false, false_or]; done) | (simp [pack, refCheckF, nPrefix, nPhases, nm0, nm1, nm2, nm3, nm4, nm5, hb0, hb2, hb4, hb6, hb8, hb10, hb12, hb14, hb15] <;> omega)
                · have hb14 := rb14
                  try simp only [beq_iff_eq, bne_iff_ne, ne_eq, bne_eq_false_iff_eq, beq_eq_false_iff_ne, decide_eq_true_eq, decide_eq_false_iff_not, Bool.not_eq_true', Bool.not_eq_false', Bool.or_eq_true, Bool.and_eq_true, Bool.or_eq_false_iff, Bool.and_eq_false_iff] at hb14
                  refine vwp_seq_region rfl fun K hK => ?_
                  simp (dsimp := false) only [push_cast, hP, hnt, hgw, hgb, Int.reduceLE, Int.reduceLT, sevalprocAttr, String.reduceEq]
                  refine hK _ ?_; clear hK
                  refine vwp_ret ?_
                  refine ret_free (by simp (dsimp := false) only [push_cast, hP, hnt, hgw, hgb, Int.reduceLE, Int.reduceLT, sevalprocAttr, String.reduceEq]; rfl) (by simp (dsimp := false) only [push_cast, hP, hnt, hgw, hgb, Int.reduceLE, Int.reduceLT, sevalprocAttr, String.reduceEq]) ?_
                  first | (simp only [pack, refCheckF, nPrefix, nPhases, nm0, nm1, nm2, nm3, nm4, nm5, rb0, rb2, rb4, rb6, rb8, rb10, rb12, rb14, if_true, if_false, Bool.false_eq_true, reduceIte]; done) | (simp only [pack, refCheckF, nPrefix, nPhases, nm0, nm1, nm2, nm3, nm4, nm5, hb0, hb2, hb4, hb6, hb8, hb10, hb12, hb14, if_true, if_false, ne_eq, not_true_eq_false, not_false_eq_true, true_or, or_true, or_self, ite_self, Bool.true_eq_false, Bool.false_eq_true, or_false, false_or]; done) | (subst_vars; simp only [pack, refCheckF, nPrefix, nPhases, nm0, nm1, nm2, nm3, nm4, nm5, *, if_true, if_false, ne_eq, not_true_eq_false, not_false_eq_true, true_or, or_true, or_self, ite_self, Bool.true_eq_false, Bool.false_eq_true, or_false, false_or]; done) | (simp [pack, refCheckF, nPrefix, nPhases, nm0, nm1, nm2, nm3, nm4, nm5, hb0, hb2, hb4, hb6, hb8, hb10, hb12, hb14] <;> omega)
end Go.Vm
end

section
namespace Go.Vm
open Go Go.RowKit Go.Proofs
set_option maxRecDepth 100000
set_option linter.unusedSimpArgs false
set_option linter.unusedVariables false
set_option maxHeartbeats 4000000

theorem bytes_ext {a b : ByteArray} (h : a.toList = b.toList) : a = b := by
  rw [ByteArray.toList_eq, ByteArray.toList_eq] at h
  obtain ⟨a⟩ := a
  obtain ⟨b⟩ := b
  congr 1
  exact Array.toList_inj.1 h
def refPairs : List (ByteArray × Int) := names8.flatMap fun n => [(n, 0), (n, 1), (n, 2), (n, 3), (n, 4), (n, 5), (n, 6), (n, 7), (n, 8), (n, 9)]
end Go.Vm
end

section
namespace Go.Vm
open Go Go.RowKit Go.Proofs
set_option maxRecDepth 100000
set_option linter.unusedSimpArgs false
set_option linter.unusedVariables false
set_option maxHeartbeats 4000000

structure Glob (gw : World) : Prop where
  pow10 : Lib.TabIs Tryz.prog gw "internal/strconv.uint64pow10" .u64 Lib.pow10Tab
  maxlen : ∃ m, gw.cell? ⟨0, 0, none⟩ = some (.int .i64 m)
  esyn : ∃ tp p, gw.var? Tryz.prog "strconv.ErrSyntax" = some #[.iface tp p]
  erange : ∃ tp p, gw.var? Tryz.prog "strconv.ErrRange" = some #[.iface tp p]

theorem var_alike {gw w : World} (ha : Alike gw gw.heap.size w) {name : String} {cs : Array Value} (h : gw.var? Tryz.prog name = some cs) : w.var? Tryz.prog name = some cs := by
  unfold World.var? at h ⊢
  obtain ⟨g, hg, hc⟩ := Option.bind_eq_some_iff.1 h
  rw [hg, Option.bind_some]
  have hlt : g < gw.heap.size := by
    apply Classical.byContradiction
    intro hge
    rw [Array.getElem?_eq_none (by omega)] at hc
    cases hc
  rw [ha.2 g hlt]
  exact hc

theorem cell_alike {gw w : World} (ha : Alike gw gw.heap.size w) {a : Addr} {v : Value} (h : gw.cell? a = some v) : w.cell? a = some v := by
  have hlt : a.block < gw.heap.size := by
    apply Classical.byContradiction
    intro hge
    unfold World.cell? at h
    rw [Array.getElem?_eq_none (by omega)] at h
    cases h
  rw [World.cell?_of_block (ha.2 a.block hlt)]
  exact h

def atoiV (t : ByteArray) : Int :=
  match Lib.atoiAll t.data.toList with
  | .ok v => v
  | .range => Lib.atoiSat t.data.toList
  | _ => 0
def atoiE (t : ByteArray) : PC :=
  match Lib.atoiAll t.data.toList with
  | .ok _ => .c .nilIface
  | _ => .ifc

theorem atoi_call (gw : World) (hg : Glob gw) (t : ByteArray) (ht : t.size ≤ 1000000) : VCall Tryz.prog gw gw.heap.size 58 [.one (.c (.string t))] (.tup [.one (.c (.int .i64 (atoiV t))), .one (atoiE t)]) [] := by
  refine vcall_plain (callable_of Tryz.func58 rfl rfl) [.string t] _ fun w hw => ?_
  unfold atoiV atoiE
  cases h : Lib.atoiAll t.data.toList with
  | ok v =>
    refine (Tryz.strconv_Atoi_ok t (by omega) v h w).mono fun e w' ⟨he, hb⟩ => ⟨_, he, ?_, fun F => ?_⟩
    · rcases hb with rfl | ⟨t', rfl⟩
      · exact Below.refl _ _
      · exact ⟨rfl, rfl, rfl, by rw [Lib.bytesWorld_size]; omega, fun k hk => Lib.bytesWorld_at_old w 5 t' k hk⟩
    · simp only [repV, repVs, rep]
      exact ⟨_, rfl, _, _, rfl, ⟨rfl, rfl⟩, _, _, rfl, ⟨rfl, rfl⟩, rfl⟩
  | range =>
    obtain ⟨tp, p, hv⟩ := hg.erange
    refine (Tryz.strconv_Atoi_range_var t (by omega) h tp p w (var_alike hw hv)).mono fun e w' ⟨N, he, _, _, hb⟩ => ⟨_, he, hb, fun F => ?_⟩
    simp only [repV, repVs, rep]
    exact ⟨_, rfl, _, _, rfl, ⟨rfl, rfl⟩, _, _, rfl, ⟨_, _, rfl⟩, rfl⟩
  | _ =>
    obtain ⟨tp, p, hv⟩ := hg.esyn
    refine (Any.strconv_Atoi_syntax_var Tryz.laysC172 t (by omega) h tp p w (var_alike hw hv)).mono fun e w' ⟨N, he, _, _, hb⟩ => ⟨_, he, hb, fun F => ?_⟩
    simp only [repV, repVs, rep]
    exact ⟨_, rfl, _, _, rfl, ⟨rfl, rfl⟩, _, _, rfl, ⟨_, _, rfl⟩, rfl⟩

theorem atoiE_strict (t : ByteArray) : (PV.tup [.one (.c (.int .i64 (atoiV t))), .one (atoiE t)]).strict = true := by
  have : (atoiE t).strict = true := by unfold atoiE; split <;> rfl
  simp only [PV.strict, PV.stricts, this]; rfl

end Go.Vm
end

section
namespace Go.Vm
open Go Go.RowKit Go.Proofs
set_option maxHeartbeats 2000000
set_option maxRecDepth 100000

theorem builder_size : (Tryz.prog.info? 66).map (·.size) = some 2 := by kernel_rfl
theorem builder_lies : liesAt Tryz.prog Tryz.prog.depth 66 (2 / Tryz.prog.cellsOf 66) 0 66 1 = true := by kernel_rfl

theorem copyCheck_used (b : Nat) (w : World) (h0 : w.cell? ⟨b, 0, none⟩ = some (.pointer (some ⟨b, 0, none⟩))) :
    Calls Tryz.prog 50 #[.pointer (some ⟨b, 0, none⟩)] w fun e w' => e = .returned (.tuple #[]) ∧ w' = w := by
  obtain ⟨j, hj, _⟩ := Option.map_eq_some_iff.1 builder_size
  have mixed : Tryz.prog.follows .mixedOrders = true := by kernel_rfl
  have t92 := Tryz.underlying66; have a92 := Tryz.isAgg66; have z92 := Tryz.sizeOf66; have v92 := Tryz.zeroValue66; have u92 := run_underlying Tryz.underlying66
  have t89 := Tryz.underlying63; have a89 := Tryz.isAgg63; have z89 := Tryz.sizeOf63; have v89 := Tryz.zeroValue63; have u89 := run_underlying Tryz.underlying63
  have t4 := Tryz.underlying4; have a4 := Tryz.isAgg4; have z4 := Tryz.sizeOf4; have v4 := Tryz.zeroValue4; have u4 := run_underlying Tryz.underlying4
  have t142 := Tryz.underlying109; have a142 := Tryz.isAgg109; have z142 := Tryz.sizeOf109; have v142 := Tryz.zeroValue109; have u142 := run_underlying Tryz.underlying109
  go_enter Tryz.func50, Tryz.ntmps50
  go_wp2
  rw [Lib.run_neq_ptr_same w _ t89 hj]
  go_wp2
  go_end0
  exact ⟨rfl, rfl⟩

theorem copyCheck_fresh (b : Nat) (w : World) (h0 : w.cell? ⟨b, 0, none⟩ = some (.pointer none)) (hsh : w.shape? b = some (66, 2)) (hfz : w.frozen? ⟨b, 0, none⟩ = false) :
    Calls Tryz.prog 50 #[.pointer (some ⟨b, 0, none⟩)] w fun e w' => e = .returned (.tuple #[]) ∧ w' = w.setCell ⟨b, 0, none⟩ (.pointer (some ⟨b, 0, none⟩)) := by
  obtain ⟨j, hj, hjs⟩ := Option.map_eq_some_iff.1 builder_size
  have mixed : Tryz.prog.follows .mixedOrders = true := by kernel_rfl
  have t92 := Tryz.underlying66; have a92 := Tryz.isAgg66; have z92 := Tryz.sizeOf66; have v92 := Tryz.zeroValue66; have u92 := run_underlying Tryz.underlying66
  have t89 := Tryz.underlying63; have a89 := Tryz.isAgg63; have z89 := Tryz.sizeOf63; have v89 := Tryz.zeroValue63; have u89 := run_underlying Tryz.underlying63
  have t4 := Tryz.underlying4; have a4 := Tryz.isAgg4; have z4 := Tryz.sizeOf4; have v4 := Tryz.zeroValue4; have u4 := run_underlying Tryz.underlying4
  have t142 := Tryz.underlying109; have a142 := Tryz.isAgg109; have z142 := Tryz.sizeOf109; have v142 := Tryz.zeroValue109; have u142 := run_underlying Tryz.underlying109
  go_enter Tryz.func50, Tryz.ntmps50
  go_wp2
  rw [Lib.run_to_unsafe w ⟨b, 0, none⟩ t89 t142 hj (by rw [hjs]; decide) hsh (Nat.zero_lt_succ 1)]
  simp only [Result.andThen]
  rw [Oper.upon_value]
  go_wp2
  rw [run_callFunc_extern Tryz.func63 (by kernel_rfl) (by kernel_rfl) (by kernel_rfl) (e := Extern.AbiNoEscape.same) (by kernel_rfl)]
  rw [Lib.run_noEscape]
  simp only [Result.andThen]
  rw [Oper.upon_value]
  go_wp2
  rw [Lib.run_from_unsafe w ⟨b, 0, none⟩ t142 t89 hj hsh builder_lies]
  simp only [Result.andThen]
  rw [Oper.upon_value]
  go_wp2
  go_end0
  exact ⟨rfl, rfl⟩
end Go.Vm
end

section
namespace Go.Vm
open Go Go.RowKit Go.Proofs
set_option maxRecDepth 100000
set_option linter.unusedSimpArgs false
set_option linter.unusedVariables false
set_option maxHeartbeats 4000000

def inTo (top n : Int) : Bool := decide (0 ≤ n ∧ n ≤ top)
theorem inTo_true {top n : Int} (h : ¬ (n < 0 ∨ top < n)) : inTo top n = true := by unfold inTo; simp; omega
theorem inTo_false {top n : Int} (h : n < 0 ∨ top < n) : inTo top n = false := by unfold inTo; simp; omega
theorem within_call (gw : World) (gb : Nat) (top : Int) (l : List Int) (hl : l.length ≤ 100000) : VCall Tryz.prog gw (gb) 49 [.one (.c (.int .i64 top)), .one (.sl false l.length (l.map fun n => .c (.int .i64 n)))] (.one (.c (.bool (l.all (inTo top))))) [] := by
  refine vcall_of [.tmp 4] Tryz.func49 rfl rfl Tryz.ntmps49 rfl (by simp) ?_
  intro C hP hnt hgw hgb hfull
  refine vwp_seq_region rfl fun K hK => ?_
  simp (dsimp := false) only [push_cast, hP, hnt, hgw, hgb, sevalprocAttr]
  refine hK _ ?_; clear hK
  refine vwp_seq fun K hK => ?_
  refine vwp_seq_region rfl fun K hK => ?_
  simp (dsimp := false) only [push_cast, hP, hnt, hgw, hgb, sevalprocAttr]
  refine hK _ ?_; clear hK
  refine vwp_block ?_
  refine vwp_loop (fun m σ => ∃ (i : Int), m = (l.length - i).toNat ∧ ((0 ≤ i) ∧ (i ≤ l.length) ∧ ((l.drop i.toNat).all (inTo top) = l.all (inTo top))) ∧ σ = St.of [(0, .one (.c (.int .i64 top))), (7, .one (.sl false l.length (l.map fun n => .c (.int .i64 n)))), (8, .one (.c (.int .i64 l.length))), (9, .one (.c (.int .i64 i)))] [] []) _ ⟨_, ?_, 0, rfl, ?_, rfl⟩ ?_
  · refine wk_conv [] [] (by simp) (by simp) (by decide) ?_ ?_
    · refine hf_cons (by simp (dsimp := false) only [push_cast, ↓reduceIte, Nat.reduceEqDiff, Nat.reduceAdd, reduceCtorEq] <;> rfl) (by exact ConvV.self rfl) ?_
      refine hf_cons (by simp (dsimp := false) only [push_cast, ↓reduceIte, Nat.reduceEqDiff, Nat.reduceAdd, reduceCtorEq] <;> rfl) (by repeat' (first | exact ConvVs.nil | exact ConvL.nil | refine ConvV.tup ?_ | refine ConvVs.cons ?_ ?_ | (refine ConvV.self ?_; simp only [push_cast]; done) | refine ConvV.one ?_ | refine ConvV.agg ?_ | (refine ConvL.free ?_; simp only [push_cast]; done) | refine ConvL.append ?_ ?_ | refine ConvL.cons ?_ ?_ | exact Conv.free rfl | exact Conv.nil | (refine Conv.own ?_; simp; done) | (refine Conv.loc ?_; simp; done) | refine Conv.frz (by simp) (by simp (dsimp := false) only [push_cast, ↓reduceIte, Nat.reduceEqDiff, Nat.reduceAdd, reduceCtorEq] <;> rfl) ?_ | refine Conv.sl (by simp) ?_ | refine Conv.fn ?_)) ?_
      refine hf_cons (by simp (dsimp := false) only [push_cast, ↓reduceIte, Nat.reduceEqDiff, Nat.reduceAdd, reduceCtorEq] <;> rfl) (by exact ConvV.self rfl) ?_
      refine hf_cons (by simp (dsimp := false) only [push_cast, ↓reduceIte, Nat.reduceEqDiff, Nat.reduceAdd, reduceCtorEq] <;> rfl) (by exact ConvV.self rfl) ?_
      exact hf_nil
    · exact hh_nil
  · exact ⟨by omega, by omega, rfl⟩
  · rintro m τ ⟨i, hm, ⟨hi0, hi1, hi2⟩, rfl⟩ K hL0
    have hw := fun h : i < (l.length : Int) => wrap_next hi0 h (by omega)
    have hd := fun h : i < (l.length : Int) => dropI_map (fun n => PC.c (Value.int .i64 n)) hi0 h
    refine vwp_seq_region rfl fun K hK => ?_
    simp (dsimp := false) only [push_cast, hP, hnt, hgw, hgb, sevalprocAttr, hi0]
    refine hK _ ?_; clear hK
    refine vwp_seq fun K hK => ?_
    refine vwp_cond (b := _) (by simp (dsimp := false) only [push_cast, hP, hnt, hgw, hgb, sevalprocAttr, hi0]; rfl) (fun rb0 => ?_) (fun rb0 => ?_)
    · have hb0 := rb0
      try simp only [beq_iff_eq, bne_iff_ne, ne_eq, bne_eq_false_iff_eq, beq_eq_false_iff_ne, decide_eq_true_eq, decide_eq_false_iff_not, Bool.not_eq_true', Bool.not_eq_false', Bool.or_eq_true, Bool.and_eq_true, Bool.or_eq_false_iff, Bool.and_eq_false_iff] at hb0
      have hw := hw hb0
      have hd := hd hb0
      refine vwp_skip ?_
      apply_assumption
      refine vwp_seq fun K hK => ?_
      refine vwp_block ?_
      refine vwp_seq_region rfl fun K hK => ?_
      simp (dsimp := false) only [push_cast, hP, hnt, hgw, hgb, sevalprocAttr, hi0, hw, hd, hb0]
      refine hK _ ?_; clear hK
      refine vwp_seq_regionG fun K hK => ?_
      simp (dsimp := false) only [push_cast, hP, hnt, hgw, hgb, sevalprocAttr, hi0, hw, hd, hb0]
      refine guardR_may (by simp (dsimp := false) only [push_cast, hP, hnt, hgw, hgb, sevalprocAttr, hi0, hw, hd, hb0, List.getElem?_cons_zero, List.getElem?_cons_succ]; rfl) ?_
      simp (dsimp := false) only [push_cast, hP, hnt, hgw, hgb, sevalprocAttr, hi0, hw, hd, hb0]
      refine guardR_may (by simp (dsimp := false) only [push_cast, hP, hnt, hgw, hgb, sevalprocAttr, hi0, hw, hd, hb0, List.getElem?_cons_zero, List.getElem?_cons_succ]; rfl) ?_
      simp (dsimp := false) only [push_cast, hP, hnt, hgw, hgb, sevalprocAttr, hi0, hw, hd, hb0]
      refine guardR_may (by simp (dsimp := false) only [push_cast, hP, hnt, hgw, hgb, sevalprocAttr, hi0, hw, hd, hb0, List.getElem?_cons_zero, List.getElem?_cons_succ]; rfl) ?_
      simp (dsimp := false) only [push_cast, hP, hnt, hgw, hgb, sevalprocAttr, hi0, hw, hd, hb0]
      refine hK _ ?_; clear hK
      refine vwp_cond (b := _) (by simp (dsimp := false) only [push_cast, hP, hnt, hgw, hgb, sevalprocAttr, hi0, hw, hd, hb0]; rfl) (fun rb1 => ?_) (fun rb1 => ?_)
      · have hb1 := rb1
        try simp only [beq_iff_eq, bne_iff_ne, ne_eq, bne_eq_false_iff_eq, beq_eq_false_iff_ne, decide_eq_true_eq, decide_eq_false_iff_not, Bool.not_eq_true', Bool.not_eq_false', Bool.or_eq_true, Bool.and_eq_true, Bool.or_eq_false_iff, Bool.and_eq_false_iff] at hb1
        refine vwp_seq_region rfl fun K hK => ?_
        simp (dsimp := false) only [push_cast, hP, hnt, hgw, hgb, sevalprocAttr, hi0, hw, hd, hb0]
        refine hK _ ?_; clear hK
        refine vwp_ret ?_
        refine ret_free (by simp (dsimp := false) only [push_cast, hP, hnt, hgw, hgb, sevalprocAttr, hi0, hw, hd, hb0]; rfl) (by simp (dsimp := false) only [push_cast, hP, hnt, hgw, hgb, sevalprocAttr, hi0, hw, hd, hb0]) ?_
        simp only [pack, all_stop hi0 hb0 hi2 (inTo_false (by omega))]
      · have hb1 := rb1
        try simp only [beq_iff_eq, bne_iff_ne, ne_eq, bne_eq_false_iff_eq, beq_eq_false_iff_ne, decide_eq_true_eq, decide_eq_false_iff_not, Bool.not_eq_true', Bool.not_eq_false', Bool.or_eq_true, Bool.and_eq_true, Bool.or_eq_false_iff, Bool.and_eq_false_iff] at hb1
        refine vwp_skip ?_
        apply_assumption
        refine vwp_region rfl ?_
        simp (dsimp := false) only [push_cast, hP, hnt, hgw, hgb, sevalprocAttr, hi0, hw, hd, hb0]
        refine hL0 _ _ _ ?_ ?_ ⟨i + 1, rfl, ?_, rfl⟩
        · omega
        · refine wk_conv [] [] (by simp) (by simp) (by decide) ?_ ?_
          · refine hf_cons (by simp (dsimp := false) only [push_cast, ↓reduceIte, Nat.reduceEqDiff, Nat.reduceAdd, reduceCtorEq, hi0, hw, hd, hb0] <;> rfl) (by exact ConvV.self rfl) ?_
            refine hf_cons (by simp (dsimp := false) only [push_cast, ↓reduceIte, Nat.reduceEqDiff, Nat.reduceAdd, reduceCtorEq, hi0, hw, hd, hb0] <;> rfl) (by repeat' (first | exact ConvVs.nil | exact ConvL.nil | refine ConvV.tup ?_ | refine ConvVs.cons ?_ ?_ | (refine ConvV.self ?_; simp only [push_cast]; done) | refine ConvV.one ?_ | refine ConvV.agg ?_ | (refine ConvL.free ?_; simp only [push_cast]; done) | refine ConvL.append ?_ ?_ | refine ConvL.cons ?_ ?_ | exact Conv.free rfl | exact Conv.nil | (refine Conv.own ?_; simp; done) | (refine Conv.loc ?_; simp; done) | refine Conv.frz (by simp) (by simp (dsimp := false) only [push_cast, ↓reduceIte, Nat.reduceEqDiff, Nat.reduceAdd, reduceCtorEq, hi0, hw, hd, hb0] <;> rfl) ?_ | refine Conv.sl (by simp) ?_ | refine Conv.fn ?_)) ?_
            refine hf_cons (by simp (dsimp := false) only [push_cast, ↓reduceIte, Nat.reduceEqDiff, Nat.reduceAdd, reduceCtorEq, hi0, hw, hd, hb0] <;> rfl) (by exact ConvV.self rfl) ?_
            refine hf_cons (by simp (dsimp := false) only [push_cast, ↓reduceIte, Nat.reduceEqDiff, Nat.reduceAdd, reduceCtorEq, hi0, hw, hd, hb0] <;> rfl) (by exact ConvV.self rfl) ?_
            exact hf_nil
          · exact hh_nil
        · exact ⟨by omega, by omega, all_next hi0 hb0 hi2 (inTo_true (by omega))⟩
    · have hb0 := rb0
      try simp only [beq_iff_eq, bne_iff_ne, ne_eq, bne_eq_false_iff_eq, beq_eq_false_iff_ne, decide_eq_true_eq, decide_eq_false_iff_not, Bool.not_eq_true', Bool.not_eq_false', Bool.or_eq_true, Bool.and_eq_true, Bool.or_eq_false_iff, Bool.and_eq_false_iff] at hb0
      refine vwp_exit ?_
      simp only [thenQ, blockQ, Nat.reduceEqDiff, reduceIte]
      apply_assumption
      refine vwp_seq_region rfl fun K hK => ?_
      simp (dsimp := false) only [push_cast, hP, hnt, hgw, hgb, sevalprocAttr, hi0]
      refine hK _ ?_; clear hK
      refine vwp_ret ?_
      refine ret_free (by simp (dsimp := false) only [push_cast, hP, hnt, hgw, hgb, sevalprocAttr, hi0]; rfl) (by simp (dsimp := false) only [push_cast, hP, hnt, hgw, hgb, sevalprocAttr, hi0]) ?_
      simp only [pack, all_end hb0 hi2]
end Go.Vm
end
