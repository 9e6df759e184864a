/-
  Walks of the program's functions by the framework, and what they compute (PtAJ). Conditions: each theorem's own premises. By an AI agent.
-/
import Derived.Test.YtnpbndglolcilaaGreatDoorPtAI
import Derived.Lib.SplitLaws
import Derived.Lib.AppendIntMem
section
namespace Go.Vm
open Go Go.RowKit Go.Proofs
set_option maxRecDepth 100000
set_option linter.unusedSimpArgs false
set_option linter.unusedVariables false
set_option maxHeartbeats 4000000

theorem mayF_iff (v : Ver) : mayF v = true ↔ (v.kind = 3 ∧ v.first.length + v.inputs.length = 0 ∧ noProofF v = true) ∨ (v.kind = 2 ∧ noProofF v = true ∧ (1 ≤ v.inputs.length ∧ v.inputs.length ≤ 100 ∧ v.first.length ≤ 1000) ∧ v.inputs.all wideF = true) ∨
    (v.kind = 1 ∧ v.first.length + v.inputs.length = 0 ∧ (inTo 100 v.skip = true ∧ inTo 100 v.phases = true ∧ v.ands.length ≤ 1000 ∧ inTo 2001 v.lit = true) ∧ v.ands.all gateF = true) := by
  unfold mayF noRun framesF
  by_cases h3 : v.kind = 3
  · simp [h3]
  · by_cases h2 : v.kind = 2
    · simp [h2, and_assoc]
    · by_cases h1 : v.kind = 1
      · simp [h1, and_assoc]
      · simp [h1, h2, h3]
theorem noProof_iff (v : Ver) : noProofF v = true ↔ v.skip = 0 ∧ v.phases = 0 ∧ v.ands.length = 0 ∧ v.lit = 0 := by
  unfold noProofF
  simp [and_assoc]
theorem mayF_three {v : Ver} (h : v.kind = 3) : (!decide (0 < (v.first.length : Int) + (v.inputs.length : Int)) && !(v.skip != 0 || v.phases != 0 || decide (0 < (v.ands.length : Int)) || v.lit != 0)) = mayF v := by
  unfold mayF noRun noProofF
  rw [if_pos h]
  generalize v.first.length = a
  generalize v.inputs.length = b
  generalize v.ands.length = c
  rw [Bool.eq_iff_iff]
  simp only [Bool.and_eq_true, Bool.not_eq_true', decide_eq_false_iff_not, Bool.or_eq_false_iff, bne_eq_false_iff_eq, decide_eq_true_eq, beq_iff_eq]
  omega
theorem mayF_no {v : Ver} (h : ¬ ((v.kind = 3 ∧ v.first.length + v.inputs.length = 0 ∧ noProofF v = true) ∨ (v.kind = 2 ∧ noProofF v = true ∧ (1 ≤ v.inputs.length ∧ v.inputs.length ≤ 100 ∧ v.first.length ≤ 1000) ∧ v.inputs.all wideF = true) ∨
    (v.kind = 1 ∧ v.first.length + v.inputs.length = 0 ∧ (inTo 100 v.skip = true ∧ inTo 100 v.phases = true ∧ v.ands.length ≤ 1000 ∧ inTo 2001 v.lit = true) ∧ v.ands.all gateF = true))) : mayF v = false := by
  rw [← mayF_iff] at h; simpa using h
theorem may_call (gw : World) (gb : Nat) (v : Ver) (hf : Fit v) : VCall Tryz.prog gw (gb) 24 [.agg (v.pcs false)] (.one (.c (.bool (mayF v)))) [] := by
  have hsum : IntKind.wrap .i64 ((v.first.length : Int) + (v.inputs.length : Int)) = (v.first.length : Int) + (v.inputs.length : Int) := by have := hf.first; have := hf.inputs; rw [IntKind.wrap_i64]; omega
  refine vcall_of [.tmp 2] Tryz.func24 rfl rfl Tryz.ntmps24 rfl (by simp) ?_
  intro C hP hnt hgw hgb hfull
  refine vwp_seq_region rfl fun K hK => ?_
  simp (dsimp := false) only [push_cast, hP, hnt, hgw, hgb, sevalprocAttr, hsum, List.all_cons, List.all_nil]
  refine hK _ ?_; clear hK
  refine vwp_seq_region rfl fun K hK => ?_
  simp (dsimp := false) only [push_cast, hP, hnt, hgw, hgb, sevalprocAttr, hsum, List.all_cons, List.all_nil]
  refine hK _ ?_; clear hK
  refine vwp_seq_region rfl fun K hK => ?_
  simp (dsimp := false) only [push_cast, hP, hnt, hgw, hgb, sevalprocAttr, hsum, List.all_cons, List.all_nil]
  refine hK _ ?_; clear hK
  refine vwp_seq_regionG fun K hK => ?_
  simp (dsimp := false) only [push_cast, hP, hnt, hgw, hgb, sevalprocAttr, hsum, List.all_cons, List.all_nil]
  refine guardR_may (by simp (dsimp := false) only [push_cast, hP, hnt, hgw, hgb, sevalprocAttr, hsum, List.all_cons, List.all_nil, List.getElem?_cons_zero, List.getElem?_cons_succ]; rfl) ?_
  simp (dsimp := false) only [push_cast, hP, hnt, hgw, hgb, sevalprocAttr, hsum, List.all_cons, List.all_nil]
  refine guardR_may (by simp (dsimp := false) only [push_cast, hP, hnt, hgw, hgb, sevalprocAttr, hsum, List.all_cons, List.all_nil, List.getElem?_cons_zero, List.getElem?_cons_succ]; rfl) ?_
  simp (dsimp := false) only [push_cast, hP, hnt, hgw, hgb, sevalprocAttr, hsum, List.all_cons, List.all_nil]
  refine guardR_may (by simp (dsimp := false) only [push_cast, hP, hnt, hgw, hgb, sevalprocAttr, hsum, List.all_cons, List.all_nil, List.getElem?_cons_zero, List.getElem?_cons_succ]; rfl) ?_
  simp (dsimp := false) only [push_cast, hP, hnt, hgw, hgb, sevalprocAttr, hsum, List.all_cons, List.all_nil]
  refine guardR_may (by simp (dsimp := false) only [push_cast, hP, hnt, hgw, hgb, sevalprocAttr, hsum, List.all_cons, List.all_nil, List.getElem?_cons_zero, List.getElem?_cons_succ]; rfl) ?_
  simp (dsimp := false) only [push_cast, hP, hnt, hgw, hgb, sevalprocAttr, hsum, List.all_cons, List.all_nil]
  refine guardR_may (by simp (dsimp := false) only [push_cast, hP, hnt, hgw, hgb, sevalprocAttr, hsum, List.all_cons, List.all_nil, List.getElem?_cons_zero, List.getElem?_cons_succ]; rfl) ?_
  simp (dsimp := false) only [push_cast, hP, hnt, hgw, hgb, sevalprocAttr, hsum, List.all_cons, List.all_nil]
  refine guardR_may (by simp (dsimp := false) only [push_cast, hP, hnt, hgw, hgb, sevalprocAttr, hsum, List.all_cons, List.all_nil, List.getElem?_cons_zero, List.getElem?_cons_succ]; rfl) ?_
  simp (dsimp := false) only [push_cast, hP, hnt, hgw, hgb, sevalprocAttr, hsum, List.all_cons, List.all_nil]
  refine guardR_may (by simp (dsimp := false) only [push_cast, hP, hnt, hgw, hgb, sevalprocAttr, hsum, List.all_cons, List.all_nil, List.getElem?_cons_zero, List.getElem?_cons_succ]; rfl) ?_
  simp (dsimp := false) only [push_cast, hP, hnt, hgw, hgb, sevalprocAttr, hsum, List.all_cons, List.all_nil]
  refine guardR_may (by simp (dsimp := false) only [push_cast, hP, hnt, hgw, hgb, sevalprocAttr, hsum, List.all_cons, List.all_nil, List.getElem?_cons_zero, List.getElem?_cons_succ]; rfl) ?_
  simp (dsimp := false) only [push_cast, hP, hnt, hgw, hgb, sevalprocAttr, hsum, List.all_cons, List.all_nil]
  refine guardR_may (by simp (dsimp := false) only [push_cast, hP, hnt, hgw, hgb, sevalprocAttr, hsum, List.all_cons, List.all_nil, List.getElem?_cons_zero, List.getElem?_cons_succ]; rfl) ?_
  simp (dsimp := false) only [push_cast, hP, hnt, hgw, hgb, sevalprocAttr, hsum, List.all_cons, List.all_nil]
  refine guardR_may (by simp (dsimp := false) only [push_cast, hP, hnt, hgw, hgb, sevalprocAttr, hsum, List.all_cons, List.all_nil, List.getElem?_cons_zero, List.getElem?_cons_succ]; rfl) ?_
  simp (dsimp := false) only [push_cast, hP, hnt, hgw, hgb, sevalprocAttr, hsum, List.all_cons, List.all_nil]
  refine guardR_may (by simp (dsimp := false) only [push_cast, hP, hnt, hgw, hgb, sevalprocAttr, hsum, List.all_cons, List.all_nil, List.getElem?_cons_zero, List.getElem?_cons_succ]; rfl) ?_
  simp (dsimp := false) only [push_cast, hP, hnt, hgw, hgb, sevalprocAttr, hsum, List.all_cons, List.all_nil]
  refine guardR_may (by simp (dsimp := false) only [push_cast, hP, hnt, hgw, hgb, sevalprocAttr, hsum, List.all_cons, List.all_nil, List.getElem?_cons_zero, List.getElem?_cons_succ]; rfl) ?_
  simp (dsimp := false) only [push_cast, hP, hnt, hgw, hgb, sevalprocAttr, hsum, List.all_cons, List.all_nil]
  refine hK _ ?_; clear hK
  refine vwp_seq fun K hK => ?_
  refine vwp_seq_region rfl fun K hK => ?_
  simp (dsimp := false) only [push_cast, hP, hnt, hgw, hgb, sevalprocAttr, hsum, List.all_cons, List.all_nil]
  refine hK _ ?_; clear hK
  refine vwp_block ?_
  refine vwp_seq_region rfl fun K hK => ?_
  simp (dsimp := false) only [push_cast, hP, hnt, hgw, hgb, sevalprocAttr, hsum, List.all_cons, List.all_nil]
  refine hK _ ?_; clear hK
  refine vwp_cond (b := _) (by simp (dsimp := false) only [push_cast, hP, hnt, hgw, hgb, sevalprocAttr, hsum, List.all_cons, List.all_nil]; rfl) (fun rb0 => ?_) (fun rb0 => ?_)
  · have hb0 := rb0
    try simp only [beq_iff_eq, bne_iff_ne, ne_eq, bne_eq_false_iff_eq, beq_eq_false_iff_ne, decide_eq_true_eq, decide_eq_false_iff_not, Bool.not_eq_true', Bool.not_eq_false', Bool.or_eq_true, Bool.and_eq_true, Bool.or_eq_false_iff, Bool.and_eq_false_iff] at hb0
    refine vwp_seq_regionG fun K hK => ?_
    simp (dsimp := false) only [push_cast, hP, hnt, hgw, hgb, sevalprocAttr, hsum, List.all_cons, List.all_nil]
    refine guardR_may (by simp (dsimp := false) only [push_cast, hP, hnt, hgw, hgb, sevalprocAttr, hsum, List.all_cons, List.all_nil, List.getElem?_cons_zero, List.getElem?_cons_succ]; rfl) ?_
    simp (dsimp := false) only [push_cast, hP, hnt, hgw, hgb, sevalprocAttr, hsum, List.all_cons, List.all_nil]
    refine guardR_may (by simp (dsimp := false) only [push_cast, hP, hnt, hgw, hgb, sevalprocAttr, hsum, List.all_cons, List.all_nil, List.getElem?_cons_zero, List.getElem?_cons_succ]; rfl) ?_
    simp (dsimp := false) only [push_cast, hP, hnt, hgw, hgb, sevalprocAttr, hsum, List.all_cons, List.all_nil]
    refine hK _ ?_; clear hK
    refine vwp_ret ?_
    refine ret_free (by simp (dsimp := false) only [push_cast, hP, hnt, hgw, hgb, sevalprocAttr, hsum, List.all_cons, List.all_nil]; rfl) (by simp (dsimp := false) only [push_cast, hP, hnt, hgw, hgb, sevalprocAttr, hsum, List.all_cons, List.all_nil]) ?_
    simp only [pack]; rw [mayF_three hb0]
  · have hb0 := rb0
    try simp only [beq_iff_eq, bne_iff_ne, ne_eq, bne_eq_false_iff_eq, beq_eq_false_iff_ne, decide_eq_true_eq, decide_eq_false_iff_not, Bool.not_eq_true', Bool.not_eq_false', Bool.or_eq_true, Bool.and_eq_true, Bool.or_eq_false_iff, Bool.and_eq_false_iff] at hb0
    refine vwp_seq_region rfl fun K hK => ?_
    simp (dsimp := false) only [push_cast, hP, hnt, hgw, hgb, sevalprocAttr, hsum, List.all_cons, List.all_nil]
    refine hK _ ?_; clear hK
    refine vwp_cond (b := _) (by simp (dsimp := false) only [push_cast, hP, hnt, hgw, hgb, sevalprocAttr, hsum, List.all_cons, List.all_nil]; rfl) (fun rb1 => ?_) (fun rb1 => ?_)
    · have hb1 := rb1
      try simp only [beq_iff_eq, bne_iff_ne, ne_eq, bne_eq_false_iff_eq, beq_eq_false_iff_ne, decide_eq_true_eq, decide_eq_false_iff_not, Bool.not_eq_true', Bool.not_eq_false', Bool.or_eq_true, Bool.and_eq_true, Bool.or_eq_false_iff, Bool.and_eq_false_iff] at hb1
      refine vwp_seq fun K hK => ?_
      refine vwp_seq_regionG fun K hK => ?_
      simp (dsimp := false) only [push_cast, hP, hnt, hgw, hgb, sevalprocAttr, hsum, List.all_cons, List.all_nil]
      refine guardR_may (by simp (dsimp := false) only [push_cast, hP, hnt, hgw, hgb, sevalprocAttr, hsum, List.all_cons, List.all_nil, List.getElem?_cons_zero, List.getElem?_cons_succ]; rfl) ?_
      simp (dsimp := false) only [push_cast, hP, hnt, hgw, hgb, sevalprocAttr, hsum, List.all_cons, List.all_nil]
      refine guardR_may (by simp (dsimp := false) only [push_cast, hP, hnt, hgw, hgb, sevalprocAttr, hsum, List.all_cons, List.all_nil, List.getElem?_cons_zero, List.getElem?_cons_succ]; rfl) ?_
      simp (dsimp := false) only [push_cast, hP, hnt, hgw, hgb, sevalprocAttr, hsum, List.all_cons, List.all_nil]
      refine guardR_may (by simp (dsimp := false) only [push_cast, hP, hnt, hgw, hgb, sevalprocAttr, hsum, List.all_cons, List.all_nil, List.getElem?_cons_zero, List.getElem?_cons_succ]; rfl) ?_
      simp (dsimp := false) only [push_cast, hP, hnt, hgw, hgb, sevalprocAttr, hsum, List.all_cons, List.all_nil]
      refine guardR_may (by simp (dsimp := false) only [push_cast, hP, hnt, hgw, hgb, sevalprocAttr, hsum, List.all_cons, List.all_nil, List.getElem?_cons_zero, List.getElem?_cons_succ]; rfl) ?_
      simp (dsimp := false) only [push_cast, hP, hnt, hgw, hgb, sevalprocAttr, hsum, List.all_cons, List.all_nil]
      refine guardR_may (by simp (dsimp := false) only [push_cast, hP, hnt, hgw, hgb, sevalprocAttr, hsum, List.all_cons, List.all_nil, List.getElem?_cons_zero, List.getElem?_cons_succ]; rfl) ?_
      simp (dsimp := false) only [push_cast, hP, hnt, hgw, hgb, sevalprocAttr, hsum, List.all_cons, List.all_nil]
      refine guardR_may (by simp (dsimp := false) only [push_cast, hP, hnt, hgw, hgb, sevalprocAttr, hsum, List.all_cons, List.all_nil, List.getElem?_cons_zero, List.getElem?_cons_succ]; rfl) ?_
      simp (dsimp := false) only [push_cast, hP, hnt, hgw, hgb, sevalprocAttr, hsum, List.all_cons, List.all_nil]
      refine guardR_may (by simp (dsimp := false) only [push_cast, hP, hnt, hgw, hgb, sevalprocAttr, hsum, List.all_cons, List.all_nil, List.getElem?_cons_zero, List.getElem?_cons_succ]; rfl) ?_
      simp (dsimp := false) only [push_cast, hP, hnt, hgw, hgb, sevalprocAttr, hsum, List.all_cons, List.all_nil]
      refine guardR_may (by simp (dsimp := false) only [push_cast, hP, hnt, hgw, hgb, sevalprocAttr, hsum, List.all_cons, List.all_nil, List.getElem?_cons_zero, List.getElem?_cons_succ]; rfl) ?_
      simp (dsimp := false) only [push_cast, hP, hnt, hgw, hgb, sevalprocAttr, hsum, List.all_cons, List.all_nil]
      refine guardR_may (by simp (dsimp := false) only [push_cast, hP, hnt, hgw, hgb, sevalprocAttr, hsum, List.all_cons, List.all_nil, List.getElem?_cons_zero, List.getElem?_cons_succ]; rfl) ?_
      simp (dsimp := false) only [push_cast, hP, hnt, hgw, hgb, sevalprocAttr, hsum, List.all_cons, List.all_nil]
      refine guardR_may (by simp (dsimp := false) only [push_cast, hP, hnt, hgw, hgb, sevalprocAttr, hsum, List.all_cons, List.all_nil, List.getElem?_cons_zero, List.getElem?_cons_succ]; rfl) ?_
      simp (dsimp := false) only [push_cast, hP, hnt, hgw, hgb, sevalprocAttr, hsum, List.all_cons, List.all_nil]
      refine guardR_may (by simp (dsimp := false) only [push_cast, hP, hnt, hgw, hgb, sevalprocAttr, hsum, List.all_cons, List.all_nil, List.getElem?_cons_zero, List.getElem?_cons_succ]; rfl) ?_
      simp (dsimp := false) only [push_cast, hP, hnt, hgw, hgb, sevalprocAttr, hsum, List.all_cons, List.all_nil]
      refine guardR_may (by simp (dsimp := false) only [push_cast, hP, hnt, hgw, hgb, sevalprocAttr, hsum, List.all_cons, List.all_nil, List.getElem?_cons_zero, List.getElem?_cons_succ]; rfl) ?_
      simp (dsimp := false) only [push_cast, hP, hnt, hgw, hgb, sevalprocAttr, hsum, List.all_cons, List.all_nil]
      refine guardR_may (by simp (dsimp := false) only [push_cast, hP, hnt, hgw, hgb, sevalprocAttr, hsum, List.all_cons, List.all_nil, List.getElem?_cons_zero, List.getElem?_cons_succ]; rfl) ?_
      simp (dsimp := false) only [push_cast, hP, hnt, hgw, hgb, sevalprocAttr, hsum, List.all_cons, List.all_nil]
      refine guardR_may (by simp (dsimp := false) only [push_cast, hP, hnt, hgw, hgb, sevalprocAttr, hsum, List.all_cons, List.all_nil, List.getElem?_cons_zero, List.getElem?_cons_succ]; rfl) ?_
      simp (dsimp := false) only [push_cast, hP, hnt, hgw, hgb, sevalprocAttr, hsum, List.all_cons, List.all_nil]
      refine guardR_may (by simp (dsimp := false) only [push_cast, hP, hnt, hgw, hgb, sevalprocAttr, hsum, List.all_cons, List.all_nil, List.getElem?_cons_zero, List.getElem?_cons_succ]; rfl) ?_
      simp (dsimp := false) only [push_cast, hP, hnt, hgw, hgb, sevalprocAttr, hsum, List.all_cons, List.all_nil]
      refine hK _ ?_; clear hK
      refine vwp_cond (b := _) (by simp (dsimp := false) only [push_cast, hP, hnt, hgw, hgb, sevalprocAttr, hsum, List.all_cons, List.all_nil]; rfl) (fun rb2 => ?_) (fun rb2 => ?_)
      · have hb2 := rb2
        try simp only [beq_iff_eq, bne_iff_ne, ne_eq, bne_eq_false_iff_eq, beq_eq_false_iff_ne, decide_eq_true_eq, decide_eq_false_iff_not, Bool.not_eq_true', Bool.not_eq_false', Bool.or_eq_true, Bool.and_eq_true, Bool.or_eq_false_iff, Bool.and_eq_false_iff] at hb2
        refine vwp_seq_region rfl fun K hK => ?_
        simp (dsimp := false) only [push_cast, hP, hnt, hgw, hgb, sevalprocAttr, hsum, List.all_cons, List.all_nil]
        refine hK _ ?_; clear hK
        refine vwp_ret ?_
        refine ret_free (by simp (dsimp := false) only [push_cast, hP, hnt, hgw, hgb, sevalprocAttr, hsum, List.all_cons, List.all_nil]; rfl) (by simp (dsimp := false) only [push_cast, hP, hnt, hgw, hgb, sevalprocAttr, hsum, List.all_cons, List.all_nil]) ?_
        rw [mayF_no (by rw [noProof_iff]; rintro (⟨h1, h2, h3⟩ | ⟨h1, h2, h3, h4⟩ | ⟨h1, h2, h3, h4⟩) <;> omega)]; rfl
      · have hb2 := rb2
        try simp only [beq_iff_eq, bne_iff_ne, ne_eq, bne_eq_false_iff_eq, beq_eq_false_iff_ne, decide_eq_true_eq, decide_eq_false_iff_not, Bool.not_eq_true', Bool.not_eq_false', Bool.or_eq_true, Bool.and_eq_true, Bool.or_eq_false_iff, Bool.and_eq_false_iff] at hb2
        refine vwp_skip ?_
        apply_assumption
        refine vwp_seq fun K hK => ?_
        refine vwp_seq_region rfl fun K hK => ?_
        simp (dsimp := false) only [push_cast, hP, hnt, hgw, hgb, sevalprocAttr, hsum, List.all_cons, List.all_nil]
        refine hK _ ?_; clear hK
        refine vwp_block ?_
        refine vwp_loop (fun m σ => ∃ (i : Int), m = (v.inputs.length - i).toNat ∧ ((0 ≤ i) ∧ (i ≤ v.inputs.length) ∧ ((v.inputs.drop i.toNat).all wideF = v.inputs.all wideF)) ∧ σ = St.of [(1, .one (.loc (2, 0) 0)), (79, .one (.sl false v.inputs.length (v.inputs.map (fun l => PC.sl false l.length (l.map fun b => PC.c (Value.bool b)))))), (80, .one (.c (.int .i64 v.inputs.length))), (81, .one (.c (.int .i64 i)))] [((2, 0), .box 34 (v.pcs false))] [1]) _ ⟨_, ?_, 0, rfl, ?_, rfl⟩ ?_
        · refine wk_conv [] [((2, 0), (2, 0))] (by simp) (by simp) (by decide) ?_ ?_
          · refine hf_cons (by simp (dsimp := false) only [push_cast, ↓reduceIte, Nat.reduceEqDiff, Nat.reduceAdd, reduceCtorEq, hsum, List.all_cons, List.all_nil] <;> rfl) (by exact .one (.loc (by simp))) ?_
            refine hf_cons (by simp (dsimp := false) only [push_cast, ↓reduceIte, Nat.reduceEqDiff, Nat.reduceAdd, reduceCtorEq, hsum, List.all_cons, List.all_nil] <;> rfl) (by repeat' (first | exact ConvVs.nil | exact ConvL.nil | refine ConvV.tup ?_ | refine ConvVs.cons ?_ ?_ | (refine ConvV.self ?_; simp only [push_cast]; done) | refine ConvV.one ?_ | refine ConvV.agg ?_ | (refine ConvL.free ?_; simp only [push_cast]; done) | refine ConvL.append ?_ ?_ | refine ConvL.cons ?_ ?_ | exact Conv.free rfl | exact Conv.nil | (refine Conv.own ?_; simp; done) | (refine Conv.loc ?_; simp; done) | refine Conv.frz (by simp) (by simp (dsimp := false) only [push_cast, ↓reduceIte, Nat.reduceEqDiff, Nat.reduceAdd, reduceCtorEq, hsum, List.all_cons, List.all_nil] <;> rfl) ?_ | refine Conv.sl (by simp) ?_ | refine Conv.fn ?_)) ?_
            refine hf_cons (by simp (dsimp := false) only [push_cast, ↓reduceIte, Nat.reduceEqDiff, Nat.reduceAdd, reduceCtorEq, hsum, List.all_cons, List.all_nil] <;> rfl) (by exact ConvV.self rfl) ?_
            refine hf_cons (by simp (dsimp := false) only [push_cast, ↓reduceIte, Nat.reduceEqDiff, Nat.reduceAdd, reduceCtorEq, hsum, List.all_cons, List.all_nil] <;> rfl) (by exact ConvV.self rfl) ?_
            exact hf_nil
          · refine hh_cons (i := (2, 0)) (by simp) (by simp) (by simp (dsimp := false) only [push_cast, ↓reduceIte, Nat.reduceEqDiff, Nat.reduceAdd, reduceCtorEq, hsum, List.all_cons, List.all_nil] <;> rfl) (by first | (refine ConvB.free ?_; simp only [push_cast]; done) | (refine ConvB.box ?_; repeat' (first | exact ConvVs.nil | exact ConvL.nil | refine ConvV.tup ?_ | refine ConvVs.cons ?_ ?_ | (refine ConvV.self ?_; simp only [push_cast]; done) | refine ConvV.one ?_ | refine ConvV.agg ?_ | (refine ConvL.free ?_; simp only [push_cast]; done) | refine ConvL.append ?_ ?_ | refine ConvL.cons ?_ ?_ | exact Conv.free rfl | exact Conv.nil | (refine Conv.own ?_; simp; done) | (refine Conv.loc ?_; simp; done) | refine Conv.frz (by simp) (by simp (dsimp := false) only [push_cast, ↓reduceIte, Nat.reduceEqDiff, Nat.reduceAdd, reduceCtorEq, hsum, List.all_cons, List.all_nil] <;> rfl) ?_ | refine Conv.sl (by simp) ?_ | refine Conv.fn ?_))) ?_
            exact hh_nil
        · exact ⟨by omega, by omega, rfl⟩
        · rintro m τ ⟨i, hm, ⟨hi0, hi1, hi2⟩, rfl⟩ K hL1
          have hw := fun h : i < (v.inputs.length : Int) => wrap_next hi0 h (by have := hf.inputs; omega)
          have hd := fun h : i < (v.inputs.length : Int) => dropI_map (fun l => PC.sl false l.length (l.map fun b => PC.c (Value.bool b))) hi0 h
          refine vwp_seq_region rfl fun K hK => ?_
          simp (dsimp := false) only [push_cast, hP, hnt, hgw, hgb, sevalprocAttr, hsum, List.all_cons, List.all_nil, hi0]
          refine hK _ ?_; clear hK
          refine vwp_seq fun K hK => ?_
          refine vwp_cond (b := _) (by simp (dsimp := false) only [push_cast, hP, hnt, hgw, hgb, sevalprocAttr, hsum, List.all_cons, List.all_nil, hi0]; rfl) (fun rb3 => ?_) (fun rb3 => ?_)
          · have hb3 := rb3
            try simp only [beq_iff_eq, bne_iff_ne, ne_eq, bne_eq_false_iff_eq, beq_eq_false_iff_ne, decide_eq_true_eq, decide_eq_false_iff_not, Bool.not_eq_true', Bool.not_eq_false', Bool.or_eq_true, Bool.and_eq_true, Bool.or_eq_false_iff, Bool.and_eq_false_iff] at hb3
            have hw := hw hb3
            have hd := hd hb3
            refine vwp_skip ?_
            apply_assumption
            refine vwp_seq fun K hK => ?_
            refine vwp_block ?_
            refine vwp_seq_region rfl fun K hK => ?_
            simp (dsimp := false) only [push_cast, hP, hnt, hgw, hgb, sevalprocAttr, hsum, List.all_cons, List.all_nil, hi0, hw, hd, hb3]
            refine hK _ ?_; clear hK
            refine vwp_seq_region rfl fun K hK => ?_
            simp (dsimp := false) only [push_cast, hP, hnt, hgw, hgb, sevalprocAttr, hsum, List.all_cons, List.all_nil, hi0, hw, hd, hb3]
            refine hK _ ?_; clear hK
            refine vwp_cond (b := _) (by simp (dsimp := false) only [push_cast, hP, hnt, hgw, hgb, sevalprocAttr, hsum, List.all_cons, List.all_nil, hi0, hw, hd, hb3]; rfl) (fun rb4 => ?_) (fun rb4 => ?_)
            · have hb4 := rb4
              try simp only [beq_iff_eq, bne_iff_ne, ne_eq, bne_eq_false_iff_eq, beq_eq_false_iff_ne, decide_eq_true_eq, decide_eq_false_iff_not, Bool.not_eq_true', Bool.not_eq_false', Bool.or_eq_true, Bool.and_eq_true, Bool.or_eq_false_iff, Bool.and_eq_false_iff] at hb4
              refine vwp_seq_region rfl fun K hK => ?_
              simp (dsimp := false) only [push_cast, hP, hnt, hgw, hgb, sevalprocAttr, hsum, List.all_cons, List.all_nil, hi0, hw, hd, hb3]
              refine hK _ ?_; clear hK
              refine vwp_ret ?_
              refine ret_free (by simp (dsimp := false) only [push_cast, hP, hnt, hgw, hgb, sevalprocAttr, hsum, List.all_cons, List.all_nil, hi0, hw, hd, hb3]; rfl) (by simp (dsimp := false) only [push_cast, hP, hnt, hgw, hgb, sevalprocAttr, hsum, List.all_cons, List.all_nil, hi0, hw, hd, hb3]) ?_
              rw [mayF_no (by have ha := all_stop hi0 hb3 hi2 (by unfold wideF; exact decide_eq_false (by omega)); rintro (⟨h1, h2, h3⟩ | ⟨h1, h2, h3, h4⟩ | ⟨h1, h2, h3, h4⟩) <;> first | omega | (simp_all; done) | (simp_all; omega))]; rfl
            · have hb4 := rb4
              try simp only [beq_iff_eq, bne_iff_ne, ne_eq, bne_eq_false_iff_eq, beq_eq_false_iff_ne, decide_eq_true_eq, decide_eq_false_iff_not, Bool.not_eq_true', Bool.not_eq_false', Bool.or_eq_true, Bool.and_eq_true, Bool.or_eq_false_iff, Bool.and_eq_false_iff] at hb4
              refine vwp_skip ?_
              apply_assumption
              refine vwp_region rfl ?_
              simp (dsimp := false) only [push_cast, hP, hnt, hgw, hgb, sevalprocAttr, hsum, List.all_cons, List.all_nil, hi0, hw, hd, hb3]
              refine hL1 _ _ _ ?_ ?_ ⟨i + 1, rfl, ?_, rfl⟩
              · omega
              · refine wk_conv [] [((2, 0), (2, 0))] (by simp) (by simp) (by decide) ?_ ?_
                · refine hf_cons (by simp (dsimp := false) only [push_cast, ↓reduceIte, Nat.reduceEqDiff, Nat.reduceAdd, reduceCtorEq, hsum, List.all_cons, List.all_nil, hi0, hw, hd, hb3] <;> rfl) (by exact .one (.loc (by simp))) ?_
                  refine hf_cons (by simp (dsimp := false) only [push_cast, ↓reduceIte, Nat.reduceEqDiff, Nat.reduceAdd, reduceCtorEq, hsum, List.all_cons, List.all_nil, hi0, hw, hd, hb3] <;> rfl) (by repeat' (first | exact ConvVs.nil | exact ConvL.nil | refine ConvV.tup ?_ | refine ConvVs.cons ?_ ?_ | (refine ConvV.self ?_; simp only [push_cast]; done) | refine ConvV.one ?_ | refine ConvV.agg ?_ | (refine ConvL.free ?_; simp only [push_cast]; done) | refine ConvL.append ?_ ?_ | refine ConvL.cons ?_ ?_ | exact Conv.free rfl | exact Conv.nil | (refine Conv.own ?_; simp; done) | (refine Conv.loc ?_; simp; done) | refine Conv.frz (by simp) (by simp (dsimp := false) only [push_cast, ↓reduceIte, Nat.reduceEqDiff, Nat.reduceAdd, reduceCtorEq, hsum, List.all_cons, List.all_nil, hi0, hw, hd, hb3] <;> rfl) ?_ | refine Conv.sl (by simp) ?_ | refine Conv.fn ?_)) ?_
                  refine hf_cons (by simp (dsimp := false) only [push_cast, ↓reduceIte, Nat.reduceEqDiff, Nat.reduceAdd, reduceCtorEq, hsum, List.all_cons, List.all_nil, hi0, hw, hd, hb3] <;> rfl) (by exact ConvV.self rfl) ?_
                  refine hf_cons (by simp (dsimp := false) only [push_cast, ↓reduceIte, Nat.reduceEqDiff, Nat.reduceAdd, reduceCtorEq, hsum, List.all_cons, List.all_nil, hi0, hw, hd, hb3] <;> rfl) (by exact ConvV.self rfl) ?_
                  exact hf_nil
                · refine hh_cons (i := (2, 0)) (by simp) (by simp) (by simp (dsimp := false) only [push_cast, ↓reduceIte, Nat.reduceEqDiff, Nat.reduceAdd, reduceCtorEq, hsum, List.all_cons, List.all_nil, hi0, hw, hd, hb3] <;> rfl) (by first | (refine ConvB.free ?_; simp only [push_cast]; done) | (refine ConvB.box ?_; repeat' (first | exact ConvVs.nil | exact ConvL.nil | refine ConvV.tup ?_ | refine ConvVs.cons ?_ ?_ | (refine ConvV.self ?_; simp only [push_cast]; done) | refine ConvV.one ?_ | refine ConvV.agg ?_ | (refine ConvL.free ?_; simp only [push_cast]; done) | refine ConvL.append ?_ ?_ | refine ConvL.cons ?_ ?_ | exact Conv.free rfl | exact Conv.nil | (refine Conv.own ?_; simp; done) | (refine Conv.loc ?_; simp; done) | refine Conv.frz (by simp) (by simp (dsimp := false) only [push_cast, ↓reduceIte, Nat.reduceEqDiff, Nat.reduceAdd, reduceCtorEq, hsum, List.all_cons, List.all_nil, hi0, hw, hd, hb3] <;> rfl) ?_ | refine Conv.sl (by simp) ?_ | refine Conv.fn ?_))) ?_
                  exact hh_nil
              · exact ⟨by omega, by omega, all_next hi0 hb3 hi2 (by unfold wideF; exact decide_eq_true (by omega))⟩
          · have hb3 := rb3
            try simp only [beq_iff_eq, bne_iff_ne, ne_eq, bne_eq_false_iff_eq, beq_eq_false_iff_ne, decide_eq_true_eq, decide_eq_false_iff_not, Bool.not_eq_true', Bool.not_eq_false', Bool.or_eq_true, Bool.and_eq_true, Bool.or_eq_false_iff, Bool.and_eq_false_iff] at hb3
            refine vwp_exit ?_
            simp only [thenQ, blockQ, Nat.reduceEqDiff, reduceIte]
            apply_assumption
            refine vwp_seq_region rfl fun K hK => ?_
            simp (dsimp := false) only [push_cast, hP, hnt, hgw, hgb, sevalprocAttr, hsum, List.all_cons, List.all_nil, hi0]
            refine hK _ ?_; clear hK
            refine vwp_ret ?_
            refine ret_free (by simp (dsimp := false) only [push_cast, hP, hnt, hgw, hgb, sevalprocAttr, hsum, List.all_cons, List.all_nil, hi0]; rfl) (by simp (dsimp := false) only [push_cast, hP, hnt, hgw, hgb, sevalprocAttr, hsum, List.all_cons, List.all_nil, hi0]) ?_
            rw [(mayF_iff v).2 (.inr (.inl ⟨hb1, (noProof_iff v).2 (by omega), by omega, all_end hb3 hi2⟩))]; rfl
    · have hb1 := rb1
      try simp only [beq_iff_eq, bne_iff_ne, ne_eq, bne_eq_false_iff_eq, beq_eq_false_iff_ne, decide_eq_true_eq, decide_eq_false_iff_not, Bool.not_eq_true', Bool.not_eq_false', Bool.or_eq_true, Bool.and_eq_true, Bool.or_eq_false_iff, Bool.and_eq_false_iff] at hb1
      refine vwp_seq_region rfl fun K hK => ?_
      simp (dsimp := false) only [push_cast, hP, hnt, hgw, hgb, sevalprocAttr, hsum, List.all_cons, List.all_nil]
      refine hK _ ?_; clear hK
      refine vwp_cond (b := _) (by simp (dsimp := false) only [push_cast, hP, hnt, hgw, hgb, sevalprocAttr, hsum, List.all_cons, List.all_nil]; rfl) (fun rb5 => ?_) (fun rb5 => ?_)
      · have hb5 := rb5
        try simp only [beq_iff_eq, bne_iff_ne, ne_eq, bne_eq_false_iff_eq, beq_eq_false_iff_ne, decide_eq_true_eq, decide_eq_false_iff_not, Bool.not_eq_true', Bool.not_eq_false', Bool.or_eq_true, Bool.and_eq_true, Bool.or_eq_false_iff, Bool.and_eq_false_iff] at hb5
        refine vwp_seq fun K hK => ?_
        refine vwp_seq_regionG fun K hK => ?_
        simp (dsimp := false) only [push_cast, hP, hnt, hgw, hgb, sevalprocAttr, hsum, List.all_cons, List.all_nil]
        refine guardR_may (by simp (dsimp := false) only [push_cast, hP, hnt, hgw, hgb, sevalprocAttr, hsum, List.all_cons, List.all_nil, List.getElem?_cons_zero, List.getElem?_cons_succ]; rfl) ?_
        simp (dsimp := false) only [push_cast, hP, hnt, hgw, hgb, sevalprocAttr, hsum, List.all_cons, List.all_nil]
        refine guardR_may (by simp (dsimp := false) only [push_cast, hP, hnt, hgw, hgb, sevalprocAttr, hsum, List.all_cons, List.all_nil, List.getElem?_cons_zero, List.getElem?_cons_succ]; rfl) ?_
        simp (dsimp := false) only [push_cast, hP, hnt, hgw, hgb, sevalprocAttr, hsum, List.all_cons, List.all_nil]
        refine guardR_may (by simp (dsimp := false) only [push_cast, hP, hnt, hgw, hgb, sevalprocAttr, hsum, List.all_cons, List.all_nil, List.getElem?_cons_zero, List.getElem?_cons_succ]; rfl) ?_
        simp (dsimp := false) only [push_cast, hP, hnt, hgw, hgb, sevalprocAttr, hsum, List.all_cons, List.all_nil]
        refine guardR_may (by simp (dsimp := false) only [push_cast, hP, hnt, hgw, hgb, sevalprocAttr, hsum, List.all_cons, List.all_nil, List.getElem?_cons_zero, List.getElem?_cons_succ]; rfl) ?_
        simp (dsimp := false) only [push_cast, hP, hnt, hgw, hgb, sevalprocAttr, hsum, List.all_cons, List.all_nil]
        refine guardR_may (by simp (dsimp := false) only [push_cast, hP, hnt, hgw, hgb, sevalprocAttr, hsum, List.all_cons, List.all_nil, List.getElem?_cons_zero, List.getElem?_cons_succ]; rfl) ?_
        simp (dsimp := false) only [push_cast, hP, hnt, hgw, hgb, sevalprocAttr, hsum, List.all_cons, List.all_nil]
        refine guardR_may (by simp (dsimp := false) only [push_cast, hP, hnt, hgw, hgb, sevalprocAttr, hsum, List.all_cons, List.all_nil, List.getElem?_cons_zero, List.getElem?_cons_succ]; rfl) ?_
        simp (dsimp := false) only [push_cast, hP, hnt, hgw, hgb, sevalprocAttr, hsum, List.all_cons, List.all_nil]
        refine callE_intro (within_call gw gb 100 [v.skip, v.phases] (by simp)) (.inl ⟨rfl, rfl⟩) ?_
        refine ⟨rfl, ?_⟩
        simp (dsimp := false) only [push_cast, hP, hnt, hgw, hgb, sevalprocAttr, hsum, List.all_cons, List.all_nil]
        refine guardR_may (by simp (dsimp := false) only [push_cast, hP, hnt, hgw, hgb, sevalprocAttr, hsum, List.all_cons, List.all_nil, List.getElem?_cons_zero, List.getElem?_cons_succ]; rfl) ?_
        simp (dsimp := false) only [push_cast, hP, hnt, hgw, hgb, sevalprocAttr, hsum, List.all_cons, List.all_nil]
        refine guardR_may (by simp (dsimp := false) only [push_cast, hP, hnt, hgw, hgb, sevalprocAttr, hsum, List.all_cons, List.all_nil, List.getElem?_cons_zero, List.getElem?_cons_succ]; rfl) ?_
        simp (dsimp := false) only [push_cast, hP, hnt, hgw, hgb, sevalprocAttr, hsum, List.all_cons, List.all_nil]
        refine guardR_may (by simp (dsimp := false) only [push_cast, hP, hnt, hgw, hgb, sevalprocAttr, hsum, List.all_cons, List.all_nil, List.getElem?_cons_zero, List.getElem?_cons_succ]; rfl) ?_
        simp (dsimp := false) only [push_cast, hP, hnt, hgw, hgb, sevalprocAttr, hsum, List.all_cons, List.all_nil]
        refine guardR_may (by simp (dsimp := false) only [push_cast, hP, hnt, hgw, hgb, sevalprocAttr, hsum, List.all_cons, List.all_nil, List.getElem?_cons_zero, List.getElem?_cons_succ]; rfl) ?_
        simp (dsimp := false) only [push_cast, hP, hnt, hgw, hgb, sevalprocAttr, hsum, List.all_cons, List.all_nil]
        refine guardR_may (by simp (dsimp := false) only [push_cast, hP, hnt, hgw, hgb, sevalprocAttr, hsum, List.all_cons, List.all_nil, List.getElem?_cons_zero, List.getElem?_cons_succ]; rfl) ?_
        simp (dsimp := false) only [push_cast, hP, hnt, hgw, hgb, sevalprocAttr, hsum, List.all_cons, List.all_nil]
        refine guardR_may (by simp (dsimp := false) only [push_cast, hP, hnt, hgw, hgb, sevalprocAttr, hsum, List.all_cons, List.all_nil, List.getElem?_cons_zero, List.getElem?_cons_succ]; rfl) ?_
        simp (dsimp := false) only [push_cast, hP, hnt, hgw, hgb, sevalprocAttr, hsum, List.all_cons, List.all_nil]
        refine guardR_may (by simp (dsimp := false) only [push_cast, hP, hnt, hgw, hgb, sevalprocAttr, hsum, List.all_cons, List.all_nil, List.getElem?_cons_zero, List.getElem?_cons_succ]; rfl) ?_
        simp (dsimp := false) only [push_cast, hP, hnt, hgw, hgb, sevalprocAttr, hsum, List.all_cons, List.all_nil]
        refine guardR_may (by simp (dsimp := false) only [push_cast, hP, hnt, hgw, hgb, sevalprocAttr, hsum, List.all_cons, List.all_nil, List.getElem?_cons_zero, List.getElem?_cons_succ]; rfl) ?_
        simp (dsimp := false) only [push_cast, hP, hnt, hgw, hgb, sevalprocAttr, hsum, List.all_cons, List.all_nil]
        refine guardR_may (by simp (dsimp := false) only [push_cast, hP, hnt, hgw, hgb, sevalprocAttr, hsum, List.all_cons, List.all_nil, List.getElem?_cons_zero, List.getElem?_cons_succ]; rfl) ?_
        simp (dsimp := false) only [push_cast, hP, hnt, hgw, hgb, sevalprocAttr, hsum, List.all_cons, List.all_nil]
        refine guardR_may (by simp (dsimp := false) only [push_cast, hP, hnt, hgw, hgb, sevalprocAttr, hsum, List.all_cons, List.all_nil, List.getElem?_cons_zero, List.getElem?_cons_succ]; rfl) ?_
        simp (dsimp := false) only [push_cast, hP, hnt, hgw, hgb, sevalprocAttr, hsum, List.all_cons, List.all_nil]
        refine guardR_may (by simp (dsimp := false) only [push_cast, hP, hnt, hgw, hgb, sevalprocAttr, hsum, List.all_cons, List.all_nil, List.getElem?_cons_zero, List.getElem?_cons_succ]; rfl) ?_
        simp (dsimp := false) only [push_cast, hP, hnt, hgw, hgb, sevalprocAttr, hsum, List.all_cons, List.all_nil]
        refine callE_intro (within_call gw gb 2001 [v.lit] (by simp)) (.inl ⟨rfl, rfl⟩) ?_
        refine ⟨rfl, ?_⟩
        simp (dsimp := false) only [push_cast, hP, hnt, hgw, hgb, sevalprocAttr, hsum, List.all_cons, List.all_nil]
        refine guardR_may (by simp (dsimp := false) only [push_cast, hP, hnt, hgw, hgb, sevalprocAttr, hsum, List.all_cons, List.all_nil, List.getElem?_cons_zero, List.getElem?_cons_succ]; rfl) ?_
        simp (dsimp := false) only [push_cast, hP, hnt, hgw, hgb, sevalprocAttr, hsum, List.all_cons, List.all_nil]
        refine hK _ ?_; clear hK
        refine vwp_cond (b := _) (by simp (dsimp := false) only [push_cast, hP, hnt, hgw, hgb, sevalprocAttr, hsum, List.all_cons, List.all_nil]; rfl) (fun rb6 => ?_) (fun rb6 => ?_)
        · have hb6 := rb6
          try simp only [beq_iff_eq, bne_iff_ne, ne_eq, bne_eq_false_iff_eq, beq_eq_false_iff_ne, decide_eq_true_eq, decide_eq_false_iff_not, Bool.not_eq_true', Bool.not_eq_false', Bool.or_eq_true, Bool.and_eq_true, Bool.or_eq_false_iff, Bool.and_eq_false_iff] at hb6
          refine vwp_seq_region rfl fun K hK => ?_
          simp (dsimp := false) only [push_cast, hP, hnt, hgw, hgb, sevalprocAttr, hsum, List.all_cons, List.all_nil]
          refine hK _ ?_; clear hK
          refine vwp_ret ?_
          refine ret_free (by simp (dsimp := false) only [push_cast, hP, hnt, hgw, hgb, sevalprocAttr, hsum, List.all_cons, List.all_nil]; rfl) (by simp (dsimp := false) only [push_cast, hP, hnt, hgw, hgb, sevalprocAttr, hsum, List.all_cons, List.all_nil]) ?_
          rw [mayF_no (by rintro (⟨h1, h2, h3⟩ | ⟨h1, h2, h3, h4⟩ | ⟨h1, h2, h3, h4⟩) <;> first | omega | (rcases hb6 with ((g | g | g) | g) | g <;> first | omega | (simp_all; done) | (simp_all; omega)))]; rfl
        · have hb6 := rb6
          try simp only [beq_iff_eq, bne_iff_ne, ne_eq, bne_eq_false_iff_eq, beq_eq_false_iff_ne, decide_eq_true_eq, decide_eq_false_iff_not, Bool.not_eq_true', Bool.not_eq_false', Bool.or_eq_true, Bool.and_eq_true, Bool.or_eq_false_iff, Bool.and_eq_false_iff] at hb6
          refine vwp_skip ?_
          apply_assumption
          refine vwp_seq fun K hK => ?_
          refine vwp_seq_region rfl fun K hK => ?_
          simp (dsimp := false) only [push_cast, hP, hnt, hgw, hgb, sevalprocAttr, hsum, List.all_cons, List.all_nil]
          refine hK _ ?_; clear hK
          refine vwp_block ?_
          refine vwp_loop (fun m σ => ∃ (i : Int), m = (v.ands.length - i).toNat ∧ ((0 ≤ i) ∧ (i ≤ v.ands.length) ∧ ((v.ands.drop i.toNat).all gateF = v.ands.all gateF)) ∧ σ = St.of [(1, .one (.loc (2, 0) 0)), (118, .one (.sl false v.ands.length (v.ands.flatMap fun g => [.c (.int .i64 g.1), .c (.int .i64 g.2)]))), (119, .one (.c (.int .i64 v.ands.length))), (120, .one (.c (.int .i64 i)))] [((2, 0), .box 34 (v.pcs false))] [1]) _ ⟨_, ?_, 0, rfl, ?_, rfl⟩ ?_
          · refine wk_conv [] [((2, 0), (2, 0))] (by simp) (by simp) (by decide) ?_ ?_
            · refine hf_cons (by simp (dsimp := false) only [push_cast, ↓reduceIte, Nat.reduceEqDiff, Nat.reduceAdd, reduceCtorEq, hsum, List.all_cons, List.all_nil] <;> rfl) (by exact .one (.loc (by simp))) ?_
              refine hf_cons (by simp (dsimp := false) only [push_cast, ↓reduceIte, Nat.reduceEqDiff, Nat.reduceAdd, reduceCtorEq, hsum, List.all_cons, List.all_nil] <;> rfl) (by repeat' (first | exact ConvVs.nil | exact ConvL.nil | refine ConvV.tup ?_ | refine ConvVs.cons ?_ ?_ | (refine ConvV.self ?_; simp only [push_cast]; done) | refine ConvV.one ?_ | refine ConvV.agg ?_ | (refine ConvL.free ?_; simp only [push_cast]; done) | refine ConvL.append ?_ ?_ | refine ConvL.cons ?_ ?_ | exact Conv.free rfl | exact Conv.nil | (refine Conv.own ?_; simp; done) | (refine Conv.loc ?_; simp; done) | refine Conv.frz (by simp) (by simp (dsimp := false) only [push_cast, ↓reduceIte, Nat.reduceEqDiff, Nat.reduceAdd, reduceCtorEq, hsum, List.all_cons, List.all_nil] <;> rfl) ?_ | refine Conv.sl (by simp) ?_ | refine Conv.fn ?_)) ?_
              refine hf_cons (by simp (dsimp := false) only [push_cast, ↓reduceIte, Nat.reduceEqDiff, Nat.reduceAdd, reduceCtorEq, hsum, List.all_cons, List.all_nil] <;> rfl) (by exact ConvV.self rfl) ?_
              refine hf_cons (by simp (dsimp := false) only [push_cast, ↓reduceIte, Nat.reduceEqDiff, Nat.reduceAdd, reduceCtorEq, hsum, List.all_cons, List.all_nil] <;> rfl) (by exact ConvV.self rfl) ?_
              exact hf_nil
            · refine hh_cons (i := (2, 0)) (by simp) (by simp) (by simp (dsimp := false) only [push_cast, ↓reduceIte, Nat.reduceEqDiff, Nat.reduceAdd, reduceCtorEq, hsum, List.all_cons, List.all_nil] <;> rfl) (by first | (refine ConvB.free ?_; simp only [push_cast]; done) | (refine ConvB.box ?_; repeat' (first | exact ConvVs.nil | exact ConvL.nil | refine ConvV.tup ?_ | refine ConvVs.cons ?_ ?_ | (refine ConvV.self ?_; simp only [push_cast]; done) | refine ConvV.one ?_ | refine ConvV.agg ?_ | (refine ConvL.free ?_; simp only [push_cast]; done) | refine ConvL.append ?_ ?_ | refine ConvL.cons ?_ ?_ | exact Conv.free rfl | exact Conv.nil | (refine Conv.own ?_; simp; done) | (refine Conv.loc ?_; simp; done) | refine Conv.frz (by simp) (by simp (dsimp := false) only [push_cast, ↓reduceIte, Nat.reduceEqDiff, Nat.reduceAdd, reduceCtorEq, hsum, List.all_cons, List.all_nil] <;> rfl) ?_ | refine Conv.sl (by simp) ?_ | refine Conv.fn ?_))) ?_
              exact hh_nil
          · exact ⟨by omega, by omega, rfl⟩
          · rintro m τ ⟨i, hm, ⟨hi0, hi1, hi2⟩, rfl⟩ K hL3
            have hw := fun h : i < (v.ands.length : Int) => wrap_next hi0 h (by have := hf.ands; omega)
            have hd := fun h : i < (v.ands.length : Int) => dropI_two (fun g : Int × Int => PC.c (Value.int .i64 g.1)) (fun g => PC.c (Value.int .i64 g.2)) hi0 h
            refine vwp_seq_region rfl fun K hK => ?_
            simp (dsimp := false) only [push_cast, hP, hnt, hgw, hgb, sevalprocAttr, hsum, List.all_cons, List.all_nil, hi0]
            refine hK _ ?_; clear hK
            refine vwp_seq fun K hK => ?_
            refine vwp_cond (b := _) (by simp (dsimp := false) only [push_cast, hP, hnt, hgw, hgb, sevalprocAttr, hsum, List.all_cons, List.all_nil, hi0]; rfl) (fun rb7 => ?_) (fun rb7 => ?_)
            · have hb7 := rb7
              try simp only [beq_iff_eq, bne_iff_ne, ne_eq, bne_eq_false_iff_eq, beq_eq_false_iff_ne, decide_eq_true_eq, decide_eq_false_iff_not, Bool.not_eq_true', Bool.not_eq_false', Bool.or_eq_true, Bool.and_eq_true, Bool.or_eq_false_iff, Bool.and_eq_false_iff] at hb7
              have hw := hw hb7
              have hd := hd hb7
              refine vwp_skip ?_
              apply_assumption
              refine vwp_seq fun K hK => ?_
              refine vwp_block ?_
              refine vwp_seq_region rfl fun K hK => ?_
              simp (dsimp := false) only [push_cast, hP, hnt, hgw, hgb, sevalprocAttr, hsum, List.all_cons, List.all_nil, hi0, hw, hd, hb7]
              refine hK _ ?_; clear hK
              refine vwp_seq_region rfl fun K hK => ?_
              simp (dsimp := false) only [push_cast, hP, hnt, hgw, hgb, sevalprocAttr, hsum, List.all_cons, List.all_nil, hi0, hw, hd, hb7]
              refine .inl (callE_intro (within_call gw gb 2001 [(atI v.ands i).1, (atI v.ands i).2] (by simp)) (.inl ⟨rfl, rfl⟩) ?_)
              simp (dsimp := false) only [push_cast, hP, hnt, hgw, hgb, sevalprocAttr, hsum, List.all_cons, List.all_nil, hi0, hw, hd, hb7]
              refine hK _ ?_; clear hK
              refine vwp_cond (b := _) (by simp (dsimp := false) only [push_cast, hP, hnt, hgw, hgb, sevalprocAttr, hsum, List.all_cons, List.all_nil, hi0, hw, hd, hb7]; rfl) (fun rb8 => ?_) (fun rb8 => ?_)
              · have hb8 := rb8
                try simp only [beq_iff_eq, bne_iff_ne, ne_eq, bne_eq_false_iff_eq, beq_eq_false_iff_ne, decide_eq_true_eq, decide_eq_false_iff_not, Bool.not_eq_true', Bool.not_eq_false', Bool.or_eq_true, Bool.and_eq_true, Bool.or_eq_false_iff, Bool.and_eq_false_iff] at hb8
                refine vwp_seq_region rfl fun K hK => ?_
                simp (dsimp := false) only [push_cast, hP, hnt, hgw, hgb, sevalprocAttr, hsum, List.all_cons, List.all_nil, hi0, hw, hd, hb7]
                refine hK _ ?_; clear hK
                refine vwp_ret ?_
                refine ret_free (by simp (dsimp := false) only [push_cast, hP, hnt, hgw, hgb, sevalprocAttr, hsum, List.all_cons, List.all_nil, hi0, hw, hd, hb7]; rfl) (by simp (dsimp := false) only [push_cast, hP, hnt, hgw, hgb, sevalprocAttr, hsum, List.all_cons, List.all_nil, hi0, hw, hd, hb7]) ?_
                rw [mayF_no (by have ha := all_stop hi0 hb7 hi2 (by unfold gateF; rcases hb8 with g | g <;> simp [g]); rintro (⟨h1, h2, h3⟩ | ⟨h1, h2, h3, h4⟩ | ⟨h1, h2, h3, h4⟩) <;> first | omega | (simp_all; done) | (simp_all; omega))]; rfl
              · have hb8 := rb8
                try simp only [beq_iff_eq, bne_iff_ne, ne_eq, bne_eq_false_iff_eq, beq_eq_false_iff_ne, decide_eq_true_eq, decide_eq_false_iff_not, Bool.not_eq_true', Bool.not_eq_false', Bool.or_eq_true, Bool.and_eq_true, Bool.or_eq_false_iff, Bool.and_eq_false_iff] at hb8
                refine vwp_skip ?_
                apply_assumption
                refine vwp_region rfl ?_
                simp (dsimp := false) only [push_cast, hP, hnt, hgw, hgb, sevalprocAttr, hsum, List.all_cons, List.all_nil, hi0, hw, hd, hb7]
                refine hL3 _ _ _ ?_ ?_ ⟨i + 1, rfl, ?_, rfl⟩
                · omega
                · refine wk_conv [] [((2, 0), (2, 0))] (by simp) (by simp) (by decide) ?_ ?_
                  · refine hf_cons (by simp (dsimp := false) only [push_cast, ↓reduceIte, Nat.reduceEqDiff, Nat.reduceAdd, reduceCtorEq, hsum, List.all_cons, List.all_nil, hi0, hw, hd, hb7] <;> rfl) (by exact .one (.loc (by simp))) ?_
                    refine hf_cons (by simp (dsimp := false) only [push_cast, ↓reduceIte, Nat.reduceEqDiff, Nat.reduceAdd, reduceCtorEq, hsum, List.all_cons, List.all_nil, hi0, hw, hd, hb7] <;> rfl) (by repeat' (first | exact ConvVs.nil | exact ConvL.nil | refine ConvV.tup ?_ | refine ConvVs.cons ?_ ?_ | (refine ConvV.self ?_; simp only [push_cast]; done) | refine ConvV.one ?_ | refine ConvV.agg ?_ | (refine ConvL.free ?_; simp only [push_cast]; done) | refine ConvL.append ?_ ?_ | refine ConvL.cons ?_ ?_ | exact Conv.free rfl | exact Conv.nil | (refine Conv.own ?_; simp; done) | (refine Conv.loc ?_; simp; done) | refine Conv.frz (by simp) (by simp (dsimp := false) only [push_cast, ↓reduceIte, Nat.reduceEqDiff, Nat.reduceAdd, reduceCtorEq, hsum, List.all_cons, List.all_nil, hi0, hw, hd, hb7] <;> rfl) ?_ | refine Conv.sl (by simp) ?_ | refine Conv.fn ?_)) ?_
                    refine hf_cons (by simp (dsimp := false) only [push_cast, ↓reduceIte, Nat.reduceEqDiff, Nat.reduceAdd, reduceCtorEq, hsum, List.all_cons, List.all_nil, hi0, hw, hd, hb7] <;> rfl) (by exact ConvV.self rfl) ?_
                    refine hf_cons (by simp (dsimp := false) only [push_cast, ↓reduceIte, Nat.reduceEqDiff, Nat.reduceAdd, reduceCtorEq, hsum, List.all_cons, List.all_nil, hi0, hw, hd, hb7] <;> rfl) (by exact ConvV.self rfl) ?_
                    exact hf_nil
                  · refine hh_cons (i := (2, 0)) (by simp) (by simp) (by simp (dsimp := false) only [push_cast, ↓reduceIte, Nat.reduceEqDiff, Nat.reduceAdd, reduceCtorEq, hsum, List.all_cons, List.all_nil, hi0, hw, hd, hb7] <;> rfl) (by first | (refine ConvB.free ?_; simp only [push_cast]; done) | (refine ConvB.box ?_; repeat' (first | exact ConvVs.nil | exact ConvL.nil | refine ConvV.tup ?_ | refine ConvVs.cons ?_ ?_ | (refine ConvV.self ?_; simp only [push_cast]; done) | refine ConvV.one ?_ | refine ConvV.agg ?_ | (refine ConvL.free ?_; simp only [push_cast]; done) | refine ConvL.append ?_ ?_ | refine ConvL.cons ?_ ?_ | exact Conv.free rfl | exact Conv.nil | (refine Conv.own ?_; simp; done) | (refine Conv.loc ?_; simp; done) | refine Conv.frz (by simp) (by simp (dsimp := false) only [push_cast, ↓reduceIte, Nat.reduceEqDiff, Nat.reduceAdd, reduceCtorEq, hsum, List.all_cons, List.all_nil, hi0, hw, hd, hb7] <;> rfl) ?_ | refine Conv.sl (by simp) ?_ | refine Conv.fn ?_))) ?_
                    exact hh_nil
                · exact ⟨by omega, by omega, all_next hi0 hb7 hi2 (by unfold gateF; simp [hb8.1, hb8.2])⟩
            · have hb7 := rb7
              try simp only [beq_iff_eq, bne_iff_ne, ne_eq, bne_eq_false_iff_eq, beq_eq_false_iff_ne, decide_eq_true_eq, decide_eq_false_iff_not, Bool.not_eq_true', Bool.not_eq_false', Bool.or_eq_true, Bool.and_eq_true, Bool.or_eq_false_iff, Bool.and_eq_false_iff] at hb7
              refine vwp_exit ?_
              simp only [thenQ, blockQ, Nat.reduceEqDiff, reduceIte]
              apply_assumption
              refine vwp_seq_region rfl fun K hK => ?_
              simp (dsimp := false) only [push_cast, hP, hnt, hgw, hgb, sevalprocAttr, hsum, List.all_cons, List.all_nil, hi0]
              refine hK _ ?_; clear hK
              refine vwp_ret ?_
              refine ret_free (by simp (dsimp := false) only [push_cast, hP, hnt, hgw, hgb, sevalprocAttr, hsum, List.all_cons, List.all_nil, hi0]; rfl) (by simp (dsimp := false) only [push_cast, hP, hnt, hgw, hgb, sevalprocAttr, hsum, List.all_cons, List.all_nil, hi0]) ?_
              rw [(mayF_iff v).2 (.inr (.inr ⟨hb5, by omega, ⟨hb6.1.1.2.1, hb6.1.1.2.2, by omega, hb6.2⟩, all_end hb7 hi2⟩))]; rfl
      · have hb5 := rb5
        try simp only [beq_iff_eq, bne_iff_ne, ne_eq, bne_eq_false_iff_eq, beq_eq_false_iff_ne, decide_eq_true_eq, decide_eq_false_iff_not, Bool.not_eq_true', Bool.not_eq_false', Bool.or_eq_true, Bool.and_eq_true, Bool.or_eq_false_iff, Bool.and_eq_false_iff] at hb5
        refine vwp_skip ?_
        apply_assumption
        refine vwp_seq_region rfl fun K hK => ?_
        simp (dsimp := false) only [push_cast, hP, hnt, hgw, hgb, sevalprocAttr, hsum, List.all_cons, List.all_nil]
        refine hK _ ?_; clear hK
        refine vwp_ret ?_
        refine ret_free (by simp (dsimp := false) only [push_cast, hP, hnt, hgw, hgb, sevalprocAttr, hsum, List.all_cons, List.all_nil]; rfl) (by simp (dsimp := false) only [push_cast, hP, hnt, hgw, hgb, sevalprocAttr, hsum, List.all_cons, List.all_nil]) ?_
        rw [mayF_no (by rintro (⟨h1, h2, h3⟩ | ⟨h1, h2, h3, h4⟩ | ⟨h1, h2, h3, h4⟩) <;> omega)]; rfl
end Go.Vm
end

section
namespace Go.Vm
open Go Go.RowKit Go.Proofs
set_option maxRecDepth 100000
set_option linter.unusedSimpArgs false
set_option linter.unusedVariables false
set_option maxHeartbeats 4000000

/-! ### What the library gives -/
theorem vcall_fresh_row {P : Program} {gw : World} {gb : Nat} {f : FuncId} (hc : Callable P f) (args vs : List Value) (n : Nat) (ty : TypeId) (hn : vs.length = n) (h1 : ∀ v ∈ vs, v.oneCell' = true)
    (h : ∀ w, Alike gw gb w → Calls P f args.toArray w fun e w' => e = .returned (.slice (some ⟨w.heap.size, 0, none⟩) n n) ∧ w' = w.alloc (.cells vs.toArray ty)) :
    VCall P gw gb f (args.map fun v => .one (.c v)) (.one (.sl true n (vs.map .c))) [] := by
  refine ⟨hc, fun w xs F hgb hgl hlt hr => ?_⟩
  have hx := repVs_plain _ _ hr
  have hxs : xs = args.toArray := by rw [← hx]
  subst hxs
  refine (h w ⟨hgb, hgl⟩).mono fun e w' he => ?_
  obtain ⟨rfl, rfl⟩ := he
  have hh : (w.alloc (.cells vs.toArray ty)).heap[w.heap.size]? = some (.cells vs.toArray ty (0, 0)) := heap_alloc_new w _
  refine ⟨_, fun _ => none, fun g => g = w.heap.size, rfl, ⟨rfl, rfl, rfl, by simp, fun k hk => Lib.alloc_old w _ k hk⟩, fun g hg => by subst hg; exact ⟨Nat.le_refl _, by simp⟩, ?_, by simp, by simp, by simp, by simp⟩
  simp only [repV, rep]
  refine ⟨_, n, rfl, Nat.le_refl _, .inr ⟨_, rfl, rfl, repAt_of_get _ _ fun j p hp => ?_⟩⟩
  rw [List.getElem?_map] at hp
  obtain ⟨v, hv, rfl⟩ := Option.map_eq_some_iff.1 hp
  refine ⟨v, ?_, by simp only [rep]; exact ⟨trivial, h1 v (List.mem_of_getElem? hv)⟩⟩
  rw [Addr.add_lit, cell_of_row _ _ _ _ ty (0, 0) hh]
  simpa using hv

def joinS (sep : ByteArray) (ws : List ByteArray) : ByteArray := ⟨(Lib.join (ws.map (·.data.toList)) sep.data.toList).toArray⟩
theorem join_call (gw : World) (gb : Nat) (ss : List ByteArray) (sep : ByteArray) (hs : ss.length ≤ 100000) (hlen : (joinS sep ss).size ≤ 140737488355328) :
    VCall Tryz.prog gw gb 27 [.one (.sl false ss.length (ss.map fun s => .c (.string s))), .one (.c (.string sep))] (.one (.c (.string (joinS sep ss)))) [] := by
  have key := vcall_row (gw := gw) (gb := gb) (callable_of Tryz.func27 rfl rfl) (ss.map Value.string) [.string sep] (.one (.c (.string (joinS sep ss)))) (fun w b off cap _ hb hcap hcell => ?_) (fun h0 w A cap _ => ?_)
  · simpa [List.map_map, Function.comp_def] using key
  · have := Tryz.strings_Join b off cap ss sep w (fun j x hj => hcell j _ (by simp [hj])) hb (by omega) (by simpa using hcap) (by simpa [joinS, ByteArray.size] using hlen)
    simp only [List.length_map]
    exact this.mono fun e w' ⟨he, hw⟩ => ⟨_, he, hw, fun F => by simp only [repV, rep]; exact ⟨rfl, rfl⟩⟩
  · have h0 : ss = [] := by simpa using h0
    subst h0
    exact (Tryz.strings_Join_none A cap sep w).mono fun e w' ⟨he, hw⟩ => ⟨_, he, hw ▸ Below.refl _ _, fun F => by simp only [repV, rep]; exact ⟨rfl, rfl⟩⟩

def itoaB (n : Int) : ByteArray := bOf (Lib.itoa n)
theorem itoaG_call (gw : World) (hg : Glob gw) (n : Int) (h0 : -9223372036854775808 ≤ n) (h1 : n ≤ 9223372036854775807) : VCall Tryz.prog gw gw.heap.size 29 [.one (.c (.int .i64 n))] (.one (.c (.string (itoaB n)))) [] := by
  refine vcall_plain (callable_of Tryz.func29 rfl rfl) [.int .i64 n] _ fun w hw => ?_
  have htab : Lib.TabIs Tryz.prog w "internal/strconv.uint64pow10" .u64 Lib.pow10Tab := ?_
  · refine (Tryz.strconv_Itoa n h0 h1 w htab).mono fun e w' ⟨he, k, os, hw'⟩ => ⟨_, he, ?_, fun F => by simp only [repV, rep]; exact ⟨rfl, rfl⟩⟩
    rw [hw']
    exact Lib.below_grow _ w (Nat.le_refl _) k os
  · exact var_alike hw hg.pow10

theorem hasSuffix_call (gw : World) (gb : Nat) (s p : ByteArray) (hs : s.size ≤ 9223372036854775807) : VCall Tryz.prog gw gb 39 [.one (.c (.string s)), .one (.c (.string p))] (.one (.c (.bool (Lib.hasSuffix s.data.toList p.data.toList)))) [] :=
  vcall_plain (callable_of Tryz.func39 rfl rfl) [.string s, .string p] _ fun w _ => (Tryz.strings_HasSuffix s p w hs).mono fun e w' ⟨he, hw⟩ => ⟨_, he, hw ▸ Below.refl _ _, fun F => by simp only [repV, rep]; exact ⟨trivial, rfl⟩⟩

theorem trimSuffix_call (gw : World) (gb : Nat) (s p : ByteArray) (hs : s.size ≤ 9223372036854775807) : VCall Tryz.prog gw gb 41 [.one (.c (.string s)), .one (.c (.string p))] (.one (.c (.string (bOf (Lib.trimSuffix s.data.toList p.data.toList))))) [] :=
  vcall_plain (callable_of Tryz.func41 rfl rfl) [.string s, .string p] _ fun w _ => (Tryz.strings_TrimSuffix s p w hs).mono fun e w' ⟨he, hw⟩ => ⟨_, he, hw ▸ Below.refl _ _, fun F => by simp only [repV, rep]; exact ⟨rfl, rfl⟩⟩

def splitS (s sep : ByteArray) : List ByteArray := Lib.splitB sep 0 (Lib.countB s sep) s
theorem splitS_len (s sep : ByteArray) (h1 : 1 ≤ sep.size) : (splitS s sep).length = Lib.countB s sep + 1 := Lib.splitB_all sep h1 0 _ s rfl
theorem split_call (gw : World) (hg : Glob gw) (s sep : ByteArray) (hs : s.size ≤ 100000) (h1 : 1 ≤ sep.size) :
    VCall Tryz.prog gw gw.heap.size 40 [.one (.c (.string s)), .one (.c (.string sep))] (.one (.sl true (splitS s sep).length ((splitS s sep).map fun s => .c (.string s)))) [] := by
  obtain ⟨m, hm⟩ := hg.maxlen
  have := vcall_fresh_row (gw := gw) (gb := gw.heap.size) (callable_of Tryz.func40 rfl rfl) [.string s, .string sep] ((splitS s sep).map Value.string) (splitS s sep).length 9 (by simp) (fun v hv => by
    obtain ⟨b, _, rfl⟩ := List.mem_map.1 hv; rfl) (fun w hw => ?_)
  · simpa [List.map_map, Function.comp_def] using this
  · rw [splitS_len s sep h1]
    exact Tryz.strings_Split s sep m w (by omega) (cell_alike hw hm) h1

def cutL (s sep : ByteArray) : ByteArray := bOf (Lib.cut s.data.toList sep.data.toList).1
def cutT (s sep : ByteArray) : ByteArray := bOf (Lib.cut s.data.toList sep.data.toList).2.1
theorem cutS_call (gw : World) (hg : Glob gw) (s sep : ByteArray) (hs : s.size ≤ 100000) : VCall Tryz.prog gw gw.heap.size 42 [.one (.c (.string s)), .one (.c (.string sep))] (.tup [.one (.c (.string (cutL s sep))), .one (.c (.string (cutT s sep))), .one (.c (.bool (Lib.cut s.data.toList sep.data.toList).2.2))]) [] := by
  obtain ⟨m, hm⟩ := hg.maxlen
  refine vcall_plain (callable_of Tryz.func42 rfl rfl) [.string s, .string sep] _ fun w hw => (Tryz.strings_Cut s sep m w (by omega) (cell_alike hw hm)).mono fun e w' ⟨he, n, hn⟩ => ⟨_, he, hn ▸ below_drewN' w n, fun F => ?_⟩
  simp only [repV, repVs, rep]
  exact ⟨_, rfl, _, _, rfl, ⟨rfl, rfl⟩, _, _, rfl, ⟨rfl, rfl⟩, _, _, rfl, ⟨rfl, rfl⟩, rfl⟩
end Go.Vm
end

section
namespace Go.Vm
open Go Go.RowKit Go.Proofs
set_option maxRecDepth 100000
set_option linter.unusedSimpArgs false
set_option linter.unusedVariables false
set_option maxHeartbeats 4000000

def u8c (b : UInt8) : PC := .c (.int .u8 (b.toNat : Int))
def rowU (l : List UInt8) : Blk := .arr 5 1 l.length (l.map u8c)
theorem strCells_map (s : ByteArray) : (Lib.strCells s).map PC.c = s.data.toList.map u8c := by simp [Lib.strCells, u8c, List.map_map, Function.comp_def]
theorem size_list (s : ByteArray) : s.size = s.data.toList.length := Lib.size_eq s
theorem u8c_free (l : List UInt8) : PC.frees (l.map u8c) = true := by rw [frees_map]; simp [u8c, PC.free]
theorem u8c_tag0 (l : List UInt8) : PC.tag0s (l.map u8c) = true := by rw [tag0s_map]; simp [u8c, PC.tag0]
theorem u8c_ioc (M : List Id) (l : List UInt8) : PC.iocs M (l.map u8c) = l.map u8c := by rw [iocs_map]; rfl
theorem u8c_iob (M : List Id) (s : Nat) (l : List UInt8) : PC.iobs M s (l.map u8c) = l.map u8c := by rw [iobs_map]; rfl
theorem u8c_strict (l : List UInt8) : PC.stricts (l.map u8c) = true := by rw [stricts_map]; simp [u8c, PC.strict]
theorem copyCheck_call (gw : World) (gb : Nat) (p q : PC) (hp : BuilderHead p) (bs : List Blk) :
    VCallIO Tryz.prog gw gb 50 [.one (.loc (0, 0) 0)] (.box 66 [p, q] :: bs) (.tup []) (some (.box 66 [.loc (0, 0) 0, q]) :: bs.map some) :=
  copyCheck_io (callable_of Tryz.func50 rfl rfl) copyCheck_used copyCheck_fresh p q hp bs
theorem bstring_call (gw : World) (gb : Nat) (p : PC) (l : List UInt8) (hl : l ≠ []) :
    VCallIO Tryz.prog gw gb 31 [.one (.loc (0, 0) 0)] [.box 66 [p, .own (0, 1)], rowU l] (.one (.c (.string (bOf l)))) [none, none] :=
  string_io Tryz.lays169 Tryz.Builder_Extra_169 (callable_of Tryz.func31 rfl rfl) p l hl l.length _ rfl (by simp [Lib.byteCells, u8c, List.map_map, Function.comp_def])

theorem writeString_call0 (gw : World) (gb : Nat) (l : List UInt8) (s : ByteArray) (hn : l.length + s.size ≤ 140737488355328) : VCallIO Tryz.prog gw (gb) 26 [.one (.loc (0, 0) 0), .one (.c (.string s))] [.box 66 [.c (.pointer none), .own (0, 1)], rowU l] (.tup [.one (.c (.int .i64 s.size)), .one (.c .nilIface)]) [some (.box 66 [.loc (0, 0) 0, .own (0, 2)]), none, some (rowU (l ++ s.data.toList))] := by
  refine vcallIO_of [.tmp 4, .tmp 5] Tryz.func26 rfl rfl Tryz.ntmps26 rfl (by simp) (by simp) ?_
  intro C hP hnt hgw hgb
  refine vwp_seq_region rfl fun K hK => ?_
  simp (dsimp := false) only [push_cast, hP, hnt, hgw, hgb, sevalprocAttr, rowU, u8c_free, u8c_tag0, u8c_ioc, u8c_iob, u8c_strict, hn, strCells_map]
  refine hK _ ?_; clear hK
  refine vwp_seq_region rfl fun K hK => ?_
  simp (dsimp := false) only [push_cast, hP, hnt, hgw, hgb, sevalprocAttr, rowU, u8c_free, u8c_tag0, u8c_ioc, u8c_iob, u8c_strict, hn, strCells_map]
  first | refine ioE_intro [(0, 0), (0, 1)] (copyCheck_call gw gb (.c (.pointer none)) (.own (0, 1)) (.inl rfl) [rowU l]) (by first | (simp (dsimp := false) only [push_cast, hP, hnt, hgw, hgb, sevalprocAttr, rowU, u8c_free, u8c_tag0, u8c_ioc, u8c_iob, u8c_strict, hn, strCells_map]; rfl) | (simp (dsimp := false) only [push_cast, hP, hnt, hgw, hgb, sevalprocAttr, rowU, u8c_free, u8c_tag0, u8c_ioc, u8c_iob, u8c_strict, hn, strCells_map]; done)) (by first | rfl | (simp (dsimp := false) only [push_cast, hP, hnt, hgw, hgb, sevalprocAttr, rowU, u8c_free, u8c_tag0, u8c_ioc, u8c_iob, u8c_strict, hn, strCells_map]; done) | (simp (dsimp := false) only [push_cast, hP, hnt, hgw, hgb, sevalprocAttr, rowU, u8c_free, u8c_tag0, u8c_ioc, u8c_iob, u8c_strict, hn, strCells_map]; rfl)) (by first | rfl | (simp (dsimp := false) only [push_cast, hP, hnt, hgw, hgb, sevalprocAttr, rowU, u8c_free, u8c_tag0, u8c_ioc, u8c_iob, u8c_strict, hn, strCells_map]; done) | (simp (dsimp := false) only [push_cast, hP, hnt, hgw, hgb, sevalprocAttr, rowU, u8c_free, u8c_tag0, u8c_ioc, u8c_iob, u8c_strict, hn, strCells_map]; rfl)) (by first | rfl | (simp (dsimp := false) only [push_cast, hP, hnt, hgw, hgb, sevalprocAttr, rowU, u8c_free, u8c_tag0, u8c_ioc, u8c_iob, u8c_strict, hn, strCells_map]; done)) (.inl ⟨rfl, by simp (dsimp := false) only [push_cast, hP, hnt, hgw, hgb, sevalprocAttr, rowU, u8c_free, u8c_tag0, u8c_ioc, u8c_iob, u8c_strict, hn, strCells_map]⟩) ?_ | refine .inr (ioE_intro [(0, 0), (0, 1)] (copyCheck_call gw gb (.c (.pointer none)) (.own (0, 1)) (.inl rfl) [rowU l]) (by first | (simp (dsimp := false) only [push_cast, hP, hnt, hgw, hgb, sevalprocAttr, rowU, u8c_free, u8c_tag0, u8c_ioc, u8c_iob, u8c_strict, hn, strCells_map]; rfl) | (simp (dsimp := false) only [push_cast, hP, hnt, hgw, hgb, sevalprocAttr, rowU, u8c_free, u8c_tag0, u8c_ioc, u8c_iob, u8c_strict, hn, strCells_map]; done)) (by first | rfl | (simp (dsimp := false) only [push_cast, hP, hnt, hgw, hgb, sevalprocAttr, rowU, u8c_free, u8c_tag0, u8c_ioc, u8c_iob, u8c_strict, hn, strCells_map]; done) | (simp (dsimp := false) only [push_cast, hP, hnt, hgw, hgb, sevalprocAttr, rowU, u8c_free, u8c_tag0, u8c_ioc, u8c_iob, u8c_strict, hn, strCells_map]; rfl)) (by first | rfl | (simp (dsimp := false) only [push_cast, hP, hnt, hgw, hgb, sevalprocAttr, rowU, u8c_free, u8c_tag0, u8c_ioc, u8c_iob, u8c_strict, hn, strCells_map]; done) | (simp (dsimp := false) only [push_cast, hP, hnt, hgw, hgb, sevalprocAttr, rowU, u8c_free, u8c_tag0, u8c_ioc, u8c_iob, u8c_strict, hn, strCells_map]; rfl)) (by first | rfl | (simp (dsimp := false) only [push_cast, hP, hnt, hgw, hgb, sevalprocAttr, rowU, u8c_free, u8c_tag0, u8c_ioc, u8c_iob, u8c_strict, hn, strCells_map]; done)) (.inl ⟨rfl, by simp (dsimp := false) only [push_cast, hP, hnt, hgw, hgb, sevalprocAttr, rowU, u8c_free, u8c_tag0, u8c_ioc, u8c_iob, u8c_strict, hn, strCells_map]⟩) ?_)
  simp (dsimp := false) only [push_cast, hP, hnt, hgw, hgb, sevalprocAttr, rowU, u8c_free, u8c_tag0, u8c_ioc, u8c_iob, u8c_strict, hn, strCells_map]
  refine hK _ ?_; clear hK
  refine vwp_seq_region rfl fun K hK => ?_
  simp (dsimp := false) only [push_cast, hP, hnt, hgw, hgb, sevalprocAttr, rowU, u8c_free, u8c_tag0, u8c_ioc, u8c_iob, u8c_strict, hn, strCells_map]
  refine hK _ ?_; clear hK
  refine vwp_seq_region rfl fun K hK => ?_
  simp (dsimp := false) only [push_cast, hP, hnt, hgw, hgb, sevalprocAttr, rowU, u8c_free, u8c_tag0, u8c_ioc, u8c_iob, u8c_strict, hn, strCells_map]
  refine hK _ ?_; clear hK
  refine vwp_ret ?_
  refine ret_io [] [((0, 0), (0, 0)), ((15, 0), (0, 2))] (by simp (dsimp := false) only [push_cast, hP, hnt, hgw, hgb, sevalprocAttr, rowU, u8c_free, u8c_tag0, u8c_ioc, u8c_iob, u8c_strict, hn, strCells_map]; rfl) (by simp) (by simp) (by first | decide | simp) ?_ ?_
  · simp only [pack]
    repeat' (first | exact ConvVs.nil | exact ConvL.nil | refine ConvV.tup ?_ | refine ConvVs.cons ?_ ?_ | (refine ConvV.self ?_; simp only [push_cast, u8c_free]; done) | refine ConvV.one ?_ | refine ConvV.agg ?_ | (refine ConvL.free ?_; simp only [push_cast, u8c_free]; done) | refine ConvL.append ?_ ?_ | refine ConvL.cons ?_ ?_ | exact Conv.free rfl | exact Conv.nil | (refine Conv.own ?_; simp; done) | (refine Conv.loc ?_; simp; done) | refine Conv.frz (by simp) (by simp (dsimp := false) only [push_cast, ↓reduceIte, Nat.reduceEqDiff, Nat.reduceAdd, reduceCtorEq, rowU, u8c_free, u8c_tag0, u8c_ioc, u8c_iob, u8c_strict, hn, strCells_map] <;> rfl) ?_ | refine Conv.sl (by simp) ?_ | refine Conv.fn ?_)
  · refine rio_cons ⟨(0, 0), _, by simp, by simp, by simp (dsimp := false) only [push_cast, ↓reduceIte, Nat.reduceEqDiff, Nat.reduceAdd, reduceCtorEq, rowU, u8c_free, u8c_tag0, u8c_ioc, u8c_iob, u8c_strict, hn, strCells_map] <;> rfl, by first | (refine ConvB.free ?_; simp only [push_cast]; done) | ((first | refine ConvB.arr ?_ | refine ConvB.box ?_); repeat' (first | exact ConvVs.nil | exact ConvL.nil | refine ConvV.tup ?_ | refine ConvVs.cons ?_ ?_ | (refine ConvV.self ?_; simp only [push_cast, u8c_free]; done) | refine ConvV.one ?_ | refine ConvV.agg ?_ | (refine ConvL.free ?_; simp only [push_cast, u8c_free]; done) | refine ConvL.append ?_ ?_ | refine ConvL.cons ?_ ?_ | exact Conv.free rfl | exact Conv.nil | (refine Conv.own ?_; simp; done) | (refine Conv.loc ?_; simp; done) | refine Conv.frz (by simp) (by simp (dsimp := false) only [push_cast, ↓reduceIte, Nat.reduceEqDiff, Nat.reduceAdd, reduceCtorEq, rowU, u8c_free, u8c_tag0, u8c_ioc, u8c_iob, u8c_strict, hn, strCells_map] <;> rfl) ?_ | refine Conv.sl (by simp) ?_ | refine Conv.fn ?_))⟩ ?_
    refine rio_none ?_
    refine rio_cons ⟨(15, 0), _, by simp, by simp, by simp (dsimp := false) only [push_cast, ↓reduceIte, Nat.reduceEqDiff, Nat.reduceAdd, reduceCtorEq, rowU, u8c_free, u8c_tag0, u8c_ioc, u8c_iob, u8c_strict, hn, strCells_map] <;> rfl, by rw [rowU, List.map_append, List.length_append, ← size_list]; exact ConvB.arr (ConvL.free (by rw [frees_append, u8c_free, u8c_free]; rfl))⟩ ?_
    exact rio_nil
theorem writeString_call1 (gw : World) (gb : Nat) (l : List UInt8) (s : ByteArray) (hn : l.length + s.size ≤ 140737488355328) : VCallIO Tryz.prog gw (gb) 26 [.one (.loc (0, 0) 0), .one (.c (.string s))] [.box 66 [.loc (0, 0) 0, .own (0, 1)], rowU l] (.tup [.one (.c (.int .i64 s.size)), .one (.c .nilIface)]) [some (.box 66 [.loc (0, 0) 0, .own (0, 2)]), none, some (rowU (l ++ s.data.toList))] := by
  refine vcallIO_of [.tmp 4, .tmp 5] Tryz.func26 rfl rfl Tryz.ntmps26 rfl (by simp) (by simp) ?_
  intro C hP hnt hgw hgb
  refine vwp_seq_region rfl fun K hK => ?_
  simp (dsimp := false) only [push_cast, hP, hnt, hgw, hgb, sevalprocAttr, rowU, u8c_free, u8c_tag0, u8c_ioc, u8c_iob, u8c_strict, hn, strCells_map]
  refine hK _ ?_; clear hK
  refine vwp_seq_region rfl fun K hK => ?_
  simp (dsimp := false) only [push_cast, hP, hnt, hgw, hgb, sevalprocAttr, rowU, u8c_free, u8c_tag0, u8c_ioc, u8c_iob, u8c_strict, hn, strCells_map]
  first | refine ioE_intro [(0, 0), (0, 1)] (copyCheck_call gw gb (.loc (0, 0) 0) (.own (0, 1)) (.inr rfl) [rowU l]) (by first | (simp (dsimp := false) only [push_cast, hP, hnt, hgw, hgb, sevalprocAttr, rowU, u8c_free, u8c_tag0, u8c_ioc, u8c_iob, u8c_strict, hn, strCells_map]; rfl) | (simp (dsimp := false) only [push_cast, hP, hnt, hgw, hgb, sevalprocAttr, rowU, u8c_free, u8c_tag0, u8c_ioc, u8c_iob, u8c_strict, hn, strCells_map]; done)) (by first | rfl | (simp (dsimp := false) only [push_cast, hP, hnt, hgw, hgb, sevalprocAttr, rowU, u8c_free, u8c_tag0, u8c_ioc, u8c_iob, u8c_strict, hn, strCells_map]; done) | (simp (dsimp := false) only [push_cast, hP, hnt, hgw, hgb, sevalprocAttr, rowU, u8c_free, u8c_tag0, u8c_ioc, u8c_iob, u8c_strict, hn, strCells_map]; rfl)) (by first | rfl | (simp (dsimp := false) only [push_cast, hP, hnt, hgw, hgb, sevalprocAttr, rowU, u8c_free, u8c_tag0, u8c_ioc, u8c_iob, u8c_strict, hn, strCells_map]; done) | (simp (dsimp := false) only [push_cast, hP, hnt, hgw, hgb, sevalprocAttr, rowU, u8c_free, u8c_tag0, u8c_ioc, u8c_iob, u8c_strict, hn, strCells_map]; rfl)) (by first | rfl | (simp (dsimp := false) only [push_cast, hP, hnt, hgw, hgb, sevalprocAttr, rowU, u8c_free, u8c_tag0, u8c_ioc, u8c_iob, u8c_strict, hn, strCells_map]; done)) (.inl ⟨rfl, by simp (dsimp := false) only [push_cast, hP, hnt, hgw, hgb, sevalprocAttr, rowU, u8c_free, u8c_tag0, u8c_ioc, u8c_iob, u8c_strict, hn, strCells_map]⟩) ?_ | refine .inr (ioE_intro [(0, 0), (0, 1)] (copyCheck_call gw gb (.loc (0, 0) 0) (.own (0, 1)) (.inr rfl) [rowU l]) (by first | (simp (dsimp := false) only [push_cast, hP, hnt, hgw, hgb, sevalprocAttr, rowU, u8c_free, u8c_tag0, u8c_ioc, u8c_iob, u8c_strict, hn, strCells_map]; rfl) | (simp (dsimp := false) only [push_cast, hP, hnt, hgw, hgb, sevalprocAttr, rowU, u8c_free, u8c_tag0, u8c_ioc, u8c_iob, u8c_strict, hn, strCells_map]; done)) (by first | rfl | (simp (dsimp := false) only [push_cast, hP, hnt, hgw, hgb, sevalprocAttr, rowU, u8c_free, u8c_tag0, u8c_ioc, u8c_iob, u8c_strict, hn, strCells_map]; done) | (simp (dsimp := false) only [push_cast, hP, hnt, hgw, hgb, sevalprocAttr, rowU, u8c_free, u8c_tag0, u8c_ioc, u8c_iob, u8c_strict, hn, strCells_map]; rfl)) (by first | rfl | (simp (dsimp := false) only [push_cast, hP, hnt, hgw, hgb, sevalprocAttr, rowU, u8c_free, u8c_tag0, u8c_ioc, u8c_iob, u8c_strict, hn, strCells_map]; done) | (simp (dsimp := false) only [push_cast, hP, hnt, hgw, hgb, sevalprocAttr, rowU, u8c_free, u8c_tag0, u8c_ioc, u8c_iob, u8c_strict, hn, strCells_map]; rfl)) (by first | rfl | (simp (dsimp := false) only [push_cast, hP, hnt, hgw, hgb, sevalprocAttr, rowU, u8c_free, u8c_tag0, u8c_ioc, u8c_iob, u8c_strict, hn, strCells_map]; done)) (.inl ⟨rfl, by simp (dsimp := false) only [push_cast, hP, hnt, hgw, hgb, sevalprocAttr, rowU, u8c_free, u8c_tag0, u8c_ioc, u8c_iob, u8c_strict, hn, strCells_map]⟩) ?_)
  simp (dsimp := false) only [push_cast, hP, hnt, hgw, hgb, sevalprocAttr, rowU, u8c_free, u8c_tag0, u8c_ioc, u8c_iob, u8c_strict, hn, strCells_map]
  refine hK _ ?_; clear hK
  refine vwp_seq_region rfl fun K hK => ?_
  simp (dsimp := false) only [push_cast, hP, hnt, hgw, hgb, sevalprocAttr, rowU, u8c_free, u8c_tag0, u8c_ioc, u8c_iob, u8c_strict, hn, strCells_map]
  refine hK _ ?_; clear hK
  refine vwp_seq_region rfl fun K hK => ?_
  simp (dsimp := false) only [push_cast, hP, hnt, hgw, hgb, sevalprocAttr, rowU, u8c_free, u8c_tag0, u8c_ioc, u8c_iob, u8c_strict, hn, strCells_map]
  refine hK _ ?_; clear hK
  refine vwp_ret ?_
  refine ret_io [] [((0, 0), (0, 0)), ((15, 0), (0, 2))] (by simp (dsimp := false) only [push_cast, hP, hnt, hgw, hgb, sevalprocAttr, rowU, u8c_free, u8c_tag0, u8c_ioc, u8c_iob, u8c_strict, hn, strCells_map]; rfl) (by simp) (by simp) (by first | decide | simp) ?_ ?_
  · simp only [pack]
    repeat' (first | exact ConvVs.nil | exact ConvL.nil | refine ConvV.tup ?_ | refine ConvVs.cons ?_ ?_ | (refine ConvV.self ?_; simp only [push_cast, u8c_free]; done) | refine ConvV.one ?_ | refine ConvV.agg ?_ | (refine ConvL.free ?_; simp only [push_cast, u8c_free]; done) | refine ConvL.append ?_ ?_ | refine ConvL.cons ?_ ?_ | exact Conv.free rfl | exact Conv.nil | (refine Conv.own ?_; simp; done) | (refine Conv.loc ?_; simp; done) | refine Conv.frz (by simp) (by simp (dsimp := false) only [push_cast, ↓reduceIte, Nat.reduceEqDiff, Nat.reduceAdd, reduceCtorEq, rowU, u8c_free, u8c_tag0, u8c_ioc, u8c_iob, u8c_strict, hn, strCells_map] <;> rfl) ?_ | refine Conv.sl (by simp) ?_ | refine Conv.fn ?_)
  · refine rio_cons ⟨(0, 0), _, by simp, by simp, by simp (dsimp := false) only [push_cast, ↓reduceIte, Nat.reduceEqDiff, Nat.reduceAdd, reduceCtorEq, rowU, u8c_free, u8c_tag0, u8c_ioc, u8c_iob, u8c_strict, hn, strCells_map] <;> rfl, by first | (refine ConvB.free ?_; simp only [push_cast]; done) | ((first | refine ConvB.arr ?_ | refine ConvB.box ?_); repeat' (first | exact ConvVs.nil | exact ConvL.nil | refine ConvV.tup ?_ | refine ConvVs.cons ?_ ?_ | (refine ConvV.self ?_; simp only [push_cast, u8c_free]; done) | refine ConvV.one ?_ | refine ConvV.agg ?_ | (refine ConvL.free ?_; simp only [push_cast, u8c_free]; done) | refine ConvL.append ?_ ?_ | refine ConvL.cons ?_ ?_ | exact Conv.free rfl | exact Conv.nil | (refine Conv.own ?_; simp; done) | (refine Conv.loc ?_; simp; done) | refine Conv.frz (by simp) (by simp (dsimp := false) only [push_cast, ↓reduceIte, Nat.reduceEqDiff, Nat.reduceAdd, reduceCtorEq, rowU, u8c_free, u8c_tag0, u8c_ioc, u8c_iob, u8c_strict, hn, strCells_map] <;> rfl) ?_ | refine Conv.sl (by simp) ?_ | refine Conv.fn ?_))⟩ ?_
    refine rio_none ?_
    refine rio_cons ⟨(15, 0), _, by simp, by simp, by simp (dsimp := false) only [push_cast, ↓reduceIte, Nat.reduceEqDiff, Nat.reduceAdd, reduceCtorEq, rowU, u8c_free, u8c_tag0, u8c_ioc, u8c_iob, u8c_strict, hn, strCells_map] <;> rfl, by rw [rowU, List.map_append, List.length_append, ← size_list]; exact ConvB.arr (ConvL.free (by rw [frees_append, u8c_free, u8c_free]; rfl))⟩ ?_
    exact rio_nil
end Go.Vm
end
