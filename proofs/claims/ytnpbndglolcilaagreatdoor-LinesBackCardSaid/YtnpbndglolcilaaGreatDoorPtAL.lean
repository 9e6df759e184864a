/-
  Walks of the program's functions by the framework, and what they compute (PtAL). Conditions: each theorem's own premises. By an AI agent.
-/
import Derived.Test.YtnpbndglolcilaaGreatDoorPtAK
namespace Go.Vm
open Go Go.RowKit Go.Proofs
set_option maxRecDepth 100000
set_option linter.unusedSimpArgs false
set_option linter.unusedVariables false
set_option maxHeartbeats 4000000

theorem mayF_iff (v : Ver) : mayF v = true ↔ (v.kind = 3 ∧ v.first.length + v.inputs.length = 0 ∧ noProofF v = true) ∨ (v.kind = 2 ∧ noProofF v = true ∧ (1 ≤ v.inputs.length ∧ v.inputs.length ≤ 100 ∧ v.first.length ≤ 1000) ∧ v.inputs.all wideF = true) ∨
    (v.kind = 1 ∧ v.first.length + v.inputs.length = 0 ∧ (inTo 100 v.skip = true ∧ inTo 100 v.phases = true ∧ v.ands.length ≤ 1000 ∧ inTo 2001 v.lit = true) ∧ v.ands.all gateF = true) := by
  unfold mayF noRun framesF
  by_cases h3 : v.kind = 3
  · simp [h3]
  · by_cases h2 : v.kind = 2
    · simp [h2, and_assoc]
    · by_cases h1 : v.kind = 1
      · simp [h1, and_assoc]
      · simp [h1, h2, h3]
theorem noProof_iff (v : Ver) : noProofF v = true ↔ v.skip = 0 ∧ v.phases = 0 ∧ v.ands.length = 0 ∧ v.lit = 0 := by
  unfold noProofF
  simp [and_assoc]
theorem mayF_three {v : Ver} (h : v.kind = 3) : (!decide (0 < (v.first.length : Int) + (v.inputs.length : Int)) && !(v.skip != 0 || v.phases != 0 || decide (0 < (v.ands.length : Int)) || v.lit != 0)) = mayF v := by
  unfold mayF noRun noProofF
  rw [if_pos h]
  generalize v.first.length = a
  generalize v.inputs.length = b
  generalize v.ands.length = c
  rw [Bool.eq_iff_iff]
  simp only [Bool.and_eq_true, Bool.not_eq_true', decide_eq_false_iff_not, Bool.or_eq_false_iff, bne_eq_false_iff_eq, decide_eq_true_eq, beq_iff_eq]
  omega
theorem mayF_no {v : Ver} (h : ¬ ((v.kind = 3 ∧ v.first.length + v.inputs.length = 0 ∧ noProofF v = true) ∨ (v.kind = 2 ∧ noProofF v = true ∧ (1 ≤ v.inputs.length ∧ v.inputs.length ≤ 100 ∧ v.first.length ≤ 1000) ∧ v.inputs.all wideF = true) ∨
    (v.kind = 1 ∧ v.first.length + v.inputs.length = 0 ∧ (inTo 100 v.skip = true ∧ inTo 100 v.phases = true ∧ v.ands.length ≤ 1000 ∧ inTo 2001 v.lit = true) ∧ v.ands.all gateF = true))) : mayF v = false := by
  rw [← mayF_iff] at h; simpa using h
theorem refMay_call (gw : World) (gb : Nat) (v : Ver) (hf : Fit v) : VCall Tryz.prog gw (gb) 16 [.agg (v.pcs false)] (.one (.c (.bool (mayF v)))) [] := by
  have hsum : IntKind.wrap .i64 ((v.first.length : Int) + (v.inputs.length : Int)) = (v.first.length : Int) + (v.inputs.length : Int) := by have := hf.first; have := hf.inputs; rw [IntKind.wrap_i64]; omega
  refine vcall_of [.tmp 2] Tryz.func16 rfl rfl Tryz.ntmps16 rfl (by simp) ?_
  intro C hP hnt hgw hgb hfull
  refine vwp_seq_region rfl fun K hK => ?_
  simp (dsimp := false) only [push_cast, hP, hnt, hgw, hgb, sevalprocAttr, hsum]
  refine hK _ ?_; clear hK
  refine vwp_seq fun K hK => ?_
  refine vwp_seq_regionG fun K hK => ?_
  simp (dsimp := false) only [push_cast, hP, hnt, hgw, hgb, sevalprocAttr, hsum]
  refine guardR_may (by simp (dsimp := false) only [push_cast, hP, hnt, hgw, hgb, sevalprocAttr, hsum, List.getElem?_cons_zero, List.getElem?_cons_succ]; rfl) ?_
  simp (dsimp := false) only [push_cast, hP, hnt, hgw, hgb, sevalprocAttr, hsum]
  refine guardR_may (by simp (dsimp := false) only [push_cast, hP, hnt, hgw, hgb, sevalprocAttr, hsum, List.getElem?_cons_zero, List.getElem?_cons_succ]; rfl) ?_
  simp (dsimp := false) only [push_cast, hP, hnt, hgw, hgb, sevalprocAttr, hsum]
  refine guardR_may (by simp (dsimp := false) only [push_cast, hP, hnt, hgw, hgb, sevalprocAttr, hsum, List.getElem?_cons_zero, List.getElem?_cons_succ]; rfl) ?_
  simp (dsimp := false) only [push_cast, hP, hnt, hgw, hgb, sevalprocAttr, hsum]
  refine callE_intro (noProof_call gw gb v) (.inl ⟨rfl, rfl⟩) ?_
  refine ⟨rfl, ?_⟩
  simp (dsimp := false) only [push_cast, hP, hnt, hgw, hgb, sevalprocAttr, hsum]
  refine guardR_may (by simp (dsimp := false) only [push_cast, hP, hnt, hgw, hgb, sevalprocAttr, hsum, List.getElem?_cons_zero, List.getElem?_cons_succ]; rfl) ?_
  simp (dsimp := false) only [push_cast, hP, hnt, hgw, hgb, sevalprocAttr, hsum]
  refine guardR_may (by simp (dsimp := false) only [push_cast, hP, hnt, hgw, hgb, sevalprocAttr, hsum, List.getElem?_cons_zero, List.getElem?_cons_succ]; rfl) ?_
  simp (dsimp := false) only [push_cast, hP, hnt, hgw, hgb, sevalprocAttr, hsum]
  refine guardR_may (by simp (dsimp := false) only [push_cast, hP, hnt, hgw, hgb, sevalprocAttr, hsum, List.getElem?_cons_zero, List.getElem?_cons_succ]; rfl) ?_
  simp (dsimp := false) only [push_cast, hP, hnt, hgw, hgb, sevalprocAttr, hsum]
  refine guardR_may (by simp (dsimp := false) only [push_cast, hP, hnt, hgw, hgb, sevalprocAttr, hsum, List.getElem?_cons_zero, List.getElem?_cons_succ]; rfl) ?_
  simp (dsimp := false) only [push_cast, hP, hnt, hgw, hgb, sevalprocAttr, hsum]
  refine guardR_may (by simp (dsimp := false) only [push_cast, hP, hnt, hgw, hgb, sevalprocAttr, hsum, List.getElem?_cons_zero, List.getElem?_cons_succ]; rfl) ?_
  simp (dsimp := false) only [push_cast, hP, hnt, hgw, hgb, sevalprocAttr, hsum]
  refine guardR_may (by simp (dsimp := false) only [push_cast, hP, hnt, hgw, hgb, sevalprocAttr, hsum, List.getElem?_cons_zero, List.getElem?_cons_succ]; rfl) ?_
  simp (dsimp := false) only [push_cast, hP, hnt, hgw, hgb, sevalprocAttr, hsum]
  refine guardR_may (by simp (dsimp := false) only [push_cast, hP, hnt, hgw, hgb, sevalprocAttr, hsum, List.getElem?_cons_zero, List.getElem?_cons_succ]; rfl) ?_
  simp (dsimp := false) only [push_cast, hP, hnt, hgw, hgb, sevalprocAttr, hsum]
  refine guardR_may (by simp (dsimp := false) only [push_cast, hP, hnt, hgw, hgb, sevalprocAttr, hsum, List.getElem?_cons_zero, List.getElem?_cons_succ]; rfl) ?_
  simp (dsimp := false) only [push_cast, hP, hnt, hgw, hgb, sevalprocAttr, hsum]
  refine guardR_may (by simp (dsimp := false) only [push_cast, hP, hnt, hgw, hgb, sevalprocAttr, hsum, List.getElem?_cons_zero, List.getElem?_cons_succ]; rfl) ?_
  simp (dsimp := false) only [push_cast, hP, hnt, hgw, hgb, sevalprocAttr, hsum]
  refine guardR_may (by simp (dsimp := false) only [push_cast, hP, hnt, hgw, hgb, sevalprocAttr, hsum, List.getElem?_cons_zero, List.getElem?_cons_succ]; rfl) ?_
  simp (dsimp := false) only [push_cast, hP, hnt, hgw, hgb, sevalprocAttr, hsum]
  refine guardR_may (by simp (dsimp := false) only [push_cast, hP, hnt, hgw, hgb, sevalprocAttr, hsum, List.getElem?_cons_zero, List.getElem?_cons_succ]; rfl) ?_
  simp (dsimp := false) only [push_cast, hP, hnt, hgw, hgb, sevalprocAttr, hsum]
  refine guardR_may (by simp (dsimp := false) only [push_cast, hP, hnt, hgw, hgb, sevalprocAttr, hsum, List.getElem?_cons_zero, List.getElem?_cons_succ]; rfl) ?_
  simp (dsimp := false) only [push_cast, hP, hnt, hgw, hgb, sevalprocAttr, hsum]
  refine guardR_may (by simp (dsimp := false) only [push_cast, hP, hnt, hgw, hgb, sevalprocAttr, hsum, List.getElem?_cons_zero, List.getElem?_cons_succ]; rfl) ?_
  simp (dsimp := false) only [push_cast, hP, hnt, hgw, hgb, sevalprocAttr, hsum]
  refine guardR_may (by simp (dsimp := false) only [push_cast, hP, hnt, hgw, hgb, sevalprocAttr, hsum, List.getElem?_cons_zero, List.getElem?_cons_succ]; rfl) ?_
  simp (dsimp := false) only [push_cast, hP, hnt, hgw, hgb, sevalprocAttr, hsum]
  refine guardR_may (by simp (dsimp := false) only [push_cast, hP, hnt, hgw, hgb, sevalprocAttr, hsum, List.getElem?_cons_zero, List.getElem?_cons_succ]; rfl) ?_
  simp (dsimp := false) only [push_cast, hP, hnt, hgw, hgb, sevalprocAttr, hsum]
  refine guardR_may (by simp (dsimp := false) only [push_cast, hP, hnt, hgw, hgb, sevalprocAttr, hsum, List.getElem?_cons_zero, List.getElem?_cons_succ]; rfl) ?_
  simp (dsimp := false) only [push_cast, hP, hnt, hgw, hgb, sevalprocAttr, hsum]
  refine hK _ ?_; clear hK
  refine vwp_cond (b := _) (by simp (dsimp := false) only [push_cast, hP, hnt, hgw, hgb, sevalprocAttr, hsum]; rfl) (fun rb0 => ?_) (fun rb0 => ?_)
  · have hb0 := rb0
    try simp only [beq_iff_eq, bne_iff_ne, ne_eq, bne_eq_false_iff_eq, beq_eq_false_iff_ne, decide_eq_true_eq, decide_eq_false_iff_not, Bool.not_eq_true', Bool.not_eq_false', Bool.or_eq_true, Bool.and_eq_true, Bool.or_eq_false_iff, Bool.and_eq_false_iff] at hb0
    refine vwp_seq_region rfl fun K hK => ?_
    simp (dsimp := false) only [push_cast, hP, hnt, hgw, hgb, sevalprocAttr, hsum]
    refine hK _ ?_; clear hK
    refine vwp_ret ?_
    refine ret_free (by simp (dsimp := false) only [push_cast, hP, hnt, hgw, hgb, sevalprocAttr, hsum]; rfl) (by simp (dsimp := false) only [push_cast, hP, hnt, hgw, hgb, sevalprocAttr, hsum]) ?_
    rw [mayF_no (by rintro (⟨h1, h2, h3⟩ | ⟨h1, h2, h3, h4⟩ | ⟨h1, h2, h3, h4⟩) <;> rcases hb0 with ⟨g1, g2⟩ | ⟨g1, g2⟩ <;> first | omega | (simp_all; done) | (simp_all; omega))]; rfl
  · have hb0 := rb0
    try simp only [beq_iff_eq, bne_iff_ne, ne_eq, bne_eq_false_iff_eq, beq_eq_false_iff_ne, decide_eq_true_eq, decide_eq_false_iff_not, Bool.not_eq_true', Bool.not_eq_false', Bool.or_eq_true, Bool.and_eq_true, Bool.or_eq_false_iff, Bool.and_eq_false_iff] at hb0
    refine vwp_skip ?_
    apply_assumption
    refine vwp_seq fun K hK => ?_
    refine vwp_seq_region rfl fun K hK => ?_
    simp (dsimp := false) only [push_cast, hP, hnt, hgw, hgb, sevalprocAttr, hsum]
    refine hK _ ?_; clear hK
    refine vwp_block ?_
    refine vwp_seq_region rfl fun K hK => ?_
    simp (dsimp := false) only [push_cast, hP, hnt, hgw, hgb, sevalprocAttr, hsum]
    refine hK _ ?_; clear hK
    refine vwp_cond (b := _) (by simp (dsimp := false) only [push_cast, hP, hnt, hgw, hgb, sevalprocAttr, hsum]; rfl) (fun rb1 => ?_) (fun rb1 => ?_)
    · have hb1 := rb1
      try simp only [beq_iff_eq, bne_iff_ne, ne_eq, bne_eq_false_iff_eq, beq_eq_false_iff_ne, decide_eq_true_eq, decide_eq_false_iff_not, Bool.not_eq_true', Bool.not_eq_false', Bool.or_eq_true, Bool.and_eq_true, Bool.or_eq_false_iff, Bool.and_eq_false_iff] at hb1
      refine vwp_seq fun K hK => ?_
      refine vwp_seq_regionG fun K hK => ?_
      simp (dsimp := false) only [push_cast, hP, hnt, hgw, hgb, sevalprocAttr, hsum]
      refine guardR_may (by simp (dsimp := false) only [push_cast, hP, hnt, hgw, hgb, sevalprocAttr, hsum, List.getElem?_cons_zero, List.getElem?_cons_succ]; rfl) ?_
      simp (dsimp := false) only [push_cast, hP, hnt, hgw, hgb, sevalprocAttr, hsum]
      refine guardR_may (by simp (dsimp := false) only [push_cast, hP, hnt, hgw, hgb, sevalprocAttr, hsum, List.getElem?_cons_zero, List.getElem?_cons_succ]; rfl) ?_
      simp (dsimp := false) only [push_cast, hP, hnt, hgw, hgb, sevalprocAttr, hsum]
      refine guardR_may (by simp (dsimp := false) only [push_cast, hP, hnt, hgw, hgb, sevalprocAttr, hsum, List.getElem?_cons_zero, List.getElem?_cons_succ]; rfl) ?_
      simp (dsimp := false) only [push_cast, hP, hnt, hgw, hgb, sevalprocAttr, hsum]
      refine guardR_may (by simp (dsimp := false) only [push_cast, hP, hnt, hgw, hgb, sevalprocAttr, hsum, List.getElem?_cons_zero, List.getElem?_cons_succ]; rfl) ?_
      simp (dsimp := false) only [push_cast, hP, hnt, hgw, hgb, sevalprocAttr, hsum]
      refine guardR_may (by simp (dsimp := false) only [push_cast, hP, hnt, hgw, hgb, sevalprocAttr, hsum, List.getElem?_cons_zero, List.getElem?_cons_succ]; rfl) ?_
      simp (dsimp := false) only [push_cast, hP, hnt, hgw, hgb, sevalprocAttr, hsum]
      refine guardR_may (by simp (dsimp := false) only [push_cast, hP, hnt, hgw, hgb, sevalprocAttr, hsum, List.getElem?_cons_zero, List.getElem?_cons_succ]; rfl) ?_
      simp (dsimp := false) only [push_cast, hP, hnt, hgw, hgb, sevalprocAttr, hsum]
      refine guardR_may (by simp (dsimp := false) only [push_cast, hP, hnt, hgw, hgb, sevalprocAttr, hsum, List.getElem?_cons_zero, List.getElem?_cons_succ]; rfl) ?_
      simp (dsimp := false) only [push_cast, hP, hnt, hgw, hgb, sevalprocAttr, hsum]
      refine guardR_may (by simp (dsimp := false) only [push_cast, hP, hnt, hgw, hgb, sevalprocAttr, hsum, List.getElem?_cons_zero, List.getElem?_cons_succ]; rfl) ?_
      simp (dsimp := false) only [push_cast, hP, hnt, hgw, hgb, sevalprocAttr, hsum]
      refine guardR_may (by simp (dsimp := false) only [push_cast, hP, hnt, hgw, hgb, sevalprocAttr, hsum, List.getElem?_cons_zero, List.getElem?_cons_succ]; rfl) ?_
      simp (dsimp := false) only [push_cast, hP, hnt, hgw, hgb, sevalprocAttr, hsum]
      refine guardR_may (by simp (dsimp := false) only [push_cast, hP, hnt, hgw, hgb, sevalprocAttr, hsum, List.getElem?_cons_zero, List.getElem?_cons_succ]; rfl) ?_
      simp (dsimp := false) only [push_cast, hP, hnt, hgw, hgb, sevalprocAttr, hsum]
      refine hK _ ?_; clear hK
      refine vwp_cond (b := _) (by simp (dsimp := false) only [push_cast, hP, hnt, hgw, hgb, sevalprocAttr, hsum]; rfl) (fun rb2 => ?_) (fun rb2 => ?_)
      · have hb2 := rb2
        try simp only [beq_iff_eq, bne_iff_ne, ne_eq, bne_eq_false_iff_eq, beq_eq_false_iff_ne, decide_eq_true_eq, decide_eq_false_iff_not, Bool.not_eq_true', Bool.not_eq_false', Bool.or_eq_true, Bool.and_eq_true, Bool.or_eq_false_iff, Bool.and_eq_false_iff] at hb2
        refine vwp_seq_region rfl fun K hK => ?_
        simp (dsimp := false) only [push_cast, hP, hnt, hgw, hgb, sevalprocAttr, hsum]
        refine hK _ ?_; clear hK
        refine vwp_ret ?_
        refine ret_free (by simp (dsimp := false) only [push_cast, hP, hnt, hgw, hgb, sevalprocAttr, hsum]; rfl) (by simp (dsimp := false) only [push_cast, hP, hnt, hgw, hgb, sevalprocAttr, hsum]) ?_
        rw [mayF_no (by rintro (⟨h1, h2, h3⟩ | ⟨h1, h2, h3, h4⟩ | ⟨h1, h2, h3, h4⟩) <;> omega)]; rfl
      · have hb2 := rb2
        try simp only [beq_iff_eq, bne_iff_ne, ne_eq, bne_eq_false_iff_eq, beq_eq_false_iff_ne, decide_eq_true_eq, decide_eq_false_iff_not, Bool.not_eq_true', Bool.not_eq_false', Bool.or_eq_true, Bool.and_eq_true, Bool.or_eq_false_iff, Bool.and_eq_false_iff] at hb2
        refine vwp_skip ?_
        apply_assumption
        refine vwp_seq_region rfl fun K hK => ?_
        simp (dsimp := false) only [push_cast, hP, hnt, hgw, hgb, sevalprocAttr, hsum]
        refine hK _ ?_; clear hK
        refine vwp_block ?_
        refine vwp_loop (fun m σ => ∃ (i : Int), m = (v.inputs.length - i).toNat ∧ ((0 ≤ i) ∧ (i ≤ v.inputs.length) ∧ ((v.inputs.drop i.toNat).all wideF = v.inputs.all wideF)) ∧ σ = St.of [(1, .one (.loc (2, 0) 0)), (3, .one (.c (.int .i64 i)))] [((2, 0), .box 34 (v.pcs false))] [1]) _ ⟨_, ?_, 0, rfl, ?_, rfl⟩ ?_
        · refine wk_conv [] [((2, 0), (2, 0))] (by simp) (by simp) (by decide) ?_ ?_
          · refine hf_cons (by simp (dsimp := false) only [push_cast, ↓reduceIte, Nat.reduceEqDiff, Nat.reduceAdd, reduceCtorEq, hsum] <;> rfl) (by exact .one (.loc (by simp))) ?_
            refine hf_cons (by simp (dsimp := false) only [push_cast, ↓reduceIte, Nat.reduceEqDiff, Nat.reduceAdd, reduceCtorEq, hsum] <;> rfl) (by exact ConvV.self rfl) ?_
            exact hf_nil
          · refine hh_cons (i := (2, 0)) (by simp) (by simp) (by simp (dsimp := false) only [push_cast, ↓reduceIte, Nat.reduceEqDiff, Nat.reduceAdd, reduceCtorEq, hsum] <;> rfl) (by first | (refine ConvB.free ?_; simp only [push_cast]; done) | (refine ConvB.box ?_; repeat' (first | exact ConvVs.nil | exact ConvL.nil | refine ConvV.tup ?_ | refine ConvVs.cons ?_ ?_ | (refine ConvV.self ?_; simp only [push_cast]; done) | refine ConvV.one ?_ | refine ConvV.agg ?_ | (refine ConvL.free ?_; simp only [push_cast]; done) | refine ConvL.append ?_ ?_ | refine ConvL.cons ?_ ?_ | exact Conv.free rfl | exact Conv.nil | (refine Conv.own ?_; simp; done) | (refine Conv.loc ?_; simp; done) | refine Conv.frz (by simp) (by simp (dsimp := false) only [push_cast, ↓reduceIte, Nat.reduceEqDiff, Nat.reduceAdd, reduceCtorEq, hsum] <;> rfl) ?_ | refine Conv.sl (by simp) ?_ | refine Conv.fn ?_))) ?_
            exact hh_nil
        · exact ⟨by omega, by omega, rfl⟩
        · rintro m τ ⟨i, hm, ⟨hi0, hi1, hi2⟩, rfl⟩ K hL1
          have hw := fun h : i < (v.inputs.length : Int) => wrap_next hi0 h (by have := hf.inputs; omega)
          have hd := fun h : i < (v.inputs.length : Int) => dropI_map (fun l => PC.sl false l.length (l.map fun b => PC.c (Value.bool b))) hi0 h
          refine vwp_seq fun K hK => ?_
          refine vwp_seq_region rfl fun K hK => ?_
          simp (dsimp := false) only [push_cast, hP, hnt, hgw, hgb, sevalprocAttr, hsum, hi0]
          refine hK _ ?_; clear hK
          refine vwp_cond (b := _) (by simp (dsimp := false) only [push_cast, hP, hnt, hgw, hgb, sevalprocAttr, hsum, hi0]; rfl) (fun rb3 => ?_) (fun rb3 => ?_)
          · have hb3 := rb3
            try simp only [beq_iff_eq, bne_iff_ne, ne_eq, bne_eq_false_iff_eq, beq_eq_false_iff_ne, decide_eq_true_eq, decide_eq_false_iff_not, Bool.not_eq_true', Bool.not_eq_false', Bool.or_eq_true, Bool.and_eq_true, Bool.or_eq_false_iff, Bool.and_eq_false_iff] at hb3
            have hw := hw hb3
            have hd := hd hb3
            refine vwp_skip ?_
            apply_assumption
            refine vwp_seq fun K hK => ?_
            refine vwp_block ?_
            refine vwp_seq_region rfl fun K hK => ?_
            simp (dsimp := false) only [push_cast, hP, hnt, hgw, hgb, sevalprocAttr, hsum, hi0, hw, hd, hb3]
            refine hK _ ?_; clear hK
            refine vwp_cond (b := _) (by simp (dsimp := false) only [push_cast, hP, hnt, hgw, hgb, sevalprocAttr, hsum, hi0, hw, hd, hb3]; rfl) (fun rb4 => ?_) (fun rb4 => ?_)
            · have hb4 := rb4
              try simp only [beq_iff_eq, bne_iff_ne, ne_eq, bne_eq_false_iff_eq, beq_eq_false_iff_ne, decide_eq_true_eq, decide_eq_false_iff_not, Bool.not_eq_true', Bool.not_eq_false', Bool.or_eq_true, Bool.and_eq_true, Bool.or_eq_false_iff, Bool.and_eq_false_iff] at hb4
              refine vwp_seq_region rfl fun K hK => ?_
              simp (dsimp := false) only [push_cast, hP, hnt, hgw, hgb, sevalprocAttr, hsum, hi0, hw, hd, hb3]
              refine hK _ ?_; clear hK
              refine vwp_ret ?_
              refine ret_free (by simp (dsimp := false) only [push_cast, hP, hnt, hgw, hgb, sevalprocAttr, hsum, hi0, hw, hd, hb3]; rfl) (by simp (dsimp := false) only [push_cast, hP, hnt, hgw, hgb, sevalprocAttr, hsum, hi0, hw, hd, hb3]) ?_
              rw [mayF_no (by have ha := all_stop hi0 hb3 hi2 (by unfold wideF; exact decide_eq_false (by omega)); rintro (⟨h1, h2, h3⟩ | ⟨h1, h2, h3, h4⟩ | ⟨h1, h2, h3, h4⟩) <;> first | omega | (simp_all; done) | (simp_all; omega))]; rfl
            · have hb4 := rb4
              try simp only [beq_iff_eq, bne_iff_ne, ne_eq, bne_eq_false_iff_eq, beq_eq_false_iff_ne, decide_eq_true_eq, decide_eq_false_iff_not, Bool.not_eq_true', Bool.not_eq_false', Bool.or_eq_true, Bool.and_eq_true, Bool.or_eq_false_iff, Bool.and_eq_false_iff] at hb4
              refine vwp_skip ?_
              apply_assumption
              refine vwp_region rfl ?_
              simp (dsimp := false) only [push_cast, hP, hnt, hgw, hgb, sevalprocAttr, hsum, hi0, hw, hd, hb3]
              refine hL1 _ _ _ ?_ ?_ ⟨i + 1, rfl, ?_, rfl⟩
              · omega
              · refine wk_conv [] [((2, 0), (2, 0))] (by simp) (by simp) (by decide) ?_ ?_
                · refine hf_cons (by simp (dsimp := false) only [push_cast, ↓reduceIte, Nat.reduceEqDiff, Nat.reduceAdd, reduceCtorEq, hsum, hi0, hw, hd, hb3] <;> rfl) (by exact .one (.loc (by simp))) ?_
                  refine hf_cons (by simp (dsimp := false) only [push_cast, ↓reduceIte, Nat.reduceEqDiff, Nat.reduceAdd, reduceCtorEq, hsum, hi0, hw, hd, hb3] <;> rfl) (by exact ConvV.self rfl) ?_
                  exact hf_nil
                · refine hh_cons (i := (2, 0)) (by simp) (by simp) (by simp (dsimp := false) only [push_cast, ↓reduceIte, Nat.reduceEqDiff, Nat.reduceAdd, reduceCtorEq, hsum, hi0, hw, hd, hb3] <;> rfl) (by first | (refine ConvB.free ?_; simp only [push_cast]; done) | (refine ConvB.box ?_; repeat' (first | exact ConvVs.nil | exact ConvL.nil | refine ConvV.tup ?_ | refine ConvVs.cons ?_ ?_ | (refine ConvV.self ?_; simp only [push_cast]; done) | refine ConvV.one ?_ | refine ConvV.agg ?_ | (refine ConvL.free ?_; simp only [push_cast]; done) | refine ConvL.append ?_ ?_ | refine ConvL.cons ?_ ?_ | exact Conv.free rfl | exact Conv.nil | (refine Conv.own ?_; simp; done) | (refine Conv.loc ?_; simp; done) | refine Conv.frz (by simp) (by simp (dsimp := false) only [push_cast, ↓reduceIte, Nat.reduceEqDiff, Nat.reduceAdd, reduceCtorEq, hsum, hi0, hw, hd, hb3] <;> rfl) ?_ | refine Conv.sl (by simp) ?_ | refine Conv.fn ?_))) ?_
                  exact hh_nil
              · exact ⟨by omega, by omega, all_next hi0 hb3 hi2 (by unfold wideF; exact decide_eq_true (by omega))⟩
          · have hb3 := rb3
            try simp only [beq_iff_eq, bne_iff_ne, ne_eq, bne_eq_false_iff_eq, beq_eq_false_iff_ne, decide_eq_true_eq, decide_eq_false_iff_not, Bool.not_eq_true', Bool.not_eq_false', Bool.or_eq_true, Bool.and_eq_true, Bool.or_eq_false_iff, Bool.and_eq_false_iff] at hb3
            refine vwp_exit ?_
            simp only [thenQ, blockQ, Nat.reduceEqDiff, reduceIte]
            apply_assumption
            refine vwp_seq_region rfl fun K hK => ?_
            simp (dsimp := false) only [push_cast, hP, hnt, hgw, hgb, sevalprocAttr, hsum, hi0]
            refine hK _ ?_; clear hK
            refine vwp_ret ?_
            refine ret_free (by simp (dsimp := false) only [push_cast, hP, hnt, hgw, hgb, sevalprocAttr, hsum, hi0]; rfl) (by simp (dsimp := false) only [push_cast, hP, hnt, hgw, hgb, sevalprocAttr, hsum, hi0]) ?_
            rw [(mayF_iff v).2 (.inr (.inl ⟨hb1, by rcases hb0.1 with h | h <;> first | omega | (simp_all; done) | (simp_all; omega), by omega, all_end hb3 hi2⟩))]; rfl
    · have hb1 := rb1
      try simp only [beq_iff_eq, bne_iff_ne, ne_eq, bne_eq_false_iff_eq, beq_eq_false_iff_ne, decide_eq_true_eq, decide_eq_false_iff_not, Bool.not_eq_true', Bool.not_eq_false', Bool.or_eq_true, Bool.and_eq_true, Bool.or_eq_false_iff, Bool.and_eq_false_iff] at hb1
      refine vwp_seq_region rfl fun K hK => ?_
      simp (dsimp := false) only [push_cast, hP, hnt, hgw, hgb, sevalprocAttr, hsum]
      refine hK _ ?_; clear hK
      refine vwp_cond (b := _) (by simp (dsimp := false) only [push_cast, hP, hnt, hgw, hgb, sevalprocAttr, hsum]; rfl) (fun rb5 => ?_) (fun rb5 => ?_)
      · have hb5 := rb5
        try simp only [beq_iff_eq, bne_iff_ne, ne_eq, bne_eq_false_iff_eq, beq_eq_false_iff_ne, decide_eq_true_eq, decide_eq_false_iff_not, Bool.not_eq_true', Bool.not_eq_false', Bool.or_eq_true, Bool.and_eq_true, Bool.or_eq_false_iff, Bool.and_eq_false_iff] at hb5
        refine vwp_seq_region rfl fun K hK => ?_
        simp (dsimp := false) only [push_cast, hP, hnt, hgw, hgb, sevalprocAttr, hsum]
        refine hK _ ?_; clear hK
        refine vwp_seq fun K hK => ?_
        refine vwp_seq_regionG fun K hK => ?_
        simp (dsimp := false) only [push_cast, hP, hnt, hgw, hgb, sevalprocAttr, hsum]
        refine .inl (callE_intro (refWithin_call gw gb _ _) (.inl ⟨rfl, rfl⟩) ?_)
        simp (dsimp := false) only [push_cast, hP, hnt, hgw, hgb, sevalprocAttr, hsum]
        refine guardR_may (by simp (dsimp := false) only [push_cast, hP, hnt, hgw, hgb, sevalprocAttr, hsum, List.getElem?_cons_zero, List.getElem?_cons_succ]; rfl) ?_
        simp (dsimp := false) only [push_cast, hP, hnt, hgw, hgb, sevalprocAttr, hsum]
        refine guardR_may (by simp (dsimp := false) only [push_cast, hP, hnt, hgw, hgb, sevalprocAttr, hsum, List.getElem?_cons_zero, List.getElem?_cons_succ]; rfl) ?_
        simp (dsimp := false) only [push_cast, hP, hnt, hgw, hgb, sevalprocAttr, hsum]
        refine guardR_may (by simp (dsimp := false) only [push_cast, hP, hnt, hgw, hgb, sevalprocAttr, hsum, List.getElem?_cons_zero, List.getElem?_cons_succ]; rfl) ?_
        simp (dsimp := false) only [push_cast, hP, hnt, hgw, hgb, sevalprocAttr, hsum]
        refine callE_intro (refWithin_call gw gb _ _) (.inl ⟨rfl, rfl⟩) ?_
        refine ⟨rfl, ?_⟩
        simp (dsimp := false) only [push_cast, hP, hnt, hgw, hgb, sevalprocAttr, hsum]
        refine guardR_may (by simp (dsimp := false) only [push_cast, hP, hnt, hgw, hgb, sevalprocAttr, hsum, List.getElem?_cons_zero, List.getElem?_cons_succ]; rfl) ?_
        simp (dsimp := false) only [push_cast, hP, hnt, hgw, hgb, sevalprocAttr, hsum]
        refine guardR_may (by simp (dsimp := false) only [push_cast, hP, hnt, hgw, hgb, sevalprocAttr, hsum, List.getElem?_cons_zero, List.getElem?_cons_succ]; rfl) ?_
        simp (dsimp := false) only [push_cast, hP, hnt, hgw, hgb, sevalprocAttr, hsum]
        refine guardR_may (by simp (dsimp := false) only [push_cast, hP, hnt, hgw, hgb, sevalprocAttr, hsum, List.getElem?_cons_zero, List.getElem?_cons_succ]; rfl) ?_
        simp (dsimp := false) only [push_cast, hP, hnt, hgw, hgb, sevalprocAttr, hsum]
        refine guardR_may (by simp (dsimp := false) only [push_cast, hP, hnt, hgw, hgb, sevalprocAttr, hsum, List.getElem?_cons_zero, List.getElem?_cons_succ]; rfl) ?_
        simp (dsimp := false) only [push_cast, hP, hnt, hgw, hgb, sevalprocAttr, hsum]
        refine guardR_may (by simp (dsimp := false) only [push_cast, hP, hnt, hgw, hgb, sevalprocAttr, hsum, List.getElem?_cons_zero, List.getElem?_cons_succ]; rfl) ?_
        simp (dsimp := false) only [push_cast, hP, hnt, hgw, hgb, sevalprocAttr, hsum]
        refine guardR_may (by simp (dsimp := false) only [push_cast, hP, hnt, hgw, hgb, sevalprocAttr, hsum, List.getElem?_cons_zero, List.getElem?_cons_succ]; rfl) ?_
        simp (dsimp := false) only [push_cast, hP, hnt, hgw, hgb, sevalprocAttr, hsum]
        refine guardR_may (by simp (dsimp := false) only [push_cast, hP, hnt, hgw, hgb, sevalprocAttr, hsum, List.getElem?_cons_zero, List.getElem?_cons_succ]; rfl) ?_
        simp (dsimp := false) only [push_cast, hP, hnt, hgw, hgb, sevalprocAttr, hsum]
        refine guardR_may (by simp (dsimp := false) only [push_cast, hP, hnt, hgw, hgb, sevalprocAttr, hsum, List.getElem?_cons_zero, List.getElem?_cons_succ]; rfl) ?_
        simp (dsimp := false) only [push_cast, hP, hnt, hgw, hgb, sevalprocAttr, hsum]
        refine guardR_may (by simp (dsimp := false) only [push_cast, hP, hnt, hgw, hgb, sevalprocAttr, hsum, List.getElem?_cons_zero, List.getElem?_cons_succ]; rfl) ?_
        simp (dsimp := false) only [push_cast, hP, hnt, hgw, hgb, sevalprocAttr, hsum]
        refine guardR_may (by simp (dsimp := false) only [push_cast, hP, hnt, hgw, hgb, sevalprocAttr, hsum, List.getElem?_cons_zero, List.getElem?_cons_succ]; rfl) ?_
        simp (dsimp := false) only [push_cast, hP, hnt, hgw, hgb, sevalprocAttr, hsum]
        refine callE_intro (refWithin_call gw gb _ _) (.inl ⟨rfl, rfl⟩) ?_
        refine ⟨rfl, ?_⟩
        simp (dsimp := false) only [push_cast, hP, hnt, hgw, hgb, sevalprocAttr, hsum]
        refine guardR_may (by simp (dsimp := false) only [push_cast, hP, hnt, hgw, hgb, sevalprocAttr, hsum, List.getElem?_cons_zero, List.getElem?_cons_succ]; rfl) ?_
        simp (dsimp := false) only [push_cast, hP, hnt, hgw, hgb, sevalprocAttr, hsum]
        refine hK _ ?_; clear hK
        refine vwp_cond (b := _) (by simp (dsimp := false) only [push_cast, hP, hnt, hgw, hgb, sevalprocAttr, hsum]; rfl) (fun rb6 => ?_) (fun rb6 => ?_)
        · have hb6 := rb6
          try simp only [beq_iff_eq, bne_iff_ne, ne_eq, bne_eq_false_iff_eq, beq_eq_false_iff_ne, decide_eq_true_eq, decide_eq_false_iff_not, Bool.not_eq_true', Bool.not_eq_false', Bool.or_eq_true, Bool.and_eq_true, Bool.or_eq_false_iff, Bool.and_eq_false_iff] at hb6
          refine vwp_seq_region rfl fun K hK => ?_
          simp (dsimp := false) only [push_cast, hP, hnt, hgw, hgb, sevalprocAttr, hsum]
          refine hK _ ?_; clear hK
          refine vwp_ret ?_
          refine ret_free (by simp (dsimp := false) only [push_cast, hP, hnt, hgw, hgb, sevalprocAttr, hsum]; rfl) (by simp (dsimp := false) only [push_cast, hP, hnt, hgw, hgb, sevalprocAttr, hsum]) ?_
          rw [mayF_no (by rintro (⟨h1, h2, h3⟩ | ⟨h1, h2, h3, h4⟩ | ⟨h1, h2, h3, h4⟩) <;> first | omega | (rcases hb6 with ((g | g) | g) | g <;> first | omega | (simp_all; done) | (simp_all; omega)))]; rfl
        · have hb6 := rb6
          try simp only [beq_iff_eq, bne_iff_ne, ne_eq, bne_eq_false_iff_eq, beq_eq_false_iff_ne, decide_eq_true_eq, decide_eq_false_iff_not, Bool.not_eq_true', Bool.not_eq_false', Bool.or_eq_true, Bool.and_eq_true, Bool.or_eq_false_iff, Bool.and_eq_false_iff] at hb6
          refine vwp_skip ?_
          apply_assumption
          refine vwp_seq_region rfl fun K hK => ?_
          simp (dsimp := false) only [push_cast, hP, hnt, hgw, hgb, sevalprocAttr, hsum]
          refine hK _ ?_; clear hK
          refine vwp_block ?_
          refine vwp_loop (fun m σ => ∃ (i : Int), m = (v.ands.length - i).toNat ∧ ((0 ≤ i) ∧ (i ≤ v.ands.length) ∧ ((v.ands.drop i.toNat).all gateF = v.ands.all gateF)) ∧ σ = St.of [(1, .one (.loc (2, 0) 0)), (4, .one (.loc (5, 0) 0)), (5, .one (.c (.int .i64 i)))] [((2, 0), .box 34 (v.pcs false)), ((5, 0), .box 28 (v.prf false))] [1, 4]) _ ⟨_, ?_, 0, rfl, ?_, rfl⟩ ?_
          · refine wk_conv [] [((2, 0), (2, 0)), ((5, 0), (5, 0))] (by simp) (by simp) (by decide) ?_ ?_
            · refine hf_cons (by simp (dsimp := false) only [push_cast, ↓reduceIte, Nat.reduceEqDiff, Nat.reduceAdd, reduceCtorEq, hsum] <;> rfl) (by exact .one (.loc (by simp))) ?_
              refine hf_cons (by simp (dsimp := false) only [push_cast, ↓reduceIte, Nat.reduceEqDiff, Nat.reduceAdd, reduceCtorEq, hsum] <;> rfl) (by exact .one (.loc (by simp))) ?_
              refine hf_cons (by simp (dsimp := false) only [push_cast, ↓reduceIte, Nat.reduceEqDiff, Nat.reduceAdd, reduceCtorEq, hsum] <;> rfl) (by exact ConvV.self rfl) ?_
              exact hf_nil
            · refine hh_cons (i := (2, 0)) (by simp) (by simp) (by simp (dsimp := false) only [push_cast, ↓reduceIte, Nat.reduceEqDiff, Nat.reduceAdd, reduceCtorEq, hsum] <;> rfl) (by first | (refine ConvB.free ?_; simp only [push_cast]; done) | (refine ConvB.box ?_; repeat' (first | exact ConvVs.nil | exact ConvL.nil | refine ConvV.tup ?_ | refine ConvVs.cons ?_ ?_ | (refine ConvV.self ?_; simp only [push_cast]; done) | refine ConvV.one ?_ | refine ConvV.agg ?_ | (refine ConvL.free ?_; simp only [push_cast]; done) | refine ConvL.append ?_ ?_ | refine ConvL.cons ?_ ?_ | exact Conv.free rfl | exact Conv.nil | (refine Conv.own ?_; simp; done) | (refine Conv.loc ?_; simp; done) | refine Conv.frz (by simp) (by simp (dsimp := false) only [push_cast, ↓reduceIte, Nat.reduceEqDiff, Nat.reduceAdd, reduceCtorEq, hsum] <;> rfl) ?_ | refine Conv.sl (by simp) ?_ | refine Conv.fn ?_))) ?_
              refine hh_cons (i := (5, 0)) (by simp) (by simp) (by simp (dsimp := false) only [push_cast, ↓reduceIte, Nat.reduceEqDiff, Nat.reduceAdd, reduceCtorEq, hsum] <;> rfl) (by first | (refine ConvB.free ?_; simp only [push_cast]; done) | (refine ConvB.box ?_; repeat' (first | exact ConvVs.nil | exact ConvL.nil | refine ConvV.tup ?_ | refine ConvVs.cons ?_ ?_ | (refine ConvV.self ?_; simp only [push_cast]; done) | refine ConvV.one ?_ | refine ConvV.agg ?_ | (refine ConvL.free ?_; simp only [push_cast]; done) | refine ConvL.append ?_ ?_ | refine ConvL.cons ?_ ?_ | exact Conv.free rfl | exact Conv.nil | (refine Conv.own ?_; simp; done) | (refine Conv.loc ?_; simp; done) | refine Conv.frz (by simp) (by simp (dsimp := false) only [push_cast, ↓reduceIte, Nat.reduceEqDiff, Nat.reduceAdd, reduceCtorEq, hsum] <;> rfl) ?_ | refine Conv.sl (by simp) ?_ | refine Conv.fn ?_))) ?_
              exact hh_nil
          · exact ⟨by omega, by omega, rfl⟩
          · rintro m τ ⟨i, hm, ⟨hi0, hi1, hi2⟩, rfl⟩ K hL3
            have hw := fun h : i < (v.ands.length : Int) => wrap_next hi0 h (by have := hf.ands; omega)
            have hd := fun h : i < (v.ands.length : Int) => dropI_two (fun g : Int × Int => PC.c (Value.int .i64 g.1)) (fun g => PC.c (Value.int .i64 g.2)) hi0 h
            refine vwp_seq fun K hK => ?_
            refine vwp_seq_region rfl fun K hK => ?_
            simp (dsimp := false) only [push_cast, hP, hnt, hgw, hgb, sevalprocAttr, hsum, hi0]
            refine hK _ ?_; clear hK
            refine vwp_cond (b := _) (by simp (dsimp := false) only [push_cast, hP, hnt, hgw, hgb, sevalprocAttr, hsum, hi0]; rfl) (fun rb7 => ?_) (fun rb7 => ?_)
            · have hb7 := rb7
              try simp only [beq_iff_eq, bne_iff_ne, ne_eq, bne_eq_false_iff_eq, beq_eq_false_iff_ne, decide_eq_true_eq, decide_eq_false_iff_not, Bool.not_eq_true', Bool.not_eq_false', Bool.or_eq_true, Bool.and_eq_true, Bool.or_eq_false_iff, Bool.and_eq_false_iff] at hb7
              have hw := hw hb7
              have hd := hd hb7
              refine vwp_skip ?_
              apply_assumption
              refine vwp_seq fun K hK => ?_
              refine vwp_block ?_
              refine vwp_seq_regionG fun K hK => ?_
              simp (dsimp := false) only [push_cast, hP, hnt, hgw, hgb, sevalprocAttr, hsum, hi0, hw, hd, hb7]
              refine .inl (callE_intro (refWithin_call gw gb _ _) (.inl ⟨rfl, rfl⟩) ?_)
              simp (dsimp := false) only [push_cast, hP, hnt, hgw, hgb, sevalprocAttr, hsum, hi0, hw, hd, hb7]
              refine guardR_may (by simp (dsimp := false) only [push_cast, hP, hnt, hgw, hgb, sevalprocAttr, hsum, hi0, hw, hd, hb7, List.getElem?_cons_zero, List.getElem?_cons_succ]; rfl) ?_
              simp (dsimp := false) only [push_cast, hP, hnt, hgw, hgb, sevalprocAttr, hsum, hi0, hw, hd, hb7]
              refine guardR_may (by simp (dsimp := false) only [push_cast, hP, hnt, hgw, hgb, sevalprocAttr, hsum, hi0, hw, hd, hb7, List.getElem?_cons_zero, List.getElem?_cons_succ]; rfl) ?_
              simp (dsimp := false) only [push_cast, hP, hnt, hgw, hgb, sevalprocAttr, hsum, hi0, hw, hd, hb7]
              refine guardR_may (by simp (dsimp := false) only [push_cast, hP, hnt, hgw, hgb, sevalprocAttr, hsum, hi0, hw, hd, hb7, List.getElem?_cons_zero, List.getElem?_cons_succ]; rfl) ?_
              simp (dsimp := false) only [push_cast, hP, hnt, hgw, hgb, sevalprocAttr, hsum, hi0, hw, hd, hb7]
              refine guardR_may (by simp (dsimp := false) only [push_cast, hP, hnt, hgw, hgb, sevalprocAttr, hsum, hi0, hw, hd, hb7, List.getElem?_cons_zero, List.getElem?_cons_succ]; rfl) ?_
              simp (dsimp := false) only [push_cast, hP, hnt, hgw, hgb, sevalprocAttr, hsum, hi0, hw, hd, hb7]
              refine guardR_may (by simp (dsimp := false) only [push_cast, hP, hnt, hgw, hgb, sevalprocAttr, hsum, hi0, hw, hd, hb7, List.getElem?_cons_zero, List.getElem?_cons_succ]; rfl) ?_
              simp (dsimp := false) only [push_cast, hP, hnt, hgw, hgb, sevalprocAttr, hsum, hi0, hw, hd, hb7]
              refine guardR_may (by simp (dsimp := false) only [push_cast, hP, hnt, hgw, hgb, sevalprocAttr, hsum, hi0, hw, hd, hb7, List.getElem?_cons_zero, List.getElem?_cons_succ]; rfl) ?_
              simp (dsimp := false) only [push_cast, hP, hnt, hgw, hgb, sevalprocAttr, hsum, hi0, hw, hd, hb7]
              refine guardR_may (by simp (dsimp := false) only [push_cast, hP, hnt, hgw, hgb, sevalprocAttr, hsum, hi0, hw, hd, hb7, List.getElem?_cons_zero, List.getElem?_cons_succ]; rfl) ?_
              simp (dsimp := false) only [push_cast, hP, hnt, hgw, hgb, sevalprocAttr, hsum, hi0, hw, hd, hb7]
              refine guardR_may (by simp (dsimp := false) only [push_cast, hP, hnt, hgw, hgb, sevalprocAttr, hsum, hi0, hw, hd, hb7, List.getElem?_cons_zero, List.getElem?_cons_succ]; rfl) ?_
              simp (dsimp := false) only [push_cast, hP, hnt, hgw, hgb, sevalprocAttr, hsum, hi0, hw, hd, hb7]
              refine callE_intro (refWithin_call gw gb _ _) (.inl ⟨rfl, rfl⟩) ?_
              refine ⟨rfl, ?_⟩
              simp (dsimp := false) only [push_cast, hP, hnt, hgw, hgb, sevalprocAttr, hsum, hi0, hw, hd, hb7]
              refine guardR_may (by simp (dsimp := false) only [push_cast, hP, hnt, hgw, hgb, sevalprocAttr, hsum, hi0, hw, hd, hb7, List.getElem?_cons_zero, List.getElem?_cons_succ]; rfl) ?_
              simp (dsimp := false) only [push_cast, hP, hnt, hgw, hgb, sevalprocAttr, hsum, hi0, hw, hd, hb7]
              refine hK _ ?_; clear hK
              refine vwp_cond (b := _) (by simp (dsimp := false) only [push_cast, hP, hnt, hgw, hgb, sevalprocAttr, hsum, hi0, hw, hd, hb7]; rfl) (fun rb8 => ?_) (fun rb8 => ?_)
              · have hb8 := rb8
                try simp only [beq_iff_eq, bne_iff_ne, ne_eq, bne_eq_false_iff_eq, beq_eq_false_iff_ne, decide_eq_true_eq, decide_eq_false_iff_not, Bool.not_eq_true', Bool.not_eq_false', Bool.or_eq_true, Bool.and_eq_true, Bool.or_eq_false_iff, Bool.and_eq_false_iff] at hb8
                refine vwp_seq_region rfl fun K hK => ?_
                simp (dsimp := false) only [push_cast, hP, hnt, hgw, hgb, sevalprocAttr, hsum, hi0, hw, hd, hb7]
                refine hK _ ?_; clear hK
                refine vwp_ret ?_
                refine ret_free (by simp (dsimp := false) only [push_cast, hP, hnt, hgw, hgb, sevalprocAttr, hsum, hi0, hw, hd, hb7]; rfl) (by simp (dsimp := false) only [push_cast, hP, hnt, hgw, hgb, sevalprocAttr, hsum, hi0, hw, hd, hb7]) ?_
                rw [mayF_no (by have ha := all_stop hi0 hb7 hi2 (by unfold gateF; rcases hb8 with g | g <;> simp [g]); rintro (⟨h1, h2, h3⟩ | ⟨h1, h2, h3, h4⟩ | ⟨h1, h2, h3, h4⟩) <;> first | omega | (simp_all; done) | (simp_all; omega))]; rfl
              · have hb8 := rb8
                try simp only [beq_iff_eq, bne_iff_ne, ne_eq, bne_eq_false_iff_eq, beq_eq_false_iff_ne, decide_eq_true_eq, decide_eq_false_iff_not, Bool.not_eq_true', Bool.not_eq_false', Bool.or_eq_true, Bool.and_eq_true, Bool.or_eq_false_iff, Bool.and_eq_false_iff] at hb8
                refine vwp_skip ?_
                apply_assumption
                refine vwp_region rfl ?_
                simp (dsimp := false) only [push_cast, hP, hnt, hgw, hgb, sevalprocAttr, hsum, hi0, hw, hd, hb7]
                refine hL3 _ _ _ ?_ ?_ ⟨i + 1, rfl, ?_, rfl⟩
                · omega
                · refine wk_conv [] [((2, 0), (2, 0)), ((5, 0), (5, 0))] (by simp) (by simp) (by decide) ?_ ?_
                  · refine hf_cons (by simp (dsimp := false) only [push_cast, ↓reduceIte, Nat.reduceEqDiff, Nat.reduceAdd, reduceCtorEq, hsum, hi0, hw, hd, hb7] <;> rfl) (by exact .one (.loc (by simp))) ?_
                    refine hf_cons (by simp (dsimp := false) only [push_cast, ↓reduceIte, Nat.reduceEqDiff, Nat.reduceAdd, reduceCtorEq, hsum, hi0, hw, hd, hb7] <;> rfl) (by exact .one (.loc (by simp))) ?_
                    refine hf_cons (by simp (dsimp := false) only [push_cast, ↓reduceIte, Nat.reduceEqDiff, Nat.reduceAdd, reduceCtorEq, hsum, hi0, hw, hd, hb7] <;> rfl) (by exact ConvV.self rfl) ?_
                    exact hf_nil
                  · refine hh_cons (i := (2, 0)) (by simp) (by simp) (by simp (dsimp := false) only [push_cast, ↓reduceIte, Nat.reduceEqDiff, Nat.reduceAdd, reduceCtorEq, hsum, hi0, hw, hd, hb7] <;> rfl) (by first | (refine ConvB.free ?_; simp only [push_cast]; done) | (refine ConvB.box ?_; repeat' (first | exact ConvVs.nil | exact ConvL.nil | refine ConvV.tup ?_ | refine ConvVs.cons ?_ ?_ | (refine ConvV.self ?_; simp only [push_cast]; done) | refine ConvV.one ?_ | refine ConvV.agg ?_ | (refine ConvL.free ?_; simp only [push_cast]; done) | refine ConvL.append ?_ ?_ | refine ConvL.cons ?_ ?_ | exact Conv.free rfl | exact Conv.nil | (refine Conv.own ?_; simp; done) | (refine Conv.loc ?_; simp; done) | refine Conv.frz (by simp) (by simp (dsimp := false) only [push_cast, ↓reduceIte, Nat.reduceEqDiff, Nat.reduceAdd, reduceCtorEq, hsum, hi0, hw, hd, hb7] <;> rfl) ?_ | refine Conv.sl (by simp) ?_ | refine Conv.fn ?_))) ?_
                    refine hh_cons (i := (5, 0)) (by simp) (by simp) (by simp (dsimp := false) only [push_cast, ↓reduceIte, Nat.reduceEqDiff, Nat.reduceAdd, reduceCtorEq, hsum, hi0, hw, hd, hb7] <;> rfl) (by first | (refine ConvB.free ?_; simp only [push_cast]; done) | (refine ConvB.box ?_; repeat' (first | exact ConvVs.nil | exact ConvL.nil | refine ConvV.tup ?_ | refine ConvVs.cons ?_ ?_ | (refine ConvV.self ?_; simp only [push_cast]; done) | refine ConvV.one ?_ | refine ConvV.agg ?_ | (refine ConvL.free ?_; simp only [push_cast]; done) | refine ConvL.append ?_ ?_ | refine ConvL.cons ?_ ?_ | exact Conv.free rfl | exact Conv.nil | (refine Conv.own ?_; simp; done) | (refine Conv.loc ?_; simp; done) | refine Conv.frz (by simp) (by simp (dsimp := false) only [push_cast, ↓reduceIte, Nat.reduceEqDiff, Nat.reduceAdd, reduceCtorEq, hsum, hi0, hw, hd, hb7] <;> rfl) ?_ | refine Conv.sl (by simp) ?_ | refine Conv.fn ?_))) ?_
                    exact hh_nil
                · exact ⟨by omega, by omega, all_next hi0 hb7 hi2 (by unfold gateF; simp [hb8.1, hb8.2])⟩
            · have hb7 := rb7
              try simp only [beq_iff_eq, bne_iff_ne, ne_eq, bne_eq_false_iff_eq, beq_eq_false_iff_ne, decide_eq_true_eq, decide_eq_false_iff_not, Bool.not_eq_true', Bool.not_eq_false', Bool.or_eq_true, Bool.and_eq_true, Bool.or_eq_false_iff, Bool.and_eq_false_iff] at hb7
              refine vwp_exit ?_
              simp only [thenQ, blockQ, Nat.reduceEqDiff, reduceIte]
              apply_assumption
              refine vwp_seq_region rfl fun K hK => ?_
              simp (dsimp := false) only [push_cast, hP, hnt, hgw, hgb, sevalprocAttr, hsum, hi0]
              refine hK _ ?_; clear hK
              refine vwp_ret ?_
              refine ret_free (by simp (dsimp := false) only [push_cast, hP, hnt, hgw, hgb, sevalprocAttr, hsum, hi0]; rfl) (by simp (dsimp := false) only [push_cast, hP, hnt, hgw, hgb, sevalprocAttr, hsum, hi0]) ?_
              rw [(mayF_iff v).2 (.inr (.inr ⟨hb5, by rcases hb0.2 with h | h <;> omega, ⟨hb6.1.1.1, hb6.1.1.2, by omega, hb6.2⟩, all_end hb7 hi2⟩))]; rfl
      · have hb5 := rb5
        try simp only [beq_iff_eq, bne_iff_ne, ne_eq, bne_eq_false_iff_eq, beq_eq_false_iff_ne, decide_eq_true_eq, decide_eq_false_iff_not, Bool.not_eq_true', Bool.not_eq_false', Bool.or_eq_true, Bool.and_eq_true, Bool.or_eq_false_iff, Bool.and_eq_false_iff] at hb5
        refine vwp_seq_region rfl fun K hK => ?_
        simp (dsimp := false) only [push_cast, hP, hnt, hgw, hgb, sevalprocAttr, hsum]
        refine hK _ ?_; clear hK
        refine vwp_cond (b := _) (by simp (dsimp := false) only [push_cast, hP, hnt, hgw, hgb, sevalprocAttr, hsum]; rfl) (fun rb9 => ?_) (fun rb9 => ?_)
        · have hb9 := rb9
          try simp only [beq_iff_eq, bne_iff_ne, ne_eq, bne_eq_false_iff_eq, beq_eq_false_iff_ne, decide_eq_true_eq, decide_eq_false_iff_not, Bool.not_eq_true', Bool.not_eq_false', Bool.or_eq_true, Bool.and_eq_true, Bool.or_eq_false_iff, Bool.and_eq_false_iff] at hb9
          refine vwp_skip ?_
          apply_assumption
          refine vwp_seq_region rfl fun K hK => ?_
          simp (dsimp := false) only [push_cast, hP, hnt, hgw, hgb, sevalprocAttr, hsum]
          refine hK _ ?_; clear hK
          refine vwp_ret ?_
          refine ret_free (by simp (dsimp := false) only [push_cast, hP, hnt, hgw, hgb, sevalprocAttr, hsum]; rfl) (by simp (dsimp := false) only [push_cast, hP, hnt, hgw, hgb, sevalprocAttr, hsum]) ?_
          rw [(mayF_iff v).2 (.inl ⟨hb9, by rcases hb0.2 with h | h <;> omega, by rcases hb0.1 with h | h <;> first | omega | (simp_all; done) | (simp_all; omega)⟩)]; rfl
        · have hb9 := rb9
          try simp only [beq_iff_eq, bne_iff_ne, ne_eq, bne_eq_false_iff_eq, beq_eq_false_iff_ne, decide_eq_true_eq, decide_eq_false_iff_not, Bool.not_eq_true', Bool.not_eq_false', Bool.or_eq_true, Bool.and_eq_true, Bool.or_eq_false_iff, Bool.and_eq_false_iff] at hb9
          refine vwp_seq_region rfl fun K hK => ?_
          simp (dsimp := false) only [push_cast, hP, hnt, hgw, hgb, sevalprocAttr, hsum]
          refine hK _ ?_; clear hK
          refine vwp_ret ?_
          refine ret_free (by simp (dsimp := false) only [push_cast, hP, hnt, hgw, hgb, sevalprocAttr, hsum]; rfl) (by simp (dsimp := false) only [push_cast, hP, hnt, hgw, hgb, sevalprocAttr, hsum]) ?_
          rw [mayF_no (by rintro (⟨h1, h2, h3⟩ | ⟨h1, h2, h3, h4⟩ | ⟨h1, h2, h3, h4⟩) <;> omega)]; rfl
theorem may_call (gw : World) (gb : Nat) (v : Ver) (hf : Fit v) : VCall Tryz.prog gw (gb) 24 [.agg (v.pcs false)] (.one (.c (.bool (mayF v)))) [] := by
  have hsum : IntKind.wrap .i64 ((v.first.length : Int) + (v.inputs.length : Int)) = (v.first.length : Int) + (v.inputs.length : Int) := by have := hf.first; have := hf.inputs; rw [IntKind.wrap_i64]; omega
  refine vcall_of [.tmp 2] Tryz.func24 rfl rfl Tryz.ntmps24 rfl (by simp) ?_
  intro C hP hnt hgw hgb hfull
  refine vwp_seq_region rfl fun K hK => ?_
  simp (dsimp := false) only [push_cast, hP, hnt, hgw, hgb, sevalprocAttr, hsum, List.all_cons, List.all_nil]
  refine hK _ ?_; clear hK
  refine vwp_seq_region rfl fun K hK => ?_
  simp (dsimp := false) only [push_cast, hP, hnt, hgw, hgb, sevalprocAttr, hsum, List.all_cons, List.all_nil]
  refine hK _ ?_; clear hK
  refine vwp_seq_region rfl fun K hK => ?_
  simp (dsimp := false) only [push_cast, hP, hnt, hgw, hgb, sevalprocAttr, hsum, List.all_cons, List.all_nil]
  refine hK _ ?_; clear hK
  refine vwp_seq_regionG fun K hK => ?_
  simp (dsimp := false) only [push_cast, hP, hnt, hgw, hgb, sevalprocAttr, hsum, List.all_cons, List.all_nil]
  refine guardR_may (by simp (dsimp := false) only [push_cast, hP, hnt, hgw, hgb, sevalprocAttr, hsum, List.all_cons, List.all_nil, List.getElem?_cons_zero, List.getElem?_cons_succ]; rfl) ?_
  simp (dsimp := false) only [push_cast, hP, hnt, hgw, hgb, sevalprocAttr, hsum, List.all_cons, List.all_nil]
  refine guardR_may (by simp (dsimp := false) only [push_cast, hP, hnt, hgw, hgb, sevalprocAttr, hsum, List.all_cons, List.all_nil, List.getElem?_cons_zero, List.getElem?_cons_succ]; rfl) ?_
  simp (dsimp := false) only [push_cast, hP, hnt, hgw, hgb, sevalprocAttr, hsum, List.all_cons, List.all_nil]
  refine guardR_may (by simp (dsimp := false) only [push_cast, hP, hnt, hgw, hgb, sevalprocAttr, hsum, List.all_cons, List.all_nil, List.getElem?_cons_zero, List.getElem?_cons_succ]; rfl) ?_
  simp (dsimp := false) only [push_cast, hP, hnt, hgw, hgb, sevalprocAttr, hsum, List.all_cons, List.all_nil]
  refine guardR_may (by simp (dsimp := false) only [push_cast, hP, hnt, hgw, hgb, sevalprocAttr, hsum, List.all_cons, List.all_nil, List.getElem?_cons_zero, List.getElem?_cons_succ]; rfl) ?_
  simp (dsimp := false) only [push_cast, hP, hnt, hgw, hgb, sevalprocAttr, hsum, List.all_cons, List.all_nil]
  refine guardR_may (by simp (dsimp := false) only [push_cast, hP, hnt, hgw, hgb, sevalprocAttr, hsum, List.all_cons, List.all_nil, List.getElem?_cons_zero, List.getElem?_cons_succ]; rfl) ?_
  simp (dsimp := false) only [push_cast, hP, hnt, hgw, hgb, sevalprocAttr, hsum, List.all_cons, List.all_nil]
  refine guardR_may (by simp (dsimp := false) only [push_cast, hP, hnt, hgw, hgb, sevalprocAttr, hsum, List.all_cons, List.all_nil, List.getElem?_cons_zero, List.getElem?_cons_succ]; rfl) ?_
  simp (dsimp := false) only [push_cast, hP, hnt, hgw, hgb, sevalprocAttr, hsum, List.all_cons, List.all_nil]
  refine guardR_may (by simp (dsimp := false) only [push_cast, hP, hnt, hgw, hgb, sevalprocAttr, hsum, List.all_cons, List.all_nil, List.getElem?_cons_zero, List.getElem?_cons_succ]; rfl) ?_
  simp (dsimp := false) only [push_cast, hP, hnt, hgw, hgb, sevalprocAttr, hsum, List.all_cons, List.all_nil]
  refine guardR_may (by simp (dsimp := false) only [push_cast, hP, hnt, hgw, hgb, sevalprocAttr, hsum, List.all_cons, List.all_nil, List.getElem?_cons_zero, List.getElem?_cons_succ]; rfl) ?_
  simp (dsimp := false) only [push_cast, hP, hnt, hgw, hgb, sevalprocAttr, hsum, List.all_cons, List.all_nil]
  refine guardR_may (by simp (dsimp := false) only [push_cast, hP, hnt, hgw, hgb, sevalprocAttr, hsum, List.all_cons, List.all_nil, List.getElem?_cons_zero, List.getElem?_cons_succ]; rfl) ?_
  simp (dsimp := false) only [push_cast, hP, hnt, hgw, hgb, sevalprocAttr, hsum, List.all_cons, List.all_nil]
  refine guardR_may (by simp (dsimp := false) only [push_cast, hP, hnt, hgw, hgb, sevalprocAttr, hsum, List.all_cons, List.all_nil, List.getElem?_cons_zero, List.getElem?_cons_succ]; rfl) ?_
  simp (dsimp := false) only [push_cast, hP, hnt, hgw, hgb, sevalprocAttr, hsum, List.all_cons, List.all_nil]
  refine guardR_may (by simp (dsimp := false) only [push_cast, hP, hnt, hgw, hgb, sevalprocAttr, hsum, List.all_cons, List.all_nil, List.getElem?_cons_zero, List.getElem?_cons_succ]; rfl) ?_
  simp (dsimp := false) only [push_cast, hP, hnt, hgw, hgb, sevalprocAttr, hsum, List.all_cons, List.all_nil]
  refine guardR_may (by simp (dsimp := false) only [push_cast, hP, hnt, hgw, hgb, sevalprocAttr, hsum, List.all_cons, List.all_nil, List.getElem?_cons_zero, List.getElem?_cons_succ]; rfl) ?_
  simp (dsimp := false) only [push_cast, hP, hnt, hgw, hgb, sevalprocAttr, hsum, List.all_cons, List.all_nil]
  refine hK _ ?_; clear hK
  refine vwp_seq fun K hK => ?_
  refine vwp_seq_region rfl fun K hK => ?_
  simp (dsimp := false) only [push_cast, hP, hnt, hgw, hgb, sevalprocAttr, hsum, List.all_cons, List.all_nil]
  refine hK _ ?_; clear hK
  refine vwp_block ?_
  refine vwp_seq_region rfl fun K hK => ?_
  simp (dsimp := false) only [push_cast, hP, hnt, hgw, hgb, sevalprocAttr, hsum, List.all_cons, List.all_nil]
  refine hK _ ?_; clear hK
  refine vwp_cond (b := _) (by simp (dsimp := false) only [push_cast, hP, hnt, hgw, hgb, sevalprocAttr, hsum, List.all_cons, List.all_nil]; rfl) (fun rb0 => ?_) (fun rb0 => ?_)
  · have hb0 := rb0
    try simp only [beq_iff_eq, bne_iff_ne, ne_eq, bne_eq_false_iff_eq, beq_eq_false_iff_ne, decide_eq_true_eq, decide_eq_false_iff_not, Bool.not_eq_true', Bool.not_eq_false', Bool.or_eq_true, Bool.and_eq_true, Bool.or_eq_false_iff, Bool.and_eq_false_iff] at hb0
    refine vwp_seq_regionG fun K hK => ?_
    simp (dsimp := false) only [push_cast, hP, hnt, hgw, hgb, sevalprocAttr, hsum, List.all_cons, List.all_nil]
    refine guardR_may (by simp (dsimp := false) only [push_cast, hP, hnt, hgw, hgb, sevalprocAttr, hsum, List.all_cons, List.all_nil, List.getElem?_cons_zero, List.getElem?_cons_succ]; rfl) ?_
    simp (dsimp := false) only [push_cast, hP, hnt, hgw, hgb, sevalprocAttr, hsum, List.all_cons, List.all_nil]
    refine guardR_may (by simp (dsimp := false) only [push_cast, hP, hnt, hgw, hgb, sevalprocAttr, hsum, List.all_cons, List.all_nil, List.getElem?_cons_zero, List.getElem?_cons_succ]; rfl) ?_
    simp (dsimp := false) only [push_cast, hP, hnt, hgw, hgb, sevalprocAttr, hsum, List.all_cons, List.all_nil]
    refine hK _ ?_; clear hK
    refine vwp_ret ?_
    refine ret_free (by simp (dsimp := false) only [push_cast, hP, hnt, hgw, hgb, sevalprocAttr, hsum, List.all_cons, List.all_nil]; rfl) (by simp (dsimp := false) only [push_cast, hP, hnt, hgw, hgb, sevalprocAttr, hsum, List.all_cons, List.all_nil]) ?_
    simp only [pack]; rw [mayF_three hb0]
  · have hb0 := rb0
    try simp only [beq_iff_eq, bne_iff_ne, ne_eq, bne_eq_false_iff_eq, beq_eq_false_iff_ne, decide_eq_true_eq, decide_eq_false_iff_not, Bool.not_eq_true', Bool.not_eq_false', Bool.or_eq_true, Bool.and_eq_true, Bool.or_eq_false_iff, Bool.and_eq_false_iff] at hb0
    refine vwp_seq_region rfl fun K hK => ?_
    simp (dsimp := false) only [push_cast, hP, hnt, hgw, hgb, sevalprocAttr, hsum, List.all_cons, List.all_nil]
    refine hK _ ?_; clear hK
    refine vwp_cond (b := _) (by simp (dsimp := false) only [push_cast, hP, hnt, hgw, hgb, sevalprocAttr, hsum, List.all_cons, List.all_nil]; rfl) (fun rb1 => ?_) (fun rb1 => ?_)
    · have hb1 := rb1
      try simp only [beq_iff_eq, bne_iff_ne, ne_eq, bne_eq_false_iff_eq, beq_eq_false_iff_ne, decide_eq_true_eq, decide_eq_false_iff_not, Bool.not_eq_true', Bool.not_eq_false', Bool.or_eq_true, Bool.and_eq_true, Bool.or_eq_false_iff, Bool.and_eq_false_iff] at hb1
      refine vwp_seq fun K hK => ?_
      refine vwp_seq_regionG fun K hK => ?_
      simp (dsimp := false) only [push_cast, hP, hnt, hgw, hgb, sevalprocAttr, hsum, List.all_cons, List.all_nil]
      refine guardR_may (by simp (dsimp := false) only [push_cast, hP, hnt, hgw, hgb, sevalprocAttr, hsum, List.all_cons, List.all_nil, List.getElem?_cons_zero, List.getElem?_cons_succ]; rfl) ?_
      simp (dsimp := false) only [push_cast, hP, hnt, hgw, hgb, sevalprocAttr, hsum, List.all_cons, List.all_nil]
      refine guardR_may (by simp (dsimp := false) only [push_cast, hP, hnt, hgw, hgb, sevalprocAttr, hsum, List.all_cons, List.all_nil, List.getElem?_cons_zero, List.getElem?_cons_succ]; rfl) ?_
      simp (dsimp := false) only [push_cast, hP, hnt, hgw, hgb, sevalprocAttr, hsum, List.all_cons, List.all_nil]
      refine guardR_may (by simp (dsimp := false) only [push_cast, hP, hnt, hgw, hgb, sevalprocAttr, hsum, List.all_cons, List.all_nil, List.getElem?_cons_zero, List.getElem?_cons_succ]; rfl) ?_
      simp (dsimp := false) only [push_cast, hP, hnt, hgw, hgb, sevalprocAttr, hsum, List.all_cons, List.all_nil]
      refine guardR_may (by simp (dsimp := false) only [push_cast, hP, hnt, hgw, hgb, sevalprocAttr, hsum, List.all_cons, List.all_nil, List.getElem?_cons_zero, List.getElem?_cons_succ]; rfl) ?_
      simp (dsimp := false) only [push_cast, hP, hnt, hgw, hgb, sevalprocAttr, hsum, List.all_cons, List.all_nil]
      refine guardR_may (by simp (dsimp := false) only [push_cast, hP, hnt, hgw, hgb, sevalprocAttr, hsum, List.all_cons, List.all_nil, List.getElem?_cons_zero, List.getElem?_cons_succ]; rfl) ?_
      simp (dsimp := false) only [push_cast, hP, hnt, hgw, hgb, sevalprocAttr, hsum, List.all_cons, List.all_nil]
      refine guardR_may (by simp (dsimp := false) only [push_cast, hP, hnt, hgw, hgb, sevalprocAttr, hsum, List.all_cons, List.all_nil, List.getElem?_cons_zero, List.getElem?_cons_succ]; rfl) ?_
      simp (dsimp := false) only [push_cast, hP, hnt, hgw, hgb, sevalprocAttr, hsum, List.all_cons, List.all_nil]
      refine guardR_may (by simp (dsimp := false) only [push_cast, hP, hnt, hgw, hgb, sevalprocAttr, hsum, List.all_cons, List.all_nil, List.getElem?_cons_zero, List.getElem?_cons_succ]; rfl) ?_
      simp (dsimp := false) only [push_cast, hP, hnt, hgw, hgb, sevalprocAttr, hsum, List.all_cons, List.all_nil]
      refine guardR_may (by simp (dsimp := false) only [push_cast, hP, hnt, hgw, hgb, sevalprocAttr, hsum, List.all_cons, List.all_nil, List.getElem?_cons_zero, List.getElem?_cons_succ]; rfl) ?_
      simp (dsimp := false) only [push_cast, hP, hnt, hgw, hgb, sevalprocAttr, hsum, List.all_cons, List.all_nil]
      refine guardR_may (by simp (dsimp := false) only [push_cast, hP, hnt, hgw, hgb, sevalprocAttr, hsum, List.all_cons, List.all_nil, List.getElem?_cons_zero, List.getElem?_cons_succ]; rfl) ?_
      simp (dsimp := false) only [push_cast, hP, hnt, hgw, hgb, sevalprocAttr, hsum, List.all_cons, List.all_nil]
      refine guardR_may (by simp (dsimp := false) only [push_cast, hP, hnt, hgw, hgb, sevalprocAttr, hsum, List.all_cons, List.all_nil, List.getElem?_cons_zero, List.getElem?_cons_succ]; rfl) ?_
      simp (dsimp := false) only [push_cast, hP, hnt, hgw, hgb, sevalprocAttr, hsum, List.all_cons, List.all_nil]
      refine guardR_may (by simp (dsimp := false) only [push_cast, hP, hnt, hgw, hgb, sevalprocAttr, hsum, List.all_cons, List.all_nil, List.getElem?_cons_zero, List.getElem?_cons_succ]; rfl) ?_
      simp (dsimp := false) only [push_cast, hP, hnt, hgw, hgb, sevalprocAttr, hsum, List.all_cons, List.all_nil]
      refine guardR_may (by simp (dsimp := false) only [push_cast, hP, hnt, hgw, hgb, sevalprocAttr, hsum, List.all_cons, List.all_nil, List.getElem?_cons_zero, List.getElem?_cons_succ]; rfl) ?_
      simp (dsimp := false) only [push_cast, hP, hnt, hgw, hgb, sevalprocAttr, hsum, List.all_cons, List.all_nil]
      refine guardR_may (by simp (dsimp := false) only [push_cast, hP, hnt, hgw, hgb, sevalprocAttr, hsum, List.all_cons, List.all_nil, List.getElem?_cons_zero, List.getElem?_cons_succ]; rfl) ?_
      simp (dsimp := false) only [push_cast, hP, hnt, hgw, hgb, sevalprocAttr, hsum, List.all_cons, List.all_nil]
      refine guardR_may (by simp (dsimp := false) only [push_cast, hP, hnt, hgw, hgb, sevalprocAttr, hsum, List.all_cons, List.all_nil, List.getElem?_cons_zero, List.getElem?_cons_succ]; rfl) ?_
      simp (dsimp := false) only [push_cast, hP, hnt, hgw, hgb, sevalprocAttr, hsum, List.all_cons, List.all_nil]
      refine guardR_may (by simp (dsimp := false) only [push_cast, hP, hnt, hgw, hgb, sevalprocAttr, hsum, List.all_cons, List.all_nil, List.getElem?_cons_zero, List.getElem?_cons_succ]; rfl) ?_
      simp (dsimp := false) only [push_cast, hP, hnt, hgw, hgb, sevalprocAttr, hsum, List.all_cons, List.all_nil]
      refine hK _ ?_; clear hK
      refine vwp_cond (b := _) (by simp (dsimp := false) only [push_cast, hP, hnt, hgw, hgb, sevalprocAttr, hsum, List.all_cons, List.all_nil]; rfl) (fun rb2 => ?_) (fun rb2 => ?_)
      · have hb2 := rb2
        try simp only [beq_iff_eq, bne_iff_ne, ne_eq, bne_eq_false_iff_eq, beq_eq_false_iff_ne, decide_eq_true_eq, decide_eq_false_iff_not, Bool.not_eq_true', Bool.not_eq_false', Bool.or_eq_true, Bool.and_eq_true, Bool.or_eq_false_iff, Bool.and_eq_false_iff] at hb2
        refine vwp_seq_region rfl fun K hK => ?_
        simp (dsimp := false) only [push_cast, hP, hnt, hgw, hgb, sevalprocAttr, hsum, List.all_cons, List.all_nil]
        refine hK _ ?_; clear hK
        refine vwp_ret ?_
        refine ret_free (by simp (dsimp := false) only [push_cast, hP, hnt, hgw, hgb, sevalprocAttr, hsum, List.all_cons, List.all_nil]; rfl) (by simp (dsimp := false) only [push_cast, hP, hnt, hgw, hgb, sevalprocAttr, hsum, List.all_cons, List.all_nil]) ?_
        rw [mayF_no (by rw [noProof_iff]; rintro (⟨h1, h2, h3⟩ | ⟨h1, h2, h3, h4⟩ | ⟨h1, h2, h3, h4⟩) <;> omega)]; rfl
      · have hb2 := rb2
        try simp only [beq_iff_eq, bne_iff_ne, ne_eq, bne_eq_false_iff_eq, beq_eq_false_iff_ne, decide_eq_true_eq, decide_eq_false_iff_not, Bool.not_eq_true', Bool.not_eq_false', Bool.or_eq_true, Bool.and_eq_true, Bool.or_eq_false_iff, Bool.and_eq_false_iff] at hb2
        refine vwp_skip ?_
        apply_assumption
        refine vwp_seq fun K hK => ?_
        refine vwp_seq_region rfl fun K hK => ?_
        simp (dsimp := false) only [push_cast, hP, hnt, hgw, hgb, sevalprocAttr, hsum, List.all_cons, List.all_nil]
        refine hK _ ?_; clear hK
        refine vwp_block ?_
        refine vwp_loop (fun m σ => ∃ (i : Int), m = (v.inputs.length - i).toNat ∧ ((0 ≤ i) ∧ (i ≤ v.inputs.length) ∧ ((v.inputs.drop i.toNat).all wideF = v.inputs.all wideF)) ∧ σ = St.of [(1, .one (.loc (2, 0) 0)), (79, .one (.sl false v.inputs.length (v.inputs.map (fun l => PC.sl false l.length (l.map fun b => PC.c (Value.bool b)))))), (80, .one (.c (.int .i64 v.inputs.length))), (81, .one (.c (.int .i64 i)))] [((2, 0), .box 34 (v.pcs false))] [1]) _ ⟨_, ?_, 0, rfl, ?_, rfl⟩ ?_
        · refine wk_conv [] [((2, 0), (2, 0))] (by simp) (by simp) (by decide) ?_ ?_
          · refine hf_cons (by simp (dsimp := false) only [push_cast, ↓reduceIte, Nat.reduceEqDiff, Nat.reduceAdd, reduceCtorEq, hsum, List.all_cons, List.all_nil] <;> rfl) (by exact .one (.loc (by simp))) ?_
            refine hf_cons (by simp (dsimp := false) only [push_cast, ↓reduceIte, Nat.reduceEqDiff, Nat.reduceAdd, reduceCtorEq, hsum, List.all_cons, List.all_nil] <;> rfl) (by repeat' (first | exact ConvVs.nil | exact ConvL.nil | refine ConvV.tup ?_ | refine ConvVs.cons ?_ ?_ | (refine ConvV.self ?_; simp only [push_cast]; done) | refine ConvV.one ?_ | refine ConvV.agg ?_ | (refine ConvL.free ?_; simp only [push_cast]; done) | refine ConvL.append ?_ ?_ | refine ConvL.cons ?_ ?_ | exact Conv.free rfl | exact Conv.nil | (refine Conv.own ?_; simp; done) | (refine Conv.loc ?_; simp; done) | refine Conv.frz (by simp) (by simp (dsimp := false) only [push_cast, ↓reduceIte, Nat.reduceEqDiff, Nat.reduceAdd, reduceCtorEq, hsum, List.all_cons, List.all_nil] <;> rfl) ?_ | refine Conv.sl (by simp) ?_ | refine Conv.fn ?_)) ?_
            refine hf_cons (by simp (dsimp := false) only [push_cast, ↓reduceIte, Nat.reduceEqDiff, Nat.reduceAdd, reduceCtorEq, hsum, List.all_cons, List.all_nil] <;> rfl) (by exact ConvV.self rfl) ?_
            refine hf_cons (by simp (dsimp := false) only [push_cast, ↓reduceIte, Nat.reduceEqDiff, Nat.reduceAdd, reduceCtorEq, hsum, List.all_cons, List.all_nil] <;> rfl) (by exact ConvV.self rfl) ?_
            exact hf_nil
          · refine hh_cons (i := (2, 0)) (by simp) (by simp) (by simp (dsimp := false) only [push_cast, ↓reduceIte, Nat.reduceEqDiff, Nat.reduceAdd, reduceCtorEq, hsum, List.all_cons, List.all_nil] <;> rfl) (by first | (refine ConvB.free ?_; simp only [push_cast]; done) | (refine ConvB.box ?_; repeat' (first | exact ConvVs.nil | exact ConvL.nil | refine ConvV.tup ?_ | refine ConvVs.cons ?_ ?_ | (refine ConvV.self ?_; simp only [push_cast]; done) | refine ConvV.one ?_ | refine ConvV.agg ?_ | (refine ConvL.free ?_; simp only [push_cast]; done) | refine ConvL.append ?_ ?_ | refine ConvL.cons ?_ ?_ | exact Conv.free rfl | exact Conv.nil | (refine Conv.own ?_; simp; done) | (refine Conv.loc ?_; simp; done) | refine Conv.frz (by simp) (by simp (dsimp := false) only [push_cast, ↓reduceIte, Nat.reduceEqDiff, Nat.reduceAdd, reduceCtorEq, hsum, List.all_cons, List.all_nil] <;> rfl) ?_ | refine Conv.sl (by simp) ?_ | refine Conv.fn ?_))) ?_
            exact hh_nil
        · exact ⟨by omega, by omega, rfl⟩
        · rintro m τ ⟨i, hm, ⟨hi0, hi1, hi2⟩, rfl⟩ K hL1
          have hw := fun h : i < (v.inputs.length : Int) => wrap_next hi0 h (by have := hf.inputs; omega)
          have hd := fun h : i < (v.inputs.length : Int) => dropI_map (fun l => PC.sl false l.length (l.map fun b => PC.c (Value.bool b))) hi0 h
          refine vwp_seq_region rfl fun K hK => ?_
          simp (dsimp := false) only [push_cast, hP, hnt, hgw, hgb, sevalprocAttr, hsum, List.all_cons, List.all_nil, hi0]
          refine hK _ ?_; clear hK
          refine vwp_seq fun K hK => ?_
          refine vwp_cond (b := _) (by simp (dsimp := false) only [push_cast, hP, hnt, hgw, hgb, sevalprocAttr, hsum, List.all_cons, List.all_nil, hi0]; rfl) (fun rb3 => ?_) (fun rb3 => ?_)
          · have hb3 := rb3
            try simp only [beq_iff_eq, bne_iff_ne, ne_eq, bne_eq_false_iff_eq, beq_eq_false_iff_ne, decide_eq_true_eq, decide_eq_false_iff_not, Bool.not_eq_true', Bool.not_eq_false', Bool.or_eq_true, Bool.and_eq_true, Bool.or_eq_false_iff, Bool.and_eq_false_iff] at hb3
            have hw := hw hb3
            have hd := hd hb3
            refine vwp_skip ?_
            apply_assumption
            refine vwp_seq fun K hK => ?_
            refine vwp_block ?_
            refine vwp_seq_region rfl fun K hK => ?_
            simp (dsimp := false) only [push_cast, hP, hnt, hgw, hgb, sevalprocAttr, hsum, List.all_cons, List.all_nil, hi0, hw, hd, hb3]
            refine hK _ ?_; clear hK
            refine vwp_seq_region rfl fun K hK => ?_
            simp (dsimp := false) only [push_cast, hP, hnt, hgw, hgb, sevalprocAttr, hsum, List.all_cons, List.all_nil, hi0, hw, hd, hb3]
            refine hK _ ?_; clear hK
            refine vwp_cond (b := _) (by simp (dsimp := false) only [push_cast, hP, hnt, hgw, hgb, sevalprocAttr, hsum, List.all_cons, List.all_nil, hi0, hw, hd, hb3]; rfl) (fun rb4 => ?_) (fun rb4 => ?_)
            · have hb4 := rb4
              try simp only [beq_iff_eq, bne_iff_ne, ne_eq, bne_eq_false_iff_eq, beq_eq_false_iff_ne, decide_eq_true_eq, decide_eq_false_iff_not, Bool.not_eq_true', Bool.not_eq_false', Bool.or_eq_true, Bool.and_eq_true, Bool.or_eq_false_iff, Bool.and_eq_false_iff] at hb4
              refine vwp_seq_region rfl fun K hK => ?_
              simp (dsimp := false) only [push_cast, hP, hnt, hgw, hgb, sevalprocAttr, hsum, List.all_cons, List.all_nil, hi0, hw, hd, hb3]
              refine hK _ ?_; clear hK
              refine vwp_ret ?_
              refine ret_free (by simp (dsimp := false) only [push_cast, hP, hnt, hgw, hgb, sevalprocAttr, hsum, List.all_cons, List.all_nil, hi0, hw, hd, hb3]; rfl) (by simp (dsimp := false) only [push_cast, hP, hnt, hgw, hgb, sevalprocAttr, hsum, List.all_cons, List.all_nil, hi0, hw, hd, hb3]) ?_
              rw [mayF_no (by have ha := all_stop hi0 hb3 hi2 (by unfold wideF; exact decide_eq_false (by omega)); rintro (⟨h1, h2, h3⟩ | ⟨h1, h2, h3, h4⟩ | ⟨h1, h2, h3, h4⟩) <;> first | omega | (simp_all; done) | (simp_all; omega))]; rfl
            · have hb4 := rb4
              try simp only [beq_iff_eq, bne_iff_ne, ne_eq, bne_eq_false_iff_eq, beq_eq_false_iff_ne, decide_eq_true_eq, decide_eq_false_iff_not, Bool.not_eq_true', Bool.not_eq_false', Bool.or_eq_true, Bool.and_eq_true, Bool.or_eq_false_iff, Bool.and_eq_false_iff] at hb4
              refine vwp_skip ?_
              apply_assumption
              refine vwp_region rfl ?_
              simp (dsimp := false) only [push_cast, hP, hnt, hgw, hgb, sevalprocAttr, hsum, List.all_cons, List.all_nil, hi0, hw, hd, hb3]
              refine hL1 _ _ _ ?_ ?_ ⟨i + 1, rfl, ?_, rfl⟩
              · omega
              · refine wk_conv [] [((2, 0), (2, 0))] (by simp) (by simp) (by decide) ?_ ?_
                · refine hf_cons (by simp (dsimp := false) only [push_cast, ↓reduceIte, Nat.reduceEqDiff, Nat.reduceAdd, reduceCtorEq, hsum, List.all_cons, List.all_nil, hi0, hw, hd, hb3] <;> rfl) (by exact .one (.loc (by simp))) ?_
                  refine hf_cons (by simp (dsimp := false) only [push_cast, ↓reduceIte, Nat.reduceEqDiff, Nat.reduceAdd, reduceCtorEq, hsum, List.all_cons, List.all_nil, hi0, hw, hd, hb3] <;> rfl) (by repeat' (first | exact ConvVs.nil | exact ConvL.nil | refine ConvV.tup ?_ | refine ConvVs.cons ?_ ?_ | (refine ConvV.self ?_; simp only [push_cast]; done) | refine ConvV.one ?_ | refine ConvV.agg ?_ | (refine ConvL.free ?_; simp only [push_cast]; done) | refine ConvL.append ?_ ?_ | refine ConvL.cons ?_ ?_ | exact Conv.free rfl | exact Conv.nil | (refine Conv.own ?_; simp; done) | (refine Conv.loc ?_; simp; done) | refine Conv.frz (by simp) (by simp (dsimp := false) only [push_cast, ↓reduceIte, Nat.reduceEqDiff, Nat.reduceAdd, reduceCtorEq, hsum, List.all_cons, List.all_nil, hi0, hw, hd, hb3] <;> rfl) ?_ | refine Conv.sl (by simp) ?_ | refine Conv.fn ?_)) ?_
                  refine hf_cons (by simp (dsimp := false) only [push_cast, ↓reduceIte, Nat.reduceEqDiff, Nat.reduceAdd, reduceCtorEq, hsum, List.all_cons, List.all_nil, hi0, hw, hd, hb3] <;> rfl) (by exact ConvV.self rfl) ?_
                  refine hf_cons (by simp (dsimp := false) only [push_cast, ↓reduceIte, Nat.reduceEqDiff, Nat.reduceAdd, reduceCtorEq, hsum, List.all_cons, List.all_nil, hi0, hw, hd, hb3] <;> rfl) (by exact ConvV.self rfl) ?_
                  exact hf_nil
                · refine hh_cons (i := (2, 0)) (by simp) (by simp) (by simp (dsimp := false) only [push_cast, ↓reduceIte, Nat.reduceEqDiff, Nat.reduceAdd, reduceCtorEq, hsum, List.all_cons, List.all_nil, hi0, hw, hd, hb3] <;> rfl) (by first | (refine ConvB.free ?_; simp only [push_cast]; done) | (refine ConvB.box ?_; repeat' (first | exact ConvVs.nil | exact ConvL.nil | refine ConvV.tup ?_ | refine ConvVs.cons ?_ ?_ | (refine ConvV.self ?_; simp only [push_cast]; done) | refine ConvV.one ?_ | refine ConvV.agg ?_ | (refine ConvL.free ?_; simp only [push_cast]; done) | refine ConvL.append ?_ ?_ | refine ConvL.cons ?_ ?_ | exact Conv.free rfl | exact Conv.nil | (refine Conv.own ?_; simp; done) | (refine Conv.loc ?_; simp; done) | refine Conv.frz (by simp) (by simp (dsimp := false) only [push_cast, ↓reduceIte, Nat.reduceEqDiff, Nat.reduceAdd, reduceCtorEq, hsum, List.all_cons, List.all_nil, hi0, hw, hd, hb3] <;> rfl) ?_ | refine Conv.sl (by simp) ?_ | refine Conv.fn ?_))) ?_
                  exact hh_nil
              · exact ⟨by omega, by omega, all_next hi0 hb3 hi2 (by unfold wideF; exact decide_eq_true (by omega))⟩
          · have hb3 := rb3
            try simp only [beq_iff_eq, bne_iff_ne, ne_eq, bne_eq_false_iff_eq, beq_eq_false_iff_ne, decide_eq_true_eq, decide_eq_false_iff_not, Bool.not_eq_true', Bool.not_eq_false', Bool.or_eq_true, Bool.and_eq_true, Bool.or_eq_false_iff, Bool.and_eq_false_iff] at hb3
            refine vwp_exit ?_
            simp only [thenQ, blockQ, Nat.reduceEqDiff, reduceIte]
            apply_assumption
            refine vwp_seq_region rfl fun K hK => ?_
            simp (dsimp := false) only [push_cast, hP, hnt, hgw, hgb, sevalprocAttr, hsum, List.all_cons, List.all_nil, hi0]
            refine hK _ ?_; clear hK
            refine vwp_ret ?_
            refine ret_free (by simp (dsimp := false) only [push_cast, hP, hnt, hgw, hgb, sevalprocAttr, hsum, List.all_cons, List.all_nil, hi0]; rfl) (by simp (dsimp := false) only [push_cast, hP, hnt, hgw, hgb, sevalprocAttr, hsum, List.all_cons, List.all_nil, hi0]) ?_
            rw [(mayF_iff v).2 (.inr (.inl ⟨hb1, (noProof_iff v).2 (by omega), by omega, all_end hb3 hi2⟩))]; rfl
    · have hb1 := rb1
      try simp only [beq_iff_eq, bne_iff_ne, ne_eq, bne_eq_false_iff_eq, beq_eq_false_iff_ne, decide_eq_true_eq, decide_eq_false_iff_not, Bool.not_eq_true', Bool.not_eq_false', Bool.or_eq_true, Bool.and_eq_true, Bool.or_eq_false_iff, Bool.and_eq_false_iff] at hb1
      refine vwp_seq_region rfl fun K hK => ?_
      simp (dsimp := false) only [push_cast, hP, hnt, hgw, hgb, sevalprocAttr, hsum, List.all_cons, List.all_nil]
      refine hK _ ?_; clear hK
      refine vwp_cond (b := _) (by simp (dsimp := false) only [push_cast, hP, hnt, hgw, hgb, sevalprocAttr, hsum, List.all_cons, List.all_nil]; rfl) (fun rb5 => ?_) (fun rb5 => ?_)
      · have hb5 := rb5
        try simp only [beq_iff_eq, bne_iff_ne, ne_eq, bne_eq_false_iff_eq, beq_eq_false_iff_ne, decide_eq_true_eq, decide_eq_false_iff_not, Bool.not_eq_true', Bool.not_eq_false', Bool.or_eq_true, Bool.and_eq_true, Bool.or_eq_false_iff, Bool.and_eq_false_iff] at hb5
        refine vwp_seq fun K hK => ?_
        refine vwp_seq_regionG fun K hK => ?_
        simp (dsimp := false) only [push_cast, hP, hnt, hgw, hgb, sevalprocAttr, hsum, List.all_cons, List.all_nil]
        refine guardR_may (by simp (dsimp := false) only [push_cast, hP, hnt, hgw, hgb, sevalprocAttr, hsum, List.all_cons, List.all_nil, List.getElem?_cons_zero, List.getElem?_cons_succ]; rfl) ?_
        simp (dsimp := false) only [push_cast, hP, hnt, hgw, hgb, sevalprocAttr, hsum, List.all_cons, List.all_nil]
        refine guardR_may (by simp (dsimp := false) only [push_cast, hP, hnt, hgw, hgb, sevalprocAttr, hsum, List.all_cons, List.all_nil, List.getElem?_cons_zero, List.getElem?_cons_succ]; rfl) ?_
        simp (dsimp := false) only [push_cast, hP, hnt, hgw, hgb, sevalprocAttr, hsum, List.all_cons, List.all_nil]
        refine guardR_may (by simp (dsimp := false) only [push_cast, hP, hnt, hgw, hgb, sevalprocAttr, hsum, List.all_cons, List.all_nil, List.getElem?_cons_zero, List.getElem?_cons_succ]; rfl) ?_
        simp (dsimp := false) only [push_cast, hP, hnt, hgw, hgb, sevalprocAttr, hsum, List.all_cons, List.all_nil]
        refine guardR_may (by simp (dsimp := false) only [push_cast, hP, hnt, hgw, hgb, sevalprocAttr, hsum, List.all_cons, List.all_nil, List.getElem?_cons_zero, List.getElem?_cons_succ]; rfl) ?_
        simp (dsimp := false) only [push_cast, hP, hnt, hgw, hgb, sevalprocAttr, hsum, List.all_cons, List.all_nil]
        refine guardR_may (by simp (dsimp := false) only [push_cast, hP, hnt, hgw, hgb, sevalprocAttr, hsum, List.all_cons, List.all_nil, List.getElem?_cons_zero, List.getElem?_cons_succ]; rfl) ?_
        simp (dsimp := false) only [push_cast, hP, hnt, hgw, hgb, sevalprocAttr, hsum, List.all_cons, List.all_nil]
        refine guardR_may (by simp (dsimp := false) only [push_cast, hP, hnt, hgw, hgb, sevalprocAttr, hsum, List.all_cons, List.all_nil, List.getElem?_cons_zero, List.getElem?_cons_succ]; rfl) ?_
        simp (dsimp := false) only [push_cast, hP, hnt, hgw, hgb, sevalprocAttr, hsum, List.all_cons, List.all_nil]
        refine callE_intro (within_call gw gb 100 [v.skip, v.phases] (by simp)) (.inl ⟨rfl, rfl⟩) ?_
        refine ⟨rfl, ?_⟩
        simp (dsimp := false) only [push_cast, hP, hnt, hgw, hgb, sevalprocAttr, hsum, List.all_cons, List.all_nil]
        refine guardR_may (by simp (dsimp := false) only [push_cast, hP, hnt, hgw, hgb, sevalprocAttr, hsum, List.all_cons, List.all_nil, List.getElem?_cons_zero, List.getElem?_cons_succ]; rfl) ?_
        simp (dsimp := false) only [push_cast, hP, hnt, hgw, hgb, sevalprocAttr, hsum, List.all_cons, List.all_nil]
        refine guardR_may (by simp (dsimp := false) only [push_cast, hP, hnt, hgw, hgb, sevalprocAttr, hsum, List.all_cons, List.all_nil, List.getElem?_cons_zero, List.getElem?_cons_succ]; rfl) ?_
        simp (dsimp := false) only [push_cast, hP, hnt, hgw, hgb, sevalprocAttr, hsum, List.all_cons, List.all_nil]
        refine guardR_may (by simp (dsimp := false) only [push_cast, hP, hnt, hgw, hgb, sevalprocAttr, hsum, List.all_cons, List.all_nil, List.getElem?_cons_zero, List.getElem?_cons_succ]; rfl) ?_
        simp (dsimp := false) only [push_cast, hP, hnt, hgw, hgb, sevalprocAttr, hsum, List.all_cons, List.all_nil]
        refine guardR_may (by simp (dsimp := false) only [push_cast, hP, hnt, hgw, hgb, sevalprocAttr, hsum, List.all_cons, List.all_nil, List.getElem?_cons_zero, List.getElem?_cons_succ]; rfl) ?_
        simp (dsimp := false) only [push_cast, hP, hnt, hgw, hgb, sevalprocAttr, hsum, List.all_cons, List.all_nil]
        refine guardR_may (by simp (dsimp := false) only [push_cast, hP, hnt, hgw, hgb, sevalprocAttr, hsum, List.all_cons, List.all_nil, List.getElem?_cons_zero, List.getElem?_cons_succ]; rfl) ?_
        simp (dsimp := false) only [push_cast, hP, hnt, hgw, hgb, sevalprocAttr, hsum, List.all_cons, List.all_nil]
        refine guardR_may (by simp (dsimp := false) only [push_cast, hP, hnt, hgw, hgb, sevalprocAttr, hsum, List.all_cons, List.all_nil, List.getElem?_cons_zero, List.getElem?_cons_succ]; rfl) ?_
        simp (dsimp := false) only [push_cast, hP, hnt, hgw, hgb, sevalprocAttr, hsum, List.all_cons, List.all_nil]
        refine guardR_may (by simp (dsimp := false) only [push_cast, hP, hnt, hgw, hgb, sevalprocAttr, hsum, List.all_cons, List.all_nil, List.getElem?_cons_zero, List.getElem?_cons_succ]; rfl) ?_
        simp (dsimp := false) only [push_cast, hP, hnt, hgw, hgb, sevalprocAttr, hsum, List.all_cons, List.all_nil]
        refine guardR_may (by simp (dsimp := false) only [push_cast, hP, hnt, hgw, hgb, sevalprocAttr, hsum, List.all_cons, List.all_nil, List.getElem?_cons_zero, List.getElem?_cons_succ]; rfl) ?_
        simp (dsimp := false) only [push_cast, hP, hnt, hgw, hgb, sevalprocAttr, hsum, List.all_cons, List.all_nil]
        refine guardR_may (by simp (dsimp := false) only [push_cast, hP, hnt, hgw, hgb, sevalprocAttr, hsum, List.all_cons, List.all_nil, List.getElem?_cons_zero, List.getElem?_cons_succ]; rfl) ?_
        simp (dsimp := false) only [push_cast, hP, hnt, hgw, hgb, sevalprocAttr, hsum, List.all_cons, List.all_nil]
        refine guardR_may (by simp (dsimp := false) only [push_cast, hP, hnt, hgw, hgb, sevalprocAttr, hsum, List.all_cons, List.all_nil, List.getElem?_cons_zero, List.getElem?_cons_succ]; rfl) ?_
        simp (dsimp := false) only [push_cast, hP, hnt, hgw, hgb, sevalprocAttr, hsum, List.all_cons, List.all_nil]
        refine guardR_may (by simp (dsimp := false) only [push_cast, hP, hnt, hgw, hgb, sevalprocAttr, hsum, List.all_cons, List.all_nil, List.getElem?_cons_zero, List.getElem?_cons_succ]; rfl) ?_
        simp (dsimp := false) only [push_cast, hP, hnt, hgw, hgb, sevalprocAttr, hsum, List.all_cons, List.all_nil]
        refine callE_intro (within_call gw gb 2001 [v.lit] (by simp)) (.inl ⟨rfl, rfl⟩) ?_
        refine ⟨rfl, ?_⟩
        simp (dsimp := false) only [push_cast, hP, hnt, hgw, hgb, sevalprocAttr, hsum, List.all_cons, List.all_nil]
        refine guardR_may (by simp (dsimp := false) only [push_cast, hP, hnt, hgw, hgb, sevalprocAttr, hsum, List.all_cons, List.all_nil, List.getElem?_cons_zero, List.getElem?_cons_succ]; rfl) ?_
        simp (dsimp := false) only [push_cast, hP, hnt, hgw, hgb, sevalprocAttr, hsum, List.all_cons, List.all_nil]
        refine hK _ ?_; clear hK
        refine vwp_cond (b := _) (by simp (dsimp := false) only [push_cast, hP, hnt, hgw, hgb, sevalprocAttr, hsum, List.all_cons, List.all_nil]; rfl) (fun rb6 => ?_) (fun rb6 => ?_)
        · have hb6 := rb6
          try simp only [beq_iff_eq, bne_iff_ne, ne_eq, bne_eq_false_iff_eq, beq_eq_false_iff_ne, decide_eq_true_eq, decide_eq_false_iff_not, Bool.not_eq_true', Bool.not_eq_false', Bool.or_eq_true, Bool.and_eq_true, Bool.or_eq_false_iff, Bool.and_eq_false_iff] at hb6
          refine vwp_seq_region rfl fun K hK => ?_
          simp (dsimp := false) only [push_cast, hP, hnt, hgw, hgb, sevalprocAttr, hsum, List.all_cons, List.all_nil]
          refine hK _ ?_; clear hK
          refine vwp_ret ?_
          refine ret_free (by simp (dsimp := false) only [push_cast, hP, hnt, hgw, hgb, sevalprocAttr, hsum, List.all_cons, List.all_nil]; rfl) (by simp (dsimp := false) only [push_cast, hP, hnt, hgw, hgb, sevalprocAttr, hsum, List.all_cons, List.all_nil]) ?_
          rw [mayF_no (by rintro (⟨h1, h2, h3⟩ | ⟨h1, h2, h3, h4⟩ | ⟨h1, h2, h3, h4⟩) <;> first | omega | (rcases hb6 with ((g | g | g) | g) | g <;> first | omega | (simp_all; done) | (simp_all; omega)))]; rfl
        · have hb6 := rb6
          try simp only [beq_iff_eq, bne_iff_ne, ne_eq, bne_eq_false_iff_eq, beq_eq_false_iff_ne, decide_eq_true_eq, decide_eq_false_iff_not, Bool.not_eq_true', Bool.not_eq_false', Bool.or_eq_true, Bool.and_eq_true, Bool.or_eq_false_iff, Bool.and_eq_false_iff] at hb6
          refine vwp_skip ?_
          apply_assumption
          refine vwp_seq fun K hK => ?_
          refine vwp_seq_region rfl fun K hK => ?_
          simp (dsimp := false) only [push_cast, hP, hnt, hgw, hgb, sevalprocAttr, hsum, List.all_cons, List.all_nil]
          refine hK _ ?_; clear hK
          refine vwp_block ?_
          refine vwp_loop (fun m σ => ∃ (i : Int), m = (v.ands.length - i).toNat ∧ ((0 ≤ i) ∧ (i ≤ v.ands.length) ∧ ((v.ands.drop i.toNat).all gateF = v.ands.all gateF)) ∧ σ = St.of [(1, .one (.loc (2, 0) 0)), (118, .one (.sl false v.ands.length (v.ands.flatMap fun g => [.c (.int .i64 g.1), .c (.int .i64 g.2)]))), (119, .one (.c (.int .i64 v.ands.length))), (120, .one (.c (.int .i64 i)))] [((2, 0), .box 34 (v.pcs false))] [1]) _ ⟨_, ?_, 0, rfl, ?_, rfl⟩ ?_
          · refine wk_conv [] [((2, 0), (2, 0))] (by simp) (by simp) (by decide) ?_ ?_
            · refine hf_cons (by simp (dsimp := false) only [push_cast, ↓reduceIte, Nat.reduceEqDiff, Nat.reduceAdd, reduceCtorEq, hsum, List.all_cons, List.all_nil] <;> rfl) (by exact .one (.loc (by simp))) ?_
              refine hf_cons (by simp (dsimp := false) only [push_cast, ↓reduceIte, Nat.reduceEqDiff, Nat.reduceAdd, reduceCtorEq, hsum, List.all_cons, List.all_nil] <;> rfl) (by repeat' (first | exact ConvVs.nil | exact ConvL.nil | refine ConvV.tup ?_ | refine ConvVs.cons ?_ ?_ | (refine ConvV.self ?_; simp only [push_cast]; done) | refine ConvV.one ?_ | refine ConvV.agg ?_ | (refine ConvL.free ?_; simp only [push_cast]; done) | refine ConvL.append ?_ ?_ | refine ConvL.cons ?_ ?_ | exact Conv.free rfl | exact Conv.nil | (refine Conv.own ?_; simp; done) | (refine Conv.loc ?_; simp; done) | refine Conv.frz (by simp) (by simp (dsimp := false) only [push_cast, ↓reduceIte, Nat.reduceEqDiff, Nat.reduceAdd, reduceCtorEq, hsum, List.all_cons, List.all_nil] <;> rfl) ?_ | refine Conv.sl (by simp) ?_ | refine Conv.fn ?_)) ?_
              refine hf_cons (by simp (dsimp := false) only [push_cast, ↓reduceIte, Nat.reduceEqDiff, Nat.reduceAdd, reduceCtorEq, hsum, List.all_cons, List.all_nil] <;> rfl) (by exact ConvV.self rfl) ?_
              refine hf_cons (by simp (dsimp := false) only [push_cast, ↓reduceIte, Nat.reduceEqDiff, Nat.reduceAdd, reduceCtorEq, hsum, List.all_cons, List.all_nil] <;> rfl) (by exact ConvV.self rfl) ?_
              exact hf_nil
            · refine hh_cons (i := (2, 0)) (by simp) (by simp) (by simp (dsimp := false) only [push_cast, ↓reduceIte, Nat.reduceEqDiff, Nat.reduceAdd, reduceCtorEq, hsum, List.all_cons, List.all_nil] <;> rfl) (by first | (refine ConvB.free ?_; simp only [push_cast]; done) | (refine ConvB.box ?_; repeat' (first | exact ConvVs.nil | exact ConvL.nil | refine ConvV.tup ?_ | refine ConvVs.cons ?_ ?_ | (refine ConvV.self ?_; simp only [push_cast]; done) | refine ConvV.one ?_ | refine ConvV.agg ?_ | (refine ConvL.free ?_; simp only [push_cast]; done) | refine ConvL.append ?_ ?_ | refine ConvL.cons ?_ ?_ | exact Conv.free rfl | exact Conv.nil | (refine Conv.own ?_; simp; done) | (refine Conv.loc ?_; simp; done) | refine Conv.frz (by simp) (by simp (dsimp := false) only [push_cast, ↓reduceIte, Nat.reduceEqDiff, Nat.reduceAdd, reduceCtorEq, hsum, List.all_cons, List.all_nil] <;> rfl) ?_ | refine Conv.sl (by simp) ?_ | refine Conv.fn ?_))) ?_
              exact hh_nil
          · exact ⟨by omega, by omega, rfl⟩
          · rintro m τ ⟨i, hm, ⟨hi0, hi1, hi2⟩, rfl⟩ K hL3
            have hw := fun h : i < (v.ands.length : Int) => wrap_next hi0 h (by have := hf.ands; omega)
            have hd := fun h : i < (v.ands.length : Int) => dropI_two (fun g : Int × Int => PC.c (Value.int .i64 g.1)) (fun g => PC.c (Value.int .i64 g.2)) hi0 h
            refine vwp_seq_region rfl fun K hK => ?_
            simp (dsimp := false) only [push_cast, hP, hnt, hgw, hgb, sevalprocAttr, hsum, List.all_cons, List.all_nil, hi0]
            refine hK _ ?_; clear hK
            refine vwp_seq fun K hK => ?_
            refine vwp_cond (b := _) (by simp (dsimp := false) only [push_cast, hP, hnt, hgw, hgb, sevalprocAttr, hsum, List.all_cons, List.all_nil, hi0]; rfl) (fun rb7 => ?_) (fun rb7 => ?_)
            · have hb7 := rb7
              try simp only [beq_iff_eq, bne_iff_ne, ne_eq, bne_eq_false_iff_eq, beq_eq_false_iff_ne, decide_eq_true_eq, decide_eq_false_iff_not, Bool.not_eq_true', Bool.not_eq_false', Bool.or_eq_true, Bool.and_eq_true, Bool.or_eq_false_iff, Bool.and_eq_false_iff] at hb7
              have hw := hw hb7
              have hd := hd hb7
              refine vwp_skip ?_
              apply_assumption
              refine vwp_seq fun K hK => ?_
              refine vwp_block ?_
              refine vwp_seq_region rfl fun K hK => ?_
              simp (dsimp := false) only [push_cast, hP, hnt, hgw, hgb, sevalprocAttr, hsum, List.all_cons, List.all_nil, hi0, hw, hd, hb7]
              refine hK _ ?_; clear hK
              refine vwp_seq_region rfl fun K hK => ?_
              simp (dsimp := false) only [push_cast, hP, hnt, hgw, hgb, sevalprocAttr, hsum, List.all_cons, List.all_nil, hi0, hw, hd, hb7]
              refine .inl (callE_intro (within_call gw gb 2001 [(atI v.ands i).1, (atI v.ands i).2] (by simp)) (.inl ⟨rfl, rfl⟩) ?_)
              simp (dsimp := false) only [push_cast, hP, hnt, hgw, hgb, sevalprocAttr, hsum, List.all_cons, List.all_nil, hi0, hw, hd, hb7]
              refine hK _ ?_; clear hK
              refine vwp_cond (b := _) (by simp (dsimp := false) only [push_cast, hP, hnt, hgw, hgb, sevalprocAttr, hsum, List.all_cons, List.all_nil, hi0, hw, hd, hb7]; rfl) (fun rb8 => ?_) (fun rb8 => ?_)
              · have hb8 := rb8
                try simp only [beq_iff_eq, bne_iff_ne, ne_eq, bne_eq_false_iff_eq, beq_eq_false_iff_ne, decide_eq_true_eq, decide_eq_false_iff_not, Bool.not_eq_true', Bool.not_eq_false', Bool.or_eq_true, Bool.and_eq_true, Bool.or_eq_false_iff, Bool.and_eq_false_iff] at hb8
                refine vwp_seq_region rfl fun K hK => ?_
                simp (dsimp := false) only [push_cast, hP, hnt, hgw, hgb, sevalprocAttr, hsum, List.all_cons, List.all_nil, hi0, hw, hd, hb7]
                refine hK _ ?_; clear hK
                refine vwp_ret ?_
                refine ret_free (by simp (dsimp := false) only [push_cast, hP, hnt, hgw, hgb, sevalprocAttr, hsum, List.all_cons, List.all_nil, hi0, hw, hd, hb7]; rfl) (by simp (dsimp := false) only [push_cast, hP, hnt, hgw, hgb, sevalprocAttr, hsum, List.all_cons, List.all_nil, hi0, hw, hd, hb7]) ?_
                rw [mayF_no (by have ha := all_stop hi0 hb7 hi2 (by unfold gateF; rcases hb8 with g | g <;> simp [g]); rintro (⟨h1, h2, h3⟩ | ⟨h1, h2, h3, h4⟩ | ⟨h1, h2, h3, h4⟩) <;> first | omega | (simp_all; done) | (simp_all; omega))]; rfl
              · have hb8 := rb8
                try simp only [beq_iff_eq, bne_iff_ne, ne_eq, bne_eq_false_iff_eq, beq_eq_false_iff_ne, decide_eq_true_eq, decide_eq_false_iff_not, Bool.not_eq_true', Bool.not_eq_false', Bool.or_eq_true, Bool.and_eq_true, Bool.or_eq_false_iff, Bool.and_eq_false_iff] at hb8
                refine vwp_skip ?_
                apply_assumption
                refine vwp_region rfl ?_
                simp (dsimp := false) only [push_cast, hP, hnt, hgw, hgb, sevalprocAttr, hsum, List.all_cons, List.all_nil, hi0, hw, hd, hb7]
                refine hL3 _ _ _ ?_ ?_ ⟨i + 1, rfl, ?_, rfl⟩
                · omega
                · refine wk_conv [] [((2, 0), (2, 0))] (by simp) (by simp) (by decide) ?_ ?_
                  · refine hf_cons (by simp (dsimp := false) only [push_cast, ↓reduceIte, Nat.reduceEqDiff, Nat.reduceAdd, reduceCtorEq, hsum, List.all_cons, List.all_nil, hi0, hw, hd, hb7] <;> rfl) (by exact .one (.loc (by simp))) ?_
                    refine hf_cons (by simp (dsimp := false) only [push_cast, ↓reduceIte, Nat.reduceEqDiff, Nat.reduceAdd, reduceCtorEq, hsum, List.all_cons, List.all_nil, hi0, hw, hd, hb7] <;> rfl) (by repeat' (first | exact ConvVs.nil | exact ConvL.nil | refine ConvV.tup ?_ | refine ConvVs.cons ?_ ?_ | (refine ConvV.self ?_; simp only [push_cast]; done) | refine ConvV.one ?_ | refine ConvV.agg ?_ | (refine ConvL.free ?_; simp only [push_cast]; done) | refine ConvL.append ?_ ?_ | refine ConvL.cons ?_ ?_ | exact Conv.free rfl | exact Conv.nil | (refine Conv.own ?_; simp; done) | (refine Conv.loc ?_; simp; done) | refine Conv.frz (by simp) (by simp (dsimp := false) only [push_cast, ↓reduceIte, Nat.reduceEqDiff, Nat.reduceAdd, reduceCtorEq, hsum, List.all_cons, List.all_nil, hi0, hw, hd, hb7] <;> rfl) ?_ | refine Conv.sl (by simp) ?_ | refine Conv.fn ?_)) ?_
                    refine hf_cons (by simp (dsimp := false) only [push_cast, ↓reduceIte, Nat.reduceEqDiff, Nat.reduceAdd, reduceCtorEq, hsum, List.all_cons, List.all_nil, hi0, hw, hd, hb7] <;> rfl) (by exact ConvV.self rfl) ?_
                    refine hf_cons (by simp (dsimp := false) only [push_cast, ↓reduceIte, Nat.reduceEqDiff, Nat.reduceAdd, reduceCtorEq, hsum, List.all_cons, List.all_nil, hi0, hw, hd, hb7] <;> rfl) (by exact ConvV.self rfl) ?_
                    exact hf_nil
                  · refine hh_cons (i := (2, 0)) (by simp) (by simp) (by simp (dsimp := false) only [push_cast, ↓reduceIte, Nat.reduceEqDiff, Nat.reduceAdd, reduceCtorEq, hsum, List.all_cons, List.all_nil, hi0, hw, hd, hb7] <;> rfl) (by first | (refine ConvB.free ?_; simp only [push_cast]; done) | (refine ConvB.box ?_; repeat' (first | exact ConvVs.nil | exact ConvL.nil | refine ConvV.tup ?_ | refine ConvVs.cons ?_ ?_ | (refine ConvV.self ?_; simp only [push_cast]; done) | refine ConvV.one ?_ | refine ConvV.agg ?_ | (refine ConvL.free ?_; simp only [push_cast]; done) | refine ConvL.append ?_ ?_ | refine ConvL.cons ?_ ?_ | exact Conv.free rfl | exact Conv.nil | (refine Conv.own ?_; simp; done) | (refine Conv.loc ?_; simp; done) | refine Conv.frz (by simp) (by simp (dsimp := false) only [push_cast, ↓reduceIte, Nat.reduceEqDiff, Nat.reduceAdd, reduceCtorEq, hsum, List.all_cons, List.all_nil, hi0, hw, hd, hb7] <;> rfl) ?_ | refine Conv.sl (by simp) ?_ | refine Conv.fn ?_))) ?_
                    exact hh_nil
                · exact ⟨by omega, by omega, all_next hi0 hb7 hi2 (by unfold gateF; simp [hb8.1, hb8.2])⟩
            · have hb7 := rb7
              try simp only [beq_iff_eq, bne_iff_ne, ne_eq, bne_eq_false_iff_eq, beq_eq_false_iff_ne, decide_eq_true_eq, decide_eq_false_iff_not, Bool.not_eq_true', Bool.not_eq_false', Bool.or_eq_true, Bool.and_eq_true, Bool.or_eq_false_iff, Bool.and_eq_false_iff] at hb7
              refine vwp_exit ?_
              simp only [thenQ, blockQ, Nat.reduceEqDiff, reduceIte]
              apply_assumption
              refine vwp_seq_region rfl fun K hK => ?_
              simp (dsimp := false) only [push_cast, hP, hnt, hgw, hgb, sevalprocAttr, hsum, List.all_cons, List.all_nil, hi0]
              refine hK _ ?_; clear hK
              refine vwp_ret ?_
              refine ret_free (by simp (dsimp := false) only [push_cast, hP, hnt, hgw, hgb, sevalprocAttr, hsum, List.all_cons, List.all_nil, hi0]; rfl) (by simp (dsimp := false) only [push_cast, hP, hnt, hgw, hgb, sevalprocAttr, hsum, List.all_cons, List.all_nil, hi0]) ?_
              rw [(mayF_iff v).2 (.inr (.inr ⟨hb5, by omega, ⟨hb6.1.1.2.1, hb6.1.1.2.2, by omega, hb6.2⟩, all_end hb7 hi2⟩))]; rfl
      · have hb5 := rb5
        try simp only [beq_iff_eq, bne_iff_ne, ne_eq, bne_eq_false_iff_eq, beq_eq_false_iff_ne, decide_eq_true_eq, decide_eq_false_iff_not, Bool.not_eq_true', Bool.not_eq_false', Bool.or_eq_true, Bool.and_eq_true, Bool.or_eq_false_iff, Bool.and_eq_false_iff] at hb5
        refine vwp_skip ?_
        apply_assumption
        refine vwp_seq_region rfl fun K hK => ?_
        simp (dsimp := false) only [push_cast, hP, hnt, hgw, hgb, sevalprocAttr, hsum, List.all_cons, List.all_nil]
        refine hK _ ?_; clear hK
        refine vwp_ret ?_
        refine ret_free (by simp (dsimp := false) only [push_cast, hP, hnt, hgw, hgb, sevalprocAttr, hsum, List.all_cons, List.all_nil]; rfl) (by simp (dsimp := false) only [push_cast, hP, hnt, hgw, hgb, sevalprocAttr, hsum, List.all_cons, List.all_nil]) ?_
        rw [mayF_no (by rintro (⟨h1, h2, h3⟩ | ⟨h1, h2, h3, h4⟩ | ⟨h1, h2, h3, h4⟩) <;> omega)]; rfl
end Go.Vm
