/-
  Walks of the program's functions by the framework, and what they compute (PtAN). Conditions: each theorem's own premises. By an AI agent.
-/
import Derived.Test.YtnpbndglolcilaaGreatDoorPtAM
section
namespace Go.Vm
open Go Go.RowKit Go.Proofs
set_option maxRecDepth 100000
set_option linter.unusedSimpArgs false
set_option linter.unusedVariables false
set_option maxHeartbeats 4000000

theorem same_len {α : Type} {a b : List α} (h : ¬ (a.length : Int) = (b.length : Int)) : ¬ a = b := by rintro rfl; exact h rfl
theorem same_next {α : Type} [Inhabited α] {a b : List α} {i : Int} (h0 : 0 ≤ i) (h1 : i < (a.length : Int)) (hl : a.length = b.length) (h : a.take i.toNat = b.take i.toNat) (he : atI a i = atI b i) : a.take (i + 1).toNat = b.take (i + 1).toNat := by
  rw [take_next h0 h1, take_next h0 (by omega), h, he]
theorem same_stop {α : Type} [Inhabited α] {a b : List α} {i : Int} (he : ¬ atI a i = atI b i) : ¬ a = b := by rintro rfl; exact he rfl
theorem same_end {α : Type} {a b : List α} {i : Int} (h1 : ¬ i < (a.length : Int)) (hl : a.length = b.length) (h : a.take i.toNat = b.take i.toNat) : a = b := by
  rwa [take_all h1, take_all (by omega)] at h
theorem same04_call (gw : World) (gb : Nat) (a b : List Bool) (ha : a.length ≤ 1000000) : VCall Tryz.prog gw (gb) 60 [.one (.sl false a.length (a.map fun b => .c (.bool b))), .one (.sl false b.length (b.map fun b => .c (.bool b)))] (.one (.c (.bool (decide (a = b))))) [] := by
  refine vcall_of [.tmp 4] Tryz.func60 rfl rfl Tryz.ntmps60 rfl (by simp) ?_
  intro C hP hnt hgw hgb hfull
  refine vwp_seq_region rfl fun K hK => ?_
  simp (dsimp := false) only [push_cast, hP, hnt, hgw, hgb, sevalprocAttr]
  refine hK _ ?_; clear hK
  refine vwp_seq fun K hK => ?_
  refine vwp_seq_region rfl fun K hK => ?_
  simp (dsimp := false) only [push_cast, hP, hnt, hgw, hgb, sevalprocAttr]
  refine hK _ ?_; clear hK
  refine vwp_cond (b := _) (by simp (dsimp := false) only [push_cast, hP, hnt, hgw, hgb, sevalprocAttr]; rfl) (fun rb0 => ?_) (fun rb0 => ?_)
  · have hb0 := rb0
    try simp only [beq_iff_eq, bne_iff_ne, ne_eq, bne_eq_false_iff_eq, beq_eq_false_iff_ne, decide_eq_true_eq, decide_eq_false_iff_not, Bool.not_eq_true', Bool.not_eq_false', Bool.or_eq_true, Bool.and_eq_true, Bool.or_eq_false_iff, Bool.and_eq_false_iff] at hb0
    refine vwp_seq_region rfl fun K hK => ?_
    simp (dsimp := false) only [push_cast, hP, hnt, hgw, hgb, sevalprocAttr]
    refine hK _ ?_; clear hK
    refine vwp_ret ?_
    refine ret_free (by simp (dsimp := false) only [push_cast, hP, hnt, hgw, hgb, sevalprocAttr]; rfl) (by simp (dsimp := false) only [push_cast, hP, hnt, hgw, hgb, sevalprocAttr]) ?_
    rw [decide_eq_false (same_len hb0)]; rfl
  · have hb0 := rb0
    try simp only [beq_iff_eq, bne_iff_ne, ne_eq, bne_eq_false_iff_eq, beq_eq_false_iff_ne, decide_eq_true_eq, decide_eq_false_iff_not, Bool.not_eq_true', Bool.not_eq_false', Bool.or_eq_true, Bool.and_eq_true, Bool.or_eq_false_iff, Bool.and_eq_false_iff] at hb0
    refine vwp_skip ?_
    apply_assumption
    refine vwp_seq fun K hK => ?_
    refine vwp_seq_region rfl fun K hK => ?_
    simp (dsimp := false) only [push_cast, hP, hnt, hgw, hgb, sevalprocAttr]
    refine hK _ ?_; clear hK
    refine vwp_block ?_
    refine vwp_loop (fun m σ => ∃ (i : Int), m = (a.length - i).toNat ∧ ((0 ≤ i) ∧ (i ≤ a.length) ∧ (a.length = b.length) ∧ (a.take i.toNat = b.take i.toNat)) ∧ σ = St.of [(0, .one (.sl false a.length (a.map fun b => .c (.bool b)))), (1, .one (.sl false b.length (b.map fun b => .c (.bool b)))), (5, .one (.c (.int .i64 i)))] [] []) _ ⟨_, ?_, 0, rfl, ?_, rfl⟩ ?_
    · refine wk_conv [] [] (by simp) (by simp) (by decide) ?_ ?_
      · refine hf_cons (by simp (dsimp := false) only [push_cast, ↓reduceIte, Nat.reduceEqDiff, Nat.reduceAdd, reduceCtorEq] <;> rfl) (by repeat' (first | exact ConvVs.nil | exact ConvL.nil | refine ConvV.tup ?_ | refine ConvVs.cons ?_ ?_ | (refine ConvV.self ?_; simp only [push_cast]; done) | refine ConvV.one ?_ | refine ConvV.agg ?_ | (refine ConvL.free ?_; simp only [push_cast]; done) | refine ConvL.append ?_ ?_ | refine ConvL.cons ?_ ?_ | exact Conv.free rfl | exact Conv.nil | (refine Conv.own ?_; simp; done) | (refine Conv.loc ?_; simp; done) | refine Conv.frz (by simp) (by simp (dsimp := false) only [push_cast, ↓reduceIte, Nat.reduceEqDiff, Nat.reduceAdd, reduceCtorEq] <;> rfl) ?_ | refine Conv.sl (by simp) ?_ | refine Conv.fn ?_)) ?_
        refine hf_cons (by simp (dsimp := false) only [push_cast, ↓reduceIte, Nat.reduceEqDiff, Nat.reduceAdd, reduceCtorEq] <;> rfl) (by repeat' (first | exact ConvVs.nil | exact ConvL.nil | refine ConvV.tup ?_ | refine ConvVs.cons ?_ ?_ | (refine ConvV.self ?_; simp only [push_cast]; done) | refine ConvV.one ?_ | refine ConvV.agg ?_ | (refine ConvL.free ?_; simp only [push_cast]; done) | refine ConvL.append ?_ ?_ | refine ConvL.cons ?_ ?_ | exact Conv.free rfl | exact Conv.nil | (refine Conv.own ?_; simp; done) | (refine Conv.loc ?_; simp; done) | refine Conv.frz (by simp) (by simp (dsimp := false) only [push_cast, ↓reduceIte, Nat.reduceEqDiff, Nat.reduceAdd, reduceCtorEq] <;> rfl) ?_ | refine Conv.sl (by simp) ?_ | refine Conv.fn ?_)) ?_
        refine hf_cons (by simp (dsimp := false) only [push_cast, ↓reduceIte, Nat.reduceEqDiff, Nat.reduceAdd, reduceCtorEq] <;> rfl) (by exact ConvV.self rfl) ?_
        exact hf_nil
      · exact hh_nil
    · exact ⟨by omega, by omega, by omega, rfl⟩
    · rintro m τ ⟨i, hm, ⟨hi0, hi1, hl, ht⟩, rfl⟩ K hL0
      have hw := fun h : i < (a.length : Int) => wrap_next hi0 h (by omega)
      have hda := fun h : i < (a.length : Int) => dropI_map (l := a) (fun b => PC.c (Value.bool b)) hi0 h
      have hdb := fun h : i < (b.length : Int) => dropI_map (l := b) (fun b => PC.c (Value.bool b)) hi0 h
      refine vwp_seq fun K hK => ?_
      refine vwp_seq_region rfl fun K hK => ?_
      simp (dsimp := false) only [push_cast, hP, hnt, hgw, hgb, sevalprocAttr, hi0]
      refine hK _ ?_; clear hK
      refine vwp_cond (b := _) (by simp (dsimp := false) only [push_cast, hP, hnt, hgw, hgb, sevalprocAttr, hi0]; rfl) (fun rb1 => ?_) (fun rb1 => ?_)
      · have hb1 := rb1
        try simp only [beq_iff_eq, bne_iff_ne, ne_eq, bne_eq_false_iff_eq, beq_eq_false_iff_ne, decide_eq_true_eq, decide_eq_false_iff_not, Bool.not_eq_true', Bool.not_eq_false', Bool.or_eq_true, Bool.and_eq_true, Bool.or_eq_false_iff, Bool.and_eq_false_iff] at hb1
        have hw := hw hb1
        have hda := hda hb1
        have hbb : i < (b.length : Int) := by omega
        have hdb := hdb hbb
        refine vwp_skip ?_
        apply_assumption
        refine vwp_seq fun K hK => ?_
        refine vwp_block ?_
        refine vwp_seq_anyF [[], [], [0, 1], [0, 1, 2], [], [], [4, 5], [4, 5, 6], [0, 1, 2, 3, 4, 5, 6, 7]] [([(17, .dead), (18, .dead), (19, .old), (20, .old), (21, .dead), (22, .dead), (23, .dead), (24, .dead), (25, .old)], [18, 19, 20, 21, 22, 23, 24, 25], []), ([(17, .dead), (18, .dead), (19, .old), (20, .old), (21, .dead), (22, .dead), (23, .dead), (24, .dead), (25, .old)], [17, 19, 20, 21, 22, 23, 24, 25], []), ([(17, .dep 1), (18, .dep 0), (19, .dead), (20, .old), (21, .dead), (22, .dead), (23, .dead), (24, .dead), (25, .old)], [20, 21, 22, 23, 24, 25], [1, 0]), ([(17, .dep 2), (18, .dep 1), (19, .dep 0), (20, .dead), (21, .dead), (22, .dead), (23, .dead), (24, .dead), (25, .old)], [21, 22, 23, 24, 25], [2, 1, 0]), ([(17, .dead), (18, .dead), (19, .dead), (20, .dead), (21, .dead), (22, .dead), (23, .old), (24, .old), (25, .old)], [17, 18, 19, 20, 22, 23, 24, 25], []), ([(17, .dead), (18, .dead), (19, .dead), (20, .dead), (21, .dead), (22, .dead), (23, .old), (24, .old), (25, .old)], [17, 18, 19, 20, 21, 23, 24, 25], []), ([(17, .dead), (18, .dead), (19, .dead), (20, .dead), (21, .dep 1), (22, .dep 0), (23, .dead), (24, .old), (25, .old)], [17, 18, 19, 20, 24, 25], [1, 0]), ([(17, .dead), (18, .dead), (19, .dead), (20, .dead), (21, .dep 2), (22, .dep 1), (23, .dep 0), (24, .dead), (25, .old)], [17, 18, 19, 20, 25], [2, 1, 0]), ([(17, .dep 7), (18, .dep 6), (19, .dep 5), (20, .dep 4), (21, .dep 3), (22, .dep 2), (23, .dep 1), (24, .dep 0), (25, .dead)], [], [7, 6, 5, 4, 3, 2, 1, 0])] (by rw [hP]; exact mixed) rfl rfl rfl fun K hK => ?_
        simp (dsimp := false) only [push_cast, hP, hnt, hgw, hgb, sevalprocAttr, hi0, hw, hda, hdb, hb1, hbb, Nat.reduceBNe, Nat.reduceBEq]
        refine ⟨rfl, ?_⟩
        refine hK _ ?_; clear hK
        refine vwp_cond (b := _) (by simp (dsimp := false) only [push_cast, hP, hnt, hgw, hgb, sevalprocAttr, hi0, hw, hda, hdb, hb1, hbb]; rfl) (fun rb2 => ?_) (fun rb2 => ?_)
        · have hb2 := rb2
          try simp only [beq_iff_eq, bne_iff_ne, ne_eq, bne_eq_false_iff_eq, beq_eq_false_iff_ne, decide_eq_true_eq, decide_eq_false_iff_not, Bool.not_eq_true', Bool.not_eq_false', Bool.or_eq_true, Bool.and_eq_true, Bool.or_eq_false_iff, Bool.and_eq_false_iff] at hb2
          refine vwp_seq_region rfl fun K hK => ?_
          simp (dsimp := false) only [push_cast, hP, hnt, hgw, hgb, sevalprocAttr, hi0, hw, hda, hdb, hb1, hbb]
          refine hK _ ?_; clear hK
          refine vwp_ret ?_
          refine ret_free (by simp (dsimp := false) only [push_cast, hP, hnt, hgw, hgb, sevalprocAttr, hi0, hw, hda, hdb, hb1, hbb]; rfl) (by simp (dsimp := false) only [push_cast, hP, hnt, hgw, hgb, sevalprocAttr, hi0, hw, hda, hdb, hb1, hbb]) ?_
          rw [decide_eq_false (same_stop hb2)]; rfl
        · have hb2 := rb2
          try simp only [beq_iff_eq, bne_iff_ne, ne_eq, bne_eq_false_iff_eq, beq_eq_false_iff_ne, decide_eq_true_eq, decide_eq_false_iff_not, Bool.not_eq_true', Bool.not_eq_false', Bool.or_eq_true, Bool.and_eq_true, Bool.or_eq_false_iff, Bool.and_eq_false_iff] at hb2
          refine vwp_skip ?_
          apply_assumption
          refine vwp_region rfl ?_
          simp (dsimp := false) only [push_cast, hP, hnt, hgw, hgb, sevalprocAttr, hi0, hw, hda, hdb, hb1, hbb]
          refine hL0 _ _ _ ?_ ?_ ⟨i + 1, rfl, ?_, rfl⟩
          · omega
          · refine wk_conv [] [] (by simp) (by simp) (by decide) ?_ ?_
            · refine hf_cons (by simp (dsimp := false) only [push_cast, ↓reduceIte, Nat.reduceEqDiff, Nat.reduceAdd, reduceCtorEq, hi0, hw, hda, hdb, hb1, hbb] <;> rfl) (by repeat' (first | exact ConvVs.nil | exact ConvL.nil | refine ConvV.tup ?_ | refine ConvVs.cons ?_ ?_ | (refine ConvV.self ?_; simp only [push_cast]; done) | refine ConvV.one ?_ | refine ConvV.agg ?_ | (refine ConvL.free ?_; simp only [push_cast]; done) | refine ConvL.append ?_ ?_ | refine ConvL.cons ?_ ?_ | exact Conv.free rfl | exact Conv.nil | (refine Conv.own ?_; simp; done) | (refine Conv.loc ?_; simp; done) | refine Conv.frz (by simp) (by simp (dsimp := false) only [push_cast, ↓reduceIte, Nat.reduceEqDiff, Nat.reduceAdd, reduceCtorEq, hi0, hw, hda, hdb, hb1, hbb] <;> rfl) ?_ | refine Conv.sl (by simp) ?_ | refine Conv.fn ?_)) ?_
              refine hf_cons (by simp (dsimp := false) only [push_cast, ↓reduceIte, Nat.reduceEqDiff, Nat.reduceAdd, reduceCtorEq, hi0, hw, hda, hdb, hb1, hbb] <;> rfl) (by repeat' (first | exact ConvVs.nil | exact ConvL.nil | refine ConvV.tup ?_ | refine ConvVs.cons ?_ ?_ | (refine ConvV.self ?_; simp only [push_cast]; done) | refine ConvV.one ?_ | refine ConvV.agg ?_ | (refine ConvL.free ?_; simp only [push_cast]; done) | refine ConvL.append ?_ ?_ | refine ConvL.cons ?_ ?_ | exact Conv.free rfl | exact Conv.nil | (refine Conv.own ?_; simp; done) | (refine Conv.loc ?_; simp; done) | refine Conv.frz (by simp) (by simp (dsimp := false) only [push_cast, ↓reduceIte, Nat.reduceEqDiff, Nat.reduceAdd, reduceCtorEq, hi0, hw, hda, hdb, hb1, hbb] <;> rfl) ?_ | refine Conv.sl (by simp) ?_ | refine Conv.fn ?_)) ?_
              refine hf_cons (by simp (dsimp := false) only [push_cast, ↓reduceIte, Nat.reduceEqDiff, Nat.reduceAdd, reduceCtorEq, hi0, hw, hda, hdb, hb1, hbb] <;> rfl) (by exact ConvV.self rfl) ?_
              exact hf_nil
            · exact hh_nil
          · exact ⟨by omega, by omega, hl, same_next hi0 hb1 hl ht hb2⟩
      · have hb1 := rb1
        try simp only [beq_iff_eq, bne_iff_ne, ne_eq, bne_eq_false_iff_eq, beq_eq_false_iff_ne, decide_eq_true_eq, decide_eq_false_iff_not, Bool.not_eq_true', Bool.not_eq_false', Bool.or_eq_true, Bool.and_eq_true, Bool.or_eq_false_iff, Bool.and_eq_false_iff] at hb1
        refine vwp_exit ?_
        simp only [thenQ, blockQ, Nat.reduceEqDiff, reduceIte]
        apply_assumption
        refine vwp_seq_region rfl fun K hK => ?_
        simp (dsimp := false) only [push_cast, hP, hnt, hgw, hgb, sevalprocAttr, hi0]
        refine hK _ ?_; clear hK
        refine vwp_ret ?_
        refine ret_free (by simp (dsimp := false) only [push_cast, hP, hnt, hgw, hgb, sevalprocAttr, hi0]; rfl) (by simp (dsimp := false) only [push_cast, hP, hnt, hgw, hgb, sevalprocAttr, hi0]) ?_
        rw [decide_eq_true (same_end hb1 hl ht)]; rfl
theorem sameAll_call (gw : World) (gb : Nat) (a b : List (List Bool)) (ha : a.length ≤ 1000000) (hx : ∀ x ∈ a, x.length ≤ 1000000) : VCall Tryz.prog gw (gb) 61 [.one (.sl false a.length (a.map (fun l => PC.sl false l.length (l.map fun b => PC.c (Value.bool b))))), .one (.sl false b.length (b.map (fun l => PC.sl false l.length (l.map fun b => PC.c (Value.bool b)))))] (.one (.c (.bool (decide (a = b))))) [] := by
  refine vcall_of [.tmp 4] Tryz.func61 rfl rfl Tryz.ntmps61 rfl (by simp) ?_
  intro C hP hnt hgw hgb hfull
  refine vwp_seq_region rfl fun K hK => ?_
  simp (dsimp := false) only [push_cast, hP, hnt, hgw, hgb, sevalprocAttr]
  refine hK _ ?_; clear hK
  refine vwp_seq fun K hK => ?_
  refine vwp_seq_region rfl fun K hK => ?_
  simp (dsimp := false) only [push_cast, hP, hnt, hgw, hgb, sevalprocAttr]
  refine hK _ ?_; clear hK
  refine vwp_cond (b := _) (by simp (dsimp := false) only [push_cast, hP, hnt, hgw, hgb, sevalprocAttr]; rfl) (fun rb0 => ?_) (fun rb0 => ?_)
  · have hb0 := rb0
    try simp only [beq_iff_eq, bne_iff_ne, ne_eq, bne_eq_false_iff_eq, beq_eq_false_iff_ne, decide_eq_true_eq, decide_eq_false_iff_not, Bool.not_eq_true', Bool.not_eq_false', Bool.or_eq_true, Bool.and_eq_true, Bool.or_eq_false_iff, Bool.and_eq_false_iff] at hb0
    refine vwp_seq_region rfl fun K hK => ?_
    simp (dsimp := false) only [push_cast, hP, hnt, hgw, hgb, sevalprocAttr]
    refine hK _ ?_; clear hK
    refine vwp_ret ?_
    refine ret_free (by simp (dsimp := false) only [push_cast, hP, hnt, hgw, hgb, sevalprocAttr]; rfl) (by simp (dsimp := false) only [push_cast, hP, hnt, hgw, hgb, sevalprocAttr]) ?_
    rw [decide_eq_false (same_len hb0)]; rfl
  · have hb0 := rb0
    try simp only [beq_iff_eq, bne_iff_ne, ne_eq, bne_eq_false_iff_eq, beq_eq_false_iff_ne, decide_eq_true_eq, decide_eq_false_iff_not, Bool.not_eq_true', Bool.not_eq_false', Bool.or_eq_true, Bool.and_eq_true, Bool.or_eq_false_iff, Bool.and_eq_false_iff] at hb0
    refine vwp_skip ?_
    apply_assumption
    refine vwp_seq fun K hK => ?_
    refine vwp_seq_region rfl fun K hK => ?_
    simp (dsimp := false) only [push_cast, hP, hnt, hgw, hgb, sevalprocAttr]
    refine hK _ ?_; clear hK
    refine vwp_block ?_
    refine vwp_loop (fun m σ => ∃ (i : Int), m = (a.length - i).toNat ∧ ((0 ≤ i) ∧ (i ≤ a.length) ∧ (a.length = b.length) ∧ (a.take i.toNat = b.take i.toNat)) ∧ σ = St.of [(0, .one (.sl false a.length (a.map (fun l => PC.sl false l.length (l.map fun b => PC.c (Value.bool b)))))), (1, .one (.sl false b.length (b.map (fun l => PC.sl false l.length (l.map fun b => PC.c (Value.bool b)))))), (5, .one (.c (.int .i64 i)))] [] []) _ ⟨_, ?_, 0, rfl, ?_, rfl⟩ ?_
    · refine wk_conv [] [] (by simp) (by simp) (by decide) ?_ ?_
      · refine hf_cons (by simp (dsimp := false) only [push_cast, ↓reduceIte, Nat.reduceEqDiff, Nat.reduceAdd, reduceCtorEq] <;> rfl) (by repeat' (first | exact ConvVs.nil | exact ConvL.nil | refine ConvV.tup ?_ | refine ConvVs.cons ?_ ?_ | (refine ConvV.self ?_; simp only [push_cast]; done) | refine ConvV.one ?_ | refine ConvV.agg ?_ | (refine ConvL.free ?_; simp only [push_cast]; done) | refine ConvL.append ?_ ?_ | refine ConvL.cons ?_ ?_ | exact Conv.free rfl | exact Conv.nil | (refine Conv.own ?_; simp; done) | (refine Conv.loc ?_; simp; done) | refine Conv.frz (by simp) (by simp (dsimp := false) only [push_cast, ↓reduceIte, Nat.reduceEqDiff, Nat.reduceAdd, reduceCtorEq] <;> rfl) ?_ | refine Conv.sl (by simp) ?_ | refine Conv.fn ?_)) ?_
        refine hf_cons (by simp (dsimp := false) only [push_cast, ↓reduceIte, Nat.reduceEqDiff, Nat.reduceAdd, reduceCtorEq] <;> rfl) (by repeat' (first | exact ConvVs.nil | exact ConvL.nil | refine ConvV.tup ?_ | refine ConvVs.cons ?_ ?_ | (refine ConvV.self ?_; simp only [push_cast]; done) | refine ConvV.one ?_ | refine ConvV.agg ?_ | (refine ConvL.free ?_; simp only [push_cast]; done) | refine ConvL.append ?_ ?_ | refine ConvL.cons ?_ ?_ | exact Conv.free rfl | exact Conv.nil | (refine Conv.own ?_; simp; done) | (refine Conv.loc ?_; simp; done) | refine Conv.frz (by simp) (by simp (dsimp := false) only [push_cast, ↓reduceIte, Nat.reduceEqDiff, Nat.reduceAdd, reduceCtorEq] <;> rfl) ?_ | refine Conv.sl (by simp) ?_ | refine Conv.fn ?_)) ?_
        refine hf_cons (by simp (dsimp := false) only [push_cast, ↓reduceIte, Nat.reduceEqDiff, Nat.reduceAdd, reduceCtorEq] <;> rfl) (by exact ConvV.self rfl) ?_
        exact hf_nil
      · exact hh_nil
    · exact ⟨by omega, by omega, by omega, rfl⟩
    · rintro m τ ⟨i, hm, ⟨hi0, hi1, hl, ht⟩, rfl⟩ K hL0
      have hw := fun h : i < (a.length : Int) => wrap_next hi0 h (by omega)
      have hda := fun h : i < (a.length : Int) => dropI_map (l := a) (fun l => PC.sl false l.length (l.map fun b => PC.c (Value.bool b))) hi0 h
      have hdb := fun h : i < (b.length : Int) => dropI_map (l := b) (fun l => PC.sl false l.length (l.map fun b => PC.c (Value.bool b))) hi0 h
      refine vwp_seq fun K hK => ?_
      refine vwp_seq_region rfl fun K hK => ?_
      simp (dsimp := false) only [push_cast, hP, hnt, hgw, hgb, sevalprocAttr, hi0]
      refine hK _ ?_; clear hK
      refine vwp_cond (b := _) (by simp (dsimp := false) only [push_cast, hP, hnt, hgw, hgb, sevalprocAttr, hi0]; rfl) (fun rb1 => ?_) (fun rb1 => ?_)
      · have hb1 := rb1
        try simp only [beq_iff_eq, bne_iff_ne, ne_eq, bne_eq_false_iff_eq, beq_eq_false_iff_ne, decide_eq_true_eq, decide_eq_false_iff_not, Bool.not_eq_true', Bool.not_eq_false', Bool.or_eq_true, Bool.and_eq_true, Bool.or_eq_false_iff, Bool.and_eq_false_iff] at hb1
        have hw := hw hb1
        have hda := hda hb1
        have hbb : i < (b.length : Int) := by omega
        have hdb := hdb hbb
        refine vwp_skip ?_
        apply_assumption
        refine vwp_seq fun K hK => ?_
        refine vwp_block ?_
        refine vwp_seq_anyF [[], [], [0, 1], [0, 1, 2], [], [], [4, 5], [4, 5, 6], [0, 1, 2, 3, 4, 5, 6, 7], [0, 1, 2, 3, 4, 5, 6, 7, 8]] [([(17, .dead), (18, .dead), (19, .old), (20, .old), (21, .dead), (22, .dead), (23, .dead), (24, .dead), (25, .old), (26, .old)], [18, 19, 20, 21, 22, 23, 24, 25, 26], []), ([(17, .dead), (18, .dead), (19, .old), (20, .old), (21, .dead), (22, .dead), (23, .dead), (24, .dead), (25, .old), (26, .old)], [17, 19, 20, 21, 22, 23, 24, 25, 26], []), ([(17, .dep 1), (18, .dep 0), (19, .dead), (20, .old), (21, .dead), (22, .dead), (23, .dead), (24, .dead), (25, .old), (26, .old)], [20, 21, 22, 23, 24, 25, 26], [1, 0]), ([(17, .dep 2), (18, .dep 1), (19, .dep 0), (20, .dead), (21, .dead), (22, .dead), (23, .dead), (24, .dead), (25, .old), (26, .old)], [21, 22, 23, 24, 25, 26], [2, 1, 0]), ([(17, .dead), (18, .dead), (19, .dead), (20, .dead), (21, .dead), (22, .dead), (23, .old), (24, .old), (25, .old), (26, .old)], [17, 18, 19, 20, 22, 23, 24, 25, 26], []), ([(17, .dead), (18, .dead), (19, .dead), (20, .dead), (21, .dead), (22, .dead), (23, .old), (24, .old), (25, .old), (26, .old)], [17, 18, 19, 20, 21, 23, 24, 25, 26], []), ([(17, .dead), (18, .dead), (19, .dead), (20, .dead), (21, .dep 1), (22, .dep 0), (23, .dead), (24, .old), (25, .old), (26, .old)], [17, 18, 19, 20, 24, 25, 26], [1, 0]), ([(17, .dead), (18, .dead), (19, .dead), (20, .dead), (21, .dep 2), (22, .dep 1), (23, .dep 0), (24, .dead), (25, .old), (26, .old)], [17, 18, 19, 20, 25, 26], [2, 1, 0]), ([(17, .dep 7), (18, .dep 6), (19, .dep 5), (20, .dep 4), (21, .dep 3), (22, .dep 2), (23, .dep 1), (24, .dep 0), (25, .dead), (26, .old)], [26], [7, 6, 5, 4, 3, 2, 1, 0]), ([(17, .dep 8), (18, .dep 7), (19, .dep 6), (20, .dep 5), (21, .dep 4), (22, .dep 3), (23, .dep 2), (24, .dep 1), (25, .dep 0), (26, .dead)], [], [8, 7, 6, 5, 4, 3, 2, 1, 0])] (by rw [hP]; exact mixed) rfl rfl rfl fun K hK => ?_
        simp (dsimp := false) only [push_cast, hP, hnt, hgw, hgb, sevalprocAttr, hi0, hw, hda, hdb, hb1, hbb, Nat.reduceBNe, Nat.reduceBEq]
        refine .inl (callE_intro (same04_call gw gb (atI a i) (atI b i) (hx _ (atI_mem hi0 hb1))) (.inl ⟨rfl, rfl⟩) ?_)
        simp (dsimp := false) only [push_cast, hP, hnt, hgw, hgb, sevalprocAttr, hi0, hw, hda, hdb, hb1, hbb, Nat.reduceBNe, Nat.reduceBEq]
        refine ⟨rfl, ?_⟩
        refine hK _ ?_; clear hK
        refine vwp_cond (b := _) (by simp (dsimp := false) only [push_cast, hP, hnt, hgw, hgb, sevalprocAttr, hi0, hw, hda, hdb, hb1, hbb]; rfl) (fun rb2 => ?_) (fun rb2 => ?_)
        · have hb2 := rb2
          try simp only [beq_iff_eq, bne_iff_ne, ne_eq, bne_eq_false_iff_eq, beq_eq_false_iff_ne, decide_eq_true_eq, decide_eq_false_iff_not, Bool.not_eq_true', Bool.not_eq_false', Bool.or_eq_true, Bool.and_eq_true, Bool.or_eq_false_iff, Bool.and_eq_false_iff] at hb2
          refine vwp_seq_region rfl fun K hK => ?_
          simp (dsimp := false) only [push_cast, hP, hnt, hgw, hgb, sevalprocAttr, hi0, hw, hda, hdb, hb1, hbb]
          refine hK _ ?_; clear hK
          refine vwp_ret ?_
          refine ret_free (by simp (dsimp := false) only [push_cast, hP, hnt, hgw, hgb, sevalprocAttr, hi0, hw, hda, hdb, hb1, hbb]; rfl) (by simp (dsimp := false) only [push_cast, hP, hnt, hgw, hgb, sevalprocAttr, hi0, hw, hda, hdb, hb1, hbb]) ?_
          rw [decide_eq_false (same_stop (by simpa using hb2))]; rfl
        · have hb2 := rb2
          try simp only [beq_iff_eq, bne_iff_ne, ne_eq, bne_eq_false_iff_eq, beq_eq_false_iff_ne, decide_eq_true_eq, decide_eq_false_iff_not, Bool.not_eq_true', Bool.not_eq_false', Bool.or_eq_true, Bool.and_eq_true, Bool.or_eq_false_iff, Bool.and_eq_false_iff] at hb2
          refine vwp_skip ?_
          apply_assumption
          refine vwp_region rfl ?_
          simp (dsimp := false) only [push_cast, hP, hnt, hgw, hgb, sevalprocAttr, hi0, hw, hda, hdb, hb1, hbb]
          refine hL0 _ _ _ ?_ ?_ ⟨i + 1, rfl, ?_, rfl⟩
          · omega
          · refine wk_conv [] [] (by simp) (by simp) (by decide) ?_ ?_
            · refine hf_cons (by simp (dsimp := false) only [push_cast, ↓reduceIte, Nat.reduceEqDiff, Nat.reduceAdd, reduceCtorEq, hi0, hw, hda, hdb, hb1, hbb] <;> rfl) (by repeat' (first | exact ConvVs.nil | exact ConvL.nil | refine ConvV.tup ?_ | refine ConvVs.cons ?_ ?_ | (refine ConvV.self ?_; simp only [push_cast]; done) | refine ConvV.one ?_ | refine ConvV.agg ?_ | (refine ConvL.free ?_; simp only [push_cast]; done) | refine ConvL.append ?_ ?_ | refine ConvL.cons ?_ ?_ | exact Conv.free rfl | exact Conv.nil | (refine Conv.own ?_; simp; done) | (refine Conv.loc ?_; simp; done) | refine Conv.frz (by simp) (by simp (dsimp := false) only [push_cast, ↓reduceIte, Nat.reduceEqDiff, Nat.reduceAdd, reduceCtorEq, hi0, hw, hda, hdb, hb1, hbb] <;> rfl) ?_ | refine Conv.sl (by simp) ?_ | refine Conv.fn ?_)) ?_
              refine hf_cons (by simp (dsimp := false) only [push_cast, ↓reduceIte, Nat.reduceEqDiff, Nat.reduceAdd, reduceCtorEq, hi0, hw, hda, hdb, hb1, hbb] <;> rfl) (by repeat' (first | exact ConvVs.nil | exact ConvL.nil | refine ConvV.tup ?_ | refine ConvVs.cons ?_ ?_ | (refine ConvV.self ?_; simp only [push_cast]; done) | refine ConvV.one ?_ | refine ConvV.agg ?_ | (refine ConvL.free ?_; simp only [push_cast]; done) | refine ConvL.append ?_ ?_ | refine ConvL.cons ?_ ?_ | exact Conv.free rfl | exact Conv.nil | (refine Conv.own ?_; simp; done) | (refine Conv.loc ?_; simp; done) | refine Conv.frz (by simp) (by simp (dsimp := false) only [push_cast, ↓reduceIte, Nat.reduceEqDiff, Nat.reduceAdd, reduceCtorEq, hi0, hw, hda, hdb, hb1, hbb] <;> rfl) ?_ | refine Conv.sl (by simp) ?_ | refine Conv.fn ?_)) ?_
              refine hf_cons (by simp (dsimp := false) only [push_cast, ↓reduceIte, Nat.reduceEqDiff, Nat.reduceAdd, reduceCtorEq, hi0, hw, hda, hdb, hb1, hbb] <;> rfl) (by exact ConvV.self rfl) ?_
              exact hf_nil
            · exact hh_nil
          · exact ⟨by omega, by omega, hl, same_next hi0 hb1 hl ht (by simpa using hb2)⟩
      · have hb1 := rb1
        try simp only [beq_iff_eq, bne_iff_ne, ne_eq, bne_eq_false_iff_eq, beq_eq_false_iff_ne, decide_eq_true_eq, decide_eq_false_iff_not, Bool.not_eq_true', Bool.not_eq_false', Bool.or_eq_true, Bool.and_eq_true, Bool.or_eq_false_iff, Bool.and_eq_false_iff] at hb1
        refine vwp_exit ?_
        simp only [thenQ, blockQ, Nat.reduceEqDiff, reduceIte]
        apply_assumption
        refine vwp_seq_region rfl fun K hK => ?_
        simp (dsimp := false) only [push_cast, hP, hnt, hgw, hgb, sevalprocAttr, hi0]
        refine hK _ ?_; clear hK
        refine vwp_ret ?_
        refine ret_free (by simp (dsimp := false) only [push_cast, hP, hnt, hgw, hgb, sevalprocAttr, hi0]; rfl) (by simp (dsimp := false) only [push_cast, hP, hnt, hgw, hgb, sevalprocAttr, hi0]) ?_
        rw [decide_eq_true (same_end hb1 hl ht)]; rfl
structure Prd where
  ands : List (Int × Int)
  lit : Int
def prdP (l : List (Int × Int)) (n : Int) : List PC := [.sl false l.length (l.flatMap fun g => [.c (.int .i64 g.1), .c (.int .i64 g.2)]), .c (.int .i64 n)]
attribute [push_cast] prdP
theorem pair_ext {g h : Int × Int} (h1 : g.1 = h.1) (h2 : g.2 = h.2) : g = h := Prod.ext h1 h2
theorem same24_call (gw : World) (gb : Nat) (a b : List (Int × Int)) (cx cy : Int) (ha : a.length ≤ 1000000) : VCall Tryz.prog gw (gb) 62 [.agg (prdP a cx), .agg (prdP b cy)] (.one (.c (.bool (decide (a = b ∧ cx = cy))))) [] := by
  refine vcall_of [.tmp 4] Tryz.func62 rfl rfl Tryz.ntmps62 rfl (by simp) ?_
  intro C hP hnt hgw hgb hfull
  refine vwp_seq_region rfl fun K hK => ?_
  simp (dsimp := false) only [push_cast, hP, hnt, hgw, hgb, sevalprocAttr]
  refine hK _ ?_; clear hK
  refine vwp_seq fun K hK => ?_
  refine vwp_seq_regionG fun K hK => ?_
  simp (dsimp := false) only [push_cast, hP, hnt, hgw, hgb, sevalprocAttr]
  refine guardR_may (by simp (dsimp := false) only [push_cast, hP, hnt, hgw, hgb, sevalprocAttr, List.getElem?_cons_zero, List.getElem?_cons_succ]; rfl) ?_
  simp (dsimp := false) only [push_cast, hP, hnt, hgw, hgb, sevalprocAttr]
  refine guardR_may (by simp (dsimp := false) only [push_cast, hP, hnt, hgw, hgb, sevalprocAttr, List.getElem?_cons_zero, List.getElem?_cons_succ]; rfl) ?_
  simp (dsimp := false) only [push_cast, hP, hnt, hgw, hgb, sevalprocAttr]
  refine guardR_may (by simp (dsimp := false) only [push_cast, hP, hnt, hgw, hgb, sevalprocAttr, List.getElem?_cons_zero, List.getElem?_cons_succ]; rfl) ?_
  simp (dsimp := false) only [push_cast, hP, hnt, hgw, hgb, sevalprocAttr]
  refine guardR_may (by simp (dsimp := false) only [push_cast, hP, hnt, hgw, hgb, sevalprocAttr, List.getElem?_cons_zero, List.getElem?_cons_succ]; rfl) ?_
  simp (dsimp := false) only [push_cast, hP, hnt, hgw, hgb, sevalprocAttr]
  refine guardR_may (by simp (dsimp := false) only [push_cast, hP, hnt, hgw, hgb, sevalprocAttr, List.getElem?_cons_zero, List.getElem?_cons_succ]; rfl) ?_
  simp (dsimp := false) only [push_cast, hP, hnt, hgw, hgb, sevalprocAttr]
  refine hK _ ?_; clear hK
  refine vwp_cond (b := _) (by simp (dsimp := false) only [push_cast, hP, hnt, hgw, hgb, sevalprocAttr]; rfl) (fun rb0 => ?_) (fun rb0 => ?_)
  · have hb0 := rb0
    try simp only [beq_iff_eq, bne_iff_ne, ne_eq, bne_eq_false_iff_eq, beq_eq_false_iff_ne, decide_eq_true_eq, decide_eq_false_iff_not, Bool.not_eq_true', Bool.not_eq_false', Bool.or_eq_true, Bool.and_eq_true, Bool.or_eq_false_iff, Bool.and_eq_false_iff] at hb0
    refine vwp_seq_region rfl fun K hK => ?_
    simp (dsimp := false) only [push_cast, hP, hnt, hgw, hgb, sevalprocAttr]
    refine hK _ ?_; clear hK
    refine vwp_ret ?_
    refine ret_free (by simp (dsimp := false) only [push_cast, hP, hnt, hgw, hgb, sevalprocAttr]; rfl) (by simp (dsimp := false) only [push_cast, hP, hnt, hgw, hgb, sevalprocAttr]) ?_
    rw [decide_eq_false (fun h => by have := h.1; have := congrArg List.length this; rcases hb0 with g | g <;> first | omega | exact g h.2)]; rfl
  · have hb0 := rb0
    try simp only [beq_iff_eq, bne_iff_ne, ne_eq, bne_eq_false_iff_eq, beq_eq_false_iff_ne, decide_eq_true_eq, decide_eq_false_iff_not, Bool.not_eq_true', Bool.not_eq_false', Bool.or_eq_true, Bool.and_eq_true, Bool.or_eq_false_iff, Bool.and_eq_false_iff] at hb0
    refine vwp_skip ?_
    apply_assumption
    refine vwp_seq fun K hK => ?_
    refine vwp_seq_region rfl fun K hK => ?_
    simp (dsimp := false) only [push_cast, hP, hnt, hgw, hgb, sevalprocAttr]
    refine hK _ ?_; clear hK
    refine vwp_block ?_
    refine vwp_loop (fun m σ => ∃ (i : Int), m = (a.length - i).toNat ∧ ((0 ≤ i) ∧ (i ≤ a.length) ∧ (a.length = b.length) ∧ (cx = cy) ∧ (a.take i.toNat = b.take i.toNat)) ∧ σ = St.of [(2, .one (.loc (3, 0) 0)), (3, .one (.loc (4, 0) 0)), (5, .one (.c (.int .i64 i)))] [((3, 0), .box 26 (prdP a cx)), ((4, 0), .box 26 (prdP b cy))] [2, 3]) _ ⟨_, ?_, 0, rfl, ?_, rfl⟩ ?_
    · refine wk_conv [] [((3, 0), (3, 0)), ((4, 0), (4, 0))] (by simp) (by simp) (by decide) ?_ ?_
      · refine hf_cons (by simp (dsimp := false) only [push_cast, ↓reduceIte, Nat.reduceEqDiff, Nat.reduceAdd, reduceCtorEq] <;> rfl) (by exact .one (.loc (by simp))) ?_
        refine hf_cons (by simp (dsimp := false) only [push_cast, ↓reduceIte, Nat.reduceEqDiff, Nat.reduceAdd, reduceCtorEq] <;> rfl) (by exact .one (.loc (by simp))) ?_
        refine hf_cons (by simp (dsimp := false) only [push_cast, ↓reduceIte, Nat.reduceEqDiff, Nat.reduceAdd, reduceCtorEq] <;> rfl) (by exact ConvV.self rfl) ?_
        exact hf_nil
      · refine hh_cons (i := (3, 0)) (by simp) (by simp) (by simp (dsimp := false) only [push_cast, ↓reduceIte, Nat.reduceEqDiff, Nat.reduceAdd, reduceCtorEq] <;> rfl) (by first | (refine ConvB.free ?_; simp only [push_cast]; done) | (refine ConvB.box ?_; repeat' (first | exact ConvVs.nil | exact ConvL.nil | refine ConvV.tup ?_ | refine ConvVs.cons ?_ ?_ | (refine ConvV.self ?_; simp only [push_cast]; done) | refine ConvV.one ?_ | refine ConvV.agg ?_ | (refine ConvL.free ?_; simp only [push_cast]; done) | refine ConvL.append ?_ ?_ | refine ConvL.cons ?_ ?_ | exact Conv.free rfl | exact Conv.nil | (refine Conv.own ?_; simp; done) | (refine Conv.loc ?_; simp; done) | refine Conv.frz (by simp) (by simp (dsimp := false) only [push_cast, ↓reduceIte, Nat.reduceEqDiff, Nat.reduceAdd, reduceCtorEq] <;> rfl) ?_ | refine Conv.sl (by simp) ?_ | refine Conv.fn ?_))) ?_
        refine hh_cons (i := (4, 0)) (by simp) (by simp) (by simp (dsimp := false) only [push_cast, ↓reduceIte, Nat.reduceEqDiff, Nat.reduceAdd, reduceCtorEq] <;> rfl) (by first | (refine ConvB.free ?_; simp only [push_cast]; done) | (refine ConvB.box ?_; repeat' (first | exact ConvVs.nil | exact ConvL.nil | refine ConvV.tup ?_ | refine ConvVs.cons ?_ ?_ | (refine ConvV.self ?_; simp only [push_cast]; done) | refine ConvV.one ?_ | refine ConvV.agg ?_ | (refine ConvL.free ?_; simp only [push_cast]; done) | refine ConvL.append ?_ ?_ | refine ConvL.cons ?_ ?_ | exact Conv.free rfl | exact Conv.nil | (refine Conv.own ?_; simp; done) | (refine Conv.loc ?_; simp; done) | refine Conv.frz (by simp) (by simp (dsimp := false) only [push_cast, ↓reduceIte, Nat.reduceEqDiff, Nat.reduceAdd, reduceCtorEq] <;> rfl) ?_ | refine Conv.sl (by simp) ?_ | refine Conv.fn ?_))) ?_
        exact hh_nil
    · exact ⟨by omega, by omega, by omega, by omega, rfl⟩
    · rintro m τ ⟨i, hm, ⟨hi0, hi1, hl, hxy, ht⟩, rfl⟩ K hL0
      have hw := fun h : i < (a.length : Int) => wrap_next hi0 h (by omega)
      have hda := fun h : i < (a.length : Int) => dropI_two (l := a) (fun g : Int × Int => PC.c (Value.int .i64 g.1)) (fun g => PC.c (Value.int .i64 g.2)) hi0 h
      have hdb := fun h : i < (b.length : Int) => dropI_two (l := b) (fun g : Int × Int => PC.c (Value.int .i64 g.1)) (fun g => PC.c (Value.int .i64 g.2)) hi0 h
      refine vwp_seq fun K hK => ?_
      refine vwp_seq_region rfl fun K hK => ?_
      simp (dsimp := false) only [push_cast, hP, hnt, hgw, hgb, sevalprocAttr, hi0]
      refine hK _ ?_; clear hK
      refine vwp_cond (b := _) (by simp (dsimp := false) only [push_cast, hP, hnt, hgw, hgb, sevalprocAttr, hi0]; rfl) (fun rb1 => ?_) (fun rb1 => ?_)
      · have hb1 := rb1
        try simp only [beq_iff_eq, bne_iff_ne, ne_eq, bne_eq_false_iff_eq, beq_eq_false_iff_ne, decide_eq_true_eq, decide_eq_false_iff_not, Bool.not_eq_true', Bool.not_eq_false', Bool.or_eq_true, Bool.and_eq_true, Bool.or_eq_false_iff, Bool.and_eq_false_iff] at hb1
        have hw := hw hb1
        have hda := hda hb1
        have hbb : i < (b.length : Int) := by omega
        have hdb := hdb hbb
        refine vwp_skip ?_
        apply_assumption
        refine vwp_seq fun K hK => ?_
        refine vwp_block ?_
        refine vwp_seq_anyF [[], [0], [], [0, 1, 2], [0, 1, 2, 3], [], [5], [], [5, 6, 7], [5, 6, 7, 8], [0, 1, 2, 3, 4, 5, 6, 7, 8, 9]] [([(27, .dead), (28, .old), (29, .dead), (30, .old), (31, .old), (32, .dead), (33, .dead), (34, .dead), (35, .dead), (36, .dead), (37, .old)], [28, 29, 30, 31, 32, 33, 34, 35, 36, 37], []), ([(27, .dep 0), (28, .dead), (29, .dead), (30, .old), (31, .old), (32, .dead), (33, .dead), (34, .dead), (35, .dead), (36, .dead), (37, .old)], [29, 30, 31, 32, 33, 34, 35, 36, 37], [0]), ([(27, .dead), (28, .dead), (29, .dead), (30, .old), (31, .old), (32, .dead), (33, .dead), (34, .dead), (35, .dead), (36, .dead), (37, .old)], [27, 28, 30, 31, 32, 33, 34, 35, 36, 37], []), ([(27, .dep 2), (28, .dep 1), (29, .dep 0), (30, .dead), (31, .old), (32, .dead), (33, .dead), (34, .dead), (35, .dead), (36, .dead), (37, .old)], [31, 32, 33, 34, 35, 36, 37], [2, 1, 0]), ([(27, .dep 3), (28, .dep 2), (29, .dep 1), (30, .dep 0), (31, .dead), (32, .dead), (33, .dead), (34, .dead), (35, .dead), (36, .dead), (37, .old)], [32, 33, 34, 35, 36, 37], [3, 2, 1, 0]), ([(27, .dead), (28, .dead), (29, .dead), (30, .dead), (31, .dead), (32, .dead), (33, .old), (34, .dead), (35, .old), (36, .old), (37, .old)], [27, 28, 29, 30, 31, 33, 34, 35, 36, 37], []), ([(27, .dead), (28, .dead), (29, .dead), (30, .dead), (31, .dead), (32, .dep 0), (33, .dead), (34, .dead), (35, .old), (36, .old), (37, .old)], [27, 28, 29, 30, 31, 34, 35, 36, 37], [0]), ([(27, .dead), (28, .dead), (29, .dead), (30, .dead), (31, .dead), (32, .dead), (33, .dead), (34, .dead), (35, .old), (36, .old), (37, .old)], [27, 28, 29, 30, 31, 32, 33, 35, 36, 37], []), ([(27, .dead), (28, .dead), (29, .dead), (30, .dead), (31, .dead), (32, .dep 2), (33, .dep 1), (34, .dep 0), (35, .dead), (36, .old), (37, .old)], [27, 28, 29, 30, 31, 36, 37], [2, 1, 0]), ([(27, .dead), (28, .dead), (29, .dead), (30, .dead), (31, .dead), (32, .dep 3), (33, .dep 2), (34, .dep 1), (35, .dep 0), (36, .dead), (37, .old)], [27, 28, 29, 30, 31, 37], [3, 2, 1, 0]), ([(27, .dep 9), (28, .dep 8), (29, .dep 7), (30, .dep 6), (31, .dep 5), (32, .dep 4), (33, .dep 3), (34, .dep 2), (35, .dep 1), (36, .dep 0), (37, .dead)], [], [9, 8, 7, 6, 5, 4, 3, 2, 1, 0])] (by rw [hP]; exact mixed) rfl rfl rfl fun K hK => ?_
        simp (dsimp := false) only [push_cast, hP, hnt, hgw, hgb, sevalprocAttr, hi0, hw, hda, hdb, hb1, hbb, Nat.reduceBNe, Nat.reduceBEq]
        refine ⟨rfl, ?_⟩
        refine hK _ ?_; clear hK
        refine vwp_cond (b := _) (by simp (dsimp := false) only [push_cast, hP, hnt, hgw, hgb, sevalprocAttr, hi0, hw, hda, hdb, hb1, hbb]; rfl) (fun rb2 => ?_) (fun rb2 => ?_)
        · have hb2 := rb2
          try simp only [beq_iff_eq, bne_iff_ne, ne_eq, bne_eq_false_iff_eq, beq_eq_false_iff_ne, decide_eq_true_eq, decide_eq_false_iff_not, Bool.not_eq_true', Bool.not_eq_false', Bool.or_eq_true, Bool.and_eq_true, Bool.or_eq_false_iff, Bool.and_eq_false_iff] at hb2
          refine vwp_seq_region rfl fun K hK => ?_
          simp (dsimp := false) only [push_cast, hP, hnt, hgw, hgb, sevalprocAttr, hi0, hw, hda, hdb, hb1, hbb]
          refine hK _ ?_; clear hK
          refine vwp_ret ?_
          refine ret_free (by simp (dsimp := false) only [push_cast, hP, hnt, hgw, hgb, sevalprocAttr, hi0, hw, hda, hdb, hb1, hbb]; rfl) (by simp (dsimp := false) only [push_cast, hP, hnt, hgw, hgb, sevalprocAttr, hi0, hw, hda, hdb, hb1, hbb]) ?_
          rw [decide_eq_false (fun h => same_stop (i := i) (fun e => by rw [e] at hb2; simp at hb2) h.1)]; rfl
        · have hb2 := rb2
          try simp only [beq_iff_eq, bne_iff_ne, ne_eq, bne_eq_false_iff_eq, beq_eq_false_iff_ne, decide_eq_true_eq, decide_eq_false_iff_not, Bool.not_eq_true', Bool.not_eq_false', Bool.or_eq_true, Bool.and_eq_true, Bool.or_eq_false_iff, Bool.and_eq_false_iff] at hb2
          refine vwp_skip ?_
          apply_assumption
          refine vwp_region rfl ?_
          simp (dsimp := false) only [push_cast, hP, hnt, hgw, hgb, sevalprocAttr, hi0, hw, hda, hdb, hb1, hbb]
          refine hL0 _ _ _ ?_ ?_ ⟨i + 1, rfl, ?_, rfl⟩
          · omega
          · refine wk_conv [] [((3, 0), (3, 0)), ((4, 0), (4, 0))] (by simp) (by simp) (by decide) ?_ ?_
            · refine hf_cons (by simp (dsimp := false) only [push_cast, ↓reduceIte, Nat.reduceEqDiff, Nat.reduceAdd, reduceCtorEq, hi0, hw, hda, hdb, hb1, hbb] <;> rfl) (by exact .one (.loc (by simp))) ?_
              refine hf_cons (by simp (dsimp := false) only [push_cast, ↓reduceIte, Nat.reduceEqDiff, Nat.reduceAdd, reduceCtorEq, hi0, hw, hda, hdb, hb1, hbb] <;> rfl) (by exact .one (.loc (by simp))) ?_
              refine hf_cons (by simp (dsimp := false) only [push_cast, ↓reduceIte, Nat.reduceEqDiff, Nat.reduceAdd, reduceCtorEq, hi0, hw, hda, hdb, hb1, hbb] <;> rfl) (by exact ConvV.self rfl) ?_
              exact hf_nil
            · refine hh_cons (i := (3, 0)) (by simp) (by simp) (by simp (dsimp := false) only [push_cast, ↓reduceIte, Nat.reduceEqDiff, Nat.reduceAdd, reduceCtorEq, hi0, hw, hda, hdb, hb1, hbb] <;> rfl) (by first | (refine ConvB.free ?_; simp only [push_cast]; done) | (refine ConvB.box ?_; repeat' (first | exact ConvVs.nil | exact ConvL.nil | refine ConvV.tup ?_ | refine ConvVs.cons ?_ ?_ | (refine ConvV.self ?_; simp only [push_cast]; done) | refine ConvV.one ?_ | refine ConvV.agg ?_ | (refine ConvL.free ?_; simp only [push_cast]; done) | refine ConvL.append ?_ ?_ | refine ConvL.cons ?_ ?_ | exact Conv.free rfl | exact Conv.nil | (refine Conv.own ?_; simp; done) | (refine Conv.loc ?_; simp; done) | refine Conv.frz (by simp) (by simp (dsimp := false) only [push_cast, ↓reduceIte, Nat.reduceEqDiff, Nat.reduceAdd, reduceCtorEq, hi0, hw, hda, hdb, hb1, hbb] <;> rfl) ?_ | refine Conv.sl (by simp) ?_ | refine Conv.fn ?_))) ?_
              refine hh_cons (i := (4, 0)) (by simp) (by simp) (by simp (dsimp := false) only [push_cast, ↓reduceIte, Nat.reduceEqDiff, Nat.reduceAdd, reduceCtorEq, hi0, hw, hda, hdb, hb1, hbb] <;> rfl) (by first | (refine ConvB.free ?_; simp only [push_cast]; done) | (refine ConvB.box ?_; repeat' (first | exact ConvVs.nil | exact ConvL.nil | refine ConvV.tup ?_ | refine ConvVs.cons ?_ ?_ | (refine ConvV.self ?_; simp only [push_cast]; done) | refine ConvV.one ?_ | refine ConvV.agg ?_ | (refine ConvL.free ?_; simp only [push_cast]; done) | refine ConvL.append ?_ ?_ | refine ConvL.cons ?_ ?_ | exact Conv.free rfl | exact Conv.nil | (refine Conv.own ?_; simp; done) | (refine Conv.loc ?_; simp; done) | refine Conv.frz (by simp) (by simp (dsimp := false) only [push_cast, ↓reduceIte, Nat.reduceEqDiff, Nat.reduceAdd, reduceCtorEq, hi0, hw, hda, hdb, hb1, hbb] <;> rfl) ?_ | refine Conv.sl (by simp) ?_ | refine Conv.fn ?_))) ?_
              exact hh_nil
          · exact ⟨by omega, by omega, hl, hxy, same_next hi0 hb1 hl ht (pair_ext (by simpa using hb2.1) (by simpa using hb2.2))⟩
      · have hb1 := rb1
        try simp only [beq_iff_eq, bne_iff_ne, ne_eq, bne_eq_false_iff_eq, beq_eq_false_iff_ne, decide_eq_true_eq, decide_eq_false_iff_not, Bool.not_eq_true', Bool.not_eq_false', Bool.or_eq_true, Bool.and_eq_true, Bool.or_eq_false_iff, Bool.and_eq_false_iff] at hb1
        refine vwp_exit ?_
        simp only [thenQ, blockQ, Nat.reduceEqDiff, reduceIte]
        apply_assumption
        refine vwp_seq_region rfl fun K hK => ?_
        simp (dsimp := false) only [push_cast, hP, hnt, hgw, hgb, sevalprocAttr, hi0]
        refine hK _ ?_; clear hK
        refine vwp_ret ?_
        refine ret_free (by simp (dsimp := false) only [push_cast, hP, hnt, hgw, hgb, sevalprocAttr, hi0]; rfl) (by simp (dsimp := false) only [push_cast, hP, hnt, hgw, hgb, sevalprocAttr, hi0]) ?_
        rw [decide_eq_true ⟨same_end hb1 hl ht, hxy⟩]; rfl
def sameP (v w : Ver) : Bool := decide (v.skip = w.skip ∧ v.phases = w.phases ∧ v.ands = w.ands ∧ v.lit = w.lit)
def sameV (v w : Ver) : Bool := decide (v.kind = w.kind ∧ (v.first = w.first ∧ v.inputs = w.inputs) ∧ (v.skip = w.skip ∧ v.phases = w.phases ∧ v.ands = w.ands ∧ v.lit = w.lit))
theorem sameV_refl (v : Ver) : sameV v v = true := by unfold sameV; simp
def tracePcs (v : Ver) : List PC := [.sl false v.first.length (v.first.map fun b => .c (.bool b)), .sl false v.inputs.length (v.inputs.map fun l => .sl false l.length (l.map fun b => .c (.bool b)))]
attribute [push_cast] tracePcs
theorem and_dec (p q : Prop) [Decidable p] [Decidable q] : (decide p && decide q) = decide (p ∧ q) := by rw [Bool.decide_and]
theorem same06_call (gw : World) (gb : Nat) (v w : Ver) (hf : Fit v) : VCall Tryz.prog gw (gb) 47 [.agg (tracePcs v), .agg (tracePcs w)] (.one (.c (.bool (decide (v.first = w.first ∧ v.inputs = w.inputs))))) [] := by
  refine vcall_of [.tmp 4] Tryz.func47 rfl rfl Tryz.ntmps47 rfl (by simp) ?_
  intro C hP hnt hgw hgb hfull
  refine vwp_seq_region rfl fun K hK => ?_
  simp (dsimp := false) only [push_cast, hP, hnt, hgw, hgb, sevalprocAttr]
  refine hK _ ?_; clear hK
  refine vwp_seq_regionG fun K hK => ?_
  simp (dsimp := false) only [push_cast, hP, hnt, hgw, hgb, sevalprocAttr]
  refine .inl (callE_intro (same04_call gw gb v.first w.first (by have := hf.first; omega)) (.inl ⟨rfl, rfl⟩) ?_)
  simp (dsimp := false) only [push_cast, hP, hnt, hgw, hgb, sevalprocAttr]
  refine guardR_may (by simp (dsimp := false) only [push_cast, hP, hnt, hgw, hgb, sevalprocAttr, List.getElem?_cons_zero, List.getElem?_cons_succ]; rfl) ?_
  simp (dsimp := false) only [push_cast, hP, hnt, hgw, hgb, sevalprocAttr]
  refine guardR_may (by simp (dsimp := false) only [push_cast, hP, hnt, hgw, hgb, sevalprocAttr, List.getElem?_cons_zero, List.getElem?_cons_succ]; rfl) ?_
  simp (dsimp := false) only [push_cast, hP, hnt, hgw, hgb, sevalprocAttr]
  refine guardR_may (by simp (dsimp := false) only [push_cast, hP, hnt, hgw, hgb, sevalprocAttr, List.getElem?_cons_zero, List.getElem?_cons_succ]; rfl) ?_
  simp (dsimp := false) only [push_cast, hP, hnt, hgw, hgb, sevalprocAttr]
  refine guardR_may (by simp (dsimp := false) only [push_cast, hP, hnt, hgw, hgb, sevalprocAttr, List.getElem?_cons_zero, List.getElem?_cons_succ]; rfl) ?_
  simp (dsimp := false) only [push_cast, hP, hnt, hgw, hgb, sevalprocAttr]
  refine guardR_may (by simp (dsimp := false) only [push_cast, hP, hnt, hgw, hgb, sevalprocAttr, List.getElem?_cons_zero, List.getElem?_cons_succ]; rfl) ?_
  simp (dsimp := false) only [push_cast, hP, hnt, hgw, hgb, sevalprocAttr]
  refine callE_intro (sameAll_call gw gb v.inputs w.inputs (by have := hf.inputs; omega) (fun x hx => by have := hf.each x hx; omega)) (.inl ⟨rfl, rfl⟩) ?_
  refine ⟨rfl, ?_⟩
  simp (dsimp := false) only [push_cast, hP, hnt, hgw, hgb, sevalprocAttr]
  refine hK _ ?_; clear hK
  refine vwp_ret ?_
  refine ret_free (by simp (dsimp := false) only [push_cast, hP, hnt, hgw, hgb, sevalprocAttr]; rfl) (by simp (dsimp := false) only [push_cast, hP, hnt, hgw, hgb, sevalprocAttr]) ?_
  simp only [pack, and_dec]
theorem sameProof_call (gw : World) (gb : Nat) (v w : Ver) (hf : Fit v) : VCall Tryz.prog gw (gb) 48 [.agg (v.prf false), .agg (w.prf false)] (.one (.c (.bool (sameP v w)))) [] := by
  refine vcall_of [.tmp 4] Tryz.func48 rfl rfl Tryz.ntmps48 rfl (by simp) ?_
  intro C hP hnt hgw hgb hfull
  refine vwp_seq_region rfl fun K hK => ?_
  simp (dsimp := false) only [push_cast, hP, hnt, hgw, hgb, sevalprocAttr]
  refine hK _ ?_; clear hK
  refine vwp_seq_regionG fun K hK => ?_
  simp (dsimp := false) only [push_cast, hP, hnt, hgw, hgb, sevalprocAttr]
  refine guardR_may (by simp (dsimp := false) only [push_cast, hP, hnt, hgw, hgb, sevalprocAttr, List.getElem?_cons_zero, List.getElem?_cons_succ]; rfl) ?_
  simp (dsimp := false) only [push_cast, hP, hnt, hgw, hgb, sevalprocAttr]
  refine guardR_may (by simp (dsimp := false) only [push_cast, hP, hnt, hgw, hgb, sevalprocAttr, List.getElem?_cons_zero, List.getElem?_cons_succ]; rfl) ?_
  simp (dsimp := false) only [push_cast, hP, hnt, hgw, hgb, sevalprocAttr]
  refine guardR_may (by simp (dsimp := false) only [push_cast, hP, hnt, hgw, hgb, sevalprocAttr, List.getElem?_cons_zero, List.getElem?_cons_succ]; rfl) ?_
  simp (dsimp := false) only [push_cast, hP, hnt, hgw, hgb, sevalprocAttr]
  refine guardR_may (by simp (dsimp := false) only [push_cast, hP, hnt, hgw, hgb, sevalprocAttr, List.getElem?_cons_zero, List.getElem?_cons_succ]; rfl) ?_
  simp (dsimp := false) only [push_cast, hP, hnt, hgw, hgb, sevalprocAttr]
  refine guardR_may (by simp (dsimp := false) only [push_cast, hP, hnt, hgw, hgb, sevalprocAttr, List.getElem?_cons_zero, List.getElem?_cons_succ]; rfl) ?_
  simp (dsimp := false) only [push_cast, hP, hnt, hgw, hgb, sevalprocAttr]
  refine guardR_may (by simp (dsimp := false) only [push_cast, hP, hnt, hgw, hgb, sevalprocAttr, List.getElem?_cons_zero, List.getElem?_cons_succ]; rfl) ?_
  simp (dsimp := false) only [push_cast, hP, hnt, hgw, hgb, sevalprocAttr]
  refine guardR_may (by simp (dsimp := false) only [push_cast, hP, hnt, hgw, hgb, sevalprocAttr, List.getElem?_cons_zero, List.getElem?_cons_succ]; rfl) ?_
  simp (dsimp := false) only [push_cast, hP, hnt, hgw, hgb, sevalprocAttr]
  refine guardR_may (by simp (dsimp := false) only [push_cast, hP, hnt, hgw, hgb, sevalprocAttr, List.getElem?_cons_zero, List.getElem?_cons_succ]; rfl) ?_
  simp (dsimp := false) only [push_cast, hP, hnt, hgw, hgb, sevalprocAttr]
  refine guardR_may (by simp (dsimp := false) only [push_cast, hP, hnt, hgw, hgb, sevalprocAttr, List.getElem?_cons_zero, List.getElem?_cons_succ]; rfl) ?_
  simp (dsimp := false) only [push_cast, hP, hnt, hgw, hgb, sevalprocAttr]
  refine guardR_may (by simp (dsimp := false) only [push_cast, hP, hnt, hgw, hgb, sevalprocAttr, List.getElem?_cons_zero, List.getElem?_cons_succ]; rfl) ?_
  simp (dsimp := false) only [push_cast, hP, hnt, hgw, hgb, sevalprocAttr]
  refine callE_intro (same24_call gw gb v.ands w.ands v.lit w.lit (by have := hf.ands; omega)) (.inl ⟨rfl, rfl⟩) ?_
  refine ⟨rfl, ?_⟩
  simp (dsimp := false) only [push_cast, hP, hnt, hgw, hgb, sevalprocAttr]
  refine hK _ ?_; clear hK
  refine vwp_ret ?_
  refine ret_free (by simp (dsimp := false) only [push_cast, hP, hnt, hgw, hgb, sevalprocAttr]; rfl) (by simp (dsimp := false) only [push_cast, hP, hnt, hgw, hgb, sevalprocAttr]) ?_
  simp only [pack, sameP]; congr 3; rw [Bool.eq_iff_iff]; simp [and_assoc]
theorem same42_call (gw : World) (gb : Nat) (v w : Ver) (hf : Fit v) : VCall Tryz.prog gw (gb) 22 [.agg (v.pcs false), .agg (w.pcs false)] (.one (.c (.bool (sameV v w)))) [] := by
  refine vcall_of [.tmp 4] Tryz.func22 rfl rfl Tryz.ntmps22 rfl (by simp) ?_
  intro C hP hnt hgw hgb hfull
  refine vwp_seq_region rfl fun K hK => ?_
  simp (dsimp := false) only [push_cast, hP, hnt, hgw, hgb, sevalprocAttr]
  refine hK _ ?_; clear hK
  refine vwp_seq_regionG fun K hK => ?_
  simp (dsimp := false) only [push_cast, hP, hnt, hgw, hgb, sevalprocAttr]
  refine guardR_may (by simp (dsimp := false) only [push_cast, hP, hnt, hgw, hgb, sevalprocAttr, List.getElem?_cons_zero, List.getElem?_cons_succ]; rfl) ?_
  simp (dsimp := false) only [push_cast, hP, hnt, hgw, hgb, sevalprocAttr]
  refine guardR_may (by simp (dsimp := false) only [push_cast, hP, hnt, hgw, hgb, sevalprocAttr, List.getElem?_cons_zero, List.getElem?_cons_succ]; rfl) ?_
  simp (dsimp := false) only [push_cast, hP, hnt, hgw, hgb, sevalprocAttr]
  refine guardR_may (by simp (dsimp := false) only [push_cast, hP, hnt, hgw, hgb, sevalprocAttr, List.getElem?_cons_zero, List.getElem?_cons_succ]; rfl) ?_
  simp (dsimp := false) only [push_cast, hP, hnt, hgw, hgb, sevalprocAttr]
  refine guardR_may (by simp (dsimp := false) only [push_cast, hP, hnt, hgw, hgb, sevalprocAttr, List.getElem?_cons_zero, List.getElem?_cons_succ]; rfl) ?_
  simp (dsimp := false) only [push_cast, hP, hnt, hgw, hgb, sevalprocAttr]
  refine guardR_may (by simp (dsimp := false) only [push_cast, hP, hnt, hgw, hgb, sevalprocAttr, List.getElem?_cons_zero, List.getElem?_cons_succ]; rfl) ?_
  simp (dsimp := false) only [push_cast, hP, hnt, hgw, hgb, sevalprocAttr]
  refine callE_intro (same06_call gw gb v w hf) (.inl ⟨rfl, rfl⟩) ?_
  refine ⟨rfl, ?_⟩
  simp (dsimp := false) only [push_cast, hP, hnt, hgw, hgb, sevalprocAttr]
  refine guardR_may (by simp (dsimp := false) only [push_cast, hP, hnt, hgw, hgb, sevalprocAttr, List.getElem?_cons_zero, List.getElem?_cons_succ]; rfl) ?_
  simp (dsimp := false) only [push_cast, hP, hnt, hgw, hgb, sevalprocAttr]
  refine guardR_may (by simp (dsimp := false) only [push_cast, hP, hnt, hgw, hgb, sevalprocAttr, List.getElem?_cons_zero, List.getElem?_cons_succ]; rfl) ?_
  simp (dsimp := false) only [push_cast, hP, hnt, hgw, hgb, sevalprocAttr]
  refine guardR_may (by simp (dsimp := false) only [push_cast, hP, hnt, hgw, hgb, sevalprocAttr, List.getElem?_cons_zero, List.getElem?_cons_succ]; rfl) ?_
  simp (dsimp := false) only [push_cast, hP, hnt, hgw, hgb, sevalprocAttr]
  refine guardR_may (by simp (dsimp := false) only [push_cast, hP, hnt, hgw, hgb, sevalprocAttr, List.getElem?_cons_zero, List.getElem?_cons_succ]; rfl) ?_
  simp (dsimp := false) only [push_cast, hP, hnt, hgw, hgb, sevalprocAttr]
  refine guardR_may (by simp (dsimp := false) only [push_cast, hP, hnt, hgw, hgb, sevalprocAttr, List.getElem?_cons_zero, List.getElem?_cons_succ]; rfl) ?_
  simp (dsimp := false) only [push_cast, hP, hnt, hgw, hgb, sevalprocAttr]
  refine callE_intro (sameProof_call gw gb v w hf) (.inl ⟨rfl, rfl⟩) ?_
  refine ⟨rfl, ?_⟩
  simp (dsimp := false) only [push_cast, hP, hnt, hgw, hgb, sevalprocAttr]
  refine hK _ ?_; clear hK
  refine vwp_ret ?_
  refine ret_free (by simp (dsimp := false) only [push_cast, hP, hnt, hgw, hgb, sevalprocAttr]; rfl) (by simp (dsimp := false) only [push_cast, hP, hnt, hgw, hgb, sevalprocAttr]) ?_
  simp only [pack, sameV, sameP]; congr 3; rw [Bool.eq_iff_iff]; simp [and_assoc]
end Go.Vm
end

section
namespace Go.Vm
open Go Go.RowKit Go.Proofs
set_option maxRecDepth 100000
set_option linter.unusedSimpArgs false
set_option linter.unusedVariables false
set_option maxHeartbeats 4000000

theorem splitGo_len (c : UInt8) : ∀ (l acc : List UInt8), (splitGo c l acc).length ≤ l.length
  | [], acc => by simp [splitGo]
  | b :: r, acc => by
    unfold splitGo
    split
    · have := splitGo_len c r []; simp; omega
    · have := splitGo_len c r (acc ++ [b]); simp; omega
theorem splitR_len (s : ByteArray) (c : UInt8) : (splitR s c).length ≤ s.size := by
  unfold splitR; rw [List.length_map, size_list]; exact splitGo_len c _ _
def unsGo : Nat → List ByteArray → List Bool → List (List Bool) → Ver
  | _, [], fi, ins => ⟨2, fi, ins, 0, 0, [], 0⟩
  | i, x :: r, fi, ins => if i = 1 then unsGo (i + 1) r (unbitsF (restF x wfirst)) ins else unsGo (i + 1) r fi (ins ++ [unbitsF (restF x win)])
def unsF (l : List ByteArray) : Ver := unsGo 1 (l.drop 1) [] []
def refParse (l : List ByteArray) : Ver :=
  if (atI l 0).toList = wUNKNOWN.toList then ⟨3, [], [], 0, 0, [], 0⟩
  else if (atI l 0).toList = wSAFE.toList then ⟨1, [], [], (prfF (l.drop 1)).skip, (prfF (l.drop 1)).phases, (prfF (l.drop 1)).ands, (prfF (l.drop 1)).lit⟩
  else if (atI l 0).toList = wUNSAFE.toList then unsF l
  else ver0
def refVerF (s : ByteArray) : Ver × Int :=
  if (splitR s 10).length = 0 ∨ 40000 < s.size then (ver0, 12)
  else if (verdictF (refParse (splitR s 10))).2 ≠ 0 ∨ (verdictF (refParse (splitR s 10))).1.toList ≠ s.toList then (ver0, 12) else (refParse (splitR s 10), 0)
structure UnsAt (l : List ByteArray) (i : Int) (fi : List Bool) (ins : List (List Bool)) : Prop where
  eq : unsGo i.toNat (l.drop i.toNat) fi ins = unsF l
  len : (ins.length : Int) ≤ i
  fi : fi.length ≤ 100000
  each : ∀ x ∈ ins, x.length ≤ 100000
theorem unbitsF_len (s : ByteArray) : (unbitsF s).length ≤ s.size := by
  unfold unbitsF; split
  · simp
  · rw [List.length_map, size_list]; exact Nat.le_refl _
def bbP (l : List Bool) : PC := .sl true l.length (l.map (fun b => PC.c (Value.bool b)))
def rowBB (l : List (List Bool)) : Blk := .arr 29 1 l.length (l.map bbP)
attribute [push_cast] bbP
theorem bbP_free (l : List (List Bool)) : PC.frees (l.map bbP) = true := by
  rw [frees_map, List.all_eq_true]
  intro a _
  simp only [bbP, PC.free, boolP_free]
theorem row_tail {α : Type} (f : α → PC) (l : List α) : List.take ((List.drop 1 l).length * 1) (List.drop (Int.toNat 1 * 1) (List.map f l)) = List.map f (l.drop 1) := by
  rw [← List.map_drop, Nat.mul_one]
  exact List.take_of_length_le (by rw [List.length_map]; exact Nat.le_refl _)
theorem row_tail_len {α : Type} (l : List α) : ((l.length : Int) - 1).toNat = (l.drop 1).length := by rw [List.length_drop]; omega
theorem refVer_ok {s : ByteArray} {w : Ver} (h : ¬ ((splitR s 10).length = 0 ∨ 40000 < s.size)) (hw : refParse (splitR s 10) = w) (h2 : ¬ ((verdictF w).2 ≠ 0 ∨ (verdictF w).1.toList ≠ s.toList)) : refVerF s = (w, 0) := by
  unfold refVerF; rw [if_neg h, hw, if_neg h2]
end Go.Vm
end
