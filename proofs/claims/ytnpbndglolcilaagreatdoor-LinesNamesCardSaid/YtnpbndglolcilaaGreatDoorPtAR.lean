/-
  Walks of the program's functions by the framework, and what they compute (PtAR). Conditions: each theorem's own premises. By an AI agent.
-/
import Derived.Test.YtnpbndglolcilaaGreatDoorPtAQ
import Derived.Test.YtnpbndglolcilaaGreatDoorPtAH
section
namespace Go.Vm
open Go Go.RowKit Go.Proofs
set_option maxRecDepth 100000
set_option linter.unusedSimpArgs false
set_option linter.unusedVariables false
set_option maxHeartbeats 4000000

def PE (s : ByteArray) : List ByteArray := splitS s ⟨#[32]⟩
def engOf (num : ByteArray → Int) (L : List ByteArray) : Eng := ⟨(atI L 0).toList == (⟨#[112, 100, 114]⟩ : ByteArray).toList, num (atI L 1), num (atI L 2)⟩
def engZ : Eng := ⟨false, 0, 0⟩
def readEngF (s : ByteArray) : Eng × Int :=
  if (PE s).length ≠ 3 then (engZ, 12)
  else if (engineF (engOf numF (PE s))).2 ≠ 0 ∨ (engineF (engOf numF (PE s))).1.toList ≠ s.toList then (engZ, 12) else (engOf numF (PE s), 0)
theorem PE_size (s : ByteArray) : ∀ x ∈ PE s, x.size ≤ s.size := splitB_size _ _ _
theorem readEng_len {s : ByteArray} (h : ¬ ((PE s).length : Int) = 3) : readEngF s = (engZ, 12) := if_pos (by omega)
theorem readEng_bad {s : ByteArray} (h : ((PE s).length : Int) = 3) (h2 : (engineF (engOf numF (PE s))).2 ≠ 0 ∨ (engineF (engOf numF (PE s))).1.toList ≠ s.toList) : readEngF s = (engZ, 12) := by
  unfold readEngF; rw [if_neg (by omega), if_pos h2]
theorem readEng_ok {s : ByteArray} (h : ((PE s).length : Int) = 3) (h2 : ¬ ((engineF (engOf numF (PE s))).2 ≠ 0 ∨ (engineF (engOf numF (PE s))).1.toList ≠ s.toList)) : readEngF s = (engOf numF (PE s), 0) := by
  unfold readEngF; rw [if_neg (by omega), if_neg h2]
theorem splitE_call (gw : World) (hg : Glob gw) (s : ByteArray) (hs : s.size ≤ 100000) :
    VCall Tryz.prog gw gw.heap.size 40 [.one (.c (.string s)), .one (.c (.string ⟨#[32]⟩))] (.one (.sl true (PE s).length ((PE s).map fun s => .c (.string s)))) [] := split_call gw hg s ⟨#[32]⟩ hs (by decide)
theorem readEngine_call (gw : World) (hg : Glob gw) (s : ByteArray) (hs : s.size ≤ 90000) : VCall Tryz.prog gw (gw.heap.size) 21 [.one (.c (.string s))] (.tup [.agg (readEngF s).1.pcs, .one (.c (.int .i64 (readEngF s).2))]) [] := by
  refine vcall_of [.cell 2 42, .tmp 3] Tryz.func21 rfl rfl Tryz.ntmps21 rfl (by simp) ?_
  intro C hP hnt hgw hgb hfull
  refine vwp_seq_region rfl fun K hK => ?_
  simp (dsimp := false) only [push_cast, hP, hnt, hgw, hgb, Nat.reduceLT, Nat.reduceEqDiff, Nat.reduceAdd, Nat.reduceSub, Nat.reduceMul, Nat.reduceLeDiff, ↓reduceIte, reduceCtorEq]
  refine hK _ ?_; clear hK
  refine vwp_seq_region rfl fun K hK => ?_
  simp (dsimp := false) only [push_cast, hP, hnt, hgw, hgb, Nat.reduceLT, Nat.reduceEqDiff, Nat.reduceAdd, Nat.reduceSub, Nat.reduceMul, Nat.reduceLeDiff, ↓reduceIte, reduceCtorEq]
  refine .inl (callE_intro (splitE_call gw hg s (by omega)) (.inl ⟨by simp only [push_cast], rfl⟩) ?_)
  simp (dsimp := false) only [push_cast, hP, hnt, hgw, hgb, Nat.reduceLT, Nat.reduceEqDiff, Nat.reduceAdd, Nat.reduceSub, Nat.reduceMul, Nat.reduceLeDiff, ↓reduceIte, reduceCtorEq]
  refine hK _ ?_; clear hK
  refine vwp_seq fun K hK => ?_
  refine vwp_seq_region rfl fun K hK => ?_
  simp (dsimp := false) only [push_cast, hP, hnt, hgw, hgb, Nat.reduceLT, Nat.reduceEqDiff, Nat.reduceAdd, Nat.reduceSub, Nat.reduceMul, Nat.reduceLeDiff, ↓reduceIte, reduceCtorEq]
  refine hK _ ?_; clear hK
  refine vwp_cond (b := _) (by simp (dsimp := false) only [push_cast, hP, hnt, hgw, hgb, Nat.reduceLT, Nat.reduceEqDiff, Nat.reduceAdd, Nat.reduceSub, Nat.reduceMul, Nat.reduceLeDiff, ↓reduceIte, reduceCtorEq]; rfl) (fun rb0 => ?_) (fun rb0 => ?_)
  · have hb0 := rb0
    try simp only [beq_iff_eq, bne_iff_ne, ne_eq, bne_eq_false_iff_eq, beq_eq_false_iff_ne, decide_eq_true_eq, decide_eq_false_iff_not, Bool.not_eq_true', Bool.not_eq_false', Bool.or_eq_true, Bool.and_eq_true, Bool.or_eq_false_iff, Bool.and_eq_false_iff] at hb0
    refine vwp_seq_region rfl fun K hK => ?_
    simp (dsimp := false) only [push_cast, hP, hnt, hgw, hgb, Nat.reduceLT, Nat.reduceEqDiff, Nat.reduceAdd, Nat.reduceSub, Nat.reduceMul, Nat.reduceLeDiff, ↓reduceIte, reduceCtorEq]
    refine hK _ ?_; clear hK
    refine vwp_ret ?_
    refine ret_free (by simp (dsimp := false) only [push_cast, hP, hnt, hgw, hgb, Nat.reduceLT, Nat.reduceEqDiff, Nat.reduceAdd, Nat.reduceSub, Nat.reduceMul, Nat.reduceLeDiff, ↓reduceIte, reduceCtorEq]; rfl) (by simp (dsimp := false) only [push_cast, hP, hnt, hgw, hgb, Nat.reduceLT, Nat.reduceEqDiff, Nat.reduceAdd, Nat.reduceSub, Nat.reduceMul, Nat.reduceLeDiff, ↓reduceIte, reduceCtorEq]) ?_
    rw [readEng_len hb0]; rfl
  · have hb0 := rb0
    try simp only [beq_iff_eq, bne_iff_ne, ne_eq, bne_eq_false_iff_eq, beq_eq_false_iff_ne, decide_eq_true_eq, decide_eq_false_iff_not, Bool.not_eq_true', Bool.not_eq_false', Bool.or_eq_true, Bool.and_eq_true, Bool.or_eq_false_iff, Bool.and_eq_false_iff] at hb0
    have h00 : ((0 : Int) ≤ 0) = True := by simp
    have h01 : ((0 : Int) ≤ 1) = True := by simp
    have h02 : ((0 : Int) ≤ 2) = True := by simp
    have hk0 : (0 : Int) < ((PE s).length : Int) := by omega
    have hk1 : (1 : Int) < ((PE s).length : Int) := by omega
    have hk2 : (2 : Int) < ((PE s).length : Int) := by omega
    have hd0 := dropI_map (fun s => PC.c (Value.string s)) (show (0 : Int) ≤ 0 by omega) hk0
    have hd1 := dropI_map (fun s => PC.c (Value.string s)) (show (0 : Int) ≤ 1 by omega) hk1
    have hd2 := dropI_map (fun s => PC.c (Value.string s)) (show (0 : Int) ≤ 2 by omega) hk2
    have hz1 := PE_size s _ (atI_mem (show (0 : Int) ≤ 1 by omega) hk1)
    have hz2 := PE_size s _ (atI_mem (show (0 : Int) ≤ 2 by omega) hk2)
    refine vwp_skip ?_
    apply_assumption
    refine vwp_seq_anyF [[], [0], [0, 1], [0, 1, 2], [], [4], [4, 5], [4, 5, 6], [], [8], [8, 9], [4, 5, 6, 7, 8, 9, 10], [0, 1, 2, 3, 4, 5, 6, 7, 8, 9, 10, 11], [], [0, 1, 2, 3, 4, 5, 6, 7, 8, 9, 10, 11, 12, 13]] [([(14, .dead), (15, .old), (16, .old), (17, .old), (18, .dead), (19, .dead), (20, .dead), (21, .dead), (22, .dead), (23, .dead), (24, .dead), (25, .dead), (26, .old), (5, .dead)], [15, 16, 17, 18, 19, 20, 21, 22, 23, 24, 25, 26, 5], []), ([(14, .dep 0), (15, .dead), (16, .old), (17, .old), (18, .dead), (19, .dead), (20, .dead), (21, .dead), (22, .dead), (23, .dead), (24, .dead), (25, .dead), (26, .old), (5, .dead)], [16, 17, 18, 19, 20, 21, 22, 23, 24, 25, 26, 5], [0]), ([(14, .dep 1), (15, .dep 0), (16, .dead), (17, .old), (18, .dead), (19, .dead), (20, .dead), (21, .dead), (22, .dead), (23, .dead), (24, .dead), (25, .dead), (26, .old), (5, .dead)], [17, 18, 19, 20, 21, 22, 23, 24, 25, 26, 5], [1, 0]), ([(14, .dep 2), (15, .dep 1), (16, .dep 0), (17, .dead), (18, .dead), (19, .dead), (20, .dead), (21, .dead), (22, .dead), (23, .dead), (24, .dead), (25, .dead), (26, .old), (5, .dead)], [18, 19, 20, 21, 22, 23, 24, 25, 26, 5], [2, 1, 0]), ([(14, .dead), (15, .dead), (16, .dead), (17, .dead), (18, .dead), (19, .old), (20, .old), (21, .old), (22, .dead), (23, .dead), (24, .dead), (25, .old), (26, .old), (5, .dead)], [14, 15, 16, 17, 19, 20, 21, 22, 23, 24, 25, 26, 5], []), ([(14, .dead), (15, .dead), (16, .dead), (17, .dead), (18, .dep 0), (19, .dead), (20, .old), (21, .old), (22, .dead), (23, .dead), (24, .dead), (25, .old), (26, .old), (5, .dead)], [14, 15, 16, 17, 20, 21, 22, 23, 24, 25, 26, 5], [0]), ([(14, .dead), (15, .dead), (16, .dead), (17, .dead), (18, .dep 1), (19, .dep 0), (20, .dead), (21, .old), (22, .dead), (23, .dead), (24, .dead), (25, .old), (26, .old), (5, .dead)], [14, 15, 16, 17, 21, 22, 23, 24, 25, 26, 5], [1, 0]), ([(14, .dead), (15, .dead), (16, .dead), (17, .dead), (18, .dep 2), (19, .dep 1), (20, .dep 0), (21, .dead), (22, .dead), (23, .dead), (24, .dead), (25, .old), (26, .old), (5, .dead)], [14, 15, 16, 17, 22, 23, 24, 25, 26, 5], [2, 1, 0]), ([(14, .dead), (15, .dead), (16, .dead), (17, .dead), (18, .dead), (19, .dead), (20, .dead), (21, .dead), (22, .dead), (23, .old), (24, .old), (25, .old), (26, .old), (5, .dead)], [14, 15, 16, 17, 18, 19, 20, 21, 23, 24, 25, 26, 5], []), ([(14, .dead), (15, .dead), (16, .dead), (17, .dead), (18, .dead), (19, .dead), (20, .dead), (21, .dead), (22, .dep 0), (23, .dead), (24, .old), (25, .old), (26, .old), (5, .dead)], [14, 15, 16, 17, 18, 19, 20, 21, 24, 25, 26, 5], [0]), ([(14, .dead), (15, .dead), (16, .dead), (17, .dead), (18, .dead), (19, .dead), (20, .dead), (21, .dead), (22, .dep 1), (23, .dep 0), (24, .dead), (25, .old), (26, .old), (5, .dead)], [14, 15, 16, 17, 18, 19, 20, 21, 25, 26, 5], [1, 0]), ([(14, .dead), (15, .dead), (16, .dead), (17, .dead), (18, .dep 6), (19, .dep 5), (20, .dep 4), (21, .dep 3), (22, .dep 2), (23, .dep 1), (24, .dep 0), (25, .dead), (26, .old), (5, .dead)], [14, 15, 16, 17, 26, 5], [6, 5, 4, 3, 2, 1, 0]), ([(14, .dep 11), (15, .dep 10), (16, .dep 9), (17, .dep 8), (18, .dep 7), (19, .dep 6), (20, .dep 5), (21, .dep 4), (22, .dep 3), (23, .dep 2), (24, .dep 1), (25, .dep 0), (26, .dead), (5, .dead)], [5], [11, 10, 9, 8, 7, 6, 5, 4, 3, 2, 1, 0]), ([(14, .dead), (15, .dead), (16, .dead), (17, .dead), (18, .dead), (19, .dead), (20, .dead), (21, .dead), (22, .dead), (23, .dead), (24, .dead), (25, .dead), (26, .dead), (5, .dead)], [14, 15, 16, 17, 18, 19, 20, 21, 22, 23, 24, 25, 26], []), ([(14, .dep 13), (15, .dep 12), (16, .dep 11), (17, .dep 10), (18, .dep 9), (19, .dep 8), (20, .dep 7), (21, .dep 6), (22, .dep 5), (23, .dep 4), (24, .dep 3), (25, .dep 2), (26, .dep 1), (5, .dep 0)], [], [13, 12, 11, 10, 9, 8, 7, 6, 5, 4, 3, 2, 1, 0])] (by rw [hP]; exact mixed) rfl rfl rfl fun K hK => ?_
    simp (dsimp := false) only [push_cast, hP, hnt, hgw, hgb, Nat.reduceLT, Nat.reduceEqDiff, Nat.reduceAdd, Nat.reduceSub, Nat.reduceMul, Nat.reduceLeDiff, ↓reduceIte, reduceCtorEq, h00, h01, h02, hk0, hk1, hk2, hd0, hd1, hd2, Nat.reduceBNe, Nat.reduceBEq]
    refine .inl (callE_intro (number_call gw hg _ (by omega)) (.inl ⟨rfl, rfl⟩) ?_)
    simp (dsimp := false) only [push_cast, hP, hnt, hgw, hgb, Nat.reduceLT, Nat.reduceEqDiff, Nat.reduceAdd, Nat.reduceSub, Nat.reduceMul, Nat.reduceLeDiff, ↓reduceIte, reduceCtorEq, h00, h01, h02, hk0, hk1, hk2, hd0, hd1, hd2, Nat.reduceBNe, Nat.reduceBEq]
    refine .inl (callE_intro (number_call gw hg _ (by omega)) (.inl ⟨rfl, rfl⟩) ?_)
    simp (dsimp := false) only [push_cast, hP, hnt, hgw, hgb, Nat.reduceLT, Nat.reduceEqDiff, Nat.reduceAdd, Nat.reduceSub, Nat.reduceMul, Nat.reduceLeDiff, ↓reduceIte, reduceCtorEq, h00, h01, h02, hk0, hk1, hk2, hd0, hd1, hd2, Nat.reduceBNe, Nat.reduceBEq]
    refine ⟨rfl, ?_⟩
    refine hK _ ?_; clear hK
    refine vwp_seq fun K hK => ?_
    refine vwp_seq_region rfl fun K hK => ?_
    simp (dsimp := false) only [push_cast, hP, hnt, hgw, hgb, Nat.reduceLT, Nat.reduceEqDiff, Nat.reduceAdd, Nat.reduceSub, Nat.reduceMul, Nat.reduceLeDiff, ↓reduceIte, reduceCtorEq, h00, h01, h02, hk0, hk1, hk2, hd0, hd1, hd2]
    refine .inl (callE_intro (engineText_call gw hg (engOf numF (PE s))) (.inl ⟨rfl, rfl⟩) ?_)
    simp (dsimp := false) only [push_cast, hP, hnt, hgw, hgb, Nat.reduceLT, Nat.reduceEqDiff, Nat.reduceAdd, Nat.reduceSub, Nat.reduceMul, Nat.reduceLeDiff, ↓reduceIte, reduceCtorEq, h00, h01, h02, hk0, hk1, hk2, hd0, hd1, hd2]
    refine hK _ ?_; clear hK
    refine vwp_seq_regionG fun K hK => ?_
    simp (dsimp := false) only [push_cast, hP, hnt, hgw, hgb, Nat.reduceLT, Nat.reduceEqDiff, Nat.reduceAdd, Nat.reduceSub, Nat.reduceMul, Nat.reduceLeDiff, ↓reduceIte, reduceCtorEq, h00, h01, h02, hk0, hk1, hk2, hd0, hd1, hd2]
    refine guardR_may (by simp (dsimp := false) only [push_cast, hP, hnt, hgw, hgb, Nat.reduceLT, Nat.reduceEqDiff, Nat.reduceAdd, Nat.reduceSub, Nat.reduceMul, Nat.reduceLeDiff, ↓reduceIte, reduceCtorEq, h00, h01, h02, hk0, hk1, hk2, hd0, hd1, hd2, List.getElem?_cons_zero, List.getElem?_cons_succ]; rfl) ?_
    simp (dsimp := false) only [push_cast, hP, hnt, hgw, hgb, Nat.reduceLT, Nat.reduceEqDiff, Nat.reduceAdd, Nat.reduceSub, Nat.reduceMul, Nat.reduceLeDiff, ↓reduceIte, reduceCtorEq, h00, h01, h02, hk0, hk1, hk2, hd0, hd1, hd2]
    refine guardR_may (by simp (dsimp := false) only [push_cast, hP, hnt, hgw, hgb, Nat.reduceLT, Nat.reduceEqDiff, Nat.reduceAdd, Nat.reduceSub, Nat.reduceMul, Nat.reduceLeDiff, ↓reduceIte, reduceCtorEq, h00, h01, h02, hk0, hk1, hk2, hd0, hd1, hd2, List.getElem?_cons_zero, List.getElem?_cons_succ]; rfl) ?_
    simp (dsimp := false) only [push_cast, hP, hnt, hgw, hgb, Nat.reduceLT, Nat.reduceEqDiff, Nat.reduceAdd, Nat.reduceSub, Nat.reduceMul, Nat.reduceLeDiff, ↓reduceIte, reduceCtorEq, h00, h01, h02, hk0, hk1, hk2, hd0, hd1, hd2]
    refine guardR_may (by simp (dsimp := false) only [push_cast, hP, hnt, hgw, hgb, Nat.reduceLT, Nat.reduceEqDiff, Nat.reduceAdd, Nat.reduceSub, Nat.reduceMul, Nat.reduceLeDiff, ↓reduceIte, reduceCtorEq, h00, h01, h02, hk0, hk1, hk2, hd0, hd1, hd2, List.getElem?_cons_zero, List.getElem?_cons_succ]; rfl) ?_
    simp (dsimp := false) only [push_cast, hP, hnt, hgw, hgb, Nat.reduceLT, Nat.reduceEqDiff, Nat.reduceAdd, Nat.reduceSub, Nat.reduceMul, Nat.reduceLeDiff, ↓reduceIte, reduceCtorEq, h00, h01, h02, hk0, hk1, hk2, hd0, hd1, hd2]
    refine hK _ ?_; clear hK
    refine vwp_cond (b := _) (by simp (dsimp := false) only [push_cast, hP, hnt, hgw, hgb, Nat.reduceLT, Nat.reduceEqDiff, Nat.reduceAdd, Nat.reduceSub, Nat.reduceMul, Nat.reduceLeDiff, ↓reduceIte, reduceCtorEq, h00, h01, h02, hk0, hk1, hk2, hd0, hd1, hd2]; rfl) (fun rb1 => ?_) (fun rb1 => ?_)
    · have hb1 := rb1
      try simp only [beq_iff_eq, bne_iff_ne, ne_eq, bne_eq_false_iff_eq, beq_eq_false_iff_ne, decide_eq_true_eq, decide_eq_false_iff_not, Bool.not_eq_true', Bool.not_eq_false', Bool.or_eq_true, Bool.and_eq_true, Bool.or_eq_false_iff, Bool.and_eq_false_iff] at hb1
      refine vwp_seq_region rfl fun K hK => ?_
      simp (dsimp := false) only [push_cast, hP, hnt, hgw, hgb, Nat.reduceLT, Nat.reduceEqDiff, Nat.reduceAdd, Nat.reduceSub, Nat.reduceMul, Nat.reduceLeDiff, ↓reduceIte, reduceCtorEq, h00, h01, h02, hk0, hk1, hk2, hd0, hd1, hd2]
      refine hK _ ?_; clear hK
      refine vwp_ret ?_
      refine ret_free (by simp (dsimp := false) only [push_cast, hP, hnt, hgw, hgb, Nat.reduceLT, Nat.reduceEqDiff, Nat.reduceAdd, Nat.reduceSub, Nat.reduceMul, Nat.reduceLeDiff, ↓reduceIte, reduceCtorEq, h00, h01, h02, hk0, hk1, hk2, hd0, hd1, hd2]; rfl) (by simp (dsimp := false) only [push_cast, hP, hnt, hgw, hgb, Nat.reduceLT, Nat.reduceEqDiff, Nat.reduceAdd, Nat.reduceSub, Nat.reduceMul, Nat.reduceLeDiff, ↓reduceIte, reduceCtorEq, h00, h01, h02, hk0, hk1, hk2, hd0, hd1, hd2]) ?_
      rw [readEng_bad hb0 (by simpa using hb1)]; rfl
    · have hb1 := rb1
      try simp only [beq_iff_eq, bne_iff_ne, ne_eq, bne_eq_false_iff_eq, beq_eq_false_iff_ne, decide_eq_true_eq, decide_eq_false_iff_not, Bool.not_eq_true', Bool.not_eq_false', Bool.or_eq_true, Bool.and_eq_true, Bool.or_eq_false_iff, Bool.and_eq_false_iff] at hb1
      refine vwp_skip ?_
      apply_assumption
      refine vwp_seq_region rfl fun K hK => ?_
      simp (dsimp := false) only [push_cast, hP, hnt, hgw, hgb, Nat.reduceLT, Nat.reduceEqDiff, Nat.reduceAdd, Nat.reduceSub, Nat.reduceMul, Nat.reduceLeDiff, ↓reduceIte, reduceCtorEq, h00, h01, h02, hk0, hk1, hk2, hd0, hd1, hd2]
      refine hK _ ?_; clear hK
      refine vwp_ret ?_
      refine ret_free (by simp (dsimp := false) only [push_cast, hP, hnt, hgw, hgb, Nat.reduceLT, Nat.reduceEqDiff, Nat.reduceAdd, Nat.reduceSub, Nat.reduceMul, Nat.reduceLeDiff, ↓reduceIte, reduceCtorEq, h00, h01, h02, hk0, hk1, hk2, hd0, hd1, hd2]; rfl) (by simp (dsimp := false) only [push_cast, hP, hnt, hgw, hgb, Nat.reduceLT, Nat.reduceEqDiff, Nat.reduceAdd, Nat.reduceSub, Nat.reduceMul, Nat.reduceLeDiff, ↓reduceIte, reduceCtorEq, h00, h01, h02, hk0, hk1, hk2, hd0, hd1, hd2]) ?_
      rw [readEng_ok hb0 (by simpa using hb1)]; rfl
end Go.Vm
end

section
namespace Go.Vm
open Go Go.RowKit Go.Proofs
set_option maxRecDepth 100000
set_option linter.unusedSimpArgs false
set_option linter.unusedVariables false
set_option maxHeartbeats 4000000
theorem splitSeq0_call (gw : World) (gb : Nat) (s sep : ByteArray) (k : Int) : VCall Tryz.prog gw (gb) 59 [.one (.c (.string s)), .one (.c (.string sep)), .one (.c (.int .i64 k))] (.one (.fn 74 [.loc (0, 0) 0, .loc (0, 1) 0, .loc (0, 2) 0])) [.box 9 [.c (.string sep)], .box 9 [.c (.string s)], .box 3 [.c (.int .i64 k)]] := by
  refine vcall_of [.tmp 6] Tryz.func59 rfl rfl Tryz.ntmps59 rfl (by simp) ?_
  intro C hP hnt hgw hgb hfull
  refine vwp_seq_region rfl fun K hK => ?_
  simp (dsimp := false) only [push_cast, hP, hnt, hgw, hgb, sevalprocAttr]
  refine hK _ ?_; clear hK
  refine vwp_seq_region rfl fun K hK => ?_
  simp (dsimp := false) only [push_cast, hP, hnt, hgw, hgb, sevalprocAttr]
  refine hK _ ?_; clear hK
  refine vwp_ret ?_
  refine ret_conv [] [((5, 0), (0, 0)), ((4, 0), (0, 1)), ((6, 0), (0, 2))] (by simp (dsimp := false) only [push_cast, hP, hnt, hgw, hgb, sevalprocAttr]; rfl) (by simp) (by simp) (by first | decide | simp) ?_ ?_
  · simp only [pack]
    repeat' (first | exact ConvVs.nil | exact ConvL.nil | refine ConvV.tup ?_ | refine ConvVs.cons ?_ ?_ | (refine ConvV.self ?_; simp only [push_cast]; done) | refine ConvV.one ?_ | refine ConvV.agg ?_ | (refine ConvL.free ?_; simp only [push_cast]; done) | refine ConvL.append ?_ ?_ | refine ConvL.cons ?_ ?_ | exact Conv.free rfl | exact Conv.nil | (refine Conv.own ?_; simp; done) | (refine Conv.loc ?_; simp; done) | refine Conv.frz (by simp) (by simp (dsimp := false) only [push_cast, ↓reduceIte, Nat.reduceEqDiff, Nat.reduceAdd, reduceCtorEq] <;> rfl) ?_ | refine Conv.sl (by simp) ?_ | refine Conv.fn ?_)
  · refine rb_cons ⟨(5, 0), _, by simp, by simp, by simp (dsimp := false) only [push_cast, ↓reduceIte, Nat.reduceEqDiff, Nat.reduceAdd, reduceCtorEq] <;> rfl, by first | (refine ConvB.free ?_; simp only [push_cast]; done) | ((first | refine ConvB.arr ?_ | refine ConvB.box ?_); repeat' (first | exact ConvVs.nil | exact ConvL.nil | refine ConvV.tup ?_ | refine ConvVs.cons ?_ ?_ | (refine ConvV.self ?_; simp only [push_cast]; done) | refine ConvV.one ?_ | refine ConvV.agg ?_ | (refine ConvL.free ?_; simp only [push_cast]; done) | refine ConvL.append ?_ ?_ | refine ConvL.cons ?_ ?_ | exact Conv.free rfl | exact Conv.nil | (refine Conv.own ?_; simp; done) | (refine Conv.loc ?_; simp; done) | refine Conv.frz (by simp) (by simp (dsimp := false) only [push_cast, ↓reduceIte, Nat.reduceEqDiff, Nat.reduceAdd, reduceCtorEq] <;> rfl) ?_ | refine Conv.sl (by simp) ?_ | refine Conv.fn ?_))⟩ ?_
    refine rb_cons ⟨(4, 0), _, by simp, by simp, by simp (dsimp := false) only [push_cast, ↓reduceIte, Nat.reduceEqDiff, Nat.reduceAdd, reduceCtorEq] <;> rfl, by first | (refine ConvB.free ?_; simp only [push_cast]; done) | ((first | refine ConvB.arr ?_ | refine ConvB.box ?_); repeat' (first | exact ConvVs.nil | exact ConvL.nil | refine ConvV.tup ?_ | refine ConvVs.cons ?_ ?_ | (refine ConvV.self ?_; simp only [push_cast]; done) | refine ConvV.one ?_ | refine ConvV.agg ?_ | (refine ConvL.free ?_; simp only [push_cast]; done) | refine ConvL.append ?_ ?_ | refine ConvL.cons ?_ ?_ | exact Conv.free rfl | exact Conv.nil | (refine Conv.own ?_; simp; done) | (refine Conv.loc ?_; simp; done) | refine Conv.frz (by simp) (by simp (dsimp := false) only [push_cast, ↓reduceIte, Nat.reduceEqDiff, Nat.reduceAdd, reduceCtorEq] <;> rfl) ?_ | refine Conv.sl (by simp) ?_ | refine Conv.fn ?_))⟩ ?_
    refine rb_cons ⟨(6, 0), _, by simp, by simp, by simp (dsimp := false) only [push_cast, ↓reduceIte, Nat.reduceEqDiff, Nat.reduceAdd, reduceCtorEq] <;> rfl, by first | (refine ConvB.free ?_; simp only [push_cast]; done) | ((first | refine ConvB.arr ?_ | refine ConvB.box ?_); repeat' (first | exact ConvVs.nil | exact ConvL.nil | refine ConvV.tup ?_ | refine ConvVs.cons ?_ ?_ | (refine ConvV.self ?_; simp only [push_cast]; done) | refine ConvV.one ?_ | refine ConvV.agg ?_ | (refine ConvL.free ?_; simp only [push_cast]; done) | refine ConvL.append ?_ ?_ | refine ConvL.cons ?_ ?_ | exact Conv.free rfl | exact Conv.nil | (refine Conv.own ?_; simp; done) | (refine Conv.loc ?_; simp; done) | refine Conv.frz (by simp) (by simp (dsimp := false) only [push_cast, ↓reduceIte, Nat.reduceEqDiff, Nat.reduceAdd, reduceCtorEq] <;> rfl) ?_ | refine Conv.sl (by simp) ?_ | refine Conv.fn ?_))⟩ ?_
    exact rb_nil
theorem splitSeq_call (gw : World) (gb : Nat) (s sep : ByteArray) : VCall Tryz.prog gw (gb) 45 [.one (.c (.string s)), .one (.c (.string sep))] (.one (.fn 74 [.loc (0, 0) 0, .loc (0, 1) 0, .loc (0, 2) 0])) [.box 9 [.c (.string sep)], .box 9 [.c (.string s)], .box 3 [.c (.int .i64 0)]] := by
  refine vcall_of [.tmp 4] Tryz.func45 rfl rfl Tryz.ntmps45 rfl (by simp) ?_
  intro C hP hnt hgw hgb hfull
  refine vwp_seq_region rfl fun K hK => ?_
  simp (dsimp := false) only [push_cast, hP, hnt, hgw, hgb, sevalprocAttr]
  refine hK _ ?_; clear hK
  refine vwp_seq_region rfl fun K hK => ?_
  simp (dsimp := false) only [push_cast, hP, hnt, hgw, hgb, sevalprocAttr]
  refine .inl (callE_intro (splitSeq0_call gw gb s sep 0) (.inl ⟨rfl, rfl⟩) ?_)
  simp (dsimp := false) only [push_cast, hP, hnt, hgw, hgb, sevalprocAttr]
  refine hK _ ?_; clear hK
  refine vwp_ret ?_
  refine ret_conv [] [((8, 0), (0, 0)), ((8, 1), (0, 1)), ((8, 2), (0, 2))] (by simp (dsimp := false) only [push_cast, hP, hnt, hgw, hgb, sevalprocAttr]; rfl) (by simp) (by simp) (by first | decide | simp) ?_ ?_
  · simp only [pack]
    repeat' (first | exact ConvVs.nil | exact ConvL.nil | refine ConvV.tup ?_ | refine ConvVs.cons ?_ ?_ | (refine ConvV.self ?_; simp only [push_cast]; done) | refine ConvV.one ?_ | refine ConvV.agg ?_ | (refine ConvL.free ?_; simp only [push_cast]; done) | refine ConvL.append ?_ ?_ | refine ConvL.cons ?_ ?_ | exact Conv.free rfl | exact Conv.nil | (refine Conv.own ?_; simp; done) | (refine Conv.loc ?_; simp; done) | refine Conv.frz (by simp) (by simp (dsimp := false) only [push_cast, ↓reduceIte, Nat.reduceEqDiff, Nat.reduceAdd, reduceCtorEq] <;> rfl) ?_ | refine Conv.sl (by simp) ?_ | refine Conv.fn ?_)
  · refine rb_cons ⟨(8, 0), _, by simp, by simp, by simp (dsimp := false) only [push_cast, ↓reduceIte, Nat.reduceEqDiff, Nat.reduceAdd, reduceCtorEq] <;> rfl, by first | (refine ConvB.free ?_; simp only [push_cast]; done) | ((first | refine ConvB.arr ?_ | refine ConvB.box ?_); repeat' (first | exact ConvVs.nil | exact ConvL.nil | refine ConvV.tup ?_ | refine ConvVs.cons ?_ ?_ | (refine ConvV.self ?_; simp only [push_cast]; done) | refine ConvV.one ?_ | refine ConvV.agg ?_ | (refine ConvL.free ?_; simp only [push_cast]; done) | refine ConvL.append ?_ ?_ | refine ConvL.cons ?_ ?_ | exact Conv.free rfl | exact Conv.nil | (refine Conv.own ?_; simp; done) | (refine Conv.loc ?_; simp; done) | refine Conv.frz (by simp) (by simp (dsimp := false) only [push_cast, ↓reduceIte, Nat.reduceEqDiff, Nat.reduceAdd, reduceCtorEq] <;> rfl) ?_ | refine Conv.sl (by simp) ?_ | refine Conv.fn ?_))⟩ ?_
    refine rb_cons ⟨(8, 1), _, by simp, by simp, by simp (dsimp := false) only [push_cast, ↓reduceIte, Nat.reduceEqDiff, Nat.reduceAdd, reduceCtorEq] <;> rfl, by first | (refine ConvB.free ?_; simp only [push_cast]; done) | ((first | refine ConvB.arr ?_ | refine ConvB.box ?_); repeat' (first | exact ConvVs.nil | exact ConvL.nil | refine ConvV.tup ?_ | refine ConvVs.cons ?_ ?_ | (refine ConvV.self ?_; simp only [push_cast]; done) | refine ConvV.one ?_ | refine ConvV.agg ?_ | (refine ConvL.free ?_; simp only [push_cast]; done) | refine ConvL.append ?_ ?_ | refine ConvL.cons ?_ ?_ | exact Conv.free rfl | exact Conv.nil | (refine Conv.own ?_; simp; done) | (refine Conv.loc ?_; simp; done) | refine Conv.frz (by simp) (by simp (dsimp := false) only [push_cast, ↓reduceIte, Nat.reduceEqDiff, Nat.reduceAdd, reduceCtorEq] <;> rfl) ?_ | refine Conv.sl (by simp) ?_ | refine Conv.fn ?_))⟩ ?_
    refine rb_cons ⟨(8, 2), _, by simp, by simp, by simp (dsimp := false) only [push_cast, ↓reduceIte, Nat.reduceEqDiff, Nat.reduceAdd, reduceCtorEq] <;> rfl, by first | (refine ConvB.free ?_; simp only [push_cast]; done) | ((first | refine ConvB.arr ?_ | refine ConvB.box ?_); repeat' (first | exact ConvVs.nil | exact ConvL.nil | refine ConvV.tup ?_ | refine ConvVs.cons ?_ ?_ | (refine ConvV.self ?_; simp only [push_cast]; done) | refine ConvV.one ?_ | refine ConvV.agg ?_ | (refine ConvL.free ?_; simp only [push_cast]; done) | refine ConvL.append ?_ ?_ | refine ConvL.cons ?_ ?_ | exact Conv.free rfl | exact Conv.nil | (refine Conv.own ?_; simp; done) | (refine Conv.loc ?_; simp; done) | refine Conv.frz (by simp) (by simp (dsimp := false) only [push_cast, ↓reduceIte, Nat.reduceEqDiff, Nat.reduceAdd, reduceCtorEq] <;> rfl) ?_ | refine Conv.sl (by simp) ?_ | refine Conv.fn ?_))⟩ ?_
    exact rb_nil
end Go.Vm
end

section
namespace Go.Vm
open Go Go.RowKit Go.Proofs
set_option maxRecDepth 100000
set_option linter.unusedSimpArgs false
set_option linter.unusedVariables false
set_option maxHeartbeats 4000000

def rowPS (p : List (ByteArray × Int)) : Blk := .arr 38 2 p.length (p.flatMap fun q => [.c (.string q.1), .c (.int .i64 q.2)])
theorem ps_free (p : List (ByteArray × Int)) : PC.frees (p.flatMap fun q => [PC.c (Value.string q.1), PC.c (Value.int .i64 q.2)]) = true := by
  rw [frees_flatMap]; simp [PC.frees, PC.free]
theorem ps_snoc (p : List (ByteArray × Int)) (q : ByteArray × Int) : (p ++ [q]).flatMap (fun q => [PC.c (Value.string q.1), PC.c (Value.int .i64 q.2)]) = p.flatMap (fun q => [PC.c (Value.string q.1), PC.c (Value.int .i64 q.2)]) ++ [PC.c (Value.string q.1), PC.c (Value.int .i64 q.2)] := by
  rw [List.flatMap_append]; simp
def readsG (rd : ByteArray → ByteArray × Int × Int) : List ByteArray → Option (List (ByteArray × Int))
  | [] => some []
  | w :: ws => if (rd w).2.2 = 0 then (readsG rd ws).map ((((rd w).1, (rd w).2.1)) :: ·) else none
structure ReadAt (rd : ByteArray → ByteArray × Int × Int) (L : List ByteArray) (i : Int) (p : List (ByteArray × Int)) : Prop where
  len : (p.length : Int) = i
  rest : readsG rd L = (readsG rd (L.drop i.toNat)).map (p ++ ·)
theorem readAt_init (rd : ByteArray → ByteArray × Int × Int) (L : List ByteArray) : ReadAt rd L 0 [] := ⟨rfl, by simp⟩
theorem readAt_next {rd : ByteArray → ByteArray × Int × Int} {L : List ByteArray} {i : Int} {p : List (ByteArray × Int)} (h0 : 0 ≤ i) (h1 : i < (L.length : Int)) (h : ReadAt rd L i p) (he : (rd (atI L i)).2.2 = 0) : ReadAt rd L (i + 1) (p ++ [((rd (atI L i)).1, (rd (atI L i)).2.1)]) := by
  refine ⟨by rw [List.length_append, List.length_singleton]; have := h.len; omega, ?_⟩
  rw [h.rest, drop_atI h0 h1, readsG, if_pos he, show (i + 1).toNat = i.toNat + 1 by omega]
  cases readsG rd (L.drop (i.toNat + 1)) with
  | none => rfl
  | some l => simp
theorem readAt_stop {rd : ByteArray → ByteArray × Int × Int} {L : List ByteArray} {i : Int} {p : List (ByteArray × Int)} (h0 : 0 ≤ i) (h1 : i < (L.length : Int)) (h : ReadAt rd L i p) (he : ¬ (rd (atI L i)).2.2 = 0) : readsG rd L = none := by
  rw [h.rest, drop_atI h0 h1, readsG, if_neg he]; rfl
theorem readAt_end {rd : ByteArray → ByteArray × Int × Int} {L : List ByteArray} {i : Int} {p : List (ByteArray × Int)} (h1 : ¬ i < (L.length : Int)) (h : ReadAt rd L i p) : readsG rd L = some p := by
  rw [h.rest, List.drop_eq_nil_of_le (by omega)]; simp [readsG]
def readPassG (rd : ByteArray → ByteArray × Int × Int) (ck : List (ByteArray × Int) → Int) (s : ByteArray) : List (ByteArray × Int) × Int :=
  if s.toList = (⟨#[]⟩ : ByteArray).toList then ([], 0)
  else match readsG rd (piecesB s 44) with
    | none => ([], 12)
    | some l => if ck l = 0 then (l, 0) else ([], 12)
def readPassF : ByteArray → List (ByteArray × Int) × Int := readPassG readF checksF
theorem readPass_nil {rd : ByteArray → ByteArray × Int × Int} {ck : List (ByteArray × Int) → Int} {s : ByteArray} (h : s.toList = (⟨#[]⟩ : ByteArray).toList) : readPassG rd ck s = ([], 0) := if_pos h
theorem readPass_stop {rd : ByteArray → ByteArray × Int × Int} {ck : List (ByteArray × Int) → Int} {s : ByteArray} (h : ¬ s.toList = (⟨#[]⟩ : ByteArray).toList) (h2 : readsG rd (piecesB s 44) = none) : readPassG rd ck s = ([], 12) := by
  unfold readPassG; rw [if_neg h, h2]
theorem readPass_bad {rd : ByteArray → ByteArray × Int × Int} {ck : List (ByteArray × Int) → Int} {s : ByteArray} {l : List (ByteArray × Int)} (h : ¬ s.toList = (⟨#[]⟩ : ByteArray).toList) (h2 : readsG rd (piecesB s 44) = some l) (h3 : ¬ ck l = 0) : readPassG rd ck s = ([], 12) := by
  unfold readPassG; rw [if_neg h, h2]; exact if_neg h3
theorem readPass_ok {rd : ByteArray → ByteArray × Int × Int} {ck : List (ByteArray × Int) → Int} {s : ByteArray} {l : List (ByteArray × Int)} (h : ¬ s.toList = (⟨#[]⟩ : ByteArray).toList) (h2 : readsG rd (piecesB s 44) = some l) (h3 : ck l = 0) : readPassG rd ck s = (l, 0) := by
  unfold readPassG; rw [if_neg h, h2]; exact if_pos h3
theorem pieces_len (s : ByteArray) (c : UInt8) : (piecesB s c).length ≤ s.size + 1 := by
  have := splitR_len (s ++ ⟨#[c]⟩) c
  rw [ByteArray.size_append] at this
  exact this
theorem pieces_size (s : ByteArray) (c : UInt8) : ∀ x ∈ piecesB s c, x.size ≤ s.size + 1 := splitR_size (by rw [ByteArray.size_append]; exact Nat.le_refl _)
end Go.Vm
end

section
namespace Go.Vm
open Go Go.RowKit Go.Proofs
set_option maxRecDepth 100000
set_option linter.unusedSimpArgs false
set_option linter.unusedVariables false
set_option maxHeartbeats 4000000

theorem piece_get {L : List ByteArray} {k : Nat} {x : List Value} (h : (L.map fun p => [Value.string p])[k]? = some x) : (k : Int) < (L.length : Int) ∧ x = [Value.string (atI L k)] := by
  rw [List.getElem?_map] at h
  obtain ⟨p, hp, rfl⟩ := Option.map_eq_some_iff.1 h
  obtain ⟨hk, he⟩ := List.getElem?_eq_some_iff.1 hp
  refine ⟨by omega, ?_⟩
  unfold atI
  rw [Int.toNat_natCast, List.getD_eq_getElem?_getD, hp]
  rfl
theorem readPasses_call (gw : World) (hg : Glob gw) (s : ByteArray) (hs : s.size ≤ 90000) : VCall Tryz.prog gw (gw.heap.size) 20 [.one (.c (.string s))] (.tup [.one (.sl true (readPassF s).1.length ((readPassF s).1.flatMap fun p => [.c (.string p.1), .c (.int .i64 p.2)])), .one (.c (.int .i64 (readPassF s).2))]) [] := by
  refine vcall_ofR [.cell 2 39, .cell 3 45] Tryz.func20 rfl rfl Tryz.ntmps20 rfl (by simp) ?_
  intro C hP hnt hgw hgb hfull hro
  refine vwp_seq_region rfl fun K hK => ?_
  simp (dsimp := false) only [push_cast, hP, hnt, hgw, hgb, sevalprocAttr]
  refine hK _ ?_; clear hK
  refine vwp_seq fun K hK => ?_
  refine vwp_seq_region rfl fun K hK => ?_
  simp (dsimp := false) only [push_cast, hP, hnt, hgw, hgb, sevalprocAttr]
  refine hK _ ?_; clear hK
  refine vwp_cond (b := _) (by simp (dsimp := false) only [push_cast, hP, hnt, hgw, hgb, sevalprocAttr]; rfl) (fun rb0 => ?_) (fun rb0 => ?_)
  · have hb0 := rb0
    try simp only [beq_iff_eq, bne_iff_ne, ne_eq, bne_eq_false_iff_eq, beq_eq_false_iff_ne, decide_eq_true_eq, decide_eq_false_iff_not, Bool.not_eq_true', Bool.not_eq_false', Bool.or_eq_true, Bool.and_eq_true, Bool.or_eq_false_iff, Bool.and_eq_false_iff] at hb0
    refine vwp_seq_region rfl fun K hK => ?_
    simp (dsimp := false) only [push_cast, hP, hnt, hgw, hgb, sevalprocAttr]
    refine hK _ ?_; clear hK
    refine vwp_ret ?_
    refine ret_conv [] [] (by simp (dsimp := false) only [push_cast, hP, hnt, hgw, hgb, sevalprocAttr]; rfl) (by simp) (by simp) (by first | decide | simp) ?_ ?_
    · simp only [pack]
      rw [show readPassF s = ([], 0) from readPass_nil (by simpa using hb0)]
      repeat' (first | exact ConvVs.nil | exact ConvL.nil | refine ConvV.tup ?_ | refine ConvVs.cons ?_ ?_ | (refine ConvV.self ?_; simp only [push_cast, ps_free]; done) | refine ConvV.one ?_ | refine ConvV.agg ?_ | (refine ConvL.free ?_; simp only [push_cast, ps_free]; done) | refine ConvL.append ?_ ?_ | refine ConvL.cons ?_ ?_ | exact Conv.free rfl | exact Conv.nil | (refine Conv.own ?_; simp; done) | (refine Conv.loc ?_; simp; done) | refine Conv.frz (by simp) (by simp (dsimp := false) only [push_cast, ↓reduceIte, Nat.reduceEqDiff, Nat.reduceAdd, reduceCtorEq] <;> rfl) ?_ | refine Conv.sl (by simp) ?_ | refine Conv.fn ?_)
    · exact rb_nil
  · have hb0 := rb0
    try simp only [beq_iff_eq, bne_iff_ne, ne_eq, bne_eq_false_iff_eq, beq_eq_false_iff_ne, decide_eq_true_eq, decide_eq_false_iff_not, Bool.not_eq_true', Bool.not_eq_false', Bool.or_eq_true, Bool.and_eq_true, Bool.or_eq_false_iff, Bool.and_eq_false_iff] at hb0
    refine vwp_skip ?_
    apply_assumption
    refine vwp_seq_region rfl fun K hK => ?_
    simp (dsimp := false) only [push_cast, hP, hnt, hgw, hgb, sevalprocAttr]
    refine hK _ ?_; clear hK
    refine vwp_wk (wk_nil_cell (i := (5, 0)) (k := 0) (d := 5) 38 2 (by first | (simp (dsimp := false) only [push_cast, hP, hnt, hgw, hgb, sevalprocAttr]; rfl) | (simp (dsimp := false) only [push_cast, hP, hnt, hgw, hgb, sevalprocAttr]; done)) rfl (by first | (simp (dsimp := false) only [push_cast, hP, hnt, hgw, hgb, sevalprocAttr]; done) | (simp (dsimp := false) only [push_cast, hP, hnt, hgw, hgb, sevalprocAttr]; rfl))) ?_
    simp (dsimp := false) only [push_cast, hP, hnt, hgw, hgb, sevalprocAttr]
    refine vwp_seq fun K hK => ?_
    refine vwp_seq_region rfl fun K hK => ?_
    simp (dsimp := false) only [push_cast, hP, hnt, hgw, hgb, sevalprocAttr]
    refine .inl (callE_intro (splitSeq_call gw gw.heap.size s ⟨#[44]⟩) (.inl ⟨rfl, rfl⟩) ?_)
    simp (dsimp := false) only [push_cast, hP, hnt, hgw, hgb, sevalprocAttr]
    refine hK _ ?_; clear hK
    refine vwp_block ?_
    refine vwp_rangeFunc (f := 74) (M := [(12, 0), (12, 1), (12, 2)]) (bx := [(9, [.string ⟨#[44]⟩]), (9, [.string s]), (3, [.int .i64 0])]) (xs := (piecesB s 44).map fun p => [Value.string p]) hro (by first | (simp (dsimp := false) only [push_cast, hP, hnt, hgw, hgb, sevalprocAttr]; done) | (simp (dsimp := false) only [push_cast, hP, hnt, hgw, hgb, sevalprocAttr]; rfl)) (by decide) (boxes3 (by first | (simp (dsimp := false) only [push_cast, hP, hnt, hgw, hgb, sevalprocAttr]; done) | (simp (dsimp := false) only [push_cast, hP, hnt, hgw, hgb, sevalprocAttr]; rfl)) (by first | (simp (dsimp := false) only [push_cast, hP, hnt, hgw, hgb, sevalprocAttr]; done) | (simp (dsimp := false) only [push_cast, hP, hnt, hgw, hgb, sevalprocAttr]; rfl)) (by first | (simp (dsimp := false) only [push_cast, hP, hnt, hgw, hgb, sevalprocAttr]; done) | (simp (dsimp := false) only [push_cast, hP, hnt, hgw, hgb, sevalprocAttr]; rfl))) rfl (by rw [hP, hgw, hgb]; exact (splitIter gw gw.heap.size s 44 (by omega))) (by simp [hnt]) (by intro x hx; obtain ⟨p, _, rfl⟩ := List.mem_map.1 hx; rfl) (fun k σ => ∃ (p : List (ByteArray × Int)), ((ReadAt readF (piecesB s 44) k p)) ∧ σ = St.of [(0, .one (.c (.string s))), (2, .one (.loc (3, 0) 0)), (3, .one (.loc (4, 0) 0)), (4, .one (.loc (5, 0) 0))] [((3, 0), .box 39 [.c (.slice none 0 0)]), ((4, 0), .box 45 [.c (.int .i64 0)]), ((5, 0), .box 39 [.own (6, 0)]), ((6, 0), rowPS p)] [2, 3, 4, 5]) ⟨_, ?_, [], ?_, rfl⟩ ?_ ?_
    · refine wk_conv [] [((3, 0), (3, 0)), ((4, 0), (4, 0)), ((5, 0), (5, 0)), ((6, 0), (6, 0))] (by simp) (by simp) (by decide) ?_ ?_
      · refine hf_cons (by simp (dsimp := false) only [push_cast, ↓reduceIte, Nat.reduceEqDiff, Nat.reduceAdd, reduceCtorEq] <;> rfl) (by exact ConvV.self rfl) ?_
        refine hf_cons (by simp (dsimp := false) only [push_cast, ↓reduceIte, Nat.reduceEqDiff, Nat.reduceAdd, reduceCtorEq] <;> rfl) (by exact .one (.loc (by simp))) ?_
        refine hf_cons (by simp (dsimp := false) only [push_cast, ↓reduceIte, Nat.reduceEqDiff, Nat.reduceAdd, reduceCtorEq] <;> rfl) (by exact .one (.loc (by simp))) ?_
        refine hf_cons (by simp (dsimp := false) only [push_cast, ↓reduceIte, Nat.reduceEqDiff, Nat.reduceAdd, reduceCtorEq] <;> rfl) (by exact .one (.loc (by simp))) ?_
        exact hf_nil
      · refine hh_cons (i := (3, 0)) (by simp) (by simp) (by simp (dsimp := false) only [push_cast, ↓reduceIte, Nat.reduceEqDiff, Nat.reduceAdd, reduceCtorEq] <;> rfl) (by first | (refine ConvB.free ?_; simp only [push_cast, ps_free]; done) | (refine ConvB.box ?_; repeat' (first | exact ConvVs.nil | exact ConvL.nil | refine ConvV.tup ?_ | refine ConvVs.cons ?_ ?_ | (refine ConvV.self ?_; simp only [push_cast, ps_free]; done) | refine ConvV.one ?_ | refine ConvV.agg ?_ | (refine ConvL.free ?_; simp only [push_cast, ps_free]; done) | refine ConvL.append ?_ ?_ | refine ConvL.cons ?_ ?_ | exact Conv.free rfl | exact Conv.nil | (refine Conv.own ?_; simp; done) | (refine Conv.loc ?_; simp; done) | refine Conv.frz (by simp) (by simp (dsimp := false) only [push_cast, ↓reduceIte, Nat.reduceEqDiff, Nat.reduceAdd, reduceCtorEq] <;> rfl) ?_ | refine Conv.sl (by simp) ?_ | refine Conv.fn ?_))) ?_
        refine hh_cons (i := (4, 0)) (by simp) (by simp) (by simp (dsimp := false) only [push_cast, ↓reduceIte, Nat.reduceEqDiff, Nat.reduceAdd, reduceCtorEq] <;> rfl) (by first | (refine ConvB.free ?_; simp only [push_cast, ps_free]; done) | (refine ConvB.box ?_; repeat' (first | exact ConvVs.nil | exact ConvL.nil | refine ConvV.tup ?_ | refine ConvVs.cons ?_ ?_ | (refine ConvV.self ?_; simp only [push_cast, ps_free]; done) | refine ConvV.one ?_ | refine ConvV.agg ?_ | (refine ConvL.free ?_; simp only [push_cast, ps_free]; done) | refine ConvL.append ?_ ?_ | refine ConvL.cons ?_ ?_ | exact Conv.free rfl | exact Conv.nil | (refine Conv.own ?_; simp; done) | (refine Conv.loc ?_; simp; done) | refine Conv.frz (by simp) (by simp (dsimp := false) only [push_cast, ↓reduceIte, Nat.reduceEqDiff, Nat.reduceAdd, reduceCtorEq] <;> rfl) ?_ | refine Conv.sl (by simp) ?_ | refine Conv.fn ?_))) ?_
        refine hh_cons (i := (5, 0)) (by simp) (by simp) (by simp (dsimp := false) only [push_cast, ↓reduceIte, Nat.reduceEqDiff, Nat.reduceAdd, reduceCtorEq] <;> rfl) (by first | (refine ConvB.free ?_; simp only [push_cast, ps_free]; done) | (refine ConvB.box ?_; repeat' (first | exact ConvVs.nil | exact ConvL.nil | refine ConvV.tup ?_ | refine ConvVs.cons ?_ ?_ | (refine ConvV.self ?_; simp only [push_cast, ps_free]; done) | refine ConvV.one ?_ | refine ConvV.agg ?_ | (refine ConvL.free ?_; simp only [push_cast, ps_free]; done) | refine ConvL.append ?_ ?_ | refine ConvL.cons ?_ ?_ | exact Conv.free rfl | exact Conv.nil | (refine Conv.own ?_; simp; done) | (refine Conv.loc ?_; simp; done) | refine Conv.frz (by simp) (by simp (dsimp := false) only [push_cast, ↓reduceIte, Nat.reduceEqDiff, Nat.reduceAdd, reduceCtorEq] <;> rfl) ?_ | refine Conv.sl (by simp) ?_ | refine Conv.fn ?_))) ?_
        refine hh_cons (i := (6, 0)) (by simp) (by simp) (by simp (dsimp := false) only [push_cast, ↓reduceIte, Nat.reduceEqDiff, Nat.reduceAdd, reduceCtorEq] <;> rfl) (by exact ConvB.arr (ConvL.free (ps_free []))) ?_
        exact hh_nil
    · exact readAt_init _ _
    · rintro k τ x ⟨p, hra, rfl⟩ hx C₂ hP₂ hnt₂ hgw₂ hgb₂ K hK
      obtain ⟨hlt, rfl⟩ := piece_get hx
      have hk0 : (0 : Int) ≤ (k : Int) := by omega
      have hpl := pieces_len s 44
      have hol := hra.len
      have hz3 : p.length + 1 ≤ 140737488355328 := by omega
      have hz4 : (p.length + 1) * 24 ≤ 140737488355328 := by omega
      replace hP₂ := hP₂.trans hP; replace hnt₂ := hnt₂.trans hnt; replace hgw₂ := hgw₂.trans hgw; replace hgb₂ := hgb₂.trans hgb
      refine vwp_region rfl ?_
      simp (dsimp := false) only [push_cast, hP₂, hnt₂, hgw₂, hgb₂, sevalprocAttr, rowPS, hz3, hz4, List.zip_cons_cons, List.zip_nil_left, List.zip_nil_right]
      refine hK _ fun C₃ hP₃ hnt₃ hgw₃ hgb₃ => ?_
      clear hP₂ hnt₂ hgw₂ hgb₂ hK
      have hPs := hP; have hnts := hnt; have hgws := hgw; have hgbs := hgb
      replace hP := hP₃.trans hP; replace hnt := hnt₃.trans hnt; replace hgw := hgw₃.trans hgw; replace hgb := hgb₃.trans hgb
      refine vwp_block ?_
      refine vwp_seq_region rfl fun K hK => ?_
      simp (dsimp := false) only [push_cast, hP, hnt, hgw, hgb, sevalprocAttr, rowPS, hz3, hz4]
      refine .inl (callE_intro (read_call gw hg _ (by have := pieces_size s 44 _ (atI_mem hk0 hlt); omega)) (.inl ⟨rfl, rfl⟩) ?_)
      simp (dsimp := false) only [push_cast, hP, hnt, hgw, hgb, sevalprocAttr, rowPS, hz3, hz4]
      refine hK _ ?_; clear hK
      refine vwp_seq fun K hK => ?_
      refine vwp_seq_region rfl fun K hK => ?_
      simp (dsimp := false) only [push_cast, hP, hnt, hgw, hgb, sevalprocAttr, rowPS, hz3, hz4]
      refine hK _ ?_; clear hK
      refine vwp_cond (b := _) (by simp (dsimp := false) only [push_cast, hP, hnt, hgw, hgb, sevalprocAttr, rowPS, hz3, hz4]; rfl) (fun rb1 => ?_) (fun rb1 => ?_)
      · have hb1 := rb1
        try simp only [beq_iff_eq, bne_iff_ne, ne_eq, bne_eq_false_iff_eq, beq_eq_false_iff_ne, decide_eq_true_eq, decide_eq_false_iff_not, Bool.not_eq_true', Bool.not_eq_false', Bool.or_eq_true, Bool.and_eq_true, Bool.or_eq_false_iff, Bool.and_eq_false_iff] at hb1
        refine vwp_seq_region rfl fun K hK => ?_
        simp (dsimp := false) only [push_cast, hP, hnt, hgw, hgb, sevalprocAttr, rowPS, hz3, hz4]
        refine hK _ ?_; clear hK
        refine vwp_ret ?_
        refine ⟨_, wk_convG (fr := [(2, .one (.loc (3, 0) 0)), (3, .one (.loc (4, 0) 0))]) (H := [((3, 0), .box 39 [.c (.slice none 0 0)]), ((4, 0), .box 45 [.c (.int .i64 12)])]) (u := [2, 3]) [] [((3, 0), (3, 0)), ((4, 0), (4, 0))] (by simp) (by simp) (by decide) ?_ ?_, ?_⟩
        · refine hg_cons (by simp (dsimp := false) only [push_cast, ↓reduceIte, Nat.reduceEqDiff, Nat.reduceAdd, reduceCtorEq, rowPS, hz3, hz4] <;> rfl) (by exact .one (.loc (by simp))) ?_
          refine hg_cons (by simp (dsimp := false) only [push_cast, ↓reduceIte, Nat.reduceEqDiff, Nat.reduceAdd, reduceCtorEq, rowPS, hz3, hz4] <;> rfl) (by exact .one (.loc (by simp))) ?_
          exact hf_nil
        · refine hh_cons (i := (3, 0)) (by simp) (by simp) (by simp (dsimp := false) only [push_cast, ↓reduceIte, Nat.reduceEqDiff, Nat.reduceAdd, reduceCtorEq, rowPS, hz3, hz4] <;> rfl) (by first | (refine ConvB.free ?_; simp only [push_cast, ps_free]; done) | (refine ConvB.box ?_; repeat' (first | exact ConvVs.nil | exact ConvL.nil | refine ConvV.tup ?_ | refine ConvVs.cons ?_ ?_ | (refine ConvV.self ?_; simp only [push_cast, ps_free]; done) | refine ConvV.one ?_ | refine ConvV.agg ?_ | (refine ConvL.free ?_; simp only [push_cast, ps_free]; done) | refine ConvL.append ?_ ?_ | refine ConvL.cons ?_ ?_ | exact Conv.free rfl | exact Conv.nil | (refine Conv.own ?_; simp; done) | (refine Conv.loc ?_; simp; done) | refine Conv.frz (by simp) (by simp (dsimp := false) only [push_cast, ↓reduceIte, Nat.reduceEqDiff, Nat.reduceAdd, reduceCtorEq, rowPS, hz3, hz4] <;> rfl) ?_ | refine Conv.sl (by simp) ?_ | refine Conv.fn ?_))) ?_
          refine hh_cons (i := (4, 0)) (by simp) (by simp) (by simp (dsimp := false) only [push_cast, ↓reduceIte, Nat.reduceEqDiff, Nat.reduceAdd, reduceCtorEq, rowPS, hz3, hz4] <;> rfl) (by first | (refine ConvB.free ?_; simp only [push_cast, ps_free]; done) | (refine ConvB.box ?_; repeat' (first | exact ConvVs.nil | exact ConvL.nil | refine ConvV.tup ?_ | refine ConvVs.cons ?_ ?_ | (refine ConvV.self ?_; simp only [push_cast, ps_free]; done) | refine ConvV.one ?_ | refine ConvV.agg ?_ | (refine ConvL.free ?_; simp only [push_cast, ps_free]; done) | refine ConvL.append ?_ ?_ | refine ConvL.cons ?_ ?_ | exact Conv.free rfl | exact Conv.nil | (refine Conv.own ?_; simp; done) | (refine Conv.loc ?_; simp; done) | refine Conv.frz (by simp) (by simp (dsimp := false) only [push_cast, ↓reduceIte, Nat.reduceEqDiff, Nat.reduceAdd, reduceCtorEq, rowPS, hz3, hz4] <;> rfl) ?_ | refine Conv.sl (by simp) ?_ | refine Conv.fn ?_))) ?_
          exact hh_nil
        simp only [unround, blockQ, thenQ]
        refine ret_conv [] [] (by simp (dsimp := false) only [push_cast, hP, hnt, hgw, hgb, sevalprocAttr, rowPS, hz3, hz4]; rfl) (by simp) (by simp) (by first | decide | simp) ?_ ?_
        · simp only [pack]
          rw [show readPassF s = ([], 12) from readPass_stop (by simpa using hb0) (readAt_stop hk0 hlt hra (by simpa using hb1))]
          repeat' (first | exact ConvVs.nil | exact ConvL.nil | refine ConvV.tup ?_ | refine ConvVs.cons ?_ ?_ | (refine ConvV.self ?_; simp only [push_cast, ps_free]; done) | refine ConvV.one ?_ | refine ConvV.agg ?_ | (refine ConvL.free ?_; simp only [push_cast, ps_free]; done) | refine ConvL.append ?_ ?_ | refine ConvL.cons ?_ ?_ | exact Conv.free rfl | exact Conv.nil | (refine Conv.own ?_; simp; done) | (refine Conv.loc ?_; simp; done) | refine Conv.frz (by simp) (by simp (dsimp := false) only [push_cast, ↓reduceIte, Nat.reduceEqDiff, Nat.reduceAdd, reduceCtorEq, rowPS, hz3, hz4] <;> rfl) ?_ | refine Conv.sl (by simp) ?_ | refine Conv.fn ?_)
        · exact rb_nil
      · have hb1 := rb1
        try simp only [beq_iff_eq, bne_iff_ne, ne_eq, bne_eq_false_iff_eq, beq_eq_false_iff_ne, decide_eq_true_eq, decide_eq_false_iff_not, Bool.not_eq_true', Bool.not_eq_false', Bool.or_eq_true, Bool.and_eq_true, Bool.or_eq_false_iff, Bool.and_eq_false_iff] at hb1
        refine vwp_skip ?_
        apply_assumption
        refine vwp_region rfl ?_
        simp (dsimp := false) only [push_cast, hP, hnt, hgw, hgb, sevalprocAttr, rowPS, hz3, hz4]
        refine ⟨_, wk_convG (fr := [(0, .one (.c (.string s))), (2, .one (.loc (3, 0) 0)), (3, .one (.loc (4, 0) 0)), (4, .one (.loc (5, 0) 0))]) (H := [((3, 0), .box 39 [.c (.slice none 0 0)]), ((4, 0), .box 45 [.c (.int .i64 0)]), ((5, 0), .box 39 [.own (6, 0)]), ((6, 0), rowPS (p ++ [((readF (atI (piecesB s 44) k)).1, (readF (atI (piecesB s 44) k)).2.1)]))]) (u := [2, 3, 4, 5]) [] [((3, 0), (3, 0)), ((4, 0), (4, 0)), ((5, 0), (5, 0)), ((24, 0), (6, 0))] (by simp) (by simp) (by decide) ?_ ?_, ?_⟩
        · refine hg_cons (by simp (dsimp := false) only [push_cast, ↓reduceIte, Nat.reduceEqDiff, Nat.reduceAdd, reduceCtorEq, rowPS, hz3, hz4] <;> rfl) (by exact ConvV.self rfl) ?_
          refine hg_cons (by simp (dsimp := false) only [push_cast, ↓reduceIte, Nat.reduceEqDiff, Nat.reduceAdd, reduceCtorEq, rowPS, hz3, hz4] <;> rfl) (by exact .one (.loc (by simp))) ?_
          refine hg_cons (by simp (dsimp := false) only [push_cast, ↓reduceIte, Nat.reduceEqDiff, Nat.reduceAdd, reduceCtorEq, rowPS, hz3, hz4] <;> rfl) (by exact .one (.loc (by simp))) ?_
          refine hg_cons (by simp (dsimp := false) only [push_cast, ↓reduceIte, Nat.reduceEqDiff, Nat.reduceAdd, reduceCtorEq, rowPS, hz3, hz4] <;> rfl) (by exact .one (.loc (by simp))) ?_
          exact hf_nil
        · refine hh_cons (i := (3, 0)) (by simp) (by simp) (by simp (dsimp := false) only [push_cast, ↓reduceIte, Nat.reduceEqDiff, Nat.reduceAdd, reduceCtorEq, rowPS, hz3, hz4] <;> rfl) (by first | (refine ConvB.free ?_; simp only [push_cast, ps_free]; done) | (refine ConvB.box ?_; repeat' (first | exact ConvVs.nil | exact ConvL.nil | refine ConvV.tup ?_ | refine ConvVs.cons ?_ ?_ | (refine ConvV.self ?_; simp only [push_cast, ps_free]; done) | refine ConvV.one ?_ | refine ConvV.agg ?_ | (refine ConvL.free ?_; simp only [push_cast, ps_free]; done) | refine ConvL.append ?_ ?_ | refine ConvL.cons ?_ ?_ | exact Conv.free rfl | exact Conv.nil | (refine Conv.own ?_; simp; done) | (refine Conv.loc ?_; simp; done) | refine Conv.frz (by simp) (by simp (dsimp := false) only [push_cast, ↓reduceIte, Nat.reduceEqDiff, Nat.reduceAdd, reduceCtorEq, rowPS, hz3, hz4] <;> rfl) ?_ | refine Conv.sl (by simp) ?_ | refine Conv.fn ?_))) ?_
          refine hh_cons (i := (4, 0)) (by simp) (by simp) (by simp (dsimp := false) only [push_cast, ↓reduceIte, Nat.reduceEqDiff, Nat.reduceAdd, reduceCtorEq, rowPS, hz3, hz4] <;> rfl) (by first | (refine ConvB.free ?_; simp only [push_cast, ps_free]; done) | (refine ConvB.box ?_; repeat' (first | exact ConvVs.nil | exact ConvL.nil | refine ConvV.tup ?_ | refine ConvVs.cons ?_ ?_ | (refine ConvV.self ?_; simp only [push_cast, ps_free]; done) | refine ConvV.one ?_ | refine ConvV.agg ?_ | (refine ConvL.free ?_; simp only [push_cast, ps_free]; done) | refine ConvL.append ?_ ?_ | refine ConvL.cons ?_ ?_ | exact Conv.free rfl | exact Conv.nil | (refine Conv.own ?_; simp; done) | (refine Conv.loc ?_; simp; done) | refine Conv.frz (by simp) (by simp (dsimp := false) only [push_cast, ↓reduceIte, Nat.reduceEqDiff, Nat.reduceAdd, reduceCtorEq, rowPS, hz3, hz4] <;> rfl) ?_ | refine Conv.sl (by simp) ?_ | refine Conv.fn ?_))) ?_
          refine hh_cons (i := (5, 0)) (by simp) (by simp) (by simp (dsimp := false) only [push_cast, ↓reduceIte, Nat.reduceEqDiff, Nat.reduceAdd, reduceCtorEq, rowPS, hz3, hz4] <;> rfl) (by first | (refine ConvB.free ?_; simp only [push_cast, ps_free]; done) | (refine ConvB.box ?_; repeat' (first | exact ConvVs.nil | exact ConvL.nil | refine ConvV.tup ?_ | refine ConvVs.cons ?_ ?_ | (refine ConvV.self ?_; simp only [push_cast, ps_free]; done) | refine ConvV.one ?_ | refine ConvV.agg ?_ | (refine ConvL.free ?_; simp only [push_cast, ps_free]; done) | refine ConvL.append ?_ ?_ | refine ConvL.cons ?_ ?_ | exact Conv.free rfl | exact Conv.nil | (refine Conv.own ?_; simp; done) | (refine Conv.loc ?_; simp; done) | refine Conv.frz (by simp) (by simp (dsimp := false) only [push_cast, ↓reduceIte, Nat.reduceEqDiff, Nat.reduceAdd, reduceCtorEq, rowPS, hz3, hz4] <;> rfl) ?_ | refine Conv.sl (by simp) ?_ | refine Conv.fn ?_))) ?_
          refine hh_cons (i := (24, 0)) (by simp) (by simp) (by simp (dsimp := false) only [push_cast, ↓reduceIte, Nat.reduceEqDiff, Nat.reduceAdd, reduceCtorEq, rowPS, hz3, hz4] <;> rfl) (by simp only [rowPS, ps_snoc, List.length_append]; exact ConvB.arr (ConvL.free (by rw [frees_append, ps_free]; rfl))) ?_
          exact hh_nil
        exact ⟨p ++ [((readF (atI (piecesB s 44) k)).1, (readF (atI (piecesB s 44) k)).2.1)], by have := readAt_next hk0 hlt hra (by simpa using hb1); simpa using this, rfl⟩
    · rintro τ ⟨p, hra, rfl⟩
      have hraE : readsG readF (piecesB s 44) = some p := readAt_end (by simp) hra
      simp only [blockQ]
      apply_assumption
      refine vwp_seq fun K hK => ?_
      refine vwp_seq_region rfl fun K hK => ?_
      simp (dsimp := false) only [push_cast, hP, hnt, hgw, hgb, sevalprocAttr, rowPS]
      refine .inl (callE_intro (checks_call gw gw.heap.size p) (.inl ⟨rfl, rfl⟩) ?_)
      simp (dsimp := false) only [push_cast, hP, hnt, hgw, hgb, sevalprocAttr, rowPS]
      refine hK _ ?_; clear hK
      refine vwp_cond (b := _) (by simp (dsimp := false) only [push_cast, hP, hnt, hgw, hgb, sevalprocAttr, rowPS]; rfl) (fun rb2 => ?_) (fun rb2 => ?_)
      · have hb2 := rb2
        try simp only [beq_iff_eq, bne_iff_ne, ne_eq, bne_eq_false_iff_eq, beq_eq_false_iff_ne, decide_eq_true_eq, decide_eq_false_iff_not, Bool.not_eq_true', Bool.not_eq_false', Bool.or_eq_true, Bool.and_eq_true, Bool.or_eq_false_iff, Bool.and_eq_false_iff] at hb2
        refine vwp_seq_region rfl fun K hK => ?_
        simp (dsimp := false) only [push_cast, hP, hnt, hgw, hgb, sevalprocAttr, rowPS]
        refine hK _ ?_; clear hK
        refine vwp_ret ?_
        refine ret_conv [] [] (by simp (dsimp := false) only [push_cast, hP, hnt, hgw, hgb, sevalprocAttr, rowPS]; rfl) (by simp) (by simp) (by first | decide | simp) ?_ ?_
        · simp only [pack]
          rw [show readPassF s = ([], 12) from readPass_bad (by simpa using hb0) hraE (by simpa using hb2)]
          repeat' (first | exact ConvVs.nil | exact ConvL.nil | refine ConvV.tup ?_ | refine ConvVs.cons ?_ ?_ | (refine ConvV.self ?_; simp only [push_cast, ps_free]; done) | refine ConvV.one ?_ | refine ConvV.agg ?_ | (refine ConvL.free ?_; simp only [push_cast, ps_free]; done) | refine ConvL.append ?_ ?_ | refine ConvL.cons ?_ ?_ | exact Conv.free rfl | exact Conv.nil | (refine Conv.own ?_; simp; done) | (refine Conv.loc ?_; simp; done) | refine Conv.frz (by simp) (by simp (dsimp := false) only [push_cast, ↓reduceIte, Nat.reduceEqDiff, Nat.reduceAdd, reduceCtorEq, rowPS] <;> rfl) ?_ | refine Conv.sl (by simp) ?_ | refine Conv.fn ?_)
        · exact rb_nil
      · have hb2 := rb2
        try simp only [beq_iff_eq, bne_iff_ne, ne_eq, bne_eq_false_iff_eq, beq_eq_false_iff_ne, decide_eq_true_eq, decide_eq_false_iff_not, Bool.not_eq_true', Bool.not_eq_false', Bool.or_eq_true, Bool.and_eq_true, Bool.or_eq_false_iff, Bool.and_eq_false_iff] at hb2
        refine vwp_skip ?_
        apply_assumption
        refine vwp_seq_region rfl fun K hK => ?_
        simp (dsimp := false) only [push_cast, hP, hnt, hgw, hgb, sevalprocAttr, rowPS]
        refine hK _ ?_; clear hK
        refine vwp_ret ?_
        refine ret_conv [(6, 0)] [] (by simp (dsimp := false) only [push_cast, hP, hnt, hgw, hgb, sevalprocAttr, rowPS]; rfl) (by simp) (by simp) (by first | decide | simp) ?_ ?_
        · simp only [pack]
          rw [show readPassF s = (p, 0) from readPass_ok (by simpa using hb0) hraE (by simpa using hb2)]
          repeat' (first | exact ConvVs.nil | exact ConvL.nil | refine ConvV.tup ?_ | refine ConvVs.cons ?_ ?_ | (refine ConvV.self ?_; simp only [push_cast, ps_free]; done) | refine ConvV.one ?_ | refine ConvV.agg ?_ | (refine ConvL.free ?_; simp only [push_cast, ps_free]; done) | refine ConvL.append ?_ ?_ | refine ConvL.cons ?_ ?_ | exact Conv.free rfl | exact Conv.nil | (refine Conv.own ?_; simp; done) | (refine Conv.loc ?_; simp; done) | refine Conv.frz (by simp) (by simp (dsimp := false) only [push_cast, ↓reduceIte, Nat.reduceEqDiff, Nat.reduceAdd, reduceCtorEq, rowPS] <;> rfl) ?_ | refine Conv.sl (by simp) ?_ | refine Conv.fn ?_)
        · exact rb_nil
end Go.Vm
end

section
namespace Go.Vm
open Go Go.RowKit Go.Proofs
set_option maxRecDepth 100000
set_option linter.unusedSimpArgs false
set_option linter.unusedVariables false
set_option maxHeartbeats 4000000

def engSA (x : Eng) : ByteArray := (if x.pdr = true then ⟨#[112, 100, 114, 32]⟩ else ⟨#[98, 109, 99, 32]⟩) ++ digA x.num ++ ⟨#[32]⟩ ++ digA x.bud
theorem digA_pos {n : Int} (h : 0 ≤ n) : digA n = digB n := if_pos h
theorem engSA_eq {x : Eng} (h : engP x) : engSA x = engT x := by
  rw [← engS_eq h]
  unfold engSA engS
  rw [digA_pos h.1, digA_pos (eng_num h).1]; rfl
structure EngB (x : Eng) : Prop where
  num : x.num ≤ 1000000000000
  bud : x.bud ≤ 1000000000000
theorem toList_eq {a b : ByteArray} (h : a.toList = b.toList) : a = b := bytes_ext h
def PR (s : ByteArray) : List ByteArray := piecesB s 32
def readEngR (s : ByteArray) : Eng × Int :=
  if (PR s).length ≠ 3 then (engZ, 12)
  else if engE (engOf numR (PR s)) ≠ 0 ∨ (engSA (engOf numR (PR s))).toList ≠ s.toList then (engZ, 12) else (engOf numR (PR s), 0)
theorem readEngR_ok {s : ByteArray} (h : ((PR s).length : Int) = 3) (h2 : ¬ (engE (engOf numR (PR s)) ≠ 0 ∨ (engSA (engOf numR (PR s))).toList ≠ s.toList)) : readEngR s = (engOf numR (PR s), 0) := by
  unfold readEngR; rw [if_neg (by omega), if_neg h2]
theorem samePasses_call (gw : World) (gb : Nat) (a b : List (ByteArray × Int)) (ha : a.length ≤ 1000000) : VCall Tryz.prog gw (gb) 23 [.one (.sl false a.length (a.flatMap fun p => [.c (.string p.1), .c (.int .i64 p.2)])), .one (.sl false b.length (b.flatMap fun p => [.c (.string p.1), .c (.int .i64 p.2)]))] (.one (.c (.bool (decide (a = b))))) [] := by
  refine vcall_of [.tmp 4] Tryz.func23 rfl rfl Tryz.ntmps23 rfl (by simp) ?_
  intro C hP hnt hgw hgb hfull
  refine vwp_seq_region rfl fun K hK => ?_
  simp (dsimp := false) only [push_cast, hP, hnt, hgw, hgb, Nat.reduceLT, Nat.reduceEqDiff, Nat.reduceAdd, Nat.reduceSub, Nat.reduceMul, Nat.reduceLeDiff, ↓reduceIte, reduceCtorEq]
  refine hK _ ?_; clear hK
  refine vwp_seq fun K hK => ?_
  refine vwp_seq_region rfl fun K hK => ?_
  simp (dsimp := false) only [push_cast, hP, hnt, hgw, hgb, Nat.reduceLT, Nat.reduceEqDiff, Nat.reduceAdd, Nat.reduceSub, Nat.reduceMul, Nat.reduceLeDiff, ↓reduceIte, reduceCtorEq]
  refine hK _ ?_; clear hK
  refine vwp_cond (b := _) (by simp (dsimp := false) only [push_cast, hP, hnt, hgw, hgb, Nat.reduceLT, Nat.reduceEqDiff, Nat.reduceAdd, Nat.reduceSub, Nat.reduceMul, Nat.reduceLeDiff, ↓reduceIte, reduceCtorEq]; rfl) (fun rb0 => ?_) (fun rb0 => ?_)
  · have hb0 := rb0
    try simp only [beq_iff_eq, bne_iff_ne, ne_eq, bne_eq_false_iff_eq, beq_eq_false_iff_ne, decide_eq_true_eq, decide_eq_false_iff_not, Bool.not_eq_true', Bool.not_eq_false', Bool.or_eq_true, Bool.and_eq_true, Bool.or_eq_false_iff, Bool.and_eq_false_iff] at hb0
    refine vwp_seq_region rfl fun K hK => ?_
    simp (dsimp := false) only [push_cast, hP, hnt, hgw, hgb, Nat.reduceLT, Nat.reduceEqDiff, Nat.reduceAdd, Nat.reduceSub, Nat.reduceMul, Nat.reduceLeDiff, ↓reduceIte, reduceCtorEq]
    refine hK _ ?_; clear hK
    refine vwp_ret ?_
    refine ret_free (by simp (dsimp := false) only [push_cast, hP, hnt, hgw, hgb, Nat.reduceLT, Nat.reduceEqDiff, Nat.reduceAdd, Nat.reduceSub, Nat.reduceMul, Nat.reduceLeDiff, ↓reduceIte, reduceCtorEq]; rfl) (by simp (dsimp := false) only [push_cast, hP, hnt, hgw, hgb, Nat.reduceLT, Nat.reduceEqDiff, Nat.reduceAdd, Nat.reduceSub, Nat.reduceMul, Nat.reduceLeDiff, ↓reduceIte, reduceCtorEq]) ?_
    rw [decide_eq_false (same_len hb0)]; rfl
  · have hb0 := rb0
    try simp only [beq_iff_eq, bne_iff_ne, ne_eq, bne_eq_false_iff_eq, beq_eq_false_iff_ne, decide_eq_true_eq, decide_eq_false_iff_not, Bool.not_eq_true', Bool.not_eq_false', Bool.or_eq_true, Bool.and_eq_true, Bool.or_eq_false_iff, Bool.and_eq_false_iff] at hb0
    refine vwp_skip ?_
    apply_assumption
    refine vwp_seq fun K hK => ?_
    refine vwp_seq_region rfl fun K hK => ?_
    simp (dsimp := false) only [push_cast, hP, hnt, hgw, hgb, Nat.reduceLT, Nat.reduceEqDiff, Nat.reduceAdd, Nat.reduceSub, Nat.reduceMul, Nat.reduceLeDiff, ↓reduceIte, reduceCtorEq]
    refine hK _ ?_; clear hK
    refine vwp_block ?_
    refine vwp_loop (fun m σ => ∃ (i : Int), m = (a.length - i).toNat ∧ ((0 ≤ i) ∧ (i ≤ a.length) ∧ (a.length = b.length) ∧ (a.take i.toNat = b.take i.toNat)) ∧ σ = St.of [(0, .one (.sl false a.length (a.flatMap fun p => [.c (.string p.1), .c (.int .i64 p.2)]))), (1, .one (.sl false b.length (b.flatMap fun p => [.c (.string p.1), .c (.int .i64 p.2)]))), (5, .one (.c (.int .i64 i)))] [] []) _ ⟨_, ?_, 0, rfl, ?_, rfl⟩ ?_
    · refine wk_conv [] [] (by simp) (by simp) (by decide) ?_ ?_
      · refine hf_cons (by simp (dsimp := false) only [push_cast, ↓reduceIte, Nat.reduceEqDiff, Nat.reduceAdd, reduceCtorEq] <;> rfl) (by repeat' (first | exact ConvVs.nil | exact ConvL.nil | refine ConvV.tup ?_ | refine ConvVs.cons ?_ ?_ | (refine ConvV.self ?_; simp only [push_cast]; done) | refine ConvV.one ?_ | refine ConvV.agg ?_ | (refine ConvL.free ?_; simp only [push_cast]; done) | refine ConvL.append ?_ ?_ | refine ConvL.cons ?_ ?_ | exact Conv.free rfl | exact Conv.nil | (refine Conv.own ?_; simp; done) | (refine Conv.loc ?_; simp; done) | refine Conv.frz (by simp) (by simp (dsimp := false) only [push_cast, ↓reduceIte, Nat.reduceEqDiff, Nat.reduceAdd, reduceCtorEq] <;> rfl) ?_ | refine Conv.sl (by simp) ?_ | refine Conv.fn ?_)) ?_
        refine hf_cons (by simp (dsimp := false) only [push_cast, ↓reduceIte, Nat.reduceEqDiff, Nat.reduceAdd, reduceCtorEq] <;> rfl) (by repeat' (first | exact ConvVs.nil | exact ConvL.nil | refine ConvV.tup ?_ | refine ConvVs.cons ?_ ?_ | (refine ConvV.self ?_; simp only [push_cast]; done) | refine ConvV.one ?_ | refine ConvV.agg ?_ | (refine ConvL.free ?_; simp only [push_cast]; done) | refine ConvL.append ?_ ?_ | refine ConvL.cons ?_ ?_ | exact Conv.free rfl | exact Conv.nil | (refine Conv.own ?_; simp; done) | (refine Conv.loc ?_; simp; done) | refine Conv.frz (by simp) (by simp (dsimp := false) only [push_cast, ↓reduceIte, Nat.reduceEqDiff, Nat.reduceAdd, reduceCtorEq] <;> rfl) ?_ | refine Conv.sl (by simp) ?_ | refine Conv.fn ?_)) ?_
        refine hf_cons (by simp (dsimp := false) only [push_cast, ↓reduceIte, Nat.reduceEqDiff, Nat.reduceAdd, reduceCtorEq] <;> rfl) (by exact ConvV.self rfl) ?_
        exact hf_nil
      · exact hh_nil
    · exact ⟨by omega, by omega, by omega, rfl⟩
    · rintro m τ ⟨i, hm, ⟨hi0, hi1, hl, ht⟩, rfl⟩ K hL0
      have hw := fun h : i < (a.length : Int) => wrap_next hi0 h (by omega)
      have hda := fun h : i < (a.length : Int) => dropI_two (l := a) (fun p : ByteArray × Int => PC.c (Value.string p.1)) (fun p : ByteArray × Int => PC.c (Value.int .i64 p.2)) hi0 h
      have hdb := fun h : i < (b.length : Int) => dropI_two (l := b) (fun p : ByteArray × Int => PC.c (Value.string p.1)) (fun p : ByteArray × Int => PC.c (Value.int .i64 p.2)) hi0 h
      refine vwp_seq fun K hK => ?_
      refine vwp_seq_region rfl fun K hK => ?_
      simp (dsimp := false) only [push_cast, hP, hnt, hgw, hgb, Nat.reduceLT, Nat.reduceEqDiff, Nat.reduceAdd, Nat.reduceSub, Nat.reduceMul, Nat.reduceLeDiff, ↓reduceIte, reduceCtorEq, hi0]
      refine hK _ ?_; clear hK
      refine vwp_cond (b := _) (by simp (dsimp := false) only [push_cast, hP, hnt, hgw, hgb, Nat.reduceLT, Nat.reduceEqDiff, Nat.reduceAdd, Nat.reduceSub, Nat.reduceMul, Nat.reduceLeDiff, ↓reduceIte, reduceCtorEq, hi0]; rfl) (fun rb1 => ?_) (fun rb1 => ?_)
      · have hb1 := rb1
        try simp only [beq_iff_eq, bne_iff_ne, ne_eq, bne_eq_false_iff_eq, beq_eq_false_iff_ne, decide_eq_true_eq, decide_eq_false_iff_not, Bool.not_eq_true', Bool.not_eq_false', Bool.or_eq_true, Bool.and_eq_true, Bool.or_eq_false_iff, Bool.and_eq_false_iff] at hb1
        have hw := hw hb1
        have hda := hda hb1
        have hbb : i < (b.length : Int) := by omega
        have hdb := hdb hbb
        refine vwp_skip ?_
        apply_assumption
        refine vwp_seq fun K hK => ?_
        refine vwp_block ?_
        refine vwp_seq_anyF [[], [], [0, 1], [0, 1, 2], [], [], [4, 5], [4, 5, 6], [0, 1, 2, 3, 4, 5, 6, 7]] [([(17, .dead), (18, .dead), (19, .old), (20, .old), (21, .dead), (22, .dead), (23, .dead), (24, .dead), (25, .old)], [18, 19, 20, 21, 22, 23, 24, 25], []), ([(17, .dead), (18, .dead), (19, .old), (20, .old), (21, .dead), (22, .dead), (23, .dead), (24, .dead), (25, .old)], [17, 19, 20, 21, 22, 23, 24, 25], []), ([(17, .dep 1), (18, .dep 0), (19, .dead), (20, .old), (21, .dead), (22, .dead), (23, .dead), (24, .dead), (25, .old)], [20, 21, 22, 23, 24, 25], [1, 0]), ([(17, .dep 2), (18, .dep 1), (19, .dep 0), (20, .dead), (21, .dead), (22, .dead), (23, .dead), (24, .dead), (25, .old)], [21, 22, 23, 24, 25], [2, 1, 0]), ([(17, .dead), (18, .dead), (19, .dead), (20, .dead), (21, .dead), (22, .dead), (23, .old), (24, .old), (25, .old)], [17, 18, 19, 20, 22, 23, 24, 25], []), ([(17, .dead), (18, .dead), (19, .dead), (20, .dead), (21, .dead), (22, .dead), (23, .old), (24, .old), (25, .old)], [17, 18, 19, 20, 21, 23, 24, 25], []), ([(17, .dead), (18, .dead), (19, .dead), (20, .dead), (21, .dep 1), (22, .dep 0), (23, .dead), (24, .old), (25, .old)], [17, 18, 19, 20, 24, 25], [1, 0]), ([(17, .dead), (18, .dead), (19, .dead), (20, .dead), (21, .dep 2), (22, .dep 1), (23, .dep 0), (24, .dead), (25, .old)], [17, 18, 19, 20, 25], [2, 1, 0]), ([(17, .dep 7), (18, .dep 6), (19, .dep 5), (20, .dep 4), (21, .dep 3), (22, .dep 2), (23, .dep 1), (24, .dep 0), (25, .dead)], [], [7, 6, 5, 4, 3, 2, 1, 0])] (by rw [hP]; exact mixed) rfl rfl rfl fun K hK => ?_
        simp (dsimp := false) only [push_cast, hP, hnt, hgw, hgb, Nat.reduceLT, Nat.reduceEqDiff, Nat.reduceAdd, Nat.reduceSub, Nat.reduceMul, Nat.reduceLeDiff, ↓reduceIte, reduceCtorEq, hi0, hw, hda, hdb, hb1, hbb, Nat.reduceBNe, Nat.reduceBEq]
        refine ⟨rfl, ?_⟩
        refine hK _ ?_; clear hK
        refine vwp_cond (b := _) (by simp (dsimp := false) only [push_cast, hP, hnt, hgw, hgb, Nat.reduceLT, Nat.reduceEqDiff, Nat.reduceAdd, Nat.reduceSub, Nat.reduceMul, Nat.reduceLeDiff, ↓reduceIte, reduceCtorEq, hi0, hw, hda, hdb, hb1, hbb]; rfl) (fun rb2 => ?_) (fun rb2 => ?_)
        · have hb2 := rb2
          try simp only [beq_iff_eq, bne_iff_ne, ne_eq, bne_eq_false_iff_eq, beq_eq_false_iff_ne, decide_eq_true_eq, decide_eq_false_iff_not, Bool.not_eq_true', Bool.not_eq_false', Bool.or_eq_true, Bool.and_eq_true, Bool.or_eq_false_iff, Bool.and_eq_false_iff] at hb2
          refine vwp_seq_region rfl fun K hK => ?_
          simp (dsimp := false) only [push_cast, hP, hnt, hgw, hgb, Nat.reduceLT, Nat.reduceEqDiff, Nat.reduceAdd, Nat.reduceSub, Nat.reduceMul, Nat.reduceLeDiff, ↓reduceIte, reduceCtorEq, hi0, hw, hda, hdb, hb1, hbb]
          refine hK _ ?_; clear hK
          refine vwp_ret ?_
          refine ret_free (by simp (dsimp := false) only [push_cast, hP, hnt, hgw, hgb, Nat.reduceLT, Nat.reduceEqDiff, Nat.reduceAdd, Nat.reduceSub, Nat.reduceMul, Nat.reduceLeDiff, ↓reduceIte, reduceCtorEq, hi0, hw, hda, hdb, hb1, hbb]; rfl) (by simp (dsimp := false) only [push_cast, hP, hnt, hgw, hgb, Nat.reduceLT, Nat.reduceEqDiff, Nat.reduceAdd, Nat.reduceSub, Nat.reduceMul, Nat.reduceLeDiff, ↓reduceIte, reduceCtorEq, hi0, hw, hda, hdb, hb1, hbb]) ?_
          rw [decide_eq_false (same_stop (i := i) (fun e => by rw [e] at hb2; simp at hb2))]; rfl
        · have hb2 := rb2
          try simp only [beq_iff_eq, bne_iff_ne, ne_eq, bne_eq_false_iff_eq, beq_eq_false_iff_ne, decide_eq_true_eq, decide_eq_false_iff_not, Bool.not_eq_true', Bool.not_eq_false', Bool.or_eq_true, Bool.and_eq_true, Bool.or_eq_false_iff, Bool.and_eq_false_iff] at hb2
          refine vwp_skip ?_
          apply_assumption
          refine vwp_region rfl ?_
          simp (dsimp := false) only [push_cast, hP, hnt, hgw, hgb, Nat.reduceLT, Nat.reduceEqDiff, Nat.reduceAdd, Nat.reduceSub, Nat.reduceMul, Nat.reduceLeDiff, ↓reduceIte, reduceCtorEq, hi0, hw, hda, hdb, hb1, hbb]
          refine hL0 _ _ _ ?_ ?_ ⟨i + 1, rfl, ?_, rfl⟩
          · omega
          · refine wk_conv [] [] (by simp) (by simp) (by decide) ?_ ?_
            · refine hf_cons (by simp (dsimp := false) only [push_cast, ↓reduceIte, Nat.reduceEqDiff, Nat.reduceAdd, reduceCtorEq, hi0, hw, hda, hdb, hb1, hbb] <;> rfl) (by repeat' (first | exact ConvVs.nil | exact ConvL.nil | refine ConvV.tup ?_ | refine ConvVs.cons ?_ ?_ | (refine ConvV.self ?_; simp only [push_cast]; done) | refine ConvV.one ?_ | refine ConvV.agg ?_ | (refine ConvL.free ?_; simp only [push_cast]; done) | refine ConvL.append ?_ ?_ | refine ConvL.cons ?_ ?_ | exact Conv.free rfl | exact Conv.nil | (refine Conv.own ?_; simp; done) | (refine Conv.loc ?_; simp; done) | refine Conv.frz (by simp) (by simp (dsimp := false) only [push_cast, ↓reduceIte, Nat.reduceEqDiff, Nat.reduceAdd, reduceCtorEq, hi0, hw, hda, hdb, hb1, hbb] <;> rfl) ?_ | refine Conv.sl (by simp) ?_ | refine Conv.fn ?_)) ?_
              refine hf_cons (by simp (dsimp := false) only [push_cast, ↓reduceIte, Nat.reduceEqDiff, Nat.reduceAdd, reduceCtorEq, hi0, hw, hda, hdb, hb1, hbb] <;> rfl) (by repeat' (first | exact ConvVs.nil | exact ConvL.nil | refine ConvV.tup ?_ | refine ConvVs.cons ?_ ?_ | (refine ConvV.self ?_; simp only [push_cast]; done) | refine ConvV.one ?_ | refine ConvV.agg ?_ | (refine ConvL.free ?_; simp only [push_cast]; done) | refine ConvL.append ?_ ?_ | refine ConvL.cons ?_ ?_ | exact Conv.free rfl | exact Conv.nil | (refine Conv.own ?_; simp; done) | (refine Conv.loc ?_; simp; done) | refine Conv.frz (by simp) (by simp (dsimp := false) only [push_cast, ↓reduceIte, Nat.reduceEqDiff, Nat.reduceAdd, reduceCtorEq, hi0, hw, hda, hdb, hb1, hbb] <;> rfl) ?_ | refine Conv.sl (by simp) ?_ | refine Conv.fn ?_)) ?_
              refine hf_cons (by simp (dsimp := false) only [push_cast, ↓reduceIte, Nat.reduceEqDiff, Nat.reduceAdd, reduceCtorEq, hi0, hw, hda, hdb, hb1, hbb] <;> rfl) (by exact ConvV.self rfl) ?_
              exact hf_nil
            · exact hh_nil
          · exact ⟨by omega, by omega, hl, same_next hi0 hb1 hl ht (Prod.ext (toList_eq (by simpa using hb2.1)) (by simpa using hb2.2))⟩
      · have hb1 := rb1
        try simp only [beq_iff_eq, bne_iff_ne, ne_eq, bne_eq_false_iff_eq, beq_eq_false_iff_ne, decide_eq_true_eq, decide_eq_false_iff_not, Bool.not_eq_true', Bool.not_eq_false', Bool.or_eq_true, Bool.and_eq_true, Bool.or_eq_false_iff, Bool.and_eq_false_iff] at hb1
        refine vwp_exit ?_
        simp only [thenQ, blockQ, Nat.reduceEqDiff, reduceIte]
        apply_assumption
        refine vwp_seq_region rfl fun K hK => ?_
        simp (dsimp := false) only [push_cast, hP, hnt, hgw, hgb, Nat.reduceLT, Nat.reduceEqDiff, Nat.reduceAdd, Nat.reduceSub, Nat.reduceMul, Nat.reduceLeDiff, ↓reduceIte, reduceCtorEq, hi0]
        refine hK _ ?_; clear hK
        refine vwp_ret ?_
        refine ret_free (by simp (dsimp := false) only [push_cast, hP, hnt, hgw, hgb, Nat.reduceLT, Nat.reduceEqDiff, Nat.reduceAdd, Nat.reduceSub, Nat.reduceMul, Nat.reduceLeDiff, ↓reduceIte, reduceCtorEq, hi0]; rfl) (by simp (dsimp := false) only [push_cast, hP, hnt, hgw, hgb, Nat.reduceLT, Nat.reduceEqDiff, Nat.reduceAdd, Nat.reduceSub, Nat.reduceMul, Nat.reduceLeDiff, ↓reduceIte, reduceCtorEq, hi0]) ?_
        rw [decide_eq_true (same_end hb1 hl ht)]; rfl
end Go.Vm
end
