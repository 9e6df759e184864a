/-
  Walks of the program's functions by the framework, and what they compute (PtAQ). Conditions: each theorem's own premises. By an AI agent.
-/
import Derived.Test.YtnpbndglolcilaaDoorPtAP
section
namespace Go.Vm
open Go Go.RowKit Go.Proofs
set_option maxRecDepth 100000
set_option linter.unusedSimpArgs false
set_option linter.unusedVariables false
set_option maxHeartbeats 4000000

def engSA (x : Eng) : ByteArray := (if x.pdr = true then ⟨#[112, 100, 114, 32]⟩ else ⟨#[98, 109, 99, 32]⟩) ++ digA x.num ++ ⟨#[32]⟩ ++ digA x.bud
theorem digA_pos {n : Int} (h : 0 ≤ n) : digA n = digB n := if_pos h
theorem engSA_eq {x : Eng} (h : engP x) : engSA x = engT x := by
  rw [← engS_eq h]
  unfold engSA engS
  rw [digA_pos h.1, digA_pos (eng_num h).1]; rfl
theorem digA_size {n : Int} (h : n ≤ 1000000000000) : (digA n).size ≤ 21 := by
  unfold digA
  split
  · rename_i h0
    rw [← digB_eq h0]; unfold itoaB; rw [bOf_size]; exact Lib.itoa_length_le n (by omega) (by omega)
  · exact Nat.le_trans (Nat.le_of_eq (ofBytes_one _)) (by omega)
structure EngB (x : Eng) : Prop where
  num : x.num ≤ 1000000000000
  bud : x.bud ≤ 1000000000000
theorem engWrittenA_call (gw : World) (gb : Nat) (x : Eng) (hx : EngB x) : VCall Tryd.prog gw (gb) 66 [.agg (x.pcs)] (.one (.c (.string (engSA x)))) [] := by
  refine vcall_of [.tmp 2] Tryd.func66 rfl rfl Tryd.ntmps66 rfl (by simp) ?_
  intro C hP hnt hgw hgb hfull
  refine vwp_seq_region rfl fun K hK => ?_
  simp (dsimp := false) only [push_cast, hP, hnt, hgw, hgb, Nat.reduceLT, Nat.reduceEqDiff, Nat.reduceAdd, Nat.reduceSub, Nat.reduceMul, Nat.reduceLeDiff, ↓reduceIte, reduceCtorEq]
  refine hK _ ?_; clear hK
  refine vwp_seq_region rfl fun K hK => ?_
  simp (dsimp := false) only [push_cast, hP, hnt, hgw, hgb, Nat.reduceLT, Nat.reduceEqDiff, Nat.reduceAdd, Nat.reduceSub, Nat.reduceMul, Nat.reduceLeDiff, ↓reduceIte, reduceCtorEq]
  refine hK _ ?_; clear hK
  refine vwp_seq fun K hK => ?_
  refine vwp_seq_region rfl fun K hK => ?_
  simp (dsimp := false) only [push_cast, hP, hnt, hgw, hgb, Nat.reduceLT, Nat.reduceEqDiff, Nat.reduceAdd, Nat.reduceSub, Nat.reduceMul, Nat.reduceLeDiff, ↓reduceIte, reduceCtorEq]
  refine hK _ ?_; clear hK
  refine vwp_cond (b := _) (by simp (dsimp := false) only [push_cast, hP, hnt, hgw, hgb, Nat.reduceLT, Nat.reduceEqDiff, Nat.reduceAdd, Nat.reduceSub, Nat.reduceMul, Nat.reduceLeDiff, ↓reduceIte, reduceCtorEq]; rfl) (fun rb0 => ?_) (fun rb0 => ?_)
  · have hb0 := rb0
    try simp only [beq_iff_eq, bne_iff_ne, ne_eq, bne_eq_false_iff_eq, beq_eq_false_iff_ne, decide_eq_true_eq, decide_eq_false_iff_not, Bool.not_eq_true', Bool.not_eq_false', Bool.or_eq_true, Bool.and_eq_true, Bool.or_eq_false_iff, Bool.and_eq_false_iff] at hb0
    have hn1 := digA_size hx.num
    have hn2 := digA_size hx.bud
    have hx1 := hx.num
    have hx2 := hx.bud
    have hc1 : (⟨#[112, 100, 114, 32]⟩ : ByteArray).size = 4 := rfl
    have hc2 : (⟨#[32]⟩ : ByteArray).size = 1 := rfl
    have hs2 : (⟨#[112, 100, 114, 32]⟩ : ByteArray).size + (digA x.num).size ≤ 9223372036854775807 := by omega
    have hs3 : ((⟨#[112, 100, 114, 32]⟩ : ByteArray) ++ digA x.num).size + (⟨#[32]⟩ : ByteArray).size ≤ 9223372036854775807 := by rw [ByteArray.size_append]; omega
    have hs4 : ((⟨#[112, 100, 114, 32]⟩ : ByteArray) ++ digA x.num ++ (⟨#[32]⟩ : ByteArray)).size + (digA x.bud).size ≤ 9223372036854775807 := by rw [ByteArray.size_append, ByteArray.size_append]; omega
    refine vwp_region rfl ?_
    simp (dsimp := false) only [push_cast, hP, hnt, hgw, hgb, Nat.reduceLT, Nat.reduceEqDiff, Nat.reduceAdd, Nat.reduceSub, Nat.reduceMul, Nat.reduceLeDiff, ↓reduceIte, reduceCtorEq, hs2, hs3, hs4]
    apply_assumption
    refine vwp_seq_anyF [[], [], [1], [1, 2], [0, 1, 2, 3], [0, 1, 2, 3, 4], [], [6], [1, 2, 3, 6, 7], [0, 1, 2, 3, 4, 5, 6, 7, 8], [0, 1, 2, 3, 4, 5, 6, 7, 8, 9]] [([(6, .dead), (7, .dead), (8, .dead), (9, .dead), (10, .old), (11, .old), (12, .dead), (13, .dead), (14, .dead), (15, .old), (2, .old)], [7, 8, 9, 10, 11, 12, 13, 14, 15, 2], []), ([(6, .dead), (7, .dead), (8, .old), (9, .old), (10, .old), (11, .old), (12, .dead), (13, .dead), (14, .old), (15, .old), (2, .old)], [6, 8, 9, 10, 11, 12, 13, 14, 15, 2], []), ([(6, .dead), (7, .dep 0), (8, .dead), (9, .old), (10, .old), (11, .old), (12, .dead), (13, .dead), (14, .old), (15, .old), (2, .old)], [6, 9, 10, 11, 12, 13, 14, 15, 2], [0]), ([(6, .dead), (7, .dep 1), (8, .dep 0), (9, .dead), (10, .old), (11, .old), (12, .dead), (13, .dead), (14, .old), (15, .old), (2, .old)], [6, 10, 11, 12, 13, 14, 15, 2], [1, 0]), ([(6, .dep 3), (7, .dep 2), (8, .dep 1), (9, .dep 0), (10, .dead), (11, .old), (12, .dead), (13, .dead), (14, .dead), (15, .old), (2, .old)], [11, 12, 13, 14, 15, 2], [3, 2, 1, 0]), ([(6, .dep 4), (7, .dep 3), (8, .dep 2), (9, .dep 1), (10, .dep 0), (11, .dead), (12, .dead), (13, .dead), (14, .dead), (15, .old), (2, .old)], [12, 13, 14, 15, 2], [4, 3, 2, 1, 0]), ([(6, .dead), (7, .dead), (8, .dead), (9, .dead), (10, .dead), (11, .dead), (12, .dead), (13, .old), (14, .old), (15, .old), (2, .old)], [6, 7, 8, 9, 10, 11, 13, 14, 15, 2], []), ([(6, .dead), (7, .dead), (8, .dead), (9, .dead), (10, .dead), (11, .dead), (12, .dep 0), (13, .dead), (14, .old), (15, .old), (2, .old)], [6, 7, 8, 9, 10, 11, 14, 15, 2], [0]), ([(6, .dead), (7, .dep 6), (8, .dep 5), (9, .dep 4), (10, .dead), (11, .dead), (12, .dep 1), (13, .dep 0), (14, .dead), (15, .old), (2, .old)], [6, 10, 11, 15, 2], [6, 5, 4, 1, 0]), ([(6, .dep 8), (7, .dep 7), (8, .dep 6), (9, .dep 5), (10, .dep 4), (11, .dep 3), (12, .dep 2), (13, .dep 1), (14, .dep 0), (15, .dead), (2, .old)], [2], [8, 7, 6, 5, 4, 3, 2, 1, 0]), ([(6, .dep 9), (7, .dep 8), (8, .dep 7), (9, .dep 6), (10, .dep 5), (11, .dep 4), (12, .dep 3), (13, .dep 2), (14, .dep 1), (15, .dep 0), (2, .dead)], [], [9, 8, 7, 6, 5, 4, 3, 2, 1, 0])] (by rw [hP]; exact mixed) rfl rfl rfl fun K hK => ?_
    simp (dsimp := false) only [push_cast, hP, hnt, hgw, hgb, Nat.reduceLT, Nat.reduceEqDiff, Nat.reduceAdd, Nat.reduceSub, Nat.reduceMul, Nat.reduceLeDiff, ↓reduceIte, reduceCtorEq, hs2, hs3, hs4, Nat.reduceBNe, Nat.reduceBEq]
    refine .inl (callE_intro (digitsA_call gw gb _ (by omega)) (.inl ⟨rfl, rfl⟩) ?_)
    simp (dsimp := false) only [push_cast, hP, hnt, hgw, hgb, Nat.reduceLT, Nat.reduceEqDiff, Nat.reduceAdd, Nat.reduceSub, Nat.reduceMul, Nat.reduceLeDiff, ↓reduceIte, reduceCtorEq, hs2, hs3, hs4, Nat.reduceBNe, Nat.reduceBEq]
    refine .inl (callE_intro (digitsA_call gw gb _ (by omega)) (.inl ⟨rfl, rfl⟩) ?_)
    simp (dsimp := false) only [push_cast, hP, hnt, hgw, hgb, Nat.reduceLT, Nat.reduceEqDiff, Nat.reduceAdd, Nat.reduceSub, Nat.reduceMul, Nat.reduceLeDiff, ↓reduceIte, reduceCtorEq, hs2, hs3, hs4, Nat.reduceBNe, Nat.reduceBEq]
    refine ⟨rfl, ?_⟩
    refine hK _ ?_; clear hK
    refine vwp_ret ?_
    refine ret_free (by simp (dsimp := false) only [push_cast, hP, hnt, hgw, hgb, Nat.reduceLT, Nat.reduceEqDiff, Nat.reduceAdd, Nat.reduceSub, Nat.reduceMul, Nat.reduceLeDiff, ↓reduceIte, reduceCtorEq, hs2, hs3, hs4]; rfl) (by simp (dsimp := false) only [push_cast, hP, hnt, hgw, hgb, Nat.reduceLT, Nat.reduceEqDiff, Nat.reduceAdd, Nat.reduceSub, Nat.reduceMul, Nat.reduceLeDiff, ↓reduceIte, reduceCtorEq, hs2, hs3, hs4]) ?_
    rw [engSA, if_pos hb0]; rfl
  · have hb0 := rb0
    try simp only [beq_iff_eq, bne_iff_ne, ne_eq, bne_eq_false_iff_eq, beq_eq_false_iff_ne, decide_eq_true_eq, decide_eq_false_iff_not, Bool.not_eq_true', Bool.not_eq_false', Bool.or_eq_true, Bool.and_eq_true, Bool.or_eq_false_iff, Bool.and_eq_false_iff] at hb0
    have hn1 := digA_size hx.num
    have hn2 := digA_size hx.bud
    have hx1 := hx.num
    have hx2 := hx.bud
    have hc1 : (⟨#[98, 109, 99, 32]⟩ : ByteArray).size = 4 := rfl
    have hc2 : (⟨#[32]⟩ : ByteArray).size = 1 := rfl
    have hs2 : (⟨#[98, 109, 99, 32]⟩ : ByteArray).size + (digA x.num).size ≤ 9223372036854775807 := by omega
    have hs3 : ((⟨#[98, 109, 99, 32]⟩ : ByteArray) ++ digA x.num).size + (⟨#[32]⟩ : ByteArray).size ≤ 9223372036854775807 := by rw [ByteArray.size_append]; omega
    have hs4 : ((⟨#[98, 109, 99, 32]⟩ : ByteArray) ++ digA x.num ++ (⟨#[32]⟩ : ByteArray)).size + (digA x.bud).size ≤ 9223372036854775807 := by rw [ByteArray.size_append, ByteArray.size_append]; omega
    refine vwp_skip ?_
    apply_assumption
    refine vwp_seq_anyF [[], [], [1], [1, 2], [0, 1, 2, 3], [0, 1, 2, 3, 4], [], [6], [1, 2, 3, 6, 7], [0, 1, 2, 3, 4, 5, 6, 7, 8], [0, 1, 2, 3, 4, 5, 6, 7, 8, 9]] [([(6, .dead), (7, .dead), (8, .dead), (9, .dead), (10, .old), (11, .old), (12, .dead), (13, .dead), (14, .dead), (15, .old), (2, .old)], [7, 8, 9, 10, 11, 12, 13, 14, 15, 2], []), ([(6, .dead), (7, .dead), (8, .old), (9, .old), (10, .old), (11, .old), (12, .dead), (13, .dead), (14, .old), (15, .old), (2, .old)], [6, 8, 9, 10, 11, 12, 13, 14, 15, 2], []), ([(6, .dead), (7, .dep 0), (8, .dead), (9, .old), (10, .old), (11, .old), (12, .dead), (13, .dead), (14, .old), (15, .old), (2, .old)], [6, 9, 10, 11, 12, 13, 14, 15, 2], [0]), ([(6, .dead), (7, .dep 1), (8, .dep 0), (9, .dead), (10, .old), (11, .old), (12, .dead), (13, .dead), (14, .old), (15, .old), (2, .old)], [6, 10, 11, 12, 13, 14, 15, 2], [1, 0]), ([(6, .dep 3), (7, .dep 2), (8, .dep 1), (9, .dep 0), (10, .dead), (11, .old), (12, .dead), (13, .dead), (14, .dead), (15, .old), (2, .old)], [11, 12, 13, 14, 15, 2], [3, 2, 1, 0]), ([(6, .dep 4), (7, .dep 3), (8, .dep 2), (9, .dep 1), (10, .dep 0), (11, .dead), (12, .dead), (13, .dead), (14, .dead), (15, .old), (2, .old)], [12, 13, 14, 15, 2], [4, 3, 2, 1, 0]), ([(6, .dead), (7, .dead), (8, .dead), (9, .dead), (10, .dead), (11, .dead), (12, .dead), (13, .old), (14, .old), (15, .old), (2, .old)], [6, 7, 8, 9, 10, 11, 13, 14, 15, 2], []), ([(6, .dead), (7, .dead), (8, .dead), (9, .dead), (10, .dead), (11, .dead), (12, .dep 0), (13, .dead), (14, .old), (15, .old), (2, .old)], [6, 7, 8, 9, 10, 11, 14, 15, 2], [0]), ([(6, .dead), (7, .dep 6), (8, .dep 5), (9, .dep 4), (10, .dead), (11, .dead), (12, .dep 1), (13, .dep 0), (14, .dead), (15, .old), (2, .old)], [6, 10, 11, 15, 2], [6, 5, 4, 1, 0]), ([(6, .dep 8), (7, .dep 7), (8, .dep 6), (9, .dep 5), (10, .dep 4), (11, .dep 3), (12, .dep 2), (13, .dep 1), (14, .dep 0), (15, .dead), (2, .old)], [2], [8, 7, 6, 5, 4, 3, 2, 1, 0]), ([(6, .dep 9), (7, .dep 8), (8, .dep 7), (9, .dep 6), (10, .dep 5), (11, .dep 4), (12, .dep 3), (13, .dep 2), (14, .dep 1), (15, .dep 0), (2, .dead)], [], [9, 8, 7, 6, 5, 4, 3, 2, 1, 0])] (by rw [hP]; exact mixed) rfl rfl rfl fun K hK => ?_
    simp (dsimp := false) only [push_cast, hP, hnt, hgw, hgb, Nat.reduceLT, Nat.reduceEqDiff, Nat.reduceAdd, Nat.reduceSub, Nat.reduceMul, Nat.reduceLeDiff, ↓reduceIte, reduceCtorEq, hs2, hs3, hs4, Nat.reduceBNe, Nat.reduceBEq]
    refine .inl (callE_intro (digitsA_call gw gb _ (by omega)) (.inl ⟨rfl, rfl⟩) ?_)
    simp (dsimp := false) only [push_cast, hP, hnt, hgw, hgb, Nat.reduceLT, Nat.reduceEqDiff, Nat.reduceAdd, Nat.reduceSub, Nat.reduceMul, Nat.reduceLeDiff, ↓reduceIte, reduceCtorEq, hs2, hs3, hs4, Nat.reduceBNe, Nat.reduceBEq]
    refine .inl (callE_intro (digitsA_call gw gb _ (by omega)) (.inl ⟨rfl, rfl⟩) ?_)
    simp (dsimp := false) only [push_cast, hP, hnt, hgw, hgb, Nat.reduceLT, Nat.reduceEqDiff, Nat.reduceAdd, Nat.reduceSub, Nat.reduceMul, Nat.reduceLeDiff, ↓reduceIte, reduceCtorEq, hs2, hs3, hs4, Nat.reduceBNe, Nat.reduceBEq]
    refine ⟨rfl, ?_⟩
    refine hK _ ?_; clear hK
    refine vwp_ret ?_
    refine ret_free (by simp (dsimp := false) only [push_cast, hP, hnt, hgw, hgb, Nat.reduceLT, Nat.reduceEqDiff, Nat.reduceAdd, Nat.reduceSub, Nat.reduceMul, Nat.reduceLeDiff, ↓reduceIte, reduceCtorEq, hs2, hs3, hs4]; rfl) (by simp (dsimp := false) only [push_cast, hP, hnt, hgw, hgb, Nat.reduceLT, Nat.reduceEqDiff, Nat.reduceAdd, Nat.reduceSub, Nat.reduceMul, Nat.reduceLeDiff, ↓reduceIte, reduceCtorEq, hs2, hs3, hs4]) ?_
    rw [engSA, if_neg (by simp [hb0])]; rfl
theorem toList_eq {a b : ByteArray} (h : a.toList = b.toList) : a = b := bytes_ext h
theorem numR_le (t : ByteArray) : numR t ≤ 1000000000000 := by
  unfold numR
  split
  · have := numGo_bnd (l := t.data.toList.take 8) (by rw [List.length_take]; omega)
    exact this.2
  · omega
theorem engB_of (L : List ByteArray) : EngB (engOf numR L) := ⟨numR_le _, numR_le _⟩
def PR (s : ByteArray) : List ByteArray := piecesB s 32
def readEngR (s : ByteArray) : Eng × Int :=
  if (PR s).length ≠ 3 then (engZ, 12)
  else if engE (engOf numR (PR s)) ≠ 0 ∨ (engSA (engOf numR (PR s))).toList ≠ s.toList then (engZ, 12) else (engOf numR (PR s), 0)
theorem PR_size (s : ByteArray) : ∀ x ∈ PR s, x.size ≤ s.size + 1 := pieces_size s 32
theorem readEngR_len {s : ByteArray} (h : ¬ ((PR s).length : Int) = 3) : readEngR s = (engZ, 12) := if_pos (by omega)
theorem readEngR_bad {s : ByteArray} (h : ((PR s).length : Int) = 3) (h2 : engE (engOf numR (PR s)) ≠ 0 ∨ (engSA (engOf numR (PR s))).toList ≠ s.toList) : readEngR s = (engZ, 12) := by
  unfold readEngR; rw [if_neg (by omega), if_pos h2]
theorem readEngR_ok {s : ByteArray} (h : ((PR s).length : Int) = 3) (h2 : ¬ (engE (engOf numR (PR s)) ≠ 0 ∨ (engSA (engOf numR (PR s))).toList ≠ s.toList)) : readEngR s = (engOf numR (PR s), 0) := by
  unfold readEngR; rw [if_neg (by omega), if_neg h2]
theorem splitR32_call (gw : World) (gb : Nat) (s : ByteArray) (hs : s.size ≤ 100000) : VCall Tryd.prog gw gb 30 [.one (.c (.string (s ++ ⟨#[32]⟩))), .one (.c (.int .u8 32))] (.one (.sl true (PR s).length ((PR s).map fun s => .c (.string s)))) [] :=
  refSplit_call gw gb (s ++ ⟨#[32]⟩) 32 (by rw [ByteArray.size_append]; have : (⟨#[32]⟩ : ByteArray).size = 1 := rfl; omega)
theorem refReadEngine_call (gw : World) (gb : Nat) (s : ByteArray) (hs : s.size ≤ 90000) : VCall Tryd.prog gw (gb) 27 [.one (.c (.string s))] (.tup [.agg (readEngR s).1.pcs, .one (.c (.int .i64 (readEngR s).2))]) [] := by
  have hsz0 : s.size + (⟨#[32]⟩ : ByteArray).size ≤ 9223372036854775807 := by have : (⟨#[32]⟩ : ByteArray).size = 1 := rfl; omega
  refine vcall_of [.cell 2 59, .tmp 3] Tryd.func27 rfl rfl Tryd.ntmps27 rfl (by simp) ?_
  intro C hP hnt hgw hgb hfull
  refine vwp_seq_region rfl fun K hK => ?_
  simp (dsimp := false) only [push_cast, hP, hnt, hgw, hgb, Nat.reduceLT, Nat.reduceEqDiff, Nat.reduceAdd, Nat.reduceSub, Nat.reduceMul, Nat.reduceLeDiff, ↓reduceIte, reduceCtorEq, hsz0]
  refine hK _ ?_; clear hK
  refine vwp_seq_region rfl fun K hK => ?_
  simp (dsimp := false) only [push_cast, hP, hnt, hgw, hgb, Nat.reduceLT, Nat.reduceEqDiff, Nat.reduceAdd, Nat.reduceSub, Nat.reduceMul, Nat.reduceLeDiff, ↓reduceIte, reduceCtorEq, hsz0]
  refine .inl (callE_intro (splitR32_call gw gb s (by omega)) (.inl ⟨by simp only [push_cast], rfl⟩) ?_)
  simp (dsimp := false) only [push_cast, hP, hnt, hgw, hgb, Nat.reduceLT, Nat.reduceEqDiff, Nat.reduceAdd, Nat.reduceSub, Nat.reduceMul, Nat.reduceLeDiff, ↓reduceIte, reduceCtorEq, hsz0]
  refine hK _ ?_; clear hK
  refine vwp_seq fun K hK => ?_
  refine vwp_seq_region rfl fun K hK => ?_
  simp (dsimp := false) only [push_cast, hP, hnt, hgw, hgb, Nat.reduceLT, Nat.reduceEqDiff, Nat.reduceAdd, Nat.reduceSub, Nat.reduceMul, Nat.reduceLeDiff, ↓reduceIte, reduceCtorEq, hsz0]
  refine hK _ ?_; clear hK
  refine vwp_cond (b := _) (by simp (dsimp := false) only [push_cast, hP, hnt, hgw, hgb, Nat.reduceLT, Nat.reduceEqDiff, Nat.reduceAdd, Nat.reduceSub, Nat.reduceMul, Nat.reduceLeDiff, ↓reduceIte, reduceCtorEq, hsz0]; rfl) (fun rb0 => ?_) (fun rb0 => ?_)
  · have hb0 := rb0
    try simp only [beq_iff_eq, bne_iff_ne, ne_eq, bne_eq_false_iff_eq, beq_eq_false_iff_ne, decide_eq_true_eq, decide_eq_false_iff_not, Bool.not_eq_true', Bool.not_eq_false', Bool.or_eq_true, Bool.and_eq_true, Bool.or_eq_false_iff, Bool.and_eq_false_iff] at hb0
    refine vwp_seq_region rfl fun K hK => ?_
    simp (dsimp := false) only [push_cast, hP, hnt, hgw, hgb, Nat.reduceLT, Nat.reduceEqDiff, Nat.reduceAdd, Nat.reduceSub, Nat.reduceMul, Nat.reduceLeDiff, ↓reduceIte, reduceCtorEq, hsz0]
    refine hK _ ?_; clear hK
    refine vwp_ret ?_
    refine ret_free (by simp (dsimp := false) only [push_cast, hP, hnt, hgw, hgb, Nat.reduceLT, Nat.reduceEqDiff, Nat.reduceAdd, Nat.reduceSub, Nat.reduceMul, Nat.reduceLeDiff, ↓reduceIte, reduceCtorEq, hsz0]; rfl) (by simp (dsimp := false) only [push_cast, hP, hnt, hgw, hgb, Nat.reduceLT, Nat.reduceEqDiff, Nat.reduceAdd, Nat.reduceSub, Nat.reduceMul, Nat.reduceLeDiff, ↓reduceIte, reduceCtorEq, hsz0]) ?_
    rw [readEngR_len hb0]; rfl
  · have hb0 := rb0
    try simp only [beq_iff_eq, bne_iff_ne, ne_eq, bne_eq_false_iff_eq, beq_eq_false_iff_ne, decide_eq_true_eq, decide_eq_false_iff_not, Bool.not_eq_true', Bool.not_eq_false', Bool.or_eq_true, Bool.and_eq_true, Bool.or_eq_false_iff, Bool.and_eq_false_iff] at hb0
    have h00 : ((0 : Int) ≤ 0) = True := by simp
    have h01 : ((0 : Int) ≤ 1) = True := by simp
    have h02 : ((0 : Int) ≤ 2) = True := by simp
    have hk0 : (0 : Int) < ((PR s).length : Int) := by omega
    have hk1 : (1 : Int) < ((PR s).length : Int) := by omega
    have hk2 : (2 : Int) < ((PR s).length : Int) := by omega
    have hd0 := dropI_map (fun s => PC.c (Value.string s)) (show (0 : Int) ≤ 0 by omega) hk0
    have hd1 := dropI_map (fun s => PC.c (Value.string s)) (show (0 : Int) ≤ 1 by omega) hk1
    have hd2 := dropI_map (fun s => PC.c (Value.string s)) (show (0 : Int) ≤ 2 by omega) hk2
    have hz1 := PR_size s _ (atI_mem (show (0 : Int) ≤ 1 by omega) hk1)
    have hz2 := PR_size s _ (atI_mem (show (0 : Int) ≤ 2 by omega) hk2)
    refine vwp_skip ?_
    apply_assumption
    refine vwp_seq_anyF [[], [0], [0, 1], [0, 1, 2], [], [4], [4, 5], [4, 5, 6], [], [8], [8, 9], [4, 5, 6, 7, 8, 9, 10], [0, 1, 2, 3, 4, 5, 6, 7, 8, 9, 10, 11], [], [0, 1, 2, 3, 4, 5, 6, 7, 8, 9, 10, 11, 12, 13]] [([(13, .dead), (14, .old), (15, .old), (16, .old), (17, .dead), (18, .dead), (19, .dead), (20, .dead), (21, .dead), (22, .dead), (23, .dead), (24, .dead), (25, .old), (5, .dead)], [14, 15, 16, 17, 18, 19, 20, 21, 22, 23, 24, 25, 5], []), ([(13, .dep 0), (14, .dead), (15, .old), (16, .old), (17, .dead), (18, .dead), (19, .dead), (20, .dead), (21, .dead), (22, .dead), (23, .dead), (24, .dead), (25, .old), (5, .dead)], [15, 16, 17, 18, 19, 20, 21, 22, 23, 24, 25, 5], [0]), ([(13, .dep 1), (14, .dep 0), (15, .dead), (16, .old), (17, .dead), (18, .dead), (19, .dead), (20, .dead), (21, .dead), (22, .dead), (23, .dead), (24, .dead), (25, .old), (5, .dead)], [16, 17, 18, 19, 20, 21, 22, 23, 24, 25, 5], [1, 0]), ([(13, .dep 2), (14, .dep 1), (15, .dep 0), (16, .dead), (17, .dead), (18, .dead), (19, .dead), (20, .dead), (21, .dead), (22, .dead), (23, .dead), (24, .dead), (25, .old), (5, .dead)], [17, 18, 19, 20, 21, 22, 23, 24, 25, 5], [2, 1, 0]), ([(13, .dead), (14, .dead), (15, .dead), (16, .dead), (17, .dead), (18, .old), (19, .old), (20, .old), (21, .dead), (22, .dead), (23, .dead), (24, .old), (25, .old), (5, .dead)], [13, 14, 15, 16, 18, 19, 20, 21, 22, 23, 24, 25, 5], []), ([(13, .dead), (14, .dead), (15, .dead), (16, .dead), (17, .dep 0), (18, .dead), (19, .old), (20, .old), (21, .dead), (22, .dead), (23, .dead), (24, .old), (25, .old), (5, .dead)], [13, 14, 15, 16, 19, 20, 21, 22, 23, 24, 25, 5], [0]), ([(13, .dead), (14, .dead), (15, .dead), (16, .dead), (17, .dep 1), (18, .dep 0), (19, .dead), (20, .old), (21, .dead), (22, .dead), (23, .dead), (24, .old), (25, .old), (5, .dead)], [13, 14, 15, 16, 20, 21, 22, 23, 24, 25, 5], [1, 0]), ([(13, .dead), (14, .dead), (15, .dead), (16, .dead), (17, .dep 2), (18, .dep 1), (19, .dep 0), (20, .dead), (21, .dead), (22, .dead), (23, .dead), (24, .old), (25, .old), (5, .dead)], [13, 14, 15, 16, 21, 22, 23, 24, 25, 5], [2, 1, 0]), ([(13, .dead), (14, .dead), (15, .dead), (16, .dead), (17, .dead), (18, .dead), (19, .dead), (20, .dead), (21, .dead), (22, .old), (23, .old), (24, .old), (25, .old), (5, .dead)], [13, 14, 15, 16, 17, 18, 19, 20, 22, 23, 24, 25, 5], []), ([(13, .dead), (14, .dead), (15, .dead), (16, .dead), (17, .dead), (18, .dead), (19, .dead), (20, .dead), (21, .dep 0), (22, .dead), (23, .old), (24, .old), (25, .old), (5, .dead)], [13, 14, 15, 16, 17, 18, 19, 20, 23, 24, 25, 5], [0]), ([(13, .dead), (14, .dead), (15, .dead), (16, .dead), (17, .dead), (18, .dead), (19, .dead), (20, .dead), (21, .dep 1), (22, .dep 0), (23, .dead), (24, .old), (25, .old), (5, .dead)], [13, 14, 15, 16, 17, 18, 19, 20, 24, 25, 5], [1, 0]), ([(13, .dead), (14, .dead), (15, .dead), (16, .dead), (17, .dep 6), (18, .dep 5), (19, .dep 4), (20, .dep 3), (21, .dep 2), (22, .dep 1), (23, .dep 0), (24, .dead), (25, .old), (5, .dead)], [13, 14, 15, 16, 25, 5], [6, 5, 4, 3, 2, 1, 0]), ([(13, .dep 11), (14, .dep 10), (15, .dep 9), (16, .dep 8), (17, .dep 7), (18, .dep 6), (19, .dep 5), (20, .dep 4), (21, .dep 3), (22, .dep 2), (23, .dep 1), (24, .dep 0), (25, .dead), (5, .dead)], [5], [11, 10, 9, 8, 7, 6, 5, 4, 3, 2, 1, 0]), ([(13, .dead), (14, .dead), (15, .dead), (16, .dead), (17, .dead), (18, .dead), (19, .dead), (20, .dead), (21, .dead), (22, .dead), (23, .dead), (24, .dead), (25, .dead), (5, .dead)], [13, 14, 15, 16, 17, 18, 19, 20, 21, 22, 23, 24, 25], []), ([(13, .dep 13), (14, .dep 12), (15, .dep 11), (16, .dep 10), (17, .dep 9), (18, .dep 8), (19, .dep 7), (20, .dep 6), (21, .dep 5), (22, .dep 4), (23, .dep 3), (24, .dep 2), (25, .dep 1), (5, .dep 0)], [], [13, 12, 11, 10, 9, 8, 7, 6, 5, 4, 3, 2, 1, 0])] (by rw [hP]; exact mixed) rfl rfl rfl fun K hK => ?_
    simp (dsimp := false) only [push_cast, hP, hnt, hgw, hgb, Nat.reduceLT, Nat.reduceEqDiff, Nat.reduceAdd, Nat.reduceSub, Nat.reduceMul, Nat.reduceLeDiff, ↓reduceIte, reduceCtorEq, hsz0, h00, h01, h02, hk0, hk1, hk2, hd0, hd1, hd2, Nat.reduceBNe, Nat.reduceBEq]
    refine .inl (callE_intro (refNumber_call gw gb _ (by omega)) (.inl ⟨rfl, rfl⟩) ?_)
    simp (dsimp := false) only [push_cast, hP, hnt, hgw, hgb, Nat.reduceLT, Nat.reduceEqDiff, Nat.reduceAdd, Nat.reduceSub, Nat.reduceMul, Nat.reduceLeDiff, ↓reduceIte, reduceCtorEq, hsz0, h00, h01, h02, hk0, hk1, hk2, hd0, hd1, hd2, Nat.reduceBNe, Nat.reduceBEq]
    refine .inl (callE_intro (refNumber_call gw gb _ (by omega)) (.inl ⟨rfl, rfl⟩) ?_)
    simp (dsimp := false) only [push_cast, hP, hnt, hgw, hgb, Nat.reduceLT, Nat.reduceEqDiff, Nat.reduceAdd, Nat.reduceSub, Nat.reduceMul, Nat.reduceLeDiff, ↓reduceIte, reduceCtorEq, hsz0, h00, h01, h02, hk0, hk1, hk2, hd0, hd1, hd2, Nat.reduceBNe, Nat.reduceBEq]
    refine ⟨rfl, ?_⟩
    refine hK _ ?_; clear hK
    refine vwp_seq fun K hK => ?_
    refine vwp_seq_regionG fun K hK => ?_
    simp (dsimp := false) only [push_cast, hP, hnt, hgw, hgb, Nat.reduceLT, Nat.reduceEqDiff, Nat.reduceAdd, Nat.reduceSub, Nat.reduceMul, Nat.reduceLeDiff, ↓reduceIte, reduceCtorEq, hsz0, h00, h01, h02, hk0, hk1, hk2, hd0, hd1, hd2]
    refine .inl (callE_intro (refEngine0_call gw gb (engOf numR (PR s))) (.inl ⟨rfl, rfl⟩) ?_)
    simp (dsimp := false) only [push_cast, hP, hnt, hgw, hgb, Nat.reduceLT, Nat.reduceEqDiff, Nat.reduceAdd, Nat.reduceSub, Nat.reduceMul, Nat.reduceLeDiff, ↓reduceIte, reduceCtorEq, hsz0, h00, h01, h02, hk0, hk1, hk2, hd0, hd1, hd2]
    refine guardR_may (by simp (dsimp := false) only [push_cast, hP, hnt, hgw, hgb, Nat.reduceLT, Nat.reduceEqDiff, Nat.reduceAdd, Nat.reduceSub, Nat.reduceMul, Nat.reduceLeDiff, ↓reduceIte, reduceCtorEq, hsz0, h00, h01, h02, hk0, hk1, hk2, hd0, hd1, hd2, List.getElem?_cons_zero, List.getElem?_cons_succ]; rfl) ?_
    simp (dsimp := false) only [push_cast, hP, hnt, hgw, hgb, Nat.reduceLT, Nat.reduceEqDiff, Nat.reduceAdd, Nat.reduceSub, Nat.reduceMul, Nat.reduceLeDiff, ↓reduceIte, reduceCtorEq, hsz0, h00, h01, h02, hk0, hk1, hk2, hd0, hd1, hd2]
    refine guardR_may (by simp (dsimp := false) only [push_cast, hP, hnt, hgw, hgb, Nat.reduceLT, Nat.reduceEqDiff, Nat.reduceAdd, Nat.reduceSub, Nat.reduceMul, Nat.reduceLeDiff, ↓reduceIte, reduceCtorEq, hsz0, h00, h01, h02, hk0, hk1, hk2, hd0, hd1, hd2, List.getElem?_cons_zero, List.getElem?_cons_succ]; rfl) ?_
    simp (dsimp := false) only [push_cast, hP, hnt, hgw, hgb, Nat.reduceLT, Nat.reduceEqDiff, Nat.reduceAdd, Nat.reduceSub, Nat.reduceMul, Nat.reduceLeDiff, ↓reduceIte, reduceCtorEq, hsz0, h00, h01, h02, hk0, hk1, hk2, hd0, hd1, hd2]
    refine callE_intro (engWrittenA_call gw gb (engOf numR (PR s)) (engB_of _)) (.inl ⟨rfl, rfl⟩) ?_
    refine ⟨rfl, ?_⟩
    simp (dsimp := false) only [push_cast, hP, hnt, hgw, hgb, Nat.reduceLT, Nat.reduceEqDiff, Nat.reduceAdd, Nat.reduceSub, Nat.reduceMul, Nat.reduceLeDiff, ↓reduceIte, reduceCtorEq, hsz0, h00, h01, h02, hk0, hk1, hk2, hd0, hd1, hd2]
    refine guardR_may (by simp (dsimp := false) only [push_cast, hP, hnt, hgw, hgb, Nat.reduceLT, Nat.reduceEqDiff, Nat.reduceAdd, Nat.reduceSub, Nat.reduceMul, Nat.reduceLeDiff, ↓reduceIte, reduceCtorEq, hsz0, h00, h01, h02, hk0, hk1, hk2, hd0, hd1, hd2, List.getElem?_cons_zero, List.getElem?_cons_succ]; rfl) ?_
    simp (dsimp := false) only [push_cast, hP, hnt, hgw, hgb, Nat.reduceLT, Nat.reduceEqDiff, Nat.reduceAdd, Nat.reduceSub, Nat.reduceMul, Nat.reduceLeDiff, ↓reduceIte, reduceCtorEq, hsz0, h00, h01, h02, hk0, hk1, hk2, hd0, hd1, hd2]
    refine guardR_may (by simp (dsimp := false) only [push_cast, hP, hnt, hgw, hgb, Nat.reduceLT, Nat.reduceEqDiff, Nat.reduceAdd, Nat.reduceSub, Nat.reduceMul, Nat.reduceLeDiff, ↓reduceIte, reduceCtorEq, hsz0, h00, h01, h02, hk0, hk1, hk2, hd0, hd1, hd2, List.getElem?_cons_zero, List.getElem?_cons_succ]; rfl) ?_
    simp (dsimp := false) only [push_cast, hP, hnt, hgw, hgb, Nat.reduceLT, Nat.reduceEqDiff, Nat.reduceAdd, Nat.reduceSub, Nat.reduceMul, Nat.reduceLeDiff, ↓reduceIte, reduceCtorEq, hsz0, h00, h01, h02, hk0, hk1, hk2, hd0, hd1, hd2]
    refine hK _ ?_; clear hK
    refine vwp_cond (b := _) (by simp (dsimp := false) only [push_cast, hP, hnt, hgw, hgb, Nat.reduceLT, Nat.reduceEqDiff, Nat.reduceAdd, Nat.reduceSub, Nat.reduceMul, Nat.reduceLeDiff, ↓reduceIte, reduceCtorEq, hsz0, h00, h01, h02, hk0, hk1, hk2, hd0, hd1, hd2]; rfl) (fun rb1 => ?_) (fun rb1 => ?_)
    · have hb1 := rb1
      try simp only [beq_iff_eq, bne_iff_ne, ne_eq, bne_eq_false_iff_eq, beq_eq_false_iff_ne, decide_eq_true_eq, decide_eq_false_iff_not, Bool.not_eq_true', Bool.not_eq_false', Bool.or_eq_true, Bool.and_eq_true, Bool.or_eq_false_iff, Bool.and_eq_false_iff] at hb1
      refine vwp_seq_region rfl fun K hK => ?_
      simp (dsimp := false) only [push_cast, hP, hnt, hgw, hgb, Nat.reduceLT, Nat.reduceEqDiff, Nat.reduceAdd, Nat.reduceSub, Nat.reduceMul, Nat.reduceLeDiff, ↓reduceIte, reduceCtorEq, hsz0, h00, h01, h02, hk0, hk1, hk2, hd0, hd1, hd2]
      refine hK _ ?_; clear hK
      refine vwp_ret ?_
      refine ret_free (by simp (dsimp := false) only [push_cast, hP, hnt, hgw, hgb, Nat.reduceLT, Nat.reduceEqDiff, Nat.reduceAdd, Nat.reduceSub, Nat.reduceMul, Nat.reduceLeDiff, ↓reduceIte, reduceCtorEq, hsz0, h00, h01, h02, hk0, hk1, hk2, hd0, hd1, hd2]; rfl) (by simp (dsimp := false) only [push_cast, hP, hnt, hgw, hgb, Nat.reduceLT, Nat.reduceEqDiff, Nat.reduceAdd, Nat.reduceSub, Nat.reduceMul, Nat.reduceLeDiff, ↓reduceIte, reduceCtorEq, hsz0, h00, h01, h02, hk0, hk1, hk2, hd0, hd1, hd2]) ?_
      rw [readEngR_bad hb0 (by simpa using hb1)]; rfl
    · have hb1 := rb1
      try simp only [beq_iff_eq, bne_iff_ne, ne_eq, bne_eq_false_iff_eq, beq_eq_false_iff_ne, decide_eq_true_eq, decide_eq_false_iff_not, Bool.not_eq_true', Bool.not_eq_false', Bool.or_eq_true, Bool.and_eq_true, Bool.or_eq_false_iff, Bool.and_eq_false_iff] at hb1
      refine vwp_skip ?_
      apply_assumption
      refine vwp_seq_region rfl fun K hK => ?_
      simp (dsimp := false) only [push_cast, hP, hnt, hgw, hgb, Nat.reduceLT, Nat.reduceEqDiff, Nat.reduceAdd, Nat.reduceSub, Nat.reduceMul, Nat.reduceLeDiff, ↓reduceIte, reduceCtorEq, hsz0, h00, h01, h02, hk0, hk1, hk2, hd0, hd1, hd2]
      refine hK _ ?_; clear hK
      refine vwp_ret ?_
      refine ret_free (by simp (dsimp := false) only [push_cast, hP, hnt, hgw, hgb, Nat.reduceLT, Nat.reduceEqDiff, Nat.reduceAdd, Nat.reduceSub, Nat.reduceMul, Nat.reduceLeDiff, ↓reduceIte, reduceCtorEq, hsz0, h00, h01, h02, hk0, hk1, hk2, hd0, hd1, hd2]; rfl) (by simp (dsimp := false) only [push_cast, hP, hnt, hgw, hgb, Nat.reduceLT, Nat.reduceEqDiff, Nat.reduceAdd, Nat.reduceSub, Nat.reduceMul, Nat.reduceLeDiff, ↓reduceIte, reduceCtorEq, hsz0, h00, h01, h02, hk0, hk1, hk2, hd0, hd1, hd2]) ?_
      rw [readEngR_ok hb0 (by simpa using hb1)]; rfl
theorem samePasses_call (gw : World) (gb : Nat) (a b : List (ByteArray × Int)) (ha : a.length ≤ 1000000) : VCall Tryd.prog gw (gb) 28 [.one (.sl false a.length (a.flatMap fun p => [.c (.string p.1), .c (.int .i64 p.2)])), .one (.sl false b.length (b.flatMap fun p => [.c (.string p.1), .c (.int .i64 p.2)]))] (.one (.c (.bool (decide (a = b))))) [] := by
  refine vcall_of [.tmp 4] Tryd.func28 rfl rfl Tryd.ntmps28 rfl (by simp) ?_
  intro C hP hnt hgw hgb hfull
  refine vwp_seq_region rfl fun K hK => ?_
  simp (dsimp := false) only [push_cast, hP, hnt, hgw, hgb, Nat.reduceLT, Nat.reduceEqDiff, Nat.reduceAdd, Nat.reduceSub, Nat.reduceMul, Nat.reduceLeDiff, ↓reduceIte, reduceCtorEq]
  refine hK _ ?_; clear hK
  refine vwp_seq fun K hK => ?_
  refine vwp_seq_region rfl fun K hK => ?_
  simp (dsimp := false) only [push_cast, hP, hnt, hgw, hgb, Nat.reduceLT, Nat.reduceEqDiff, Nat.reduceAdd, Nat.reduceSub, Nat.reduceMul, Nat.reduceLeDiff, ↓reduceIte, reduceCtorEq]
  refine hK _ ?_; clear hK
  refine vwp_cond (b := _) (by simp (dsimp := false) only [push_cast, hP, hnt, hgw, hgb, Nat.reduceLT, Nat.reduceEqDiff, Nat.reduceAdd, Nat.reduceSub, Nat.reduceMul, Nat.reduceLeDiff, ↓reduceIte, reduceCtorEq]; rfl) (fun rb0 => ?_) (fun rb0 => ?_)
  · have hb0 := rb0
    try simp only [beq_iff_eq, bne_iff_ne, ne_eq, bne_eq_false_iff_eq, beq_eq_false_iff_ne, decide_eq_true_eq, decide_eq_false_iff_not, Bool.not_eq_true', Bool.not_eq_false', Bool.or_eq_true, Bool.and_eq_true, Bool.or_eq_false_iff, Bool.and_eq_false_iff] at hb0
    refine vwp_seq_region rfl fun K hK => ?_
    simp (dsimp := false) only [push_cast, hP, hnt, hgw, hgb, Nat.reduceLT, Nat.reduceEqDiff, Nat.reduceAdd, Nat.reduceSub, Nat.reduceMul, Nat.reduceLeDiff, ↓reduceIte, reduceCtorEq]
    refine hK _ ?_; clear hK
    refine vwp_ret ?_
    refine ret_free (by simp (dsimp := false) only [push_cast, hP, hnt, hgw, hgb, Nat.reduceLT, Nat.reduceEqDiff, Nat.reduceAdd, Nat.reduceSub, Nat.reduceMul, Nat.reduceLeDiff, ↓reduceIte, reduceCtorEq]; rfl) (by simp (dsimp := false) only [push_cast, hP, hnt, hgw, hgb, Nat.reduceLT, Nat.reduceEqDiff, Nat.reduceAdd, Nat.reduceSub, Nat.reduceMul, Nat.reduceLeDiff, ↓reduceIte, reduceCtorEq]) ?_
    rw [decide_eq_false (same_len hb0)]; rfl
  · have hb0 := rb0
    try simp only [beq_iff_eq, bne_iff_ne, ne_eq, bne_eq_false_iff_eq, beq_eq_false_iff_ne, decide_eq_true_eq, decide_eq_false_iff_not, Bool.not_eq_true', Bool.not_eq_false', Bool.or_eq_true, Bool.and_eq_true, Bool.or_eq_false_iff, Bool.and_eq_false_iff] at hb0
    refine vwp_skip ?_
    apply_assumption
    refine vwp_seq fun K hK => ?_
    refine vwp_seq_region rfl fun K hK => ?_
    simp (dsimp := false) only [push_cast, hP, hnt, hgw, hgb, Nat.reduceLT, Nat.reduceEqDiff, Nat.reduceAdd, Nat.reduceSub, Nat.reduceMul, Nat.reduceLeDiff, ↓reduceIte, reduceCtorEq]
    refine hK _ ?_; clear hK
    refine vwp_block ?_
    refine vwp_loop (fun m σ => ∃ (i : Int), m = (a.length - i).toNat ∧ ((0 ≤ i) ∧ (i ≤ a.length) ∧ (a.length = b.length) ∧ (a.take i.toNat = b.take i.toNat)) ∧ σ = St.of [(0, .one (.sl false a.length (a.flatMap fun p => [.c (.string p.1), .c (.int .i64 p.2)]))), (1, .one (.sl false b.length (b.flatMap fun p => [.c (.string p.1), .c (.int .i64 p.2)]))), (5, .one (.c (.int .i64 i)))] [] []) _ ⟨_, ?_, 0, rfl, ?_, rfl⟩ ?_
    · refine wk_conv [] [] (by simp) (by simp) (by decide) ?_ ?_
      · refine hf_cons (by simp (dsimp := false) only [push_cast, ↓reduceIte, Nat.reduceEqDiff, Nat.reduceAdd, reduceCtorEq] <;> rfl) (by repeat' (first | exact ConvVs.nil | exact ConvL.nil | refine ConvV.tup ?_ | refine ConvVs.cons ?_ ?_ | (refine ConvV.self ?_; simp only [push_cast]; done) | refine ConvV.one ?_ | refine ConvV.agg ?_ | (refine ConvL.free ?_; simp only [push_cast]; done) | refine ConvL.append ?_ ?_ | refine ConvL.cons ?_ ?_ | exact Conv.free rfl | exact Conv.nil | (refine Conv.own ?_; simp; done) | (refine Conv.loc ?_; simp; done) | refine Conv.frz (by simp) (by simp (dsimp := false) only [push_cast, ↓reduceIte, Nat.reduceEqDiff, Nat.reduceAdd, reduceCtorEq] <;> rfl) ?_ | refine Conv.sl (by simp) ?_ | refine Conv.fn ?_)) ?_
        refine hf_cons (by simp (dsimp := false) only [push_cast, ↓reduceIte, Nat.reduceEqDiff, Nat.reduceAdd, reduceCtorEq] <;> rfl) (by repeat' (first | exact ConvVs.nil | exact ConvL.nil | refine ConvV.tup ?_ | refine ConvVs.cons ?_ ?_ | (refine ConvV.self ?_; simp only [push_cast]; done) | refine ConvV.one ?_ | refine ConvV.agg ?_ | (refine ConvL.free ?_; simp only [push_cast]; done) | refine ConvL.append ?_ ?_ | refine ConvL.cons ?_ ?_ | exact Conv.free rfl | exact Conv.nil | (refine Conv.own ?_; simp; done) | (refine Conv.loc ?_; simp; done) | refine Conv.frz (by simp) (by simp (dsimp := false) only [push_cast, ↓reduceIte, Nat.reduceEqDiff, Nat.reduceAdd, reduceCtorEq] <;> rfl) ?_ | refine Conv.sl (by simp) ?_ | refine Conv.fn ?_)) ?_
        refine hf_cons (by simp (dsimp := false) only [push_cast, ↓reduceIte, Nat.reduceEqDiff, Nat.reduceAdd, reduceCtorEq] <;> rfl) (by exact ConvV.self rfl) ?_
        exact hf_nil
      · exact hh_nil
    · exact ⟨by omega, by omega, by omega, rfl⟩
    · rintro m τ ⟨i, hm, ⟨hi0, hi1, hl, ht⟩, rfl⟩ K hL0
      have hw := fun h : i < (a.length : Int) => wrap_next hi0 h (by omega)
      have hda := fun h : i < (a.length : Int) => dropI_two (l := a) (fun p : ByteArray × Int => PC.c (Value.string p.1)) (fun p : ByteArray × Int => PC.c (Value.int .i64 p.2)) hi0 h
      have hdb := fun h : i < (b.length : Int) => dropI_two (l := b) (fun p : ByteArray × Int => PC.c (Value.string p.1)) (fun p : ByteArray × Int => PC.c (Value.int .i64 p.2)) hi0 h
      refine vwp_seq fun K hK => ?_
      refine vwp_seq_region rfl fun K hK => ?_
      simp (dsimp := false) only [push_cast, hP, hnt, hgw, hgb, Nat.reduceLT, Nat.reduceEqDiff, Nat.reduceAdd, Nat.reduceSub, Nat.reduceMul, Nat.reduceLeDiff, ↓reduceIte, reduceCtorEq, hi0]
      refine hK _ ?_; clear hK
      refine vwp_cond (b := _) (by simp (dsimp := false) only [push_cast, hP, hnt, hgw, hgb, Nat.reduceLT, Nat.reduceEqDiff, Nat.reduceAdd, Nat.reduceSub, Nat.reduceMul, Nat.reduceLeDiff, ↓reduceIte, reduceCtorEq, hi0]; rfl) (fun rb1 => ?_) (fun rb1 => ?_)
      · have hb1 := rb1
        try simp only [beq_iff_eq, bne_iff_ne, ne_eq, bne_eq_false_iff_eq, beq_eq_false_iff_ne, decide_eq_true_eq, decide_eq_false_iff_not, Bool.not_eq_true', Bool.not_eq_false', Bool.or_eq_true, Bool.and_eq_true, Bool.or_eq_false_iff, Bool.and_eq_false_iff] at hb1
        have hw := hw hb1
        have hda := hda hb1
        have hbb : i < (b.length : Int) := by omega
        have hdb := hdb hbb
        refine vwp_skip ?_
        apply_assumption
        refine vwp_seq fun K hK => ?_
        refine vwp_block ?_
        refine vwp_seq_anyF [[], [], [0, 1], [0, 1, 2], [], [], [4, 5], [4, 5, 6], [0, 1, 2, 3, 4, 5, 6, 7]] [([(17, .dead), (18, .dead), (19, .old), (20, .old), (21, .dead), (22, .dead), (23, .dead), (24, .dead), (25, .old)], [18, 19, 20, 21, 22, 23, 24, 25], []), ([(17, .dead), (18, .dead), (19, .old), (20, .old), (21, .dead), (22, .dead), (23, .dead), (24, .dead), (25, .old)], [17, 19, 20, 21, 22, 23, 24, 25], []), ([(17, .dep 1), (18, .dep 0), (19, .dead), (20, .old), (21, .dead), (22, .dead), (23, .dead), (24, .dead), (25, .old)], [20, 21, 22, 23, 24, 25], [1, 0]), ([(17, .dep 2), (18, .dep 1), (19, .dep 0), (20, .dead), (21, .dead), (22, .dead), (23, .dead), (24, .dead), (25, .old)], [21, 22, 23, 24, 25], [2, 1, 0]), ([(17, .dead), (18, .dead), (19, .dead), (20, .dead), (21, .dead), (22, .dead), (23, .old), (24, .old), (25, .old)], [17, 18, 19, 20, 22, 23, 24, 25], []), ([(17, .dead), (18, .dead), (19, .dead), (20, .dead), (21, .dead), (22, .dead), (23, .old), (24, .old), (25, .old)], [17, 18, 19, 20, 21, 23, 24, 25], []), ([(17, .dead), (18, .dead), (19, .dead), (20, .dead), (21, .dep 1), (22, .dep 0), (23, .dead), (24, .old), (25, .old)], [17, 18, 19, 20, 24, 25], [1, 0]), ([(17, .dead), (18, .dead), (19, .dead), (20, .dead), (21, .dep 2), (22, .dep 1), (23, .dep 0), (24, .dead), (25, .old)], [17, 18, 19, 20, 25], [2, 1, 0]), ([(17, .dep 7), (18, .dep 6), (19, .dep 5), (20, .dep 4), (21, .dep 3), (22, .dep 2), (23, .dep 1), (24, .dep 0), (25, .dead)], [], [7, 6, 5, 4, 3, 2, 1, 0])] (by rw [hP]; exact mixed) rfl rfl rfl fun K hK => ?_
        simp (dsimp := false) only [push_cast, hP, hnt, hgw, hgb, Nat.reduceLT, Nat.reduceEqDiff, Nat.reduceAdd, Nat.reduceSub, Nat.reduceMul, Nat.reduceLeDiff, ↓reduceIte, reduceCtorEq, hi0, hw, hda, hdb, hb1, hbb, Nat.reduceBNe, Nat.reduceBEq]
        refine ⟨rfl, ?_⟩
        refine hK _ ?_; clear hK
        refine vwp_cond (b := _) (by simp (dsimp := false) only [push_cast, hP, hnt, hgw, hgb, Nat.reduceLT, Nat.reduceEqDiff, Nat.reduceAdd, Nat.reduceSub, Nat.reduceMul, Nat.reduceLeDiff, ↓reduceIte, reduceCtorEq, hi0, hw, hda, hdb, hb1, hbb]; rfl) (fun rb2 => ?_) (fun rb2 => ?_)
        · have hb2 := rb2
          try simp only [beq_iff_eq, bne_iff_ne, ne_eq, bne_eq_false_iff_eq, beq_eq_false_iff_ne, decide_eq_true_eq, decide_eq_false_iff_not, Bool.not_eq_true', Bool.not_eq_false', Bool.or_eq_true, Bool.and_eq_true, Bool.or_eq_false_iff, Bool.and_eq_false_iff] at hb2
          refine vwp_seq_region rfl fun K hK => ?_
          simp (dsimp := false) only [push_cast, hP, hnt, hgw, hgb, Nat.reduceLT, Nat.reduceEqDiff, Nat.reduceAdd, Nat.reduceSub, Nat.reduceMul, Nat.reduceLeDiff, ↓reduceIte, reduceCtorEq, hi0, hw, hda, hdb, hb1, hbb]
          refine hK _ ?_; clear hK
          refine vwp_ret ?_
          refine ret_free (by simp (dsimp := false) only [push_cast, hP, hnt, hgw, hgb, Nat.reduceLT, Nat.reduceEqDiff, Nat.reduceAdd, Nat.reduceSub, Nat.reduceMul, Nat.reduceLeDiff, ↓reduceIte, reduceCtorEq, hi0, hw, hda, hdb, hb1, hbb]; rfl) (by simp (dsimp := false) only [push_cast, hP, hnt, hgw, hgb, Nat.reduceLT, Nat.reduceEqDiff, Nat.reduceAdd, Nat.reduceSub, Nat.reduceMul, Nat.reduceLeDiff, ↓reduceIte, reduceCtorEq, hi0, hw, hda, hdb, hb1, hbb]) ?_
          rw [decide_eq_false (same_stop (i := i) (fun e => by rw [e] at hb2; simp at hb2))]; rfl
        · have hb2 := rb2
          try simp only [beq_iff_eq, bne_iff_ne, ne_eq, bne_eq_false_iff_eq, beq_eq_false_iff_ne, decide_eq_true_eq, decide_eq_false_iff_not, Bool.not_eq_true', Bool.not_eq_false', Bool.or_eq_true, Bool.and_eq_true, Bool.or_eq_false_iff, Bool.and_eq_false_iff] at hb2
          refine vwp_skip ?_
          apply_assumption
          refine vwp_region rfl ?_
          simp (dsimp := false) only [push_cast, hP, hnt, hgw, hgb, Nat.reduceLT, Nat.reduceEqDiff, Nat.reduceAdd, Nat.reduceSub, Nat.reduceMul, Nat.reduceLeDiff, ↓reduceIte, reduceCtorEq, hi0, hw, hda, hdb, hb1, hbb]
          refine hL0 _ _ _ ?_ ?_ ⟨i + 1, rfl, ?_, rfl⟩
          · omega
          · refine wk_conv [] [] (by simp) (by simp) (by decide) ?_ ?_
            · refine hf_cons (by simp (dsimp := false) only [push_cast, ↓reduceIte, Nat.reduceEqDiff, Nat.reduceAdd, reduceCtorEq, hi0, hw, hda, hdb, hb1, hbb] <;> rfl) (by repeat' (first | exact ConvVs.nil | exact ConvL.nil | refine ConvV.tup ?_ | refine ConvVs.cons ?_ ?_ | (refine ConvV.self ?_; simp only [push_cast]; done) | refine ConvV.one ?_ | refine ConvV.agg ?_ | (refine ConvL.free ?_; simp only [push_cast]; done) | refine ConvL.append ?_ ?_ | refine ConvL.cons ?_ ?_ | exact Conv.free rfl | exact Conv.nil | (refine Conv.own ?_; simp; done) | (refine Conv.loc ?_; simp; done) | refine Conv.frz (by simp) (by simp (dsimp := false) only [push_cast, ↓reduceIte, Nat.reduceEqDiff, Nat.reduceAdd, reduceCtorEq, hi0, hw, hda, hdb, hb1, hbb] <;> rfl) ?_ | refine Conv.sl (by simp) ?_ | refine Conv.fn ?_)) ?_
              refine hf_cons (by simp (dsimp := false) only [push_cast, ↓reduceIte, Nat.reduceEqDiff, Nat.reduceAdd, reduceCtorEq, hi0, hw, hda, hdb, hb1, hbb] <;> rfl) (by repeat' (first | exact ConvVs.nil | exact ConvL.nil | refine ConvV.tup ?_ | refine ConvVs.cons ?_ ?_ | (refine ConvV.self ?_; simp only [push_cast]; done) | refine ConvV.one ?_ | refine ConvV.agg ?_ | (refine ConvL.free ?_; simp only [push_cast]; done) | refine ConvL.append ?_ ?_ | refine ConvL.cons ?_ ?_ | exact Conv.free rfl | exact Conv.nil | (refine Conv.own ?_; simp; done) | (refine Conv.loc ?_; simp; done) | refine Conv.frz (by simp) (by simp (dsimp := false) only [push_cast, ↓reduceIte, Nat.reduceEqDiff, Nat.reduceAdd, reduceCtorEq, hi0, hw, hda, hdb, hb1, hbb] <;> rfl) ?_ | refine Conv.sl (by simp) ?_ | refine Conv.fn ?_)) ?_
              refine hf_cons (by simp (dsimp := false) only [push_cast, ↓reduceIte, Nat.reduceEqDiff, Nat.reduceAdd, reduceCtorEq, hi0, hw, hda, hdb, hb1, hbb] <;> rfl) (by exact ConvV.self rfl) ?_
              exact hf_nil
            · exact hh_nil
          · exact ⟨by omega, by omega, hl, same_next hi0 hb1 hl ht (Prod.ext (toList_eq (by simpa using hb2.1)) (by simpa using hb2.2))⟩
      · have hb1 := rb1
        try simp only [beq_iff_eq, bne_iff_ne, ne_eq, bne_eq_false_iff_eq, beq_eq_false_iff_ne, decide_eq_true_eq, decide_eq_false_iff_not, Bool.not_eq_true', Bool.not_eq_false', Bool.or_eq_true, Bool.and_eq_true, Bool.or_eq_false_iff, Bool.and_eq_false_iff] at hb1
        refine vwp_exit ?_
        simp only [thenQ, blockQ, Nat.reduceEqDiff, reduceIte]
        apply_assumption
        refine vwp_seq_region rfl fun K hK => ?_
        simp (dsimp := false) only [push_cast, hP, hnt, hgw, hgb, Nat.reduceLT, Nat.reduceEqDiff, Nat.reduceAdd, Nat.reduceSub, Nat.reduceMul, Nat.reduceLeDiff, ↓reduceIte, reduceCtorEq, hi0]
        refine hK _ ?_; clear hK
        refine vwp_ret ?_
        refine ret_free (by simp (dsimp := false) only [push_cast, hP, hnt, hgw, hgb, Nat.reduceLT, Nat.reduceEqDiff, Nat.reduceAdd, Nat.reduceSub, Nat.reduceMul, Nat.reduceLeDiff, ↓reduceIte, reduceCtorEq, hi0]; rfl) (by simp (dsimp := false) only [push_cast, hP, hnt, hgw, hgb, Nat.reduceLT, Nat.reduceEqDiff, Nat.reduceAdd, Nat.reduceSub, Nat.reduceMul, Nat.reduceLeDiff, ↓reduceIte, reduceCtorEq, hi0]) ?_
        rw [decide_eq_true (same_end hb1 hl ht)]; rfl
end Go.Vm
end

section
namespace Go.Vm
open Go Go.RowKit Go.Proofs
set_option maxRecDepth 100000
set_option linter.unusedVariables false

theorem toList_inj {a b : ByteArray} : a.toList = b.toList ↔ a = b := ⟨bytes_ext, fun h => by rw [h]⟩

def refCheckG (n : ByteArray) (k : Int) : Int :=
  if n = nm0 ∨ n = nm1 ∨ n = nm2 ∨ n = nm3 ∨ n = nm4 ∨ n = nm5 then (if k < 0 ∨ 0 < k then 2 else 0)
  else if n = nPrefix then (if k < 1 ∨ 8 < k then 2 else 0)
  else if n = nPhases then (if k < 2 ∨ 4 < k then 2 else 0)
  else 12
theorem refCheckG_eq (n : ByteArray) (k : Int) : refCheckF n k = refCheckG n k := by simp only [refCheckF, refCheckG, toList_inj]

theorem check_eq (n : ByteArray) (k : Int) : checkF n k = refCheckF n k := by
  rw [refCheckG_eq]
  unfold checkF refCheckG
  simp only [toList_inj]
  by_cases h : Lib.containsS names8 n = true
  · have h' := (Lib.containsS_iff _ _).1 h
    simp only [names8, List.mem_cons, List.not_mem_nil, or_false] at h'
    have hne : ¬ Lib.containsS names8 n = false := by rw [h]; decide
    rw [if_neg hne]
    have e1 : ∀ m : ByteArray, (m = nm0 ∨ m = nm1 ∨ m = nm2 ∨ m = nm3 ∨ m = nm4 ∨ m = nm5) → ¬ m = nPrefix ∧ ¬ m = nPhases := by
      rintro m (rfl | rfl | rfl | rfl | rfl | rfl) <;> decide
    by_cases h6 : n = nm0 ∨ n = nm1 ∨ n = nm2 ∨ n = nm3 ∨ n = nm4 ∨ n = nm5
    · rw [if_pos h6, if_neg (e1 n h6).1, if_neg (e1 n h6).2]
    · rw [if_neg h6]
      have : n = nPrefix ∨ n = nPhases := by
        rcases h' with h' | h' | h' | h' | h' | h' | h' | h'
        · exact absurd (.inl h') h6
        · exact absurd (.inr (.inl h')) h6
        · exact absurd (.inr (.inr (.inl h'))) h6
        · exact absurd (.inr (.inr (.inr (.inl h')))) h6
        · exact absurd (.inr (.inr (.inr (.inr (.inl h'))))) h6
        · exact absurd (.inr (.inr (.inr (.inr (.inr h'))))) h6
        · exact .inl h'
        · exact .inr h'
      rcases this with rfl | rfl
      · rw [if_pos rfl, if_pos rfl]
      · have hpp : ¬ nPhases = nPrefix := by decide
        simp only [hpp, if_false, if_true]
  · have hno : ∀ m, m ∈ names8 → ¬ n = m := by
      rintro m hm rfl
      exact h ((Lib.containsS_iff _ _).2 hm)
    rw [if_pos (by simpa using h), if_neg, if_neg (hno nPrefix (by simp [names8, nPrefix])), if_neg (hno nPhases (by simp [names8, nPhases]))]
    rintro (h | h | h | h | h | h)
    · exact hno nm0 (by simp [names8, nm0]) h
    · exact hno nm1 (by simp [names8, nm1]) h
    · exact hno nm2 (by simp [names8, nm2]) h
    · exact hno nm3 (by simp [names8, nm3]) h
    · exact hno nm4 (by simp [names8, nm4]) h
    · exact hno nm5 (by simp [names8, nm5]) h

theorem digit_eq (k : Int) (h0 : 0 ≤ k) (h8 : k ≤ 8) : digitsB k = ofBytes [IntKind.wrap .u8 (IntKind.wrap .i64 (48 + k))] := by
  unfold digitsB
  rw [Lib.decDigits_one (by omega)]
  have : k = 0 ∨ k = 1 ∨ k = 2 ∨ k = 3 ∨ k = 4 ∨ k = 5 ∨ k = 6 ∨ k = 7 ∨ k = 8 := by omega
  rcases this with rfl | rfl | rfl | rfl | rfl | rfl | rfl | rfl | rfl <;> decide

theorem text_eq (n : ByteArray) (k : Int) : textF n k = refTextF n k := by
  unfold textF refTextF
  rw [check_eq]
  split
  · rfl
  · rename_i h
    have h0 : refCheckF n k = 0 := by simpa using h
    have hk := checkF_ok (n := n) (k := k) (by rw [check_eq]; exact h0)
    unfold writtenF
    by_cases hk0 : k = 0
    · rw [if_pos hk0, if_neg (by omega)]
    · rw [if_neg hk0, if_pos (by omega), digit_eq k hk.1 hk.2.1]

theorem back17 : ∀ p ∈ refPairs, refCheckG p.1 p.2 = 0 → cutN (writtenF p.1 p.2) = p.1 ∧ atoiV (cutR (writtenF p.1 p.2)) = p.2 := by
  decide +kernel

theorem mem_pairs {n : ByteArray} {k : Int} (h : checkF n k = 0) : (n, k) ∈ refPairs := by
  have hk := checkF_ok h
  have hn : n ∈ names8 := by
    unfold checkF at h
    split at h
    · cases h
    · rename_i hc
      exact (Lib.containsS_iff _ _).1 (by simpa using hc)
  unfold refPairs
  rw [List.mem_flatMap]
  refine ⟨n, hn, ?_⟩
  have : k = 0 ∨ k = 1 ∨ k = 2 ∨ k = 3 ∨ k = 4 ∨ k = 5 ∨ k = 6 ∨ k = 7 ∨ k = 8 := by omega
  rcases this with rfl | rfl | rfl | rfl | rfl | rfl | rfl | rfl | rfl <;> simp

theorem hit_iff {s : ByteArray} {p : ByteArray × Int} (hp : p ∈ refPairs) : refHit s p = true ↔ p = (cutN s, atoiV (cutR s)) ∧ textF (cutN s) (atoiV (cutR s)) = (s, 0) := by
  unfold refHit
  simp only [Bool.and_eq_true, beq_iff_eq]
  constructor
  · rintro ⟨h0, h1⟩
    obtain ⟨hb1, hb2⟩ := back17 p hp (by rw [← refCheckG_eq]; exact h0)
    have hs : writtenF p.1 p.2 = s := bytes_ext h1
    rw [hs] at hb1 hb2
    refine ⟨by rw [hb1, hb2], ?_⟩
    rw [hb1, hb2, text_eq, refTextF, if_neg (by simp [h0]), hs]
  · rintro ⟨rfl, ht⟩
    rw [text_eq, refTextF] at ht
    split at ht
    · rename_i hne
      simp only [Prod.mk.injEq] at ht
      exact absurd ht.2 hne
    · rename_i h0
      simp only [Prod.mk.injEq] at ht
      exact ⟨by simpa using h0, by rw [ht.1]⟩

theorem read_eq (s : ByteArray) : readF s = refReadF s := by
  unfold readF refReadF
  by_cases ht : textF (cutN s) (atoiV (cutR s)) = (s, 0)
  · rw [if_neg (by rw [ht]; simp)]
    have hc : checkF (cutN s) (atoiV (cutR s)) = 0 := by
      unfold textF at ht
      split at ht
      · rename_i hne
        simp only [Prod.mk.injEq] at ht
        exact absurd ht.2 hne
      · rename_i h0; simpa using h0
    have hm := mem_pairs hc
    cases hf : refPairs.find? (refHit s) with
    | none =>
      have := List.find?_eq_none.1 hf _ hm
      exact absurd ((hit_iff hm).2 ⟨rfl, ht⟩) this
    | some p =>
      have hp := List.mem_of_find?_eq_some hf
      have hh := List.find?_some hf
      rw [((hit_iff hp).1 hh).1]
  · have hn : refPairs.find? (refHit s) = none := by
      rw [List.find?_eq_none]
      intro p hp hh
      exact ht ((hit_iff hp).1 hh).2
    rw [hn, if_pos]
    apply Classical.byContradiction
    intro hcon
    simp only [not_or, ne_eq, Classical.not_not] at hcon
    exact ht (Prod.ext (bytes_ext hcon.2) hcon.1)


theorem textP_written (p : ByteArray × Int) (h : checkF p.1 p.2 = 0) : textP p = writtenP p := by
  unfold textP
  rw [text_eq, refTextF, if_neg (by rw [← check_eq]; simp [h])]; rfl
theorem first_eq : ∀ l : List (ByteArray × Int), firstE l = firstR l
  | [] => rfl
  | p :: l => by unfold firstE firstR; rw [check_eq, first_eq l]
theorem checks_eq (l : List (ByteArray × Int)) : checksF l = checksR l := by unfold checksF checksR; rw [first_eq]
theorem passes_eq (l : List (ByteArray × Int)) : passesR l = passesF l := by
  unfold passesR passesF
  rw [← checks_eq]
  split
  · rfl
  · rename_i h
    have h : checksF l = 0 := by simpa using h
    unfold lstF
    rw [List.map_congr_left fun p hp => (textP_written p (firstE_mem (checksF_zero h).2 p hp)).symm]
theorem reads_eq : ∀ L : List ByteArray, readsG readF L = readsG refReadF L
  | [] => rfl
  | w :: L => by unfold readsG; rw [read_eq, reads_eq L]
theorem readPass_eq (s : ByteArray) : readPassR s = readPassF s := by
  unfold readPassR readPassF readPassG
  rw [reads_eq]
  simp only [checks_eq]

theorem readsG_len (rd : ByteArray → ByteArray × Int × Int) : ∀ (L : List ByteArray) (l : List (ByteArray × Int)), readsG rd L = some l → l.length = L.length
  | [], l, h => by simp [readsG] at h; subst h; rfl
  | w :: L, l, h => by
    unfold readsG at h
    split at h
    · obtain ⟨l', hl, rfl⟩ := Option.map_eq_some_iff.1 h
      simp [readsG_len rd L l' hl]
    · cases h
theorem readPassF_len (s : ByteArray) (hs : s.size ≤ 100000) : (readPassF s).1.length ≤ 1000000 := by
  unfold readPassF readPassG
  split
  · simp
  · split
    · simp
    · rename_i l hl
      split
      · have := readsG_len _ _ _ hl
        have := pieces_len s 44
        simp only; omega
      · simp

/-! ### Engines -/
theorem splitC_hit {c : UInt8} {s : ByteArray} {x r : List UInt8} (hs : s.data.toList = x ++ c :: r) (h : c ∉ x) : splitS s ⟨#[c]⟩ = bOf x :: splitS (bOf r) ⟨#[c]⟩ := by
  have hi : Lib.indexB s ⟨#[c]⟩ = (x.length : Int) := by
    show Lib.index s.data.toList [c] = _
    rw [hs]; exact index_hit c x r h
  have hsz : s.size = x.length + (r.length + 1) := by rw [size_list, hs]; simp
  have h1 : (⟨#[c]⟩ : ByteArray).size = 1 := rfl
  have e1 : s.extract 0 (x.length + 0) = bOf x := bOf_ext (by rw [ext_data, hs]; simp)
  have e2 : s.extract (x.length + (⟨#[c]⟩ : ByteArray).size) s.size = bOf r := bOf_ext (by
    rw [ext_data, hs, hsz, h1]
    have h3 : (x ++ c :: r).drop (x.length + 1) = r := by simp
    rw [h3, List.take_of_length_le (by omega)])
  unfold splitS
  rw [Lib.countB_hit s ⟨#[c]⟩ x.length (by rw [h1]; omega) hi, Nat.add_comm, Lib.splitB_hit ⟨#[c]⟩ 0 _ s x.length hi, e1, e2]
theorem splitC_miss {c : UInt8} {s : ByteArray} (h : c ∉ s.data.toList) : splitS s ⟨#[c]⟩ = [s] := by
  have hi : Lib.indexB s ⟨#[c]⟩ = -1 := index_miss c _ h
  unfold splitS
  exact Lib.splitB_miss ⟨#[c]⟩ 0 _ s hi
theorem dec_len_k : ∀ k u, u < 10 ^ (k + 1) → (Lib.decDigits u).length ≤ k + 1
  | 0, u, h => by rw [Lib.decDigits_one (by simpa using h)]; simp
  | k + 1, u, h => by
    by_cases h1 : u < 10
    · rw [Lib.decDigits_one h1]; simp
    · rw [Lib.decDigits, dif_neg h1, List.length_append]
      have := dec_len_k k (u / 10) (by rw [Nat.pow_succ] at h; omega)
      simp; omega
theorem numF_digL {n : Int} (h0 : 0 ≤ n) (h1 : n ≤ 1000000) : numF (digB n) = n := by
  have hp := parse_dec n.toNat (by omega)
  have ha : Lib.atoiAll (Lib.decDigits n.toNat) = .ok n := by
    have hd := dec_digits n.toNat
    have hne := dec_ne n.toNat
    unfold Lib.atoiAll
    split
    · rename_i h; exact absurd h hne
    · rename_i c r h
      have hc := hd c (by rw [h]; simp)
      simp only
      rw [if_neg (by omega), Lib.parseMag, if_neg hne, hp]
      simp only
      rw [if_neg (by omega), if_neg (by omega), if_neg (by omega)]
      congr 1; omega
  have hv : atoiV (digB n) = n := by unfold atoiV; rw [digB_data, ha]
  have ho : atoiOk (digB n) = true := by unfold atoiOk; rw [digB_data, ha]
  unfold numF
  rw [if_pos ⟨ho, by rw [hv]; exact h0, by rw [hv, digB_eq h0]⟩, hv]
theorem numR_digL {n : Int} (h0 : 0 ≤ n) (h1 : n ≤ 1000000) : numR (digB n) = n := by
  have ht : (digB n).data.toList.take 8 = Lib.decDigits n.toNat := by
    rw [digB_data, List.take_of_length_le]
    have := dec_len_k 6 n.toNat (by omega); omega
  have hn : numGo ((digB n).data.toList.take 8) = n := by rw [ht, numGo_dec]; omega
  unfold numR
  rw [hn, if_pos ⟨h0, rfl⟩]
theorem eng_data {x : Eng} (h : engP x) : (engT x).data.toList = (engW x).data.toList ++ 32 :: ((digB x.num).data.toList ++ 32 :: (digB x.bud).data.toList) := by
  unfold engT
  rw [digB_eq h.1, digB_eq (eng_num h).1, data_app, data_app, data_app, data_app, sp_data]
  simp
theorem engW_no (x : Eng) : (32 : UInt8) ∉ (engW x).data.toList := by unfold engW; split <;> decide
theorem bOf_self (s : ByteArray) : bOf s.data.toList = s := (bOf_ext rfl).symm
theorem PE_eng {x : Eng} (h : engP x) : PE (engT x) = [engW x, digB x.num, digB x.bud] := by
  unfold PE
  rw [splitC_hit (eng_data h) (engW_no x), bOf_self, splitC_hit (s := bOf _) rfl (no_dig (by decide) x.num), bOf_self, splitC_miss (c := 32) (s := bOf (digB x.bud).data.toList) (no_dig (by decide) x.bud), bOf_self]
theorem PR_eng {x : Eng} (h : engP x) : PR (engT x) = [engW x, digB x.num, digB x.bud] := by
  unfold PR
  rw [pieces_hit (eng_data h) (engW_no x), bOf_self, pieces_hit (s := bOf _) rfl (no_dig (by decide) x.num), bOf_self]
  have hm : Lib.indexByte (bOf (digB x.bud).data.toList).data.toList 32 < 0 := by
    apply Int.not_le.1
    intro hge
    obtain ⟨y, r, e, _⟩ := indexByte_hit 32 _ hge
    exact no_dig (c := 32) (by decide) x.bud (by rw [show (digB x.bud).data.toList = (bOf (digB x.bud).data.toList).data.toList from rfl, e]; simp)
  rw [pieces_miss hm, bOf_self]
theorem engW_back (x : Eng) : ((engW x).toList == (⟨#[112, 100, 114]⟩ : ByteArray).toList) = x.pdr := by
  unfold engW
  cases x.pdr
  · show ((bOf [98, 109, 99]).toList == (bOf [112, 100, 114]).toList) = false
    rw [bOf_toList, bOf_toList]; decide
  · show ((bOf [112, 100, 114]).toList == (bOf [112, 100, 114]).toList) = true
    rw [bOf_toList]; decide
theorem engF_back {x : Eng} (h : engP x) : engOf numF (PE (engT x)) = x := by
  have h1 := eng_num h
  rw [PE_eng h]
  show Eng.mk ((engW x).toList == (⟨#[112, 100, 114]⟩ : ByteArray).toList) (numF (digB x.num)) (numF (digB x.bud)) = x
  rw [engW_back, numF_digL h1.1 (by omega), numF_digL h.1 (by have := h.2.1; omega)]
theorem engR_back {x : Eng} (h : engP x) : engOf numR (PR (engT x)) = x := by
  have h1 := eng_num h
  rw [PR_eng h]
  show Eng.mk ((engW x).toList == (⟨#[112, 100, 114]⟩ : ByteArray).toList) (numR (digB x.num)) (numR (digB x.bud)) = x
  rw [engW_back, numR_digL h1.1 (by omega), numR_digL h.1 (by have := h.2.1; omega)]
theorem readEng_of {x : Eng} (h : engP x) : readEngF (engT x) = (x, 0) ∧ readEngR (engT x) = (x, 0) := by
  constructor
  · rw [readEng_ok (by rw [PE_eng h]; rfl) (by rw [engF_back h, engineF_ok (engE_ok h)]; simp), engF_back h]
  · rw [readEngR_ok (by rw [PR_eng h]; rfl) (by rw [engR_back h, engE_ok h, engSA_eq h]; simp), engR_back h]
theorem readEng_cases (s : ByteArray) : readEngF s = (engZ, 12) ∨ ∃ x, engP x ∧ s = engT x ∧ readEngF s = (x, 0) := by
  unfold readEngF
  split
  · exact .inl rfl
  · split
    · exact .inl rfl
    · rename_i h
      simp only [not_or, ne_eq, Classical.not_not] at h
      have hz : engE (engOf numF (PE s)) = 0 := by
        apply Classical.byContradiction
        intro hz
        rw [engineF_bad hz] at h
        exact hz h.1
      rw [engineF_ok hz] at h
      exact .inr ⟨_, engE_zero hz, toList_eq h.2.symm, rfl⟩
theorem readEngR_cases (s : ByteArray) : readEngR s = (engZ, 12) ∨ ∃ x, engP x ∧ s = engT x ∧ readEngR s = (x, 0) := by
  unfold readEngR
  split
  · exact .inl rfl
  · split
    · exact .inl rfl
    · rename_i h
      simp only [not_or, ne_eq, Classical.not_not] at h
      have hp := engE_zero h.1
      rw [engSA_eq hp] at h
      exact .inr ⟨_, hp, toList_eq h.2.symm, rfl⟩
theorem readEng_eq (s : ByteArray) : readEngR s = readEngF s := by
  rcases readEng_cases s with h1 | ⟨x, hp, rfl, h1⟩
  · rcases readEngR_cases s with h2 | ⟨x, hp, rfl, h2⟩
    · rw [h1, h2]
    · rw [(readEng_of hp).1, (readEng_of hp).2]
  · rw [(readEng_of hp).1, (readEng_of hp).2]
end Go.Vm
end
