/-
  Walks of the program's functions by the framework, and what they compute (PtH). Conditions: each theorem's own premises. By an AI agent.
-/
import Derived.Test.YtnpbndglolcilaaDoorPtG
section
namespace Go.Vm
open Go Go.RowKit Go.Proofs
set_option maxRecDepth 100000
set_option linter.unusedSimpArgs false
set_option linter.unusedVariables false
set_option maxHeartbeats 4000000

def restF (line word : ByteArray) : ByteArray := if line.size < word.size + 1 ∨ (line.extract 0 (word.size + 1)).toList ≠ (word ++ spB).toList then ⟨#[]⟩ else line.extract (word.size + 1) line.size
theorem rest_short (gw : World) (gb : Nat) (line word : ByteArray) (hw : word.size ≤ 1000) (h : line.size < word.size + 1) : VCall Tryd.prog gw (gb) 57 [.one (.c (.string line)), .one (.c (.string word))] (.one (.c (.string (restF line word)))) [] := by
  have hwn : IntKind.wrap .i64 ((word.size : Int) + 1) = ((word.size : Int) + 1) := by rw [IntKind.wrap_i64]; omega
  have hsz : word.size + (⟨#[32]⟩ : ByteArray).size ≤ 9223372036854775807 := by have : (⟨#[32]⟩ : ByteArray).size = 1 := rfl; omega
  have hnn : (0 : Int) ≤ (word.size : Int) + 1 := by omega
  have htn : ((word.size : Int) + 1).toNat = word.size + 1 := by omega
  have hlt : decide ((line.size : Int) < (word.size : Int) + 1) = true := decide_eq_true (by omega)
  refine vcall_of [.tmp 4] Tryd.func57 rfl rfl Tryd.ntmps57 rfl (by simp) ?_
  intro C hP hnt hgw hgb hfull
  refine vwp_seq_region rfl fun K hK => ?_
  simp (dsimp := false) only [push_cast, hP, hnt, hgw, hgb, Nat.reduceLT, Nat.reduceEqDiff, Nat.reduceAdd, Nat.reduceSub, Nat.reduceMul, Nat.reduceLeDiff, ↓reduceIte, reduceCtorEq, hwn, hsz, hlt, hnn, htn]
  refine hK _ ?_; clear hK
  refine vwp_seq_region rfl fun K hK => ?_
  simp (dsimp := false) only [push_cast, hP, hnt, hgw, hgb, Nat.reduceLT, Nat.reduceEqDiff, Nat.reduceAdd, Nat.reduceSub, Nat.reduceMul, Nat.reduceLeDiff, ↓reduceIte, reduceCtorEq, hwn, hsz, hlt, hnn, htn]
  refine hK _ ?_; clear hK
  refine vwp_seq fun K hK => ?_
  refine vwp_seq_regionG fun K hK => ?_
  simp (dsimp := false) only [push_cast, hP, hnt, hgw, hgb, Nat.reduceLT, Nat.reduceEqDiff, Nat.reduceAdd, Nat.reduceSub, Nat.reduceMul, Nat.reduceLeDiff, ↓reduceIte, reduceCtorEq, hwn, hsz, hlt, hnn, htn]
  refine guardR_skip (by first | (simp (dsimp := false) only [push_cast, hP, hnt, hgw, hgb, Nat.reduceLT, Nat.reduceEqDiff, Nat.reduceAdd, Nat.reduceSub, Nat.reduceMul, Nat.reduceLeDiff, ↓reduceIte, reduceCtorEq, hwn, hsz, hlt, hnn, htn, List.getElem?_cons_zero, List.getElem?_cons_succ]; rfl) | (simp (dsimp := false) only [push_cast, hP, hnt, hgw, hgb, Nat.reduceLT, Nat.reduceEqDiff, Nat.reduceAdd, Nat.reduceSub, Nat.reduceMul, Nat.reduceLeDiff, ↓reduceIte, reduceCtorEq, hwn, hsz, hlt, hnn, htn, List.getElem?_cons_zero, List.getElem?_cons_succ]; done)) (by simp) ⟨by first | trivial | (simp (dsimp := false) only [push_cast, hP, hnt, hgw, hgb, Nat.reduceLT, Nat.reduceEqDiff, Nat.reduceAdd, Nat.reduceSub, Nat.reduceMul, Nat.reduceLeDiff, ↓reduceIte, reduceCtorEq, hwn, hsz, hlt, hnn, htn]; done), ?_⟩
  simp (dsimp := false) only [push_cast, hP, hnt, hgw, hgb, Nat.reduceLT, Nat.reduceEqDiff, Nat.reduceAdd, Nat.reduceSub, Nat.reduceMul, Nat.reduceLeDiff, ↓reduceIte, reduceCtorEq, hwn, hsz, hlt, hnn, htn]
  refine guardR_skip (by first | (simp (dsimp := false) only [push_cast, hP, hnt, hgw, hgb, Nat.reduceLT, Nat.reduceEqDiff, Nat.reduceAdd, Nat.reduceSub, Nat.reduceMul, Nat.reduceLeDiff, ↓reduceIte, reduceCtorEq, hwn, hsz, hlt, hnn, htn, List.getElem?_cons_zero, List.getElem?_cons_succ]; rfl) | (simp (dsimp := false) only [push_cast, hP, hnt, hgw, hgb, Nat.reduceLT, Nat.reduceEqDiff, Nat.reduceAdd, Nat.reduceSub, Nat.reduceMul, Nat.reduceLeDiff, ↓reduceIte, reduceCtorEq, hwn, hsz, hlt, hnn, htn, List.getElem?_cons_zero, List.getElem?_cons_succ]; done)) (by simp) ⟨by first | trivial | (simp (dsimp := false) only [push_cast, hP, hnt, hgw, hgb, Nat.reduceLT, Nat.reduceEqDiff, Nat.reduceAdd, Nat.reduceSub, Nat.reduceMul, Nat.reduceLeDiff, ↓reduceIte, reduceCtorEq, hwn, hsz, hlt, hnn, htn]; done), ?_⟩
  simp (dsimp := false) only [push_cast, hP, hnt, hgw, hgb, Nat.reduceLT, Nat.reduceEqDiff, Nat.reduceAdd, Nat.reduceSub, Nat.reduceMul, Nat.reduceLeDiff, ↓reduceIte, reduceCtorEq, hwn, hsz, hlt, hnn, htn]
  refine guardR_skip (by first | (simp (dsimp := false) only [push_cast, hP, hnt, hgw, hgb, Nat.reduceLT, Nat.reduceEqDiff, Nat.reduceAdd, Nat.reduceSub, Nat.reduceMul, Nat.reduceLeDiff, ↓reduceIte, reduceCtorEq, hwn, hsz, hlt, hnn, htn, List.getElem?_cons_zero, List.getElem?_cons_succ]; rfl) | (simp (dsimp := false) only [push_cast, hP, hnt, hgw, hgb, Nat.reduceLT, Nat.reduceEqDiff, Nat.reduceAdd, Nat.reduceSub, Nat.reduceMul, Nat.reduceLeDiff, ↓reduceIte, reduceCtorEq, hwn, hsz, hlt, hnn, htn, List.getElem?_cons_zero, List.getElem?_cons_succ]; done)) (by simp) ⟨by first | trivial | (simp (dsimp := false) only [push_cast, hP, hnt, hgw, hgb, Nat.reduceLT, Nat.reduceEqDiff, Nat.reduceAdd, Nat.reduceSub, Nat.reduceMul, Nat.reduceLeDiff, ↓reduceIte, reduceCtorEq, hwn, hsz, hlt, hnn, htn]; done), ?_⟩
  simp (dsimp := false) only [push_cast, hP, hnt, hgw, hgb, Nat.reduceLT, Nat.reduceEqDiff, Nat.reduceAdd, Nat.reduceSub, Nat.reduceMul, Nat.reduceLeDiff, ↓reduceIte, reduceCtorEq, hwn, hsz, hlt, hnn, htn]
  refine guardR_skip (by first | (simp (dsimp := false) only [push_cast, hP, hnt, hgw, hgb, Nat.reduceLT, Nat.reduceEqDiff, Nat.reduceAdd, Nat.reduceSub, Nat.reduceMul, Nat.reduceLeDiff, ↓reduceIte, reduceCtorEq, hwn, hsz, hlt, hnn, htn, List.getElem?_cons_zero, List.getElem?_cons_succ]; rfl) | (simp (dsimp := false) only [push_cast, hP, hnt, hgw, hgb, Nat.reduceLT, Nat.reduceEqDiff, Nat.reduceAdd, Nat.reduceSub, Nat.reduceMul, Nat.reduceLeDiff, ↓reduceIte, reduceCtorEq, hwn, hsz, hlt, hnn, htn, List.getElem?_cons_zero, List.getElem?_cons_succ]; done)) (by simp) ⟨by first | trivial | (simp (dsimp := false) only [push_cast, hP, hnt, hgw, hgb, Nat.reduceLT, Nat.reduceEqDiff, Nat.reduceAdd, Nat.reduceSub, Nat.reduceMul, Nat.reduceLeDiff, ↓reduceIte, reduceCtorEq, hwn, hsz, hlt, hnn, htn]; done), ?_⟩
  simp (dsimp := false) only [push_cast, hP, hnt, hgw, hgb, Nat.reduceLT, Nat.reduceEqDiff, Nat.reduceAdd, Nat.reduceSub, Nat.reduceMul, Nat.reduceLeDiff, ↓reduceIte, reduceCtorEq, hwn, hsz, hlt, hnn, htn]
  refine guardR_skip (by first | (simp (dsimp := false) only [push_cast, hP, hnt, hgw, hgb, Nat.reduceLT, Nat.reduceEqDiff, Nat.reduceAdd, Nat.reduceSub, Nat.reduceMul, Nat.reduceLeDiff, ↓reduceIte, reduceCtorEq, hwn, hsz, hlt, hnn, htn, List.getElem?_cons_zero, List.getElem?_cons_succ]; rfl) | (simp (dsimp := false) only [push_cast, hP, hnt, hgw, hgb, Nat.reduceLT, Nat.reduceEqDiff, Nat.reduceAdd, Nat.reduceSub, Nat.reduceMul, Nat.reduceLeDiff, ↓reduceIte, reduceCtorEq, hwn, hsz, hlt, hnn, htn, List.getElem?_cons_zero, List.getElem?_cons_succ]; done)) (by simp) ⟨by first | trivial | (simp (dsimp := false) only [push_cast, hP, hnt, hgw, hgb, Nat.reduceLT, Nat.reduceEqDiff, Nat.reduceAdd, Nat.reduceSub, Nat.reduceMul, Nat.reduceLeDiff, ↓reduceIte, reduceCtorEq, hwn, hsz, hlt, hnn, htn]; done), ?_⟩
  simp (dsimp := false) only [push_cast, hP, hnt, hgw, hgb, Nat.reduceLT, Nat.reduceEqDiff, Nat.reduceAdd, Nat.reduceSub, Nat.reduceMul, Nat.reduceLeDiff, ↓reduceIte, reduceCtorEq, hwn, hsz, hlt, hnn, htn]
  refine guardR_skip (by first | (simp (dsimp := false) only [push_cast, hP, hnt, hgw, hgb, Nat.reduceLT, Nat.reduceEqDiff, Nat.reduceAdd, Nat.reduceSub, Nat.reduceMul, Nat.reduceLeDiff, ↓reduceIte, reduceCtorEq, hwn, hsz, hlt, hnn, htn, List.getElem?_cons_zero, List.getElem?_cons_succ]; rfl) | (simp (dsimp := false) only [push_cast, hP, hnt, hgw, hgb, Nat.reduceLT, Nat.reduceEqDiff, Nat.reduceAdd, Nat.reduceSub, Nat.reduceMul, Nat.reduceLeDiff, ↓reduceIte, reduceCtorEq, hwn, hsz, hlt, hnn, htn, List.getElem?_cons_zero, List.getElem?_cons_succ]; done)) (by simp) ⟨by first | trivial | (simp (dsimp := false) only [push_cast, hP, hnt, hgw, hgb, Nat.reduceLT, Nat.reduceEqDiff, Nat.reduceAdd, Nat.reduceSub, Nat.reduceMul, Nat.reduceLeDiff, ↓reduceIte, reduceCtorEq, hwn, hsz, hlt, hnn, htn]; done), ?_⟩
  simp (dsimp := false) only [push_cast, hP, hnt, hgw, hgb, Nat.reduceLT, Nat.reduceEqDiff, Nat.reduceAdd, Nat.reduceSub, Nat.reduceMul, Nat.reduceLeDiff, ↓reduceIte, reduceCtorEq, hwn, hsz, hlt, hnn, htn]
  refine hK _ ?_; clear hK
  refine vwp_cond (b := _) (by simp (dsimp := false) only [push_cast, hP, hnt, hgw, hgb, Nat.reduceLT, Nat.reduceEqDiff, Nat.reduceAdd, Nat.reduceSub, Nat.reduceMul, Nat.reduceLeDiff, ↓reduceIte, reduceCtorEq, hwn, hsz, hlt, hnn, htn]; rfl) (fun rb0 => ?_) (fun rb0 => ?_)
  · have hb0 := rb0
    try simp only [beq_iff_eq, bne_iff_ne, ne_eq, bne_eq_false_iff_eq, beq_eq_false_iff_ne, decide_eq_true_eq, decide_eq_false_iff_not, Bool.not_eq_true', Bool.not_eq_false', Bool.or_eq_true, Bool.and_eq_true, Bool.or_eq_false_iff, Bool.and_eq_false_iff] at hb0
    refine vwp_seq_region rfl fun K hK => ?_
    simp (dsimp := false) only [push_cast, hP, hnt, hgw, hgb, Nat.reduceLT, Nat.reduceEqDiff, Nat.reduceAdd, Nat.reduceSub, Nat.reduceMul, Nat.reduceLeDiff, ↓reduceIte, reduceCtorEq, hwn, hsz, hlt, hnn, htn]
    refine hK _ ?_; clear hK
    refine vwp_ret ?_
    refine ret_free (by simp (dsimp := false) only [push_cast, hP, hnt, hgw, hgb, Nat.reduceLT, Nat.reduceEqDiff, Nat.reduceAdd, Nat.reduceSub, Nat.reduceMul, Nat.reduceLeDiff, ↓reduceIte, reduceCtorEq, hwn, hsz, hlt, hnn, htn]; rfl) (by simp (dsimp := false) only [push_cast, hP, hnt, hgw, hgb, Nat.reduceLT, Nat.reduceEqDiff, Nat.reduceAdd, Nat.reduceSub, Nat.reduceMul, Nat.reduceLeDiff, ↓reduceIte, reduceCtorEq, hwn, hsz, hlt, hnn, htn]) ?_
    rw [show restF line word = ⟨#[]⟩ from if_pos (.inl h)]; rfl
  · have hb0 := rb0
    try simp only [beq_iff_eq, bne_iff_ne, ne_eq, bne_eq_false_iff_eq, beq_eq_false_iff_ne, decide_eq_true_eq, decide_eq_false_iff_not, Bool.not_eq_true', Bool.not_eq_false', Bool.or_eq_true, Bool.and_eq_true, Bool.or_eq_false_iff, Bool.and_eq_false_iff] at hb0
    cases rb0
theorem rest_long (gw : World) (gb : Nat) (line word : ByteArray) (hw : word.size ≤ 1000) (h : word.size + 1 ≤ line.size) : VCall Tryd.prog gw (gb) 57 [.one (.c (.string line)), .one (.c (.string word))] (.one (.c (.string (restF line word)))) [] := by
  have hwn : IntKind.wrap .i64 ((word.size : Int) + 1) = ((word.size : Int) + 1) := by rw [IntKind.wrap_i64]; omega
  have hsz : word.size + (⟨#[32]⟩ : ByteArray).size ≤ 9223372036854775807 := by have : (⟨#[32]⟩ : ByteArray).size = 1 := rfl; omega
  have hnn : (0 : Int) ≤ (word.size : Int) + 1 := by omega
  have htn : ((word.size : Int) + 1).toNat = word.size + 1 := by omega
  have hlt : decide ((line.size : Int) < (word.size : Int) + 1) = false := decide_eq_false (by omega)
  have hle : (word.size : Int) + 1 ≤ (line.size : Int) := by omega
  have hll : (line.size : Int) ≤ (line.size : Int) := Int.le_refl _
  refine vcall_of [.tmp 4] Tryd.func57 rfl rfl Tryd.ntmps57 rfl (by simp) ?_
  intro C hP hnt hgw hgb hfull
  refine vwp_seq_region rfl fun K hK => ?_
  simp (dsimp := false) only [push_cast, hP, hnt, hgw, hgb, Nat.reduceLT, Nat.reduceEqDiff, Nat.reduceAdd, Nat.reduceSub, Nat.reduceMul, Nat.reduceLeDiff, ↓reduceIte, reduceCtorEq, hwn, hsz, hlt, hnn, htn, hle, hll]
  refine hK _ ?_; clear hK
  refine vwp_seq_region rfl fun K hK => ?_
  simp (dsimp := false) only [push_cast, hP, hnt, hgw, hgb, Nat.reduceLT, Nat.reduceEqDiff, Nat.reduceAdd, Nat.reduceSub, Nat.reduceMul, Nat.reduceLeDiff, ↓reduceIte, reduceCtorEq, hwn, hsz, hlt, hnn, htn, hle, hll]
  refine hK _ ?_; clear hK
  refine vwp_seq fun K hK => ?_
  refine vwp_seq_regionG fun K hK => ?_
  simp (dsimp := false) only [push_cast, hP, hnt, hgw, hgb, Nat.reduceLT, Nat.reduceEqDiff, Nat.reduceAdd, Nat.reduceSub, Nat.reduceMul, Nat.reduceLeDiff, ↓reduceIte, reduceCtorEq, hwn, hsz, hlt, hnn, htn, hle, hll]
  refine guardR_run (by first | (simp (dsimp := false) only [push_cast, hP, hnt, hgw, hgb, Nat.reduceLT, Nat.reduceEqDiff, Nat.reduceAdd, Nat.reduceSub, Nat.reduceMul, Nat.reduceLeDiff, ↓reduceIte, reduceCtorEq, hwn, hsz, hlt, hnn, htn, hle, hll, List.getElem?_cons_zero, List.getElem?_cons_succ]; rfl) | (simp (dsimp := false) only [push_cast, hP, hnt, hgw, hgb, Nat.reduceLT, Nat.reduceEqDiff, Nat.reduceAdd, Nat.reduceSub, Nat.reduceMul, Nat.reduceLeDiff, ↓reduceIte, reduceCtorEq, hwn, hsz, hlt, hnn, htn, hle, hll, List.getElem?_cons_zero, List.getElem?_cons_succ]; done)) ?_
  simp (dsimp := false) only [push_cast, hP, hnt, hgw, hgb, Nat.reduceLT, Nat.reduceEqDiff, Nat.reduceAdd, Nat.reduceSub, Nat.reduceMul, Nat.reduceLeDiff, ↓reduceIte, reduceCtorEq, hwn, hsz, hlt, hnn, htn, hle, hll]
  refine guardR_run (by first | (simp (dsimp := false) only [push_cast, hP, hnt, hgw, hgb, Nat.reduceLT, Nat.reduceEqDiff, Nat.reduceAdd, Nat.reduceSub, Nat.reduceMul, Nat.reduceLeDiff, ↓reduceIte, reduceCtorEq, hwn, hsz, hlt, hnn, htn, hle, hll, List.getElem?_cons_zero, List.getElem?_cons_succ]; rfl) | (simp (dsimp := false) only [push_cast, hP, hnt, hgw, hgb, Nat.reduceLT, Nat.reduceEqDiff, Nat.reduceAdd, Nat.reduceSub, Nat.reduceMul, Nat.reduceLeDiff, ↓reduceIte, reduceCtorEq, hwn, hsz, hlt, hnn, htn, hle, hll, List.getElem?_cons_zero, List.getElem?_cons_succ]; done)) ?_
  simp (dsimp := false) only [push_cast, hP, hnt, hgw, hgb, Nat.reduceLT, Nat.reduceEqDiff, Nat.reduceAdd, Nat.reduceSub, Nat.reduceMul, Nat.reduceLeDiff, ↓reduceIte, reduceCtorEq, hwn, hsz, hlt, hnn, htn, hle, hll]
  refine guardR_run (by first | (simp (dsimp := false) only [push_cast, hP, hnt, hgw, hgb, Nat.reduceLT, Nat.reduceEqDiff, Nat.reduceAdd, Nat.reduceSub, Nat.reduceMul, Nat.reduceLeDiff, ↓reduceIte, reduceCtorEq, hwn, hsz, hlt, hnn, htn, hle, hll, List.getElem?_cons_zero, List.getElem?_cons_succ]; rfl) | (simp (dsimp := false) only [push_cast, hP, hnt, hgw, hgb, Nat.reduceLT, Nat.reduceEqDiff, Nat.reduceAdd, Nat.reduceSub, Nat.reduceMul, Nat.reduceLeDiff, ↓reduceIte, reduceCtorEq, hwn, hsz, hlt, hnn, htn, hle, hll, List.getElem?_cons_zero, List.getElem?_cons_succ]; done)) ?_
  simp (dsimp := false) only [push_cast, hP, hnt, hgw, hgb, Nat.reduceLT, Nat.reduceEqDiff, Nat.reduceAdd, Nat.reduceSub, Nat.reduceMul, Nat.reduceLeDiff, ↓reduceIte, reduceCtorEq, hwn, hsz, hlt, hnn, htn, hle, hll]
  refine guardR_run (by first | (simp (dsimp := false) only [push_cast, hP, hnt, hgw, hgb, Nat.reduceLT, Nat.reduceEqDiff, Nat.reduceAdd, Nat.reduceSub, Nat.reduceMul, Nat.reduceLeDiff, ↓reduceIte, reduceCtorEq, hwn, hsz, hlt, hnn, htn, hle, hll, List.getElem?_cons_zero, List.getElem?_cons_succ]; rfl) | (simp (dsimp := false) only [push_cast, hP, hnt, hgw, hgb, Nat.reduceLT, Nat.reduceEqDiff, Nat.reduceAdd, Nat.reduceSub, Nat.reduceMul, Nat.reduceLeDiff, ↓reduceIte, reduceCtorEq, hwn, hsz, hlt, hnn, htn, hle, hll, List.getElem?_cons_zero, List.getElem?_cons_succ]; done)) ?_
  simp (dsimp := false) only [push_cast, hP, hnt, hgw, hgb, Nat.reduceLT, Nat.reduceEqDiff, Nat.reduceAdd, Nat.reduceSub, Nat.reduceMul, Nat.reduceLeDiff, ↓reduceIte, reduceCtorEq, hwn, hsz, hlt, hnn, htn, hle, hll]
  refine guardR_run (by first | (simp (dsimp := false) only [push_cast, hP, hnt, hgw, hgb, Nat.reduceLT, Nat.reduceEqDiff, Nat.reduceAdd, Nat.reduceSub, Nat.reduceMul, Nat.reduceLeDiff, ↓reduceIte, reduceCtorEq, hwn, hsz, hlt, hnn, htn, hle, hll, List.getElem?_cons_zero, List.getElem?_cons_succ]; rfl) | (simp (dsimp := false) only [push_cast, hP, hnt, hgw, hgb, Nat.reduceLT, Nat.reduceEqDiff, Nat.reduceAdd, Nat.reduceSub, Nat.reduceMul, Nat.reduceLeDiff, ↓reduceIte, reduceCtorEq, hwn, hsz, hlt, hnn, htn, hle, hll, List.getElem?_cons_zero, List.getElem?_cons_succ]; done)) ?_
  simp (dsimp := false) only [push_cast, hP, hnt, hgw, hgb, Nat.reduceLT, Nat.reduceEqDiff, Nat.reduceAdd, Nat.reduceSub, Nat.reduceMul, Nat.reduceLeDiff, ↓reduceIte, reduceCtorEq, hwn, hsz, hlt, hnn, htn, hle, hll]
  refine guardR_run (by first | (simp (dsimp := false) only [push_cast, hP, hnt, hgw, hgb, Nat.reduceLT, Nat.reduceEqDiff, Nat.reduceAdd, Nat.reduceSub, Nat.reduceMul, Nat.reduceLeDiff, ↓reduceIte, reduceCtorEq, hwn, hsz, hlt, hnn, htn, hle, hll, List.getElem?_cons_zero, List.getElem?_cons_succ]; rfl) | (simp (dsimp := false) only [push_cast, hP, hnt, hgw, hgb, Nat.reduceLT, Nat.reduceEqDiff, Nat.reduceAdd, Nat.reduceSub, Nat.reduceMul, Nat.reduceLeDiff, ↓reduceIte, reduceCtorEq, hwn, hsz, hlt, hnn, htn, hle, hll, List.getElem?_cons_zero, List.getElem?_cons_succ]; done)) ?_
  simp (dsimp := false) only [push_cast, hP, hnt, hgw, hgb, Nat.reduceLT, Nat.reduceEqDiff, Nat.reduceAdd, Nat.reduceSub, Nat.reduceMul, Nat.reduceLeDiff, ↓reduceIte, reduceCtorEq, hwn, hsz, hlt, hnn, htn, hle, hll]
  refine hK _ ?_; clear hK
  refine vwp_cond (b := _) (by simp (dsimp := false) only [push_cast, hP, hnt, hgw, hgb, Nat.reduceLT, Nat.reduceEqDiff, Nat.reduceAdd, Nat.reduceSub, Nat.reduceMul, Nat.reduceLeDiff, ↓reduceIte, reduceCtorEq, hwn, hsz, hlt, hnn, htn, hle, hll]; rfl) (fun rb0 => ?_) (fun rb0 => ?_)
  · have hb0 := rb0
    try simp only [beq_iff_eq, bne_iff_ne, ne_eq, bne_eq_false_iff_eq, beq_eq_false_iff_ne, decide_eq_true_eq, decide_eq_false_iff_not, Bool.not_eq_true', Bool.not_eq_false', Bool.or_eq_true, Bool.and_eq_true, Bool.or_eq_false_iff, Bool.and_eq_false_iff] at hb0
    refine vwp_seq_region rfl fun K hK => ?_
    simp (dsimp := false) only [push_cast, hP, hnt, hgw, hgb, Nat.reduceLT, Nat.reduceEqDiff, Nat.reduceAdd, Nat.reduceSub, Nat.reduceMul, Nat.reduceLeDiff, ↓reduceIte, reduceCtorEq, hwn, hsz, hlt, hnn, htn, hle, hll]
    refine hK _ ?_; clear hK
    refine vwp_ret ?_
    refine ret_free (by simp (dsimp := false) only [push_cast, hP, hnt, hgw, hgb, Nat.reduceLT, Nat.reduceEqDiff, Nat.reduceAdd, Nat.reduceSub, Nat.reduceMul, Nat.reduceLeDiff, ↓reduceIte, reduceCtorEq, hwn, hsz, hlt, hnn, htn, hle, hll]; rfl) (by simp (dsimp := false) only [push_cast, hP, hnt, hgw, hgb, Nat.reduceLT, Nat.reduceEqDiff, Nat.reduceAdd, Nat.reduceSub, Nat.reduceMul, Nat.reduceLeDiff, ↓reduceIte, reduceCtorEq, hwn, hsz, hlt, hnn, htn, hle, hll]) ?_
    rw [show restF line word = ⟨#[]⟩ from if_pos (.inr hb0)]; rfl
  · have hb0 := rb0
    try simp only [beq_iff_eq, bne_iff_ne, ne_eq, bne_eq_false_iff_eq, beq_eq_false_iff_ne, decide_eq_true_eq, decide_eq_false_iff_not, Bool.not_eq_true', Bool.not_eq_false', Bool.or_eq_true, Bool.and_eq_true, Bool.or_eq_false_iff, Bool.and_eq_false_iff] at hb0
    refine vwp_skip ?_
    apply_assumption
    refine vwp_seq_region rfl fun K hK => ?_
    simp (dsimp := false) only [push_cast, hP, hnt, hgw, hgb, Nat.reduceLT, Nat.reduceEqDiff, Nat.reduceAdd, Nat.reduceSub, Nat.reduceMul, Nat.reduceLeDiff, ↓reduceIte, reduceCtorEq, hwn, hsz, hlt, hnn, htn, hle, hll]
    refine hK _ ?_; clear hK
    refine vwp_ret ?_
    refine ret_free (by simp (dsimp := false) only [push_cast, hP, hnt, hgw, hgb, Nat.reduceLT, Nat.reduceEqDiff, Nat.reduceAdd, Nat.reduceSub, Nat.reduceMul, Nat.reduceLeDiff, ↓reduceIte, reduceCtorEq, hwn, hsz, hlt, hnn, htn, hle, hll]; rfl) (by simp (dsimp := false) only [push_cast, hP, hnt, hgw, hgb, Nat.reduceLT, Nat.reduceEqDiff, Nat.reduceAdd, Nat.reduceSub, Nat.reduceMul, Nat.reduceLeDiff, ↓reduceIte, reduceCtorEq, hwn, hsz, hlt, hnn, htn, hle, hll]) ?_
    rw [show restF line word = line.extract (word.size + 1) line.size from if_neg (fun g => g.elim (by omega) (fun g => g hb0))]; rfl
theorem rest_call (gw : World) (gb : Nat) (line word : ByteArray) (hw : word.size ≤ 1000) : VCall Tryd.prog gw gb 57 [.one (.c (.string line)), .one (.c (.string word))] (.one (.c (.string (restF line word)))) [] := by
  by_cases h : line.size < word.size + 1
  · exact rest_short gw gb line word hw h
  · exact rest_long gw gb line word hw (by omega)
def splitGo (c : UInt8) : List UInt8 → List UInt8 → List (List UInt8)
  | [], _ => []
  | b :: r, acc => if b = c then acc :: splitGo c r [] else splitGo c r (acc ++ [b])
def splitR (s : ByteArray) (c : UInt8) : List ByteArray := (splitGo c s.data.toList []).map bOf
theorem ext_data (s : ByteArray) (a b : Nat) : (s.extract a b).data.toList = (s.data.toList.drop a).take (b - a) := by
  have := Lib.extract_toList s a b
  rwa [ByteArray.toList_eq] at this
theorem map_bOf_data (l : List ByteArray) : (l.map fun s => s.data.toList).map bOf = l := by
  rw [List.map_map]
  have : (bOf ∘ fun s : ByteArray => s.data.toList) = id := by funext s; exact ByteArray.ext rfl
  rw [this, List.map_id]
structure SplitAt (s : ByteArray) (c : UInt8) (i fr : Int) (out : List ByteArray) : Prop where
  fr0 : 0 ≤ fr
  fr1 : fr ≤ i
  len : (out.length : Int) ≤ i
  eq : (out.map fun s => s.data.toList) ++ splitGo c (s.data.toList.drop i.toNat) ((s.data.toList.drop fr.toNat).take (i.toNat - fr.toNat)) = splitGo c s.data.toList []
theorem split_init (s : ByteArray) (c : UInt8) : SplitAt s c 0 0 [] := ⟨by omega, by omega, by simp, by simp⟩
theorem split_hit {s : ByteArray} {c : UInt8} {i fr : Int} {out : List ByteArray} (h0 : 0 ≤ i) (h1 : i < (s.size : Int)) (h : SplitAt s c i fr out) (hb : ((byteAt s i.toNat).toNat : Int) = (c.toNat : Int)) :
    SplitAt s c (i + 1) (i + 1) (out ++ [s.extract fr.toNat i.toNat]) := by
  obtain ⟨h2, h3, h4, h5⟩ := h
  have hbc : atI s.data.toList i = c := by rw [← byteAt_eq]; exact UInt8.toNat_inj.1 (by omega)
  refine ⟨by omega, by omega, by rw [List.length_append]; simp; omega, ?_⟩
  rw [drop_atI h0 (by rw [← size_list]; exact h1), splitGo, if_pos hbc] at h5
  rw [← h5, List.map_append, List.append_assoc, show (i + 1).toNat = i.toNat + 1 by omega, Nat.sub_self, List.take_zero]
  simp [ext_data]
theorem split_miss {s : ByteArray} {c : UInt8} {i fr : Int} {out : List ByteArray} (h0 : 0 ≤ i) (h1 : i < (s.size : Int)) (h : SplitAt s c i fr out) (hb : ¬ ((byteAt s i.toNat).toNat : Int) = (c.toNat : Int)) :
    SplitAt s c (i + 1) fr out := by
  obtain ⟨h2, h3, h4, h5⟩ := h
  have hbc : ¬ atI s.data.toList i = c := by rw [← byteAt_eq]; intro e; exact hb (by rw [e])
  refine ⟨by omega, by omega, by omega, ?_⟩
  have hi := drop_atI h0 (show i < (s.data.toList.length : Int) by rw [← size_list]; exact h1)
  rw [hi, splitGo, if_neg hbc] at h5
  rw [← h5, show (i + 1).toNat = i.toNat + 1 by omega, show i.toNat + 1 - fr.toNat = (i.toNat - fr.toNat) + 1 by omega]
  congr 2
  have hl : i.toNat - fr.toNat < (s.data.toList.drop fr.toNat).length := by rw [List.length_drop, ← size_list]; omega
  rw [List.take_succ_eq_append_getElem hl]
  congr 1
  have h6 : (s.data.toList.drop i.toNat)[0]? = some (atI s.data.toList i) := by rw [hi]; rfl
  rw [List.getElem?_drop] at h6
  simp only [List.getElem_drop, List.cons.injEq, and_true]
  have h7 : fr.toNat + (i.toNat - fr.toNat) = i.toNat + 0 := by omega
  have h8 := List.getElem?_eq_some_iff.1 h6
  obtain ⟨h9, h10⟩ := h8
  rw [← h10]
  congr 1
theorem splitGo_size (c : UInt8) : ∀ (l acc : List UInt8), ∀ x ∈ splitGo c l acc, x.length ≤ acc.length + l.length
  | [], acc, x, h => by simp [splitGo] at h
  | b :: r, acc, x, h => by
    unfold splitGo at h
    split at h
    · rcases List.mem_cons.1 h with rfl | h
      · simp
      · have := splitGo_size c r [] x h; simp at this ⊢; omega
    · have := splitGo_size c r (acc ++ [b]) x h; simp at this ⊢; omega
theorem splitR_size {s : ByteArray} {c : UInt8} {n : Nat} (h : s.size ≤ n) : ∀ x ∈ splitR s c, x.size ≤ n := by
  intro x hx
  unfold splitR at hx
  obtain ⟨y, hy, rfl⟩ := List.mem_map.1 hx
  have := splitGo_size c s.data.toList [] y hy
  rw [bOf_size]
  rw [size_list] at h
  simp only [List.length_nil] at this; omega
theorem split_end {s : ByteArray} {c : UInt8} {i fr : Int} {out : List ByteArray} (h1 : ¬ i < (s.size : Int)) (h : SplitAt s c i fr out) : out = splitR s c := by
  obtain ⟨h2, h3, h4, h5⟩ := h
  rw [List.drop_eq_nil_of_le (by rw [← size_list]; omega), splitGo, List.append_nil] at h5
  unfold splitR
  rw [← h5, map_bOf_data]
theorem refSplit_call (gw : World) (gb : Nat) (s : ByteArray) (c : UInt8) (hs : s.size ≤ 1000000) : VCall Tryd.prog gw (gb) 30 [.one (.c (.string s)), .one (.c (.int .u8 (c.toNat : Int)))] (.one (.sl true (splitR s c).length ((splitR s c).map fun s => .c (.string s)))) [] := by
  refine vcall_of [.tmp 4] Tryd.func30 rfl rfl Tryd.ntmps30 rfl (by simp) ?_
  intro C hP hnt hgw hgb hfull
  refine vwp_seq_region rfl fun K hK => ?_
  simp (dsimp := false) only [push_cast, hP, hnt, hgw, hgb, Nat.reduceLT, Nat.reduceEqDiff, Nat.reduceAdd, Nat.reduceSub, Nat.reduceMul, Nat.reduceLeDiff, ↓reduceIte, reduceCtorEq]
  refine hK _ ?_; clear hK
  refine vwp_seq_region rfl fun K hK => ?_
  simp (dsimp := false) only [push_cast, hP, hnt, hgw, hgb, Nat.reduceLT, Nat.reduceEqDiff, Nat.reduceAdd, Nat.reduceSub, Nat.reduceMul, Nat.reduceLeDiff, ↓reduceIte, reduceCtorEq]
  refine hK _ ?_; clear hK
  refine vwp_seq_region rfl fun K hK => ?_
  simp (dsimp := false) only [push_cast, hP, hnt, hgw, hgb, Nat.reduceLT, Nat.reduceEqDiff, Nat.reduceAdd, Nat.reduceSub, Nat.reduceMul, Nat.reduceLeDiff, ↓reduceIte, reduceCtorEq]
  refine hK _ ?_; clear hK
  refine vwp_seq fun K hK => ?_
  refine vwp_seq_region rfl fun K hK => ?_
  simp (dsimp := false) only [push_cast, hP, hnt, hgw, hgb, Nat.reduceLT, Nat.reduceEqDiff, Nat.reduceAdd, Nat.reduceSub, Nat.reduceMul, Nat.reduceLeDiff, ↓reduceIte, reduceCtorEq]
  refine hK _ ?_; clear hK
  refine vwp_wk (wk_nil_slot (t := 5) (d := 5) 9 1 (by first | (simp (dsimp := false) only [push_cast, hP, hnt, hgw, hgb, Nat.reduceLT, Nat.reduceEqDiff, Nat.reduceAdd, Nat.reduceSub, Nat.reduceMul, Nat.reduceLeDiff, ↓reduceIte, reduceCtorEq]; rfl) | (simp (dsimp := false) only [push_cast, hP, hnt, hgw, hgb, Nat.reduceLT, Nat.reduceEqDiff, Nat.reduceAdd, Nat.reduceSub, Nat.reduceMul, Nat.reduceLeDiff, ↓reduceIte, reduceCtorEq]; done)) (by first | (simp (dsimp := false) only [push_cast, hP, hnt, hgw, hgb, Nat.reduceLT, Nat.reduceEqDiff, Nat.reduceAdd, Nat.reduceSub, Nat.reduceMul, Nat.reduceLeDiff, ↓reduceIte, reduceCtorEq]; done) | (simp (dsimp := false) only [push_cast, hP, hnt, hgw, hgb, Nat.reduceLT, Nat.reduceEqDiff, Nat.reduceAdd, Nat.reduceSub, Nat.reduceMul, Nat.reduceLeDiff, ↓reduceIte, reduceCtorEq]; rfl))) ?_
  simp (dsimp := false) only [push_cast, hP, hnt, hgw, hgb, Nat.reduceLT, Nat.reduceEqDiff, Nat.reduceAdd, Nat.reduceSub, Nat.reduceMul, Nat.reduceLeDiff, ↓reduceIte, reduceCtorEq]
  refine vwp_block ?_
  refine vwp_loop (fun m σ => ∃ (i : Int) (fr_ : Int) (out : List ByteArray), m = (s.size - i).toNat ∧ ((0 ≤ i) ∧ (i ≤ s.size) ∧ (SplitAt s c i fr_ out)) ∧ σ = St.of [(0, .one (.c (.string s))), (1, .one (.c (.int .u8 (c.toNat : Int)))), (5, .one (.own (6, 0))), (6, .one (.c (.int .i64 fr_))), (7, .one (.c (.int .i64 i)))] [((6, 0), rowS out)] [5]) _ ⟨_, ?_, 0, 0, [], rfl, ?_, rfl⟩ ?_
  · refine wk_conv [] [((6, 0), (6, 0))] (by simp) (by simp) (by decide) ?_ ?_
    · refine hf_cons (by simp (dsimp := false) only [push_cast, ↓reduceIte, Nat.reduceEqDiff, Nat.reduceAdd, reduceCtorEq] <;> rfl) (by exact ConvV.self rfl) ?_
      refine hf_cons (by simp (dsimp := false) only [push_cast, ↓reduceIte, Nat.reduceEqDiff, Nat.reduceAdd, reduceCtorEq] <;> rfl) (by exact ConvV.self rfl) ?_
      refine hf_cons (by simp (dsimp := false) only [push_cast, ↓reduceIte, Nat.reduceEqDiff, Nat.reduceAdd, reduceCtorEq] <;> rfl) (by exact .one (.own (by simp))) ?_
      refine hf_cons (by simp (dsimp := false) only [push_cast, ↓reduceIte, Nat.reduceEqDiff, Nat.reduceAdd, reduceCtorEq] <;> rfl) (by exact ConvV.self rfl) ?_
      refine hf_cons (by simp (dsimp := false) only [push_cast, ↓reduceIte, Nat.reduceEqDiff, Nat.reduceAdd, reduceCtorEq] <;> rfl) (by exact ConvV.self rfl) ?_
      exact hf_nil
    · refine hh_cons (i := (6, 0)) (by simp) (by simp) (by simp (dsimp := false) only [push_cast, ↓reduceIte, Nat.reduceEqDiff, Nat.reduceAdd, reduceCtorEq] <;> rfl) (by exact ConvB.arr (ConvL.free (strs_free []))) ?_
      exact hh_nil
  · exact ⟨by omega, by omega, split_init s c⟩
  · rintro m τ ⟨i, fr_, out, hm, ⟨hi0, hi1, hsp⟩, rfl⟩ K hL0
    have hw := fun h : i < (s.size : Int) => wrap_next hi0 h (by omega)
    have hf0 := hsp.fr0
    have hf1 := hsp.fr1
    have hol := hsp.len
    have hz3 : out.length + 1 ≤ 140737488355328 := by omega
    have hz4 : (out.length + 1) * 16 ≤ 140737488355328 := by omega
    refine vwp_seq fun K hK => ?_
    refine vwp_seq_region rfl fun K hK => ?_
    simp (dsimp := false) only [push_cast, hP, hnt, hgw, hgb, Nat.reduceLT, Nat.reduceEqDiff, Nat.reduceAdd, Nat.reduceSub, Nat.reduceMul, Nat.reduceLeDiff, ↓reduceIte, reduceCtorEq, hi0, hi1, rowS, hz3, hz4, hf0, hf1]
    refine hK _ ?_; clear hK
    refine vwp_cond (b := _) (by simp (dsimp := false) only [push_cast, hP, hnt, hgw, hgb, Nat.reduceLT, Nat.reduceEqDiff, Nat.reduceAdd, Nat.reduceSub, Nat.reduceMul, Nat.reduceLeDiff, ↓reduceIte, reduceCtorEq, hi0, hi1, rowS, hz3, hz4, hf0, hf1]; rfl) (fun rb0 => ?_) (fun rb0 => ?_)
    · have hb0 := rb0
      try simp only [beq_iff_eq, bne_iff_ne, ne_eq, bne_eq_false_iff_eq, beq_eq_false_iff_ne, decide_eq_true_eq, decide_eq_false_iff_not, Bool.not_eq_true', Bool.not_eq_false', Bool.or_eq_true, Bool.and_eq_true, Bool.or_eq_false_iff, Bool.and_eq_false_iff] at hb0
      have hw := hw hb0
      refine vwp_skip ?_
      apply_assumption
      refine vwp_seq fun K hK => ?_
      refine vwp_block ?_
      refine vwp_seq_region rfl fun K hK => ?_
      simp (dsimp := false) only [push_cast, hP, hnt, hgw, hgb, Nat.reduceLT, Nat.reduceEqDiff, Nat.reduceAdd, Nat.reduceSub, Nat.reduceMul, Nat.reduceLeDiff, ↓reduceIte, reduceCtorEq, hi0, hi1, rowS, hz3, hz4, hf0, hf1, hw, hb0]
      refine hK _ ?_; clear hK
      refine vwp_cond (b := _) (by simp (dsimp := false) only [push_cast, hP, hnt, hgw, hgb, Nat.reduceLT, Nat.reduceEqDiff, Nat.reduceAdd, Nat.reduceSub, Nat.reduceMul, Nat.reduceLeDiff, ↓reduceIte, reduceCtorEq, hi0, hi1, rowS, hz3, hz4, hf0, hf1, hw, hb0]; rfl) (fun rb1 => ?_) (fun rb1 => ?_)
      · have hb1 := rb1
        try simp only [beq_iff_eq, bne_iff_ne, ne_eq, bne_eq_false_iff_eq, beq_eq_false_iff_ne, decide_eq_true_eq, decide_eq_false_iff_not, Bool.not_eq_true', Bool.not_eq_false', Bool.or_eq_true, Bool.and_eq_true, Bool.or_eq_false_iff, Bool.and_eq_false_iff] at hb1
        refine vwp_seq_region rfl fun K hK => ?_
        simp (dsimp := false) only [push_cast, hP, hnt, hgw, hgb, Nat.reduceLT, Nat.reduceEqDiff, Nat.reduceAdd, Nat.reduceSub, Nat.reduceMul, Nat.reduceLeDiff, ↓reduceIte, reduceCtorEq, hi0, hi1, rowS, hz3, hz4, hf0, hf1, hw, hb0]
        refine hK _ ?_; clear hK
        refine vwp_region rfl ?_
        simp (dsimp := false) only [push_cast, hP, hnt, hgw, hgb, Nat.reduceLT, Nat.reduceEqDiff, Nat.reduceAdd, Nat.reduceSub, Nat.reduceMul, Nat.reduceLeDiff, ↓reduceIte, reduceCtorEq, hi0, hi1, rowS, hz3, hz4, hf0, hf1, hw, hb0]
        apply_assumption
        refine vwp_region rfl ?_
        simp (dsimp := false) only [push_cast, hP, hnt, hgw, hgb, Nat.reduceLT, Nat.reduceEqDiff, Nat.reduceAdd, Nat.reduceSub, Nat.reduceMul, Nat.reduceLeDiff, ↓reduceIte, reduceCtorEq, hi0, hi1, rowS, hz3, hz4, hf0, hf1, hw, hb0]
        refine hL0 _ _ _ ?_ ?_ ⟨i + 1, i + 1, out ++ [s.extract fr_.toNat i.toNat], rfl, ?_, rfl⟩
        · omega
        · refine wk_conv [] [((26, 0), (6, 0))] (by simp) (by simp) (by decide) ?_ ?_
          · refine hf_cons (by simp (dsimp := false) only [push_cast, ↓reduceIte, Nat.reduceEqDiff, Nat.reduceAdd, reduceCtorEq, hi0, hi1, rowS, hz3, hz4, hf0, hf1, hw, hb0] <;> rfl) (by exact ConvV.self rfl) ?_
            refine hf_cons (by simp (dsimp := false) only [push_cast, ↓reduceIte, Nat.reduceEqDiff, Nat.reduceAdd, reduceCtorEq, hi0, hi1, rowS, hz3, hz4, hf0, hf1, hw, hb0] <;> rfl) (by exact ConvV.self rfl) ?_
            refine hf_cons (by simp (dsimp := false) only [push_cast, ↓reduceIte, Nat.reduceEqDiff, Nat.reduceAdd, reduceCtorEq, hi0, hi1, rowS, hz3, hz4, hf0, hf1, hw, hb0] <;> rfl) (by exact .one (.own (by simp))) ?_
            refine hf_cons (by simp (dsimp := false) only [push_cast, ↓reduceIte, Nat.reduceEqDiff, Nat.reduceAdd, reduceCtorEq, hi0, hi1, rowS, hz3, hz4, hf0, hf1, hw, hb0] <;> rfl) (by exact ConvV.self rfl) ?_
            refine hf_cons (by simp (dsimp := false) only [push_cast, ↓reduceIte, Nat.reduceEqDiff, Nat.reduceAdd, reduceCtorEq, hi0, hi1, rowS, hz3, hz4, hf0, hf1, hw, hb0] <;> rfl) (by exact ConvV.self rfl) ?_
            exact hf_nil
          · refine hh_cons (i := (26, 0)) (by simp) (by simp) (by simp (dsimp := false) only [push_cast, ↓reduceIte, Nat.reduceEqDiff, Nat.reduceAdd, reduceCtorEq, hi0, hi1, rowS, hz3, hz4, hf0, hf1, hw, hb0] <;> rfl) (by simp only [rowS, List.map_append, List.length_append]; exact ConvB.arr (ConvL.free (by rw [frees_append, strs_free]; rfl))) ?_
            exact hh_nil
        · exact ⟨by omega, by omega, split_hit hi0 hb0 hsp hb1⟩
      · have hb1 := rb1
        try simp only [beq_iff_eq, bne_iff_ne, ne_eq, bne_eq_false_iff_eq, beq_eq_false_iff_ne, decide_eq_true_eq, decide_eq_false_iff_not, Bool.not_eq_true', Bool.not_eq_false', Bool.or_eq_true, Bool.and_eq_true, Bool.or_eq_false_iff, Bool.and_eq_false_iff] at hb1
        refine vwp_skip ?_
        apply_assumption
        refine vwp_region rfl ?_
        simp (dsimp := false) only [push_cast, hP, hnt, hgw, hgb, Nat.reduceLT, Nat.reduceEqDiff, Nat.reduceAdd, Nat.reduceSub, Nat.reduceMul, Nat.reduceLeDiff, ↓reduceIte, reduceCtorEq, hi0, hi1, rowS, hz3, hz4, hf0, hf1, hw, hb0]
        refine hL0 _ _ _ ?_ ?_ ⟨i + 1, fr_, out, rfl, ?_, rfl⟩
        · omega
        · refine wk_conv [] [((6, 0), (6, 0))] (by simp) (by simp) (by decide) ?_ ?_
          · refine hf_cons (by simp (dsimp := false) only [push_cast, ↓reduceIte, Nat.reduceEqDiff, Nat.reduceAdd, reduceCtorEq, hi0, hi1, rowS, hz3, hz4, hf0, hf1, hw, hb0] <;> rfl) (by exact ConvV.self rfl) ?_
            refine hf_cons (by simp (dsimp := false) only [push_cast, ↓reduceIte, Nat.reduceEqDiff, Nat.reduceAdd, reduceCtorEq, hi0, hi1, rowS, hz3, hz4, hf0, hf1, hw, hb0] <;> rfl) (by exact ConvV.self rfl) ?_
            refine hf_cons (by simp (dsimp := false) only [push_cast, ↓reduceIte, Nat.reduceEqDiff, Nat.reduceAdd, reduceCtorEq, hi0, hi1, rowS, hz3, hz4, hf0, hf1, hw, hb0] <;> rfl) (by exact .one (.own (by simp))) ?_
            refine hf_cons (by simp (dsimp := false) only [push_cast, ↓reduceIte, Nat.reduceEqDiff, Nat.reduceAdd, reduceCtorEq, hi0, hi1, rowS, hz3, hz4, hf0, hf1, hw, hb0] <;> rfl) (by exact ConvV.self rfl) ?_
            refine hf_cons (by simp (dsimp := false) only [push_cast, ↓reduceIte, Nat.reduceEqDiff, Nat.reduceAdd, reduceCtorEq, hi0, hi1, rowS, hz3, hz4, hf0, hf1, hw, hb0] <;> rfl) (by exact ConvV.self rfl) ?_
            exact hf_nil
          · refine hh_cons (i := (6, 0)) (by simp) (by simp) (by simp (dsimp := false) only [push_cast, ↓reduceIte, Nat.reduceEqDiff, Nat.reduceAdd, reduceCtorEq, hi0, hi1, rowS, hz3, hz4, hf0, hf1, hw, hb0] <;> rfl) (by exact ConvB.arr (ConvL.free (strs_free out))) ?_
            exact hh_nil
        · exact ⟨by omega, by omega, split_miss hi0 hb0 hsp hb1⟩
    · have hb0 := rb0
      try simp only [beq_iff_eq, bne_iff_ne, ne_eq, bne_eq_false_iff_eq, beq_eq_false_iff_ne, decide_eq_true_eq, decide_eq_false_iff_not, Bool.not_eq_true', Bool.not_eq_false', Bool.or_eq_true, Bool.and_eq_true, Bool.or_eq_false_iff, Bool.and_eq_false_iff] at hb0
      have hend := split_end hb0 hsp
      refine vwp_exit ?_
      simp only [thenQ, blockQ, Nat.reduceEqDiff, reduceIte]
      apply_assumption
      refine vwp_seq_region rfl fun K hK => ?_
      simp (dsimp := false) only [push_cast, hP, hnt, hgw, hgb, Nat.reduceLT, Nat.reduceEqDiff, Nat.reduceAdd, Nat.reduceSub, Nat.reduceMul, Nat.reduceLeDiff, ↓reduceIte, reduceCtorEq, hi0, hi1, rowS, hz3, hz4, hf0, hf1, hend]
      refine hK _ ?_; clear hK
      refine vwp_ret ?_
      refine ret_conv [(6, 0)] [] (by simp (dsimp := false) only [push_cast, hP, hnt, hgw, hgb, Nat.reduceLT, Nat.reduceEqDiff, Nat.reduceAdd, Nat.reduceSub, Nat.reduceMul, Nat.reduceLeDiff, ↓reduceIte, reduceCtorEq, hi0, hi1, rowS, hz3, hz4, hf0, hf1, hend]; rfl) (by simp) (by simp) (by first | decide | simp) ?_ ?_
      · simp only [pack]
        repeat' (first | exact ConvVs.nil | exact ConvL.nil | refine ConvV.tup ?_ | refine ConvVs.cons ?_ ?_ | (refine ConvV.self ?_; simp only [push_cast, strs_free]; done) | refine ConvV.one ?_ | refine ConvV.agg ?_ | (refine ConvL.free ?_; simp only [push_cast, strs_free]; done) | refine ConvL.append ?_ ?_ | refine ConvL.cons ?_ ?_ | exact Conv.free rfl | exact Conv.nil | (refine Conv.own ?_; simp; done) | (refine Conv.loc ?_; simp; done) | refine Conv.frz (by simp) (by simp (dsimp := false) only [push_cast, ↓reduceIte, Nat.reduceEqDiff, Nat.reduceAdd, reduceCtorEq, hi0, hi1, rowS, hz3, hz4, hf0, hf1, hend] <;> rfl) ?_ | refine Conv.sl (by simp) ?_ | refine Conv.fn ?_)
      · exact rb_nil
end Go.Vm
end

section
namespace Go.Vm
open Go Go.RowKit Go.Proofs
set_option maxRecDepth 100000
set_option linter.unusedSimpArgs false
set_option linter.unusedVariables false
set_option maxHeartbeats 4000000

def ver0 : Ver := ⟨0, [], [], 0, 0, [], 0⟩
theorem split32_call (gw : World) (gb : Nat) (s : ByteArray) (hs : s.size ≤ 1000000) : VCall Tryd.prog gw gb 30 [.one (.c (.string s)), .one (.c (.int .u8 32))] (.one (.sl true (splitR s 32).length ((splitR s 32).map fun s => .c (.string s)))) [] := refSplit_call gw gb s 32 hs
theorem split10_call (gw : World) (gb : Nat) (s : ByteArray) (hs : s.size ≤ 1000000) : VCall Tryd.prog gw gb 30 [.one (.c (.string s)), .one (.c (.int .u8 10))] (.one (.sl true (splitR s 10).length ((splitR s 10).map fun s => .c (.string s)))) [] := refSplit_call gw gb s 10 hs
theorem extract_size_le (s : ByteArray) (a b : Nat) : (s.extract a b).size ≤ s.size := by
  rw [size_list, ext_data, size_list, List.length_take, List.length_drop]; omega
theorem restF_size (line word : ByteArray) : (restF line word).size ≤ line.size := by
  unfold restF
  split
  · exact Nat.zero_le _
  · exact extract_size_le _ _ _
def ge2 (w : List ByteArray) : Bool := decide (2 ≤ w.length)
def prfStep (n i : Nat) (p : Ver) (line : ByteArray) : Ver :=
  if i = 0 then { p with skip := numR (restF line wskip) }
  else if i = 1 then { p with phases := numR (restF line wphases) }
  else if i + 1 < n then
    (if (splitR (restF line wand ++ spB) 32).length < 2 then { p with skip := -1 } else { p with ands := p.ands ++ [(numR (atI (splitR (restF line wand ++ spB) 32) 0), numR (atI (splitR (restF line wand ++ spB) 32) 1))] })
  else { p with lit := numR (restF line wlit) }
def prfGo (n : Nat) : Nat → List ByteArray → Ver → Ver
  | _, [], p => p
  | i, x :: r, p => prfGo n (i + 1) r (prfStep n i p x)
def prfF (l : List ByteArray) : Ver := prfGo l.length 0 l ver0
def rowA (l : List (Int × Int)) : Blk := .arr 97 2 l.length (l.flatMap fun g => [.c (.int .i64 g.1), .c (.int .i64 g.2)])
theorem ands_free (l : List (Int × Int)) : PC.frees (l.flatMap fun g => [.c (.int .i64 g.1), .c (.int .i64 g.2)]) = true := by
  rw [frees_flatMap]; simp [PC.frees, PC.free]
structure PrfAt (l : List ByteArray) (i : Int) (p : Ver) : Prop where
  eq : prfGo l.length i.toNat (l.drop i.toNat) p = prfF l
  len : (p.ands.length : Int) ≤ i
theorem prf_init (l : List ByteArray) : PrfAt l 0 ver0 := ⟨rfl, by simp [ver0]⟩
theorem prf_next {l : List ByteArray} {i : Int} {p q : Ver} (h0 : 0 ≤ i) (h1 : i < (l.length : Int)) (h : PrfAt l i p) (hq : prfStep l.length i.toNat p (atI l i) = q) (hl : q.ands.length ≤ p.ands.length + 1) : PrfAt l (i + 1) q := by
  obtain ⟨h2, h3⟩ := h
  rw [drop_atI h0 h1, prfGo, hq] at h2
  refine ⟨?_, by omega⟩
  rwa [show (i + 1).toNat = i.toNat + 1 by omega]
theorem prf_end {l : List ByteArray} {i : Int} {p : Ver} (h1 : ¬ i < (l.length : Int)) (h : PrfAt l i p) : p = prfF l := by
  have := h.eq
  rw [List.drop_eq_nil_of_le (by omega)] at this
  exact this
theorem refProof_call (gw : World) (gb : Nat) (l : List ByteArray) (hl : l.length ≤ 100000) (hs : ∀ x ∈ l, x.size ≤ 100000) : VCall Tryd.prog gw (gb) 55 [.one (.sl false l.length (l.map fun s => .c (.string s)))] (.agg ((prfF l).prf true)) [] := by
  refine vcall_of [.cell 2 45] Tryd.func55 rfl rfl Tryd.ntmps55 rfl (by simp) ?_
  intro C hP hnt hgw hgb hfull
  refine vwp_seq_region rfl fun K hK => ?_
  simp (dsimp := false) only [push_cast, hP, hnt, hgw, hgb, Nat.reduceLT, Nat.reduceEqDiff, Nat.reduceAdd, Nat.reduceSub, Nat.reduceMul, Nat.reduceLeDiff, ↓reduceIte, reduceCtorEq, Int.reduceLE, Int.reduceLT]
  refine hK _ ?_; clear hK
  refine vwp_seq_region rfl fun K hK => ?_
  simp (dsimp := false) only [push_cast, hP, hnt, hgw, hgb, Nat.reduceLT, Nat.reduceEqDiff, Nat.reduceAdd, Nat.reduceSub, Nat.reduceMul, Nat.reduceLeDiff, ↓reduceIte, reduceCtorEq, Int.reduceLE, Int.reduceLT]
  refine hK _ ?_; clear hK
  refine vwp_wk (wk_nil_cell (i := (4, 0)) (k := 2) (d := 59) 97 2 (by first | (simp (dsimp := false) only [push_cast, hP, hnt, hgw, hgb, Nat.reduceLT, Nat.reduceEqDiff, Nat.reduceAdd, Nat.reduceSub, Nat.reduceMul, Nat.reduceLeDiff, ↓reduceIte, reduceCtorEq, Int.reduceLE, Int.reduceLT]; rfl) | (simp (dsimp := false) only [push_cast, hP, hnt, hgw, hgb, Nat.reduceLT, Nat.reduceEqDiff, Nat.reduceAdd, Nat.reduceSub, Nat.reduceMul, Nat.reduceLeDiff, ↓reduceIte, reduceCtorEq, Int.reduceLE, Int.reduceLT]; done)) rfl (by first | (simp (dsimp := false) only [push_cast, hP, hnt, hgw, hgb, Nat.reduceLT, Nat.reduceEqDiff, Nat.reduceAdd, Nat.reduceSub, Nat.reduceMul, Nat.reduceLeDiff, ↓reduceIte, reduceCtorEq, Int.reduceLE, Int.reduceLT]; done) | (simp (dsimp := false) only [push_cast, hP, hnt, hgw, hgb, Nat.reduceLT, Nat.reduceEqDiff, Nat.reduceAdd, Nat.reduceSub, Nat.reduceMul, Nat.reduceLeDiff, ↓reduceIte, reduceCtorEq, Int.reduceLE, Int.reduceLT]; rfl))) ?_
  simp only [List.set]
  simp (dsimp := false) only [push_cast, hP, hnt, hgw, hgb, Nat.reduceLT, Nat.reduceEqDiff, Nat.reduceAdd, Nat.reduceSub, Nat.reduceMul, Nat.reduceLeDiff, ↓reduceIte, reduceCtorEq, Int.reduceLE, Int.reduceLT]
  refine vwp_seq fun K hK => ?_
  refine vwp_seq_region rfl fun K hK => ?_
  simp (dsimp := false) only [push_cast, hP, hnt, hgw, hgb, Nat.reduceLT, Nat.reduceEqDiff, Nat.reduceAdd, Nat.reduceSub, Nat.reduceMul, Nat.reduceLeDiff, ↓reduceIte, reduceCtorEq, Int.reduceLE, Int.reduceLT]
  refine hK _ ?_; clear hK
  refine vwp_block ?_
  refine vwp_loop (fun m σ => ∃ (i : Int) (p : Ver), m = (l.length - i).toNat ∧ ((0 ≤ i) ∧ (i ≤ l.length) ∧ (PrfAt l i p)) ∧ σ = St.of [(0, .one (.sl false l.length (l.map fun s => .c (.string s)))), (2, .one (.loc (3, 0) 0)), (3, .one (.loc (4, 0) 0)), (4, .one (.c (.int .i64 i)))] [((3, 0), .box 45 [.c (.int .i64 0), .c (.int .i64 0), .c (.slice none 0 0), .c (.int .i64 0)]), ((4, 0), .box 45 [.c (.int .i64 p.skip), .c (.int .i64 p.phases), .own (60, 0), .c (.int .i64 p.lit)]), ((60, 0), rowA p.ands)] [2, 3, 59]) _ ⟨_, ?_, 0, ver0, rfl, ?_, rfl⟩ ?_
  · refine wk_conv [] [((3, 0), (3, 0)), ((4, 0), (4, 0)), ((60, 0), (60, 0))] (by simp) (by simp) (by decide) ?_ ?_
    · refine hf_cons (by simp (dsimp := false) only [push_cast, ↓reduceIte, Nat.reduceEqDiff, Nat.reduceAdd, reduceCtorEq, Int.reduceLE, Int.reduceLT] <;> rfl) (by repeat' (first | exact ConvVs.nil | exact ConvL.nil | refine ConvV.tup ?_ | refine ConvVs.cons ?_ ?_ | (refine ConvV.self ?_; simp only [push_cast, ands_free]; done) | refine ConvV.one ?_ | refine ConvV.agg ?_ | (refine ConvL.free ?_; simp only [push_cast, ands_free]; done) | refine ConvL.append ?_ ?_ | refine ConvL.cons ?_ ?_ | exact Conv.free rfl | exact Conv.nil | (refine Conv.own ?_; simp; done) | (refine Conv.loc ?_; simp; done) | refine Conv.frz (by simp) (by simp (dsimp := false) only [push_cast, ↓reduceIte, Nat.reduceEqDiff, Nat.reduceAdd, reduceCtorEq, Int.reduceLE, Int.reduceLT] <;> rfl) ?_ | refine Conv.sl (by simp) ?_ | refine Conv.fn ?_)) ?_
      refine hf_cons (by simp (dsimp := false) only [push_cast, ↓reduceIte, Nat.reduceEqDiff, Nat.reduceAdd, reduceCtorEq, Int.reduceLE, Int.reduceLT] <;> rfl) (by exact .one (.loc (by simp))) ?_
      refine hf_cons (by simp (dsimp := false) only [push_cast, ↓reduceIte, Nat.reduceEqDiff, Nat.reduceAdd, reduceCtorEq, Int.reduceLE, Int.reduceLT] <;> rfl) (by exact .one (.loc (by simp))) ?_
      refine hf_cons (by simp (dsimp := false) only [push_cast, ↓reduceIte, Nat.reduceEqDiff, Nat.reduceAdd, reduceCtorEq, Int.reduceLE, Int.reduceLT] <;> rfl) (by exact ConvV.self rfl) ?_
      exact hf_nil
    · refine hh_cons (i := (3, 0)) (by simp) (by simp) (by simp (dsimp := false) only [push_cast, ↓reduceIte, Nat.reduceEqDiff, Nat.reduceAdd, reduceCtorEq, Int.reduceLE, Int.reduceLT] <;> rfl) (by first | (refine ConvB.free ?_; simp only [push_cast, ands_free]; done) | (refine ConvB.box ?_; repeat' (first | exact ConvVs.nil | exact ConvL.nil | refine ConvV.tup ?_ | refine ConvVs.cons ?_ ?_ | (refine ConvV.self ?_; simp only [push_cast, ands_free]; done) | refine ConvV.one ?_ | refine ConvV.agg ?_ | (refine ConvL.free ?_; simp only [push_cast, ands_free]; done) | refine ConvL.append ?_ ?_ | refine ConvL.cons ?_ ?_ | exact Conv.free rfl | exact Conv.nil | (refine Conv.own ?_; simp; done) | (refine Conv.loc ?_; simp; done) | refine Conv.frz (by simp) (by simp (dsimp := false) only [push_cast, ↓reduceIte, Nat.reduceEqDiff, Nat.reduceAdd, reduceCtorEq, Int.reduceLE, Int.reduceLT] <;> rfl) ?_ | refine Conv.sl (by simp) ?_ | refine Conv.fn ?_))) ?_
      refine hh_cons (i := (4, 0)) (by simp) (by simp) (by simp (dsimp := false) only [push_cast, ↓reduceIte, Nat.reduceEqDiff, Nat.reduceAdd, reduceCtorEq, Int.reduceLE, Int.reduceLT] <;> rfl) (by first | (refine ConvB.free ?_; simp only [push_cast, ands_free]; done) | (refine ConvB.box ?_; repeat' (first | exact ConvVs.nil | exact ConvL.nil | refine ConvV.tup ?_ | refine ConvVs.cons ?_ ?_ | (refine ConvV.self ?_; simp only [push_cast, ands_free]; done) | refine ConvV.one ?_ | refine ConvV.agg ?_ | (refine ConvL.free ?_; simp only [push_cast, ands_free]; done) | refine ConvL.append ?_ ?_ | refine ConvL.cons ?_ ?_ | exact Conv.free rfl | exact Conv.nil | (refine Conv.own ?_; simp; done) | (refine Conv.loc ?_; simp; done) | refine Conv.frz (by simp) (by simp (dsimp := false) only [push_cast, ↓reduceIte, Nat.reduceEqDiff, Nat.reduceAdd, reduceCtorEq, Int.reduceLE, Int.reduceLT] <;> rfl) ?_ | refine Conv.sl (by simp) ?_ | refine Conv.fn ?_))) ?_
      refine hh_cons (i := (60, 0)) (by simp) (by simp) (by simp (dsimp := false) only [push_cast, ↓reduceIte, Nat.reduceEqDiff, Nat.reduceAdd, reduceCtorEq, Int.reduceLE, Int.reduceLT] <;> rfl) (by exact ConvB.arr (ConvL.free (ands_free []))) ?_
      exact hh_nil
  · exact ⟨by omega, by omega, prf_init l⟩
  · rintro m τ ⟨i, p, hm, ⟨hi0, hi1, hp⟩, rfl⟩ K hL0
    have hw := fun h : i < (l.length : Int) => wrap_next hi0 h (by omega)
    have hd := fun h : i < (l.length : Int) => dropI_map (fun s => PC.c (Value.string s)) hi0 h
    have hpl := hp.len
    have hz3 : p.ands.length + 1 ≤ 140737488355328 := by omega
    have hz4 : (p.ands.length + 1) * 16 ≤ 140737488355328 := by omega
    refine vwp_seq fun K hK => ?_
    refine vwp_seq_region rfl fun K hK => ?_
    simp (dsimp := false) only [push_cast, hP, hnt, hgw, hgb, Nat.reduceLT, Nat.reduceEqDiff, Nat.reduceAdd, Nat.reduceSub, Nat.reduceMul, Nat.reduceLeDiff, ↓reduceIte, reduceCtorEq, Int.reduceLE, Int.reduceLT, hi0, hi1, rowA, hz3, hz4]
    refine hK _ ?_; clear hK
    refine vwp_cond (b := _) (by simp (dsimp := false) only [push_cast, hP, hnt, hgw, hgb, Nat.reduceLT, Nat.reduceEqDiff, Nat.reduceAdd, Nat.reduceSub, Nat.reduceMul, Nat.reduceLeDiff, ↓reduceIte, reduceCtorEq, Int.reduceLE, Int.reduceLT, hi0, hi1, rowA, hz3, hz4]; rfl) (fun rb0 => ?_) (fun rb0 => ?_)
    · have hb0 := rb0
      try simp only [beq_iff_eq, bne_iff_ne, ne_eq, bne_eq_false_iff_eq, beq_eq_false_iff_ne, decide_eq_true_eq, decide_eq_false_iff_not, Bool.not_eq_true', Bool.not_eq_false', Bool.or_eq_true, Bool.and_eq_true, Bool.or_eq_false_iff, Bool.and_eq_false_iff] at hb0
      have hw := hw hb0
      have hd := hd hb0
      have hsz := hs _ (atI_mem hi0 hb0)
      have hsz1 : (restF (atI l i) wand).size + (⟨#[32]⟩ : ByteArray).size ≤ 9223372036854775807 := by have := restF_size (atI l i) wand; have : (⟨#[32]⟩ : ByteArray).size = 1 := rfl; omega
      refine vwp_skip ?_
      apply_assumption
      refine vwp_seq fun K hK => ?_
      refine vwp_block ?_
      refine vwp_block ?_
      refine vwp_seq_region rfl fun K hK => ?_
      simp (dsimp := false) only [push_cast, hP, hnt, hgw, hgb, Nat.reduceLT, Nat.reduceEqDiff, Nat.reduceAdd, Nat.reduceSub, Nat.reduceMul, Nat.reduceLeDiff, ↓reduceIte, reduceCtorEq, Int.reduceLE, Int.reduceLT, hi0, hi1, rowA, hz3, hz4, hw, hd, hsz1, hb0]
      refine hK _ ?_; clear hK
      refine vwp_cond (b := _) (by simp (dsimp := false) only [push_cast, hP, hnt, hgw, hgb, Nat.reduceLT, Nat.reduceEqDiff, Nat.reduceAdd, Nat.reduceSub, Nat.reduceMul, Nat.reduceLeDiff, ↓reduceIte, reduceCtorEq, Int.reduceLE, Int.reduceLT, hi0, hi1, rowA, hz3, hz4, hw, hd, hsz1, hb0]; rfl) (fun rb1 => ?_) (fun rb1 => ?_)
      · have hb1 := rb1
        try simp only [beq_iff_eq, bne_iff_ne, ne_eq, bne_eq_false_iff_eq, beq_eq_false_iff_ne, decide_eq_true_eq, decide_eq_false_iff_not, Bool.not_eq_true', Bool.not_eq_false', Bool.or_eq_true, Bool.and_eq_true, Bool.or_eq_false_iff, Bool.and_eq_false_iff] at hb1
        refine vwp_region rfl ?_
        simp (dsimp := false) only [push_cast, hP, hnt, hgw, hgb, Nat.reduceLT, Nat.reduceEqDiff, Nat.reduceAdd, Nat.reduceSub, Nat.reduceMul, Nat.reduceLeDiff, ↓reduceIte, reduceCtorEq, Int.reduceLE, Int.reduceLT, hi0, hi1, rowA, hz3, hz4, hw, hd, hsz1, hb0]
        refine .inl (callE_intro (rest_call gw gb (atI l i) wskip (by decide)) (.inl ⟨rfl, rfl⟩) ?_)
        simp (dsimp := false) only [push_cast, hP, hnt, hgw, hgb, Nat.reduceLT, Nat.reduceEqDiff, Nat.reduceAdd, Nat.reduceSub, Nat.reduceMul, Nat.reduceLeDiff, ↓reduceIte, reduceCtorEq, Int.reduceLE, Int.reduceLT, hi0, hi1, rowA, hz3, hz4, hw, hd, hsz1, hb0]
        refine .inl (callE_intro (refNumber_call gw gb _ (by have := restF_size (atI l i) wskip; omega)) (.inl ⟨rfl, rfl⟩) ?_)
        simp (dsimp := false) only [push_cast, hP, hnt, hgw, hgb, Nat.reduceLT, Nat.reduceEqDiff, Nat.reduceAdd, Nat.reduceSub, Nat.reduceMul, Nat.reduceLeDiff, ↓reduceIte, reduceCtorEq, Int.reduceLE, Int.reduceLT, hi0, hi1, rowA, hz3, hz4, hw, hd, hsz1, hb0]
        apply_assumption
        refine vwp_region rfl ?_
        simp (dsimp := false) only [push_cast, hP, hnt, hgw, hgb, Nat.reduceLT, Nat.reduceEqDiff, Nat.reduceAdd, Nat.reduceSub, Nat.reduceMul, Nat.reduceLeDiff, ↓reduceIte, reduceCtorEq, Int.reduceLE, Int.reduceLT, hi0, hi1, rowA, hz3, hz4, hw, hd, hsz1, hb0]
        refine hL0 _ _ _ ?_ ?_ ⟨i + 1, { p with skip := numR (restF (atI l i) wskip) }, rfl, ?_, rfl⟩
        · omega
        · refine wk_conv [] [((3, 0), (3, 0)), ((4, 0), (4, 0)), ((60, 0), (60, 0))] (by simp) (by simp) (by decide) ?_ ?_
          · refine hf_cons (by simp (dsimp := false) only [push_cast, ↓reduceIte, Nat.reduceEqDiff, Nat.reduceAdd, reduceCtorEq, Int.reduceLE, Int.reduceLT, hi0, hi1, rowA, hz3, hz4, hw, hd, hsz1, hb0] <;> rfl) (by repeat' (first | exact ConvVs.nil | exact ConvL.nil | refine ConvV.tup ?_ | refine ConvVs.cons ?_ ?_ | (refine ConvV.self ?_; simp only [push_cast, ands_free]; done) | refine ConvV.one ?_ | refine ConvV.agg ?_ | (refine ConvL.free ?_; simp only [push_cast, ands_free]; done) | refine ConvL.append ?_ ?_ | refine ConvL.cons ?_ ?_ | exact Conv.free rfl | exact Conv.nil | (refine Conv.own ?_; simp; done) | (refine Conv.loc ?_; simp; done) | refine Conv.frz (by simp) (by simp (dsimp := false) only [push_cast, ↓reduceIte, Nat.reduceEqDiff, Nat.reduceAdd, reduceCtorEq, Int.reduceLE, Int.reduceLT, hi0, hi1, rowA, hz3, hz4, hw, hd, hsz1, hb0] <;> rfl) ?_ | refine Conv.sl (by simp) ?_ | refine Conv.fn ?_)) ?_
            refine hf_cons (by simp (dsimp := false) only [push_cast, ↓reduceIte, Nat.reduceEqDiff, Nat.reduceAdd, reduceCtorEq, Int.reduceLE, Int.reduceLT, hi0, hi1, rowA, hz3, hz4, hw, hd, hsz1, hb0] <;> rfl) (by exact .one (.loc (by simp))) ?_
            refine hf_cons (by simp (dsimp := false) only [push_cast, ↓reduceIte, Nat.reduceEqDiff, Nat.reduceAdd, reduceCtorEq, Int.reduceLE, Int.reduceLT, hi0, hi1, rowA, hz3, hz4, hw, hd, hsz1, hb0] <;> rfl) (by exact .one (.loc (by simp))) ?_
            refine hf_cons (by simp (dsimp := false) only [push_cast, ↓reduceIte, Nat.reduceEqDiff, Nat.reduceAdd, reduceCtorEq, Int.reduceLE, Int.reduceLT, hi0, hi1, rowA, hz3, hz4, hw, hd, hsz1, hb0] <;> rfl) (by exact ConvV.self rfl) ?_
            exact hf_nil
          · refine hh_cons (i := (3, 0)) (by simp) (by simp) (by simp (dsimp := false) only [push_cast, ↓reduceIte, Nat.reduceEqDiff, Nat.reduceAdd, reduceCtorEq, Int.reduceLE, Int.reduceLT, hi0, hi1, rowA, hz3, hz4, hw, hd, hsz1, hb0] <;> rfl) (by first | (refine ConvB.free ?_; simp only [push_cast, ands_free]; done) | (refine ConvB.box ?_; repeat' (first | exact ConvVs.nil | exact ConvL.nil | refine ConvV.tup ?_ | refine ConvVs.cons ?_ ?_ | (refine ConvV.self ?_; simp only [push_cast, ands_free]; done) | refine ConvV.one ?_ | refine ConvV.agg ?_ | (refine ConvL.free ?_; simp only [push_cast, ands_free]; done) | refine ConvL.append ?_ ?_ | refine ConvL.cons ?_ ?_ | exact Conv.free rfl | exact Conv.nil | (refine Conv.own ?_; simp; done) | (refine Conv.loc ?_; simp; done) | refine Conv.frz (by simp) (by simp (dsimp := false) only [push_cast, ↓reduceIte, Nat.reduceEqDiff, Nat.reduceAdd, reduceCtorEq, Int.reduceLE, Int.reduceLT, hi0, hi1, rowA, hz3, hz4, hw, hd, hsz1, hb0] <;> rfl) ?_ | refine Conv.sl (by simp) ?_ | refine Conv.fn ?_))) ?_
            refine hh_cons (i := (4, 0)) (by simp) (by simp) (by simp (dsimp := false) only [push_cast, ↓reduceIte, Nat.reduceEqDiff, Nat.reduceAdd, reduceCtorEq, Int.reduceLE, Int.reduceLT, hi0, hi1, rowA, hz3, hz4, hw, hd, hsz1, hb0] <;> rfl) (by first | (refine ConvB.free ?_; simp only [push_cast, ands_free]; done) | (refine ConvB.box ?_; repeat' (first | exact ConvVs.nil | exact ConvL.nil | refine ConvV.tup ?_ | refine ConvVs.cons ?_ ?_ | (refine ConvV.self ?_; simp only [push_cast, ands_free]; done) | refine ConvV.one ?_ | refine ConvV.agg ?_ | (refine ConvL.free ?_; simp only [push_cast, ands_free]; done) | refine ConvL.append ?_ ?_ | refine ConvL.cons ?_ ?_ | exact Conv.free rfl | exact Conv.nil | (refine Conv.own ?_; simp; done) | (refine Conv.loc ?_; simp; done) | refine Conv.frz (by simp) (by simp (dsimp := false) only [push_cast, ↓reduceIte, Nat.reduceEqDiff, Nat.reduceAdd, reduceCtorEq, Int.reduceLE, Int.reduceLT, hi0, hi1, rowA, hz3, hz4, hw, hd, hsz1, hb0] <;> rfl) ?_ | refine Conv.sl (by simp) ?_ | refine Conv.fn ?_))) ?_
            refine hh_cons (i := (60, 0)) (by simp) (by simp) (by simp (dsimp := false) only [push_cast, ↓reduceIte, Nat.reduceEqDiff, Nat.reduceAdd, reduceCtorEq, Int.reduceLE, Int.reduceLT, hi0, hi1, rowA, hz3, hz4, hw, hd, hsz1, hb0] <;> rfl) (by exact ConvB.arr (ConvL.free (ands_free p.ands))) ?_
            exact hh_nil
        · exact ⟨by omega, by omega, prf_next hi0 hb0 hp (if_pos (by omega)) (by simp)⟩
      · have hb1 := rb1
        try simp only [beq_iff_eq, bne_iff_ne, ne_eq, bne_eq_false_iff_eq, beq_eq_false_iff_ne, decide_eq_true_eq, decide_eq_false_iff_not, Bool.not_eq_true', Bool.not_eq_false', Bool.or_eq_true, Bool.and_eq_true, Bool.or_eq_false_iff, Bool.and_eq_false_iff] at hb1
        refine vwp_seq_region rfl fun K hK => ?_
        simp (dsimp := false) only [push_cast, hP, hnt, hgw, hgb, Nat.reduceLT, Nat.reduceEqDiff, Nat.reduceAdd, Nat.reduceSub, Nat.reduceMul, Nat.reduceLeDiff, ↓reduceIte, reduceCtorEq, Int.reduceLE, Int.reduceLT, hi0, hi1, rowA, hz3, hz4, hw, hd, hsz1, hb0]
        refine hK _ ?_; clear hK
        refine vwp_cond (b := _) (by simp (dsimp := false) only [push_cast, hP, hnt, hgw, hgb, Nat.reduceLT, Nat.reduceEqDiff, Nat.reduceAdd, Nat.reduceSub, Nat.reduceMul, Nat.reduceLeDiff, ↓reduceIte, reduceCtorEq, Int.reduceLE, Int.reduceLT, hi0, hi1, rowA, hz3, hz4, hw, hd, hsz1, hb0]; rfl) (fun rb2 => ?_) (fun rb2 => ?_)
        · have hb2 := rb2
          try simp only [beq_iff_eq, bne_iff_ne, ne_eq, bne_eq_false_iff_eq, beq_eq_false_iff_ne, decide_eq_true_eq, decide_eq_false_iff_not, Bool.not_eq_true', Bool.not_eq_false', Bool.or_eq_true, Bool.and_eq_true, Bool.or_eq_false_iff, Bool.and_eq_false_iff] at hb2
          refine vwp_region rfl ?_
          simp (dsimp := false) only [push_cast, hP, hnt, hgw, hgb, Nat.reduceLT, Nat.reduceEqDiff, Nat.reduceAdd, Nat.reduceSub, Nat.reduceMul, Nat.reduceLeDiff, ↓reduceIte, reduceCtorEq, Int.reduceLE, Int.reduceLT, hi0, hi1, rowA, hz3, hz4, hw, hd, hsz1, hb0]
          refine .inl (callE_intro (rest_call gw gb (atI l i) wphases (by decide)) (.inl ⟨rfl, rfl⟩) ?_)
          simp (dsimp := false) only [push_cast, hP, hnt, hgw, hgb, Nat.reduceLT, Nat.reduceEqDiff, Nat.reduceAdd, Nat.reduceSub, Nat.reduceMul, Nat.reduceLeDiff, ↓reduceIte, reduceCtorEq, Int.reduceLE, Int.reduceLT, hi0, hi1, rowA, hz3, hz4, hw, hd, hsz1, hb0]
          refine .inl (callE_intro (refNumber_call gw gb _ (by have := restF_size (atI l i) wphases; omega)) (.inl ⟨rfl, rfl⟩) ?_)
          simp (dsimp := false) only [push_cast, hP, hnt, hgw, hgb, Nat.reduceLT, Nat.reduceEqDiff, Nat.reduceAdd, Nat.reduceSub, Nat.reduceMul, Nat.reduceLeDiff, ↓reduceIte, reduceCtorEq, Int.reduceLE, Int.reduceLT, hi0, hi1, rowA, hz3, hz4, hw, hd, hsz1, hb0]
          apply_assumption
          refine vwp_region rfl ?_
          simp (dsimp := false) only [push_cast, hP, hnt, hgw, hgb, Nat.reduceLT, Nat.reduceEqDiff, Nat.reduceAdd, Nat.reduceSub, Nat.reduceMul, Nat.reduceLeDiff, ↓reduceIte, reduceCtorEq, Int.reduceLE, Int.reduceLT, hi0, hi1, rowA, hz3, hz4, hw, hd, hsz1, hb0]
          refine hL0 _ _ _ ?_ ?_ ⟨i + 1, { p with phases := numR (restF (atI l i) wphases) }, rfl, ?_, rfl⟩
          · omega
          · refine wk_conv [] [((3, 0), (3, 0)), ((4, 0), (4, 0)), ((60, 0), (60, 0))] (by simp) (by simp) (by decide) ?_ ?_
            · refine hf_cons (by simp (dsimp := false) only [push_cast, ↓reduceIte, Nat.reduceEqDiff, Nat.reduceAdd, reduceCtorEq, Int.reduceLE, Int.reduceLT, hi0, hi1, rowA, hz3, hz4, hw, hd, hsz1, hb0] <;> rfl) (by repeat' (first | exact ConvVs.nil | exact ConvL.nil | refine ConvV.tup ?_ | refine ConvVs.cons ?_ ?_ | (refine ConvV.self ?_; simp only [push_cast, ands_free]; done) | refine ConvV.one ?_ | refine ConvV.agg ?_ | (refine ConvL.free ?_; simp only [push_cast, ands_free]; done) | refine ConvL.append ?_ ?_ | refine ConvL.cons ?_ ?_ | exact Conv.free rfl | exact Conv.nil | (refine Conv.own ?_; simp; done) | (refine Conv.loc ?_; simp; done) | refine Conv.frz (by simp) (by simp (dsimp := false) only [push_cast, ↓reduceIte, Nat.reduceEqDiff, Nat.reduceAdd, reduceCtorEq, Int.reduceLE, Int.reduceLT, hi0, hi1, rowA, hz3, hz4, hw, hd, hsz1, hb0] <;> rfl) ?_ | refine Conv.sl (by simp) ?_ | refine Conv.fn ?_)) ?_
              refine hf_cons (by simp (dsimp := false) only [push_cast, ↓reduceIte, Nat.reduceEqDiff, Nat.reduceAdd, reduceCtorEq, Int.reduceLE, Int.reduceLT, hi0, hi1, rowA, hz3, hz4, hw, hd, hsz1, hb0] <;> rfl) (by exact .one (.loc (by simp))) ?_
              refine hf_cons (by simp (dsimp := false) only [push_cast, ↓reduceIte, Nat.reduceEqDiff, Nat.reduceAdd, reduceCtorEq, Int.reduceLE, Int.reduceLT, hi0, hi1, rowA, hz3, hz4, hw, hd, hsz1, hb0] <;> rfl) (by exact .one (.loc (by simp))) ?_
              refine hf_cons (by simp (dsimp := false) only [push_cast, ↓reduceIte, Nat.reduceEqDiff, Nat.reduceAdd, reduceCtorEq, Int.reduceLE, Int.reduceLT, hi0, hi1, rowA, hz3, hz4, hw, hd, hsz1, hb0] <;> rfl) (by exact ConvV.self rfl) ?_
              exact hf_nil
            · refine hh_cons (i := (3, 0)) (by simp) (by simp) (by simp (dsimp := false) only [push_cast, ↓reduceIte, Nat.reduceEqDiff, Nat.reduceAdd, reduceCtorEq, Int.reduceLE, Int.reduceLT, hi0, hi1, rowA, hz3, hz4, hw, hd, hsz1, hb0] <;> rfl) (by first | (refine ConvB.free ?_; simp only [push_cast, ands_free]; done) | (refine ConvB.box ?_; repeat' (first | exact ConvVs.nil | exact ConvL.nil | refine ConvV.tup ?_ | refine ConvVs.cons ?_ ?_ | (refine ConvV.self ?_; simp only [push_cast, ands_free]; done) | refine ConvV.one ?_ | refine ConvV.agg ?_ | (refine ConvL.free ?_; simp only [push_cast, ands_free]; done) | refine ConvL.append ?_ ?_ | refine ConvL.cons ?_ ?_ | exact Conv.free rfl | exact Conv.nil | (refine Conv.own ?_; simp; done) | (refine Conv.loc ?_; simp; done) | refine Conv.frz (by simp) (by simp (dsimp := false) only [push_cast, ↓reduceIte, Nat.reduceEqDiff, Nat.reduceAdd, reduceCtorEq, Int.reduceLE, Int.reduceLT, hi0, hi1, rowA, hz3, hz4, hw, hd, hsz1, hb0] <;> rfl) ?_ | refine Conv.sl (by simp) ?_ | refine Conv.fn ?_))) ?_
              refine hh_cons (i := (4, 0)) (by simp) (by simp) (by simp (dsimp := false) only [push_cast, ↓reduceIte, Nat.reduceEqDiff, Nat.reduceAdd, reduceCtorEq, Int.reduceLE, Int.reduceLT, hi0, hi1, rowA, hz3, hz4, hw, hd, hsz1, hb0] <;> rfl) (by first | (refine ConvB.free ?_; simp only [push_cast, ands_free]; done) | (refine ConvB.box ?_; repeat' (first | exact ConvVs.nil | exact ConvL.nil | refine ConvV.tup ?_ | refine ConvVs.cons ?_ ?_ | (refine ConvV.self ?_; simp only [push_cast, ands_free]; done) | refine ConvV.one ?_ | refine ConvV.agg ?_ | (refine ConvL.free ?_; simp only [push_cast, ands_free]; done) | refine ConvL.append ?_ ?_ | refine ConvL.cons ?_ ?_ | exact Conv.free rfl | exact Conv.nil | (refine Conv.own ?_; simp; done) | (refine Conv.loc ?_; simp; done) | refine Conv.frz (by simp) (by simp (dsimp := false) only [push_cast, ↓reduceIte, Nat.reduceEqDiff, Nat.reduceAdd, reduceCtorEq, Int.reduceLE, Int.reduceLT, hi0, hi1, rowA, hz3, hz4, hw, hd, hsz1, hb0] <;> rfl) ?_ | refine Conv.sl (by simp) ?_ | refine Conv.fn ?_))) ?_
              refine hh_cons (i := (60, 0)) (by simp) (by simp) (by simp (dsimp := false) only [push_cast, ↓reduceIte, Nat.reduceEqDiff, Nat.reduceAdd, reduceCtorEq, Int.reduceLE, Int.reduceLT, hi0, hi1, rowA, hz3, hz4, hw, hd, hsz1, hb0] <;> rfl) (by exact ConvB.arr (ConvL.free (ands_free p.ands))) ?_
              exact hh_nil
          · exact ⟨by omega, by omega, prf_next hi0 hb0 hp (by unfold prfStep; rw [if_neg (by omega), if_pos (by omega)]) (by simp)⟩
        · have hb2 := rb2
          try simp only [beq_iff_eq, bne_iff_ne, ne_eq, bne_eq_false_iff_eq, beq_eq_false_iff_ne, decide_eq_true_eq, decide_eq_false_iff_not, Bool.not_eq_true', Bool.not_eq_false', Bool.or_eq_true, Bool.and_eq_true, Bool.or_eq_false_iff, Bool.and_eq_false_iff] at hb2
          refine vwp_seq_region rfl fun K hK => ?_
          simp (dsimp := false) only [push_cast, hP, hnt, hgw, hgb, Nat.reduceLT, Nat.reduceEqDiff, Nat.reduceAdd, Nat.reduceSub, Nat.reduceMul, Nat.reduceLeDiff, ↓reduceIte, reduceCtorEq, Int.reduceLE, Int.reduceLT, hi0, hi1, rowA, hz3, hz4, hw, hd, hsz1, hb0]
          refine hK _ ?_; clear hK
          refine vwp_cond (b := _) (by simp (dsimp := false) only [push_cast, hP, hnt, hgw, hgb, Nat.reduceLT, Nat.reduceEqDiff, Nat.reduceAdd, Nat.reduceSub, Nat.reduceMul, Nat.reduceLeDiff, ↓reduceIte, reduceCtorEq, Int.reduceLE, Int.reduceLT, hi0, hi1, rowA, hz3, hz4, hw, hd, hsz1, hb0]; rfl) (fun rb3 => ?_) (fun rb3 => ?_)
          · have hb3 := rb3
            try simp only [beq_iff_eq, bne_iff_ne, ne_eq, bne_eq_false_iff_eq, beq_eq_false_iff_ne, decide_eq_true_eq, decide_eq_false_iff_not, Bool.not_eq_true', Bool.not_eq_false', Bool.or_eq_true, Bool.and_eq_true, Bool.or_eq_false_iff, Bool.and_eq_false_iff] at hb3
            refine vwp_seq_region rfl fun K hK => ?_
            simp (dsimp := false) only [push_cast, hP, hnt, hgw, hgb, Nat.reduceLT, Nat.reduceEqDiff, Nat.reduceAdd, Nat.reduceSub, Nat.reduceMul, Nat.reduceLeDiff, ↓reduceIte, reduceCtorEq, Int.reduceLE, Int.reduceLT, hi0, hi1, rowA, hz3, hz4, hw, hd, hsz1, hb0]
            refine .inl (callE_intro (rest_call gw gb (atI l i) wand (by decide)) (.inl ⟨rfl, rfl⟩) ?_)
            simp (dsimp := false) only [push_cast, hP, hnt, hgw, hgb, Nat.reduceLT, Nat.reduceEqDiff, Nat.reduceAdd, Nat.reduceSub, Nat.reduceMul, Nat.reduceLeDiff, ↓reduceIte, reduceCtorEq, Int.reduceLE, Int.reduceLT, hi0, hi1, rowA, hz3, hz4, hw, hd, hsz1, hb0]
            refine .inl (callE_intro (split32_call gw gb (restF (atI l i) wand ++ spB) (by rw [ByteArray.size_append, sp_size]; have := restF_size (atI l i) wand; omega)) (.inl ⟨by simp only [push_cast], rfl⟩) ?_)
            simp (dsimp := false) only [push_cast, hP, hnt, hgw, hgb, Nat.reduceLT, Nat.reduceEqDiff, Nat.reduceAdd, Nat.reduceSub, Nat.reduceMul, Nat.reduceLeDiff, ↓reduceIte, reduceCtorEq, Int.reduceLE, Int.reduceLT, hi0, hi1, rowA, hz3, hz4, hw, hd, hsz1, hb0]
            refine hK _ ?_; clear hK
            refine vwp_seq fun K hK => ?_
            refine vwp_seq_region rfl fun K hK => ?_
            simp (dsimp := false) only [push_cast, hP, hnt, hgw, hgb, Nat.reduceLT, Nat.reduceEqDiff, Nat.reduceAdd, Nat.reduceSub, Nat.reduceMul, Nat.reduceLeDiff, ↓reduceIte, reduceCtorEq, Int.reduceLE, Int.reduceLT, hi0, hi1, rowA, hz3, hz4, hw, hd, hsz1, hb0]
            refine hK _ ?_; clear hK
            refine vwp_cond (b := _) (by simp (dsimp := false) only [push_cast, hP, hnt, hgw, hgb, Nat.reduceLT, Nat.reduceEqDiff, Nat.reduceAdd, Nat.reduceSub, Nat.reduceMul, Nat.reduceLeDiff, ↓reduceIte, reduceCtorEq, Int.reduceLE, Int.reduceLT, hi0, hi1, rowA, hz3, hz4, hw, hd, hsz1, hb0]; rfl) (fun rb4 => ?_) (fun rb4 => ?_)
            · have hb4 := rb4
              try simp only [beq_iff_eq, bne_iff_ne, ne_eq, bne_eq_false_iff_eq, beq_eq_false_iff_ne, decide_eq_true_eq, decide_eq_false_iff_not, Bool.not_eq_true', Bool.not_eq_false', Bool.or_eq_true, Bool.and_eq_true, Bool.or_eq_false_iff, Bool.and_eq_false_iff] at hb4
              refine vwp_seq_region rfl fun K hK => ?_
              simp (dsimp := false) only [push_cast, hP, hnt, hgw, hgb, Nat.reduceLT, Nat.reduceEqDiff, Nat.reduceAdd, Nat.reduceSub, Nat.reduceMul, Nat.reduceLeDiff, ↓reduceIte, reduceCtorEq, Int.reduceLE, Int.reduceLT, hi0, hi1, rowA, hz3, hz4, hw, hd, hsz1, hb0]
              refine hK _ ?_; clear hK
              refine vwp_exit ?_
              simp only [thenQ, blockQ, Nat.reduceEqDiff, reduceIte]
              apply_assumption
              refine vwp_region rfl ?_
              simp (dsimp := false) only [push_cast, hP, hnt, hgw, hgb, Nat.reduceLT, Nat.reduceEqDiff, Nat.reduceAdd, Nat.reduceSub, Nat.reduceMul, Nat.reduceLeDiff, ↓reduceIte, reduceCtorEq, Int.reduceLE, Int.reduceLT, hi0, hi1, rowA, hz3, hz4, hw, hd, hsz1, hb0]
              refine hL0 _ _ _ ?_ ?_ ⟨i + 1, { p with skip := -1 }, rfl, ?_, rfl⟩
              · omega
              · refine wk_conv [] [((3, 0), (3, 0)), ((4, 0), (4, 0)), ((60, 0), (60, 0))] (by simp) (by simp) (by decide) ?_ ?_
                · refine hf_cons (by simp (dsimp := false) only [push_cast, ↓reduceIte, Nat.reduceEqDiff, Nat.reduceAdd, reduceCtorEq, Int.reduceLE, Int.reduceLT, hi0, hi1, rowA, hz3, hz4, hw, hd, hsz1, hb0] <;> rfl) (by repeat' (first | exact ConvVs.nil | exact ConvL.nil | refine ConvV.tup ?_ | refine ConvVs.cons ?_ ?_ | (refine ConvV.self ?_; simp only [push_cast, ands_free]; done) | refine ConvV.one ?_ | refine ConvV.agg ?_ | (refine ConvL.free ?_; simp only [push_cast, ands_free]; done) | refine ConvL.append ?_ ?_ | refine ConvL.cons ?_ ?_ | exact Conv.free rfl | exact Conv.nil | (refine Conv.own ?_; simp; done) | (refine Conv.loc ?_; simp; done) | refine Conv.frz (by simp) (by simp (dsimp := false) only [push_cast, ↓reduceIte, Nat.reduceEqDiff, Nat.reduceAdd, reduceCtorEq, Int.reduceLE, Int.reduceLT, hi0, hi1, rowA, hz3, hz4, hw, hd, hsz1, hb0] <;> rfl) ?_ | refine Conv.sl (by simp) ?_ | refine Conv.fn ?_)) ?_
                  refine hf_cons (by simp (dsimp := false) only [push_cast, ↓reduceIte, Nat.reduceEqDiff, Nat.reduceAdd, reduceCtorEq, Int.reduceLE, Int.reduceLT, hi0, hi1, rowA, hz3, hz4, hw, hd, hsz1, hb0] <;> rfl) (by exact .one (.loc (by simp))) ?_
                  refine hf_cons (by simp (dsimp := false) only [push_cast, ↓reduceIte, Nat.reduceEqDiff, Nat.reduceAdd, reduceCtorEq, Int.reduceLE, Int.reduceLT, hi0, hi1, rowA, hz3, hz4, hw, hd, hsz1, hb0] <;> rfl) (by exact .one (.loc (by simp))) ?_
                  refine hf_cons (by simp (dsimp := false) only [push_cast, ↓reduceIte, Nat.reduceEqDiff, Nat.reduceAdd, reduceCtorEq, Int.reduceLE, Int.reduceLT, hi0, hi1, rowA, hz3, hz4, hw, hd, hsz1, hb0] <;> rfl) (by exact ConvV.self rfl) ?_
                  exact hf_nil
                · refine hh_cons (i := (3, 0)) (by simp) (by simp) (by simp (dsimp := false) only [push_cast, ↓reduceIte, Nat.reduceEqDiff, Nat.reduceAdd, reduceCtorEq, Int.reduceLE, Int.reduceLT, hi0, hi1, rowA, hz3, hz4, hw, hd, hsz1, hb0] <;> rfl) (by first | (refine ConvB.free ?_; simp only [push_cast, ands_free]; done) | (refine ConvB.box ?_; repeat' (first | exact ConvVs.nil | exact ConvL.nil | refine ConvV.tup ?_ | refine ConvVs.cons ?_ ?_ | (refine ConvV.self ?_; simp only [push_cast, ands_free]; done) | refine ConvV.one ?_ | refine ConvV.agg ?_ | (refine ConvL.free ?_; simp only [push_cast, ands_free]; done) | refine ConvL.append ?_ ?_ | refine ConvL.cons ?_ ?_ | exact Conv.free rfl | exact Conv.nil | (refine Conv.own ?_; simp; done) | (refine Conv.loc ?_; simp; done) | refine Conv.frz (by simp) (by simp (dsimp := false) only [push_cast, ↓reduceIte, Nat.reduceEqDiff, Nat.reduceAdd, reduceCtorEq, Int.reduceLE, Int.reduceLT, hi0, hi1, rowA, hz3, hz4, hw, hd, hsz1, hb0] <;> rfl) ?_ | refine Conv.sl (by simp) ?_ | refine Conv.fn ?_))) ?_
                  refine hh_cons (i := (4, 0)) (by simp) (by simp) (by simp (dsimp := false) only [push_cast, ↓reduceIte, Nat.reduceEqDiff, Nat.reduceAdd, reduceCtorEq, Int.reduceLE, Int.reduceLT, hi0, hi1, rowA, hz3, hz4, hw, hd, hsz1, hb0] <;> rfl) (by first | (refine ConvB.free ?_; simp only [push_cast, ands_free]; done) | (refine ConvB.box ?_; repeat' (first | exact ConvVs.nil | exact ConvL.nil | refine ConvV.tup ?_ | refine ConvVs.cons ?_ ?_ | (refine ConvV.self ?_; simp only [push_cast, ands_free]; done) | refine ConvV.one ?_ | refine ConvV.agg ?_ | (refine ConvL.free ?_; simp only [push_cast, ands_free]; done) | refine ConvL.append ?_ ?_ | refine ConvL.cons ?_ ?_ | exact Conv.free rfl | exact Conv.nil | (refine Conv.own ?_; simp; done) | (refine Conv.loc ?_; simp; done) | refine Conv.frz (by simp) (by simp (dsimp := false) only [push_cast, ↓reduceIte, Nat.reduceEqDiff, Nat.reduceAdd, reduceCtorEq, Int.reduceLE, Int.reduceLT, hi0, hi1, rowA, hz3, hz4, hw, hd, hsz1, hb0] <;> rfl) ?_ | refine Conv.sl (by simp) ?_ | refine Conv.fn ?_))) ?_
                  refine hh_cons (i := (60, 0)) (by simp) (by simp) (by simp (dsimp := false) only [push_cast, ↓reduceIte, Nat.reduceEqDiff, Nat.reduceAdd, reduceCtorEq, Int.reduceLE, Int.reduceLT, hi0, hi1, rowA, hz3, hz4, hw, hd, hsz1, hb0] <;> rfl) (by exact ConvB.arr (ConvL.free (ands_free p.ands))) ?_
                  exact hh_nil
              · exact ⟨by omega, by omega, prf_next hi0 hb0 hp (by unfold prfStep; rw [if_neg (by omega), if_neg (by omega), if_pos (by omega), if_pos (by omega)]) (by simp)⟩
            · have hb4 := rb4
              try simp only [beq_iff_eq, bne_iff_ne, ne_eq, bne_eq_false_iff_eq, beq_eq_false_iff_ne, decide_eq_true_eq, decide_eq_false_iff_not, Bool.not_eq_true', Bool.not_eq_false', Bool.or_eq_true, Bool.and_eq_true, Bool.or_eq_false_iff, Bool.and_eq_false_iff] at hb4
              have hsp2 : ∀ x ∈ (splitR (restF (atI l i) wand ++ spB) 32), x.size ≤ 1000000 := splitR_size (by rw [ByteArray.size_append, sp_size]; have := restF_size (atI l i) wand; omega)
              have hk0 : (0 : Int) < ((splitR (restF (atI l i) wand ++ spB) 32).length : Int) := by omega
              have hk1 : (1 : Int) < ((splitR (restF (atI l i) wand ++ spB) 32).length : Int) := by omega
              have hd0 := dropI_map (fun s => PC.c (Value.string s)) (show (0 : Int) ≤ 0 by omega) hk0
              have hd1 := dropI_map (fun s => PC.c (Value.string s)) (show (0 : Int) ≤ 1 by omega) hk1
              refine vwp_skip ?_
              apply_assumption
              refine vwp_anyF [[], [0], [0, 1], [], [3], [3, 4], [3, 4, 5], [], [7], [7, 8], [3, 4, 5, 6, 7, 8, 9], [3, 4, 5, 6, 7, 8, 9, 10], [3, 4, 5, 6, 7, 8, 9, 10, 11], [0, 1, 2, 3, 4, 5, 6, 7, 8, 9, 10, 11, 12], [0, 1, 2, 3, 4, 5, 6, 7, 8, 9, 10, 11, 12, 13], [0, 1, 2, 3, 4, 5, 6, 7, 8, 9, 10, 11, 12, 13, 14], [0, 1, 2, 3, 4, 5, 6, 7, 8, 9, 10, 11, 12, 13, 14, 15]] [([(57, .dead), (58, .old), (59, .old), (60, .dead), (61, .dead), (62, .dead), (63, .dead), (64, .dead), (65, .dead), (66, .dead), (67, .dead), (68, .dead), (69, .dead), (70, .old), (71, .old), (72, .old)], [58, 59, 60, 61, 62, 63, 64, 65, 66, 67, 68, 69, 70, 71, 72], []), ([(57, .dep 0), (58, .dead), (59, .old), (60, .dead), (61, .dead), (62, .dead), (63, .dead), (64, .dead), (65, .dead), (66, .dead), (67, .dead), (68, .dead), (69, .dead), (70, .old), (71, .old), (72, .old)], [59, 60, 61, 62, 63, 64, 65, 66, 67, 68, 69, 70, 71, 72], [0]), ([(57, .dep 1), (58, .dep 0), (59, .dead), (60, .dead), (61, .dead), (62, .dead), (63, .dead), (64, .dead), (65, .dead), (66, .dead), (67, .dead), (68, .dead), (69, .dead), (70, .old), (71, .old), (72, .old)], [60, 61, 62, 63, 64, 65, 66, 67, 68, 69, 70, 71, 72], [1, 0]), ([(57, .dead), (58, .dead), (59, .dead), (60, .dead), (61, .old), (62, .old), (63, .old), (64, .dead), (65, .dead), (66, .dead), (67, .old), (68, .old), (69, .old), (70, .old), (71, .old), (72, .old)], [57, 58, 59, 61, 62, 63, 64, 65, 66, 67, 68, 69, 70, 71, 72], []), ([(57, .dead), (58, .dead), (59, .dead), (60, .dep 0), (61, .dead), (62, .old), (63, .old), (64, .dead), (65, .dead), (66, .dead), (67, .old), (68, .old), (69, .old), (70, .old), (71, .old), (72, .old)], [57, 58, 59, 62, 63, 64, 65, 66, 67, 68, 69, 70, 71, 72], [0]), ([(57, .dead), (58, .dead), (59, .dead), (60, .dep 1), (61, .dep 0), (62, .dead), (63, .old), (64, .dead), (65, .dead), (66, .dead), (67, .old), (68, .old), (69, .old), (70, .old), (71, .old), (72, .old)], [57, 58, 59, 63, 64, 65, 66, 67, 68, 69, 70, 71, 72], [1, 0]), ([(57, .dead), (58, .dead), (59, .dead), (60, .dep 2), (61, .dep 1), (62, .dep 0), (63, .dead), (64, .dead), (65, .dead), (66, .dead), (67, .old), (68, .old), (69, .old), (70, .old), (71, .old), (72, .old)], [57, 58, 59, 64, 65, 66, 67, 68, 69, 70, 71, 72], [2, 1, 0]), ([(57, .dead), (58, .dead), (59, .dead), (60, .dead), (61, .dead), (62, .dead), (63, .dead), (64, .dead), (65, .old), (66, .old), (67, .old), (68, .old), (69, .old), (70, .old), (71, .old), (72, .old)], [57, 58, 59, 60, 61, 62, 63, 65, 66, 67, 68, 69, 70, 71, 72], []), ([(57, .dead), (58, .dead), (59, .dead), (60, .dead), (61, .dead), (62, .dead), (63, .dead), (64, .dep 0), (65, .dead), (66, .old), (67, .old), (68, .old), (69, .old), (70, .old), (71, .old), (72, .old)], [57, 58, 59, 60, 61, 62, 63, 66, 67, 68, 69, 70, 71, 72], [0]), ([(57, .dead), (58, .dead), (59, .dead), (60, .dead), (61, .dead), (62, .dead), (63, .dead), (64, .dep 1), (65, .dep 0), (66, .dead), (67, .old), (68, .old), (69, .old), (70, .old), (71, .old), (72, .old)], [57, 58, 59, 60, 61, 62, 63, 67, 68, 69, 70, 71, 72], [1, 0]), ([(57, .dead), (58, .dead), (59, .dead), (60, .dep 6), (61, .dep 5), (62, .dep 4), (63, .dep 3), (64, .dep 2), (65, .dep 1), (66, .dep 0), (67, .dead), (68, .old), (69, .old), (70, .old), (71, .old), (72, .old)], [57, 58, 59, 68, 69, 70, 71, 72], [6, 5, 4, 3, 2, 1, 0]), ([(57, .dead), (58, .dead), (59, .dead), (60, .dep 7), (61, .dep 6), (62, .dep 5), (63, .dep 4), (64, .dep 3), (65, .dep 2), (66, .dep 1), (67, .dep 0), (68, .dead), (69, .old), (70, .old), (71, .old), (72, .old)], [57, 58, 59, 69, 70, 71, 72], [7, 6, 5, 4, 3, 2, 1, 0]), ([(57, .dead), (58, .dead), (59, .dead), (60, .dep 8), (61, .dep 7), (62, .dep 6), (63, .dep 5), (64, .dep 4), (65, .dep 3), (66, .dep 2), (67, .dep 1), (68, .dep 0), (69, .dead), (70, .old), (71, .old), (72, .old)], [57, 58, 59, 70, 71, 72], [8, 7, 6, 5, 4, 3, 2, 1, 0]), ([(57, .dep 12), (58, .dep 11), (59, .dep 10), (60, .dep 9), (61, .dep 8), (62, .dep 7), (63, .dep 6), (64, .dep 5), (65, .dep 4), (66, .dep 3), (67, .dep 2), (68, .dep 1), (69, .dep 0), (70, .dead), (71, .old), (72, .old)], [71, 72], [12, 11, 10, 9, 8, 7, 6, 5, 4, 3, 2, 1, 0]), ([(57, .dep 13), (58, .dep 12), (59, .dep 11), (60, .dep 10), (61, .dep 9), (62, .dep 8), (63, .dep 7), (64, .dep 6), (65, .dep 5), (66, .dep 4), (67, .dep 3), (68, .dep 2), (69, .dep 1), (70, .dep 0), (71, .dead), (72, .old)], [72], [13, 12, 11, 10, 9, 8, 7, 6, 5, 4, 3, 2, 1, 0]), ([(57, .dep 14), (58, .dep 13), (59, .dep 12), (60, .dep 11), (61, .dep 10), (62, .dep 9), (63, .dep 8), (64, .dep 7), (65, .dep 6), (66, .dep 5), (67, .dep 4), (68, .dep 3), (69, .dep 2), (70, .dep 1), (71, .dep 0), (72, .dead)], [], [14, 13, 12, 11, 10, 9, 8, 7, 6, 5, 4, 3, 2, 1, 0]), ([(57, .dep 15), (58, .dep 14), (59, .dep 13), (60, .dep 12), (61, .dep 11), (62, .dep 10), (63, .dep 9), (64, .dep 8), (65, .dep 7), (66, .dep 6), (67, .dep 5), (68, .dep 4), (69, .dep 3), (70, .dep 2), (71, .dep 1), (72, .dep 0)], [], [15, 14, 13, 12, 11, 10, 9, 8, 7, 6, 5, 4, 3, 2, 1, 0])] (by rw [hP]; exact mixed) rfl rfl rfl ?_
              simp (dsimp := false) only [push_cast, hP, hnt, hgw, hgb, Nat.reduceLT, Nat.reduceEqDiff, Nat.reduceAdd, Nat.reduceSub, Nat.reduceMul, Nat.reduceLeDiff, ↓reduceIte, reduceCtorEq, Int.reduceLE, Int.reduceLT, hi0, hi1, rowA, hz3, hz4, hw, hd, hsz1, hb0, hd0, hd1, hk0, hk1, Nat.reduceBNe, Nat.reduceBEq]
              refine .inl (callE_intro (refNumber_call gw gb _ (by have := hsp2 _ (atI_mem (l := (splitR (restF (atI l i) wand ++ spB) 32)) (i := 0) (by omega) (by omega)); omega)) (.inl ⟨rfl, rfl⟩) ?_)
              simp (dsimp := false) only [push_cast, hP, hnt, hgw, hgb, Nat.reduceLT, Nat.reduceEqDiff, Nat.reduceAdd, Nat.reduceSub, Nat.reduceMul, Nat.reduceLeDiff, ↓reduceIte, reduceCtorEq, Int.reduceLE, Int.reduceLT, hi0, hi1, rowA, hz3, hz4, hw, hd, hsz1, hb0, hd0, hd1, hk0, hk1, Nat.reduceBNe, Nat.reduceBEq]
              refine .inl (callE_intro (refNumber_call gw gb _ (by have := hsp2 _ (atI_mem (l := (splitR (restF (atI l i) wand ++ spB) 32)) (i := 1) (by omega) (by omega)); omega)) (.inl ⟨rfl, rfl⟩) ?_)
              simp (dsimp := false) only [push_cast, hP, hnt, hgw, hgb, Nat.reduceLT, Nat.reduceEqDiff, Nat.reduceAdd, Nat.reduceSub, Nat.reduceMul, Nat.reduceLeDiff, ↓reduceIte, reduceCtorEq, Int.reduceLE, Int.reduceLT, hi0, hi1, rowA, hz3, hz4, hw, hd, hsz1, hb0, hd0, hd1, hk0, hk1, Nat.reduceBNe, Nat.reduceBEq]
              refine ⟨rfl, ?_⟩
              apply_assumption
              refine vwp_region rfl ?_
              simp (dsimp := false) only [push_cast, hP, hnt, hgw, hgb, Nat.reduceLT, Nat.reduceEqDiff, Nat.reduceAdd, Nat.reduceSub, Nat.reduceMul, Nat.reduceLeDiff, ↓reduceIte, reduceCtorEq, Int.reduceLE, Int.reduceLT, hi0, hi1, rowA, hz3, hz4, hw, hd, hsz1, hb0, hd0, hd1, hk0, hk1]
              refine hL0 _ _ _ ?_ ?_ ⟨i + 1, { p with ands := p.ands ++ [(numR (atI (splitR (restF (atI l i) wand ++ spB) 32) 0), numR (atI (splitR (restF (atI l i) wand ++ spB) 32) 1))] }, rfl, ?_, rfl⟩
              · omega
              · refine wk_conv [] [((3, 0), (3, 0)), ((4, 0), (4, 0)), ((71, 0), (60, 0))] (by simp) (by simp) (by decide) ?_ ?_
                · refine hf_cons (by simp (dsimp := false) only [push_cast, ↓reduceIte, Nat.reduceEqDiff, Nat.reduceAdd, reduceCtorEq, Int.reduceLE, Int.reduceLT, hi0, hi1, rowA, hz3, hz4, hw, hd, hsz1, hb0, hd0, hd1, hk0, hk1] <;> rfl) (by repeat' (first | exact ConvVs.nil | exact ConvL.nil | refine ConvV.tup ?_ | refine ConvVs.cons ?_ ?_ | (refine ConvV.self ?_; simp only [push_cast, ands_free]; done) | refine ConvV.one ?_ | refine ConvV.agg ?_ | (refine ConvL.free ?_; simp only [push_cast, ands_free]; done) | refine ConvL.append ?_ ?_ | refine ConvL.cons ?_ ?_ | exact Conv.free rfl | exact Conv.nil | (refine Conv.own ?_; simp; done) | (refine Conv.loc ?_; simp; done) | refine Conv.frz (by simp) (by simp (dsimp := false) only [push_cast, ↓reduceIte, Nat.reduceEqDiff, Nat.reduceAdd, reduceCtorEq, Int.reduceLE, Int.reduceLT, hi0, hi1, rowA, hz3, hz4, hw, hd, hsz1, hb0, hd0, hd1, hk0, hk1] <;> rfl) ?_ | refine Conv.sl (by simp) ?_ | refine Conv.fn ?_)) ?_
                  refine hf_cons (by simp (dsimp := false) only [push_cast, ↓reduceIte, Nat.reduceEqDiff, Nat.reduceAdd, reduceCtorEq, Int.reduceLE, Int.reduceLT, hi0, hi1, rowA, hz3, hz4, hw, hd, hsz1, hb0, hd0, hd1, hk0, hk1] <;> rfl) (by exact .one (.loc (by simp))) ?_
                  refine hf_cons (by simp (dsimp := false) only [push_cast, ↓reduceIte, Nat.reduceEqDiff, Nat.reduceAdd, reduceCtorEq, Int.reduceLE, Int.reduceLT, hi0, hi1, rowA, hz3, hz4, hw, hd, hsz1, hb0, hd0, hd1, hk0, hk1] <;> rfl) (by exact .one (.loc (by simp))) ?_
                  refine hf_cons (by simp (dsimp := false) only [push_cast, ↓reduceIte, Nat.reduceEqDiff, Nat.reduceAdd, reduceCtorEq, Int.reduceLE, Int.reduceLT, hi0, hi1, rowA, hz3, hz4, hw, hd, hsz1, hb0, hd0, hd1, hk0, hk1] <;> rfl) (by exact ConvV.self rfl) ?_
                  exact hf_nil
                · refine hh_cons (i := (3, 0)) (by simp) (by simp) (by simp (dsimp := false) only [push_cast, ↓reduceIte, Nat.reduceEqDiff, Nat.reduceAdd, reduceCtorEq, Int.reduceLE, Int.reduceLT, hi0, hi1, rowA, hz3, hz4, hw, hd, hsz1, hb0, hd0, hd1, hk0, hk1] <;> rfl) (by first | (refine ConvB.free ?_; simp only [push_cast, ands_free]; done) | (refine ConvB.box ?_; repeat' (first | exact ConvVs.nil | exact ConvL.nil | refine ConvV.tup ?_ | refine ConvVs.cons ?_ ?_ | (refine ConvV.self ?_; simp only [push_cast, ands_free]; done) | refine ConvV.one ?_ | refine ConvV.agg ?_ | (refine ConvL.free ?_; simp only [push_cast, ands_free]; done) | refine ConvL.append ?_ ?_ | refine ConvL.cons ?_ ?_ | exact Conv.free rfl | exact Conv.nil | (refine Conv.own ?_; simp; done) | (refine Conv.loc ?_; simp; done) | refine Conv.frz (by simp) (by simp (dsimp := false) only [push_cast, ↓reduceIte, Nat.reduceEqDiff, Nat.reduceAdd, reduceCtorEq, Int.reduceLE, Int.reduceLT, hi0, hi1, rowA, hz3, hz4, hw, hd, hsz1, hb0, hd0, hd1, hk0, hk1] <;> rfl) ?_ | refine Conv.sl (by simp) ?_ | refine Conv.fn ?_))) ?_
                  refine hh_cons (i := (4, 0)) (by simp) (by simp) (by simp (dsimp := false) only [push_cast, ↓reduceIte, Nat.reduceEqDiff, Nat.reduceAdd, reduceCtorEq, Int.reduceLE, Int.reduceLT, hi0, hi1, rowA, hz3, hz4, hw, hd, hsz1, hb0, hd0, hd1, hk0, hk1] <;> rfl) (by first | (refine ConvB.free ?_; simp only [push_cast, ands_free]; done) | (refine ConvB.box ?_; repeat' (first | exact ConvVs.nil | exact ConvL.nil | refine ConvV.tup ?_ | refine ConvVs.cons ?_ ?_ | (refine ConvV.self ?_; simp only [push_cast, ands_free]; done) | refine ConvV.one ?_ | refine ConvV.agg ?_ | (refine ConvL.free ?_; simp only [push_cast, ands_free]; done) | refine ConvL.append ?_ ?_ | refine ConvL.cons ?_ ?_ | exact Conv.free rfl | exact Conv.nil | (refine Conv.own ?_; simp; done) | (refine Conv.loc ?_; simp; done) | refine Conv.frz (by simp) (by simp (dsimp := false) only [push_cast, ↓reduceIte, Nat.reduceEqDiff, Nat.reduceAdd, reduceCtorEq, Int.reduceLE, Int.reduceLT, hi0, hi1, rowA, hz3, hz4, hw, hd, hsz1, hb0, hd0, hd1, hk0, hk1] <;> rfl) ?_ | refine Conv.sl (by simp) ?_ | refine Conv.fn ?_))) ?_
                  refine hh_cons (i := (71, 0)) (by simp) (by simp) (by simp (dsimp := false) only [push_cast, ↓reduceIte, Nat.reduceEqDiff, Nat.reduceAdd, reduceCtorEq, Int.reduceLE, Int.reduceLT, hi0, hi1, rowA, hz3, hz4, hw, hd, hsz1, hb0, hd0, hd1, hk0, hk1] <;> rfl) (by simp only [rowA, List.flatMap_append, List.length_append]; exact ConvB.arr (ConvL.free (by rw [frees_append, ands_free]; rfl))) ?_
                  exact hh_nil
              · exact ⟨by omega, by omega, prf_next hi0 hb0 hp (by unfold prfStep; rw [if_neg (by omega), if_neg (by omega), if_pos (by omega), if_neg (by omega)]) (by simp)⟩
          · have hb3 := rb3
            try simp only [beq_iff_eq, bne_iff_ne, ne_eq, bne_eq_false_iff_eq, beq_eq_false_iff_ne, decide_eq_true_eq, decide_eq_false_iff_not, Bool.not_eq_true', Bool.not_eq_false', Bool.or_eq_true, Bool.and_eq_true, Bool.or_eq_false_iff, Bool.and_eq_false_iff] at hb3
            refine vwp_region rfl ?_
            simp (dsimp := false) only [push_cast, hP, hnt, hgw, hgb, Nat.reduceLT, Nat.reduceEqDiff, Nat.reduceAdd, Nat.reduceSub, Nat.reduceMul, Nat.reduceLeDiff, ↓reduceIte, reduceCtorEq, Int.reduceLE, Int.reduceLT, hi0, hi1, rowA, hz3, hz4, hw, hd, hsz1, hb0]
            refine .inl (callE_intro (rest_call gw gb (atI l i) wlit (by decide)) (.inl ⟨rfl, rfl⟩) ?_)
            simp (dsimp := false) only [push_cast, hP, hnt, hgw, hgb, Nat.reduceLT, Nat.reduceEqDiff, Nat.reduceAdd, Nat.reduceSub, Nat.reduceMul, Nat.reduceLeDiff, ↓reduceIte, reduceCtorEq, Int.reduceLE, Int.reduceLT, hi0, hi1, rowA, hz3, hz4, hw, hd, hsz1, hb0]
            refine .inl (callE_intro (refNumber_call gw gb _ (by have := restF_size (atI l i) wlit; omega)) (.inl ⟨rfl, rfl⟩) ?_)
            simp (dsimp := false) only [push_cast, hP, hnt, hgw, hgb, Nat.reduceLT, Nat.reduceEqDiff, Nat.reduceAdd, Nat.reduceSub, Nat.reduceMul, Nat.reduceLeDiff, ↓reduceIte, reduceCtorEq, Int.reduceLE, Int.reduceLT, hi0, hi1, rowA, hz3, hz4, hw, hd, hsz1, hb0]
            apply_assumption
            refine vwp_region rfl ?_
            simp (dsimp := false) only [push_cast, hP, hnt, hgw, hgb, Nat.reduceLT, Nat.reduceEqDiff, Nat.reduceAdd, Nat.reduceSub, Nat.reduceMul, Nat.reduceLeDiff, ↓reduceIte, reduceCtorEq, Int.reduceLE, Int.reduceLT, hi0, hi1, rowA, hz3, hz4, hw, hd, hsz1, hb0]
            refine hL0 _ _ _ ?_ ?_ ⟨i + 1, { p with lit := numR (restF (atI l i) wlit) }, rfl, ?_, rfl⟩
            · omega
            · refine wk_conv [] [((3, 0), (3, 0)), ((4, 0), (4, 0)), ((60, 0), (60, 0))] (by simp) (by simp) (by decide) ?_ ?_
              · refine hf_cons (by simp (dsimp := false) only [push_cast, ↓reduceIte, Nat.reduceEqDiff, Nat.reduceAdd, reduceCtorEq, Int.reduceLE, Int.reduceLT, hi0, hi1, rowA, hz3, hz4, hw, hd, hsz1, hb0] <;> rfl) (by repeat' (first | exact ConvVs.nil | exact ConvL.nil | refine ConvV.tup ?_ | refine ConvVs.cons ?_ ?_ | (refine ConvV.self ?_; simp only [push_cast, ands_free]; done) | refine ConvV.one ?_ | refine ConvV.agg ?_ | (refine ConvL.free ?_; simp only [push_cast, ands_free]; done) | refine ConvL.append ?_ ?_ | refine ConvL.cons ?_ ?_ | exact Conv.free rfl | exact Conv.nil | (refine Conv.own ?_; simp; done) | (refine Conv.loc ?_; simp; done) | refine Conv.frz (by simp) (by simp (dsimp := false) only [push_cast, ↓reduceIte, Nat.reduceEqDiff, Nat.reduceAdd, reduceCtorEq, Int.reduceLE, Int.reduceLT, hi0, hi1, rowA, hz3, hz4, hw, hd, hsz1, hb0] <;> rfl) ?_ | refine Conv.sl (by simp) ?_ | refine Conv.fn ?_)) ?_
                refine hf_cons (by simp (dsimp := false) only [push_cast, ↓reduceIte, Nat.reduceEqDiff, Nat.reduceAdd, reduceCtorEq, Int.reduceLE, Int.reduceLT, hi0, hi1, rowA, hz3, hz4, hw, hd, hsz1, hb0] <;> rfl) (by exact .one (.loc (by simp))) ?_
                refine hf_cons (by simp (dsimp := false) only [push_cast, ↓reduceIte, Nat.reduceEqDiff, Nat.reduceAdd, reduceCtorEq, Int.reduceLE, Int.reduceLT, hi0, hi1, rowA, hz3, hz4, hw, hd, hsz1, hb0] <;> rfl) (by exact .one (.loc (by simp))) ?_
                refine hf_cons (by simp (dsimp := false) only [push_cast, ↓reduceIte, Nat.reduceEqDiff, Nat.reduceAdd, reduceCtorEq, Int.reduceLE, Int.reduceLT, hi0, hi1, rowA, hz3, hz4, hw, hd, hsz1, hb0] <;> rfl) (by exact ConvV.self rfl) ?_
                exact hf_nil
              · refine hh_cons (i := (3, 0)) (by simp) (by simp) (by simp (dsimp := false) only [push_cast, ↓reduceIte, Nat.reduceEqDiff, Nat.reduceAdd, reduceCtorEq, Int.reduceLE, Int.reduceLT, hi0, hi1, rowA, hz3, hz4, hw, hd, hsz1, hb0] <;> rfl) (by first | (refine ConvB.free ?_; simp only [push_cast, ands_free]; done) | (refine ConvB.box ?_; repeat' (first | exact ConvVs.nil | exact ConvL.nil | refine ConvV.tup ?_ | refine ConvVs.cons ?_ ?_ | (refine ConvV.self ?_; simp only [push_cast, ands_free]; done) | refine ConvV.one ?_ | refine ConvV.agg ?_ | (refine ConvL.free ?_; simp only [push_cast, ands_free]; done) | refine ConvL.append ?_ ?_ | refine ConvL.cons ?_ ?_ | exact Conv.free rfl | exact Conv.nil | (refine Conv.own ?_; simp; done) | (refine Conv.loc ?_; simp; done) | refine Conv.frz (by simp) (by simp (dsimp := false) only [push_cast, ↓reduceIte, Nat.reduceEqDiff, Nat.reduceAdd, reduceCtorEq, Int.reduceLE, Int.reduceLT, hi0, hi1, rowA, hz3, hz4, hw, hd, hsz1, hb0] <;> rfl) ?_ | refine Conv.sl (by simp) ?_ | refine Conv.fn ?_))) ?_
                refine hh_cons (i := (4, 0)) (by simp) (by simp) (by simp (dsimp := false) only [push_cast, ↓reduceIte, Nat.reduceEqDiff, Nat.reduceAdd, reduceCtorEq, Int.reduceLE, Int.reduceLT, hi0, hi1, rowA, hz3, hz4, hw, hd, hsz1, hb0] <;> rfl) (by first | (refine ConvB.free ?_; simp only [push_cast, ands_free]; done) | (refine ConvB.box ?_; repeat' (first | exact ConvVs.nil | exact ConvL.nil | refine ConvV.tup ?_ | refine ConvVs.cons ?_ ?_ | (refine ConvV.self ?_; simp only [push_cast, ands_free]; done) | refine ConvV.one ?_ | refine ConvV.agg ?_ | (refine ConvL.free ?_; simp only [push_cast, ands_free]; done) | refine ConvL.append ?_ ?_ | refine ConvL.cons ?_ ?_ | exact Conv.free rfl | exact Conv.nil | (refine Conv.own ?_; simp; done) | (refine Conv.loc ?_; simp; done) | refine Conv.frz (by simp) (by simp (dsimp := false) only [push_cast, ↓reduceIte, Nat.reduceEqDiff, Nat.reduceAdd, reduceCtorEq, Int.reduceLE, Int.reduceLT, hi0, hi1, rowA, hz3, hz4, hw, hd, hsz1, hb0] <;> rfl) ?_ | refine Conv.sl (by simp) ?_ | refine Conv.fn ?_))) ?_
                refine hh_cons (i := (60, 0)) (by simp) (by simp) (by simp (dsimp := false) only [push_cast, ↓reduceIte, Nat.reduceEqDiff, Nat.reduceAdd, reduceCtorEq, Int.reduceLE, Int.reduceLT, hi0, hi1, rowA, hz3, hz4, hw, hd, hsz1, hb0] <;> rfl) (by exact ConvB.arr (ConvL.free (ands_free p.ands))) ?_
                exact hh_nil
            · exact ⟨by omega, by omega, prf_next hi0 hb0 hp (by unfold prfStep; rw [if_neg (by omega), if_neg (by omega), if_neg (by omega)]) (by simp)⟩
    · have hb0 := rb0
      try simp only [beq_iff_eq, bne_iff_ne, ne_eq, bne_eq_false_iff_eq, beq_eq_false_iff_ne, decide_eq_true_eq, decide_eq_false_iff_not, Bool.not_eq_true', Bool.not_eq_false', Bool.or_eq_true, Bool.and_eq_true, Bool.or_eq_false_iff, Bool.and_eq_false_iff] at hb0
      have hend := prf_end hb0 hp
      refine vwp_exit ?_
      simp only [thenQ, blockQ, Nat.reduceEqDiff, reduceIte]
      apply_assumption
      refine vwp_seq_region rfl fun K hK => ?_
      simp (dsimp := false) only [push_cast, hP, hnt, hgw, hgb, Nat.reduceLT, Nat.reduceEqDiff, Nat.reduceAdd, Nat.reduceSub, Nat.reduceMul, Nat.reduceLeDiff, ↓reduceIte, reduceCtorEq, Int.reduceLE, Int.reduceLT, hi0, hi1, rowA, hz3, hz4]
      refine hK _ ?_; clear hK
      refine vwp_ret ?_
      refine ret_conv [(60, 0)] [] (by simp (dsimp := false) only [push_cast, hP, hnt, hgw, hgb, Nat.reduceLT, Nat.reduceEqDiff, Nat.reduceAdd, Nat.reduceSub, Nat.reduceMul, Nat.reduceLeDiff, ↓reduceIte, reduceCtorEq, Int.reduceLE, Int.reduceLT, hi0, hi1, rowA, hz3, hz4]; rfl) (by simp) (by simp) (by first | decide | simp) ?_ ?_
      · simp only [pack]
        rw [← hend]
        repeat' (first | exact ConvVs.nil | exact ConvL.nil | refine ConvV.tup ?_ | refine ConvVs.cons ?_ ?_ | (refine ConvV.self ?_; simp only [push_cast, ands_free]; done) | refine ConvV.one ?_ | refine ConvV.agg ?_ | (refine ConvL.free ?_; simp only [push_cast, ands_free]; done) | refine ConvL.append ?_ ?_ | refine ConvL.cons ?_ ?_ | exact Conv.free rfl | exact Conv.nil | (refine Conv.own ?_; simp; done) | (refine Conv.loc ?_; simp; done) | refine Conv.frz (by simp) (by simp (dsimp := false) only [push_cast, ↓reduceIte, Nat.reduceEqDiff, Nat.reduceAdd, reduceCtorEq, Int.reduceLE, Int.reduceLT, hi0, hi1, rowA, hz3, hz4] <;> rfl) ?_ | refine Conv.sl (by simp) ?_ | refine Conv.fn ?_)
      · exact rb_nil
end Go.Vm
end
