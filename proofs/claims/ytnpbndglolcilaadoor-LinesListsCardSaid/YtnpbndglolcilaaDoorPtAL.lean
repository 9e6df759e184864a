/-
  Walks of the program's functions by the framework, and what they compute (PtAL). Conditions: each theorem's own premises. By an AI agent.
-/
import Derived.Test.YtnpbndglolcilaaDoorPtAK
import Derived.Test.YtnpbndglolcilaaDoorPtAH
import Derived.Lib.Bytealg
section
namespace Go.Vm
open Go Go.RowKit Go.Proofs
set_option maxRecDepth 100000
set_option linter.unusedSimpArgs false
set_option linter.unusedVariables false
set_option maxHeartbeats 4000000

def digA (n : Int) : ByteArray := if 0 ≤ n then digB n else ofBytes [IntKind.wrap .u8 (IntKind.wrap .i64 (48 + n.tmod 10))]
theorem digits_neg (gw : World) (gb : Nat) (n : Int) (h0 : n < 0) : VCall Tryd.prog gw (gb) 82 [.one (.c (.int .i64 n))] (.one (.c (.string (digA n)))) [] := by
  have hge : (decide (10 ≤ n)) = false := decide_eq_false (by omega)
  refine vcall_of [.tmp 2] Tryd.func82 rfl rfl Tryd.ntmps82 rfl (by simp) ?_
  intro C hP hnt hgw hgb hfull
  refine vwp_seq_region rfl fun K hK => ?_
  simp (dsimp := false) only [push_cast, hP, hnt, hgw, hgb, Nat.reduceLT, Nat.reduceEqDiff, Nat.reduceAdd, Nat.reduceSub, Nat.reduceMul, Nat.reduceLeDiff, ↓reduceIte, reduceCtorEq, Int.reduceEq]
  refine hK _ ?_; clear hK
  refine vwp_seq_region rfl fun K hK => ?_
  simp (dsimp := false) only [push_cast, hP, hnt, hgw, hgb, Nat.reduceLT, Nat.reduceEqDiff, Nat.reduceAdd, Nat.reduceSub, Nat.reduceMul, Nat.reduceLeDiff, ↓reduceIte, reduceCtorEq, Int.reduceEq]
  refine hK _ ?_; clear hK
  refine vwp_seq fun K hK => ?_
  refine vwp_seq_region rfl fun K hK => ?_
  simp (dsimp := false) only [push_cast, hP, hnt, hgw, hgb, Nat.reduceLT, Nat.reduceEqDiff, Nat.reduceAdd, Nat.reduceSub, Nat.reduceMul, Nat.reduceLeDiff, ↓reduceIte, reduceCtorEq, Int.reduceEq]
  refine hK _ ?_; clear hK
  refine vwp_cond (b := _) (by simp (dsimp := false) only [push_cast, hP, hnt, hgw, hgb, Nat.reduceLT, Nat.reduceEqDiff, Nat.reduceAdd, Nat.reduceSub, Nat.reduceMul, Nat.reduceLeDiff, ↓reduceIte, reduceCtorEq, Int.reduceEq]; rfl) (fun rb0 => ?_) (fun rb0 => ?_)
  · have hb0 := rb0
    try simp only [beq_iff_eq, bne_iff_ne, ne_eq, bne_eq_false_iff_eq, beq_eq_false_iff_ne, decide_eq_true_eq, decide_eq_false_iff_not, Bool.not_eq_true', Bool.not_eq_false', Bool.or_eq_true, Bool.and_eq_true, Bool.or_eq_false_iff, Bool.and_eq_false_iff] at hb0
    exfalso; omega
  · have hb0 := rb0
    try simp only [beq_iff_eq, bne_iff_ne, ne_eq, bne_eq_false_iff_eq, beq_eq_false_iff_ne, decide_eq_true_eq, decide_eq_false_iff_not, Bool.not_eq_true', Bool.not_eq_false', Bool.or_eq_true, Bool.and_eq_true, Bool.or_eq_false_iff, Bool.and_eq_false_iff] at hb0
    refine vwp_skip ?_
    apply_assumption
    refine vwp_seq_region rfl fun K hK => ?_
    simp (dsimp := false) only [push_cast, hP, hnt, hgw, hgb, Nat.reduceLT, Nat.reduceEqDiff, Nat.reduceAdd, Nat.reduceSub, Nat.reduceMul, Nat.reduceLeDiff, ↓reduceIte, reduceCtorEq, Int.reduceEq]
    refine hK _ ?_; clear hK
    refine vwp_ret ?_
    refine ret_free (by simp (dsimp := false) only [push_cast, hP, hnt, hgw, hgb, Nat.reduceLT, Nat.reduceEqDiff, Nat.reduceAdd, Nat.reduceSub, Nat.reduceMul, Nat.reduceLeDiff, ↓reduceIte, reduceCtorEq, Int.reduceEq]; rfl) (by simp (dsimp := false) only [push_cast, hP, hnt, hgw, hgb, Nat.reduceLT, Nat.reduceEqDiff, Nat.reduceAdd, Nat.reduceSub, Nat.reduceMul, Nat.reduceLeDiff, ↓reduceIte, reduceCtorEq, Int.reduceEq]) ?_
    rw [show digA n = ofBytes [IntKind.wrap .u8 (IntKind.wrap .i64 (48 + n.tmod 10))] from if_neg (by omega)]; rfl
theorem digitsA_call (gw : World) (gb : Nat) (n : Int) (h1 : n ≤ 9223372036854775807) : VCall Tryd.prog gw gb 82 [.one (.c (.int .i64 n))] (.one (.c (.string (digA n)))) [] := by
  by_cases h : 0 ≤ n
  · have := digits_call gw gb n h h1
    rwa [show digA n = digB n from if_pos h]
  · exact digits_neg gw gb n (by omega)
def numStep (n : Int) (b : UInt8) : Int := 10 * n + b.toNat - 48
def numGo (l : List UInt8) : Int := l.foldl numStep 0
def numBnd : Int → Nat → Int
  | c, 0 => c
  | c, k + 1 => numBnd (10 * c + 300) k
theorem foldl_bnd : ∀ (l : List UInt8) (a c : Int), -c ≤ a → a ≤ c → -(numBnd c l.length) ≤ l.foldl numStep a ∧ l.foldl numStep a ≤ numBnd c l.length
  | [], a, c, h1, h2 => ⟨h1, h2⟩
  | b :: l, a, c, h1, h2 => by
    have hb : b.toNat < 256 := b.toNat_lt
    exact foldl_bnd l (numStep a b) (10 * c + 300) (by unfold numStep; omega) (by unfold numStep; omega)
theorem numBnd_le : ∀ k, k ≤ 8 → numBnd 0 k ≤ 1000000000000 := by decide
theorem numGo_bnd {l : List UInt8} (h : l.length ≤ 8) : -1000000000000 ≤ numGo l ∧ numGo l ≤ 1000000000000 := by
  have h1 := foldl_bnd l 0 0 (by omega) (by omega)
  have h2 := numBnd_le l.length h
  unfold numGo; omega
theorem numGo_next {s : ByteArray} {i : Int} (h0 : 0 ≤ i) (h1 : i < (s.size : Int)) : numGo (s.data.toList.take (i + 1).toNat) = 10 * numGo (s.data.toList.take i.toNat) + ((byteAt s i.toNat).toNat : Int) - 48 := by
  rw [take_next h0 (by rw [← size_list]; exact h1)]
  unfold numGo; rw [List.foldl_append]; rfl
def numR (t : ByteArray) : Int := if 0 ≤ numGo (t.data.toList.take 8) ∧ (digB (numGo (t.data.toList.take 8))).toList = t.toList then numGo (t.data.toList.take 8) else -1
theorem refNumber_call (gw : World) (gb : Nat) (t : ByteArray) (ht : t.size ≤ 1000000) : VCall Tryd.prog gw (gb) 67 [.one (.c (.string t))] (.one (.c (.int .i64 (numR t)))) [] := by
  refine vcall_of [.tmp 2] Tryd.func67 rfl rfl Tryd.ntmps67 rfl (by simp) ?_
  intro C hP hnt hgw hgb hfull
  refine vwp_seq_region rfl fun K hK => ?_
  simp (dsimp := false) only [push_cast, hP, hnt, hgw, hgb, Nat.reduceLT, Nat.reduceEqDiff, Nat.reduceAdd, Nat.reduceSub, Nat.reduceMul, Nat.reduceLeDiff, ↓reduceIte, reduceCtorEq]
  refine hK _ ?_; clear hK
  refine vwp_seq_region rfl fun K hK => ?_
  simp (dsimp := false) only [push_cast, hP, hnt, hgw, hgb, Nat.reduceLT, Nat.reduceEqDiff, Nat.reduceAdd, Nat.reduceSub, Nat.reduceMul, Nat.reduceLeDiff, ↓reduceIte, reduceCtorEq]
  refine hK _ ?_; clear hK
  refine vwp_seq fun K hK => ?_
  refine vwp_seq_region rfl fun K hK => ?_
  simp (dsimp := false) only [push_cast, hP, hnt, hgw, hgb, Nat.reduceLT, Nat.reduceEqDiff, Nat.reduceAdd, Nat.reduceSub, Nat.reduceMul, Nat.reduceLeDiff, ↓reduceIte, reduceCtorEq]
  refine hK _ ?_; clear hK
  refine vwp_block ?_
  have hz : (0 : Int) = numGo (t.data.toList.take (Int.toNat 0)) := rfl
  refine vwp_loop (fun m σ => ∃ (i : Int), m = (t.size - i).toNat ∧ ((0 ≤ i) ∧ (i ≤ t.size) ∧ (i ≤ 8)) ∧ σ = St.of [(0, .one (.c (.string t))), (3, .one (.c (.int .i64 (numGo (t.data.toList.take i.toNat))))), (4, .one (.c (.int .i64 i)))] [] []) _ ⟨_, ?_, 0, rfl, ?_, rfl⟩ ?_
  · refine wk_conv [] [] (by simp) (by simp) (by decide) ?_ ?_
    · refine hf_cons (by simp (dsimp := false) only [push_cast, ↓reduceIte, Nat.reduceEqDiff, Nat.reduceAdd, reduceCtorEq] <;> rfl) (by exact ConvV.self rfl) ?_
      refine hf_cons (by simp (dsimp := false) only [push_cast, ↓reduceIte, Nat.reduceEqDiff, Nat.reduceAdd, reduceCtorEq] <;> rfl) (by exact ConvV.self rfl) ?_
      refine hf_cons (by simp (dsimp := false) only [push_cast, ↓reduceIte, Nat.reduceEqDiff, Nat.reduceAdd, reduceCtorEq] <;> rfl) (by exact ConvV.self rfl) ?_
      exact hf_nil
    · exact hh_nil
  · exact ⟨by omega, by omega, by omega⟩
  · rintro m τ ⟨i, hm, ⟨hi0, hi1, hi8⟩, rfl⟩ K hL0
    have hw := fun h : i < (t.size : Int) => wrap_next hi0 h (by omega)
    have hbn := numGo_bnd (l := t.data.toList.take i.toNat) (by rw [len_take hi0 (by rw [← size_list]; exact hi1)]; omega)
    have hbt : (byteAt t i.toNat).toNat < 256 := UInt8.toNat_lt _
    have hm1 : IntKind.wrap .i64 (10 * numGo (t.data.toList.take i.toNat)) = 10 * numGo (t.data.toList.take i.toNat) := by rw [IntKind.wrap_i64]; omega
    have hm2 : IntKind.wrap .i64 ((byteAt t i.toNat).toNat : Int) = ((byteAt t i.toNat).toNat : Int) := by rw [IntKind.wrap_i64]; omega
    have hm3 : IntKind.wrap .i64 (10 * numGo (t.data.toList.take i.toNat) + ((byteAt t i.toNat).toNat : Int)) = 10 * numGo (t.data.toList.take i.toNat) + ((byteAt t i.toNat).toNat : Int) := by rw [IntKind.wrap_i64]; omega
    have hm4 : IntKind.wrap .i64 (10 * numGo (t.data.toList.take i.toNat) + ((byteAt t i.toNat).toNat : Int) - 48) = 10 * numGo (t.data.toList.take i.toNat) + ((byteAt t i.toNat).toNat : Int) - 48 := by rw [IntKind.wrap_i64]; omega
    have hle : numGo (t.data.toList.take i.toNat) ≤ 9223372036854775807 := by omega
    refine vwp_seq fun K hK => ?_
    refine vwp_seq_regionG fun K hK => ?_
    simp (dsimp := false) only [push_cast, hP, hnt, hgw, hgb, Nat.reduceLT, Nat.reduceEqDiff, Nat.reduceAdd, Nat.reduceSub, Nat.reduceMul, Nat.reduceLeDiff, ↓reduceIte, reduceCtorEq, hi0, hm1, hm2, hm3, hm4]
    refine guardR_may (by simp (dsimp := false) only [push_cast, hP, hnt, hgw, hgb, Nat.reduceLT, Nat.reduceEqDiff, Nat.reduceAdd, Nat.reduceSub, Nat.reduceMul, Nat.reduceLeDiff, ↓reduceIte, reduceCtorEq, hi0, hm1, hm2, hm3, hm4, List.getElem?_cons_zero, List.getElem?_cons_succ]; rfl) ?_
    simp (dsimp := false) only [push_cast, hP, hnt, hgw, hgb, Nat.reduceLT, Nat.reduceEqDiff, Nat.reduceAdd, Nat.reduceSub, Nat.reduceMul, Nat.reduceLeDiff, ↓reduceIte, reduceCtorEq, hi0, hm1, hm2, hm3, hm4]
    refine guardR_may (by simp (dsimp := false) only [push_cast, hP, hnt, hgw, hgb, Nat.reduceLT, Nat.reduceEqDiff, Nat.reduceAdd, Nat.reduceSub, Nat.reduceMul, Nat.reduceLeDiff, ↓reduceIte, reduceCtorEq, hi0, hm1, hm2, hm3, hm4, List.getElem?_cons_zero, List.getElem?_cons_succ]; rfl) ?_
    simp (dsimp := false) only [push_cast, hP, hnt, hgw, hgb, Nat.reduceLT, Nat.reduceEqDiff, Nat.reduceAdd, Nat.reduceSub, Nat.reduceMul, Nat.reduceLeDiff, ↓reduceIte, reduceCtorEq, hi0, hm1, hm2, hm3, hm4]
    refine hK _ ?_; clear hK
    refine vwp_cond (b := _) (by simp (dsimp := false) only [push_cast, hP, hnt, hgw, hgb, Nat.reduceLT, Nat.reduceEqDiff, Nat.reduceAdd, Nat.reduceSub, Nat.reduceMul, Nat.reduceLeDiff, ↓reduceIte, reduceCtorEq, hi0, hm1, hm2, hm3, hm4]; rfl) (fun rb0 => ?_) (fun rb0 => ?_)
    · have hb0 := rb0
      try simp only [beq_iff_eq, bne_iff_ne, ne_eq, bne_eq_false_iff_eq, beq_eq_false_iff_ne, decide_eq_true_eq, decide_eq_false_iff_not, Bool.not_eq_true', Bool.not_eq_false', Bool.or_eq_true, Bool.and_eq_true, Bool.or_eq_false_iff, Bool.and_eq_false_iff] at hb0
      have hw := hw hb0.1
      have hbx := hb0.1
      refine vwp_skip ?_
      apply_assumption
      refine vwp_seq fun K hK => ?_
      refine vwp_block ?_
      refine vwp_region rfl ?_
      simp (dsimp := false) only [push_cast, hP, hnt, hgw, hgb, Nat.reduceLT, Nat.reduceEqDiff, Nat.reduceAdd, Nat.reduceSub, Nat.reduceMul, Nat.reduceLeDiff, ↓reduceIte, reduceCtorEq, hi0, hm1, hm2, hm3, hm4, hw, hbx]
      apply_assumption
      refine vwp_region rfl ?_
      simp (dsimp := false) only [push_cast, hP, hnt, hgw, hgb, Nat.reduceLT, Nat.reduceEqDiff, Nat.reduceAdd, Nat.reduceSub, Nat.reduceMul, Nat.reduceLeDiff, ↓reduceIte, reduceCtorEq, hi0, hm1, hm2, hm3, hm4, hw, hbx]
      have hn := (numGo_next (s := t) hi0 hb0.1).symm
      refine hL0 _ _ _ ?_ ?_ ⟨i + 1, rfl, ?_, rfl⟩
      · omega
      · refine wk_conv [] [] (by simp) (by simp) (by decide) ?_ ?_
        · refine hf_cons (by simp (dsimp := false) only [push_cast, ↓reduceIte, Nat.reduceEqDiff, Nat.reduceAdd, reduceCtorEq, hi0, hm1, hm2, hm3, hm4, hw, hbx, hn] <;> rfl) (by exact ConvV.self rfl) ?_
          refine hf_cons (by simp (dsimp := false) only [push_cast, ↓reduceIte, Nat.reduceEqDiff, Nat.reduceAdd, reduceCtorEq, hi0, hm1, hm2, hm3, hm4, hw, hbx, hn] <;> rfl) (by exact ConvV.self rfl) ?_
          refine hf_cons (by simp (dsimp := false) only [push_cast, ↓reduceIte, Nat.reduceEqDiff, Nat.reduceAdd, reduceCtorEq, hi0, hm1, hm2, hm3, hm4, hw, hbx, hn] <;> rfl) (by exact ConvV.self rfl) ?_
          exact hf_nil
        · exact hh_nil
      · exact ⟨by omega, by omega, by omega⟩
    · have hb0 := rb0
      try simp only [beq_iff_eq, bne_iff_ne, ne_eq, bne_eq_false_iff_eq, beq_eq_false_iff_ne, decide_eq_true_eq, decide_eq_false_iff_not, Bool.not_eq_true', Bool.not_eq_false', Bool.or_eq_true, Bool.and_eq_true, Bool.or_eq_false_iff, Bool.and_eq_false_iff] at hb0
      have hend : t.data.toList.take i.toNat = t.data.toList.take 8 := by rcases hb0 with h | h; (rw [take_all (by rw [← size_list]; exact h), List.take_of_length_le (by rw [← size_list]; omega)]); (rw [show i.toNat = 8 by omega])
      have hle8 : numGo (t.data.toList.take 8) ≤ 9223372036854775807 := by rw [← hend]; exact hle
      refine vwp_exit ?_
      simp only [thenQ, blockQ, Nat.reduceEqDiff, reduceIte]
      apply_assumption
      refine vwp_seq fun K hK => ?_
      refine vwp_seq_regionG fun K hK => ?_
      simp (dsimp := false) only [push_cast, hP, hnt, hgw, hgb, Nat.reduceLT, Nat.reduceEqDiff, Nat.reduceAdd, Nat.reduceSub, Nat.reduceMul, Nat.reduceLeDiff, ↓reduceIte, reduceCtorEq, hi0, hm1, hm2, hm3, hm4, hend]
      refine guardR_may (by simp (dsimp := false) only [push_cast, hP, hnt, hgw, hgb, Nat.reduceLT, Nat.reduceEqDiff, Nat.reduceAdd, Nat.reduceSub, Nat.reduceMul, Nat.reduceLeDiff, ↓reduceIte, reduceCtorEq, hi0, hm1, hm2, hm3, hm4, hend, List.getElem?_cons_zero, List.getElem?_cons_succ]; rfl) ?_
      simp (dsimp := false) only [push_cast, hP, hnt, hgw, hgb, Nat.reduceLT, Nat.reduceEqDiff, Nat.reduceAdd, Nat.reduceSub, Nat.reduceMul, Nat.reduceLeDiff, ↓reduceIte, reduceCtorEq, hi0, hm1, hm2, hm3, hm4, hend]
      refine guardR_may (by simp (dsimp := false) only [push_cast, hP, hnt, hgw, hgb, Nat.reduceLT, Nat.reduceEqDiff, Nat.reduceAdd, Nat.reduceSub, Nat.reduceMul, Nat.reduceLeDiff, ↓reduceIte, reduceCtorEq, hi0, hm1, hm2, hm3, hm4, hend, List.getElem?_cons_zero, List.getElem?_cons_succ]; rfl) ?_
      simp (dsimp := false) only [push_cast, hP, hnt, hgw, hgb, Nat.reduceLT, Nat.reduceEqDiff, Nat.reduceAdd, Nat.reduceSub, Nat.reduceMul, Nat.reduceLeDiff, ↓reduceIte, reduceCtorEq, hi0, hm1, hm2, hm3, hm4, hend]
      refine callE_intro (digitsA_call gw gb _ hle8) (.inl ⟨rfl, rfl⟩) ?_
      refine ⟨rfl, ?_⟩
      simp (dsimp := false) only [push_cast, hP, hnt, hgw, hgb, Nat.reduceLT, Nat.reduceEqDiff, Nat.reduceAdd, Nat.reduceSub, Nat.reduceMul, Nat.reduceLeDiff, ↓reduceIte, reduceCtorEq, hi0, hm1, hm2, hm3, hm4, hend]
      refine guardR_may (by simp (dsimp := false) only [push_cast, hP, hnt, hgw, hgb, Nat.reduceLT, Nat.reduceEqDiff, Nat.reduceAdd, Nat.reduceSub, Nat.reduceMul, Nat.reduceLeDiff, ↓reduceIte, reduceCtorEq, hi0, hm1, hm2, hm3, hm4, hend, List.getElem?_cons_zero, List.getElem?_cons_succ]; rfl) ?_
      simp (dsimp := false) only [push_cast, hP, hnt, hgw, hgb, Nat.reduceLT, Nat.reduceEqDiff, Nat.reduceAdd, Nat.reduceSub, Nat.reduceMul, Nat.reduceLeDiff, ↓reduceIte, reduceCtorEq, hi0, hm1, hm2, hm3, hm4, hend]
      refine guardR_may (by simp (dsimp := false) only [push_cast, hP, hnt, hgw, hgb, Nat.reduceLT, Nat.reduceEqDiff, Nat.reduceAdd, Nat.reduceSub, Nat.reduceMul, Nat.reduceLeDiff, ↓reduceIte, reduceCtorEq, hi0, hm1, hm2, hm3, hm4, hend, List.getElem?_cons_zero, List.getElem?_cons_succ]; rfl) ?_
      simp (dsimp := false) only [push_cast, hP, hnt, hgw, hgb, Nat.reduceLT, Nat.reduceEqDiff, Nat.reduceAdd, Nat.reduceSub, Nat.reduceMul, Nat.reduceLeDiff, ↓reduceIte, reduceCtorEq, hi0, hm1, hm2, hm3, hm4, hend]
      refine hK _ ?_; clear hK
      refine vwp_cond (b := _) (by simp (dsimp := false) only [push_cast, hP, hnt, hgw, hgb, Nat.reduceLT, Nat.reduceEqDiff, Nat.reduceAdd, Nat.reduceSub, Nat.reduceMul, Nat.reduceLeDiff, ↓reduceIte, reduceCtorEq, hi0, hm1, hm2, hm3, hm4, hend]; rfl) (fun rb1 => ?_) (fun rb1 => ?_)
      · have hb1 := rb1
        try simp only [beq_iff_eq, bne_iff_ne, ne_eq, bne_eq_false_iff_eq, beq_eq_false_iff_ne, decide_eq_true_eq, decide_eq_false_iff_not, Bool.not_eq_true', Bool.not_eq_false', Bool.or_eq_true, Bool.and_eq_true, Bool.or_eq_false_iff, Bool.and_eq_false_iff] at hb1
        refine vwp_seq_region rfl fun K hK => ?_
        simp (dsimp := false) only [push_cast, hP, hnt, hgw, hgb, Nat.reduceLT, Nat.reduceEqDiff, Nat.reduceAdd, Nat.reduceSub, Nat.reduceMul, Nat.reduceLeDiff, ↓reduceIte, reduceCtorEq, hi0, hm1, hm2, hm3, hm4, hend]
        refine hK _ ?_; clear hK
        refine vwp_ret ?_
        refine ret_free (by simp (dsimp := false) only [push_cast, hP, hnt, hgw, hgb, Nat.reduceLT, Nat.reduceEqDiff, Nat.reduceAdd, Nat.reduceSub, Nat.reduceMul, Nat.reduceLeDiff, ↓reduceIte, reduceCtorEq, hi0, hm1, hm2, hm3, hm4, hend]; rfl) (by simp (dsimp := false) only [push_cast, hP, hnt, hgw, hgb, Nat.reduceLT, Nat.reduceEqDiff, Nat.reduceAdd, Nat.reduceSub, Nat.reduceMul, Nat.reduceLeDiff, ↓reduceIte, reduceCtorEq, hi0, hm1, hm2, hm3, hm4, hend]) ?_
        rw [show numR t = -1 from if_neg (fun h => by rw [hend] at hbn; rcases hb1 with g | g <;> first | omega | exact g (by rw [show digA (numGo (t.data.toList.take 8)) = digB (numGo (t.data.toList.take 8)) from if_pos h.1]; exact h.2))]; rfl
      · have hb1 := rb1
        try simp only [beq_iff_eq, bne_iff_ne, ne_eq, bne_eq_false_iff_eq, beq_eq_false_iff_ne, decide_eq_true_eq, decide_eq_false_iff_not, Bool.not_eq_true', Bool.not_eq_false', Bool.or_eq_true, Bool.and_eq_true, Bool.or_eq_false_iff, Bool.and_eq_false_iff] at hb1
        refine vwp_skip ?_
        apply_assumption
        refine vwp_seq_region rfl fun K hK => ?_
        simp (dsimp := false) only [push_cast, hP, hnt, hgw, hgb, Nat.reduceLT, Nat.reduceEqDiff, Nat.reduceAdd, Nat.reduceSub, Nat.reduceMul, Nat.reduceLeDiff, ↓reduceIte, reduceCtorEq, hi0, hm1, hm2, hm3, hm4, hend]
        refine hK _ ?_; clear hK
        refine vwp_ret ?_
        refine ret_free (by simp (dsimp := false) only [push_cast, hP, hnt, hgw, hgb, Nat.reduceLT, Nat.reduceEqDiff, Nat.reduceAdd, Nat.reduceSub, Nat.reduceMul, Nat.reduceLeDiff, ↓reduceIte, reduceCtorEq, hi0, hm1, hm2, hm3, hm4, hend]; rfl) (by simp (dsimp := false) only [push_cast, hP, hnt, hgw, hgb, Nat.reduceLT, Nat.reduceEqDiff, Nat.reduceAdd, Nat.reduceSub, Nat.reduceMul, Nat.reduceLeDiff, ↓reduceIte, reduceCtorEq, hi0, hm1, hm2, hm3, hm4, hend]) ?_
        rw [show numR t = numGo (t.data.toList.take 8) from if_pos ⟨by have := hb1.1; omega, by have := hb1.2; rwa [show digA (numGo (t.data.toList.take 8)) = digB (numGo (t.data.toList.take 8)) from if_pos (by have := hb1.1; omega)] at this⟩]; rfl
end Go.Vm
end

section
namespace Go.Vm
open Go Go.RowKit Go.Proofs
set_option maxRecDepth 100000
set_option linter.unusedSimpArgs false
set_option linter.unusedVariables false
set_option maxHeartbeats 4000000

def restF (line word : ByteArray) : ByteArray := if line.size < word.size + 1 ∨ (line.extract 0 (word.size + 1)).toList ≠ (word ++ spB).toList then ⟨#[]⟩ else line.extract (word.size + 1) line.size
def splitGo (c : UInt8) : List UInt8 → List UInt8 → List (List UInt8)
  | [], _ => []
  | b :: r, acc => if b = c then acc :: splitGo c r [] else splitGo c r (acc ++ [b])
def splitR (s : ByteArray) (c : UInt8) : List ByteArray := (splitGo c s.data.toList []).map bOf
theorem ext_data (s : ByteArray) (a b : Nat) : (s.extract a b).data.toList = (s.data.toList.drop a).take (b - a) := by
  have := Lib.extract_toList s a b
  rwa [ByteArray.toList_eq] at this
theorem map_bOf_data (l : List ByteArray) : (l.map fun s => s.data.toList).map bOf = l := by
  rw [List.map_map]
  have : (bOf ∘ fun s : ByteArray => s.data.toList) = id := by funext s; exact ByteArray.ext rfl
  rw [this, List.map_id]
structure SplitAt (s : ByteArray) (c : UInt8) (i fr : Int) (out : List ByteArray) : Prop where
  fr0 : 0 ≤ fr
  fr1 : fr ≤ i
  len : (out.length : Int) ≤ i
  eq : (out.map fun s => s.data.toList) ++ splitGo c (s.data.toList.drop i.toNat) ((s.data.toList.drop fr.toNat).take (i.toNat - fr.toNat)) = splitGo c s.data.toList []
theorem split_init (s : ByteArray) (c : UInt8) : SplitAt s c 0 0 [] := ⟨by omega, by omega, by simp, by simp⟩
theorem split_hit {s : ByteArray} {c : UInt8} {i fr : Int} {out : List ByteArray} (h0 : 0 ≤ i) (h1 : i < (s.size : Int)) (h : SplitAt s c i fr out) (hb : ((byteAt s i.toNat).toNat : Int) = (c.toNat : Int)) :
    SplitAt s c (i + 1) (i + 1) (out ++ [s.extract fr.toNat i.toNat]) := by
  obtain ⟨h2, h3, h4, h5⟩ := h
  have hbc : atI s.data.toList i = c := by rw [← byteAt_eq]; exact UInt8.toNat_inj.1 (by omega)
  refine ⟨by omega, by omega, by rw [List.length_append]; simp; omega, ?_⟩
  rw [drop_atI h0 (by rw [← size_list]; exact h1), splitGo, if_pos hbc] at h5
  rw [← h5, List.map_append, List.append_assoc, show (i + 1).toNat = i.toNat + 1 by omega, Nat.sub_self, List.take_zero]
  simp [ext_data]
theorem split_miss {s : ByteArray} {c : UInt8} {i fr : Int} {out : List ByteArray} (h0 : 0 ≤ i) (h1 : i < (s.size : Int)) (h : SplitAt s c i fr out) (hb : ¬ ((byteAt s i.toNat).toNat : Int) = (c.toNat : Int)) :
    SplitAt s c (i + 1) fr out := by
  obtain ⟨h2, h3, h4, h5⟩ := h
  have hbc : ¬ atI s.data.toList i = c := by rw [← byteAt_eq]; intro e; exact hb (by rw [e])
  refine ⟨by omega, by omega, by omega, ?_⟩
  have hi := drop_atI h0 (show i < (s.data.toList.length : Int) by rw [← size_list]; exact h1)
  rw [hi, splitGo, if_neg hbc] at h5
  rw [← h5, show (i + 1).toNat = i.toNat + 1 by omega, show i.toNat + 1 - fr.toNat = (i.toNat - fr.toNat) + 1 by omega]
  congr 2
  have hl : i.toNat - fr.toNat < (s.data.toList.drop fr.toNat).length := by rw [List.length_drop, ← size_list]; omega
  rw [List.take_succ_eq_append_getElem hl]
  congr 1
  have h6 : (s.data.toList.drop i.toNat)[0]? = some (atI s.data.toList i) := by rw [hi]; rfl
  rw [List.getElem?_drop] at h6
  simp only [List.getElem_drop, List.cons.injEq, and_true]
  have h7 : fr.toNat + (i.toNat - fr.toNat) = i.toNat + 0 := by omega
  have h8 := List.getElem?_eq_some_iff.1 h6
  obtain ⟨h9, h10⟩ := h8
  rw [← h10]
  congr 1
theorem splitGo_size (c : UInt8) : ∀ (l acc : List UInt8), ∀ x ∈ splitGo c l acc, x.length ≤ acc.length + l.length
  | [], acc, x, h => by simp [splitGo] at h
  | b :: r, acc, x, h => by
    unfold splitGo at h
    split at h
    · rcases List.mem_cons.1 h with rfl | h
      · simp
      · have := splitGo_size c r [] x h; simp at this ⊢; omega
    · have := splitGo_size c r (acc ++ [b]) x h; simp at this ⊢; omega
theorem splitR_size {s : ByteArray} {c : UInt8} {n : Nat} (h : s.size ≤ n) : ∀ x ∈ splitR s c, x.size ≤ n := by
  intro x hx
  unfold splitR at hx
  obtain ⟨y, hy, rfl⟩ := List.mem_map.1 hx
  have := splitGo_size c s.data.toList [] y hy
  rw [bOf_size]
  rw [size_list] at h
  simp only [List.length_nil] at this; omega
theorem split_end {s : ByteArray} {c : UInt8} {i fr : Int} {out : List ByteArray} (h1 : ¬ i < (s.size : Int)) (h : SplitAt s c i fr out) : out = splitR s c := by
  obtain ⟨h2, h3, h4, h5⟩ := h
  rw [List.drop_eq_nil_of_le (by rw [← size_list]; omega), splitGo, List.append_nil] at h5
  unfold splitR
  rw [← h5, map_bOf_data]
theorem refSplit_call (gw : World) (gb : Nat) (s : ByteArray) (c : UInt8) (hs : s.size ≤ 1000000) : VCall Tryd.prog gw (gb) 30 [.one (.c (.string s)), .one (.c (.int .u8 (c.toNat : Int)))] (.one (.sl true (splitR s c).length ((splitR s c).map fun s => .c (.string s)))) [] := by
  refine vcall_of [.tmp 4] Tryd.func30 rfl rfl Tryd.ntmps30 rfl (by simp) ?_
  intro C hP hnt hgw hgb hfull
  refine vwp_seq_region rfl fun K hK => ?_
  simp (dsimp := false) only [push_cast, hP, hnt, hgw, hgb, Nat.reduceLT, Nat.reduceEqDiff, Nat.reduceAdd, Nat.reduceSub, Nat.reduceMul, Nat.reduceLeDiff, ↓reduceIte, reduceCtorEq]
  refine hK _ ?_; clear hK
  refine vwp_seq_region rfl fun K hK => ?_
  simp (dsimp := false) only [push_cast, hP, hnt, hgw, hgb, Nat.reduceLT, Nat.reduceEqDiff, Nat.reduceAdd, Nat.reduceSub, Nat.reduceMul, Nat.reduceLeDiff, ↓reduceIte, reduceCtorEq]
  refine hK _ ?_; clear hK
  refine vwp_seq_region rfl fun K hK => ?_
  simp (dsimp := false) only [push_cast, hP, hnt, hgw, hgb, Nat.reduceLT, Nat.reduceEqDiff, Nat.reduceAdd, Nat.reduceSub, Nat.reduceMul, Nat.reduceLeDiff, ↓reduceIte, reduceCtorEq]
  refine hK _ ?_; clear hK
  refine vwp_seq fun K hK => ?_
  refine vwp_seq_region rfl fun K hK => ?_
  simp (dsimp := false) only [push_cast, hP, hnt, hgw, hgb, Nat.reduceLT, Nat.reduceEqDiff, Nat.reduceAdd, Nat.reduceSub, Nat.reduceMul, Nat.reduceLeDiff, ↓reduceIte, reduceCtorEq]
  refine hK _ ?_; clear hK
  refine vwp_wk (wk_nil_slot (t := 5) (d := 5) 9 1 (by first | (simp (dsimp := false) only [push_cast, hP, hnt, hgw, hgb, Nat.reduceLT, Nat.reduceEqDiff, Nat.reduceAdd, Nat.reduceSub, Nat.reduceMul, Nat.reduceLeDiff, ↓reduceIte, reduceCtorEq]; rfl) | (simp (dsimp := false) only [push_cast, hP, hnt, hgw, hgb, Nat.reduceLT, Nat.reduceEqDiff, Nat.reduceAdd, Nat.reduceSub, Nat.reduceMul, Nat.reduceLeDiff, ↓reduceIte, reduceCtorEq]; done)) (by first | (simp (dsimp := false) only [push_cast, hP, hnt, hgw, hgb, Nat.reduceLT, Nat.reduceEqDiff, Nat.reduceAdd, Nat.reduceSub, Nat.reduceMul, Nat.reduceLeDiff, ↓reduceIte, reduceCtorEq]; done) | (simp (dsimp := false) only [push_cast, hP, hnt, hgw, hgb, Nat.reduceLT, Nat.reduceEqDiff, Nat.reduceAdd, Nat.reduceSub, Nat.reduceMul, Nat.reduceLeDiff, ↓reduceIte, reduceCtorEq]; rfl))) ?_
  simp (dsimp := false) only [push_cast, hP, hnt, hgw, hgb, Nat.reduceLT, Nat.reduceEqDiff, Nat.reduceAdd, Nat.reduceSub, Nat.reduceMul, Nat.reduceLeDiff, ↓reduceIte, reduceCtorEq]
  refine vwp_block ?_
  refine vwp_loop (fun m σ => ∃ (i : Int) (fr_ : Int) (out : List ByteArray), m = (s.size - i).toNat ∧ ((0 ≤ i) ∧ (i ≤ s.size) ∧ (SplitAt s c i fr_ out)) ∧ σ = St.of [(0, .one (.c (.string s))), (1, .one (.c (.int .u8 (c.toNat : Int)))), (5, .one (.own (6, 0))), (6, .one (.c (.int .i64 fr_))), (7, .one (.c (.int .i64 i)))] [((6, 0), rowS out)] [5]) _ ⟨_, ?_, 0, 0, [], rfl, ?_, rfl⟩ ?_
  · refine wk_conv [] [((6, 0), (6, 0))] (by simp) (by simp) (by decide) ?_ ?_
    · refine hf_cons (by simp (dsimp := false) only [push_cast, ↓reduceIte, Nat.reduceEqDiff, Nat.reduceAdd, reduceCtorEq] <;> rfl) (by exact ConvV.self rfl) ?_
      refine hf_cons (by simp (dsimp := false) only [push_cast, ↓reduceIte, Nat.reduceEqDiff, Nat.reduceAdd, reduceCtorEq] <;> rfl) (by exact ConvV.self rfl) ?_
      refine hf_cons (by simp (dsimp := false) only [push_cast, ↓reduceIte, Nat.reduceEqDiff, Nat.reduceAdd, reduceCtorEq] <;> rfl) (by exact .one (.own (by simp))) ?_
      refine hf_cons (by simp (dsimp := false) only [push_cast, ↓reduceIte, Nat.reduceEqDiff, Nat.reduceAdd, reduceCtorEq] <;> rfl) (by exact ConvV.self rfl) ?_
      refine hf_cons (by simp (dsimp := false) only [push_cast, ↓reduceIte, Nat.reduceEqDiff, Nat.reduceAdd, reduceCtorEq] <;> rfl) (by exact ConvV.self rfl) ?_
      exact hf_nil
    · refine hh_cons (i := (6, 0)) (by simp) (by simp) (by simp (dsimp := false) only [push_cast, ↓reduceIte, Nat.reduceEqDiff, Nat.reduceAdd, reduceCtorEq] <;> rfl) (by exact ConvB.arr (ConvL.free (strs_free []))) ?_
      exact hh_nil
  · exact ⟨by omega, by omega, split_init s c⟩
  · rintro m τ ⟨i, fr_, out, hm, ⟨hi0, hi1, hsp⟩, rfl⟩ K hL0
    have hw := fun h : i < (s.size : Int) => wrap_next hi0 h (by omega)
    have hf0 := hsp.fr0
    have hf1 := hsp.fr1
    have hol := hsp.len
    have hz3 : out.length + 1 ≤ 140737488355328 := by omega
    have hz4 : (out.length + 1) * 16 ≤ 140737488355328 := by omega
    refine vwp_seq fun K hK => ?_
    refine vwp_seq_region rfl fun K hK => ?_
    simp (dsimp := false) only [push_cast, hP, hnt, hgw, hgb, Nat.reduceLT, Nat.reduceEqDiff, Nat.reduceAdd, Nat.reduceSub, Nat.reduceMul, Nat.reduceLeDiff, ↓reduceIte, reduceCtorEq, hi0, hi1, rowS, hz3, hz4, hf0, hf1]
    refine hK _ ?_; clear hK
    refine vwp_cond (b := _) (by simp (dsimp := false) only [push_cast, hP, hnt, hgw, hgb, Nat.reduceLT, Nat.reduceEqDiff, Nat.reduceAdd, Nat.reduceSub, Nat.reduceMul, Nat.reduceLeDiff, ↓reduceIte, reduceCtorEq, hi0, hi1, rowS, hz3, hz4, hf0, hf1]; rfl) (fun rb0 => ?_) (fun rb0 => ?_)
    · have hb0 := rb0
      try simp only [beq_iff_eq, bne_iff_ne, ne_eq, bne_eq_false_iff_eq, beq_eq_false_iff_ne, decide_eq_true_eq, decide_eq_false_iff_not, Bool.not_eq_true', Bool.not_eq_false', Bool.or_eq_true, Bool.and_eq_true, Bool.or_eq_false_iff, Bool.and_eq_false_iff] at hb0
      have hw := hw hb0
      refine vwp_skip ?_
      apply_assumption
      refine vwp_seq fun K hK => ?_
      refine vwp_block ?_
      refine vwp_seq_region rfl fun K hK => ?_
      simp (dsimp := false) only [push_cast, hP, hnt, hgw, hgb, Nat.reduceLT, Nat.reduceEqDiff, Nat.reduceAdd, Nat.reduceSub, Nat.reduceMul, Nat.reduceLeDiff, ↓reduceIte, reduceCtorEq, hi0, hi1, rowS, hz3, hz4, hf0, hf1, hw, hb0]
      refine hK _ ?_; clear hK
      refine vwp_cond (b := _) (by simp (dsimp := false) only [push_cast, hP, hnt, hgw, hgb, Nat.reduceLT, Nat.reduceEqDiff, Nat.reduceAdd, Nat.reduceSub, Nat.reduceMul, Nat.reduceLeDiff, ↓reduceIte, reduceCtorEq, hi0, hi1, rowS, hz3, hz4, hf0, hf1, hw, hb0]; rfl) (fun rb1 => ?_) (fun rb1 => ?_)
      · have hb1 := rb1
        try simp only [beq_iff_eq, bne_iff_ne, ne_eq, bne_eq_false_iff_eq, beq_eq_false_iff_ne, decide_eq_true_eq, decide_eq_false_iff_not, Bool.not_eq_true', Bool.not_eq_false', Bool.or_eq_true, Bool.and_eq_true, Bool.or_eq_false_iff, Bool.and_eq_false_iff] at hb1
        refine vwp_seq_region rfl fun K hK => ?_
        simp (dsimp := false) only [push_cast, hP, hnt, hgw, hgb, Nat.reduceLT, Nat.reduceEqDiff, Nat.reduceAdd, Nat.reduceSub, Nat.reduceMul, Nat.reduceLeDiff, ↓reduceIte, reduceCtorEq, hi0, hi1, rowS, hz3, hz4, hf0, hf1, hw, hb0]
        refine hK _ ?_; clear hK
        refine vwp_region rfl ?_
        simp (dsimp := false) only [push_cast, hP, hnt, hgw, hgb, Nat.reduceLT, Nat.reduceEqDiff, Nat.reduceAdd, Nat.reduceSub, Nat.reduceMul, Nat.reduceLeDiff, ↓reduceIte, reduceCtorEq, hi0, hi1, rowS, hz3, hz4, hf0, hf1, hw, hb0]
        apply_assumption
        refine vwp_region rfl ?_
        simp (dsimp := false) only [push_cast, hP, hnt, hgw, hgb, Nat.reduceLT, Nat.reduceEqDiff, Nat.reduceAdd, Nat.reduceSub, Nat.reduceMul, Nat.reduceLeDiff, ↓reduceIte, reduceCtorEq, hi0, hi1, rowS, hz3, hz4, hf0, hf1, hw, hb0]
        refine hL0 _ _ _ ?_ ?_ ⟨i + 1, i + 1, out ++ [s.extract fr_.toNat i.toNat], rfl, ?_, rfl⟩
        · omega
        · refine wk_conv [] [((26, 0), (6, 0))] (by simp) (by simp) (by decide) ?_ ?_
          · refine hf_cons (by simp (dsimp := false) only [push_cast, ↓reduceIte, Nat.reduceEqDiff, Nat.reduceAdd, reduceCtorEq, hi0, hi1, rowS, hz3, hz4, hf0, hf1, hw, hb0] <;> rfl) (by exact ConvV.self rfl) ?_
            refine hf_cons (by simp (dsimp := false) only [push_cast, ↓reduceIte, Nat.reduceEqDiff, Nat.reduceAdd, reduceCtorEq, hi0, hi1, rowS, hz3, hz4, hf0, hf1, hw, hb0] <;> rfl) (by exact ConvV.self rfl) ?_
            refine hf_cons (by simp (dsimp := false) only [push_cast, ↓reduceIte, Nat.reduceEqDiff, Nat.reduceAdd, reduceCtorEq, hi0, hi1, rowS, hz3, hz4, hf0, hf1, hw, hb0] <;> rfl) (by exact .one (.own (by simp))) ?_
            refine hf_cons (by simp (dsimp := false) only [push_cast, ↓reduceIte, Nat.reduceEqDiff, Nat.reduceAdd, reduceCtorEq, hi0, hi1, rowS, hz3, hz4, hf0, hf1, hw, hb0] <;> rfl) (by exact ConvV.self rfl) ?_
            refine hf_cons (by simp (dsimp := false) only [push_cast, ↓reduceIte, Nat.reduceEqDiff, Nat.reduceAdd, reduceCtorEq, hi0, hi1, rowS, hz3, hz4, hf0, hf1, hw, hb0] <;> rfl) (by exact ConvV.self rfl) ?_
            exact hf_nil
          · refine hh_cons (i := (26, 0)) (by simp) (by simp) (by simp (dsimp := false) only [push_cast, ↓reduceIte, Nat.reduceEqDiff, Nat.reduceAdd, reduceCtorEq, hi0, hi1, rowS, hz3, hz4, hf0, hf1, hw, hb0] <;> rfl) (by simp only [rowS, List.map_append, List.length_append]; exact ConvB.arr (ConvL.free (by rw [frees_append, strs_free]; rfl))) ?_
            exact hh_nil
        · exact ⟨by omega, by omega, split_hit hi0 hb0 hsp hb1⟩
      · have hb1 := rb1
        try simp only [beq_iff_eq, bne_iff_ne, ne_eq, bne_eq_false_iff_eq, beq_eq_false_iff_ne, decide_eq_true_eq, decide_eq_false_iff_not, Bool.not_eq_true', Bool.not_eq_false', Bool.or_eq_true, Bool.and_eq_true, Bool.or_eq_false_iff, Bool.and_eq_false_iff] at hb1
        refine vwp_skip ?_
        apply_assumption
        refine vwp_region rfl ?_
        simp (dsimp := false) only [push_cast, hP, hnt, hgw, hgb, Nat.reduceLT, Nat.reduceEqDiff, Nat.reduceAdd, Nat.reduceSub, Nat.reduceMul, Nat.reduceLeDiff, ↓reduceIte, reduceCtorEq, hi0, hi1, rowS, hz3, hz4, hf0, hf1, hw, hb0]
        refine hL0 _ _ _ ?_ ?_ ⟨i + 1, fr_, out, rfl, ?_, rfl⟩
        · omega
        · refine wk_conv [] [((6, 0), (6, 0))] (by simp) (by simp) (by decide) ?_ ?_
          · refine hf_cons (by simp (dsimp := false) only [push_cast, ↓reduceIte, Nat.reduceEqDiff, Nat.reduceAdd, reduceCtorEq, hi0, hi1, rowS, hz3, hz4, hf0, hf1, hw, hb0] <;> rfl) (by exact ConvV.self rfl) ?_
            refine hf_cons (by simp (dsimp := false) only [push_cast, ↓reduceIte, Nat.reduceEqDiff, Nat.reduceAdd, reduceCtorEq, hi0, hi1, rowS, hz3, hz4, hf0, hf1, hw, hb0] <;> rfl) (by exact ConvV.self rfl) ?_
            refine hf_cons (by simp (dsimp := false) only [push_cast, ↓reduceIte, Nat.reduceEqDiff, Nat.reduceAdd, reduceCtorEq, hi0, hi1, rowS, hz3, hz4, hf0, hf1, hw, hb0] <;> rfl) (by exact .one (.own (by simp))) ?_
            refine hf_cons (by simp (dsimp := false) only [push_cast, ↓reduceIte, Nat.reduceEqDiff, Nat.reduceAdd, reduceCtorEq, hi0, hi1, rowS, hz3, hz4, hf0, hf1, hw, hb0] <;> rfl) (by exact ConvV.self rfl) ?_
            refine hf_cons (by simp (dsimp := false) only [push_cast, ↓reduceIte, Nat.reduceEqDiff, Nat.reduceAdd, reduceCtorEq, hi0, hi1, rowS, hz3, hz4, hf0, hf1, hw, hb0] <;> rfl) (by exact ConvV.self rfl) ?_
            exact hf_nil
          · refine hh_cons (i := (6, 0)) (by simp) (by simp) (by simp (dsimp := false) only [push_cast, ↓reduceIte, Nat.reduceEqDiff, Nat.reduceAdd, reduceCtorEq, hi0, hi1, rowS, hz3, hz4, hf0, hf1, hw, hb0] <;> rfl) (by exact ConvB.arr (ConvL.free (strs_free out))) ?_
            exact hh_nil
        · exact ⟨by omega, by omega, split_miss hi0 hb0 hsp hb1⟩
    · have hb0 := rb0
      try simp only [beq_iff_eq, bne_iff_ne, ne_eq, bne_eq_false_iff_eq, beq_eq_false_iff_ne, decide_eq_true_eq, decide_eq_false_iff_not, Bool.not_eq_true', Bool.not_eq_false', Bool.or_eq_true, Bool.and_eq_true, Bool.or_eq_false_iff, Bool.and_eq_false_iff] at hb0
      have hend := split_end hb0 hsp
      refine vwp_exit ?_
      simp only [thenQ, blockQ, Nat.reduceEqDiff, reduceIte]
      apply_assumption
      refine vwp_seq_region rfl fun K hK => ?_
      simp (dsimp := false) only [push_cast, hP, hnt, hgw, hgb, Nat.reduceLT, Nat.reduceEqDiff, Nat.reduceAdd, Nat.reduceSub, Nat.reduceMul, Nat.reduceLeDiff, ↓reduceIte, reduceCtorEq, hi0, hi1, rowS, hz3, hz4, hf0, hf1, hend]
      refine hK _ ?_; clear hK
      refine vwp_ret ?_
      refine ret_conv [(6, 0)] [] (by simp (dsimp := false) only [push_cast, hP, hnt, hgw, hgb, Nat.reduceLT, Nat.reduceEqDiff, Nat.reduceAdd, Nat.reduceSub, Nat.reduceMul, Nat.reduceLeDiff, ↓reduceIte, reduceCtorEq, hi0, hi1, rowS, hz3, hz4, hf0, hf1, hend]; rfl) (by simp) (by simp) (by first | decide | simp) ?_ ?_
      · simp only [pack]
        repeat' (first | exact ConvVs.nil | exact ConvL.nil | refine ConvV.tup ?_ | refine ConvVs.cons ?_ ?_ | (refine ConvV.self ?_; simp only [push_cast, strs_free]; done) | refine ConvV.one ?_ | refine ConvV.agg ?_ | (refine ConvL.free ?_; simp only [push_cast, strs_free]; done) | refine ConvL.append ?_ ?_ | refine ConvL.cons ?_ ?_ | exact Conv.free rfl | exact Conv.nil | (refine Conv.own ?_; simp; done) | (refine Conv.loc ?_; simp; done) | refine Conv.frz (by simp) (by simp (dsimp := false) only [push_cast, ↓reduceIte, Nat.reduceEqDiff, Nat.reduceAdd, reduceCtorEq, hi0, hi1, rowS, hz3, hz4, hf0, hf1, hend] <;> rfl) ?_ | refine Conv.sl (by simp) ?_ | refine Conv.fn ?_)
      · exact rb_nil
end Go.Vm
end

section
namespace Go.Vm
open Go Go.RowKit Go.Proofs
set_option maxRecDepth 100000
set_option linter.unusedSimpArgs false
set_option linter.unusedVariables false
set_option maxHeartbeats 4000000

def ver0 : Ver := ⟨0, [], [], 0, 0, [], 0⟩
theorem extract_size_le (s : ByteArray) (a b : Nat) : (s.extract a b).size ≤ s.size := by
  rw [size_list, ext_data, size_list, List.length_take, List.length_drop]; omega
def prfStep (n i : Nat) (p : Ver) (line : ByteArray) : Ver :=
  if i = 0 then { p with skip := numR (restF line wskip) }
  else if i = 1 then { p with phases := numR (restF line wphases) }
  else if i + 1 < n then
    (if (splitR (restF line wand ++ spB) 32).length < 2 then { p with skip := -1 } else { p with ands := p.ands ++ [(numR (atI (splitR (restF line wand ++ spB) 32) 0), numR (atI (splitR (restF line wand ++ spB) 32) 1))] })
  else { p with lit := numR (restF line wlit) }
def prfGo (n : Nat) : Nat → List ByteArray → Ver → Ver
  | _, [], p => p
  | i, x :: r, p => prfGo n (i + 1) r (prfStep n i p x)
def prfF (l : List ByteArray) : Ver := prfGo l.length 0 l ver0
structure PrfAt (l : List ByteArray) (i : Int) (p : Ver) : Prop where
  eq : prfGo l.length i.toNat (l.drop i.toNat) p = prfF l
  len : (p.ands.length : Int) ≤ i
end Go.Vm
end

section
namespace Go.Vm
open Go Go.RowKit Go.Proofs
set_option maxRecDepth 100000
set_option linter.unusedSimpArgs false
set_option linter.unusedVariables false
set_option maxHeartbeats 4000000

theorem same_len {α : Type} {a b : List α} (h : ¬ (a.length : Int) = (b.length : Int)) : ¬ a = b := by rintro rfl; exact h rfl
theorem same_next {α : Type} [Inhabited α] {a b : List α} {i : Int} (h0 : 0 ≤ i) (h1 : i < (a.length : Int)) (hl : a.length = b.length) (h : a.take i.toNat = b.take i.toNat) (he : atI a i = atI b i) : a.take (i + 1).toNat = b.take (i + 1).toNat := by
  rw [take_next h0 h1, take_next h0 (by omega), h, he]
theorem same_stop {α : Type} [Inhabited α] {a b : List α} {i : Int} (he : ¬ atI a i = atI b i) : ¬ a = b := by rintro rfl; exact he rfl
theorem same_end {α : Type} {a b : List α} {i : Int} (h1 : ¬ i < (a.length : Int)) (hl : a.length = b.length) (h : a.take i.toNat = b.take i.toNat) : a = b := by
  rwa [take_all h1, take_all (by omega)] at h
structure Prd where
  ands : List (Int × Int)
  lit : Int
def prdP (l : List (Int × Int)) (n : Int) : List PC := [.sl false l.length (l.flatMap fun g => [.c (.int .i64 g.1), .c (.int .i64 g.2)]), .c (.int .i64 n)]
attribute [push_cast] prdP
def tracePcs (v : Ver) : List PC := [.sl false v.first.length (v.first.map fun b => .c (.bool b)), .sl false v.inputs.length (v.inputs.map fun l => .sl false l.length (l.map fun b => .c (.bool b)))]
attribute [push_cast] tracePcs
end Go.Vm
end

section
namespace Go.Vm
open Go Go.RowKit Go.Proofs
set_option maxRecDepth 100000
set_option linter.unusedSimpArgs false
set_option linter.unusedVariables false
set_option maxHeartbeats 4000000

theorem splitGo_len (c : UInt8) : ∀ (l acc : List UInt8), (splitGo c l acc).length ≤ l.length
  | [], acc => by simp [splitGo]
  | b :: r, acc => by
    unfold splitGo
    split
    · have := splitGo_len c r []; simp; omega
    · have := splitGo_len c r (acc ++ [b]); simp; omega
theorem splitR_len (s : ByteArray) (c : UInt8) : (splitR s c).length ≤ s.size := by
  unfold splitR; rw [List.length_map, size_list]; exact splitGo_len c _ _
def unsGo : Nat → List ByteArray → List Bool → List (List Bool) → Ver
  | _, [], fi, ins => ⟨2, fi, ins, 0, 0, [], 0⟩
  | i, x :: r, fi, ins => if i = 1 then unsGo (i + 1) r (unbitsF (restF x wfirst)) ins else unsGo (i + 1) r fi (ins ++ [unbitsF (restF x win)])
def unsF (l : List ByteArray) : Ver := unsGo 1 (l.drop 1) [] []
structure UnsAt (l : List ByteArray) (i : Int) (fi : List Bool) (ins : List (List Bool)) : Prop where
  eq : unsGo i.toNat (l.drop i.toNat) fi ins = unsF l
  len : (ins.length : Int) ≤ i
  fi : fi.length ≤ 100000
  each : ∀ x ∈ ins, x.length ≤ 100000
def bbP (l : List Bool) : PC := .sl true l.length (l.map (fun b => PC.c (Value.bool b)))
attribute [push_cast] bbP
end Go.Vm
end

section
namespace Go.Vm
open Go Go.RowKit Go.Proofs
set_option maxRecDepth 100000
set_option linter.unusedSimpArgs false
set_option linter.unusedVariables false
set_option maxHeartbeats 4000000

def wordF (line : ByteArray) : ByteArray := cutL line spB
def tailF (line : ByteArray) : ByteArray := cutT line spB
def stepV (v : Ver) (line : ByteArray) : Ver :=
  if (wordF line).toList = wfirst.toList then ⟨v.kind, unbitsF (tailF line), v.inputs, v.skip, v.phases, v.ands, v.lit⟩
  else if (wordF line).toList = win.toList then ⟨v.kind, v.first, v.inputs ++ [unbitsF (tailF line)], v.skip, v.phases, v.ands, v.lit⟩
  else if (wordF line).toList = wskip.toList then ⟨v.kind, v.first, v.inputs, numF (tailF line), v.phases, v.ands, v.lit⟩
  else if (wordF line).toList = wphases.toList then ⟨v.kind, v.first, v.inputs, v.skip, numF (tailF line), v.ands, v.lit⟩
  else if (wordF line).toList = wand.toList then ⟨v.kind, v.first, v.inputs, v.skip, v.phases, v.ands ++ [(numF (wordF (tailF line)), numF (tailF (tailF line)))], v.lit⟩
  else if (wordF line).toList = wlit.toList then ⟨v.kind, v.first, v.inputs, v.skip, v.phases, v.ands, numF (tailF line)⟩
  else v
def kindOf (w : ByteArray) : Int := if w.toList = wUNKNOWN.toList then 3 else if w.toList = wUNSAFE.toList then 2 else if w.toList = wSAFE.toList then 1 else 0
def parseF (l : List ByteArray) : Ver := (l.drop 1).foldl stepV ⟨kindOf (atI l 0), [], [], 0, 0, [], 0⟩
structure VAt (l : List ByteArray) (i : Int) (v : Ver) : Prop where
  eq : ((l.drop 1).drop i.toNat).foldl stepV v = parseF l
  li : (v.inputs.length : Int) ≤ i
  la : (v.ands.length : Int) ≤ i
  fi : v.first.length ≤ 100000
  each : ∀ x ∈ v.inputs, x.length ≤ 100000
theorem splitB_size (sep : ByteArray) : ∀ (k : Nat) (s : ByteArray), ∀ x ∈ Lib.splitB sep 0 k s, x.size ≤ s.size
  | 0, s, x, h => by simp [Lib.splitB] at h; rw [h]; exact Nat.le_refl _
  | k + 1, s, x, h => by
    unfold Lib.splitB at h
    split at h
    · simp at h; rw [h]; exact Nat.le_refl _
    · rcases List.mem_cons.1 h with rfl | h
      · exact extract_size_le _ _ _
      · exact Nat.le_trans (splitB_size sep k _ x h) (extract_size_le _ _ _)
end Go.Vm
end

section
namespace Go.Vm
open Go Go.RowKit
set_option linter.unusedVariables false

/-! ### Texts that are written, read -/
theorem index_hit (c : UInt8) : ∀ (x r : List UInt8), c ∉ x → Lib.index (x ++ c :: r) [c] = x.length
  | [], r, _ => by simp [Lib.index, List.isPrefixOf]
  | b :: x, r, h => by
    have hb : c ≠ b := fun e => h (by simp [e])
    have ih := index_hit c x r fun e => h (List.mem_cons_of_mem _ e)
    rw [List.cons_append, Lib.index, ih]
    have h1 : ([c].isPrefixOf (b :: (x ++ c :: r))) = false := by simp [List.isPrefixOf, hb]
    rw [h1]
    have h2 : ¬ ((x.length : Int) == -1) = true := by simp
    simp only [Bool.false_eq_true, if_false, if_neg h2, List.length_cons]
    omega
theorem index_miss (c : UInt8) : ∀ (x : List UInt8), c ∉ x → Lib.index x [c] = -1
  | [], _ => by simp [Lib.index]
  | b :: x, h => by
    have hb : c ≠ b := fun e => h (by simp [e])
    have ih := index_miss c x fun e => h (List.mem_cons_of_mem _ e)
    rw [Lib.index, ih]
    have h1 : ([c].isPrefixOf (b :: x)) = false := by simp [List.isPrefixOf, hb]
    rw [h1]; simp
theorem bOf_ext {s : ByteArray} {l : List UInt8} (h : s.data.toList = l) : s = bOf l := by subst h; exact ByteArray.ext rfl
theorem splitGo_line (c : UInt8) : ∀ (x acc r : List UInt8), c ∉ x → splitGo c (x ++ c :: r) acc = (acc ++ x) :: splitGo c r []
  | [], acc, r, _ => by simp [splitGo]
  | b :: x, acc, r, h => by
    have hb : ¬ b = c := fun e => h (by simp [e])
    rw [List.cons_append, splitGo, if_neg hb, splitGo_line c x (acc ++ [b]) r fun e => h (List.mem_cons_of_mem _ e)]
    simp
theorem parse_app : ∀ (l r : List UInt8) (acc a : Nat), Lib.parseUint10 acc l = .ok a → Lib.parseUint10 acc (l ++ r) = Lib.parseUint10 a r
  | [], r, acc, a, h => by
    simp only [Lib.parseUint10] at h
    injection h with h
    subst h; rfl
  | c :: l, r, acc, a, h => by
    rw [List.cons_append]
    simp only [Lib.parseUint10] at h ⊢
    split at h
    · rename_i h1
      rw [if_pos h1]
      split at h
      · cases h
      · rename_i h2
        rw [if_neg h2]
        split at h
        · cases h
        · rename_i h3
          rw [if_neg h3]
          exact parse_app l r _ a h
    · cases h
theorem digit_nat {d : Nat} (h : d < 10) : (UInt8.ofNat (48 + d)).toNat = 48 + d := by
  rw [UInt8.toNat_ofNat']; omega
theorem dec_ind (P : Nat → List UInt8 → Prop) (h1 : ∀ u, u < 10 → P u [UInt8.ofNat (48 + u)]) (h2 : ∀ u, ¬ u < 10 → P (u / 10) (Lib.decDigits (u / 10)) → P u (Lib.decDigits (u / 10) ++ [UInt8.ofNat (48 + u % 10)])) (u : Nat) : P u (Lib.decDigits u) := by
  induction u using Nat.strongRecOn with
  | _ u ih =>
    rw [Lib.decDigits]
    split
    · rename_i h; exact h1 u h
    · rename_i h; exact h2 u h (ih (u / 10) (by omega))
theorem parse_dec (u : Nat) : u < 1000000000000 → Lib.parseUint10 0 (Lib.decDigits u) = .ok u := by
  refine dec_ind (fun u l => u < 1000000000000 → Lib.parseUint10 0 l = .ok u) (fun u h _ => ?_) (fun u h ih hu => ?_) u
  · simp only [Lib.parseUint10, digit_nat h]
    rw [if_pos (by omega), if_neg (by omega), if_neg (by omega)]
    simp
  · rw [parse_app _ _ 0 (u / 10) (ih (by omega))]
    have hd := digit_nat (d := u % 10) (Nat.mod_lt _ (by decide))
    simp only [Lib.parseUint10, hd]
    rw [if_pos (by omega), if_neg (by omega), if_neg (by omega)]
    congr 1; omega
theorem dec_digits (u : Nat) : ∀ x ∈ Lib.decDigits u, 48 ≤ x.toNat ∧ x.toNat ≤ 57 := by
  refine dec_ind (fun u l => ∀ x ∈ l, 48 ≤ x.toNat ∧ x.toNat ≤ 57) (fun u h x hx => ?_) (fun u h ih x hx => ?_) u
  · simp only [List.mem_singleton] at hx; subst hx; rw [digit_nat h]; omega
  · rcases List.mem_append.1 hx with hx | hx
    · exact ih x hx
    · simp only [List.mem_singleton] at hx; subst hx
      rw [digit_nat (Nat.mod_lt _ (by decide))]
      have := Nat.mod_lt u (show 0 < 10 by decide)
      omega
theorem dec_ne (u : Nat) : Lib.decDigits u ≠ [] := by
  refine dec_ind (fun _ l => l ≠ []) (fun u h => by simp) (fun u h ih => by simp) u
theorem numGo_dec (u : Nat) : numGo (Lib.decDigits u) = u := by
  refine dec_ind (fun u l => numGo l = u) (fun u h => ?_) (fun u h ih => ?_) u
  · simp only [numGo, List.foldl_cons, List.foldl_nil, numStep, digit_nat h]; omega
  · unfold numGo at ih ⊢
    rw [List.foldl_append, ih]
    have hd := digit_nat (d := u % 10) (Nat.mod_lt _ (by decide))
    simp only [List.foldl_cons, List.foldl_nil, numStep, hd]
    omega
theorem digB_data (n : Int) : (digB n).data.toList = Lib.decDigits n.toNat := rfl
end Go.Vm
end

section
namespace Go.Vm
open Go Go.RowKit
set_option linter.unusedVariables false

/-! ### A verdict's text, read by either -/
theorem no_dig {c : UInt8} (h : c.toNat < 48) (n : Int) : c ∉ (digB n).data.toList := by
  intro hx
  have := dec_digits n.toNat c hx
  omega
theorem sp_data : spB.data.toList = [32] := rfl
end Go.Vm
end

section
namespace Go.Vm
open Go Go.RowKit Go.Proofs
set_option maxRecDepth 100000
set_option linter.unusedSimpArgs false
set_option linter.unusedVariables false
set_option maxHeartbeats 4000000

/-! ### An iterator's walk, between two calls of yield -/
section
variable {P : Program} {gw : World} {gb : Nat} {a : Act} {w w' : World} {n : Nat} {yv : Value} {bs : List Nat} {cs : List (TypeId × List Value)}

/-- What the iterator's frame and its boxes hold. -/
structure At (n : Nat) (yv : Value) (bs : List Nat) (cs : List (TypeId × List Value)) (a : Act) (W : World) : Prop where
  size : a.tmps.size = n
  defs : a.defers = []
  y : a.tmps[0]? = some yv
  one : yv.oneCell' = true
  cap : ∀ (j g : Nat), bs[j]? = some g → a.tmps[j + 1]? = some (.pointer (some ⟨g, 0, none⟩))
  cell : ∀ (j g : Nat) (b : TypeId × List Value), bs[j]? = some g → cs[j]? = some b → W.heap[g]? = some (.cells b.2.toArray b.1 (0, 0))
  ones : ∀ b ∈ cs, ∀ v ∈ b.2, v.oneCell' = true
  len : bs.length = cs.length
  nd : bs.Nodup
  room : cs.length < n

def phiI (bs : List Nat) (i : Id) : Option Value := if i.1 = 0 then (bs[i.2]?).map (fun g => .pointer (some ⟨g, 0, none⟩)) else none
def ctxI (P : Program) (n : Nat) (gw : World) (gb : Nat) (bs : List Nat) (W : World) (hg : ∀ g, g < gb → g < W.heap.size ∧ g ∉ bs) : Ctx :=
  { P := P, nt := n, gw := gw, gb := gb, w0 := W, K0 := fun g => g < W.heap.size ∧ g ∉ bs, Fi := fun _ => False, φi := phiI bs, ro := none, df := [], ex := #[], fik := fun _ h => h.elim, gbk := hg }
def stI (yv : Value) (cs : List (TypeId × List Value)) (en : List (Nat × Value)) : St :=
  St.of ((0, .one (.c yv)) :: ((List.range cs.length).map fun j => (j + 1, .one (.loc (0, j) 0))) ++ en.map fun e => (e.1, .one (.c e.2))) (cs.zipIdx.map fun b => ((0, b.2), .box b.1.1 (b.1.2.map .c))) []

theorem At.rel (h : At n yv bs cs a w) (hbs : ∀ g ∈ bs, gb ≤ g) (hgb : gb ≤ w.heap.size) (hgl : ∀ g, g < gb → w.heap[g]? = gw.heap[g]?) (en : List (Nat × Value)) (hen : ∀ e ∈ en, a.tmps[e.1]? = some e.2 ∧ e.2.oneCell' = true) :
    ∃ hg, Rel (ctxI P n gw gb bs w hg) (stI yv cs en) a w := by
  have hlt : ∀ (j g : Nat), bs[j]? = some g → g < w.heap.size := by
    intro j g hj
    have hj' : j < cs.length := by rw [← h.len]; exact (List.getElem?_eq_some_iff.1 hj).1
    exact (Array.getElem?_eq_some_iff.1 (h.cell j g _ hj (List.getElem?_eq_getElem hj'))).1
  refine ⟨fun g hg => ⟨by omega, fun hb => by have := hbs g hb; omega⟩, phiI bs, fun _ => False, fun _ => False, h.size, h.defs, fun t p hp => ?_, fun i b hi => ?_, fun i j u v g hi hj hu hv hg hg' => ?_, fun i u g hi hu hg => ?_, fun g hg => hg, fun g hg => hg.elim, fun g hg => hg.elim, fun g hg => hg.elim, rfl, rfl, rfl, Nat.le_refl _, fun _ _ => rfl, fun g hg => hg.1, hgb, hgl,
    fun j u hu => hu, Nat.le_refl _, fun i hi => ?_, fun t p hp => by cases hp⟩
  · have hm := lookF_mem (l := (0, .one (.c yv)) :: ((List.range cs.length).map fun j => (j + 1, PV.one (.loc (0, j) 0))) ++ en.map fun e => (e.1, PV.one (.c e.2))) hp
    simp only [List.cons_append, List.mem_cons, List.mem_append, List.mem_map, List.mem_range] at hm
    rcases hm with hm | ⟨j, hj, hm⟩ | ⟨e, he, hm⟩
    · simp only [Prod.mk.injEq] at hm
      obtain ⟨rfl, rfl⟩ := hm
      exact ⟨yv, h.y, by simp only [repV, rep]; exact ⟨trivial, h.one⟩⟩
    · simp only [Prod.mk.injEq] at hm
      obtain ⟨rfl, rfl⟩ := hm
      have hj' : j < bs.length := by rw [h.len]; exact hj
      have hb := List.getElem?_eq_getElem hj'
      exact ⟨_, h.cap j _ hb, by simp only [repV, rep]; exact ⟨.pointer (some ⟨bs[j], 0, none⟩), bs[j], by simp [phiI, hb], rfl, rfl⟩⟩
    · simp only [Prod.mk.injEq] at hm
      obtain ⟨rfl, rfl⟩ := hm
      exact ⟨_, (hen e he).1, by simp only [repV, rep]; exact ⟨trivial, (hen e he).2⟩⟩
  · have hi' : lookH i (cs.zipIdx.map fun b => (((0, b.2) : Id), Blk.box b.1.1 (b.1.2.map .c))) = some b := hi
    have hm := lookH_mem hi'
    simp only [List.mem_map] at hm
    obtain ⟨⟨b0, j⟩, hb0, hm⟩ := hm
    simp only [Prod.mk.injEq] at hm
    obtain ⟨rfl, rfl⟩ := hm
    have hcj : cs[j]? = some b0 := by
      have := List.mem_zipIdx_iff_getElem?.1 hb0
      exact this
    have hj' : j < bs.length := by rw [h.len]; exact (List.getElem?_eq_some_iff.1 hcj).1
    have hb := List.getElem?_eq_getElem hj'
    refine ⟨bs[j], b0.2, by simp [phiI, hb], h.cell j _ b0 hb hcj, reps_of_get _ _ (by simp) fun q p v hq hv => ?_⟩
    rw [List.getElem?_map, hv] at hq
    simp only [Option.map_some, Option.some.injEq] at hq
    subst hq
    simp only [rep]
    exact ⟨trivial, h.ones b0 (List.mem_of_getElem? hcj) v (List.mem_of_getElem? hv)⟩
  · obtain ⟨i1, i2⟩ := i
    obtain ⟨j1, j2⟩ := j
    simp only [phiI] at hu hv
    split at hu
    · split at hv
      · rename_i e1 e2
        have e1 : i1 = 0 := e1
        have e2 : j1 = 0 := e2
        subst e1 e2
        obtain ⟨g1, hb1, rfl⟩ := Option.map_eq_some_iff.1 hu
        obtain ⟨g2, hb2, rfl⟩ := Option.map_eq_some_iff.1 hv
        simp only [blkOf, Option.some.injEq] at hg hg'
        subst hg hg'
        obtain ⟨l1, e1⟩ := List.getElem?_eq_some_iff.1 hb1
        obtain ⟨l2, e2⟩ := List.getElem?_eq_some_iff.1 hb2
        have hp := List.pairwise_iff_getElem.1 h.nd
        rcases Nat.lt_trichotomy i2 j2 with hlt' | rfl | hlt'
        · exact absurd (e1.trans e2.symm) (hp i2 j2 l1 l2 hlt')
        · rfl
        · exact absurd (e2.trans e1.symm) (hp j2 i2 l2 l1 hlt')
      · cases hv
    · cases hu
  · obtain ⟨i1, i2⟩ := i
    simp only [phiI] at hu
    split at hu
    · obtain ⟨g1, hb1, rfl⟩ := Option.map_eq_some_iff.1 hu
      simp only [blkOf, Option.some.injEq] at hg
      subst hg
      have hm := List.mem_of_getElem? hb1
      exact ⟨fun h => h, fun hk => hk.2 hm, hbs _ hm⟩
    · cases hu
  · left
    simp only [phiI] at hi
    split at hi
    · rename_i e; simp only [e]; show 0 < 1; omega
    · exact absurd rfl hi

theorem At.out {hg} {C₂ : Ctx} {σ : St} {a' : Act} {cs' : List (TypeId × List Value)} (hbs : ∀ g ∈ bs, g < w.heap.size) (hnd : bs.Nodup) (hone : yv.oneCell' = true) (hlen : bs.length = cs'.length) (hroom : cs'.length < n) (hones : ∀ b ∈ cs', ∀ v ∈ b.2, v.oneCell' = true)
    (l : Later (ctxI P n gw gb bs w hg) C₂) (h : Rel C₂ σ a' w') (h0 : σ.fr 0 = some (.one (.c yv))) (hf : ∀ j, j < cs'.length → σ.fr (j + 1) = some (.one (.loc (0, j) 0))) (hH : ∀ (j : Nat) b, cs'[j]? = some b → σ.H (0, j) = some (.box b.1 (b.2.map .c))) (hdf : a'.defers = []) :
    At n yv bs cs' a' w' ∧ Turned (· ∈ bs) w w' ∧ ∀ t v, σ.fr t = some (.one (.c v)) → a'.tmps[t]? = some v := by
  obtain ⟨φ, F0, F1, R⟩ := h
  have hφ : ∀ j u, φ (0, j) = some u → phiI bs (0, j) = some u := fun j u hu => by
    have := R.keep j u hu
    rw [l.φi] at this
    exact this
  have hval : ∀ t v, σ.fr t = some (.one (.c v)) → a'.tmps[t]? = some v := by
    intro t v ht
    obtain ⟨x, hx, hr⟩ := R.frame t _ ht
    simp only [repV, rep] at hr
    rw [hx, hr.1]
  have hnt : C₂.nt = n := by rw [show C₂.nt = C₂.toCore.nt from rfl, l.core]; rfl
  refine ⟨⟨R.size.trans hnt, hdf, hval 0 yv h0, hone, fun j g hj => ?_, fun j g b hj hb => ?_, hones, hlen, hnd, hroom⟩, ⟨R.os.trans l.os, R.tape.trans l.tape, R.output.trans l.output, Nat.le_trans l.big R.big, fun g hg' hn => ?_⟩, hval⟩
  · have hj' : j < cs'.length := by rw [← hlen]; exact (List.getElem?_eq_some_iff.1 hj).1
    obtain ⟨x, hx, hr⟩ := R.frame _ _ (hf j hj')
    simp only [repV, rep] at hr
    obtain ⟨u, g', hu, hg', rfl⟩ := hr
    have := hφ j u hu
    simp only [phiI, if_true, hj, Option.map_some, Option.some.injEq] at this
    subst this
    simp only [blkOf, Option.some.injEq] at hg'
    subst hg'
    exact hx
  · obtain ⟨g', vs, hp, hh, hr⟩ := R.heap _ _ (hH j b hb)
    have := hφ j _ hp
    simp only [phiI, if_true, hj, Option.map_some, Option.some.injEq, Value.pointer.injEq, Addr.mk.injEq] at this
    obtain ⟨rfl, _⟩ := this
    rw [hh, reps_plain _ _ hr]
  · have hk : (ctxI P n gw gb bs w hg).K0 g := ⟨hg', hn⟩
    exact (R.kept g (l.K0 g hk)).trans (l.kept g hk)
end
end Go.Vm
end

section
namespace Go.Vm
open Go Go.RowKit Go.Proofs
set_option maxRecDepth 100000
set_option linter.unusedSimpArgs false
set_option linter.unusedVariables false
set_option maxHeartbeats 4000000

section
variable {P : Program} {gw : World} {gb : Nat} {a : Act} {w w' : World} {n : Nat} {yv : Value} {bs : List Nat} {cs : List (TypeId × List Value)}

/-- What a state of an iterator with three boxes says. -/
def K3 (yv : Value) (c0 c1 c2 : TypeId × List Value) (ex : List (Nat × Value)) (σ : St) : Prop :=
  (σ.fr 0 = some (.one (.c yv)) ∧ σ.fr 1 = some (.one (.loc (0, 0) 0)) ∧ σ.fr 2 = some (.one (.loc (0, 1) 0)) ∧ σ.fr 3 = some (.one (.loc (0, 2) 0))) ∧
  (σ.H (0, 0) = some (.box c0.1 (c0.2.map .c)) ∧ σ.H (0, 1) = some (.box c1.1 (c1.2.map .c)) ∧ σ.H (0, 2) = some (.box c2.1 (c2.2.map .c))) ∧
  ∀ e ∈ ex, σ.fr e.1 = some (.one (.c e.2))

theorem At.region {c0 c1 c2 : TypeId × List Value} {d0 d1 d2 : TypeId × List Value} (h : At n yv bs [c0, c1, c2] a w) (hbs : ∀ g ∈ bs, gb ≤ g) (hgb : gb ≤ w.heap.size) (hgl : ∀ g, g < gb → w.heap[g]? = gw.heap[g]?)
    {ops : List Oper} {id : Nat} (hgd : (ops.all fun o => o.guard.isNone) = true) (en ex : List (Nat × Value)) (hen : ∀ e ∈ en, a.tmps[e.1]? = some e.2 ∧ e.2.oneCell' = true) (hones : ∀ b ∈ [d0, d1, d2], ∀ v ∈ b.2, v.oneCell' = true)
    (hs : ∀ C : Core, C.P = P → C.nt = n → C.gw = gw → C.gb = gb → seqRun C [] ops (St.of ((0, .one (.c yv)) :: (1, .one (.loc (0, 0) 0)) :: (2, .one (.loc (0, 1) 0)) :: (3, .one (.loc (0, 2) 0)) :: en.map fun e => (e.1, .one (.c e.2))) [((0, 0), .box c0.1 (c0.2.map .c)), ((0, 1), .box c1.1 (c1.2.map .c)), ((0, 2), .box c2.1 (c2.2.map .c))] []) (K3 yv d0 d1 d2 ex))
    {Q : Exit → Act → World → Prop} (hQ : ∀ a' w', At n yv bs [d0, d1, d2] a' w' → Turned (· ∈ bs) w w' → (∀ e ∈ ex, a'.tmps[e.1]? = some e.2) → Q .normal a' w') :
    (Code.region id ops.toArray false).wpIn Fence.wide 0 P Q a w := by
  obtain ⟨hg, hr⟩ := h.rel hbs hgb hgl en hen
  have hlt : ∀ g ∈ bs, g < w.heap.size := by
    intro g hm
    obtain ⟨j, hj⟩ := List.mem_iff_getElem?.1 hm
    have hj' : j < [c0, c1, c2].length := by rw [← h.len]; exact (List.getElem?_eq_some_iff.1 hj).1
    exact (Array.getElem?_eq_some_iff.1 (h.cell j g _ hj (List.getElem?_eq_getElem hj'))).1
  refine region_seq (C := ctxI P n gw gb bs w hg) (Q := K3 yv d0 d1 d2 ex) (fun σ a' w' hR hk => ?_) hr (seqRun_nil _ _ (by simpa using hgd) (by rw [show stI yv [c0, c1, c2] en = St.of ((0, .one (.c yv)) :: (1, .one (.loc (0, 0) 0)) :: (2, .one (.loc (0, 1) 0)) :: (3, .one (.loc (0, 2) 0)) :: en.map fun e => (e.1, .one (.c e.2))) [((0, 0), .box c0.1 (c0.2.map .c)), ((0, 1), .box c1.1 (c1.2.map .c)), ((0, 2), .box c2.1 (c2.2.map .c))] [] from rfl]; simpa using hs (ctxI P n gw gb bs w hg).toCore rfl rfl rfl rfl))
  obtain ⟨⟨k0, k1, k2, k3⟩, ⟨m0, m1, m2⟩, hex⟩ := hk
  have hdf : a'.defers = [] := by obtain ⟨φ, F0, F1, R⟩ := hR; exact R.defs
  obtain ⟨hA, hT, hv⟩ := At.out (cs' := [d0, d1, d2]) hlt h.nd h.one (h.len.trans rfl) (by have := h.room; simpa using this) hones (.refl _) hR k0 (fun j hj => by
    have : j = 0 ∨ j = 1 ∨ j = 2 := by simp at hj; omega
    rcases this with rfl | rfl | rfl <;> assumption) (fun j b hb => by
    have hj := (List.getElem?_eq_some_iff.1 hb).1
    have : j = 0 ∨ j = 1 ∨ j = 2 := by simp at hj; omega
    rcases this with rfl | rfl | rfl <;> (simp at hb; subst hb; assumption)) hdf
  exact hQ a' w' hA hT fun e he => hv _ _ (hex e he)

theorem value_wpIn {o : Oper} {x : Value} {K : Act → World → Prop} {Q : Exit → Act → World → Prop} (hd : ∀ c, o.op ≠ .defer c) (hr : (execOp a.eval o).run P w = .ok (.value x) w') (h : K (a.put o.dst x) w') : o.wpIn Fence.wide 0 P a w K Q := by
  refine ⟨fun _ _ => trivial, ?_⟩
  rw [Oper.semAt_eq _ _ _ hd, hr, Oper.uponIn_value]
  exact h

theorem yield_wpIn {d : Option Nat} {fo xo : Operand} {at_ : Array TypeId} {ty : TypeId} {pos : String} {af : Array Edge} {gd : Option (Nat × Bool)} {l : Nat} {K : Act → World → Prop} {Q : Exit → Act → World → Prop} {R : Ending → World → Prop}
    (hf : a.eval fo = .func (.yield l) #[] #[]) (hY : YieldAt Fence.wide 0 P l #[a.eval xo] w R) (hK : ∀ e w', R e w' → ∃ v, e = .returned v ∧ K (a.put d v) w') :
    Oper.wpIn Fence.wide 0 P ⟨d, .call ⟨.value fo, #[xo], at_⟩, ty, pos, af, gd⟩ a w K Q := by
  obtain ⟨fn, tmps, assign, body, hy, hR⟩ := hY
  refine ⟨fun _ _ => trivial, ?_⟩
  rw [Oper.semAt_eq _ _ _ (fun c h => by cases h)]
  have : (execOp a.eval ⟨d, .call ⟨.value fo, #[xo], at_⟩, ty, pos, af, gd⟩).run P w = .ok (.round l fn tmps assign body) w := by
    simp [execOp, resolve, hf, Deferred.ofValue, invoke, hy]
  rw [this, Oper.uponIn_round]
  refine ⟨fun e => (by cases e), hR.mono fun e w' he => ?_⟩
  obtain ⟨v, rfl, hk⟩ := hK e w' he
  exact hk

theorem eval_put_same {a : Act} {d : Nat} {v : Value} (h : d < a.tmps.size) : (a.put (some d) v).eval (.tmp d) = v := by
  simp [Act.put, Act.eval, Array.getD_eq_getD_getElem?, h]
theorem eval_put_ne {a : Act} {d t : Nat} {v : Value} (h : d ≠ t) : (a.put (some d) v).eval (.tmp t) = a.eval (.tmp t) := by
  simp [Act.put, Act.eval, Array.getD_eq_getD_getElem?, Array.getElem?_setIfInBounds_ne h]
theorem eval_get {a : Act} {t : Nat} {v : Value} (h : a.tmps[t]? = some v) : a.eval (.tmp t) = v := by
  simp [Act.eval, Array.getD_eq_getD_getElem?, h]
theorem At.put (h : At n yv bs cs a w) {d : Nat} {v : Value} (hd : cs.length < d) : At n yv bs cs (a.put (some d) v) w := by
  refine ⟨by simp [Act.put, h.size], h.defs, ?_, h.one, fun j g hj => ?_, h.cell, h.ones, h.len, h.nd, h.room⟩
  · simp only [Act.put]
    rw [Array.getElem?_setIfInBounds_ne (by omega)]; exact h.y
  · have hj' : j < cs.length := by rw [← h.len]; exact (List.getElem?_eq_some_iff.1 hj).1
    simp only [Act.put]
    rw [Array.getElem?_setIfInBounds_ne (by omega)]; exact h.cap j g hj
theorem At.world (h : At n yv bs cs a w) {S : Nat → Prop} (hT : Turned S w w') (hS : ∀ g ∈ bs, ¬ S g) : At n yv bs cs a w' := by
  refine ⟨h.size, h.defs, h.y, h.one, h.cap, fun j g b hj hb => ?_, h.ones, h.len, h.nd, h.room⟩
  have := h.cell j g b hj hb
  exact (hT.heap g (Array.getElem?_eq_some_iff.1 this).1 (hS g (List.mem_of_getElem? hj))).trans this

theorem wpIn_loop_n {F : Fence} {Q : Exit → Act → World → Prop} {c : Code} {k : Nat} (I : Nat → Act → World → Prop) (n : Nat) (h0 : I n a w)
    (round : ∀ n a w, I n a w → c.wpIn F k P (Exit.then (fun a' w' => ∃ m, m < n ∧ I m a' w') Q) a w) : (Code.loop c).wpIn F k P Q a w := by
  refine wpIn_loop (fun a w => ∃ n, I n a w) (fun a w => leastOf (fun n => I n a w)) ⟨n, h0⟩ ?_
  intro a w hI
  refine wpIn_mono (round _ a w (leastOf_spec hI).1) ?_
  intro e a' w' hq
  cases e with
  | normal =>
    obtain ⟨m, hlt, hI'⟩ := hq
    exact show (∃ n, I n a' w') ∧ leastOf (fun n => I n a' w') < leastOf (fun n => I n a w) from ⟨⟨m, hI'⟩, Nat.lt_of_le_of_lt ((leastOf_spec ⟨m, hI'⟩).2 m hI') hlt⟩
  | exit id => exact hq
  | goto l => exact hq
  | ret => exact hq
  | panic ch => exact hq
  | outgrown => exact hq
end

/-! ### The parts of a text between two bytes -/
def piecesB (s : ByteArray) (c : UInt8) : List ByteArray := splitR (s ++ ⟨#[c]⟩) c
theorem indexByte_miss (c : UInt8) : ∀ l : List UInt8, Lib.indexByte l c < 0 → c ∉ l
  | [], _ => by simp
  | b :: l, h => by
    simp only [Lib.indexByte] at h
    split at h
    · omega
    · rename_i hb
      have hg := Lib.indexByte_ge l c
      split at h
      · rename_i h1
        have h1 : Lib.indexByte l c = -1 := by simpa using h1
        have := indexByte_miss c l (by omega)
        simp only [List.mem_cons, not_or]
        exact ⟨fun e => hb (by simp [e]), this⟩
      · rename_i h1
        have h1 : ¬ Lib.indexByte l c = -1 := by simpa using h1
        omega
theorem indexByte_hit (c : UInt8) : ∀ l : List UInt8, 0 ≤ Lib.indexByte l c → ∃ x r, l = x ++ c :: r ∧ c ∉ x ∧ Lib.indexByte l c = x.length
  | [], h => by simp [Lib.indexByte] at h
  | b :: l, h => by
    simp only [Lib.indexByte] at h ⊢
    by_cases hb : b = c
    · subst hb
      exact ⟨[], l, rfl, by simp, by simp⟩
    · have hb' : (b == c) = false := by simpa using hb
      simp only [hb', Bool.false_eq_true, if_false] at h ⊢
      have hg := Lib.indexByte_ge l c
      by_cases h1 : Lib.indexByte l c = -1
      · rw [h1] at h; simp at h
      · have h1' : (Lib.indexByte l c == -1) = false := by simpa using h1
        simp only [h1', Bool.false_eq_true, if_false] at h ⊢
        obtain ⟨x, r, e1, e2, e3⟩ := indexByte_hit c l (by omega)
        refine ⟨b :: x, r, by rw [e1]; rfl, ?_, by rw [e3]; simp⟩
        simp only [List.mem_cons, not_or]
        exact ⟨fun e => hb e.symm, e2⟩
theorem pieces_miss {s : ByteArray} {c : UInt8} (h : Lib.indexByte s.data.toList c < 0) : piecesB s c = [s] := by
  have hn := indexByte_miss c _ h
  unfold piecesB splitR
  have : (s ++ (⟨#[c]⟩ : ByteArray)).data.toList = s.data.toList ++ c :: [] := by rw [data_app]
  rw [this, splitGo_line c _ _ _ hn]
  simp only [List.nil_append, splitGo, List.map_cons, List.map_nil]
  rw [← bOf_ext rfl]
theorem pieces_hit {s : ByteArray} {c : UInt8} {x r : List UInt8} (hs : s.data.toList = x ++ c :: r) (hx : c ∉ x) : piecesB s c = bOf x :: piecesB (bOf r) c := by
  unfold piecesB splitR
  have e1 : (s ++ (⟨#[c]⟩ : ByteArray)).data.toList = x ++ c :: (r ++ [c]) := by rw [data_app, hs]; simp
  have e2 : (bOf r ++ (⟨#[c]⟩ : ByteArray)).data.toList = r ++ [c] := by rw [data_app]; rfl
  rw [e1, e2, splitGo_line c _ _ _ hx]
  simp
end Go.Vm
end
