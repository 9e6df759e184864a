/-
  Walks of the program's functions by the framework, and what they compute. Conditions: each theorem's own premises. By an AI agent.
-/
import Derived.Test.YtnpbndglolcilaaDoorPtF
namespace Go.Vm
open Go Go.RowKit Go.Proofs
set_option maxRecDepth 100000
set_option linter.unusedSimpArgs false
set_option linter.unusedVariables false
set_option maxHeartbeats 4000000

theorem textF_size {n : ByteArray} {k : Int} (h : (textF n k).2 = 0) : (textF n k).1.size ≤ 100 := by
  unfold textF at h ⊢
  split
  · rename_i hc; rw [if_pos hc] at h; exact absurd h hc
  · rename_i hc
    have hz := checkF_ok (n := n) (k := k) (by simpa using hc)
    split
    · show n.size ≤ 100
      omega
    · rw [ByteArray.size_append, ByteArray.size_append, digitsB_size k (by omega)]
      have : colon.size = 1 := rfl
      omega
def saysF (n : ByteArray) (k : Int) (s : ByteArray) : Bool :=
  ((textF n k).2 == 0) && ((textF n k).1.toList == s.toList) && ((readF s).2.2 == 0) && (((readF s).1.toList == n.toList) && (((readF s).2.1 == k) && true))
def aliveF : Bool := saysF nPrefix 3 (nPrefix ++ colon ++ digitsB 3) && saysF nm0 0 nm0

theorem says_call (gw : World) (hg : Glob gw) (n : ByteArray) (k : Int) (s : ByteArray) (hs : s.size ≤ 100) : VCall Tryd.prog gw (gw.heap.size) 37 [.one (.c (.string n)), .one (.c (.int .i64 k)), .one (.c (.string s))] (.one (.c (.bool (saysF n k s)))) [] := by
  refine vcall_of [.tmp 6] Tryd.func37 rfl rfl Tryd.ntmps37 rfl (by simp) ?_
  intro C hP hnt hgw hgb hfull
  refine vwp_seq_region rfl fun K hK => ?_
  simp only [push_cast, hP, hnt, hgw, hgb, Nat.reduceLT, Nat.reduceEqDiff, Nat.reduceAdd, Nat.reduceSub, Nat.reduceMul, Nat.reduceLeDiff, reduceIte, reduceCtorEq, ne_eq, String.reduceEq, not_false_eq_true, Bool.not_not]
  refine hK _ ?_; clear hK
  refine vwp_seq_region rfl fun K hK => ?_
  simp only [push_cast, hP, hnt, hgw, hgb, Nat.reduceLT, Nat.reduceEqDiff, Nat.reduceAdd, Nat.reduceSub, Nat.reduceMul, Nat.reduceLeDiff, reduceIte, reduceCtorEq, ne_eq, String.reduceEq, not_false_eq_true, Bool.not_not]
  refine hK _ ?_; clear hK
  refine vwp_seq_region rfl fun K hK => ?_
  simp only [push_cast, hP, hnt, hgw, hgb, Nat.reduceLT, Nat.reduceEqDiff, Nat.reduceAdd, Nat.reduceSub, Nat.reduceMul, Nat.reduceLeDiff, reduceIte, reduceCtorEq, ne_eq, String.reduceEq, not_false_eq_true, Bool.not_not]
  refine callE_intro (text_call gw gw.heap.size _ _) (.inl ⟨rfl, rfl⟩) ?_
  simp only [push_cast, hP, hnt, hgw, hgb, Nat.reduceLT, Nat.reduceEqDiff, Nat.reduceAdd, Nat.reduceSub, Nat.reduceMul, Nat.reduceLeDiff, reduceIte, reduceCtorEq, ne_eq, String.reduceEq, not_false_eq_true, Bool.not_not]
  refine hK _ ?_; clear hK
  refine vwp_seq_region rfl fun K hK => ?_
  simp only [push_cast, hP, hnt, hgw, hgb, Nat.reduceLT, Nat.reduceEqDiff, Nat.reduceAdd, Nat.reduceSub, Nat.reduceMul, Nat.reduceLeDiff, reduceIte, reduceCtorEq, ne_eq, String.reduceEq, not_false_eq_true, Bool.not_not]
  refine callE_intro (read_call gw hg s hs) (.inl ⟨rfl, rfl⟩) ?_
  simp only [push_cast, hP, hnt, hgw, hgb, Nat.reduceLT, Nat.reduceEqDiff, Nat.reduceAdd, Nat.reduceSub, Nat.reduceMul, Nat.reduceLeDiff, reduceIte, reduceCtorEq, ne_eq, String.reduceEq, not_false_eq_true, Bool.not_not]
  refine hK _ ?_; clear hK
  refine vwp_seq_regionG fun K hK => ?_
  simp only [push_cast, hP, hnt, hgw, hgb, Nat.reduceLT, Nat.reduceEqDiff, Nat.reduceAdd, Nat.reduceSub, Nat.reduceMul, Nat.reduceLeDiff, reduceIte, reduceCtorEq, ne_eq, String.reduceEq, not_false_eq_true, Bool.not_not]
  refine guardR_may (by simp only [push_cast, hP, hnt, hgw, hgb, Nat.reduceLT, Nat.reduceEqDiff, Nat.reduceAdd, Nat.reduceSub, Nat.reduceMul, Nat.reduceLeDiff, reduceIte, reduceCtorEq, ne_eq, String.reduceEq, not_false_eq_true, Bool.not_not, List.getElem?_cons_zero, List.getElem?_cons_succ]; rfl) ?_
  simp only [push_cast, hP, hnt, hgw, hgb, Nat.reduceLT, Nat.reduceEqDiff, Nat.reduceAdd, Nat.reduceSub, Nat.reduceMul, Nat.reduceLeDiff, reduceIte, reduceCtorEq, ne_eq, String.reduceEq, not_false_eq_true, Bool.not_not]
  refine guardR_may (by simp only [push_cast, hP, hnt, hgw, hgb, Nat.reduceLT, Nat.reduceEqDiff, Nat.reduceAdd, Nat.reduceSub, Nat.reduceMul, Nat.reduceLeDiff, reduceIte, reduceCtorEq, ne_eq, String.reduceEq, not_false_eq_true, Bool.not_not, List.getElem?_cons_zero, List.getElem?_cons_succ]; rfl) ?_
  simp only [push_cast, hP, hnt, hgw, hgb, Nat.reduceLT, Nat.reduceEqDiff, Nat.reduceAdd, Nat.reduceSub, Nat.reduceMul, Nat.reduceLeDiff, reduceIte, reduceCtorEq, ne_eq, String.reduceEq, not_false_eq_true, Bool.not_not]
  refine guardR_may (by simp only [push_cast, hP, hnt, hgw, hgb, Nat.reduceLT, Nat.reduceEqDiff, Nat.reduceAdd, Nat.reduceSub, Nat.reduceMul, Nat.reduceLeDiff, reduceIte, reduceCtorEq, ne_eq, String.reduceEq, not_false_eq_true, Bool.not_not, List.getElem?_cons_zero, List.getElem?_cons_succ]; rfl) ?_
  simp only [push_cast, hP, hnt, hgw, hgb, Nat.reduceLT, Nat.reduceEqDiff, Nat.reduceAdd, Nat.reduceSub, Nat.reduceMul, Nat.reduceLeDiff, reduceIte, reduceCtorEq, ne_eq, String.reduceEq, not_false_eq_true, Bool.not_not]
  refine guardR_may (by simp only [push_cast, hP, hnt, hgw, hgb, Nat.reduceLT, Nat.reduceEqDiff, Nat.reduceAdd, Nat.reduceSub, Nat.reduceMul, Nat.reduceLeDiff, reduceIte, reduceCtorEq, ne_eq, String.reduceEq, not_false_eq_true, Bool.not_not, List.getElem?_cons_zero, List.getElem?_cons_succ]; rfl) ?_
  simp only [push_cast, hP, hnt, hgw, hgb, Nat.reduceLT, Nat.reduceEqDiff, Nat.reduceAdd, Nat.reduceSub, Nat.reduceMul, Nat.reduceLeDiff, reduceIte, reduceCtorEq, ne_eq, String.reduceEq, not_false_eq_true, Bool.not_not]
  refine guardR_may (by simp only [push_cast, hP, hnt, hgw, hgb, Nat.reduceLT, Nat.reduceEqDiff, Nat.reduceAdd, Nat.reduceSub, Nat.reduceMul, Nat.reduceLeDiff, reduceIte, reduceCtorEq, ne_eq, String.reduceEq, not_false_eq_true, Bool.not_not, List.getElem?_cons_zero, List.getElem?_cons_succ]; rfl) ?_
  simp only [push_cast, hP, hnt, hgw, hgb, Nat.reduceLT, Nat.reduceEqDiff, Nat.reduceAdd, Nat.reduceSub, Nat.reduceMul, Nat.reduceLeDiff, reduceIte, reduceCtorEq, ne_eq, String.reduceEq, not_false_eq_true, Bool.not_not]
  refine guardR_may (by simp only [push_cast, hP, hnt, hgw, hgb, Nat.reduceLT, Nat.reduceEqDiff, Nat.reduceAdd, Nat.reduceSub, Nat.reduceMul, Nat.reduceLeDiff, reduceIte, reduceCtorEq, ne_eq, String.reduceEq, not_false_eq_true, Bool.not_not, List.getElem?_cons_zero, List.getElem?_cons_succ]; rfl) ?_
  simp only [push_cast, hP, hnt, hgw, hgb, Nat.reduceLT, Nat.reduceEqDiff, Nat.reduceAdd, Nat.reduceSub, Nat.reduceMul, Nat.reduceLeDiff, reduceIte, reduceCtorEq, ne_eq, String.reduceEq, not_false_eq_true, Bool.not_not]
  refine guardR_may (by simp only [push_cast, hP, hnt, hgw, hgb, Nat.reduceLT, Nat.reduceEqDiff, Nat.reduceAdd, Nat.reduceSub, Nat.reduceMul, Nat.reduceLeDiff, reduceIte, reduceCtorEq, ne_eq, String.reduceEq, not_false_eq_true, Bool.not_not, List.getElem?_cons_zero, List.getElem?_cons_succ]; rfl) ?_
  simp only [push_cast, hP, hnt, hgw, hgb, Nat.reduceLT, Nat.reduceEqDiff, Nat.reduceAdd, Nat.reduceSub, Nat.reduceMul, Nat.reduceLeDiff, reduceIte, reduceCtorEq, ne_eq, String.reduceEq, not_false_eq_true, Bool.not_not]
  refine guardR_may (by simp only [push_cast, hP, hnt, hgw, hgb, Nat.reduceLT, Nat.reduceEqDiff, Nat.reduceAdd, Nat.reduceSub, Nat.reduceMul, Nat.reduceLeDiff, reduceIte, reduceCtorEq, ne_eq, String.reduceEq, not_false_eq_true, Bool.not_not, List.getElem?_cons_zero, List.getElem?_cons_succ]; rfl) ?_
  simp only [push_cast, hP, hnt, hgw, hgb, Nat.reduceLT, Nat.reduceEqDiff, Nat.reduceAdd, Nat.reduceSub, Nat.reduceMul, Nat.reduceLeDiff, reduceIte, reduceCtorEq, ne_eq, String.reduceEq, not_false_eq_true, Bool.not_not]
  refine hK _ ?_; clear hK
  refine vwp_ret ?_
  refine ret_free (by simp only [push_cast, hP, hnt, hgw, hgb, Nat.reduceLT, Nat.reduceEqDiff, Nat.reduceAdd, Nat.reduceSub, Nat.reduceMul, Nat.reduceLeDiff, reduceIte, reduceCtorEq, ne_eq, String.reduceEq, not_false_eq_true, Bool.not_not]; rfl) (by simp only [push_cast, hP, hnt, hgw, hgb, Nat.reduceLT, Nat.reduceEqDiff, Nat.reduceAdd, Nat.reduceSub, Nat.reduceMul, Nat.reduceLeDiff, reduceIte, reduceCtorEq, ne_eq, String.reduceEq, not_false_eq_true, Bool.not_not]) ?_
  first | (simp only [pack, saysF, if_true, if_false, Bool.false_eq_true, reduceIte]; done) | (simp only [pack, saysF, if_true, if_false, ne_eq, not_true_eq_false, not_false_eq_true, true_or, or_true, or_self, ite_self, Bool.true_eq_false, Bool.false_eq_true, or_false, false_or]; done) | (subst_vars; simp only [pack, saysF, *, if_true, if_false, ne_eq, not_true_eq_false, not_false_eq_true, true_or, or_true, or_self, ite_self, Bool.true_eq_false, Bool.false_eq_true, or_false, false_or]; done) | (simp [pack, saysF] <;> omega)
theorem lit_prefix3 : (⟨#[112, 114, 101, 102, 105, 120, 58, 51]⟩ : ByteArray) = nPrefix ++ colon ++ digitsB 3 := by
  unfold digitsB
  rw [Lib.decDigits_one (by decide)]
  decide
theorem says1_call (gw : World) (hg : Glob gw) : VCall Tryd.prog gw gw.heap.size 37 [.one (.c (.string nPrefix)), .one (.c (.int .i64 3)), .one (.c (.string ⟨#[112, 114, 101, 102, 105, 120, 58, 51]⟩))] (.one (.c (.bool (saysF nPrefix 3 (nPrefix ++ colon ++ digitsB 3))))) [] := by
  have := says_call gw hg nPrefix 3 ⟨#[112, 114, 101, 102, 105, 120, 58, 51]⟩ (by decide)
  rwa [lit_prefix3] at this ⊢

theorem alive_call (gw : World) (hg : Glob gw) : VCall Tryd.prog gw (gw.heap.size) 12 [] (.one (.c (.bool aliveF))) [] := by
  refine vcall_of [.tmp 0] Tryd.func12 rfl rfl Tryd.ntmps12 rfl (by simp) ?_
  intro C hP hnt hgw hgb hfull
  refine vwp_seq_region rfl fun K hK => ?_
  simp only [push_cast, hP, hnt, hgw, hgb, Nat.reduceLT, Nat.reduceEqDiff, Nat.reduceAdd, Nat.reduceSub, Nat.reduceMul, Nat.reduceLeDiff, reduceIte, reduceCtorEq, ne_eq, String.reduceEq, not_false_eq_true, Bool.not_not]
  refine hK _ ?_; clear hK
  refine vwp_seq_regionG fun K hK => ?_
  simp only [push_cast, hP, hnt, hgw, hgb, Nat.reduceLT, Nat.reduceEqDiff, Nat.reduceAdd, Nat.reduceSub, Nat.reduceMul, Nat.reduceLeDiff, reduceIte, reduceCtorEq, ne_eq, String.reduceEq, not_false_eq_true, Bool.not_not]
  refine callE_intro (says1_call gw hg) (.inl ⟨rfl, rfl⟩) ?_
  simp only [push_cast, hP, hnt, hgw, hgb, Nat.reduceLT, Nat.reduceEqDiff, Nat.reduceAdd, Nat.reduceSub, Nat.reduceMul, Nat.reduceLeDiff, reduceIte, reduceCtorEq, ne_eq, String.reduceEq, not_false_eq_true, Bool.not_not]
  refine guardR_may (by simp only [push_cast, hP, hnt, hgw, hgb, Nat.reduceLT, Nat.reduceEqDiff, Nat.reduceAdd, Nat.reduceSub, Nat.reduceMul, Nat.reduceLeDiff, reduceIte, reduceCtorEq, ne_eq, String.reduceEq, not_false_eq_true, Bool.not_not, List.getElem?_cons_zero, List.getElem?_cons_succ]; rfl) ?_
  simp only [push_cast, hP, hnt, hgw, hgb, Nat.reduceLT, Nat.reduceEqDiff, Nat.reduceAdd, Nat.reduceSub, Nat.reduceMul, Nat.reduceLeDiff, reduceIte, reduceCtorEq, ne_eq, String.reduceEq, not_false_eq_true, Bool.not_not]
  refine callE_intro (says_call gw hg nm0 0 nm0 (by decide)) (.inl ⟨rfl, rfl⟩) ?_
  refine ⟨rfl, ?_⟩
  simp only [push_cast, hP, hnt, hgw, hgb, Nat.reduceLT, Nat.reduceEqDiff, Nat.reduceAdd, Nat.reduceSub, Nat.reduceMul, Nat.reduceLeDiff, reduceIte, reduceCtorEq, ne_eq, String.reduceEq, not_false_eq_true, Bool.not_not]
  refine hK _ ?_; clear hK
  refine vwp_ret ?_
  refine ret_free (by simp only [push_cast, hP, hnt, hgw, hgb, Nat.reduceLT, Nat.reduceEqDiff, Nat.reduceAdd, Nat.reduceSub, Nat.reduceMul, Nat.reduceLeDiff, reduceIte, reduceCtorEq, ne_eq, String.reduceEq, not_false_eq_true, Bool.not_not]; rfl) (by simp only [push_cast, hP, hnt, hgw, hgb, Nat.reduceLT, Nat.reduceEqDiff, Nat.reduceAdd, Nat.reduceSub, Nat.reduceMul, Nat.reduceLeDiff, reduceIte, reduceCtorEq, ne_eq, String.reduceEq, not_false_eq_true, Bool.not_not]) ?_
  first | (simp only [pack, aliveF, if_true, if_false, Bool.false_eq_true, reduceIte]; done) | (simp only [pack, aliveF, if_true, if_false, ne_eq, not_true_eq_false, not_false_eq_true, true_or, or_true, or_self, ite_self, Bool.true_eq_false, Bool.false_eq_true, or_false, false_or]; done) | (subst_vars; simp only [pack, aliveF, *, if_true, if_false, ne_eq, not_true_eq_false, not_false_eq_true, true_or, or_true, or_self, ite_self, Bool.true_eq_false, Bool.false_eq_true, or_false, false_or]; done) | (simp [pack, aliveF] <;> omega)
def onceBad (n : ByteArray) (k : Int) (m : ByteArray) (j : Int) : Bool :=
  ((textF n k).2 != checkF n k || (textF m j).2 != checkF m j || (textF n k).2 == 0 && (textF m j).2 == 0 && !((textF n k).1.toList == (textF m j).1.toList) == (n.toList == m.toList && k == j))
def onceRead (n : ByteArray) (k : Int) : Bool :=
  ((readF (textF n k).1).2.2 != 0 || !((readF (textF n k).1).1.toList == n.toList && (readF (textF n k).1).2.1 == k))
def onceTail (s : ByteArray) : Bool :=
  if ((readF s).2.2 != 0) = true then aliveF && ((readF s).2.2 == 12)
  else aliveF && ((textF (readF s).1 (readF s).2.1).2 == 0) && ((textF (readF s).1 (readF s).2.1).1.toList == s.toList)
def passesOnceF (n : ByteArray) (k : Int) (m : ByteArray) (j : Int) (s : ByteArray) : Bool :=
  if (decide (100 < (s.size : Int)) || !aliveF) = true then aliveF
  else if onceBad n k m j = true then false
  else if ((textF n k).2 == 0) = true then
    (if onceRead n k = true then false else onceTail s)
  else onceTail s

theorem passesOnce_call (gw : World) (hg : Glob gw) (n : ByteArray) (k : Int) (m : ByteArray) (j : Int) (s : ByteArray) : VCall Tryd.prog gw (gw.heap.size) 4 [.agg [.c (.string n), .c (.int .i64 k)], .agg [.c (.string m), .c (.int .i64 j)], .one (.c (.string s))] (.one (.c (.bool (passesOnceF n k m j s)))) [] := by
  refine vcall_of [.tmp 6] Tryd.func4 rfl rfl Tryd.ntmps4 rfl (by simp) ?_
  intro C hP hnt hgw hgb hfull
  refine vwp_seq_region rfl fun K hK => ?_
  simp only [push_cast, hP, hnt, hgw, hgb, Nat.reduceLT, Nat.reduceEqDiff, Nat.reduceAdd, Nat.reduceSub, Nat.reduceMul, Nat.reduceLeDiff, reduceIte, reduceCtorEq, ne_eq, String.reduceEq, not_false_eq_true, Bool.not_not]
  refine hK _ ?_; clear hK
  refine vwp_seq_region rfl fun K hK => ?_
  simp only [push_cast, hP, hnt, hgw, hgb, Nat.reduceLT, Nat.reduceEqDiff, Nat.reduceAdd, Nat.reduceSub, Nat.reduceMul, Nat.reduceLeDiff, reduceIte, reduceCtorEq, ne_eq, String.reduceEq, not_false_eq_true, Bool.not_not]
  refine callE_intro (alive_call gw hg) (.inl ⟨rfl, rfl⟩) ?_
  simp only [push_cast, hP, hnt, hgw, hgb, Nat.reduceLT, Nat.reduceEqDiff, Nat.reduceAdd, Nat.reduceSub, Nat.reduceMul, Nat.reduceLeDiff, reduceIte, reduceCtorEq, ne_eq, String.reduceEq, not_false_eq_true, Bool.not_not]
  refine hK _ ?_; clear hK
  refine vwp_seq fun K hK => ?_
  refine vwp_seq_regionG fun K hK => ?_
  simp only [push_cast, hP, hnt, hgw, hgb, Nat.reduceLT, Nat.reduceEqDiff, Nat.reduceAdd, Nat.reduceSub, Nat.reduceMul, Nat.reduceLeDiff, reduceIte, reduceCtorEq, ne_eq, String.reduceEq, not_false_eq_true, Bool.not_not]
  refine guardR_may (by simp only [push_cast, hP, hnt, hgw, hgb, Nat.reduceLT, Nat.reduceEqDiff, Nat.reduceAdd, Nat.reduceSub, Nat.reduceMul, Nat.reduceLeDiff, reduceIte, reduceCtorEq, ne_eq, String.reduceEq, not_false_eq_true, Bool.not_not, List.getElem?_cons_zero, List.getElem?_cons_succ]; rfl) ?_
  simp only [push_cast, hP, hnt, hgw, hgb, Nat.reduceLT, Nat.reduceEqDiff, Nat.reduceAdd, Nat.reduceSub, Nat.reduceMul, Nat.reduceLeDiff, reduceIte, reduceCtorEq, ne_eq, String.reduceEq, not_false_eq_true, Bool.not_not]
  refine guardR_may (by simp only [push_cast, hP, hnt, hgw, hgb, Nat.reduceLT, Nat.reduceEqDiff, Nat.reduceAdd, Nat.reduceSub, Nat.reduceMul, Nat.reduceLeDiff, reduceIte, reduceCtorEq, ne_eq, String.reduceEq, not_false_eq_true, Bool.not_not, List.getElem?_cons_zero, List.getElem?_cons_succ]; rfl) ?_
  simp only [push_cast, hP, hnt, hgw, hgb, Nat.reduceLT, Nat.reduceEqDiff, Nat.reduceAdd, Nat.reduceSub, Nat.reduceMul, Nat.reduceLeDiff, reduceIte, reduceCtorEq, ne_eq, String.reduceEq, not_false_eq_true, Bool.not_not]
  refine hK _ ?_; clear hK
  refine vwp_cond (b := _) (by simp only [push_cast, hP, hnt, hgw, hgb, Nat.reduceLT, Nat.reduceEqDiff, Nat.reduceAdd, Nat.reduceSub, Nat.reduceMul, Nat.reduceLeDiff, reduceIte, reduceCtorEq, ne_eq, String.reduceEq, not_false_eq_true, Bool.not_not]; rfl) (fun rb0 => ?_) (fun rb0 => ?_)
  · have hb0 := rb0
    try simp only [beq_iff_eq, bne_iff_ne, ne_eq, bne_eq_false_iff_eq, beq_eq_false_iff_ne, decide_eq_true_eq, decide_eq_false_iff_not, Bool.not_eq_true', Bool.not_eq_false', Bool.or_eq_true, Bool.and_eq_true, Bool.or_eq_false_iff, Bool.and_eq_false_iff] at hb0
    refine vwp_seq_region rfl fun K hK => ?_
    simp only [push_cast, hP, hnt, hgw, hgb, Nat.reduceLT, Nat.reduceEqDiff, Nat.reduceAdd, Nat.reduceSub, Nat.reduceMul, Nat.reduceLeDiff, reduceIte, reduceCtorEq, ne_eq, String.reduceEq, not_false_eq_true, Bool.not_not]
    refine hK _ ?_; clear hK
    refine vwp_ret ?_
    refine ret_free (by simp only [push_cast, hP, hnt, hgw, hgb, Nat.reduceLT, Nat.reduceEqDiff, Nat.reduceAdd, Nat.reduceSub, Nat.reduceMul, Nat.reduceLeDiff, reduceIte, reduceCtorEq, ne_eq, String.reduceEq, not_false_eq_true, Bool.not_not]; rfl) (by simp only [push_cast, hP, hnt, hgw, hgb, Nat.reduceLT, Nat.reduceEqDiff, Nat.reduceAdd, Nat.reduceSub, Nat.reduceMul, Nat.reduceLeDiff, reduceIte, reduceCtorEq, ne_eq, String.reduceEq, not_false_eq_true, Bool.not_not]) ?_
    first | (simp only [pack, passesOnceF, onceTail, rb0, if_true, if_false, Bool.false_eq_true, reduceIte]; done) | (simp only [pack, passesOnceF, onceTail, hb0, if_true, if_false, ne_eq, not_true_eq_false, not_false_eq_true, true_or, or_true, or_self, ite_self, Bool.true_eq_false, Bool.false_eq_true, or_false, false_or]; done) | (subst_vars; simp only [pack, passesOnceF, onceTail, *, if_true, if_false, ne_eq, not_true_eq_false, not_false_eq_true, true_or, or_true, or_self, ite_self, Bool.true_eq_false, Bool.false_eq_true, or_false, false_or]; done) | (simp [pack, passesOnceF, onceTail, hb0] <;> omega)
  · have hb0 := rb0
    try simp only [beq_iff_eq, bne_iff_ne, ne_eq, bne_eq_false_iff_eq, beq_eq_false_iff_ne, decide_eq_true_eq, decide_eq_false_iff_not, Bool.not_eq_true', Bool.not_eq_false', Bool.or_eq_true, Bool.and_eq_true, Bool.or_eq_false_iff, Bool.and_eq_false_iff] at hb0
    refine vwp_skip ?_
    apply_assumption
    refine vwp_seq_region rfl fun K hK => ?_
    simp only [push_cast, hP, hnt, hgw, hgb, Nat.reduceLT, Nat.reduceEqDiff, Nat.reduceAdd, Nat.reduceSub, Nat.reduceMul, Nat.reduceLeDiff, reduceIte, reduceCtorEq, ne_eq, String.reduceEq, not_false_eq_true, Bool.not_not]
    refine callE_intro (text_call gw gw.heap.size _ _) (.inl ⟨rfl, rfl⟩) ?_
    simp only [push_cast, hP, hnt, hgw, hgb, Nat.reduceLT, Nat.reduceEqDiff, Nat.reduceAdd, Nat.reduceSub, Nat.reduceMul, Nat.reduceLeDiff, reduceIte, reduceCtorEq, ne_eq, String.reduceEq, not_false_eq_true, Bool.not_not]
    refine hK _ ?_; clear hK
    refine vwp_seq_region rfl fun K hK => ?_
    simp only [push_cast, hP, hnt, hgw, hgb, Nat.reduceLT, Nat.reduceEqDiff, Nat.reduceAdd, Nat.reduceSub, Nat.reduceMul, Nat.reduceLeDiff, reduceIte, reduceCtorEq, ne_eq, String.reduceEq, not_false_eq_true, Bool.not_not]
    refine callE_intro (text_call gw gw.heap.size _ _) (.inl ⟨rfl, rfl⟩) ?_
    simp only [push_cast, hP, hnt, hgw, hgb, Nat.reduceLT, Nat.reduceEqDiff, Nat.reduceAdd, Nat.reduceSub, Nat.reduceMul, Nat.reduceLeDiff, reduceIte, reduceCtorEq, ne_eq, String.reduceEq, not_false_eq_true, Bool.not_not]
    refine hK _ ?_; clear hK
    refine vwp_seq fun K hK => ?_
    refine vwp_seq_regionG fun K hK => ?_
    simp only [push_cast, hP, hnt, hgw, hgb, Nat.reduceLT, Nat.reduceEqDiff, Nat.reduceAdd, Nat.reduceSub, Nat.reduceMul, Nat.reduceLeDiff, reduceIte, reduceCtorEq, ne_eq, String.reduceEq, not_false_eq_true, Bool.not_not]
    refine callE_intro (check_call gw gw.heap.size _ _) (.inl ⟨rfl, rfl⟩) ?_
    simp only [push_cast, hP, hnt, hgw, hgb, Nat.reduceLT, Nat.reduceEqDiff, Nat.reduceAdd, Nat.reduceSub, Nat.reduceMul, Nat.reduceLeDiff, reduceIte, reduceCtorEq, ne_eq, String.reduceEq, not_false_eq_true, Bool.not_not]
    refine guardR_may (by simp only [push_cast, hP, hnt, hgw, hgb, Nat.reduceLT, Nat.reduceEqDiff, Nat.reduceAdd, Nat.reduceSub, Nat.reduceMul, Nat.reduceLeDiff, reduceIte, reduceCtorEq, ne_eq, String.reduceEq, not_false_eq_true, Bool.not_not, List.getElem?_cons_zero, List.getElem?_cons_succ]; rfl) ?_
    simp only [push_cast, hP, hnt, hgw, hgb, Nat.reduceLT, Nat.reduceEqDiff, Nat.reduceAdd, Nat.reduceSub, Nat.reduceMul, Nat.reduceLeDiff, reduceIte, reduceCtorEq, ne_eq, String.reduceEq, not_false_eq_true, Bool.not_not]
    refine guardR_may (by simp only [push_cast, hP, hnt, hgw, hgb, Nat.reduceLT, Nat.reduceEqDiff, Nat.reduceAdd, Nat.reduceSub, Nat.reduceMul, Nat.reduceLeDiff, reduceIte, reduceCtorEq, ne_eq, String.reduceEq, not_false_eq_true, Bool.not_not, List.getElem?_cons_zero, List.getElem?_cons_succ]; rfl) ?_
    simp only [push_cast, hP, hnt, hgw, hgb, Nat.reduceLT, Nat.reduceEqDiff, Nat.reduceAdd, Nat.reduceSub, Nat.reduceMul, Nat.reduceLeDiff, reduceIte, reduceCtorEq, ne_eq, String.reduceEq, not_false_eq_true, Bool.not_not]
    refine guardR_may (by simp only [push_cast, hP, hnt, hgw, hgb, Nat.reduceLT, Nat.reduceEqDiff, Nat.reduceAdd, Nat.reduceSub, Nat.reduceMul, Nat.reduceLeDiff, reduceIte, reduceCtorEq, ne_eq, String.reduceEq, not_false_eq_true, Bool.not_not, List.getElem?_cons_zero, List.getElem?_cons_succ]; rfl) ?_
    simp only [push_cast, hP, hnt, hgw, hgb, Nat.reduceLT, Nat.reduceEqDiff, Nat.reduceAdd, Nat.reduceSub, Nat.reduceMul, Nat.reduceLeDiff, reduceIte, reduceCtorEq, ne_eq, String.reduceEq, not_false_eq_true, Bool.not_not]
    refine callE_intro (check_call gw gw.heap.size _ _) (.inl ⟨rfl, rfl⟩) ?_
    refine ⟨rfl, ?_⟩
    simp only [push_cast, hP, hnt, hgw, hgb, Nat.reduceLT, Nat.reduceEqDiff, Nat.reduceAdd, Nat.reduceSub, Nat.reduceMul, Nat.reduceLeDiff, reduceIte, reduceCtorEq, ne_eq, String.reduceEq, not_false_eq_true, Bool.not_not]
    refine guardR_may (by simp only [push_cast, hP, hnt, hgw, hgb, Nat.reduceLT, Nat.reduceEqDiff, Nat.reduceAdd, Nat.reduceSub, Nat.reduceMul, Nat.reduceLeDiff, reduceIte, reduceCtorEq, ne_eq, String.reduceEq, not_false_eq_true, Bool.not_not, List.getElem?_cons_zero, List.getElem?_cons_succ]; rfl) ?_
    simp only [push_cast, hP, hnt, hgw, hgb, Nat.reduceLT, Nat.reduceEqDiff, Nat.reduceAdd, Nat.reduceSub, Nat.reduceMul, Nat.reduceLeDiff, reduceIte, reduceCtorEq, ne_eq, String.reduceEq, not_false_eq_true, Bool.not_not]
    refine guardR_may (by simp only [push_cast, hP, hnt, hgw, hgb, Nat.reduceLT, Nat.reduceEqDiff, Nat.reduceAdd, Nat.reduceSub, Nat.reduceMul, Nat.reduceLeDiff, reduceIte, reduceCtorEq, ne_eq, String.reduceEq, not_false_eq_true, Bool.not_not, List.getElem?_cons_zero, List.getElem?_cons_succ]; rfl) ?_
    simp only [push_cast, hP, hnt, hgw, hgb, Nat.reduceLT, Nat.reduceEqDiff, Nat.reduceAdd, Nat.reduceSub, Nat.reduceMul, Nat.reduceLeDiff, reduceIte, reduceCtorEq, ne_eq, String.reduceEq, not_false_eq_true, Bool.not_not]
    refine guardR_may (by simp only [push_cast, hP, hnt, hgw, hgb, Nat.reduceLT, Nat.reduceEqDiff, Nat.reduceAdd, Nat.reduceSub, Nat.reduceMul, Nat.reduceLeDiff, reduceIte, reduceCtorEq, ne_eq, String.reduceEq, not_false_eq_true, Bool.not_not, List.getElem?_cons_zero, List.getElem?_cons_succ]; rfl) ?_
    simp only [push_cast, hP, hnt, hgw, hgb, Nat.reduceLT, Nat.reduceEqDiff, Nat.reduceAdd, Nat.reduceSub, Nat.reduceMul, Nat.reduceLeDiff, reduceIte, reduceCtorEq, ne_eq, String.reduceEq, not_false_eq_true, Bool.not_not]
    refine guardR_may (by simp only [push_cast, hP, hnt, hgw, hgb, Nat.reduceLT, Nat.reduceEqDiff, Nat.reduceAdd, Nat.reduceSub, Nat.reduceMul, Nat.reduceLeDiff, reduceIte, reduceCtorEq, ne_eq, String.reduceEq, not_false_eq_true, Bool.not_not, List.getElem?_cons_zero, List.getElem?_cons_succ]; rfl) ?_
    simp only [push_cast, hP, hnt, hgw, hgb, Nat.reduceLT, Nat.reduceEqDiff, Nat.reduceAdd, Nat.reduceSub, Nat.reduceMul, Nat.reduceLeDiff, reduceIte, reduceCtorEq, ne_eq, String.reduceEq, not_false_eq_true, Bool.not_not]
    refine guardR_may (by simp only [push_cast, hP, hnt, hgw, hgb, Nat.reduceLT, Nat.reduceEqDiff, Nat.reduceAdd, Nat.reduceSub, Nat.reduceMul, Nat.reduceLeDiff, reduceIte, reduceCtorEq, ne_eq, String.reduceEq, not_false_eq_true, Bool.not_not, List.getElem?_cons_zero, List.getElem?_cons_succ]; rfl) ?_
    simp only [push_cast, hP, hnt, hgw, hgb, Nat.reduceLT, Nat.reduceEqDiff, Nat.reduceAdd, Nat.reduceSub, Nat.reduceMul, Nat.reduceLeDiff, reduceIte, reduceCtorEq, ne_eq, String.reduceEq, not_false_eq_true, Bool.not_not]
    refine guardR_may (by simp only [push_cast, hP, hnt, hgw, hgb, Nat.reduceLT, Nat.reduceEqDiff, Nat.reduceAdd, Nat.reduceSub, Nat.reduceMul, Nat.reduceLeDiff, reduceIte, reduceCtorEq, ne_eq, String.reduceEq, not_false_eq_true, Bool.not_not, List.getElem?_cons_zero, List.getElem?_cons_succ]; rfl) ?_
    simp only [push_cast, hP, hnt, hgw, hgb, Nat.reduceLT, Nat.reduceEqDiff, Nat.reduceAdd, Nat.reduceSub, Nat.reduceMul, Nat.reduceLeDiff, reduceIte, reduceCtorEq, ne_eq, String.reduceEq, not_false_eq_true, Bool.not_not]
    refine guardR_may (by simp only [push_cast, hP, hnt, hgw, hgb, Nat.reduceLT, Nat.reduceEqDiff, Nat.reduceAdd, Nat.reduceSub, Nat.reduceMul, Nat.reduceLeDiff, reduceIte, reduceCtorEq, ne_eq, String.reduceEq, not_false_eq_true, Bool.not_not, List.getElem?_cons_zero, List.getElem?_cons_succ]; rfl) ?_
    simp only [push_cast, hP, hnt, hgw, hgb, Nat.reduceLT, Nat.reduceEqDiff, Nat.reduceAdd, Nat.reduceSub, Nat.reduceMul, Nat.reduceLeDiff, reduceIte, reduceCtorEq, ne_eq, String.reduceEq, not_false_eq_true, Bool.not_not]
    refine guardR_may (by simp only [push_cast, hP, hnt, hgw, hgb, Nat.reduceLT, Nat.reduceEqDiff, Nat.reduceAdd, Nat.reduceSub, Nat.reduceMul, Nat.reduceLeDiff, reduceIte, reduceCtorEq, ne_eq, String.reduceEq, not_false_eq_true, Bool.not_not, List.getElem?_cons_zero, List.getElem?_cons_succ]; rfl) ?_
    simp only [push_cast, hP, hnt, hgw, hgb, Nat.reduceLT, Nat.reduceEqDiff, Nat.reduceAdd, Nat.reduceSub, Nat.reduceMul, Nat.reduceLeDiff, reduceIte, reduceCtorEq, ne_eq, String.reduceEq, not_false_eq_true, Bool.not_not]
    refine guardR_may (by simp only [push_cast, hP, hnt, hgw, hgb, Nat.reduceLT, Nat.reduceEqDiff, Nat.reduceAdd, Nat.reduceSub, Nat.reduceMul, Nat.reduceLeDiff, reduceIte, reduceCtorEq, ne_eq, String.reduceEq, not_false_eq_true, Bool.not_not, List.getElem?_cons_zero, List.getElem?_cons_succ]; rfl) ?_
    simp only [push_cast, hP, hnt, hgw, hgb, Nat.reduceLT, Nat.reduceEqDiff, Nat.reduceAdd, Nat.reduceSub, Nat.reduceMul, Nat.reduceLeDiff, reduceIte, reduceCtorEq, ne_eq, String.reduceEq, not_false_eq_true, Bool.not_not]
    refine guardR_may (by simp only [push_cast, hP, hnt, hgw, hgb, Nat.reduceLT, Nat.reduceEqDiff, Nat.reduceAdd, Nat.reduceSub, Nat.reduceMul, Nat.reduceLeDiff, reduceIte, reduceCtorEq, ne_eq, String.reduceEq, not_false_eq_true, Bool.not_not, List.getElem?_cons_zero, List.getElem?_cons_succ]; rfl) ?_
    simp only [push_cast, hP, hnt, hgw, hgb, Nat.reduceLT, Nat.reduceEqDiff, Nat.reduceAdd, Nat.reduceSub, Nat.reduceMul, Nat.reduceLeDiff, reduceIte, reduceCtorEq, ne_eq, String.reduceEq, not_false_eq_true, Bool.not_not]
    refine guardR_may (by simp only [push_cast, hP, hnt, hgw, hgb, Nat.reduceLT, Nat.reduceEqDiff, Nat.reduceAdd, Nat.reduceSub, Nat.reduceMul, Nat.reduceLeDiff, reduceIte, reduceCtorEq, ne_eq, String.reduceEq, not_false_eq_true, Bool.not_not, List.getElem?_cons_zero, List.getElem?_cons_succ]; rfl) ?_
    simp only [push_cast, hP, hnt, hgw, hgb, Nat.reduceLT, Nat.reduceEqDiff, Nat.reduceAdd, Nat.reduceSub, Nat.reduceMul, Nat.reduceLeDiff, reduceIte, reduceCtorEq, ne_eq, String.reduceEq, not_false_eq_true, Bool.not_not]
    refine guardR_may (by simp only [push_cast, hP, hnt, hgw, hgb, Nat.reduceLT, Nat.reduceEqDiff, Nat.reduceAdd, Nat.reduceSub, Nat.reduceMul, Nat.reduceLeDiff, reduceIte, reduceCtorEq, ne_eq, String.reduceEq, not_false_eq_true, Bool.not_not, List.getElem?_cons_zero, List.getElem?_cons_succ]; rfl) ?_
    simp only [push_cast, hP, hnt, hgw, hgb, Nat.reduceLT, Nat.reduceEqDiff, Nat.reduceAdd, Nat.reduceSub, Nat.reduceMul, Nat.reduceLeDiff, reduceIte, reduceCtorEq, ne_eq, String.reduceEq, not_false_eq_true, Bool.not_not]
    refine guardR_may (by simp only [push_cast, hP, hnt, hgw, hgb, Nat.reduceLT, Nat.reduceEqDiff, Nat.reduceAdd, Nat.reduceSub, Nat.reduceMul, Nat.reduceLeDiff, reduceIte, reduceCtorEq, ne_eq, String.reduceEq, not_false_eq_true, Bool.not_not, List.getElem?_cons_zero, List.getElem?_cons_succ]; rfl) ?_
    simp only [push_cast, hP, hnt, hgw, hgb, Nat.reduceLT, Nat.reduceEqDiff, Nat.reduceAdd, Nat.reduceSub, Nat.reduceMul, Nat.reduceLeDiff, reduceIte, reduceCtorEq, ne_eq, String.reduceEq, not_false_eq_true, Bool.not_not]
    refine guardR_may (by simp only [push_cast, hP, hnt, hgw, hgb, Nat.reduceLT, Nat.reduceEqDiff, Nat.reduceAdd, Nat.reduceSub, Nat.reduceMul, Nat.reduceLeDiff, reduceIte, reduceCtorEq, ne_eq, String.reduceEq, not_false_eq_true, Bool.not_not, List.getElem?_cons_zero, List.getElem?_cons_succ]; rfl) ?_
    simp only [push_cast, hP, hnt, hgw, hgb, Nat.reduceLT, Nat.reduceEqDiff, Nat.reduceAdd, Nat.reduceSub, Nat.reduceMul, Nat.reduceLeDiff, reduceIte, reduceCtorEq, ne_eq, String.reduceEq, not_false_eq_true, Bool.not_not]
    refine guardR_may (by simp only [push_cast, hP, hnt, hgw, hgb, Nat.reduceLT, Nat.reduceEqDiff, Nat.reduceAdd, Nat.reduceSub, Nat.reduceMul, Nat.reduceLeDiff, reduceIte, reduceCtorEq, ne_eq, String.reduceEq, not_false_eq_true, Bool.not_not, List.getElem?_cons_zero, List.getElem?_cons_succ]; rfl) ?_
    simp only [push_cast, hP, hnt, hgw, hgb, Nat.reduceLT, Nat.reduceEqDiff, Nat.reduceAdd, Nat.reduceSub, Nat.reduceMul, Nat.reduceLeDiff, reduceIte, reduceCtorEq, ne_eq, String.reduceEq, not_false_eq_true, Bool.not_not]
    refine guardR_may (by simp only [push_cast, hP, hnt, hgw, hgb, Nat.reduceLT, Nat.reduceEqDiff, Nat.reduceAdd, Nat.reduceSub, Nat.reduceMul, Nat.reduceLeDiff, reduceIte, reduceCtorEq, ne_eq, String.reduceEq, not_false_eq_true, Bool.not_not, List.getElem?_cons_zero, List.getElem?_cons_succ]; rfl) ?_
    simp only [push_cast, hP, hnt, hgw, hgb, Nat.reduceLT, Nat.reduceEqDiff, Nat.reduceAdd, Nat.reduceSub, Nat.reduceMul, Nat.reduceLeDiff, reduceIte, reduceCtorEq, ne_eq, String.reduceEq, not_false_eq_true, Bool.not_not]
    refine hK _ ?_; clear hK
    refine vwp_cond (b := _) (by simp only [push_cast, hP, hnt, hgw, hgb, Nat.reduceLT, Nat.reduceEqDiff, Nat.reduceAdd, Nat.reduceSub, Nat.reduceMul, Nat.reduceLeDiff, reduceIte, reduceCtorEq, ne_eq, String.reduceEq, not_false_eq_true, Bool.not_not]; rfl) (fun rb1 => ?_) (fun rb1 => ?_)
    · have hb1 := rb1
      try simp only [beq_iff_eq, bne_iff_ne, ne_eq, bne_eq_false_iff_eq, beq_eq_false_iff_ne, decide_eq_true_eq, decide_eq_false_iff_not, Bool.not_eq_true', Bool.not_eq_false', Bool.or_eq_true, Bool.and_eq_true, Bool.or_eq_false_iff, Bool.and_eq_false_iff] at hb1
      have fb1 : (onceBad n k m j) = true := rb1
      refine vwp_seq_region rfl fun K hK => ?_
      simp only [push_cast, hP, hnt, hgw, hgb, Nat.reduceLT, Nat.reduceEqDiff, Nat.reduceAdd, Nat.reduceSub, Nat.reduceMul, Nat.reduceLeDiff, reduceIte, reduceCtorEq, ne_eq, String.reduceEq, not_false_eq_true, Bool.not_not]
      refine hK _ ?_; clear hK
      refine vwp_ret ?_
      refine ret_free (by simp only [push_cast, hP, hnt, hgw, hgb, Nat.reduceLT, Nat.reduceEqDiff, Nat.reduceAdd, Nat.reduceSub, Nat.reduceMul, Nat.reduceLeDiff, reduceIte, reduceCtorEq, ne_eq, String.reduceEq, not_false_eq_true, Bool.not_not]; rfl) (by simp only [push_cast, hP, hnt, hgw, hgb, Nat.reduceLT, Nat.reduceEqDiff, Nat.reduceAdd, Nat.reduceSub, Nat.reduceMul, Nat.reduceLeDiff, reduceIte, reduceCtorEq, ne_eq, String.reduceEq, not_false_eq_true, Bool.not_not]) ?_
      first | (simp only [pack, passesOnceF, onceTail, rb0, fb1, if_true, if_false, Bool.false_eq_true, reduceIte]; done) | (simp only [pack, passesOnceF, onceTail, hb0, hb1, if_true, if_false, ne_eq, not_true_eq_false, not_false_eq_true, true_or, or_true, or_self, ite_self, Bool.true_eq_false, Bool.false_eq_true, or_false, false_or]; done) | (subst_vars; simp only [pack, passesOnceF, onceTail, *, if_true, if_false, ne_eq, not_true_eq_false, not_false_eq_true, true_or, or_true, or_self, ite_self, Bool.true_eq_false, Bool.false_eq_true, or_false, false_or]; done) | (simp [pack, passesOnceF, onceTail, hb0, hb1] <;> omega)
    · have hb1 := rb1
      try simp only [beq_iff_eq, bne_iff_ne, ne_eq, bne_eq_false_iff_eq, beq_eq_false_iff_ne, decide_eq_true_eq, decide_eq_false_iff_not, Bool.not_eq_true', Bool.not_eq_false', Bool.or_eq_true, Bool.and_eq_true, Bool.or_eq_false_iff, Bool.and_eq_false_iff] at hb1
      have fb1 : (onceBad n k m j) = false := rb1
      refine vwp_skip ?_
      apply_assumption
      refine vwp_seq fun K hK => ?_
      refine vwp_seq_region rfl fun K hK => ?_
      simp only [push_cast, hP, hnt, hgw, hgb, Nat.reduceLT, Nat.reduceEqDiff, Nat.reduceAdd, Nat.reduceSub, Nat.reduceMul, Nat.reduceLeDiff, reduceIte, reduceCtorEq, ne_eq, String.reduceEq, not_false_eq_true, Bool.not_not]
      refine hK _ ?_; clear hK
      refine vwp_cond (b := _) (by simp only [push_cast, hP, hnt, hgw, hgb, Nat.reduceLT, Nat.reduceEqDiff, Nat.reduceAdd, Nat.reduceSub, Nat.reduceMul, Nat.reduceLeDiff, reduceIte, reduceCtorEq, ne_eq, String.reduceEq, not_false_eq_true, Bool.not_not]; rfl) (fun rb2 => ?_) (fun rb2 => ?_)
      · have hb2 := rb2
        try simp only [beq_iff_eq, bne_iff_ne, ne_eq, bne_eq_false_iff_eq, beq_eq_false_iff_ne, decide_eq_true_eq, decide_eq_false_iff_not, Bool.not_eq_true', Bool.not_eq_false', Bool.or_eq_true, Bool.and_eq_true, Bool.or_eq_false_iff, Bool.and_eq_false_iff] at hb2
        refine vwp_seq_region rfl fun K hK => ?_
        simp only [push_cast, hP, hnt, hgw, hgb, Nat.reduceLT, Nat.reduceEqDiff, Nat.reduceAdd, Nat.reduceSub, Nat.reduceMul, Nat.reduceLeDiff, reduceIte, reduceCtorEq, ne_eq, String.reduceEq, not_false_eq_true, Bool.not_not]
        refine callE_intro (read_call gw hg _ (textF_size hb2)) (.inl ⟨rfl, rfl⟩) ?_
        simp only [push_cast, hP, hnt, hgw, hgb, Nat.reduceLT, Nat.reduceEqDiff, Nat.reduceAdd, Nat.reduceSub, Nat.reduceMul, Nat.reduceLeDiff, reduceIte, reduceCtorEq, ne_eq, String.reduceEq, not_false_eq_true, Bool.not_not]
        refine hK _ ?_; clear hK
        refine vwp_seq_regionG fun K hK => ?_
        simp only [push_cast, hP, hnt, hgw, hgb, Nat.reduceLT, Nat.reduceEqDiff, Nat.reduceAdd, Nat.reduceSub, Nat.reduceMul, Nat.reduceLeDiff, reduceIte, reduceCtorEq, ne_eq, String.reduceEq, not_false_eq_true, Bool.not_not]
        refine guardR_may (by simp only [push_cast, hP, hnt, hgw, hgb, Nat.reduceLT, Nat.reduceEqDiff, Nat.reduceAdd, Nat.reduceSub, Nat.reduceMul, Nat.reduceLeDiff, reduceIte, reduceCtorEq, ne_eq, String.reduceEq, not_false_eq_true, Bool.not_not, List.getElem?_cons_zero, List.getElem?_cons_succ]; rfl) ?_
        simp only [push_cast, hP, hnt, hgw, hgb, Nat.reduceLT, Nat.reduceEqDiff, Nat.reduceAdd, Nat.reduceSub, Nat.reduceMul, Nat.reduceLeDiff, reduceIte, reduceCtorEq, ne_eq, String.reduceEq, not_false_eq_true, Bool.not_not]
        refine guardR_may (by simp only [push_cast, hP, hnt, hgw, hgb, Nat.reduceLT, Nat.reduceEqDiff, Nat.reduceAdd, Nat.reduceSub, Nat.reduceMul, Nat.reduceLeDiff, reduceIte, reduceCtorEq, ne_eq, String.reduceEq, not_false_eq_true, Bool.not_not, List.getElem?_cons_zero, List.getElem?_cons_succ]; rfl) ?_
        simp only [push_cast, hP, hnt, hgw, hgb, Nat.reduceLT, Nat.reduceEqDiff, Nat.reduceAdd, Nat.reduceSub, Nat.reduceMul, Nat.reduceLeDiff, reduceIte, reduceCtorEq, ne_eq, String.reduceEq, not_false_eq_true, Bool.not_not]
        refine guardR_may (by simp only [push_cast, hP, hnt, hgw, hgb, Nat.reduceLT, Nat.reduceEqDiff, Nat.reduceAdd, Nat.reduceSub, Nat.reduceMul, Nat.reduceLeDiff, reduceIte, reduceCtorEq, ne_eq, String.reduceEq, not_false_eq_true, Bool.not_not, List.getElem?_cons_zero, List.getElem?_cons_succ]; rfl) ?_
        simp only [push_cast, hP, hnt, hgw, hgb, Nat.reduceLT, Nat.reduceEqDiff, Nat.reduceAdd, Nat.reduceSub, Nat.reduceMul, Nat.reduceLeDiff, reduceIte, reduceCtorEq, ne_eq, String.reduceEq, not_false_eq_true, Bool.not_not]
        refine hK _ ?_; clear hK
        refine vwp_cond (b := _) (by simp only [push_cast, hP, hnt, hgw, hgb, Nat.reduceLT, Nat.reduceEqDiff, Nat.reduceAdd, Nat.reduceSub, Nat.reduceMul, Nat.reduceLeDiff, reduceIte, reduceCtorEq, ne_eq, String.reduceEq, not_false_eq_true, Bool.not_not]; rfl) (fun rb3 => ?_) (fun rb3 => ?_)
        · have hb3 := rb3
          try simp only [beq_iff_eq, bne_iff_ne, ne_eq, bne_eq_false_iff_eq, beq_eq_false_iff_ne, decide_eq_true_eq, decide_eq_false_iff_not, Bool.not_eq_true', Bool.not_eq_false', Bool.or_eq_true, Bool.and_eq_true, Bool.or_eq_false_iff, Bool.and_eq_false_iff] at hb3
          have fb3 : (onceRead n k) = true := rb3
          refine vwp_seq_region rfl fun K hK => ?_
          simp only [push_cast, hP, hnt, hgw, hgb, Nat.reduceLT, Nat.reduceEqDiff, Nat.reduceAdd, Nat.reduceSub, Nat.reduceMul, Nat.reduceLeDiff, reduceIte, reduceCtorEq, ne_eq, String.reduceEq, not_false_eq_true, Bool.not_not]
          refine hK _ ?_; clear hK
          refine vwp_ret ?_
          refine ret_free (by simp only [push_cast, hP, hnt, hgw, hgb, Nat.reduceLT, Nat.reduceEqDiff, Nat.reduceAdd, Nat.reduceSub, Nat.reduceMul, Nat.reduceLeDiff, reduceIte, reduceCtorEq, ne_eq, String.reduceEq, not_false_eq_true, Bool.not_not]; rfl) (by simp only [push_cast, hP, hnt, hgw, hgb, Nat.reduceLT, Nat.reduceEqDiff, Nat.reduceAdd, Nat.reduceSub, Nat.reduceMul, Nat.reduceLeDiff, reduceIte, reduceCtorEq, ne_eq, String.reduceEq, not_false_eq_true, Bool.not_not]) ?_
          first | (simp only [pack, passesOnceF, onceTail, rb0, fb1, rb2, fb3, if_true, if_false, Bool.false_eq_true, reduceIte]; done) | (simp only [pack, passesOnceF, onceTail, hb0, hb1, hb2, hb3, if_true, if_false, ne_eq, not_true_eq_false, not_false_eq_true, true_or, or_true, or_self, ite_self, Bool.true_eq_false, Bool.false_eq_true, or_false, false_or]; done) | (subst_vars; simp only [pack, passesOnceF, onceTail, *, if_true, if_false, ne_eq, not_true_eq_false, not_false_eq_true, true_or, or_true, or_self, ite_self, Bool.true_eq_false, Bool.false_eq_true, or_false, false_or]; done) | (simp [pack, passesOnceF, onceTail, hb0, hb1, hb2, hb3] <;> omega)
        · have hb3 := rb3
          try simp only [beq_iff_eq, bne_iff_ne, ne_eq, bne_eq_false_iff_eq, beq_eq_false_iff_ne, decide_eq_true_eq, decide_eq_false_iff_not, Bool.not_eq_true', Bool.not_eq_false', Bool.or_eq_true, Bool.and_eq_true, Bool.or_eq_false_iff, Bool.and_eq_false_iff] at hb3
          have fb3 : (onceRead n k) = false := rb3
          refine vwp_skip ?_
          apply_assumption
          refine vwp_seq_region rfl fun K hK => ?_
          simp only [push_cast, hP, hnt, hgw, hgb, Nat.reduceLT, Nat.reduceEqDiff, Nat.reduceAdd, Nat.reduceSub, Nat.reduceMul, Nat.reduceLeDiff, reduceIte, reduceCtorEq, ne_eq, String.reduceEq, not_false_eq_true, Bool.not_not]
          refine callE_intro (read_call gw hg s (by omega)) (.inl ⟨rfl, rfl⟩) ?_
          simp only [push_cast, hP, hnt, hgw, hgb, Nat.reduceLT, Nat.reduceEqDiff, Nat.reduceAdd, Nat.reduceSub, Nat.reduceMul, Nat.reduceLeDiff, reduceIte, reduceCtorEq, ne_eq, String.reduceEq, not_false_eq_true, Bool.not_not]
          refine hK _ ?_; clear hK
          refine vwp_seq fun K hK => ?_
          refine vwp_seq_region rfl fun K hK => ?_
          simp only [push_cast, hP, hnt, hgw, hgb, Nat.reduceLT, Nat.reduceEqDiff, Nat.reduceAdd, Nat.reduceSub, Nat.reduceMul, Nat.reduceLeDiff, reduceIte, reduceCtorEq, ne_eq, String.reduceEq, not_false_eq_true, Bool.not_not]
          refine hK _ ?_; clear hK
          refine vwp_cond (b := _) (by simp only [push_cast, hP, hnt, hgw, hgb, Nat.reduceLT, Nat.reduceEqDiff, Nat.reduceAdd, Nat.reduceSub, Nat.reduceMul, Nat.reduceLeDiff, reduceIte, reduceCtorEq, ne_eq, String.reduceEq, not_false_eq_true, Bool.not_not]; rfl) (fun rb4 => ?_) (fun rb4 => ?_)
          · have hb4 := rb4
            try simp only [beq_iff_eq, bne_iff_ne, ne_eq, bne_eq_false_iff_eq, beq_eq_false_iff_ne, decide_eq_true_eq, decide_eq_false_iff_not, Bool.not_eq_true', Bool.not_eq_false', Bool.or_eq_true, Bool.and_eq_true, Bool.or_eq_false_iff, Bool.and_eq_false_iff] at hb4
            refine vwp_seq_regionG fun K hK => ?_
            simp only [push_cast, hP, hnt, hgw, hgb, Nat.reduceLT, Nat.reduceEqDiff, Nat.reduceAdd, Nat.reduceSub, Nat.reduceMul, Nat.reduceLeDiff, reduceIte, reduceCtorEq, ne_eq, String.reduceEq, not_false_eq_true, Bool.not_not]
            refine guardR_may (by simp only [push_cast, hP, hnt, hgw, hgb, Nat.reduceLT, Nat.reduceEqDiff, Nat.reduceAdd, Nat.reduceSub, Nat.reduceMul, Nat.reduceLeDiff, reduceIte, reduceCtorEq, ne_eq, String.reduceEq, not_false_eq_true, Bool.not_not, List.getElem?_cons_zero, List.getElem?_cons_succ]; rfl) ?_
            simp only [push_cast, hP, hnt, hgw, hgb, Nat.reduceLT, Nat.reduceEqDiff, Nat.reduceAdd, Nat.reduceSub, Nat.reduceMul, Nat.reduceLeDiff, reduceIte, reduceCtorEq, ne_eq, String.reduceEq, not_false_eq_true, Bool.not_not]
            refine guardR_may (by simp only [push_cast, hP, hnt, hgw, hgb, Nat.reduceLT, Nat.reduceEqDiff, Nat.reduceAdd, Nat.reduceSub, Nat.reduceMul, Nat.reduceLeDiff, reduceIte, reduceCtorEq, ne_eq, String.reduceEq, not_false_eq_true, Bool.not_not, List.getElem?_cons_zero, List.getElem?_cons_succ]; rfl) ?_
            simp only [push_cast, hP, hnt, hgw, hgb, Nat.reduceLT, Nat.reduceEqDiff, Nat.reduceAdd, Nat.reduceSub, Nat.reduceMul, Nat.reduceLeDiff, reduceIte, reduceCtorEq, ne_eq, String.reduceEq, not_false_eq_true, Bool.not_not]
            refine hK _ ?_; clear hK
            refine vwp_ret ?_
            refine ret_free (by simp only [push_cast, hP, hnt, hgw, hgb, Nat.reduceLT, Nat.reduceEqDiff, Nat.reduceAdd, Nat.reduceSub, Nat.reduceMul, Nat.reduceLeDiff, reduceIte, reduceCtorEq, ne_eq, String.reduceEq, not_false_eq_true, Bool.not_not]; rfl) (by simp only [push_cast, hP, hnt, hgw, hgb, Nat.reduceLT, Nat.reduceEqDiff, Nat.reduceAdd, Nat.reduceSub, Nat.reduceMul, Nat.reduceLeDiff, reduceIte, reduceCtorEq, ne_eq, String.reduceEq, not_false_eq_true, Bool.not_not]) ?_
            first | (simp only [pack, passesOnceF, onceTail, rb0, fb1, rb2, fb3, rb4, if_true, if_false, Bool.false_eq_true, reduceIte]; done) | (simp only [pack, passesOnceF, onceTail, hb0, hb1, hb2, hb3, hb4, if_true, if_false, ne_eq, not_true_eq_false, not_false_eq_true, true_or, or_true, or_self, ite_self, Bool.true_eq_false, Bool.false_eq_true, or_false, false_or]; done) | (subst_vars; simp only [pack, passesOnceF, onceTail, *, if_true, if_false, ne_eq, not_true_eq_false, not_false_eq_true, true_or, or_true, or_self, ite_self, Bool.true_eq_false, Bool.false_eq_true, or_false, false_or]; done) | (simp [pack, passesOnceF, onceTail, hb0, hb1, hb2, hb3, hb4] <;> omega)
          · have hb4 := rb4
            try simp only [beq_iff_eq, bne_iff_ne, ne_eq, bne_eq_false_iff_eq, beq_eq_false_iff_ne, decide_eq_true_eq, decide_eq_false_iff_not, Bool.not_eq_true', Bool.not_eq_false', Bool.or_eq_true, Bool.and_eq_true, Bool.or_eq_false_iff, Bool.and_eq_false_iff] at hb4
            refine vwp_skip ?_
            apply_assumption
            refine vwp_seq_region rfl fun K hK => ?_
            simp only [push_cast, hP, hnt, hgw, hgb, Nat.reduceLT, Nat.reduceEqDiff, Nat.reduceAdd, Nat.reduceSub, Nat.reduceMul, Nat.reduceLeDiff, reduceIte, reduceCtorEq, ne_eq, String.reduceEq, not_false_eq_true, Bool.not_not]
            refine callE_intro (text_call gw gw.heap.size _ _) (.inl ⟨rfl, rfl⟩) ?_
            simp only [push_cast, hP, hnt, hgw, hgb, Nat.reduceLT, Nat.reduceEqDiff, Nat.reduceAdd, Nat.reduceSub, Nat.reduceMul, Nat.reduceLeDiff, reduceIte, reduceCtorEq, ne_eq, String.reduceEq, not_false_eq_true, Bool.not_not]
            refine hK _ ?_; clear hK
            refine vwp_seq_regionG fun K hK => ?_
            simp only [push_cast, hP, hnt, hgw, hgb, Nat.reduceLT, Nat.reduceEqDiff, Nat.reduceAdd, Nat.reduceSub, Nat.reduceMul, Nat.reduceLeDiff, reduceIte, reduceCtorEq, ne_eq, String.reduceEq, not_false_eq_true, Bool.not_not]
            refine guardR_may (by simp only [push_cast, hP, hnt, hgw, hgb, Nat.reduceLT, Nat.reduceEqDiff, Nat.reduceAdd, Nat.reduceSub, Nat.reduceMul, Nat.reduceLeDiff, reduceIte, reduceCtorEq, ne_eq, String.reduceEq, not_false_eq_true, Bool.not_not, List.getElem?_cons_zero, List.getElem?_cons_succ]; rfl) ?_
            simp only [push_cast, hP, hnt, hgw, hgb, Nat.reduceLT, Nat.reduceEqDiff, Nat.reduceAdd, Nat.reduceSub, Nat.reduceMul, Nat.reduceLeDiff, reduceIte, reduceCtorEq, ne_eq, String.reduceEq, not_false_eq_true, Bool.not_not]
            refine guardR_may (by simp only [push_cast, hP, hnt, hgw, hgb, Nat.reduceLT, Nat.reduceEqDiff, Nat.reduceAdd, Nat.reduceSub, Nat.reduceMul, Nat.reduceLeDiff, reduceIte, reduceCtorEq, ne_eq, String.reduceEq, not_false_eq_true, Bool.not_not, List.getElem?_cons_zero, List.getElem?_cons_succ]; rfl) ?_
            simp only [push_cast, hP, hnt, hgw, hgb, Nat.reduceLT, Nat.reduceEqDiff, Nat.reduceAdd, Nat.reduceSub, Nat.reduceMul, Nat.reduceLeDiff, reduceIte, reduceCtorEq, ne_eq, String.reduceEq, not_false_eq_true, Bool.not_not]
            refine guardR_may (by simp only [push_cast, hP, hnt, hgw, hgb, Nat.reduceLT, Nat.reduceEqDiff, Nat.reduceAdd, Nat.reduceSub, Nat.reduceMul, Nat.reduceLeDiff, reduceIte, reduceCtorEq, ne_eq, String.reduceEq, not_false_eq_true, Bool.not_not, List.getElem?_cons_zero, List.getElem?_cons_succ]; rfl) ?_
            simp only [push_cast, hP, hnt, hgw, hgb, Nat.reduceLT, Nat.reduceEqDiff, Nat.reduceAdd, Nat.reduceSub, Nat.reduceMul, Nat.reduceLeDiff, reduceIte, reduceCtorEq, ne_eq, String.reduceEq, not_false_eq_true, Bool.not_not]
            refine guardR_may (by simp only [push_cast, hP, hnt, hgw, hgb, Nat.reduceLT, Nat.reduceEqDiff, Nat.reduceAdd, Nat.reduceSub, Nat.reduceMul, Nat.reduceLeDiff, reduceIte, reduceCtorEq, ne_eq, String.reduceEq, not_false_eq_true, Bool.not_not, List.getElem?_cons_zero, List.getElem?_cons_succ]; rfl) ?_
            simp only [push_cast, hP, hnt, hgw, hgb, Nat.reduceLT, Nat.reduceEqDiff, Nat.reduceAdd, Nat.reduceSub, Nat.reduceMul, Nat.reduceLeDiff, reduceIte, reduceCtorEq, ne_eq, String.reduceEq, not_false_eq_true, Bool.not_not]
            refine guardR_may (by simp only [push_cast, hP, hnt, hgw, hgb, Nat.reduceLT, Nat.reduceEqDiff, Nat.reduceAdd, Nat.reduceSub, Nat.reduceMul, Nat.reduceLeDiff, reduceIte, reduceCtorEq, ne_eq, String.reduceEq, not_false_eq_true, Bool.not_not, List.getElem?_cons_zero, List.getElem?_cons_succ]; rfl) ?_
            simp only [push_cast, hP, hnt, hgw, hgb, Nat.reduceLT, Nat.reduceEqDiff, Nat.reduceAdd, Nat.reduceSub, Nat.reduceMul, Nat.reduceLeDiff, reduceIte, reduceCtorEq, ne_eq, String.reduceEq, not_false_eq_true, Bool.not_not]
            refine hK _ ?_; clear hK
            refine vwp_ret ?_
            refine ret_free (by simp only [push_cast, hP, hnt, hgw, hgb, Nat.reduceLT, Nat.reduceEqDiff, Nat.reduceAdd, Nat.reduceSub, Nat.reduceMul, Nat.reduceLeDiff, reduceIte, reduceCtorEq, ne_eq, String.reduceEq, not_false_eq_true, Bool.not_not]; rfl) (by simp only [push_cast, hP, hnt, hgw, hgb, Nat.reduceLT, Nat.reduceEqDiff, Nat.reduceAdd, Nat.reduceSub, Nat.reduceMul, Nat.reduceLeDiff, reduceIte, reduceCtorEq, ne_eq, String.reduceEq, not_false_eq_true, Bool.not_not]) ?_
            first | (simp only [pack, passesOnceF, onceTail, rb0, fb1, rb2, fb3, rb4, if_true, if_false, Bool.false_eq_true, reduceIte]; done) | (simp only [pack, passesOnceF, onceTail, hb0, hb1, hb2, hb3, hb4, if_true, if_false, ne_eq, not_true_eq_false, not_false_eq_true, true_or, or_true, or_self, ite_self, Bool.true_eq_false, Bool.false_eq_true, or_false, false_or]; done) | (subst_vars; simp only [pack, passesOnceF, onceTail, *, if_true, if_false, ne_eq, not_true_eq_false, not_false_eq_true, true_or, or_true, or_self, ite_self, Bool.true_eq_false, Bool.false_eq_true, or_false, false_or]; done) | (simp [pack, passesOnceF, onceTail, hb0, hb1, hb2, hb3, hb4] <;> omega)
      · have hb2 := rb2
        try simp only [beq_iff_eq, bne_iff_ne, ne_eq, bne_eq_false_iff_eq, beq_eq_false_iff_ne, decide_eq_true_eq, decide_eq_false_iff_not, Bool.not_eq_true', Bool.not_eq_false', Bool.or_eq_true, Bool.and_eq_true, Bool.or_eq_false_iff, Bool.and_eq_false_iff] at hb2
        refine vwp_skip ?_
        apply_assumption
        refine vwp_seq_region rfl fun K hK => ?_
        simp only [push_cast, hP, hnt, hgw, hgb, Nat.reduceLT, Nat.reduceEqDiff, Nat.reduceAdd, Nat.reduceSub, Nat.reduceMul, Nat.reduceLeDiff, reduceIte, reduceCtorEq, ne_eq, String.reduceEq, not_false_eq_true, Bool.not_not]
        refine callE_intro (read_call gw hg s (by omega)) (.inl ⟨rfl, rfl⟩) ?_
        simp only [push_cast, hP, hnt, hgw, hgb, Nat.reduceLT, Nat.reduceEqDiff, Nat.reduceAdd, Nat.reduceSub, Nat.reduceMul, Nat.reduceLeDiff, reduceIte, reduceCtorEq, ne_eq, String.reduceEq, not_false_eq_true, Bool.not_not]
        refine hK _ ?_; clear hK
        refine vwp_seq fun K hK => ?_
        refine vwp_seq_region rfl fun K hK => ?_
        simp only [push_cast, hP, hnt, hgw, hgb, Nat.reduceLT, Nat.reduceEqDiff, Nat.reduceAdd, Nat.reduceSub, Nat.reduceMul, Nat.reduceLeDiff, reduceIte, reduceCtorEq, ne_eq, String.reduceEq, not_false_eq_true, Bool.not_not]
        refine hK _ ?_; clear hK
        refine vwp_cond (b := _) (by simp only [push_cast, hP, hnt, hgw, hgb, Nat.reduceLT, Nat.reduceEqDiff, Nat.reduceAdd, Nat.reduceSub, Nat.reduceMul, Nat.reduceLeDiff, reduceIte, reduceCtorEq, ne_eq, String.reduceEq, not_false_eq_true, Bool.not_not]; rfl) (fun rb5 => ?_) (fun rb5 => ?_)
        · have hb5 := rb5
          try simp only [beq_iff_eq, bne_iff_ne, ne_eq, bne_eq_false_iff_eq, beq_eq_false_iff_ne, decide_eq_true_eq, decide_eq_false_iff_not, Bool.not_eq_true', Bool.not_eq_false', Bool.or_eq_true, Bool.and_eq_true, Bool.or_eq_false_iff, Bool.and_eq_false_iff] at hb5
          refine vwp_seq_regionG fun K hK => ?_
          simp only [push_cast, hP, hnt, hgw, hgb, Nat.reduceLT, Nat.reduceEqDiff, Nat.reduceAdd, Nat.reduceSub, Nat.reduceMul, Nat.reduceLeDiff, reduceIte, reduceCtorEq, ne_eq, String.reduceEq, not_false_eq_true, Bool.not_not]
          refine guardR_may (by simp only [push_cast, hP, hnt, hgw, hgb, Nat.reduceLT, Nat.reduceEqDiff, Nat.reduceAdd, Nat.reduceSub, Nat.reduceMul, Nat.reduceLeDiff, reduceIte, reduceCtorEq, ne_eq, String.reduceEq, not_false_eq_true, Bool.not_not, List.getElem?_cons_zero, List.getElem?_cons_succ]; rfl) ?_
          simp only [push_cast, hP, hnt, hgw, hgb, Nat.reduceLT, Nat.reduceEqDiff, Nat.reduceAdd, Nat.reduceSub, Nat.reduceMul, Nat.reduceLeDiff, reduceIte, reduceCtorEq, ne_eq, String.reduceEq, not_false_eq_true, Bool.not_not]
          refine guardR_may (by simp only [push_cast, hP, hnt, hgw, hgb, Nat.reduceLT, Nat.reduceEqDiff, Nat.reduceAdd, Nat.reduceSub, Nat.reduceMul, Nat.reduceLeDiff, reduceIte, reduceCtorEq, ne_eq, String.reduceEq, not_false_eq_true, Bool.not_not, List.getElem?_cons_zero, List.getElem?_cons_succ]; rfl) ?_
          simp only [push_cast, hP, hnt, hgw, hgb, Nat.reduceLT, Nat.reduceEqDiff, Nat.reduceAdd, Nat.reduceSub, Nat.reduceMul, Nat.reduceLeDiff, reduceIte, reduceCtorEq, ne_eq, String.reduceEq, not_false_eq_true, Bool.not_not]
          refine hK _ ?_; clear hK
          refine vwp_ret ?_
          refine ret_free (by simp only [push_cast, hP, hnt, hgw, hgb, Nat.reduceLT, Nat.reduceEqDiff, Nat.reduceAdd, Nat.reduceSub, Nat.reduceMul, Nat.reduceLeDiff, reduceIte, reduceCtorEq, ne_eq, String.reduceEq, not_false_eq_true, Bool.not_not]; rfl) (by simp only [push_cast, hP, hnt, hgw, hgb, Nat.reduceLT, Nat.reduceEqDiff, Nat.reduceAdd, Nat.reduceSub, Nat.reduceMul, Nat.reduceLeDiff, reduceIte, reduceCtorEq, ne_eq, String.reduceEq, not_false_eq_true, Bool.not_not]) ?_
          first | (simp only [pack, passesOnceF, onceTail, rb0, fb1, rb2, rb5, if_true, if_false, Bool.false_eq_true, reduceIte]; done) | (simp only [pack, passesOnceF, onceTail, hb0, hb1, hb2, hb5, if_true, if_false, ne_eq, not_true_eq_false, not_false_eq_true, true_or, or_true, or_self, ite_self, Bool.true_eq_false, Bool.false_eq_true, or_false, false_or]; done) | (subst_vars; simp only [pack, passesOnceF, onceTail, *, if_true, if_false, ne_eq, not_true_eq_false, not_false_eq_true, true_or, or_true, or_self, ite_self, Bool.true_eq_false, Bool.false_eq_true, or_false, false_or]; done) | (simp [pack, passesOnceF, onceTail, hb0, hb1, hb2, hb5] <;> omega)
        · have hb5 := rb5
          try simp only [beq_iff_eq, bne_iff_ne, ne_eq, bne_eq_false_iff_eq, beq_eq_false_iff_ne, decide_eq_true_eq, decide_eq_false_iff_not, Bool.not_eq_true', Bool.not_eq_false', Bool.or_eq_true, Bool.and_eq_true, Bool.or_eq_false_iff, Bool.and_eq_false_iff] at hb5
          refine vwp_skip ?_
          apply_assumption
          refine vwp_seq_region rfl fun K hK => ?_
          simp only [push_cast, hP, hnt, hgw, hgb, Nat.reduceLT, Nat.reduceEqDiff, Nat.reduceAdd, Nat.reduceSub, Nat.reduceMul, Nat.reduceLeDiff, reduceIte, reduceCtorEq, ne_eq, String.reduceEq, not_false_eq_true, Bool.not_not]
          refine callE_intro (text_call gw gw.heap.size _ _) (.inl ⟨rfl, rfl⟩) ?_
          simp only [push_cast, hP, hnt, hgw, hgb, Nat.reduceLT, Nat.reduceEqDiff, Nat.reduceAdd, Nat.reduceSub, Nat.reduceMul, Nat.reduceLeDiff, reduceIte, reduceCtorEq, ne_eq, String.reduceEq, not_false_eq_true, Bool.not_not]
          refine hK _ ?_; clear hK
          refine vwp_seq_regionG fun K hK => ?_
          simp only [push_cast, hP, hnt, hgw, hgb, Nat.reduceLT, Nat.reduceEqDiff, Nat.reduceAdd, Nat.reduceSub, Nat.reduceMul, Nat.reduceLeDiff, reduceIte, reduceCtorEq, ne_eq, String.reduceEq, not_false_eq_true, Bool.not_not]
          refine guardR_may (by simp only [push_cast, hP, hnt, hgw, hgb, Nat.reduceLT, Nat.reduceEqDiff, Nat.reduceAdd, Nat.reduceSub, Nat.reduceMul, Nat.reduceLeDiff, reduceIte, reduceCtorEq, ne_eq, String.reduceEq, not_false_eq_true, Bool.not_not, List.getElem?_cons_zero, List.getElem?_cons_succ]; rfl) ?_
          simp only [push_cast, hP, hnt, hgw, hgb, Nat.reduceLT, Nat.reduceEqDiff, Nat.reduceAdd, Nat.reduceSub, Nat.reduceMul, Nat.reduceLeDiff, reduceIte, reduceCtorEq, ne_eq, String.reduceEq, not_false_eq_true, Bool.not_not]
          refine guardR_may (by simp only [push_cast, hP, hnt, hgw, hgb, Nat.reduceLT, Nat.reduceEqDiff, Nat.reduceAdd, Nat.reduceSub, Nat.reduceMul, Nat.reduceLeDiff, reduceIte, reduceCtorEq, ne_eq, String.reduceEq, not_false_eq_true, Bool.not_not, List.getElem?_cons_zero, List.getElem?_cons_succ]; rfl) ?_
          simp only [push_cast, hP, hnt, hgw, hgb, Nat.reduceLT, Nat.reduceEqDiff, Nat.reduceAdd, Nat.reduceSub, Nat.reduceMul, Nat.reduceLeDiff, reduceIte, reduceCtorEq, ne_eq, String.reduceEq, not_false_eq_true, Bool.not_not]
          refine guardR_may (by simp only [push_cast, hP, hnt, hgw, hgb, Nat.reduceLT, Nat.reduceEqDiff, Nat.reduceAdd, Nat.reduceSub, Nat.reduceMul, Nat.reduceLeDiff, reduceIte, reduceCtorEq, ne_eq, String.reduceEq, not_false_eq_true, Bool.not_not, List.getElem?_cons_zero, List.getElem?_cons_succ]; rfl) ?_
          simp only [push_cast, hP, hnt, hgw, hgb, Nat.reduceLT, Nat.reduceEqDiff, Nat.reduceAdd, Nat.reduceSub, Nat.reduceMul, Nat.reduceLeDiff, reduceIte, reduceCtorEq, ne_eq, String.reduceEq, not_false_eq_true, Bool.not_not]
          refine guardR_may (by simp only [push_cast, hP, hnt, hgw, hgb, Nat.reduceLT, Nat.reduceEqDiff, Nat.reduceAdd, Nat.reduceSub, Nat.reduceMul, Nat.reduceLeDiff, reduceIte, reduceCtorEq, ne_eq, String.reduceEq, not_false_eq_true, Bool.not_not, List.getElem?_cons_zero, List.getElem?_cons_succ]; rfl) ?_
          simp only [push_cast, hP, hnt, hgw, hgb, Nat.reduceLT, Nat.reduceEqDiff, Nat.reduceAdd, Nat.reduceSub, Nat.reduceMul, Nat.reduceLeDiff, reduceIte, reduceCtorEq, ne_eq, String.reduceEq, not_false_eq_true, Bool.not_not]
          refine guardR_may (by simp only [push_cast, hP, hnt, hgw, hgb, Nat.reduceLT, Nat.reduceEqDiff, Nat.reduceAdd, Nat.reduceSub, Nat.reduceMul, Nat.reduceLeDiff, reduceIte, reduceCtorEq, ne_eq, String.reduceEq, not_false_eq_true, Bool.not_not, List.getElem?_cons_zero, List.getElem?_cons_succ]; rfl) ?_
          simp only [push_cast, hP, hnt, hgw, hgb, Nat.reduceLT, Nat.reduceEqDiff, Nat.reduceAdd, Nat.reduceSub, Nat.reduceMul, Nat.reduceLeDiff, reduceIte, reduceCtorEq, ne_eq, String.reduceEq, not_false_eq_true, Bool.not_not]
          refine hK _ ?_; clear hK
          refine vwp_ret ?_
          refine ret_free (by simp only [push_cast, hP, hnt, hgw, hgb, Nat.reduceLT, Nat.reduceEqDiff, Nat.reduceAdd, Nat.reduceSub, Nat.reduceMul, Nat.reduceLeDiff, reduceIte, reduceCtorEq, ne_eq, String.reduceEq, not_false_eq_true, Bool.not_not]; rfl) (by simp only [push_cast, hP, hnt, hgw, hgb, Nat.reduceLT, Nat.reduceEqDiff, Nat.reduceAdd, Nat.reduceSub, Nat.reduceMul, Nat.reduceLeDiff, reduceIte, reduceCtorEq, ne_eq, String.reduceEq, not_false_eq_true, Bool.not_not]) ?_
          first | (simp only [pack, passesOnceF, onceTail, rb0, fb1, rb2, rb5, if_true, if_false, Bool.false_eq_true, reduceIte]; done) | (simp only [pack, passesOnceF, onceTail, hb0, hb1, hb2, hb5, if_true, if_false, ne_eq, not_true_eq_false, not_false_eq_true, true_or, or_true, or_self, ite_self, Bool.true_eq_false, Bool.false_eq_true, or_false, false_or]; done) | (subst_vars; simp only [pack, passesOnceF, onceTail, *, if_true, if_false, ne_eq, not_true_eq_false, not_false_eq_true, true_or, or_true, or_self, ite_self, Bool.true_eq_false, Bool.false_eq_true, or_false, false_or]; done) | (simp [pack, passesOnceF, onceTail, hb0, hb1, hb2, hb5] <;> omega)
end Go.Vm
