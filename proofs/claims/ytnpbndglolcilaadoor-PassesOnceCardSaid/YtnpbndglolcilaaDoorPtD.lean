/-
  Walks of the program's functions by the framework, and what they compute. Conditions: each theorem's own premises. By an AI agent.
-/
import Derived.Test.YtnpbndglolcilaaDoorPtC
namespace Go.Vm
open Go Go.RowKit Go.Proofs
set_option maxRecDepth 100000
set_option linter.unusedSimpArgs false
set_option linter.unusedVariables false
set_option maxHeartbeats 4000000

theorem bytes_ext {a b : ByteArray} (h : a.toList = b.toList) : a = b := by
  rw [ByteArray.toList_eq, ByteArray.toList_eq] at h
  obtain ⟨a⟩ := a
  obtain ⟨b⟩ := b
  congr 1
  exact Array.toList_inj.1 h
theorem refCheckF_ok {n : ByteArray} {k : Int} (h : refCheckF n k = 0) : n.size ≤ 9 := by
  unfold refCheckF at h
  split at h
  · rename_i hc
    rcases hc with hc | hc | hc | hc | hc | hc <;> (rw [bytes_ext hc]; decide)
  · split at h
    · rename_i hc; rw [bytes_ext hc]; decide
    · split at h
      · rename_i hc; rw [bytes_ext hc]; decide
      · cases h
def refPairs : List (ByteArray × Int) := names8.flatMap fun n => [(n, 0), (n, 1), (n, 2), (n, 3), (n, 4), (n, 5), (n, 6), (n, 7), (n, 8), (n, 9)]
def refHit (s : ByteArray) (p : ByteArray × Int) : Bool := (refCheckF p.1 p.2 == 0) && ((writtenF p.1 p.2).toList == s.toList)
def refReadF (s : ByteArray) : ByteArray × Int × Int :=
  match refPairs.find? (refHit s) with
  | some p => (p.1, p.2, 0)
  | none => (⟨#[]⟩, 0, 12)
def nameAt (i : Int) : ByteArray := names8.getD i.toNat ⟨#[]⟩
theorem names_drop (i : Int) (h0 : 0 ≤ i) (h1 : i < 8) : List.drop (i.toNat * 1) (names8.map fun s => PC.c (Value.string s)) = PC.c (Value.string (nameAt i)) :: List.drop (i.toNat + 1) (names8.map fun s => PC.c (Value.string s)) := by
  have hl : i.toNat < (names8.map fun s => PC.c (Value.string s)).length := by simp [names8]; omega
  rw [Nat.mul_one, List.drop_eq_getElem_cons hl]
  simp [nameAt, List.getD, List.getElem?_eq_getElem (show i.toNat < names8.length by simpa using hl)]
theorem nameAt_size (i : Int) : (nameAt i).size ≤ 9 := by
  unfold nameAt
  by_cases h : i.toNat < names8.length
  · have : names8.getD i.toNat ⟨#[]⟩ ∈ names8 := by
      rw [List.getD, List.getElem?_eq_getElem h]; simp
    exact names8_size _ ((Lib.containsS_iff _ _).2 this)
  · rw [List.getD, List.getElem?_eq_none (by omega)]; decide
theorem pairs_dropN : ∀ i, i < 8 → ∀ d, d < 10 → refPairs.drop (10 * i + d) = (names8.getD i ⟨#[]⟩, (d : Int)) :: refPairs.drop (10 * i + d + 1) := by
  decide
theorem pairs_drop (i d : Int) (h0 : 0 ≤ i) (h1 : i < 8) (h2 : 0 ≤ d) (h3 : d < 10) : refPairs.drop (10 * i.toNat + d.toNat) = (nameAt i, d) :: refPairs.drop (10 * i.toNat + d.toNat + 1) := by
  have := pairs_dropN i.toNat (by omega) d.toNat (by omega)
  rw [Int.toNat_of_nonneg h2] at this
  exact this
theorem refRead_found {s n : ByteArray} {d : Int} {k : Nat} {t : List (ByteArray × Int)} (hd : refPairs.drop k = (n, d) :: t) (hf : (refPairs.drop k).find? (refHit s) = refPairs.find? (refHit s)) (hp : refCheckF n d = 0 ∧ (writtenF n d).toList = s.toList) : refReadF s = (n, d, 0) := by
  unfold refReadF
  rw [← hf, hd, List.find?_cons_of_pos (by simp [refHit, hp.1, hp.2])]
theorem refRead_next {s n : ByteArray} {d : Int} {k : Nat} (hd : refPairs.drop k = (n, d) :: refPairs.drop (k + 1)) (hf : (refPairs.drop k).find? (refHit s) = refPairs.find? (refHit s)) (hp : ¬ (refCheckF n d = 0 ∧ (writtenF n d).toList = s.toList)) : (refPairs.drop (k + 1)).find? (refHit s) = refPairs.find? (refHit s) := by
  rw [← hf, hd, List.find?_cons_of_neg (by simpa [refHit] using hp)]
theorem refRead_none {s : ByteArray} {i : Int} (hi : ¬ i < 8) (hi' : i ≤ 8) (hf : (refPairs.drop (10 * i.toNat)).find? (refHit s) = refPairs.find? (refHit s)) : refReadF s = (⟨#[]⟩, 0, 12) := by
  have : i = 8 := by omega
  subst this
  unfold refReadF
  rw [← hf, List.drop_eq_nil_of_le (by decide)]
  rfl

theorem refText_call (gw : World) (gb : Nat) (n : ByteArray) (k : Int) : VCall Tryd.prog gw (gb) 9 [.agg [.c (.string n), .c (.int .i64 k)]] (.tup [.one (.c (.string (refTextF n k).1)), .one (.c (.int .i64 (refTextF n k).2))]) [] := by
  refine vcall_of [.tmp 2, .tmp 3] Tryd.func9 rfl rfl Tryd.ntmps9 rfl (by simp) ?_
  intro C hP hnt hgw hgb hfull
  refine vwp_seq_region rfl fun K hK => ?_
  simp only [push_cast, hP, hnt, hgw, hgb, Nat.reduceLT, Nat.reduceEqDiff, Nat.reduceAdd, Nat.reduceSub, Nat.reduceMul, Nat.reduceLeDiff, reduceIte, reduceCtorEq, ne_eq, String.reduceEq, not_false_eq_true, Bool.not_not]
  refine hK _ ?_; clear hK
  refine vwp_seq fun K hK => ?_
  refine vwp_seq_region rfl fun K hK => ?_
  simp only [push_cast, hP, hnt, hgw, hgb, Nat.reduceLT, Nat.reduceEqDiff, Nat.reduceAdd, Nat.reduceSub, Nat.reduceMul, Nat.reduceLeDiff, reduceIte, reduceCtorEq, ne_eq, String.reduceEq, not_false_eq_true, Bool.not_not]
  refine callE_intro (refCheck_call gw gb n k) (.inl ⟨rfl, rfl⟩) ?_
  simp only [push_cast, hP, hnt, hgw, hgb, Nat.reduceLT, Nat.reduceEqDiff, Nat.reduceAdd, Nat.reduceSub, Nat.reduceMul, Nat.reduceLeDiff, reduceIte, reduceCtorEq, ne_eq, String.reduceEq, not_false_eq_true, Bool.not_not]
  refine hK _ ?_; clear hK
  refine vwp_seq_region rfl fun K hK => ?_
  simp only [push_cast, hP, hnt, hgw, hgb, Nat.reduceLT, Nat.reduceEqDiff, Nat.reduceAdd, Nat.reduceSub, Nat.reduceMul, Nat.reduceLeDiff, reduceIte, reduceCtorEq, ne_eq, String.reduceEq, not_false_eq_true, Bool.not_not]
  refine hK _ ?_; clear hK
  refine vwp_cond (b := _) (by simp only [push_cast, hP, hnt, hgw, hgb, Nat.reduceLT, Nat.reduceEqDiff, Nat.reduceAdd, Nat.reduceSub, Nat.reduceMul, Nat.reduceLeDiff, reduceIte, reduceCtorEq, ne_eq, String.reduceEq, not_false_eq_true, Bool.not_not]; rfl) (fun rb0 => ?_) (fun rb0 => ?_)
  · have hb0 := rb0
    try simp only [beq_iff_eq, bne_iff_ne, ne_eq, bne_eq_false_iff_eq, beq_eq_false_iff_ne, decide_eq_true_eq, decide_eq_false_iff_not, Bool.not_eq_true', Bool.not_eq_false', Bool.or_eq_true, Bool.and_eq_true, Bool.or_eq_false_iff, Bool.and_eq_false_iff] at hb0
    refine vwp_seq_region rfl fun K hK => ?_
    simp only [push_cast, hP, hnt, hgw, hgb, Nat.reduceLT, Nat.reduceEqDiff, Nat.reduceAdd, Nat.reduceSub, Nat.reduceMul, Nat.reduceLeDiff, reduceIte, reduceCtorEq, ne_eq, String.reduceEq, not_false_eq_true, Bool.not_not]
    refine hK _ ?_; clear hK
    refine vwp_ret ?_
    refine ret_free (by simp only [push_cast, hP, hnt, hgw, hgb, Nat.reduceLT, Nat.reduceEqDiff, Nat.reduceAdd, Nat.reduceSub, Nat.reduceMul, Nat.reduceLeDiff, reduceIte, reduceCtorEq, ne_eq, String.reduceEq, not_false_eq_true, Bool.not_not]; rfl) (by simp only [push_cast, hP, hnt, hgw, hgb, Nat.reduceLT, Nat.reduceEqDiff, Nat.reduceAdd, Nat.reduceSub, Nat.reduceMul, Nat.reduceLeDiff, reduceIte, reduceCtorEq, ne_eq, String.reduceEq, not_false_eq_true, Bool.not_not]) ?_
    first | (simp only [pack, refTextF, rb0, if_true, if_false, Bool.false_eq_true, reduceIte]; done) | (simp only [pack, refTextF, hb0, if_true, if_false, ne_eq, not_true_eq_false, not_false_eq_true, true_or, or_true, or_self, ite_self, Bool.true_eq_false, Bool.false_eq_true, or_false, false_or]; done) | (subst_vars; simp only [pack, refTextF, *, if_true, if_false, ne_eq, not_true_eq_false, not_false_eq_true, true_or, or_true, or_self, ite_self, Bool.true_eq_false, Bool.false_eq_true, or_false, false_or]; done) | (simp [pack, refTextF, hb0] <;> omega)
  · have hb0 := rb0
    try simp only [beq_iff_eq, bne_iff_ne, ne_eq, bne_eq_false_iff_eq, beq_eq_false_iff_ne, decide_eq_true_eq, decide_eq_false_iff_not, Bool.not_eq_true', Bool.not_eq_false', Bool.or_eq_true, Bool.and_eq_true, Bool.or_eq_false_iff, Bool.and_eq_false_iff] at hb0
    refine vwp_skip ?_
    apply_assumption
    refine vwp_seq_region rfl fun K hK => ?_
    simp only [push_cast, hP, hnt, hgw, hgb, Nat.reduceLT, Nat.reduceEqDiff, Nat.reduceAdd, Nat.reduceSub, Nat.reduceMul, Nat.reduceLeDiff, reduceIte, reduceCtorEq, ne_eq, String.reduceEq, not_false_eq_true, Bool.not_not]
    refine callE_intro (refWritten_call gw gb n k (refCheckF_ok hb0)) (.inl ⟨rfl, rfl⟩) ?_
    simp only [push_cast, hP, hnt, hgw, hgb, Nat.reduceLT, Nat.reduceEqDiff, Nat.reduceAdd, Nat.reduceSub, Nat.reduceMul, Nat.reduceLeDiff, reduceIte, reduceCtorEq, ne_eq, String.reduceEq, not_false_eq_true, Bool.not_not]
    refine hK _ ?_; clear hK
    refine vwp_ret ?_
    refine ret_free (by simp only [push_cast, hP, hnt, hgw, hgb, Nat.reduceLT, Nat.reduceEqDiff, Nat.reduceAdd, Nat.reduceSub, Nat.reduceMul, Nat.reduceLeDiff, reduceIte, reduceCtorEq, ne_eq, String.reduceEq, not_false_eq_true, Bool.not_not]; rfl) (by simp only [push_cast, hP, hnt, hgw, hgb, Nat.reduceLT, Nat.reduceEqDiff, Nat.reduceAdd, Nat.reduceSub, Nat.reduceMul, Nat.reduceLeDiff, reduceIte, reduceCtorEq, ne_eq, String.reduceEq, not_false_eq_true, Bool.not_not]) ?_
    first | (simp only [pack, refTextF, rb0, if_true, if_false, Bool.false_eq_true, reduceIte]; done) | (simp only [pack, refTextF, hb0, if_true, if_false, ne_eq, not_true_eq_false, not_false_eq_true, true_or, or_true, or_self, ite_self, Bool.true_eq_false, Bool.false_eq_true, or_false, false_or]; done) | (subst_vars; simp only [pack, refTextF, *, if_true, if_false, ne_eq, not_true_eq_false, not_false_eq_true, true_or, or_true, or_self, ite_self, Bool.true_eq_false, Bool.false_eq_true, or_false, false_or]; done) | (simp [pack, refTextF, hb0] <;> omega)
theorem refRead_call (gw : World) (gb : Nat) (s : ByteArray) : VCall Tryd.prog gw (gb) 11 [.one (.c (.string s))] (.tup [.agg [.c (.string (refReadF s).1), .c (.int .i64 (refReadF s).2.1)], .one (.c (.int .i64 (refReadF s).2.2))]) [] := by
  refine vcall_of [.cell 2 23, .tmp 3] Tryd.func11 rfl rfl Tryd.ntmps11 rfl (by simp) ?_
  intro C hP hnt hgw hgb hfull
  refine vwp_seq_region rfl fun K hK => ?_
  simp only [push_cast, hP, hnt, hgw, hgb, Nat.reduceLT, Nat.reduceEqDiff, Nat.reduceAdd, Nat.reduceSub, Nat.reduceMul, Nat.reduceLeDiff, reduceIte, reduceCtorEq, ne_eq, String.reduceEq, not_false_eq_true, Bool.not_not]
  refine hK _ ?_; clear hK
  refine vwp_seq_region rfl fun K hK => ?_
  simp only [push_cast, hP, hnt, hgw, hgb, Nat.reduceLT, Nat.reduceEqDiff, Nat.reduceAdd, Nat.reduceSub, Nat.reduceMul, Nat.reduceLeDiff, reduceIte, reduceCtorEq, ne_eq, String.reduceEq, not_false_eq_true, Bool.not_not]
  refine callE_intro (refNames_call gw gb) (.inl ⟨rfl, rfl⟩) ?_
  simp only [push_cast, hP, hnt, hgw, hgb, Nat.reduceLT, Nat.reduceEqDiff, Nat.reduceAdd, Nat.reduceSub, Nat.reduceMul, Nat.reduceLeDiff, reduceIte, reduceCtorEq, ne_eq, String.reduceEq, not_false_eq_true, Bool.not_not]
  refine hK _ ?_; clear hK
  refine vwp_seq fun K hK => ?_
  refine vwp_seq_region rfl fun K hK => ?_
  simp only [push_cast, hP, hnt, hgw, hgb, Nat.reduceLT, Nat.reduceEqDiff, Nat.reduceAdd, Nat.reduceSub, Nat.reduceMul, Nat.reduceLeDiff, reduceIte, reduceCtorEq, ne_eq, String.reduceEq, not_false_eq_true, Bool.not_not]
  refine hK _ ?_; clear hK
  refine vwp_block ?_
  refine vwp_loop (fun m σ => ∃ (i : Int), m = (8 - i).toNat ∧ ((0 ≤ i) ∧ (i ≤ 8) ∧ ((refPairs.drop (10 * i.toNat)).find? (refHit s) = refPairs.find? (refHit s))) ∧ σ = St.of [(0, .one (.c (.string s))), (2, .one (.loc (2, 0) 0)), (3, .one (.c (.int .i64 0))), (4, .one (.own (8, 0))), (5, .one (.c (.int .i64 i)))] [((2, 0), .box 23 [.c (.string ⟨#[]⟩), .c (.int .i64 0)]), ((8, 0), .arr 9 1 8 (names8.map fun s => .c (.string s)))] [2, 8]) _ ⟨_, ?_, 0, rfl, ?_, rfl⟩ ?_
  · refine wk_conv hfull [] [((2, 0), (2, 0)), ((8, 0), (8, 0))] (by simp) (by simp) (by simp) ?_ ?_
    · refine hf_cons (by simp only [push_cast, hP, hnt, hgw, hgb, Nat.reduceLT, Nat.reduceEqDiff, Nat.reduceAdd, Nat.reduceSub, Nat.reduceMul, Nat.reduceLeDiff, reduceIte, reduceCtorEq, ne_eq, String.reduceEq, not_false_eq_true, Bool.not_not]; rfl) (by first | exact .one (.own (by simp)) | exact .one (.loc (by simp)) | exact ConvV.self (by simp only [push_cast, names8])) ?_
      refine hf_cons (by simp only [push_cast, hP, hnt, hgw, hgb, Nat.reduceLT, Nat.reduceEqDiff, Nat.reduceAdd, Nat.reduceSub, Nat.reduceMul, Nat.reduceLeDiff, reduceIte, reduceCtorEq, ne_eq, String.reduceEq, not_false_eq_true, Bool.not_not]; rfl) (by first | exact .one (.own (by simp)) | exact .one (.loc (by simp)) | exact ConvV.self (by simp only [push_cast, names8])) ?_
      refine hf_cons (by simp only [push_cast, hP, hnt, hgw, hgb, Nat.reduceLT, Nat.reduceEqDiff, Nat.reduceAdd, Nat.reduceSub, Nat.reduceMul, Nat.reduceLeDiff, reduceIte, reduceCtorEq, ne_eq, String.reduceEq, not_false_eq_true, Bool.not_not]; rfl) (by first | exact .one (.own (by simp)) | exact .one (.loc (by simp)) | exact ConvV.self (by simp only [push_cast, names8])) ?_
      refine hf_cons (by simp only [push_cast, hP, hnt, hgw, hgb, Nat.reduceLT, Nat.reduceEqDiff, Nat.reduceAdd, Nat.reduceSub, Nat.reduceMul, Nat.reduceLeDiff, reduceIte, reduceCtorEq, ne_eq, String.reduceEq, not_false_eq_true, Bool.not_not]; rfl) (by first | exact .one (.own (by simp)) | exact .one (.loc (by simp)) | exact ConvV.self (by simp only [push_cast, names8])) ?_
      refine hf_cons (by simp only [push_cast, hP, hnt, hgw, hgb, Nat.reduceLT, Nat.reduceEqDiff, Nat.reduceAdd, Nat.reduceSub, Nat.reduceMul, Nat.reduceLeDiff, reduceIte, reduceCtorEq, ne_eq, String.reduceEq, not_false_eq_true, Bool.not_not]; rfl) (by first | exact .one (.own (by simp)) | exact .one (.loc (by simp)) | exact ConvV.self (by simp only [push_cast, names8])) ?_
      exact hf_nil
    · refine hh_cons (i := (2, 0)) (by simp) (by simp) (by first | (simp only [push_cast, hP, hnt, hgw, hgb, Nat.reduceLT, Nat.reduceEqDiff, Nat.reduceAdd, Nat.reduceSub, Nat.reduceMul, Nat.reduceLeDiff, reduceIte, reduceCtorEq, ne_eq, String.reduceEq, not_false_eq_true, Bool.not_not]; rfl) | (simp only [push_cast, hP, hnt, hgw, hgb, Nat.reduceLT, Nat.reduceEqDiff, Nat.reduceAdd, Nat.reduceSub, Nat.reduceMul, Nat.reduceLeDiff, reduceIte, reduceCtorEq, ne_eq, String.reduceEq, not_false_eq_true, Bool.not_not]; done)) (ConvB.free (by simp only [push_cast, refReadF])) ?_
      refine hh_cons (i := (8, 0)) (by simp) (by simp) (by first | (simp only [push_cast, hP, hnt, hgw, hgb, Nat.reduceLT, Nat.reduceEqDiff, Nat.reduceAdd, Nat.reduceSub, Nat.reduceMul, Nat.reduceLeDiff, reduceIte, reduceCtorEq, ne_eq, String.reduceEq, not_false_eq_true, Bool.not_not]; rfl) | (simp only [push_cast, hP, hnt, hgw, hgb, Nat.reduceLT, Nat.reduceEqDiff, Nat.reduceAdd, Nat.reduceSub, Nat.reduceMul, Nat.reduceLeDiff, reduceIte, reduceCtorEq, ne_eq, String.reduceEq, not_false_eq_true, Bool.not_not]; done)) (ConvB.free (by simp only [push_cast, refReadF])) ?_
      exact hh_nil
  · exact ⟨by omega, by omega, rfl⟩
  · rintro m τ ⟨i, hm, ⟨hi0, hi8, hf⟩, rfl⟩ K hL0
    have hwi : IntKind.wrap .i64 (i + 1) = i + 1 := by rw [IntKind.wrap_i64]; omega
    refine vwp_seq fun K hK => ?_
    refine vwp_seq_region rfl fun K hK => ?_
    simp only [push_cast, hP, hnt, hgw, hgb, Nat.reduceLT, Nat.reduceEqDiff, Nat.reduceAdd, Nat.reduceSub, Nat.reduceMul, Nat.reduceLeDiff, reduceIte, reduceCtorEq, ne_eq, String.reduceEq, not_false_eq_true, Bool.not_not, hwi, hi0, and_self, Int.cast_ofNat_Int]
    refine hK _ ?_; clear hK
    refine vwp_cond (b := _) (by simp only [push_cast, hP, hnt, hgw, hgb, Nat.reduceLT, Nat.reduceEqDiff, Nat.reduceAdd, Nat.reduceSub, Nat.reduceMul, Nat.reduceLeDiff, reduceIte, reduceCtorEq, ne_eq, String.reduceEq, not_false_eq_true, Bool.not_not, hwi, hi0, and_self, Int.cast_ofNat_Int]; rfl) (fun rb0 => ?_) (fun rb0 => ?_)
    · have hb0 := rb0
      try simp only [beq_iff_eq, bne_iff_ne, ne_eq, bne_eq_false_iff_eq, beq_eq_false_iff_ne, decide_eq_true_eq, decide_eq_false_iff_not, Bool.not_eq_true', Bool.not_eq_false', Bool.or_eq_true, Bool.and_eq_true, Bool.or_eq_false_iff, Bool.and_eq_false_iff] at hb0
      refine vwp_skip ?_
      apply_assumption
      refine vwp_seq fun K hK => ?_
      refine vwp_block ?_
      refine vwp_seq_region rfl fun K hK => ?_
      simp only [push_cast, hP, hnt, hgw, hgb, Nat.reduceLT, Nat.reduceEqDiff, Nat.reduceAdd, Nat.reduceSub, Nat.reduceMul, Nat.reduceLeDiff, reduceIte, reduceCtorEq, ne_eq, String.reduceEq, not_false_eq_true, Bool.not_not, hwi, hi0, and_self, Int.cast_ofNat_Int]
      refine hK _ ?_; clear hK
      refine vwp_block ?_
      refine vwp_loop (fun m σ => ∃ (d : Int), m = (10 - d).toNat ∧ ((0 ≤ d) ∧ (d ≤ 10) ∧ ((refPairs.drop (10 * i.toNat + d.toNat)).find? (refHit s) = refPairs.find? (refHit s))) ∧ σ = St.of [(0, .one (.c (.string s))), (2, .one (.loc (2, 0) 0)), (3, .one (.c (.int .i64 0))), (4, .one (.own (8, 0))), (5, .one (.c (.int .i64 i))), (6, .one (.c (.int .i64 d)))] [((2, 0), .box 23 [.c (.string ⟨#[]⟩), .c (.int .i64 0)]), ((8, 0), .arr 9 1 8 (names8.map fun s => .c (.string s)))] [2, 8]) _ ⟨_, ?_, 0, rfl, ?_, rfl⟩ ?_
      · refine wk_conv hfull [] [((2, 0), (2, 0)), ((8, 0), (8, 0))] (by simp) (by simp) (by simp) ?_ ?_
        · refine hf_cons (by simp only [push_cast, hP, hnt, hgw, hgb, Nat.reduceLT, Nat.reduceEqDiff, Nat.reduceAdd, Nat.reduceSub, Nat.reduceMul, Nat.reduceLeDiff, reduceIte, reduceCtorEq, ne_eq, String.reduceEq, not_false_eq_true, Bool.not_not, hwi, hi0, and_self, Int.cast_ofNat_Int]; rfl) (by first | exact .one (.own (by simp)) | exact .one (.loc (by simp)) | exact ConvV.self (by simp only [push_cast, names8])) ?_
          refine hf_cons (by simp only [push_cast, hP, hnt, hgw, hgb, Nat.reduceLT, Nat.reduceEqDiff, Nat.reduceAdd, Nat.reduceSub, Nat.reduceMul, Nat.reduceLeDiff, reduceIte, reduceCtorEq, ne_eq, String.reduceEq, not_false_eq_true, Bool.not_not, hwi, hi0, and_self, Int.cast_ofNat_Int]; rfl) (by first | exact .one (.own (by simp)) | exact .one (.loc (by simp)) | exact ConvV.self (by simp only [push_cast, names8])) ?_
          refine hf_cons (by simp only [push_cast, hP, hnt, hgw, hgb, Nat.reduceLT, Nat.reduceEqDiff, Nat.reduceAdd, Nat.reduceSub, Nat.reduceMul, Nat.reduceLeDiff, reduceIte, reduceCtorEq, ne_eq, String.reduceEq, not_false_eq_true, Bool.not_not, hwi, hi0, and_self, Int.cast_ofNat_Int]; rfl) (by first | exact .one (.own (by simp)) | exact .one (.loc (by simp)) | exact ConvV.self (by simp only [push_cast, names8])) ?_
          refine hf_cons (by simp only [push_cast, hP, hnt, hgw, hgb, Nat.reduceLT, Nat.reduceEqDiff, Nat.reduceAdd, Nat.reduceSub, Nat.reduceMul, Nat.reduceLeDiff, reduceIte, reduceCtorEq, ne_eq, String.reduceEq, not_false_eq_true, Bool.not_not, hwi, hi0, and_self, Int.cast_ofNat_Int]; rfl) (by first | exact .one (.own (by simp)) | exact .one (.loc (by simp)) | exact ConvV.self (by simp only [push_cast, names8])) ?_
          refine hf_cons (by simp only [push_cast, hP, hnt, hgw, hgb, Nat.reduceLT, Nat.reduceEqDiff, Nat.reduceAdd, Nat.reduceSub, Nat.reduceMul, Nat.reduceLeDiff, reduceIte, reduceCtorEq, ne_eq, String.reduceEq, not_false_eq_true, Bool.not_not, hwi, hi0, and_self, Int.cast_ofNat_Int]; rfl) (by first | exact .one (.own (by simp)) | exact .one (.loc (by simp)) | exact ConvV.self (by simp only [push_cast, names8])) ?_
          refine hf_cons (by simp only [push_cast, hP, hnt, hgw, hgb, Nat.reduceLT, Nat.reduceEqDiff, Nat.reduceAdd, Nat.reduceSub, Nat.reduceMul, Nat.reduceLeDiff, reduceIte, reduceCtorEq, ne_eq, String.reduceEq, not_false_eq_true, Bool.not_not, hwi, hi0, and_self, Int.cast_ofNat_Int]; rfl) (by first | exact .one (.own (by simp)) | exact .one (.loc (by simp)) | exact ConvV.self (by simp only [push_cast, names8])) ?_
          exact hf_nil
        · refine hh_cons (i := (2, 0)) (by simp) (by simp) (by first | (simp only [push_cast, hP, hnt, hgw, hgb, Nat.reduceLT, Nat.reduceEqDiff, Nat.reduceAdd, Nat.reduceSub, Nat.reduceMul, Nat.reduceLeDiff, reduceIte, reduceCtorEq, ne_eq, String.reduceEq, not_false_eq_true, Bool.not_not, hwi, hi0, and_self, Int.cast_ofNat_Int]; rfl) | (simp only [push_cast, hP, hnt, hgw, hgb, Nat.reduceLT, Nat.reduceEqDiff, Nat.reduceAdd, Nat.reduceSub, Nat.reduceMul, Nat.reduceLeDiff, reduceIte, reduceCtorEq, ne_eq, String.reduceEq, not_false_eq_true, Bool.not_not, hwi, hi0, and_self, Int.cast_ofNat_Int]; done)) (ConvB.free (by simp only [push_cast, refReadF])) ?_
          refine hh_cons (i := (8, 0)) (by simp) (by simp) (by first | (simp only [push_cast, hP, hnt, hgw, hgb, Nat.reduceLT, Nat.reduceEqDiff, Nat.reduceAdd, Nat.reduceSub, Nat.reduceMul, Nat.reduceLeDiff, reduceIte, reduceCtorEq, ne_eq, String.reduceEq, not_false_eq_true, Bool.not_not, hwi, hi0, and_self, Int.cast_ofNat_Int]; rfl) | (simp only [push_cast, hP, hnt, hgw, hgb, Nat.reduceLT, Nat.reduceEqDiff, Nat.reduceAdd, Nat.reduceSub, Nat.reduceMul, Nat.reduceLeDiff, reduceIte, reduceCtorEq, ne_eq, String.reduceEq, not_false_eq_true, Bool.not_not, hwi, hi0, and_self, Int.cast_ofNat_Int]; done)) (ConvB.free (by simp only [push_cast, refReadF])) ?_
          exact hh_nil
      · exact ⟨by omega, by omega, hf⟩
      · rintro m τ ⟨d, hm, ⟨hd0, hd10, hg⟩, rfl⟩ K hL2
        have hwd : IntKind.wrap .i64 (d + 1) = d + 1 := by rw [IntKind.wrap_i64]; omega
        have hnd := names_drop i hi0 hb0
        refine vwp_seq fun K hK => ?_
        refine vwp_seq_region rfl fun K hK => ?_
        simp only [push_cast, hP, hnt, hgw, hgb, Nat.reduceLT, Nat.reduceEqDiff, Nat.reduceAdd, Nat.reduceSub, Nat.reduceMul, Nat.reduceLeDiff, reduceIte, reduceCtorEq, ne_eq, String.reduceEq, not_false_eq_true, Bool.not_not, hwi, hi0, and_self, Int.cast_ofNat_Int, hwd, hd0, hb0, hnd]
        refine hK _ ?_; clear hK
        refine vwp_cond (b := _) (by simp only [push_cast, hP, hnt, hgw, hgb, Nat.reduceLT, Nat.reduceEqDiff, Nat.reduceAdd, Nat.reduceSub, Nat.reduceMul, Nat.reduceLeDiff, reduceIte, reduceCtorEq, ne_eq, String.reduceEq, not_false_eq_true, Bool.not_not, hwi, hi0, and_self, Int.cast_ofNat_Int, hwd, hd0, hb0, hnd]; rfl) (fun rb1 => ?_) (fun rb1 => ?_)
        · have hb1 := rb1
          try simp only [beq_iff_eq, bne_iff_ne, ne_eq, bne_eq_false_iff_eq, beq_eq_false_iff_ne, decide_eq_true_eq, decide_eq_false_iff_not, Bool.not_eq_true', Bool.not_eq_false', Bool.or_eq_true, Bool.and_eq_true, Bool.or_eq_false_iff, Bool.and_eq_false_iff] at hb1
          refine vwp_skip ?_
          apply_assumption
          refine vwp_seq fun K hK => ?_
          refine vwp_block ?_
          refine vwp_seq_region rfl fun K hK => ?_
          simp only [push_cast, hP, hnt, hgw, hgb, Nat.reduceLT, Nat.reduceEqDiff, Nat.reduceAdd, Nat.reduceSub, Nat.reduceMul, Nat.reduceLeDiff, reduceIte, reduceCtorEq, ne_eq, String.reduceEq, not_false_eq_true, Bool.not_not, hwi, hi0, and_self, Int.cast_ofNat_Int, hwd, hd0, hb0, hnd]
          refine hK _ ?_; clear hK
          refine vwp_seq_regionG fun K hK => ?_
          simp only [push_cast, hP, hnt, hgw, hgb, Nat.reduceLT, Nat.reduceEqDiff, Nat.reduceAdd, Nat.reduceSub, Nat.reduceMul, Nat.reduceLeDiff, reduceIte, reduceCtorEq, ne_eq, String.reduceEq, not_false_eq_true, Bool.not_not, hwi, hi0, and_self, Int.cast_ofNat_Int, hwd, hd0, hb0, hnd]
          refine callE_intro (refCheck_call gw gb _ _) (.inl ⟨rfl, rfl⟩) ?_
          simp only [push_cast, hP, hnt, hgw, hgb, Nat.reduceLT, Nat.reduceEqDiff, Nat.reduceAdd, Nat.reduceSub, Nat.reduceMul, Nat.reduceLeDiff, reduceIte, reduceCtorEq, ne_eq, String.reduceEq, not_false_eq_true, Bool.not_not, hwi, hi0, and_self, Int.cast_ofNat_Int, hwd, hd0, hb0, hnd]
          refine guardR_may (by simp only [push_cast, hP, hnt, hgw, hgb, Nat.reduceLT, Nat.reduceEqDiff, Nat.reduceAdd, Nat.reduceSub, Nat.reduceMul, Nat.reduceLeDiff, reduceIte, reduceCtorEq, ne_eq, String.reduceEq, not_false_eq_true, Bool.not_not, hwi, hi0, and_self, Int.cast_ofNat_Int, hwd, hd0, hb0, hnd, List.getElem?_cons_zero, List.getElem?_cons_succ]; rfl) ?_
          simp only [push_cast, hP, hnt, hgw, hgb, Nat.reduceLT, Nat.reduceEqDiff, Nat.reduceAdd, Nat.reduceSub, Nat.reduceMul, Nat.reduceLeDiff, reduceIte, reduceCtorEq, ne_eq, String.reduceEq, not_false_eq_true, Bool.not_not, hwi, hi0, and_self, Int.cast_ofNat_Int, hwd, hd0, hb0, hnd]
          refine guardR_may (by simp only [push_cast, hP, hnt, hgw, hgb, Nat.reduceLT, Nat.reduceEqDiff, Nat.reduceAdd, Nat.reduceSub, Nat.reduceMul, Nat.reduceLeDiff, reduceIte, reduceCtorEq, ne_eq, String.reduceEq, not_false_eq_true, Bool.not_not, hwi, hi0, and_self, Int.cast_ofNat_Int, hwd, hd0, hb0, hnd, List.getElem?_cons_zero, List.getElem?_cons_succ]; rfl) ?_
          simp only [push_cast, hP, hnt, hgw, hgb, Nat.reduceLT, Nat.reduceEqDiff, Nat.reduceAdd, Nat.reduceSub, Nat.reduceMul, Nat.reduceLeDiff, reduceIte, reduceCtorEq, ne_eq, String.reduceEq, not_false_eq_true, Bool.not_not, hwi, hi0, and_self, Int.cast_ofNat_Int, hwd, hd0, hb0, hnd]
          refine callE_intro (refWritten_call gw gb _ _ (nameAt_size i)) (.inl ⟨rfl, rfl⟩) ?_
          refine ⟨rfl, ?_⟩
          simp only [push_cast, hP, hnt, hgw, hgb, Nat.reduceLT, Nat.reduceEqDiff, Nat.reduceAdd, Nat.reduceSub, Nat.reduceMul, Nat.reduceLeDiff, reduceIte, reduceCtorEq, ne_eq, String.reduceEq, not_false_eq_true, Bool.not_not, hwi, hi0, and_self, Int.cast_ofNat_Int, hwd, hd0, hb0, hnd]
          refine guardR_may (by simp only [push_cast, hP, hnt, hgw, hgb, Nat.reduceLT, Nat.reduceEqDiff, Nat.reduceAdd, Nat.reduceSub, Nat.reduceMul, Nat.reduceLeDiff, reduceIte, reduceCtorEq, ne_eq, String.reduceEq, not_false_eq_true, Bool.not_not, hwi, hi0, and_self, Int.cast_ofNat_Int, hwd, hd0, hb0, hnd, List.getElem?_cons_zero, List.getElem?_cons_succ]; rfl) ?_
          simp only [push_cast, hP, hnt, hgw, hgb, Nat.reduceLT, Nat.reduceEqDiff, Nat.reduceAdd, Nat.reduceSub, Nat.reduceMul, Nat.reduceLeDiff, reduceIte, reduceCtorEq, ne_eq, String.reduceEq, not_false_eq_true, Bool.not_not, hwi, hi0, and_self, Int.cast_ofNat_Int, hwd, hd0, hb0, hnd]
          refine guardR_may (by simp only [push_cast, hP, hnt, hgw, hgb, Nat.reduceLT, Nat.reduceEqDiff, Nat.reduceAdd, Nat.reduceSub, Nat.reduceMul, Nat.reduceLeDiff, reduceIte, reduceCtorEq, ne_eq, String.reduceEq, not_false_eq_true, Bool.not_not, hwi, hi0, and_self, Int.cast_ofNat_Int, hwd, hd0, hb0, hnd, List.getElem?_cons_zero, List.getElem?_cons_succ]; rfl) ?_
          simp only [push_cast, hP, hnt, hgw, hgb, Nat.reduceLT, Nat.reduceEqDiff, Nat.reduceAdd, Nat.reduceSub, Nat.reduceMul, Nat.reduceLeDiff, reduceIte, reduceCtorEq, ne_eq, String.reduceEq, not_false_eq_true, Bool.not_not, hwi, hi0, and_self, Int.cast_ofNat_Int, hwd, hd0, hb0, hnd]
          refine hK _ ?_; clear hK
          refine vwp_cond (b := _) (by simp only [push_cast, hP, hnt, hgw, hgb, Nat.reduceLT, Nat.reduceEqDiff, Nat.reduceAdd, Nat.reduceSub, Nat.reduceMul, Nat.reduceLeDiff, reduceIte, reduceCtorEq, ne_eq, String.reduceEq, not_false_eq_true, Bool.not_not, hwi, hi0, and_self, Int.cast_ofNat_Int, hwd, hd0, hb0, hnd]; rfl) (fun rb2 => ?_) (fun rb2 => ?_)
          · have hb2 := rb2
            try simp only [beq_iff_eq, bne_iff_ne, ne_eq, bne_eq_false_iff_eq, beq_eq_false_iff_ne, decide_eq_true_eq, decide_eq_false_iff_not, Bool.not_eq_true', Bool.not_eq_false', Bool.or_eq_true, Bool.and_eq_true, Bool.or_eq_false_iff, Bool.and_eq_false_iff] at hb2
            refine vwp_seq_region rfl fun K hK => ?_
            simp only [push_cast, hP, hnt, hgw, hgb, Nat.reduceLT, Nat.reduceEqDiff, Nat.reduceAdd, Nat.reduceSub, Nat.reduceMul, Nat.reduceLeDiff, reduceIte, reduceCtorEq, ne_eq, String.reduceEq, not_false_eq_true, Bool.not_not, hwi, hi0, and_self, Int.cast_ofNat_Int, hwd, hd0, hb0, hnd]
            refine hK _ ?_; clear hK
            refine vwp_ret ?_
            refine ret_free (by simp only [push_cast, hP, hnt, hgw, hgb, Nat.reduceLT, Nat.reduceEqDiff, Nat.reduceAdd, Nat.reduceSub, Nat.reduceMul, Nat.reduceLeDiff, reduceIte, reduceCtorEq, ne_eq, String.reduceEq, not_false_eq_true, Bool.not_not, hwi, hi0, and_self, Int.cast_ofNat_Int, hwd, hd0, hb0, hnd]; rfl) (by simp only [push_cast, hP, hnt, hgw, hgb, Nat.reduceLT, Nat.reduceEqDiff, Nat.reduceAdd, Nat.reduceSub, Nat.reduceMul, Nat.reduceLeDiff, reduceIte, reduceCtorEq, ne_eq, String.reduceEq, not_false_eq_true, Bool.not_not, hwi, hi0, and_self, Int.cast_ofNat_Int, hwd, hd0, hb0, hnd]) ?_
            simp only [pack, refRead_found (pairs_drop i d hi0 hb0 hd0 hb1) hg hb2]
          · have hb2 := rb2
            try simp only [beq_iff_eq, bne_iff_ne, ne_eq, bne_eq_false_iff_eq, beq_eq_false_iff_ne, decide_eq_true_eq, decide_eq_false_iff_not, Bool.not_eq_true', Bool.not_eq_false', Bool.or_eq_true, Bool.and_eq_true, Bool.or_eq_false_iff, Bool.and_eq_false_iff] at hb2
            refine vwp_skip ?_
            apply_assumption
            refine vwp_region rfl ?_
            simp only [push_cast, hP, hnt, hgw, hgb, Nat.reduceLT, Nat.reduceEqDiff, Nat.reduceAdd, Nat.reduceSub, Nat.reduceMul, Nat.reduceLeDiff, reduceIte, reduceCtorEq, ne_eq, String.reduceEq, not_false_eq_true, Bool.not_not, hwi, hi0, and_self, Int.cast_ofNat_Int, hwd, hd0, hb0, hnd]
            refine hL2 _ _ _ ?_ ?_ ⟨d + 1, rfl, ?_, rfl⟩
            · omega
            · refine wk_conv hfull [] [((2, 0), (2, 0)), ((8, 0), (8, 0))] (by simp) (by simp) (by simp) ?_ ?_
              · refine hf_cons (by simp only [push_cast, hP, hnt, hgw, hgb, Nat.reduceLT, Nat.reduceEqDiff, Nat.reduceAdd, Nat.reduceSub, Nat.reduceMul, Nat.reduceLeDiff, reduceIte, reduceCtorEq, ne_eq, String.reduceEq, not_false_eq_true, Bool.not_not, hwi, hi0, and_self, Int.cast_ofNat_Int, hwd, hd0, hb0, hnd]; rfl) (by first | exact .one (.own (by simp)) | exact .one (.loc (by simp)) | exact ConvV.self (by simp only [push_cast, names8])) ?_
                refine hf_cons (by simp only [push_cast, hP, hnt, hgw, hgb, Nat.reduceLT, Nat.reduceEqDiff, Nat.reduceAdd, Nat.reduceSub, Nat.reduceMul, Nat.reduceLeDiff, reduceIte, reduceCtorEq, ne_eq, String.reduceEq, not_false_eq_true, Bool.not_not, hwi, hi0, and_self, Int.cast_ofNat_Int, hwd, hd0, hb0, hnd]; rfl) (by first | exact .one (.own (by simp)) | exact .one (.loc (by simp)) | exact ConvV.self (by simp only [push_cast, names8])) ?_
                refine hf_cons (by simp only [push_cast, hP, hnt, hgw, hgb, Nat.reduceLT, Nat.reduceEqDiff, Nat.reduceAdd, Nat.reduceSub, Nat.reduceMul, Nat.reduceLeDiff, reduceIte, reduceCtorEq, ne_eq, String.reduceEq, not_false_eq_true, Bool.not_not, hwi, hi0, and_self, Int.cast_ofNat_Int, hwd, hd0, hb0, hnd]; rfl) (by first | exact .one (.own (by simp)) | exact .one (.loc (by simp)) | exact ConvV.self (by simp only [push_cast, names8])) ?_
                refine hf_cons (by simp only [push_cast, hP, hnt, hgw, hgb, Nat.reduceLT, Nat.reduceEqDiff, Nat.reduceAdd, Nat.reduceSub, Nat.reduceMul, Nat.reduceLeDiff, reduceIte, reduceCtorEq, ne_eq, String.reduceEq, not_false_eq_true, Bool.not_not, hwi, hi0, and_self, Int.cast_ofNat_Int, hwd, hd0, hb0, hnd]; rfl) (by first | exact .one (.own (by simp)) | exact .one (.loc (by simp)) | exact ConvV.self (by simp only [push_cast, names8])) ?_
                refine hf_cons (by simp only [push_cast, hP, hnt, hgw, hgb, Nat.reduceLT, Nat.reduceEqDiff, Nat.reduceAdd, Nat.reduceSub, Nat.reduceMul, Nat.reduceLeDiff, reduceIte, reduceCtorEq, ne_eq, String.reduceEq, not_false_eq_true, Bool.not_not, hwi, hi0, and_self, Int.cast_ofNat_Int, hwd, hd0, hb0, hnd]; rfl) (by first | exact .one (.own (by simp)) | exact .one (.loc (by simp)) | exact ConvV.self (by simp only [push_cast, names8])) ?_
                refine hf_cons (by simp only [push_cast, hP, hnt, hgw, hgb, Nat.reduceLT, Nat.reduceEqDiff, Nat.reduceAdd, Nat.reduceSub, Nat.reduceMul, Nat.reduceLeDiff, reduceIte, reduceCtorEq, ne_eq, String.reduceEq, not_false_eq_true, Bool.not_not, hwi, hi0, and_self, Int.cast_ofNat_Int, hwd, hd0, hb0, hnd]; rfl) (by first | exact .one (.own (by simp)) | exact .one (.loc (by simp)) | exact ConvV.self (by simp only [push_cast, names8])) ?_
                exact hf_nil
              · refine hh_cons (i := (2, 0)) (by simp) (by simp) (by first | (simp only [push_cast, hP, hnt, hgw, hgb, Nat.reduceLT, Nat.reduceEqDiff, Nat.reduceAdd, Nat.reduceSub, Nat.reduceMul, Nat.reduceLeDiff, reduceIte, reduceCtorEq, ne_eq, String.reduceEq, not_false_eq_true, Bool.not_not, hwi, hi0, and_self, Int.cast_ofNat_Int, hwd, hd0, hb0, hnd]; rfl) | (simp only [push_cast, hP, hnt, hgw, hgb, Nat.reduceLT, Nat.reduceEqDiff, Nat.reduceAdd, Nat.reduceSub, Nat.reduceMul, Nat.reduceLeDiff, reduceIte, reduceCtorEq, ne_eq, String.reduceEq, not_false_eq_true, Bool.not_not, hwi, hi0, and_self, Int.cast_ofNat_Int, hwd, hd0, hb0, hnd]; done)) (ConvB.free (by simp only [push_cast, refReadF])) ?_
                refine hh_cons (i := (8, 0)) (by simp) (by simp) (by first | (simp only [push_cast, hP, hnt, hgw, hgb, Nat.reduceLT, Nat.reduceEqDiff, Nat.reduceAdd, Nat.reduceSub, Nat.reduceMul, Nat.reduceLeDiff, reduceIte, reduceCtorEq, ne_eq, String.reduceEq, not_false_eq_true, Bool.not_not, hwi, hi0, and_self, Int.cast_ofNat_Int, hwd, hd0, hb0, hnd]; rfl) | (simp only [push_cast, hP, hnt, hgw, hgb, Nat.reduceLT, Nat.reduceEqDiff, Nat.reduceAdd, Nat.reduceSub, Nat.reduceMul, Nat.reduceLeDiff, reduceIte, reduceCtorEq, ne_eq, String.reduceEq, not_false_eq_true, Bool.not_not, hwi, hi0, and_self, Int.cast_ofNat_Int, hwd, hd0, hb0, hnd]; done)) (ConvB.free (by simp only [push_cast, refReadF])) ?_
                exact hh_nil
            · exact ⟨by omega, by omega, by have h := refRead_next (pairs_drop i d hi0 hb0 hd0 hb1) hg (fun h => hb2.elim (· h.1) (· h.2)); rwa [show (d + 1).toNat = d.toNat + 1 by omega, ← Nat.add_assoc]⟩
        · have hb1 := rb1
          try simp only [beq_iff_eq, bne_iff_ne, ne_eq, bne_eq_false_iff_eq, beq_eq_false_iff_ne, decide_eq_true_eq, decide_eq_false_iff_not, Bool.not_eq_true', Bool.not_eq_false', Bool.or_eq_true, Bool.and_eq_true, Bool.or_eq_false_iff, Bool.and_eq_false_iff] at hb1
          refine vwp_exit ?_
          simp only [thenQ, blockQ, Nat.reduceEqDiff, reduceIte]
          apply_assumption
          refine vwp_region rfl ?_
          simp only [push_cast, hP, hnt, hgw, hgb, Nat.reduceLT, Nat.reduceEqDiff, Nat.reduceAdd, Nat.reduceSub, Nat.reduceMul, Nat.reduceLeDiff, reduceIte, reduceCtorEq, ne_eq, String.reduceEq, not_false_eq_true, Bool.not_not, hwi, hi0, and_self, Int.cast_ofNat_Int, hwd, hd0, hb0, hnd]
          refine hL0 _ _ _ ?_ ?_ ⟨i + 1, rfl, ?_, rfl⟩
          · omega
          · refine wk_conv hfull [] [((2, 0), (2, 0)), ((8, 0), (8, 0))] (by simp) (by simp) (by simp) ?_ ?_
            · refine hf_cons (by simp only [push_cast, hP, hnt, hgw, hgb, Nat.reduceLT, Nat.reduceEqDiff, Nat.reduceAdd, Nat.reduceSub, Nat.reduceMul, Nat.reduceLeDiff, reduceIte, reduceCtorEq, ne_eq, String.reduceEq, not_false_eq_true, Bool.not_not, hwi, hi0, and_self, Int.cast_ofNat_Int, hwd, hd0, hb0, hnd]; rfl) (by first | exact .one (.own (by simp)) | exact .one (.loc (by simp)) | exact ConvV.self (by simp only [push_cast, names8])) ?_
              refine hf_cons (by simp only [push_cast, hP, hnt, hgw, hgb, Nat.reduceLT, Nat.reduceEqDiff, Nat.reduceAdd, Nat.reduceSub, Nat.reduceMul, Nat.reduceLeDiff, reduceIte, reduceCtorEq, ne_eq, String.reduceEq, not_false_eq_true, Bool.not_not, hwi, hi0, and_self, Int.cast_ofNat_Int, hwd, hd0, hb0, hnd]; rfl) (by first | exact .one (.own (by simp)) | exact .one (.loc (by simp)) | exact ConvV.self (by simp only [push_cast, names8])) ?_
              refine hf_cons (by simp only [push_cast, hP, hnt, hgw, hgb, Nat.reduceLT, Nat.reduceEqDiff, Nat.reduceAdd, Nat.reduceSub, Nat.reduceMul, Nat.reduceLeDiff, reduceIte, reduceCtorEq, ne_eq, String.reduceEq, not_false_eq_true, Bool.not_not, hwi, hi0, and_self, Int.cast_ofNat_Int, hwd, hd0, hb0, hnd]; rfl) (by first | exact .one (.own (by simp)) | exact .one (.loc (by simp)) | exact ConvV.self (by simp only [push_cast, names8])) ?_
              refine hf_cons (by simp only [push_cast, hP, hnt, hgw, hgb, Nat.reduceLT, Nat.reduceEqDiff, Nat.reduceAdd, Nat.reduceSub, Nat.reduceMul, Nat.reduceLeDiff, reduceIte, reduceCtorEq, ne_eq, String.reduceEq, not_false_eq_true, Bool.not_not, hwi, hi0, and_self, Int.cast_ofNat_Int, hwd, hd0, hb0, hnd]; rfl) (by first | exact .one (.own (by simp)) | exact .one (.loc (by simp)) | exact ConvV.self (by simp only [push_cast, names8])) ?_
              refine hf_cons (by simp only [push_cast, hP, hnt, hgw, hgb, Nat.reduceLT, Nat.reduceEqDiff, Nat.reduceAdd, Nat.reduceSub, Nat.reduceMul, Nat.reduceLeDiff, reduceIte, reduceCtorEq, ne_eq, String.reduceEq, not_false_eq_true, Bool.not_not, hwi, hi0, and_self, Int.cast_ofNat_Int, hwd, hd0, hb0, hnd]; rfl) (by first | exact .one (.own (by simp)) | exact .one (.loc (by simp)) | exact ConvV.self (by simp only [push_cast, names8])) ?_
              exact hf_nil
            · refine hh_cons (i := (2, 0)) (by simp) (by simp) (by first | (simp only [push_cast, hP, hnt, hgw, hgb, Nat.reduceLT, Nat.reduceEqDiff, Nat.reduceAdd, Nat.reduceSub, Nat.reduceMul, Nat.reduceLeDiff, reduceIte, reduceCtorEq, ne_eq, String.reduceEq, not_false_eq_true, Bool.not_not, hwi, hi0, and_self, Int.cast_ofNat_Int, hwd, hd0, hb0, hnd]; rfl) | (simp only [push_cast, hP, hnt, hgw, hgb, Nat.reduceLT, Nat.reduceEqDiff, Nat.reduceAdd, Nat.reduceSub, Nat.reduceMul, Nat.reduceLeDiff, reduceIte, reduceCtorEq, ne_eq, String.reduceEq, not_false_eq_true, Bool.not_not, hwi, hi0, and_self, Int.cast_ofNat_Int, hwd, hd0, hb0, hnd]; done)) (ConvB.free (by simp only [push_cast, refReadF])) ?_
              refine hh_cons (i := (8, 0)) (by simp) (by simp) (by first | (simp only [push_cast, hP, hnt, hgw, hgb, Nat.reduceLT, Nat.reduceEqDiff, Nat.reduceAdd, Nat.reduceSub, Nat.reduceMul, Nat.reduceLeDiff, reduceIte, reduceCtorEq, ne_eq, String.reduceEq, not_false_eq_true, Bool.not_not, hwi, hi0, and_self, Int.cast_ofNat_Int, hwd, hd0, hb0, hnd]; rfl) | (simp only [push_cast, hP, hnt, hgw, hgb, Nat.reduceLT, Nat.reduceEqDiff, Nat.reduceAdd, Nat.reduceSub, Nat.reduceMul, Nat.reduceLeDiff, reduceIte, reduceCtorEq, ne_eq, String.reduceEq, not_false_eq_true, Bool.not_not, hwi, hi0, and_self, Int.cast_ofNat_Int, hwd, hd0, hb0, hnd]; done)) (ConvB.free (by simp only [push_cast, refReadF])) ?_
              exact hh_nil
          · exact ⟨by omega, by omega, by have h := hg; rwa [show 10 * i.toNat + d.toNat = 10 * (i + 1).toNat by omega] at h⟩
    · have hb0 := rb0
      try simp only [beq_iff_eq, bne_iff_ne, ne_eq, bne_eq_false_iff_eq, beq_eq_false_iff_ne, decide_eq_true_eq, decide_eq_false_iff_not, Bool.not_eq_true', Bool.not_eq_false', Bool.or_eq_true, Bool.and_eq_true, Bool.or_eq_false_iff, Bool.and_eq_false_iff] at hb0
      refine vwp_exit ?_
      simp only [thenQ, blockQ, Nat.reduceEqDiff, reduceIte]
      apply_assumption
      refine vwp_seq_region rfl fun K hK => ?_
      simp only [push_cast, hP, hnt, hgw, hgb, Nat.reduceLT, Nat.reduceEqDiff, Nat.reduceAdd, Nat.reduceSub, Nat.reduceMul, Nat.reduceLeDiff, reduceIte, reduceCtorEq, ne_eq, String.reduceEq, not_false_eq_true, Bool.not_not, hwi, hi0, and_self, Int.cast_ofNat_Int]
      refine hK _ ?_; clear hK
      refine vwp_ret ?_
      refine ret_free (by simp only [push_cast, hP, hnt, hgw, hgb, Nat.reduceLT, Nat.reduceEqDiff, Nat.reduceAdd, Nat.reduceSub, Nat.reduceMul, Nat.reduceLeDiff, reduceIte, reduceCtorEq, ne_eq, String.reduceEq, not_false_eq_true, Bool.not_not, hwi, hi0, and_self, Int.cast_ofNat_Int]; rfl) (by simp only [push_cast, hP, hnt, hgw, hgb, Nat.reduceLT, Nat.reduceEqDiff, Nat.reduceAdd, Nat.reduceSub, Nat.reduceMul, Nat.reduceLeDiff, reduceIte, reduceCtorEq, ne_eq, String.reduceEq, not_false_eq_true, Bool.not_not, hwi, hi0, and_self, Int.cast_ofNat_Int]) ?_
      simp only [pack, refRead_none hb0 hi8 hf]
end Go.Vm
