/-
  Walks of the program's functions by the framework, and what they compute (PtAK). Conditions: each theorem's own premises. By an AI agent.
-/
import Derived.Test.YtnpbndglolcilaaDoorPtAJ
import Derived.Test.YtnpbndglolcilaaDoorPtAH
import Derived.Lib.ConvBytes
import Derived.Test.YtnpbndglolcilaaDoorVmAG
import Derived.Shelf.Strings.Builder1
import Derived.Lib.SplitLaws
import Derived.Lib.AppendIntMem
import Derived.Lib.ItoaLen
section
namespace Go.Vm
open Go Go.RowKit Go.Proofs
set_option maxRecDepth 100000
set_option linter.unusedSimpArgs false
set_option linter.unusedVariables false
set_option maxHeartbeats 4000000

theorem bytes_ext {a b : ByteArray} (h : a.toList = b.toList) : a = b := by
  rw [ByteArray.toList_eq, ByteArray.toList_eq] at h
  obtain ⟨a⟩ := a
  obtain ⟨b⟩ := b
  congr 1
  exact Array.toList_inj.1 h
theorem refCheckF_ok {n : ByteArray} {k : Int} (h : refCheckF n k = 0) : n.size ≤ 9 := by
  unfold refCheckF at h
  split at h
  · rename_i hc
    rcases hc with hc | hc | hc | hc | hc | hc <;> (rw [bytes_ext hc]; decide)
  · split at h
    · rename_i hc; rw [bytes_ext hc]; decide
    · split at h
      · rename_i hc; rw [bytes_ext hc]; decide
      · cases h
def refPairs : List (ByteArray × Int) := names8.flatMap fun n => [(n, 0), (n, 1), (n, 2), (n, 3), (n, 4), (n, 5), (n, 6), (n, 7), (n, 8), (n, 9)]
def refHit (s : ByteArray) (p : ByteArray × Int) : Bool := (refCheckF p.1 p.2 == 0) && ((writtenF p.1 p.2).toList == s.toList)
def refReadF (s : ByteArray) : ByteArray × Int × Int :=
  match refPairs.find? (refHit s) with
  | some p => (p.1, p.2, 0)
  | none => (⟨#[]⟩, 0, 12)
def nameAt (i : Int) : ByteArray := names8.getD i.toNat ⟨#[]⟩
theorem names_drop (i : Int) (h0 : 0 ≤ i) (h1 : i < 8) : List.drop (i.toNat * 1) (names8.map fun s => PC.c (Value.string s)) = PC.c (Value.string (nameAt i)) :: List.drop (i.toNat + 1) (names8.map fun s => PC.c (Value.string s)) := by
  have hl : i.toNat < (names8.map fun s => PC.c (Value.string s)).length := by simp [names8]; omega
  rw [Nat.mul_one, List.drop_eq_getElem_cons hl]
  simp [nameAt, List.getD, List.getElem?_eq_getElem (show i.toNat < names8.length by simpa using hl)]
theorem nameAt_size (i : Int) : (nameAt i).size ≤ 9 := by
  unfold nameAt
  by_cases h : i.toNat < names8.length
  · have : names8.getD i.toNat ⟨#[]⟩ ∈ names8 := by
      rw [List.getD, List.getElem?_eq_getElem h]; simp
    exact names8_size _ ((Lib.containsS_iff _ _).2 this)
  · rw [List.getD, List.getElem?_eq_none (by omega)]; decide
theorem pairs_dropN : ∀ i, i < 8 → ∀ d, d < 10 → refPairs.drop (10 * i + d) = (names8.getD i ⟨#[]⟩, (d : Int)) :: refPairs.drop (10 * i + d + 1) := by
  decide
theorem pairs_drop (i d : Int) (h0 : 0 ≤ i) (h1 : i < 8) (h2 : 0 ≤ d) (h3 : d < 10) : refPairs.drop (10 * i.toNat + d.toNat) = (nameAt i, d) :: refPairs.drop (10 * i.toNat + d.toNat + 1) := by
  have := pairs_dropN i.toNat (by omega) d.toNat (by omega)
  rw [Int.toNat_of_nonneg h2] at this
  exact this
theorem refRead_found {s n : ByteArray} {d : Int} {k : Nat} {t : List (ByteArray × Int)} (hd : refPairs.drop k = (n, d) :: t) (hf : (refPairs.drop k).find? (refHit s) = refPairs.find? (refHit s)) (hp : refCheckF n d = 0 ∧ (writtenF n d).toList = s.toList) : refReadF s = (n, d, 0) := by
  unfold refReadF
  rw [← hf, hd, List.find?_cons_of_pos (by simp [refHit, hp.1, hp.2])]
theorem refRead_next {s n : ByteArray} {d : Int} {k : Nat} (hd : refPairs.drop k = (n, d) :: refPairs.drop (k + 1)) (hf : (refPairs.drop k).find? (refHit s) = refPairs.find? (refHit s)) (hp : ¬ (refCheckF n d = 0 ∧ (writtenF n d).toList = s.toList)) : (refPairs.drop (k + 1)).find? (refHit s) = refPairs.find? (refHit s) := by
  rw [← hf, hd, List.find?_cons_of_neg (by simpa [refHit] using hp)]
theorem refRead_none {s : ByteArray} {i : Int} (hi : ¬ i < 8) (hi' : i ≤ 8) (hf : (refPairs.drop (10 * i.toNat)).find? (refHit s) = refPairs.find? (refHit s)) : refReadF s = (⟨#[]⟩, 0, 12) := by
  have : i = 8 := by omega
  subst this
  unfold refReadF
  rw [← hf, List.drop_eq_nil_of_le (by decide)]
  rfl

theorem refRead_call (gw : World) (gb : Nat) (s : ByteArray) : VCall Tryd.prog gw (gb) 11 [.one (.c (.string s))] (.tup [.agg [.c (.string (refReadF s).1), .c (.int .i64 (refReadF s).2.1)], .one (.c (.int .i64 (refReadF s).2.2))]) [] := by
  refine vcall_of [.cell 2 23, .tmp 3] Tryd.func11 rfl rfl Tryd.ntmps11 rfl (by simp) ?_
  intro C hP hnt hgw hgb hfull
  refine vwp_seq_region rfl fun K hK => ?_
  simp (dsimp := false) only [push_cast, hP, hnt, hgw, hgb, Int.reduceLE, Int.reduceLT, Nat.reduceLT, Nat.reduceEqDiff, Nat.reduceAdd, Nat.reduceSub, Nat.reduceMul, Nat.reduceLeDiff, ↓reduceIte, reduceCtorEq, String.reduceEq]
  refine hK _ ?_; clear hK
  refine vwp_seq_region rfl fun K hK => ?_
  simp (dsimp := false) only [push_cast, hP, hnt, hgw, hgb, Int.reduceLE, Int.reduceLT, Nat.reduceLT, Nat.reduceEqDiff, Nat.reduceAdd, Nat.reduceSub, Nat.reduceMul, Nat.reduceLeDiff, ↓reduceIte, reduceCtorEq, String.reduceEq]
  refine .inl (callE_intro (refNames_call gw gb) (.inl ⟨rfl, rfl⟩) ?_)
  simp (dsimp := false) only [push_cast, hP, hnt, hgw, hgb, Int.reduceLE, Int.reduceLT, Nat.reduceLT, Nat.reduceEqDiff, Nat.reduceAdd, Nat.reduceSub, Nat.reduceMul, Nat.reduceLeDiff, ↓reduceIte, reduceCtorEq, String.reduceEq]
  refine hK _ ?_; clear hK
  refine vwp_seq fun K hK => ?_
  refine vwp_seq_region rfl fun K hK => ?_
  simp (dsimp := false) only [push_cast, hP, hnt, hgw, hgb, Int.reduceLE, Int.reduceLT, Nat.reduceLT, Nat.reduceEqDiff, Nat.reduceAdd, Nat.reduceSub, Nat.reduceMul, Nat.reduceLeDiff, ↓reduceIte, reduceCtorEq, String.reduceEq]
  refine hK _ ?_; clear hK
  refine vwp_block ?_
  refine vwp_loop (fun m σ => ∃ (i : Int), m = (8 - i).toNat ∧ ((0 ≤ i) ∧ (i ≤ 8) ∧ ((refPairs.drop (10 * i.toNat)).find? (refHit s) = refPairs.find? (refHit s))) ∧ σ = St.of [(0, .one (.c (.string s))), (2, .one (.loc (3, 0) 0)), (3, .one (.c (.int .i64 0))), (4, .one (.own (9, 0))), (5, .one (.c (.int .i64 i)))] [((3, 0), .box 23 [.c (.string ⟨#[]⟩), .c (.int .i64 0)]), ((9, 0), .arr 9 1 8 (names8.map fun s => .c (.string s)))] [2, 8]) _ ⟨_, ?_, 0, rfl, ?_, rfl⟩ ?_
  · refine wk_conv [] [((3, 0), (3, 0)), ((9, 0), (9, 0))] (by simp) (by simp) (by decide) ?_ ?_
    · refine hf_cons (by simp (dsimp := false) only [push_cast, ↓reduceIte, Nat.reduceEqDiff, Nat.reduceAdd, reduceCtorEq] <;> rfl) (by exact ConvV.self rfl) ?_
      refine hf_cons (by simp (dsimp := false) only [push_cast, ↓reduceIte, Nat.reduceEqDiff, Nat.reduceAdd, reduceCtorEq] <;> rfl) (by exact .one (.loc (by simp))) ?_
      refine hf_cons (by simp (dsimp := false) only [push_cast, ↓reduceIte, Nat.reduceEqDiff, Nat.reduceAdd, reduceCtorEq] <;> rfl) (by exact ConvV.self rfl) ?_
      refine hf_cons (by simp (dsimp := false) only [push_cast, ↓reduceIte, Nat.reduceEqDiff, Nat.reduceAdd, reduceCtorEq] <;> rfl) (by exact .one (.own (by simp))) ?_
      refine hf_cons (by simp (dsimp := false) only [push_cast, ↓reduceIte, Nat.reduceEqDiff, Nat.reduceAdd, reduceCtorEq] <;> rfl) (by exact ConvV.self rfl) ?_
      exact hf_nil
    · refine hh_cons (i := (3, 0)) (by simp) (by simp) (by simp (dsimp := false) only [push_cast, ↓reduceIte, Nat.reduceEqDiff, Nat.reduceAdd, reduceCtorEq] <;> rfl) (by first | (refine ConvB.free ?_; simp only [push_cast, refReadF]; done) | (refine ConvB.box ?_; repeat' (first | exact ConvVs.nil | exact ConvL.nil | refine ConvV.tup ?_ | refine ConvVs.cons ?_ ?_ | (refine ConvV.self ?_; simp only [push_cast, refReadF]; done) | refine ConvV.one ?_ | refine ConvV.agg ?_ | (refine ConvL.free ?_; simp only [push_cast, refReadF]; done) | refine ConvL.append ?_ ?_ | refine ConvL.cons ?_ ?_ | exact Conv.free rfl | exact Conv.nil | (refine Conv.own ?_; simp; done) | (refine Conv.loc ?_; simp; done) | refine Conv.frz (by simp) (by simp (dsimp := false) only [push_cast, ↓reduceIte, Nat.reduceEqDiff, Nat.reduceAdd, reduceCtorEq] <;> rfl) ?_ | refine Conv.sl (by simp) ?_ | refine Conv.fn ?_))) ?_
      refine hh_cons (i := (9, 0)) (by simp) (by simp) (by simp (dsimp := false) only [push_cast, ↓reduceIte, Nat.reduceEqDiff, Nat.reduceAdd, reduceCtorEq] <;> rfl) (by first | (refine ConvB.free ?_; simp only [push_cast, refReadF]; done) | (refine ConvB.arr ?_; repeat' (first | exact ConvVs.nil | exact ConvL.nil | refine ConvV.tup ?_ | refine ConvVs.cons ?_ ?_ | (refine ConvV.self ?_; simp only [push_cast, refReadF]; done) | refine ConvV.one ?_ | refine ConvV.agg ?_ | (refine ConvL.free ?_; simp only [push_cast, refReadF]; done) | refine ConvL.append ?_ ?_ | refine ConvL.cons ?_ ?_ | exact Conv.free rfl | exact Conv.nil | (refine Conv.own ?_; simp; done) | (refine Conv.loc ?_; simp; done) | refine Conv.frz (by simp) (by simp (dsimp := false) only [push_cast, ↓reduceIte, Nat.reduceEqDiff, Nat.reduceAdd, reduceCtorEq] <;> rfl) ?_ | refine Conv.sl (by simp) ?_ | refine Conv.fn ?_))) ?_
      exact hh_nil
  · exact ⟨by omega, by omega, rfl⟩
  · rintro m τ ⟨i, hm, ⟨hi0, hi8, hf⟩, rfl⟩ K hL0
    have hwi : IntKind.wrap .i64 (i + 1) = i + 1 := by rw [IntKind.wrap_i64]; omega
    refine vwp_seq fun K hK => ?_
    refine vwp_seq_region rfl fun K hK => ?_
    simp (dsimp := false) only [push_cast, hP, hnt, hgw, hgb, Int.reduceLE, Int.reduceLT, Nat.reduceLT, Nat.reduceEqDiff, Nat.reduceAdd, Nat.reduceSub, Nat.reduceMul, Nat.reduceLeDiff, ↓reduceIte, reduceCtorEq, String.reduceEq, hwi, hi0, and_self, Int.cast_ofNat_Int]
    refine hK _ ?_; clear hK
    refine vwp_cond (b := _) (by simp (dsimp := false) only [push_cast, hP, hnt, hgw, hgb, Int.reduceLE, Int.reduceLT, Nat.reduceLT, Nat.reduceEqDiff, Nat.reduceAdd, Nat.reduceSub, Nat.reduceMul, Nat.reduceLeDiff, ↓reduceIte, reduceCtorEq, String.reduceEq, hwi, hi0, and_self, Int.cast_ofNat_Int]; rfl) (fun rb0 => ?_) (fun rb0 => ?_)
    · have hb0 := rb0
      try simp only [beq_iff_eq, bne_iff_ne, ne_eq, bne_eq_false_iff_eq, beq_eq_false_iff_ne, decide_eq_true_eq, decide_eq_false_iff_not, Bool.not_eq_true', Bool.not_eq_false', Bool.or_eq_true, Bool.and_eq_true, Bool.or_eq_false_iff, Bool.and_eq_false_iff] at hb0
      refine vwp_skip ?_
      apply_assumption
      refine vwp_seq fun K hK => ?_
      refine vwp_block ?_
      refine vwp_seq_region rfl fun K hK => ?_
      simp (dsimp := false) only [push_cast, hP, hnt, hgw, hgb, Int.reduceLE, Int.reduceLT, Nat.reduceLT, Nat.reduceEqDiff, Nat.reduceAdd, Nat.reduceSub, Nat.reduceMul, Nat.reduceLeDiff, ↓reduceIte, reduceCtorEq, String.reduceEq, hwi, hi0, and_self, Int.cast_ofNat_Int]
      refine hK _ ?_; clear hK
      refine vwp_block ?_
      refine vwp_loop (fun m σ => ∃ (d : Int), m = (10 - d).toNat ∧ ((0 ≤ d) ∧ (d ≤ 10) ∧ ((refPairs.drop (10 * i.toNat + d.toNat)).find? (refHit s) = refPairs.find? (refHit s))) ∧ σ = St.of [(0, .one (.c (.string s))), (2, .one (.loc (3, 0) 0)), (3, .one (.c (.int .i64 0))), (4, .one (.own (9, 0))), (5, .one (.c (.int .i64 i))), (6, .one (.c (.int .i64 d)))] [((3, 0), .box 23 [.c (.string ⟨#[]⟩), .c (.int .i64 0)]), ((9, 0), .arr 9 1 8 (names8.map fun s => .c (.string s)))] [2, 8]) _ ⟨_, ?_, 0, rfl, ?_, rfl⟩ ?_
      · refine wk_conv [] [((3, 0), (3, 0)), ((9, 0), (9, 0))] (by simp) (by simp) (by decide) ?_ ?_
        · refine hf_cons (by simp (dsimp := false) only [push_cast, ↓reduceIte, Nat.reduceEqDiff, Nat.reduceAdd, reduceCtorEq, hwi, hi0, and_self, Int.cast_ofNat_Int] <;> rfl) (by exact ConvV.self rfl) ?_
          refine hf_cons (by simp (dsimp := false) only [push_cast, ↓reduceIte, Nat.reduceEqDiff, Nat.reduceAdd, reduceCtorEq, hwi, hi0, and_self, Int.cast_ofNat_Int] <;> rfl) (by exact .one (.loc (by simp))) ?_
          refine hf_cons (by simp (dsimp := false) only [push_cast, ↓reduceIte, Nat.reduceEqDiff, Nat.reduceAdd, reduceCtorEq, hwi, hi0, and_self, Int.cast_ofNat_Int] <;> rfl) (by exact ConvV.self rfl) ?_
          refine hf_cons (by simp (dsimp := false) only [push_cast, ↓reduceIte, Nat.reduceEqDiff, Nat.reduceAdd, reduceCtorEq, hwi, hi0, and_self, Int.cast_ofNat_Int] <;> rfl) (by exact .one (.own (by simp))) ?_
          refine hf_cons (by simp (dsimp := false) only [push_cast, ↓reduceIte, Nat.reduceEqDiff, Nat.reduceAdd, reduceCtorEq, hwi, hi0, and_self, Int.cast_ofNat_Int] <;> rfl) (by exact ConvV.self rfl) ?_
          refine hf_cons (by simp (dsimp := false) only [push_cast, ↓reduceIte, Nat.reduceEqDiff, Nat.reduceAdd, reduceCtorEq, hwi, hi0, and_self, Int.cast_ofNat_Int] <;> rfl) (by exact ConvV.self rfl) ?_
          exact hf_nil
        · refine hh_cons (i := (3, 0)) (by simp) (by simp) (by simp (dsimp := false) only [push_cast, ↓reduceIte, Nat.reduceEqDiff, Nat.reduceAdd, reduceCtorEq, hwi, hi0, and_self, Int.cast_ofNat_Int] <;> rfl) (by first | (refine ConvB.free ?_; simp only [push_cast, refReadF]; done) | (refine ConvB.box ?_; repeat' (first | exact ConvVs.nil | exact ConvL.nil | refine ConvV.tup ?_ | refine ConvVs.cons ?_ ?_ | (refine ConvV.self ?_; simp only [push_cast, refReadF]; done) | refine ConvV.one ?_ | refine ConvV.agg ?_ | (refine ConvL.free ?_; simp only [push_cast, refReadF]; done) | refine ConvL.append ?_ ?_ | refine ConvL.cons ?_ ?_ | exact Conv.free rfl | exact Conv.nil | (refine Conv.own ?_; simp; done) | (refine Conv.loc ?_; simp; done) | refine Conv.frz (by simp) (by simp (dsimp := false) only [push_cast, ↓reduceIte, Nat.reduceEqDiff, Nat.reduceAdd, reduceCtorEq, hwi, hi0, and_self, Int.cast_ofNat_Int] <;> rfl) ?_ | refine Conv.sl (by simp) ?_ | refine Conv.fn ?_))) ?_
          refine hh_cons (i := (9, 0)) (by simp) (by simp) (by simp (dsimp := false) only [push_cast, ↓reduceIte, Nat.reduceEqDiff, Nat.reduceAdd, reduceCtorEq, hwi, hi0, and_self, Int.cast_ofNat_Int] <;> rfl) (by first | (refine ConvB.free ?_; simp only [push_cast, refReadF]; done) | (refine ConvB.arr ?_; repeat' (first | exact ConvVs.nil | exact ConvL.nil | refine ConvV.tup ?_ | refine ConvVs.cons ?_ ?_ | (refine ConvV.self ?_; simp only [push_cast, refReadF]; done) | refine ConvV.one ?_ | refine ConvV.agg ?_ | (refine ConvL.free ?_; simp only [push_cast, refReadF]; done) | refine ConvL.append ?_ ?_ | refine ConvL.cons ?_ ?_ | exact Conv.free rfl | exact Conv.nil | (refine Conv.own ?_; simp; done) | (refine Conv.loc ?_; simp; done) | refine Conv.frz (by simp) (by simp (dsimp := false) only [push_cast, ↓reduceIte, Nat.reduceEqDiff, Nat.reduceAdd, reduceCtorEq, hwi, hi0, and_self, Int.cast_ofNat_Int] <;> rfl) ?_ | refine Conv.sl (by simp) ?_ | refine Conv.fn ?_))) ?_
          exact hh_nil
      · exact ⟨by omega, by omega, hf⟩
      · rintro m τ ⟨d, hm, ⟨hd0, hd10, hg⟩, rfl⟩ K hL2
        have hwd : IntKind.wrap .i64 (d + 1) = d + 1 := by rw [IntKind.wrap_i64]; omega
        have hnd := names_drop i hi0 hb0
        refine vwp_seq fun K hK => ?_
        refine vwp_seq_region rfl fun K hK => ?_
        simp (dsimp := false) only [push_cast, hP, hnt, hgw, hgb, Int.reduceLE, Int.reduceLT, Nat.reduceLT, Nat.reduceEqDiff, Nat.reduceAdd, Nat.reduceSub, Nat.reduceMul, Nat.reduceLeDiff, ↓reduceIte, reduceCtorEq, String.reduceEq, hwi, hi0, and_self, Int.cast_ofNat_Int, hwd, hd0, hb0, hnd]
        refine hK _ ?_; clear hK
        refine vwp_cond (b := _) (by simp (dsimp := false) only [push_cast, hP, hnt, hgw, hgb, Int.reduceLE, Int.reduceLT, Nat.reduceLT, Nat.reduceEqDiff, Nat.reduceAdd, Nat.reduceSub, Nat.reduceMul, Nat.reduceLeDiff, ↓reduceIte, reduceCtorEq, String.reduceEq, hwi, hi0, and_self, Int.cast_ofNat_Int, hwd, hd0, hb0, hnd]; rfl) (fun rb1 => ?_) (fun rb1 => ?_)
        · have hb1 := rb1
          try simp only [beq_iff_eq, bne_iff_ne, ne_eq, bne_eq_false_iff_eq, beq_eq_false_iff_ne, decide_eq_true_eq, decide_eq_false_iff_not, Bool.not_eq_true', Bool.not_eq_false', Bool.or_eq_true, Bool.and_eq_true, Bool.or_eq_false_iff, Bool.and_eq_false_iff] at hb1
          refine vwp_skip ?_
          apply_assumption
          refine vwp_seq fun K hK => ?_
          refine vwp_block ?_
          refine vwp_seq_region rfl fun K hK => ?_
          simp (dsimp := false) only [push_cast, hP, hnt, hgw, hgb, Int.reduceLE, Int.reduceLT, Nat.reduceLT, Nat.reduceEqDiff, Nat.reduceAdd, Nat.reduceSub, Nat.reduceMul, Nat.reduceLeDiff, ↓reduceIte, reduceCtorEq, String.reduceEq, hwi, hi0, and_self, Int.cast_ofNat_Int, hwd, hd0, hb0, hnd]
          refine hK _ ?_; clear hK
          refine vwp_seq_regionG fun K hK => ?_
          simp (dsimp := false) only [push_cast, hP, hnt, hgw, hgb, Int.reduceLE, Int.reduceLT, Nat.reduceLT, Nat.reduceEqDiff, Nat.reduceAdd, Nat.reduceSub, Nat.reduceMul, Nat.reduceLeDiff, ↓reduceIte, reduceCtorEq, String.reduceEq, hwi, hi0, and_self, Int.cast_ofNat_Int, hwd, hd0, hb0, hnd]
          refine .inl (callE_intro (refCheck_call gw gb _ _) (.inl ⟨rfl, rfl⟩) ?_)
          simp (dsimp := false) only [push_cast, hP, hnt, hgw, hgb, Int.reduceLE, Int.reduceLT, Nat.reduceLT, Nat.reduceEqDiff, Nat.reduceAdd, Nat.reduceSub, Nat.reduceMul, Nat.reduceLeDiff, ↓reduceIte, reduceCtorEq, String.reduceEq, hwi, hi0, and_self, Int.cast_ofNat_Int, hwd, hd0, hb0, hnd]
          refine guardR_may (by simp (dsimp := false) only [push_cast, hP, hnt, hgw, hgb, Int.reduceLE, Int.reduceLT, Nat.reduceLT, Nat.reduceEqDiff, Nat.reduceAdd, Nat.reduceSub, Nat.reduceMul, Nat.reduceLeDiff, ↓reduceIte, reduceCtorEq, String.reduceEq, hwi, hi0, and_self, Int.cast_ofNat_Int, hwd, hd0, hb0, hnd, List.getElem?_cons_zero, List.getElem?_cons_succ]; rfl) ?_
          simp (dsimp := false) only [push_cast, hP, hnt, hgw, hgb, Int.reduceLE, Int.reduceLT, Nat.reduceLT, Nat.reduceEqDiff, Nat.reduceAdd, Nat.reduceSub, Nat.reduceMul, Nat.reduceLeDiff, ↓reduceIte, reduceCtorEq, String.reduceEq, hwi, hi0, and_self, Int.cast_ofNat_Int, hwd, hd0, hb0, hnd]
          refine guardR_may (by simp (dsimp := false) only [push_cast, hP, hnt, hgw, hgb, Int.reduceLE, Int.reduceLT, Nat.reduceLT, Nat.reduceEqDiff, Nat.reduceAdd, Nat.reduceSub, Nat.reduceMul, Nat.reduceLeDiff, ↓reduceIte, reduceCtorEq, String.reduceEq, hwi, hi0, and_self, Int.cast_ofNat_Int, hwd, hd0, hb0, hnd, List.getElem?_cons_zero, List.getElem?_cons_succ]; rfl) ?_
          simp (dsimp := false) only [push_cast, hP, hnt, hgw, hgb, Int.reduceLE, Int.reduceLT, Nat.reduceLT, Nat.reduceEqDiff, Nat.reduceAdd, Nat.reduceSub, Nat.reduceMul, Nat.reduceLeDiff, ↓reduceIte, reduceCtorEq, String.reduceEq, hwi, hi0, and_self, Int.cast_ofNat_Int, hwd, hd0, hb0, hnd]
          refine callE_intro (refWritten_call gw gb _ _ (nameAt_size i)) (.inl ⟨rfl, rfl⟩) ?_
          refine ⟨rfl, ?_⟩
          simp (dsimp := false) only [push_cast, hP, hnt, hgw, hgb, Int.reduceLE, Int.reduceLT, Nat.reduceLT, Nat.reduceEqDiff, Nat.reduceAdd, Nat.reduceSub, Nat.reduceMul, Nat.reduceLeDiff, ↓reduceIte, reduceCtorEq, String.reduceEq, hwi, hi0, and_self, Int.cast_ofNat_Int, hwd, hd0, hb0, hnd]
          refine guardR_may (by simp (dsimp := false) only [push_cast, hP, hnt, hgw, hgb, Int.reduceLE, Int.reduceLT, Nat.reduceLT, Nat.reduceEqDiff, Nat.reduceAdd, Nat.reduceSub, Nat.reduceMul, Nat.reduceLeDiff, ↓reduceIte, reduceCtorEq, String.reduceEq, hwi, hi0, and_self, Int.cast_ofNat_Int, hwd, hd0, hb0, hnd, List.getElem?_cons_zero, List.getElem?_cons_succ]; rfl) ?_
          simp (dsimp := false) only [push_cast, hP, hnt, hgw, hgb, Int.reduceLE, Int.reduceLT, Nat.reduceLT, Nat.reduceEqDiff, Nat.reduceAdd, Nat.reduceSub, Nat.reduceMul, Nat.reduceLeDiff, ↓reduceIte, reduceCtorEq, String.reduceEq, hwi, hi0, and_self, Int.cast_ofNat_Int, hwd, hd0, hb0, hnd]
          refine guardR_may (by simp (dsimp := false) only [push_cast, hP, hnt, hgw, hgb, Int.reduceLE, Int.reduceLT, Nat.reduceLT, Nat.reduceEqDiff, Nat.reduceAdd, Nat.reduceSub, Nat.reduceMul, Nat.reduceLeDiff, ↓reduceIte, reduceCtorEq, String.reduceEq, hwi, hi0, and_self, Int.cast_ofNat_Int, hwd, hd0, hb0, hnd, List.getElem?_cons_zero, List.getElem?_cons_succ]; rfl) ?_
          simp (dsimp := false) only [push_cast, hP, hnt, hgw, hgb, Int.reduceLE, Int.reduceLT, Nat.reduceLT, Nat.reduceEqDiff, Nat.reduceAdd, Nat.reduceSub, Nat.reduceMul, Nat.reduceLeDiff, ↓reduceIte, reduceCtorEq, String.reduceEq, hwi, hi0, and_self, Int.cast_ofNat_Int, hwd, hd0, hb0, hnd]
          refine hK _ ?_; clear hK
          refine vwp_cond (b := _) (by simp (dsimp := false) only [push_cast, hP, hnt, hgw, hgb, Int.reduceLE, Int.reduceLT, Nat.reduceLT, Nat.reduceEqDiff, Nat.reduceAdd, Nat.reduceSub, Nat.reduceMul, Nat.reduceLeDiff, ↓reduceIte, reduceCtorEq, String.reduceEq, hwi, hi0, and_self, Int.cast_ofNat_Int, hwd, hd0, hb0, hnd]; rfl) (fun rb2 => ?_) (fun rb2 => ?_)
          · have hb2 := rb2
            try simp only [beq_iff_eq, bne_iff_ne, ne_eq, bne_eq_false_iff_eq, beq_eq_false_iff_ne, decide_eq_true_eq, decide_eq_false_iff_not, Bool.not_eq_true', Bool.not_eq_false', Bool.or_eq_true, Bool.and_eq_true, Bool.or_eq_false_iff, Bool.and_eq_false_iff] at hb2
            refine vwp_seq_region rfl fun K hK => ?_
            simp (dsimp := false) only [push_cast, hP, hnt, hgw, hgb, Int.reduceLE, Int.reduceLT, Nat.reduceLT, Nat.reduceEqDiff, Nat.reduceAdd, Nat.reduceSub, Nat.reduceMul, Nat.reduceLeDiff, ↓reduceIte, reduceCtorEq, String.reduceEq, hwi, hi0, and_self, Int.cast_ofNat_Int, hwd, hd0, hb0, hnd]
            refine hK _ ?_; clear hK
            refine vwp_ret ?_
            refine ret_free (by simp (dsimp := false) only [push_cast, hP, hnt, hgw, hgb, Int.reduceLE, Int.reduceLT, Nat.reduceLT, Nat.reduceEqDiff, Nat.reduceAdd, Nat.reduceSub, Nat.reduceMul, Nat.reduceLeDiff, ↓reduceIte, reduceCtorEq, String.reduceEq, hwi, hi0, and_self, Int.cast_ofNat_Int, hwd, hd0, hb0, hnd]; rfl) (by simp (dsimp := false) only [push_cast, hP, hnt, hgw, hgb, Int.reduceLE, Int.reduceLT, Nat.reduceLT, Nat.reduceEqDiff, Nat.reduceAdd, Nat.reduceSub, Nat.reduceMul, Nat.reduceLeDiff, ↓reduceIte, reduceCtorEq, String.reduceEq, hwi, hi0, and_self, Int.cast_ofNat_Int, hwd, hd0, hb0, hnd]) ?_
            simp only [pack, refRead_found (pairs_drop i d hi0 hb0 hd0 hb1) hg hb2]
          · have hb2 := rb2
            try simp only [beq_iff_eq, bne_iff_ne, ne_eq, bne_eq_false_iff_eq, beq_eq_false_iff_ne, decide_eq_true_eq, decide_eq_false_iff_not, Bool.not_eq_true', Bool.not_eq_false', Bool.or_eq_true, Bool.and_eq_true, Bool.or_eq_false_iff, Bool.and_eq_false_iff] at hb2
            refine vwp_skip ?_
            apply_assumption
            refine vwp_region rfl ?_
            simp (dsimp := false) only [push_cast, hP, hnt, hgw, hgb, Int.reduceLE, Int.reduceLT, Nat.reduceLT, Nat.reduceEqDiff, Nat.reduceAdd, Nat.reduceSub, Nat.reduceMul, Nat.reduceLeDiff, ↓reduceIte, reduceCtorEq, String.reduceEq, hwi, hi0, and_self, Int.cast_ofNat_Int, hwd, hd0, hb0, hnd]
            refine hL2 _ _ _ ?_ ?_ ⟨d + 1, rfl, ?_, rfl⟩
            · omega
            · refine wk_conv [] [((3, 0), (3, 0)), ((9, 0), (9, 0))] (by simp) (by simp) (by decide) ?_ ?_
              · refine hf_cons (by simp (dsimp := false) only [push_cast, ↓reduceIte, Nat.reduceEqDiff, Nat.reduceAdd, reduceCtorEq, hwi, hi0, and_self, Int.cast_ofNat_Int, hwd, hd0, hb0, hnd] <;> rfl) (by exact ConvV.self rfl) ?_
                refine hf_cons (by simp (dsimp := false) only [push_cast, ↓reduceIte, Nat.reduceEqDiff, Nat.reduceAdd, reduceCtorEq, hwi, hi0, and_self, Int.cast_ofNat_Int, hwd, hd0, hb0, hnd] <;> rfl) (by exact .one (.loc (by simp))) ?_
                refine hf_cons (by simp (dsimp := false) only [push_cast, ↓reduceIte, Nat.reduceEqDiff, Nat.reduceAdd, reduceCtorEq, hwi, hi0, and_self, Int.cast_ofNat_Int, hwd, hd0, hb0, hnd] <;> rfl) (by exact ConvV.self rfl) ?_
                refine hf_cons (by simp (dsimp := false) only [push_cast, ↓reduceIte, Nat.reduceEqDiff, Nat.reduceAdd, reduceCtorEq, hwi, hi0, and_self, Int.cast_ofNat_Int, hwd, hd0, hb0, hnd] <;> rfl) (by exact .one (.own (by simp))) ?_
                refine hf_cons (by simp (dsimp := false) only [push_cast, ↓reduceIte, Nat.reduceEqDiff, Nat.reduceAdd, reduceCtorEq, hwi, hi0, and_self, Int.cast_ofNat_Int, hwd, hd0, hb0, hnd] <;> rfl) (by exact ConvV.self rfl) ?_
                refine hf_cons (by simp (dsimp := false) only [push_cast, ↓reduceIte, Nat.reduceEqDiff, Nat.reduceAdd, reduceCtorEq, hwi, hi0, and_self, Int.cast_ofNat_Int, hwd, hd0, hb0, hnd] <;> rfl) (by exact ConvV.self rfl) ?_
                exact hf_nil
              · refine hh_cons (i := (3, 0)) (by simp) (by simp) (by simp (dsimp := false) only [push_cast, ↓reduceIte, Nat.reduceEqDiff, Nat.reduceAdd, reduceCtorEq, hwi, hi0, and_self, Int.cast_ofNat_Int, hwd, hd0, hb0, hnd] <;> rfl) (by first | (refine ConvB.free ?_; simp only [push_cast, refReadF]; done) | (refine ConvB.box ?_; repeat' (first | exact ConvVs.nil | exact ConvL.nil | refine ConvV.tup ?_ | refine ConvVs.cons ?_ ?_ | (refine ConvV.self ?_; simp only [push_cast, refReadF]; done) | refine ConvV.one ?_ | refine ConvV.agg ?_ | (refine ConvL.free ?_; simp only [push_cast, refReadF]; done) | refine ConvL.append ?_ ?_ | refine ConvL.cons ?_ ?_ | exact Conv.free rfl | exact Conv.nil | (refine Conv.own ?_; simp; done) | (refine Conv.loc ?_; simp; done) | refine Conv.frz (by simp) (by simp (dsimp := false) only [push_cast, ↓reduceIte, Nat.reduceEqDiff, Nat.reduceAdd, reduceCtorEq, hwi, hi0, and_self, Int.cast_ofNat_Int, hwd, hd0, hb0, hnd] <;> rfl) ?_ | refine Conv.sl (by simp) ?_ | refine Conv.fn ?_))) ?_
                refine hh_cons (i := (9, 0)) (by simp) (by simp) (by simp (dsimp := false) only [push_cast, ↓reduceIte, Nat.reduceEqDiff, Nat.reduceAdd, reduceCtorEq, hwi, hi0, and_self, Int.cast_ofNat_Int, hwd, hd0, hb0, hnd] <;> rfl) (by first | (refine ConvB.free ?_; simp only [push_cast, refReadF]; done) | (refine ConvB.arr ?_; repeat' (first | exact ConvVs.nil | exact ConvL.nil | refine ConvV.tup ?_ | refine ConvVs.cons ?_ ?_ | (refine ConvV.self ?_; simp only [push_cast, refReadF]; done) | refine ConvV.one ?_ | refine ConvV.agg ?_ | (refine ConvL.free ?_; simp only [push_cast, refReadF]; done) | refine ConvL.append ?_ ?_ | refine ConvL.cons ?_ ?_ | exact Conv.free rfl | exact Conv.nil | (refine Conv.own ?_; simp; done) | (refine Conv.loc ?_; simp; done) | refine Conv.frz (by simp) (by simp (dsimp := false) only [push_cast, ↓reduceIte, Nat.reduceEqDiff, Nat.reduceAdd, reduceCtorEq, hwi, hi0, and_self, Int.cast_ofNat_Int, hwd, hd0, hb0, hnd] <;> rfl) ?_ | refine Conv.sl (by simp) ?_ | refine Conv.fn ?_))) ?_
                exact hh_nil
            · exact ⟨by omega, by omega, by have h := refRead_next (pairs_drop i d hi0 hb0 hd0 hb1) hg (fun h => hb2.elim (· h.1) (· h.2)); rwa [show (d + 1).toNat = d.toNat + 1 by omega, ← Nat.add_assoc]⟩
        · have hb1 := rb1
          try simp only [beq_iff_eq, bne_iff_ne, ne_eq, bne_eq_false_iff_eq, beq_eq_false_iff_ne, decide_eq_true_eq, decide_eq_false_iff_not, Bool.not_eq_true', Bool.not_eq_false', Bool.or_eq_true, Bool.and_eq_true, Bool.or_eq_false_iff, Bool.and_eq_false_iff] at hb1
          refine vwp_exit ?_
          simp only [thenQ, blockQ, Nat.reduceEqDiff, reduceIte]
          apply_assumption
          refine vwp_region rfl ?_
          simp (dsimp := false) only [push_cast, hP, hnt, hgw, hgb, Int.reduceLE, Int.reduceLT, Nat.reduceLT, Nat.reduceEqDiff, Nat.reduceAdd, Nat.reduceSub, Nat.reduceMul, Nat.reduceLeDiff, ↓reduceIte, reduceCtorEq, String.reduceEq, hwi, hi0, and_self, Int.cast_ofNat_Int, hwd, hd0, hb0, hnd]
          refine hL0 _ _ _ ?_ ?_ ⟨i + 1, rfl, ?_, rfl⟩
          · omega
          · refine wk_conv [] [((3, 0), (3, 0)), ((9, 0), (9, 0))] (by simp) (by simp) (by decide) ?_ ?_
            · refine hf_cons (by simp (dsimp := false) only [push_cast, ↓reduceIte, Nat.reduceEqDiff, Nat.reduceAdd, reduceCtorEq, hwi, hi0, and_self, Int.cast_ofNat_Int, hwd, hd0, hb0, hnd] <;> rfl) (by exact ConvV.self rfl) ?_
              refine hf_cons (by simp (dsimp := false) only [push_cast, ↓reduceIte, Nat.reduceEqDiff, Nat.reduceAdd, reduceCtorEq, hwi, hi0, and_self, Int.cast_ofNat_Int, hwd, hd0, hb0, hnd] <;> rfl) (by exact .one (.loc (by simp))) ?_
              refine hf_cons (by simp (dsimp := false) only [push_cast, ↓reduceIte, Nat.reduceEqDiff, Nat.reduceAdd, reduceCtorEq, hwi, hi0, and_self, Int.cast_ofNat_Int, hwd, hd0, hb0, hnd] <;> rfl) (by exact ConvV.self rfl) ?_
              refine hf_cons (by simp (dsimp := false) only [push_cast, ↓reduceIte, Nat.reduceEqDiff, Nat.reduceAdd, reduceCtorEq, hwi, hi0, and_self, Int.cast_ofNat_Int, hwd, hd0, hb0, hnd] <;> rfl) (by exact .one (.own (by simp))) ?_
              refine hf_cons (by simp (dsimp := false) only [push_cast, ↓reduceIte, Nat.reduceEqDiff, Nat.reduceAdd, reduceCtorEq, hwi, hi0, and_self, Int.cast_ofNat_Int, hwd, hd0, hb0, hnd] <;> rfl) (by exact ConvV.self rfl) ?_
              exact hf_nil
            · refine hh_cons (i := (3, 0)) (by simp) (by simp) (by simp (dsimp := false) only [push_cast, ↓reduceIte, Nat.reduceEqDiff, Nat.reduceAdd, reduceCtorEq, hwi, hi0, and_self, Int.cast_ofNat_Int, hwd, hd0, hb0, hnd] <;> rfl) (by first | (refine ConvB.free ?_; simp only [push_cast, refReadF]; done) | (refine ConvB.box ?_; repeat' (first | exact ConvVs.nil | exact ConvL.nil | refine ConvV.tup ?_ | refine ConvVs.cons ?_ ?_ | (refine ConvV.self ?_; simp only [push_cast, refReadF]; done) | refine ConvV.one ?_ | refine ConvV.agg ?_ | (refine ConvL.free ?_; simp only [push_cast, refReadF]; done) | refine ConvL.append ?_ ?_ | refine ConvL.cons ?_ ?_ | exact Conv.free rfl | exact Conv.nil | (refine Conv.own ?_; simp; done) | (refine Conv.loc ?_; simp; done) | refine Conv.frz (by simp) (by simp (dsimp := false) only [push_cast, ↓reduceIte, Nat.reduceEqDiff, Nat.reduceAdd, reduceCtorEq, hwi, hi0, and_self, Int.cast_ofNat_Int, hwd, hd0, hb0, hnd] <;> rfl) ?_ | refine Conv.sl (by simp) ?_ | refine Conv.fn ?_))) ?_
              refine hh_cons (i := (9, 0)) (by simp) (by simp) (by simp (dsimp := false) only [push_cast, ↓reduceIte, Nat.reduceEqDiff, Nat.reduceAdd, reduceCtorEq, hwi, hi0, and_self, Int.cast_ofNat_Int, hwd, hd0, hb0, hnd] <;> rfl) (by first | (refine ConvB.free ?_; simp only [push_cast, refReadF]; done) | (refine ConvB.arr ?_; repeat' (first | exact ConvVs.nil | exact ConvL.nil | refine ConvV.tup ?_ | refine ConvVs.cons ?_ ?_ | (refine ConvV.self ?_; simp only [push_cast, refReadF]; done) | refine ConvV.one ?_ | refine ConvV.agg ?_ | (refine ConvL.free ?_; simp only [push_cast, refReadF]; done) | refine ConvL.append ?_ ?_ | refine ConvL.cons ?_ ?_ | exact Conv.free rfl | exact Conv.nil | (refine Conv.own ?_; simp; done) | (refine Conv.loc ?_; simp; done) | refine Conv.frz (by simp) (by simp (dsimp := false) only [push_cast, ↓reduceIte, Nat.reduceEqDiff, Nat.reduceAdd, reduceCtorEq, hwi, hi0, and_self, Int.cast_ofNat_Int, hwd, hd0, hb0, hnd] <;> rfl) ?_ | refine Conv.sl (by simp) ?_ | refine Conv.fn ?_))) ?_
              exact hh_nil
          · exact ⟨by omega, by omega, by have h := hg; rwa [show 10 * i.toNat + d.toNat = 10 * (i + 1).toNat by omega] at h⟩
    · have hb0 := rb0
      try simp only [beq_iff_eq, bne_iff_ne, ne_eq, bne_eq_false_iff_eq, beq_eq_false_iff_ne, decide_eq_true_eq, decide_eq_false_iff_not, Bool.not_eq_true', Bool.not_eq_false', Bool.or_eq_true, Bool.and_eq_true, Bool.or_eq_false_iff, Bool.and_eq_false_iff] at hb0
      refine vwp_exit ?_
      simp only [thenQ, blockQ, Nat.reduceEqDiff, reduceIte]
      apply_assumption
      refine vwp_seq_region rfl fun K hK => ?_
      simp (dsimp := false) only [push_cast, hP, hnt, hgw, hgb, Int.reduceLE, Int.reduceLT, Nat.reduceLT, Nat.reduceEqDiff, Nat.reduceAdd, Nat.reduceSub, Nat.reduceMul, Nat.reduceLeDiff, ↓reduceIte, reduceCtorEq, String.reduceEq, hwi, hi0, and_self, Int.cast_ofNat_Int]
      refine hK _ ?_; clear hK
      refine vwp_ret ?_
      refine ret_free (by simp (dsimp := false) only [push_cast, hP, hnt, hgw, hgb, Int.reduceLE, Int.reduceLT, Nat.reduceLT, Nat.reduceEqDiff, Nat.reduceAdd, Nat.reduceSub, Nat.reduceMul, Nat.reduceLeDiff, ↓reduceIte, reduceCtorEq, String.reduceEq, hwi, hi0, and_self, Int.cast_ofNat_Int]; rfl) (by simp (dsimp := false) only [push_cast, hP, hnt, hgw, hgb, Int.reduceLE, Int.reduceLT, Nat.reduceLT, Nat.reduceEqDiff, Nat.reduceAdd, Nat.reduceSub, Nat.reduceMul, Nat.reduceLeDiff, ↓reduceIte, reduceCtorEq, String.reduceEq, hwi, hi0, and_self, Int.cast_ofNat_Int]) ?_
      simp only [pack, refRead_none hb0 hi8 hf]
end Go.Vm
end

section
namespace Go.Vm
open Go Go.RowKit Go.Proofs
set_option maxRecDepth 100000
set_option linter.unusedSimpArgs false
set_option linter.unusedVariables false
set_option maxHeartbeats 4000000

structure Glob (gw : World) : Prop where
  pow10 : Lib.TabIs Tryd.prog gw "internal/strconv.uint64pow10" .u64 Lib.pow10Tab
  maxlen : ∃ m, gw.cell? ⟨0, 0, none⟩ = some (.int .i64 m)
  esyn : ∃ tp p, gw.var? Tryd.prog "strconv.ErrSyntax" = some #[.iface tp p]
  erange : ∃ tp p, gw.var? Tryd.prog "strconv.ErrRange" = some #[.iface tp p]

theorem var_alike {gw w : World} (ha : Alike gw gw.heap.size w) {name : String} {cs : Array Value} (h : gw.var? Tryd.prog name = some cs) : w.var? Tryd.prog name = some cs := by
  unfold World.var? at h ⊢
  obtain ⟨g, hg, hc⟩ := Option.bind_eq_some_iff.1 h
  rw [hg, Option.bind_some]
  have hlt : g < gw.heap.size := by
    apply Classical.byContradiction
    intro hge
    rw [Array.getElem?_eq_none (by omega)] at hc
    cases hc
  rw [ha.2 g hlt]
  exact hc

theorem cell_alike {gw w : World} (ha : Alike gw gw.heap.size w) {a : Addr} {v : Value} (h : gw.cell? a = some v) : w.cell? a = some v := by
  have hlt : a.block < gw.heap.size := by
    apply Classical.byContradiction
    intro hge
    unfold World.cell? at h
    rw [Array.getElem?_eq_none (by omega)] at h
    cases h
  rw [World.cell?_of_block (ha.2 a.block hlt)]
  exact h

def atoiV (t : ByteArray) : Int :=
  match Lib.atoiAll t.data.toList with
  | .ok v => v
  | .range => Lib.atoiSat t.data.toList
  | _ => 0
def atoiE (t : ByteArray) : PC :=
  match Lib.atoiAll t.data.toList with
  | .ok _ => .c .nilIface
  | _ => .ifc

theorem atoi_call (gw : World) (hg : Glob gw) (t : ByteArray) (ht : t.size ≤ 1000000) : VCall Tryd.prog gw gw.heap.size 35 [.one (.c (.string t))] (.tup [.one (.c (.int .i64 (atoiV t))), .one (atoiE t)]) [] := by
  refine vcall_plain (callable_of Tryd.func35 rfl rfl) [.string t] _ fun w hw => ?_
  unfold atoiV atoiE
  cases h : Lib.atoiAll t.data.toList with
  | ok v =>
    refine (Tryd.strconv_Atoi_ok t (by omega) v h w).mono fun e w' ⟨he, hb⟩ => ⟨_, he, ?_, fun F => ?_⟩
    · rcases hb with rfl | ⟨t', rfl⟩
      · exact Below.refl _ _
      · exact ⟨rfl, rfl, rfl, by rw [Lib.bytesWorld_size]; omega, fun k hk => Lib.bytesWorld_at_old w 5 t' k hk⟩
    · simp only [repV, repVs, rep]
      exact ⟨_, rfl, _, _, rfl, ⟨rfl, rfl⟩, _, _, rfl, ⟨rfl, rfl⟩, rfl⟩
  | range =>
    obtain ⟨tp, p, hv⟩ := hg.erange
    refine (Tryd.strconv_Atoi_range_var t (by omega) h tp p w (var_alike hw hv)).mono fun e w' ⟨N, he, _, _, hb⟩ => ⟨_, he, hb, fun F => ?_⟩
    simp only [repV, repVs, rep]
    exact ⟨_, rfl, _, _, rfl, ⟨rfl, rfl⟩, _, _, rfl, ⟨_, _, rfl⟩, rfl⟩
  | _ =>
    obtain ⟨tp, p, hv⟩ := hg.esyn
    refine (Any.strconv_Atoi_syntax_var Tryd.laysC172 t (by omega) h tp p w (var_alike hw hv)).mono fun e w' ⟨N, he, _, _, hb⟩ => ⟨_, he, hb, fun F => ?_⟩
    simp only [repV, repVs, rep]
    exact ⟨_, rfl, _, _, rfl, ⟨rfl, rfl⟩, _, _, rfl, ⟨_, _, rfl⟩, rfl⟩

theorem atoiE_strict (t : ByteArray) : (PV.tup [.one (.c (.int .i64 (atoiV t))), .one (atoiE t)]).strict = true := by
  have : (atoiE t).strict = true := by unfold atoiE; split <;> rfl
  simp only [PV.strict, PV.stricts, this]; rfl

end Go.Vm
end

section
namespace Go.Vm
open Go Go.RowKit Go.Proofs
set_option maxRecDepth 100000
set_option linter.unusedSimpArgs false
set_option linter.unusedVariables false
set_option maxHeartbeats 4000000

def inTo (top n : Int) : Bool := decide (0 ≤ n ∧ n ≤ top)
end Go.Vm
end

section
namespace Go.Vm
open Go Go.RowKit Go.Proofs
set_option maxRecDepth 100000
set_option linter.unusedSimpArgs false
set_option linter.unusedVariables false
set_option maxHeartbeats 4000000

structure Ver where
  kind : Int
  first : List Bool
  inputs : List (List Bool)
  skip : Int
  phases : Int
  ands : List (Int × Int)
  lit : Int
def Ver.prf (t : Bool) (v : Ver) : List PC := [.c (.int .i64 v.skip), .c (.int .i64 v.phases), .sl t v.ands.length (v.ands.flatMap fun g => [.c (.int .i64 g.1), .c (.int .i64 g.2)]), .c (.int .i64 v.lit)]
def Ver.pcs (t : Bool) (v : Ver) : List PC := .c (.int .u8 v.kind) :: .sl t v.first.length (v.first.map fun b => .c (.bool b)) :: .sl t v.inputs.length (v.inputs.map fun l => .sl t l.length (l.map fun b => .c (.bool b))) :: v.prf t
theorem nat_nonneg (n : Nat) : (0 ≤ (n : Int)) = True := by simp
attribute [push_cast] Ver.pcs Ver.prf Int.toNat_natCast nat_nonneg
end Go.Vm
end

section
namespace Go.Vm
open Go Go.RowKit Go.Proofs
set_option maxRecDepth 100000
set_option linter.unusedSimpArgs false
set_option linter.unusedVariables false
set_option maxHeartbeats 4000000

structure Fit (v : Ver) : Prop where
  first : v.first.length ≤ 100000
  inputs : v.inputs.length ≤ 100000
  ands : v.ands.length ≤ 100000
  each : ∀ l ∈ v.inputs, l.length ≤ 100000
def gateF (g : Int × Int) : Bool := inTo 2001 g.1 && inTo 2001 g.2
end Go.Vm
end

section
namespace Go.Vm
open Go Go.RowKit Go.Proofs
set_option maxRecDepth 100000
set_option linter.unusedSimpArgs false
set_option linter.unusedVariables false
set_option maxHeartbeats 4000000

/-! ### What the library gives -/
theorem vcall_fresh_row {P : Program} {gw : World} {gb : Nat} {f : FuncId} (hc : Callable P f) (args vs : List Value) (n : Nat) (ty : TypeId) (hn : vs.length = n) (h1 : ∀ v ∈ vs, v.oneCell' = true)
    (h : ∀ w, Alike gw gb w → Calls P f args.toArray w fun e w' => e = .returned (.slice (some ⟨w.heap.size, 0, none⟩) n n) ∧ w' = w.alloc (.cells vs.toArray ty)) :
    VCall P gw gb f (args.map fun v => .one (.c v)) (.one (.sl true n (vs.map .c))) [] := by
  refine ⟨hc, fun w xs F hgb hgl hlt hr => ?_⟩
  have hx := repVs_plain _ _ hr
  have hxs : xs = args.toArray := by rw [← hx]
  subst hxs
  refine (h w ⟨hgb, hgl⟩).mono fun e w' he => ?_
  obtain ⟨rfl, rfl⟩ := he
  have hh : (w.alloc (.cells vs.toArray ty)).heap[w.heap.size]? = some (.cells vs.toArray ty (0, 0)) := heap_alloc_new w _
  refine ⟨_, fun _ => none, fun g => g = w.heap.size, rfl, ⟨rfl, rfl, rfl, by simp, fun k hk => Lib.alloc_old w _ k hk⟩, fun g hg => by subst hg; exact ⟨Nat.le_refl _, by simp⟩, ?_, by simp, by simp, by simp, by simp⟩
  simp only [repV, rep]
  refine ⟨_, n, rfl, Nat.le_refl _, .inr ⟨_, rfl, rfl, repAt_of_get _ _ fun j p hp => ?_⟩⟩
  rw [List.getElem?_map] at hp
  obtain ⟨v, hv, rfl⟩ := Option.map_eq_some_iff.1 hp
  refine ⟨v, ?_, by simp only [rep]; exact ⟨trivial, h1 v (List.mem_of_getElem? hv)⟩⟩
  rw [Addr.add_lit, cell_of_row _ _ _ _ ty (0, 0) hh]
  simpa using hv

def joinS (sep : ByteArray) (ws : List ByteArray) : ByteArray := ⟨(Lib.join (ws.map (·.data.toList)) sep.data.toList).toArray⟩
theorem join_call (gw : World) (gb : Nat) (ss : List ByteArray) (sep : ByteArray) (hs : ss.length ≤ 100000) (hlen : (joinS sep ss).size ≤ 140737488355328) :
    VCall Tryd.prog gw gb 43 [.one (.sl false ss.length (ss.map fun s => .c (.string s))), .one (.c (.string sep))] (.one (.c (.string (joinS sep ss)))) [] := by
  have key := vcall_row (gw := gw) (gb := gb) (callable_of Tryd.func43 rfl rfl) (ss.map Value.string) [.string sep] (.one (.c (.string (joinS sep ss)))) (fun w b off cap _ hb hcap hcell => ?_) (fun h0 w A cap _ => ?_)
  · simpa [List.map_map, Function.comp_def] using key
  · have := Tryd.strings_Join b off cap ss sep w (fun j x hj => hcell j _ (by simp [hj])) hb (by omega) (by simpa using hcap) (by simpa [joinS, ByteArray.size] using hlen)
    simp only [List.length_map]
    exact this.mono fun e w' ⟨he, hw⟩ => ⟨_, he, hw, fun F => by simp only [repV, rep]; exact ⟨rfl, rfl⟩⟩
  · have h0 : ss = [] := by simpa using h0
    subst h0
    exact (Tryd.strings_Join_none A cap sep w).mono fun e w' ⟨he, hw⟩ => ⟨_, he, hw ▸ Below.refl _ _, fun F => by simp only [repV, rep]; exact ⟨rfl, rfl⟩⟩

def itoaB (n : Int) : ByteArray := bOf (Lib.itoa n)
theorem itoaG_call (gw : World) (hg : Glob gw) (n : Int) (h0 : -9223372036854775808 ≤ n) (h1 : n ≤ 9223372036854775807) : VCall Tryd.prog gw gw.heap.size 31 [.one (.c (.int .i64 n))] (.one (.c (.string (itoaB n)))) [] := by
  refine vcall_plain (callable_of Tryd.func31 rfl rfl) [.int .i64 n] _ fun w hw => ?_
  have htab : Lib.TabIs Tryd.prog w "internal/strconv.uint64pow10" .u64 Lib.pow10Tab := ?_
  · refine (Tryd.strconv_Itoa n h0 h1 w htab).mono fun e w' ⟨he, k, os, hw'⟩ => ⟨_, he, ?_, fun F => by simp only [repV, rep]; exact ⟨rfl, rfl⟩⟩
    rw [hw']
    exact Lib.below_grow _ w (Nat.le_refl _) k os
  · exact var_alike hw hg.pow10

def splitS (s sep : ByteArray) : List ByteArray := Lib.splitB sep 0 (Lib.countB s sep) s
theorem splitS_len (s sep : ByteArray) (h1 : 1 ≤ sep.size) : (splitS s sep).length = Lib.countB s sep + 1 := Lib.splitB_all sep h1 0 _ s rfl
theorem split_call (gw : World) (hg : Glob gw) (s sep : ByteArray) (hs : s.size ≤ 100000) (h1 : 1 ≤ sep.size) :
    VCall Tryd.prog gw gw.heap.size 51 [.one (.c (.string s)), .one (.c (.string sep))] (.one (.sl true (splitS s sep).length ((splitS s sep).map fun s => .c (.string s)))) [] := by
  obtain ⟨m, hm⟩ := hg.maxlen
  have := vcall_fresh_row (gw := gw) (gb := gw.heap.size) (callable_of Tryd.func51 rfl rfl) [.string s, .string sep] ((splitS s sep).map Value.string) (splitS s sep).length 9 (by simp) (fun v hv => by
    obtain ⟨b, _, rfl⟩ := List.mem_map.1 hv; rfl) (fun w hw => ?_)
  · simpa [List.map_map, Function.comp_def] using this
  · rw [splitS_len s sep h1]
    exact Tryd.strings_Split s sep m w (by omega) (cell_alike hw hm) h1

def cutL (s sep : ByteArray) : ByteArray := bOf (Lib.cut s.data.toList sep.data.toList).1
def cutT (s sep : ByteArray) : ByteArray := bOf (Lib.cut s.data.toList sep.data.toList).2.1
theorem cutS_call (gw : World) (hg : Glob gw) (s sep : ByteArray) (hs : s.size ≤ 100000) : VCall Tryd.prog gw gw.heap.size 34 [.one (.c (.string s)), .one (.c (.string sep))] (.tup [.one (.c (.string (cutL s sep))), .one (.c (.string (cutT s sep))), .one (.c (.bool (Lib.cut s.data.toList sep.data.toList).2.2))]) [] := by
  obtain ⟨m, hm⟩ := hg.maxlen
  refine vcall_plain (callable_of Tryd.func34 rfl rfl) [.string s, .string sep] _ fun w hw => (Tryd.strings_Cut s sep m w (by omega) (cell_alike hw hm)).mono fun e w' ⟨he, n, hn⟩ => ⟨_, he, hn ▸ below_drewN' w n, fun F => ?_⟩
  simp only [repV, repVs, rep]
  exact ⟨_, rfl, _, _, rfl, ⟨rfl, rfl⟩, _, _, rfl, ⟨rfl, rfl⟩, _, _, rfl, ⟨rfl, rfl⟩, rfl⟩
end Go.Vm
end

section
namespace Go.Vm
open Go Go.RowKit Go.Proofs
set_option maxRecDepth 100000
set_option linter.unusedSimpArgs false
set_option linter.unusedVariables false
set_option maxHeartbeats 4000000

theorem size_list (s : ByteArray) : s.size = s.data.toList.length := Lib.size_eq s
end Go.Vm
end

section
namespace Go.Vm
open Go Go.RowKit Go.Proofs
set_option maxRecDepth 100000
set_option linter.unusedSimpArgs false
set_option linter.unusedVariables false
set_option maxHeartbeats 4000000

def spB : ByteArray := ⟨#[32]⟩
theorem joinS_one (sep a : ByteArray) : joinS sep [a] = a := by
  unfold joinS; rw [List.map_cons, List.map_nil, Lib.join_one]
end Go.Vm
end

section
namespace Go.Vm
open Go Go.RowKit Go.Proofs
set_option maxRecDepth 100000
set_option linter.unusedSimpArgs false
set_option linter.unusedVariables false
set_option maxHeartbeats 4000000

def wUNKNOWN : ByteArray := ⟨#[85, 78, 75, 78, 79, 87, 78]⟩
def wUNSAFE : ByteArray := ⟨#[85, 78, 83, 65, 70, 69]⟩
def wSAFE : ByteArray := ⟨#[83, 65, 70, 69]⟩
def wfirst : ByteArray := ⟨#[102, 105, 114, 115, 116]⟩
def win : ByteArray := ⟨#[105, 110]⟩
def wskip : ByteArray := ⟨#[115, 107, 105, 112]⟩
def wphases : ByteArray := ⟨#[112, 104, 97, 115, 101, 115]⟩
def wand : ByteArray := ⟨#[97, 110, 100]⟩
def wlit : ByteArray := ⟨#[108, 105, 116]⟩
structure Unsafe (v : Ver) : Prop where
  some : 1 ≤ v.inputs.length
  few : v.inputs.length ≤ 100
  first : v.first.length ≤ 1000
  each : ∀ l ∈ v.inputs, l.length ≤ 1000
structure Safe (v : Ver) : Prop where
  skip : 0 ≤ v.skip ∧ v.skip ≤ 100
  phases : 0 ≤ v.phases ∧ v.phases ≤ 100
  lit : 0 ≤ v.lit ∧ v.lit ≤ 2001
  few : v.ands.length ≤ 1000
  each : ∀ g ∈ v.ands, gateF g = true
end Go.Vm
end

section
namespace Go.Vm
open Go Go.RowKit Go.Proofs
set_option maxRecDepth 100000
set_option linter.unusedSimpArgs false
set_option linter.unusedVariables false
set_option maxHeartbeats 4000000

def digB (n : Int) : ByteArray := bOf (Lib.decDigits n.toNat)
theorem digB_eq {n : Int} (h : 0 ≤ n) : itoaB n = digB n := by
  unfold itoaB digB
  obtain ⟨k, rfl⟩ := Int.eq_ofNat_of_zero_le h
  rw [Lib.itoa_nonneg]; rfl
theorem digB_small {n : Int} (h0 : 0 ≤ n) (h : n < 10) : digB n = ofBytes [IntKind.wrap .u8 (IntKind.wrap .i64 (48 + n % 10))] := by
  obtain ⟨k, rfl⟩ := Int.eq_ofNat_of_zero_le h0
  have hk : k < 10 := by omega
  unfold digB
  rw [Int.toNat_natCast, Lib.decDigits_one hk]
  clear h0 h
  revert hk; revert k; decide
theorem digB_big {n : Int} (h : 10 ≤ n) : digB n = digB (n / 10) ++ ofBytes [IntKind.wrap .u8 (IntKind.wrap .i64 (48 + n % 10))] := by
  obtain ⟨k, rfl⟩ := Int.eq_ofNat_of_zero_le (show 0 ≤ n by omega)
  have hk : ¬ k < 10 := by omega
  unfold digB
  have e1 : ((k : Int) / 10).toNat = k / 10 := by omega
  rw [Int.toNat_natCast, Lib.decDigits, dif_neg hk, e1, bOf_append]
  congr 1
  have h2 : k % 10 < 10 := Nat.mod_lt _ (by decide)
  have e2 : ((k : Int) % 10) = ((k % 10 : Nat) : Int) := by omega
  rw [e2]
  generalize k % 10 = m at h2
  revert h2; revert m; decide
theorem ofBytes_one (x : Int) : (ofBytes [x]).size = 1 := rfl
theorem digB_size {n : Int} (h1 : n ≤ 9223372036854775807) (h0 : 0 ≤ n) : (digB n).size ≤ 21 := by
  rw [← digB_eq h0]; unfold itoaB; rw [bOf_size]; exact Lib.itoa_length_le n (by omega) (by omega)
theorem digits_step (gw : World) (gb : Nat) (n : Int) (h0 : 0 ≤ n) (h1 : n ≤ 9223372036854775807) (ih : 10 ≤ n → VCall Tryd.prog gw gb 82 [.one (.c (.int .i64 (n / 10)))] (.one (.c (.string (digB (n / 10))))) []) : VCall Tryd.prog gw (gb) 82 [.one (.c (.int .i64 n))] (.one (.c (.string (digB n)))) [] := by
  have hq : IntKind.wrap .i64 (n.tdiv 10) = n / 10 := by rw [Int.tdiv_eq_ediv_of_nonneg h0, IntKind.wrap_i64]; omega
  have hr : n.tmod 10 = n % 10 := Int.tmod_eq_emod_of_nonneg h0
  have hs : 10 ≤ n → (digB (n / 10)).size + (ofBytes [IntKind.wrap .u8 (IntKind.wrap .i64 (48 + n % 10))]).size ≤ 9223372036854775807 := fun h => by
    have := digB_size (n := n / 10) (by omega) (by omega)
    rw [ofBytes_one]; omega
  refine vcall_of [.tmp 2] Tryd.func82 rfl rfl Tryd.ntmps82 rfl (by simp) ?_
  intro C hP hnt hgw hgb hfull
  refine vwp_seq_region rfl fun K hK => ?_
  simp (dsimp := false) only [push_cast, hP, hnt, hgw, hgb, Nat.reduceLT, Nat.reduceEqDiff, Nat.reduceAdd, Nat.reduceSub, Nat.reduceMul, Nat.reduceLeDiff, ↓reduceIte, reduceCtorEq, hq, hr, Int.reduceEq]
  refine hK _ ?_; clear hK
  refine vwp_seq_region rfl fun K hK => ?_
  simp (dsimp := false) only [push_cast, hP, hnt, hgw, hgb, Nat.reduceLT, Nat.reduceEqDiff, Nat.reduceAdd, Nat.reduceSub, Nat.reduceMul, Nat.reduceLeDiff, ↓reduceIte, reduceCtorEq, hq, hr, Int.reduceEq]
  refine hK _ ?_; clear hK
  refine vwp_seq fun K hK => ?_
  refine vwp_seq_region rfl fun K hK => ?_
  simp (dsimp := false) only [push_cast, hP, hnt, hgw, hgb, Nat.reduceLT, Nat.reduceEqDiff, Nat.reduceAdd, Nat.reduceSub, Nat.reduceMul, Nat.reduceLeDiff, ↓reduceIte, reduceCtorEq, hq, hr, Int.reduceEq]
  refine hK _ ?_; clear hK
  refine vwp_cond (b := _) (by simp (dsimp := false) only [push_cast, hP, hnt, hgw, hgb, Nat.reduceLT, Nat.reduceEqDiff, Nat.reduceAdd, Nat.reduceSub, Nat.reduceMul, Nat.reduceLeDiff, ↓reduceIte, reduceCtorEq, hq, hr, Int.reduceEq]; rfl) (fun rb0 => ?_) (fun rb0 => ?_)
  · have hb0 := rb0
    try simp only [beq_iff_eq, bne_iff_ne, ne_eq, bne_eq_false_iff_eq, beq_eq_false_iff_ne, decide_eq_true_eq, decide_eq_false_iff_not, Bool.not_eq_true', Bool.not_eq_false', Bool.or_eq_true, Bool.and_eq_true, Bool.or_eq_false_iff, Bool.and_eq_false_iff] at hb0
    have hs := hs hb0
    refine vwp_seq_region rfl fun K hK => ?_
    simp (dsimp := false) only [push_cast, hP, hnt, hgw, hgb, Nat.reduceLT, Nat.reduceEqDiff, Nat.reduceAdd, Nat.reduceSub, Nat.reduceMul, Nat.reduceLeDiff, ↓reduceIte, reduceCtorEq, hq, hr, Int.reduceEq, hs]
    refine .inl (callE_intro (ih (by omega)) (.inl ⟨rfl, rfl⟩) ?_)
    simp (dsimp := false) only [push_cast, hP, hnt, hgw, hgb, Nat.reduceLT, Nat.reduceEqDiff, Nat.reduceAdd, Nat.reduceSub, Nat.reduceMul, Nat.reduceLeDiff, ↓reduceIte, reduceCtorEq, hq, hr, Int.reduceEq, hs]
    refine hK _ ?_; clear hK
    refine vwp_ret ?_
    refine ret_free (by simp (dsimp := false) only [push_cast, hP, hnt, hgw, hgb, Nat.reduceLT, Nat.reduceEqDiff, Nat.reduceAdd, Nat.reduceSub, Nat.reduceMul, Nat.reduceLeDiff, ↓reduceIte, reduceCtorEq, hq, hr, Int.reduceEq, hs]; rfl) (by simp (dsimp := false) only [push_cast, hP, hnt, hgw, hgb, Nat.reduceLT, Nat.reduceEqDiff, Nat.reduceAdd, Nat.reduceSub, Nat.reduceMul, Nat.reduceLeDiff, ↓reduceIte, reduceCtorEq, hq, hr, Int.reduceEq, hs]) ?_
    rw [digB_big (n := n) (by omega)]; rfl
  · have hb0 := rb0
    try simp only [beq_iff_eq, bne_iff_ne, ne_eq, bne_eq_false_iff_eq, beq_eq_false_iff_ne, decide_eq_true_eq, decide_eq_false_iff_not, Bool.not_eq_true', Bool.not_eq_false', Bool.or_eq_true, Bool.and_eq_true, Bool.or_eq_false_iff, Bool.and_eq_false_iff] at hb0
    refine vwp_skip ?_
    apply_assumption
    refine vwp_seq_region rfl fun K hK => ?_
    simp (dsimp := false) only [push_cast, hP, hnt, hgw, hgb, Nat.reduceLT, Nat.reduceEqDiff, Nat.reduceAdd, Nat.reduceSub, Nat.reduceMul, Nat.reduceLeDiff, ↓reduceIte, reduceCtorEq, hq, hr, Int.reduceEq]
    refine hK _ ?_; clear hK
    refine vwp_ret ?_
    refine ret_free (by simp (dsimp := false) only [push_cast, hP, hnt, hgw, hgb, Nat.reduceLT, Nat.reduceEqDiff, Nat.reduceAdd, Nat.reduceSub, Nat.reduceMul, Nat.reduceLeDiff, ↓reduceIte, reduceCtorEq, hq, hr, Int.reduceEq]; rfl) (by simp (dsimp := false) only [push_cast, hP, hnt, hgw, hgb, Nat.reduceLT, Nat.reduceEqDiff, Nat.reduceAdd, Nat.reduceSub, Nat.reduceMul, Nat.reduceLeDiff, ↓reduceIte, reduceCtorEq, hq, hr, Int.reduceEq]) ?_
    rw [digB_small (n := n) h0 (by omega)]; rfl
theorem digits_call (gw : World) (gb : Nat) (n : Int) (h0 : 0 ≤ n) (h1 : n ≤ 9223372036854775807) : VCall Tryd.prog gw gb 82 [.one (.c (.int .i64 n))] (.one (.c (.string (digB n)))) [] := by
  have key : ∀ (k : Nat) (n : Int), n.toNat ≤ k → 0 ≤ n → n ≤ 9223372036854775807 → VCall Tryd.prog gw gb 82 [.one (.c (.int .i64 n))] (.one (.c (.string (digB n)))) [] := by
    intro k
    induction k with
    | zero => intro n hk h0 h1; exact digits_step gw gb n h0 h1 (fun h => by omega)
    | succ k ih => intro n hk h0 h1; exact digits_step gw gb n h0 h1 (fun h => ih (n / 10) (by omega) (by omega) (by omega))
  exact key n.toNat n (Nat.le_refl _) h0 h1

end Go.Vm
end

section
namespace Go.Vm
open Go Go.RowKit Go.Proofs
set_option maxRecDepth 100000
set_option linter.unusedSimpArgs false
set_option linter.unusedVariables false
set_option maxHeartbeats 4000000

def rowS (l : List ByteArray) : Blk := .arr 9 1 l.length (l.map fun s => .c (.string s))
theorem strs_free (l : List ByteArray) : PC.frees (l.map fun s => .c (.string s)) = true := by rw [frees_map]; simp [PC.free]
end Go.Vm
end

section
namespace Go.Vm
open Go Go.RowKit Go.Proofs
set_option maxRecDepth 100000
set_option linter.unusedSimpArgs false
set_option linter.unusedVariables false
set_option maxHeartbeats 4000000

theorem data_app (a b : ByteArray) : (a ++ b).data.toList = a.data.toList ++ b.data.toList := by rw [ByteArray.data_append, Array.toList_append]
end Go.Vm
end

section
namespace Go.Vm
open Go Go.RowKit Go.Proofs
set_option maxRecDepth 100000
set_option linter.unusedSimpArgs false
set_option linter.unusedVariables false
set_option maxHeartbeats 4000000

def atoiOk (t : ByteArray) : Bool := match Lib.atoiAll t.data.toList with | .ok _ => true | _ => false
theorem atoiE_ok {t : ByteArray} (h : atoiOk t = true) : atoiE t = .c .nilIface := by unfold atoiE; unfold atoiOk at h; split at h <;> simp_all
theorem atoiE_bad {t : ByteArray} (h : atoiOk t = false) : atoiE t = .ifc := by unfold atoiE; unfold atoiOk at h; split at h <;> simp_all
theorem atoiV_range (t : ByteArray) : -9223372036854775808 ≤ atoiV t ∧ atoiV t ≤ 9223372036854775807 := by
  unfold atoiV
  split
  · rename_i v h
    unfold Lib.atoiAll at h
    split at h
    · cases h
    · simp only at h
      split at h
      · cases h
      · cases h
      · split at h
        · cases h
        · split at h
          · cases h
          · rename_i u _ h1 h2
            cases h
            split <;> omega
  · unfold Lib.atoiSat; split <;> omega
  · omega
def numF (t : ByteArray) : Int := if atoiOk t = true ∧ 0 ≤ atoiV t ∧ (itoaB (atoiV t)).toList = t.toList then atoiV t else -1

theorem number_ok (gw : World) (hg : Glob gw) (t : ByteArray) (ht : t.size ≤ 1000000) (ho : atoiOk t = true) : VCall Tryd.prog gw (gw.heap.size) 54 [.one (.c (.string t))] (.one (.c (.int .i64 (numF t)))) [] := by
  have he := atoiE_ok ho
  refine vcall_of [.tmp 2] Tryd.func54 rfl rfl Tryd.ntmps54 rfl (by simp) ?_
  intro C hP hnt hgw hgb hfull
  refine vwp_seq_region rfl fun K hK => ?_
  simp (dsimp := false) only [push_cast, hP, hnt, hgw, hgb, Nat.reduceLT, Nat.reduceEqDiff, Nat.reduceAdd, Nat.reduceSub, Nat.reduceMul, Nat.reduceLeDiff, ↓reduceIte, reduceCtorEq, he]
  refine hK _ ?_; clear hK
  refine vwp_seq_region rfl fun K hK => ?_
  simp (dsimp := false) only [push_cast, hP, hnt, hgw, hgb, Nat.reduceLT, Nat.reduceEqDiff, Nat.reduceAdd, Nat.reduceSub, Nat.reduceMul, Nat.reduceLeDiff, ↓reduceIte, reduceCtorEq, he]
  refine .inl (callE_intro (atoi_call gw hg t ht) (.inl ⟨atoiE_strict t, rfl⟩) ?_)
  simp (dsimp := false) only [push_cast, hP, hnt, hgw, hgb, Nat.reduceLT, Nat.reduceEqDiff, Nat.reduceAdd, Nat.reduceSub, Nat.reduceMul, Nat.reduceLeDiff, ↓reduceIte, reduceCtorEq, he]
  refine hK _ ?_; clear hK
  refine vwp_seq fun K hK => ?_
  refine vwp_seq_regionG fun K hK => ?_
  simp (dsimp := false) only [push_cast, hP, hnt, hgw, hgb, Nat.reduceLT, Nat.reduceEqDiff, Nat.reduceAdd, Nat.reduceSub, Nat.reduceMul, Nat.reduceLeDiff, ↓reduceIte, reduceCtorEq, he]
  refine guardR_may (by simp (dsimp := false) only [push_cast, hP, hnt, hgw, hgb, Nat.reduceLT, Nat.reduceEqDiff, Nat.reduceAdd, Nat.reduceSub, Nat.reduceMul, Nat.reduceLeDiff, ↓reduceIte, reduceCtorEq, he, List.getElem?_cons_zero, List.getElem?_cons_succ]; rfl) ?_
  simp (dsimp := false) only [push_cast, hP, hnt, hgw, hgb, Nat.reduceLT, Nat.reduceEqDiff, Nat.reduceAdd, Nat.reduceSub, Nat.reduceMul, Nat.reduceLeDiff, ↓reduceIte, reduceCtorEq, he]
  refine guardR_may (by simp (dsimp := false) only [push_cast, hP, hnt, hgw, hgb, Nat.reduceLT, Nat.reduceEqDiff, Nat.reduceAdd, Nat.reduceSub, Nat.reduceMul, Nat.reduceLeDiff, ↓reduceIte, reduceCtorEq, he, List.getElem?_cons_zero, List.getElem?_cons_succ]; rfl) ?_
  simp (dsimp := false) only [push_cast, hP, hnt, hgw, hgb, Nat.reduceLT, Nat.reduceEqDiff, Nat.reduceAdd, Nat.reduceSub, Nat.reduceMul, Nat.reduceLeDiff, ↓reduceIte, reduceCtorEq, he]
  refine guardR_may (by simp (dsimp := false) only [push_cast, hP, hnt, hgw, hgb, Nat.reduceLT, Nat.reduceEqDiff, Nat.reduceAdd, Nat.reduceSub, Nat.reduceMul, Nat.reduceLeDiff, ↓reduceIte, reduceCtorEq, he, List.getElem?_cons_zero, List.getElem?_cons_succ]; rfl) ?_
  simp (dsimp := false) only [push_cast, hP, hnt, hgw, hgb, Nat.reduceLT, Nat.reduceEqDiff, Nat.reduceAdd, Nat.reduceSub, Nat.reduceMul, Nat.reduceLeDiff, ↓reduceIte, reduceCtorEq, he]
  refine guardR_may (by simp (dsimp := false) only [push_cast, hP, hnt, hgw, hgb, Nat.reduceLT, Nat.reduceEqDiff, Nat.reduceAdd, Nat.reduceSub, Nat.reduceMul, Nat.reduceLeDiff, ↓reduceIte, reduceCtorEq, he, List.getElem?_cons_zero, List.getElem?_cons_succ]; rfl) ?_
  simp (dsimp := false) only [push_cast, hP, hnt, hgw, hgb, Nat.reduceLT, Nat.reduceEqDiff, Nat.reduceAdd, Nat.reduceSub, Nat.reduceMul, Nat.reduceLeDiff, ↓reduceIte, reduceCtorEq, he]
  refine callE_intro (itoaG_call gw hg _ (atoiV_range t).1 (atoiV_range t).2) (.inl ⟨rfl, rfl⟩) ?_
  refine ⟨rfl, ?_⟩
  simp (dsimp := false) only [push_cast, hP, hnt, hgw, hgb, Nat.reduceLT, Nat.reduceEqDiff, Nat.reduceAdd, Nat.reduceSub, Nat.reduceMul, Nat.reduceLeDiff, ↓reduceIte, reduceCtorEq, he]
  refine guardR_may (by simp (dsimp := false) only [push_cast, hP, hnt, hgw, hgb, Nat.reduceLT, Nat.reduceEqDiff, Nat.reduceAdd, Nat.reduceSub, Nat.reduceMul, Nat.reduceLeDiff, ↓reduceIte, reduceCtorEq, he, List.getElem?_cons_zero, List.getElem?_cons_succ]; rfl) ?_
  simp (dsimp := false) only [push_cast, hP, hnt, hgw, hgb, Nat.reduceLT, Nat.reduceEqDiff, Nat.reduceAdd, Nat.reduceSub, Nat.reduceMul, Nat.reduceLeDiff, ↓reduceIte, reduceCtorEq, he]
  refine guardR_may (by simp (dsimp := false) only [push_cast, hP, hnt, hgw, hgb, Nat.reduceLT, Nat.reduceEqDiff, Nat.reduceAdd, Nat.reduceSub, Nat.reduceMul, Nat.reduceLeDiff, ↓reduceIte, reduceCtorEq, he, List.getElem?_cons_zero, List.getElem?_cons_succ]; rfl) ?_
  simp (dsimp := false) only [push_cast, hP, hnt, hgw, hgb, Nat.reduceLT, Nat.reduceEqDiff, Nat.reduceAdd, Nat.reduceSub, Nat.reduceMul, Nat.reduceLeDiff, ↓reduceIte, reduceCtorEq, he]
  refine hK _ ?_; clear hK
  refine vwp_cond (b := _) (by simp (dsimp := false) only [push_cast, hP, hnt, hgw, hgb, Nat.reduceLT, Nat.reduceEqDiff, Nat.reduceAdd, Nat.reduceSub, Nat.reduceMul, Nat.reduceLeDiff, ↓reduceIte, reduceCtorEq, he]; rfl) (fun rb0 => ?_) (fun rb0 => ?_)
  · have hb0 := rb0
    try simp only [beq_iff_eq, bne_iff_ne, ne_eq, bne_eq_false_iff_eq, beq_eq_false_iff_ne, decide_eq_true_eq, decide_eq_false_iff_not, Bool.not_eq_true', Bool.not_eq_false', Bool.or_eq_true, Bool.and_eq_true, Bool.or_eq_false_iff, Bool.and_eq_false_iff] at hb0
    refine vwp_seq_region rfl fun K hK => ?_
    simp (dsimp := false) only [push_cast, hP, hnt, hgw, hgb, Nat.reduceLT, Nat.reduceEqDiff, Nat.reduceAdd, Nat.reduceSub, Nat.reduceMul, Nat.reduceLeDiff, ↓reduceIte, reduceCtorEq, he]
    refine hK _ ?_; clear hK
    refine vwp_ret ?_
    refine ret_free (by simp (dsimp := false) only [push_cast, hP, hnt, hgw, hgb, Nat.reduceLT, Nat.reduceEqDiff, Nat.reduceAdd, Nat.reduceSub, Nat.reduceMul, Nat.reduceLeDiff, ↓reduceIte, reduceCtorEq, he]; rfl) (by simp (dsimp := false) only [push_cast, hP, hnt, hgw, hgb, Nat.reduceLT, Nat.reduceEqDiff, Nat.reduceAdd, Nat.reduceSub, Nat.reduceMul, Nat.reduceLeDiff, ↓reduceIte, reduceCtorEq, he]) ?_
    rw [show numF t = -1 from if_neg (fun h => by rcases hb0 with g | g
                                                  · omega
                                                  · exact g h.2.2)]; rfl
  · have hb0 := rb0
    try simp only [beq_iff_eq, bne_iff_ne, ne_eq, bne_eq_false_iff_eq, beq_eq_false_iff_ne, decide_eq_true_eq, decide_eq_false_iff_not, Bool.not_eq_true', Bool.not_eq_false', Bool.or_eq_true, Bool.and_eq_true, Bool.or_eq_false_iff, Bool.and_eq_false_iff] at hb0
    refine vwp_skip ?_
    apply_assumption
    refine vwp_seq_region rfl fun K hK => ?_
    simp (dsimp := false) only [push_cast, hP, hnt, hgw, hgb, Nat.reduceLT, Nat.reduceEqDiff, Nat.reduceAdd, Nat.reduceSub, Nat.reduceMul, Nat.reduceLeDiff, ↓reduceIte, reduceCtorEq, he]
    refine hK _ ?_; clear hK
    refine vwp_ret ?_
    refine ret_free (by simp (dsimp := false) only [push_cast, hP, hnt, hgw, hgb, Nat.reduceLT, Nat.reduceEqDiff, Nat.reduceAdd, Nat.reduceSub, Nat.reduceMul, Nat.reduceLeDiff, ↓reduceIte, reduceCtorEq, he]; rfl) (by simp (dsimp := false) only [push_cast, hP, hnt, hgw, hgb, Nat.reduceLT, Nat.reduceEqDiff, Nat.reduceAdd, Nat.reduceSub, Nat.reduceMul, Nat.reduceLeDiff, ↓reduceIte, reduceCtorEq, he]) ?_
    rw [show numF t = atoiV t from if_pos ⟨ho, by omega, hb0.2⟩]; rfl
theorem number_bad (gw : World) (hg : Glob gw) (t : ByteArray) (ht : t.size ≤ 1000000) (ho : atoiOk t = false) : VCall Tryd.prog gw (gw.heap.size) 54 [.one (.c (.string t))] (.one (.c (.int .i64 (numF t)))) [] := by
  have he := atoiE_bad ho
  refine vcall_of [.tmp 2] Tryd.func54 rfl rfl Tryd.ntmps54 rfl (by simp) ?_
  intro C hP hnt hgw hgb hfull
  refine vwp_seq_region rfl fun K hK => ?_
  simp (dsimp := false) only [push_cast, hP, hnt, hgw, hgb, Nat.reduceLT, Nat.reduceEqDiff, Nat.reduceAdd, Nat.reduceSub, Nat.reduceMul, Nat.reduceLeDiff, ↓reduceIte, reduceCtorEq, he]
  refine hK _ ?_; clear hK
  refine vwp_seq_region rfl fun K hK => ?_
  simp (dsimp := false) only [push_cast, hP, hnt, hgw, hgb, Nat.reduceLT, Nat.reduceEqDiff, Nat.reduceAdd, Nat.reduceSub, Nat.reduceMul, Nat.reduceLeDiff, ↓reduceIte, reduceCtorEq, he]
  refine .inl (callE_intro (atoi_call gw hg t ht) (.inl ⟨atoiE_strict t, rfl⟩) ?_)
  simp (dsimp := false) only [push_cast, hP, hnt, hgw, hgb, Nat.reduceLT, Nat.reduceEqDiff, Nat.reduceAdd, Nat.reduceSub, Nat.reduceMul, Nat.reduceLeDiff, ↓reduceIte, reduceCtorEq, he]
  refine hK _ ?_; clear hK
  refine vwp_seq fun K hK => ?_
  refine vwp_seq_regionG fun K hK => ?_
  simp (dsimp := false) only [push_cast, hP, hnt, hgw, hgb, Nat.reduceLT, Nat.reduceEqDiff, Nat.reduceAdd, Nat.reduceSub, Nat.reduceMul, Nat.reduceLeDiff, ↓reduceIte, reduceCtorEq, he]
  refine guardR_may (by simp (dsimp := false) only [push_cast, hP, hnt, hgw, hgb, Nat.reduceLT, Nat.reduceEqDiff, Nat.reduceAdd, Nat.reduceSub, Nat.reduceMul, Nat.reduceLeDiff, ↓reduceIte, reduceCtorEq, he, List.getElem?_cons_zero, List.getElem?_cons_succ]; rfl) ?_
  simp (dsimp := false) only [push_cast, hP, hnt, hgw, hgb, Nat.reduceLT, Nat.reduceEqDiff, Nat.reduceAdd, Nat.reduceSub, Nat.reduceMul, Nat.reduceLeDiff, ↓reduceIte, reduceCtorEq, he]
  refine guardR_may (by simp (dsimp := false) only [push_cast, hP, hnt, hgw, hgb, Nat.reduceLT, Nat.reduceEqDiff, Nat.reduceAdd, Nat.reduceSub, Nat.reduceMul, Nat.reduceLeDiff, ↓reduceIte, reduceCtorEq, he, List.getElem?_cons_zero, List.getElem?_cons_succ]; rfl) ?_
  simp (dsimp := false) only [push_cast, hP, hnt, hgw, hgb, Nat.reduceLT, Nat.reduceEqDiff, Nat.reduceAdd, Nat.reduceSub, Nat.reduceMul, Nat.reduceLeDiff, ↓reduceIte, reduceCtorEq, he]
  refine guardR_may (by simp (dsimp := false) only [push_cast, hP, hnt, hgw, hgb, Nat.reduceLT, Nat.reduceEqDiff, Nat.reduceAdd, Nat.reduceSub, Nat.reduceMul, Nat.reduceLeDiff, ↓reduceIte, reduceCtorEq, he, List.getElem?_cons_zero, List.getElem?_cons_succ]; rfl) ?_
  simp (dsimp := false) only [push_cast, hP, hnt, hgw, hgb, Nat.reduceLT, Nat.reduceEqDiff, Nat.reduceAdd, Nat.reduceSub, Nat.reduceMul, Nat.reduceLeDiff, ↓reduceIte, reduceCtorEq, he]
  refine guardR_may (by simp (dsimp := false) only [push_cast, hP, hnt, hgw, hgb, Nat.reduceLT, Nat.reduceEqDiff, Nat.reduceAdd, Nat.reduceSub, Nat.reduceMul, Nat.reduceLeDiff, ↓reduceIte, reduceCtorEq, he, List.getElem?_cons_zero, List.getElem?_cons_succ]; rfl) ?_
  simp (dsimp := false) only [push_cast, hP, hnt, hgw, hgb, Nat.reduceLT, Nat.reduceEqDiff, Nat.reduceAdd, Nat.reduceSub, Nat.reduceMul, Nat.reduceLeDiff, ↓reduceIte, reduceCtorEq, he]
  refine callE_intro (itoaG_call gw hg _ (atoiV_range t).1 (atoiV_range t).2) (.inl ⟨rfl, rfl⟩) ?_
  refine ⟨rfl, ?_⟩
  simp (dsimp := false) only [push_cast, hP, hnt, hgw, hgb, Nat.reduceLT, Nat.reduceEqDiff, Nat.reduceAdd, Nat.reduceSub, Nat.reduceMul, Nat.reduceLeDiff, ↓reduceIte, reduceCtorEq, he]
  refine guardR_may (by simp (dsimp := false) only [push_cast, hP, hnt, hgw, hgb, Nat.reduceLT, Nat.reduceEqDiff, Nat.reduceAdd, Nat.reduceSub, Nat.reduceMul, Nat.reduceLeDiff, ↓reduceIte, reduceCtorEq, he, List.getElem?_cons_zero, List.getElem?_cons_succ]; rfl) ?_
  simp (dsimp := false) only [push_cast, hP, hnt, hgw, hgb, Nat.reduceLT, Nat.reduceEqDiff, Nat.reduceAdd, Nat.reduceSub, Nat.reduceMul, Nat.reduceLeDiff, ↓reduceIte, reduceCtorEq, he]
  refine guardR_may (by simp (dsimp := false) only [push_cast, hP, hnt, hgw, hgb, Nat.reduceLT, Nat.reduceEqDiff, Nat.reduceAdd, Nat.reduceSub, Nat.reduceMul, Nat.reduceLeDiff, ↓reduceIte, reduceCtorEq, he, List.getElem?_cons_zero, List.getElem?_cons_succ]; rfl) ?_
  simp (dsimp := false) only [push_cast, hP, hnt, hgw, hgb, Nat.reduceLT, Nat.reduceEqDiff, Nat.reduceAdd, Nat.reduceSub, Nat.reduceMul, Nat.reduceLeDiff, ↓reduceIte, reduceCtorEq, he]
  refine hK _ ?_; clear hK
  refine vwp_cond (b := _) (by simp (dsimp := false) only [push_cast, hP, hnt, hgw, hgb, Nat.reduceLT, Nat.reduceEqDiff, Nat.reduceAdd, Nat.reduceSub, Nat.reduceMul, Nat.reduceLeDiff, ↓reduceIte, reduceCtorEq, he]; rfl) (fun rb0 => ?_) (fun rb0 => ?_)
  · have hb0 := rb0
    try simp only [beq_iff_eq, bne_iff_ne, ne_eq, bne_eq_false_iff_eq, beq_eq_false_iff_ne, decide_eq_true_eq, decide_eq_false_iff_not, Bool.not_eq_true', Bool.not_eq_false', Bool.or_eq_true, Bool.and_eq_true, Bool.or_eq_false_iff, Bool.and_eq_false_iff] at hb0
    refine vwp_seq_region rfl fun K hK => ?_
    simp (dsimp := false) only [push_cast, hP, hnt, hgw, hgb, Nat.reduceLT, Nat.reduceEqDiff, Nat.reduceAdd, Nat.reduceSub, Nat.reduceMul, Nat.reduceLeDiff, ↓reduceIte, reduceCtorEq, he]
    refine hK _ ?_; clear hK
    refine vwp_ret ?_
    refine ret_free (by simp (dsimp := false) only [push_cast, hP, hnt, hgw, hgb, Nat.reduceLT, Nat.reduceEqDiff, Nat.reduceAdd, Nat.reduceSub, Nat.reduceMul, Nat.reduceLeDiff, ↓reduceIte, reduceCtorEq, he]; rfl) (by simp (dsimp := false) only [push_cast, hP, hnt, hgw, hgb, Nat.reduceLT, Nat.reduceEqDiff, Nat.reduceAdd, Nat.reduceSub, Nat.reduceMul, Nat.reduceLeDiff, ↓reduceIte, reduceCtorEq, he]) ?_
    rw [show numF t = -1 from if_neg (fun h => by rw [ho] at h; cases h.1)]; rfl
  · have hb0 := rb0
    try simp only [beq_iff_eq, bne_iff_ne, ne_eq, bne_eq_false_iff_eq, beq_eq_false_iff_ne, decide_eq_true_eq, decide_eq_false_iff_not, Bool.not_eq_true', Bool.not_eq_false', Bool.or_eq_true, Bool.and_eq_true, Bool.or_eq_false_iff, Bool.and_eq_false_iff] at hb0
    refine vwp_skip ?_
    apply_assumption
    refine vwp_seq_region rfl fun K hK => ?_
    simp (dsimp := false) only [push_cast, hP, hnt, hgw, hgb, Nat.reduceLT, Nat.reduceEqDiff, Nat.reduceAdd, Nat.reduceSub, Nat.reduceMul, Nat.reduceLeDiff, ↓reduceIte, reduceCtorEq, he]
    refine hK _ ?_; clear hK
    refine vwp_ret ?_
    refine ret_free (by simp (dsimp := false) only [push_cast, hP, hnt, hgw, hgb, Nat.reduceLT, Nat.reduceEqDiff, Nat.reduceAdd, Nat.reduceSub, Nat.reduceMul, Nat.reduceLeDiff, ↓reduceIte, reduceCtorEq, he]; rfl) (by simp (dsimp := false) only [push_cast, hP, hnt, hgw, hgb, Nat.reduceLT, Nat.reduceEqDiff, Nat.reduceAdd, Nat.reduceSub, Nat.reduceMul, Nat.reduceLeDiff, ↓reduceIte, reduceCtorEq, he]) ?_
    cases rb0
theorem number_call (gw : World) (hg : Glob gw) (t : ByteArray) (ht : t.size ≤ 1000000) : VCall Tryd.prog gw gw.heap.size 54 [.one (.c (.string t))] (.one (.c (.int .i64 (numF t)))) [] := by
  cases ho : atoiOk t with
  | true => exact number_ok gw hg t ht ho
  | false => exact number_bad gw hg t ht ho

end Go.Vm
end

section
namespace Go.Vm
open Go Go.RowKit Go.Proofs
set_option maxRecDepth 100000
set_option linter.unusedSimpArgs false
set_option linter.unusedVariables false
set_option maxHeartbeats 4000000

def bit1 (b : UInt8) : Bool := ((b.toNat : Int) == 49)
def unbitsF (s : ByteArray) : List Bool := if s.toList = (⟨#[45]⟩ : ByteArray).toList then [] else s.data.toList.map bit1
theorem byteAt_eq (s : ByteArray) (i : Int) : byteAt s i.toNat = atI s.data.toList i := rfl
end Go.Vm
end
