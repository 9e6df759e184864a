/-
  Walks of the program's functions by the framework, and what they compute (PtJ). Conditions: each theorem's own premises. By an AI agent.
-/
import Derived.Test.YtnpbndglolcilaaDoorPtH
import Derived.Test.YtnpbndglolcilaaDoorPtI
namespace Go.Vm
open Go Go.RowKit Go.Proofs
set_option maxRecDepth 100000
set_option linter.unusedSimpArgs false
set_option linter.unusedVariables false
set_option maxHeartbeats 4000000

theorem splitGo_len (c : UInt8) : ∀ (l acc : List UInt8), (splitGo c l acc).length ≤ l.length
  | [], acc => by simp [splitGo]
  | b :: r, acc => by
    unfold splitGo
    split
    · have := splitGo_len c r []; simp; omega
    · have := splitGo_len c r (acc ++ [b]); simp; omega
theorem splitR_len (s : ByteArray) (c : UInt8) : (splitR s c).length ≤ s.size := by
  unfold splitR; rw [List.length_map, size_list]; exact splitGo_len c _ _
def unsGo : Nat → List ByteArray → List Bool → List (List Bool) → Ver
  | _, [], fi, ins => ⟨2, fi, ins, 0, 0, [], 0⟩
  | i, x :: r, fi, ins => if i = 1 then unsGo (i + 1) r (unbitsF (restF x wfirst)) ins else unsGo (i + 1) r fi (ins ++ [unbitsF (restF x win)])
def unsF (l : List ByteArray) : Ver := unsGo 1 (l.drop 1) [] []
def refParse (l : List ByteArray) : Ver :=
  if (atI l 0).toList = wUNKNOWN.toList then ⟨3, [], [], 0, 0, [], 0⟩
  else if (atI l 0).toList = wSAFE.toList then ⟨1, [], [], (prfF (l.drop 1)).skip, (prfF (l.drop 1)).phases, (prfF (l.drop 1)).ands, (prfF (l.drop 1)).lit⟩
  else if (atI l 0).toList = wUNSAFE.toList then unsF l
  else ver0
def refVerF (s : ByteArray) : Ver × Int :=
  if (splitR s 10).length = 0 ∨ 40000 < s.size then (ver0, 12)
  else if (verdictF (refParse (splitR s 10))).2 ≠ 0 ∨ (verdictF (refParse (splitR s 10))).1.toList ≠ s.toList then (ver0, 12) else (refParse (splitR s 10), 0)
structure UnsAt (l : List ByteArray) (i : Int) (fi : List Bool) (ins : List (List Bool)) : Prop where
  eq : unsGo i.toNat (l.drop i.toNat) fi ins = unsF l
  len : (ins.length : Int) ≤ i
  fi : fi.length ≤ 100000
  each : ∀ x ∈ ins, x.length ≤ 100000
theorem uns_init (l : List ByteArray) : UnsAt l 1 [] [] := ⟨rfl, by simp, by simp, by simp⟩
theorem unbitsF_len (s : ByteArray) : (unbitsF s).length ≤ s.size := by
  unfold unbitsF; split
  · simp
  · rw [List.length_map, size_list]; exact Nat.le_refl _
theorem uns_one {l : List ByteArray} {i : Int} {fi : List Bool} {ins : List (List Bool)} (h0 : 0 ≤ i) (h1 : i < (l.length : Int)) (hs : ∀ x ∈ l, x.size ≤ 100000) (h : UnsAt l i fi ins) (hi : i = 1) : UnsAt l (i + 1) (unbitsF (restF (atI l i) wfirst)) ins := by
  obtain ⟨h2, h3, h4, h5⟩ := h
  rw [drop_atI h0 h1, unsGo, if_pos (by omega)] at h2
  refine ⟨by rwa [show (i + 1).toNat = i.toNat + 1 by omega], by omega, ?_, h5⟩
  have := unbitsF_len (restF (atI l i) wfirst)
  have := restF_size (atI l i) wfirst
  have := hs _ (atI_mem h0 h1)
  omega
theorem uns_more {l : List ByteArray} {i : Int} {fi : List Bool} {ins : List (List Bool)} (h0 : 0 ≤ i) (h1 : i < (l.length : Int)) (hs : ∀ x ∈ l, x.size ≤ 100000) (h : UnsAt l i fi ins) (hi : ¬ i = 1) : UnsAt l (i + 1) fi (ins ++ [unbitsF (restF (atI l i) win)]) := by
  obtain ⟨h2, h3, h4, h5⟩ := h
  rw [drop_atI h0 h1, unsGo, if_neg (by omega)] at h2
  refine ⟨by rwa [show (i + 1).toNat = i.toNat + 1 by omega], by rw [List.length_append]; simp; omega, h4, fun x hx => ?_⟩
  rcases List.mem_append.1 hx with hx | hx
  · exact h5 x hx
  · simp at hx
    subst hx
    have := unbitsF_len (restF (atI l i) win)
    have := restF_size (atI l i) win
    have := hs _ (atI_mem h0 h1)
    omega
theorem uns_end {l : List ByteArray} {i : Int} {fi : List Bool} {ins : List (List Bool)} (h1 : ¬ i < (l.length : Int)) (h : UnsAt l i fi ins) : (⟨2, fi, ins, 0, 0, [], 0⟩ : Ver) = unsF l := by
  have := h.eq
  rw [List.drop_eq_nil_of_le (by omega)] at this
  exact this
def bbP (l : List Bool) : PC := .sl true l.length (l.map (fun b => PC.c (Value.bool b)))
def rowBB (l : List (List Bool)) : Blk := .arr 37 1 l.length (l.map bbP)
attribute [push_cast] bbP
theorem bbP_free (l : List (List Bool)) : PC.frees (l.map bbP) = true := by
  rw [frees_map, List.all_eq_true]
  intro a _
  simp only [bbP, PC.free, boolP_free]
theorem prfGo_ands (n : Nat) : ∀ (l : List ByteArray) (i : Nat) (p : Ver), (prfGo n i l p).ands.length ≤ p.ands.length + l.length
  | [], i, p => by simp [prfGo]
  | x :: r, i, p => by
    rw [prfGo]
    have h1 := prfGo_ands n r (i + 1) (prfStep n i p x)
    have h2 : (prfStep n i p x).ands.length ≤ p.ands.length + 1 := by
      unfold prfStep
      repeat' split
      all_goals simp
    simp only [List.length_cons]; omega
theorem prfF_ands (l : List ByteArray) : (prfF l).ands.length ≤ l.length := by
  have := prfGo_ands l.length l 0 ver0
  simpa [ver0, prfF] using this
theorem row_tail {α : Type} (f : α → PC) (l : List α) : List.take ((List.drop 1 l).length * 1) (List.drop (Int.toNat 1 * 1) (List.map f l)) = List.map f (l.drop 1) := by
  rw [← List.map_drop, Nat.mul_one]
  exact List.take_of_length_le (by rw [List.length_map]; exact Nat.le_refl _)
theorem row_tail_len {α : Type} (l : List α) : ((l.length : Int) - 1).toNat = (l.drop 1).length := by rw [List.length_drop]; omega
theorem fit_small {k : Int} (a b : Int) (g : List (Int × Int)) (c : Int) (fi : List Bool) (ins : List (List Bool)) (h1 : fi.length ≤ 100000) (h2 : ins.length ≤ 100000) (h3 : g.length ≤ 100000) (h4 : ∀ x ∈ ins, x.length ≤ 100000) : Fit ⟨k, fi, ins, a, b, g, c⟩ := ⟨h1, h2, h3, h4⟩
theorem refVer_bad {s : ByteArray} (h : (splitR s 10).length = 0 ∨ 40000 < s.size) : refVerF s = (ver0, 12) := if_pos h
theorem refVer_no {s : ByteArray} {w : Ver} (h : ¬ ((splitR s 10).length = 0 ∨ 40000 < s.size)) (hw : refParse (splitR s 10) = w) (h2 : (verdictF w).2 ≠ 0 ∨ (verdictF w).1.toList ≠ s.toList) : refVerF s = (ver0, 12) := by
  unfold refVerF; rw [if_neg h, hw, if_pos h2]
theorem refVer_ok {s : ByteArray} {w : Ver} (h : ¬ ((splitR s 10).length = 0 ∨ 40000 < s.size)) (hw : refParse (splitR s 10) = w) (h2 : ¬ ((verdictF w).2 ≠ 0 ∨ (verdictF w).1.toList ≠ s.toList)) : refVerF s = (w, 0) := by
  unfold refVerF; rw [if_neg h, hw, if_neg h2]
theorem refReadVerdict_call (gw : World) (gb : Nat) (s : ByteArray) (hs : s.size ≤ 100000) : VCall Tryd.prog gw (gb) 18 [.one (.c (.string s))] (.tup [.agg ((refVerF s).1.pcs true), .one (.c (.int .i64 (refVerF s).2))]) [] := by
  have hls : ∀ x ∈ splitR s 10, x.size ≤ 100000 := splitR_size hs
  have hll : (splitR s 10).length ≤ 100000 := by have := splitR_len s 10; omega
  refine vcall_of [.cell 2 47, .tmp 3] Tryd.func18 rfl rfl Tryd.ntmps18 rfl (by simp) ?_
  intro C hP hnt hgw hgb hfull
  refine vwp_seq_region rfl fun K hK => ?_
  simp (dsimp := false) only [push_cast, hP, hnt, hgw, hgb, Nat.reduceLT, Nat.reduceEqDiff, Nat.reduceAdd, Nat.reduceSub, Nat.reduceMul, Nat.reduceLeDiff, ↓reduceIte, reduceCtorEq, row_tail, row_tail_len, Int.reduceLE, Int.reduceLT]
  refine hK _ ?_; clear hK
  refine vwp_seq_region rfl fun K hK => ?_
  simp (dsimp := false) only [push_cast, hP, hnt, hgw, hgb, Nat.reduceLT, Nat.reduceEqDiff, Nat.reduceAdd, Nat.reduceSub, Nat.reduceMul, Nat.reduceLeDiff, ↓reduceIte, reduceCtorEq, row_tail, row_tail_len, Int.reduceLE, Int.reduceLT]
  refine .inl (callE_intro (split10_call gw gb s (by omega)) (.inl ⟨by simp only [push_cast], rfl⟩) ?_)
  simp (dsimp := false) only [push_cast, hP, hnt, hgw, hgb, Nat.reduceLT, Nat.reduceEqDiff, Nat.reduceAdd, Nat.reduceSub, Nat.reduceMul, Nat.reduceLeDiff, ↓reduceIte, reduceCtorEq, row_tail, row_tail_len, Int.reduceLE, Int.reduceLT]
  refine hK _ ?_; clear hK
  refine vwp_seq fun K hK => ?_
  refine vwp_seq_regionG fun K hK => ?_
  simp (dsimp := false) only [push_cast, hP, hnt, hgw, hgb, Nat.reduceLT, Nat.reduceEqDiff, Nat.reduceAdd, Nat.reduceSub, Nat.reduceMul, Nat.reduceLeDiff, ↓reduceIte, reduceCtorEq, row_tail, row_tail_len, Int.reduceLE, Int.reduceLT]
  refine guardR_may (by simp (dsimp := false) only [push_cast, hP, hnt, hgw, hgb, Nat.reduceLT, Nat.reduceEqDiff, Nat.reduceAdd, Nat.reduceSub, Nat.reduceMul, Nat.reduceLeDiff, ↓reduceIte, reduceCtorEq, row_tail, row_tail_len, Int.reduceLE, Int.reduceLT, List.getElem?_cons_zero, List.getElem?_cons_succ]; rfl) ?_
  simp (dsimp := false) only [push_cast, hP, hnt, hgw, hgb, Nat.reduceLT, Nat.reduceEqDiff, Nat.reduceAdd, Nat.reduceSub, Nat.reduceMul, Nat.reduceLeDiff, ↓reduceIte, reduceCtorEq, row_tail, row_tail_len, Int.reduceLE, Int.reduceLT]
  refine guardR_may (by simp (dsimp := false) only [push_cast, hP, hnt, hgw, hgb, Nat.reduceLT, Nat.reduceEqDiff, Nat.reduceAdd, Nat.reduceSub, Nat.reduceMul, Nat.reduceLeDiff, ↓reduceIte, reduceCtorEq, row_tail, row_tail_len, Int.reduceLE, Int.reduceLT, List.getElem?_cons_zero, List.getElem?_cons_succ]; rfl) ?_
  simp (dsimp := false) only [push_cast, hP, hnt, hgw, hgb, Nat.reduceLT, Nat.reduceEqDiff, Nat.reduceAdd, Nat.reduceSub, Nat.reduceMul, Nat.reduceLeDiff, ↓reduceIte, reduceCtorEq, row_tail, row_tail_len, Int.reduceLE, Int.reduceLT]
  refine guardR_may (by simp (dsimp := false) only [push_cast, hP, hnt, hgw, hgb, Nat.reduceLT, Nat.reduceEqDiff, Nat.reduceAdd, Nat.reduceSub, Nat.reduceMul, Nat.reduceLeDiff, ↓reduceIte, reduceCtorEq, row_tail, row_tail_len, Int.reduceLE, Int.reduceLT, List.getElem?_cons_zero, List.getElem?_cons_succ]; rfl) ?_
  simp (dsimp := false) only [push_cast, hP, hnt, hgw, hgb, Nat.reduceLT, Nat.reduceEqDiff, Nat.reduceAdd, Nat.reduceSub, Nat.reduceMul, Nat.reduceLeDiff, ↓reduceIte, reduceCtorEq, row_tail, row_tail_len, Int.reduceLE, Int.reduceLT]
  refine hK _ ?_; clear hK
  refine vwp_cond (b := _) (by simp (dsimp := false) only [push_cast, hP, hnt, hgw, hgb, Nat.reduceLT, Nat.reduceEqDiff, Nat.reduceAdd, Nat.reduceSub, Nat.reduceMul, Nat.reduceLeDiff, ↓reduceIte, reduceCtorEq, row_tail, row_tail_len, Int.reduceLE, Int.reduceLT]; rfl) (fun rb0 => ?_) (fun rb0 => ?_)
  · have hb0 := rb0
    try simp only [beq_iff_eq, bne_iff_ne, ne_eq, bne_eq_false_iff_eq, beq_eq_false_iff_ne, decide_eq_true_eq, decide_eq_false_iff_not, Bool.not_eq_true', Bool.not_eq_false', Bool.or_eq_true, Bool.and_eq_true, Bool.or_eq_false_iff, Bool.and_eq_false_iff] at hb0
    refine vwp_seq_region rfl fun K hK => ?_
    simp (dsimp := false) only [push_cast, hP, hnt, hgw, hgb, Nat.reduceLT, Nat.reduceEqDiff, Nat.reduceAdd, Nat.reduceSub, Nat.reduceMul, Nat.reduceLeDiff, ↓reduceIte, reduceCtorEq, row_tail, row_tail_len, Int.reduceLE, Int.reduceLT]
    refine hK _ ?_; clear hK
    refine vwp_ret ?_
    refine ret_conv [] [] (by simp (dsimp := false) only [push_cast, hP, hnt, hgw, hgb, Nat.reduceLT, Nat.reduceEqDiff, Nat.reduceAdd, Nat.reduceSub, Nat.reduceMul, Nat.reduceLeDiff, ↓reduceIte, reduceCtorEq, row_tail, row_tail_len, Int.reduceLE, Int.reduceLT]; rfl) (by simp) (by simp) (by first | decide | simp) ?_ ?_
    · simp only [pack]
      rw [refVer_bad (s := s) (by have := hb0; omega)]
      repeat' (first | exact ConvVs.nil | exact ConvL.nil | refine ConvV.tup ?_ | refine ConvVs.cons ?_ ?_ | (refine ConvV.self ?_; simp only [push_cast, bbP_free, boolP_free, ands_free]; done) | refine ConvV.one ?_ | refine ConvV.agg ?_ | (refine ConvL.free ?_; simp only [push_cast, bbP_free, boolP_free, ands_free]; done) | refine ConvL.append ?_ ?_ | refine ConvL.cons ?_ ?_ | exact Conv.free rfl | exact Conv.nil | (refine Conv.own ?_; simp; done) | (refine Conv.loc ?_; simp; done) | refine Conv.frz (by simp) (by simp (dsimp := false) only [push_cast, ↓reduceIte, Nat.reduceEqDiff, Nat.reduceAdd, reduceCtorEq, row_tail, row_tail_len, Int.reduceLE, Int.reduceLT] <;> rfl) ?_ | refine Conv.sl (by simp) ?_ | refine Conv.fn ?_)
    · exact rb_nil
  · have hb0 := rb0
    try simp only [beq_iff_eq, bne_iff_ne, ne_eq, bne_eq_false_iff_eq, beq_eq_false_iff_ne, decide_eq_true_eq, decide_eq_false_iff_not, Bool.not_eq_true', Bool.not_eq_false', Bool.or_eq_true, Bool.and_eq_true, Bool.or_eq_false_iff, Bool.and_eq_false_iff] at hb0
    have hl0 : (0 : Int) < ((splitR s 10).length : Int) := by have := hb0; omega
    have hl1 : (1 : Int) ≤ ((splitR s 10).length : Int) := by omega
    have hd00 := dropI_map (fun s => PC.c (Value.string s)) (show (0 : Int) ≤ 0 by omega) hl0
    have hll2 : ((splitR s 10).length : Int) ≤ ((splitR s 10).length : Int) := Int.le_refl _
    refine vwp_skip ?_
    apply_assumption
    refine vwp_seq_region rfl fun K hK => ?_
    simp (dsimp := false) only [push_cast, hP, hnt, hgw, hgb, Nat.reduceLT, Nat.reduceEqDiff, Nat.reduceAdd, Nat.reduceSub, Nat.reduceMul, Nat.reduceLeDiff, ↓reduceIte, reduceCtorEq, row_tail, row_tail_len, Int.reduceLE, Int.reduceLT, hl0, hl1, hd00, hll2]
    refine hK _ ?_; clear hK
    refine vwp_seq fun K hK => ?_
    refine vwp_seq_region rfl fun K hK => ?_
    simp (dsimp := false) only [push_cast, hP, hnt, hgw, hgb, Nat.reduceLT, Nat.reduceEqDiff, Nat.reduceAdd, Nat.reduceSub, Nat.reduceMul, Nat.reduceLeDiff, ↓reduceIte, reduceCtorEq, row_tail, row_tail_len, Int.reduceLE, Int.reduceLT, hl0, hl1, hd00, hll2]
    refine hK _ ?_; clear hK
    refine vwp_block ?_
    refine vwp_seq_region rfl fun K hK => ?_
    simp (dsimp := false) only [push_cast, hP, hnt, hgw, hgb, Nat.reduceLT, Nat.reduceEqDiff, Nat.reduceAdd, Nat.reduceSub, Nat.reduceMul, Nat.reduceLeDiff, ↓reduceIte, reduceCtorEq, row_tail, row_tail_len, Int.reduceLE, Int.reduceLT, hl0, hl1, hd00, hll2]
    refine hK _ ?_; clear hK
    refine vwp_cond (b := _) (by simp (dsimp := false) only [push_cast, hP, hnt, hgw, hgb, Nat.reduceLT, Nat.reduceEqDiff, Nat.reduceAdd, Nat.reduceSub, Nat.reduceMul, Nat.reduceLeDiff, ↓reduceIte, reduceCtorEq, row_tail, row_tail_len, Int.reduceLE, Int.reduceLT, hl0, hl1, hd00, hll2]; rfl) (fun rb1 => ?_) (fun rb1 => ?_)
    · have hb1 := rb1
      try simp only [beq_iff_eq, bne_iff_ne, ne_eq, bne_eq_false_iff_eq, beq_eq_false_iff_ne, decide_eq_true_eq, decide_eq_false_iff_not, Bool.not_eq_true', Bool.not_eq_false', Bool.or_eq_true, Bool.and_eq_true, Bool.or_eq_false_iff, Bool.and_eq_false_iff] at hb1
      refine vwp_region rfl ?_
      simp (dsimp := false) only [push_cast, hP, hnt, hgw, hgb, Nat.reduceLT, Nat.reduceEqDiff, Nat.reduceAdd, Nat.reduceSub, Nat.reduceMul, Nat.reduceLeDiff, ↓reduceIte, reduceCtorEq, row_tail, row_tail_len, Int.reduceLE, Int.reduceLT, hl0, hl1, hd00, hll2]
      apply_assumption
      refine vwp_seq fun K hK => ?_
      refine vwp_seq_region rfl fun K hK => ?_
      simp (dsimp := false) only [push_cast, hP, hnt, hgw, hgb, Nat.reduceLT, Nat.reduceEqDiff, Nat.reduceAdd, Nat.reduceSub, Nat.reduceMul, Nat.reduceLeDiff, ↓reduceIte, reduceCtorEq, row_tail, row_tail_len, Int.reduceLE, Int.reduceLT, hl0, hl1, hd00, hll2]
      refine .inl (callE_intro (refVerdict_call gw gb (⟨3, [], [], 0, 0, [], 0⟩ : Ver) (fit_small _ _ _ _ _ _ (by simp) (by simp) (by simp) (by simp))) (.inl ⟨rfl, rfl⟩) ?_)
      simp (dsimp := false) only [push_cast, hP, hnt, hgw, hgb, Nat.reduceLT, Nat.reduceEqDiff, Nat.reduceAdd, Nat.reduceSub, Nat.reduceMul, Nat.reduceLeDiff, ↓reduceIte, reduceCtorEq, row_tail, row_tail_len, Int.reduceLE, Int.reduceLT, hl0, hl1, hd00, hll2]
      refine hK _ ?_; clear hK
      refine vwp_seq_regionG fun K hK => ?_
      simp (dsimp := false) only [push_cast, hP, hnt, hgw, hgb, Nat.reduceLT, Nat.reduceEqDiff, Nat.reduceAdd, Nat.reduceSub, Nat.reduceMul, Nat.reduceLeDiff, ↓reduceIte, reduceCtorEq, row_tail, row_tail_len, Int.reduceLE, Int.reduceLT, hl0, hl1, hd00, hll2]
      refine guardR_may (by simp (dsimp := false) only [push_cast, hP, hnt, hgw, hgb, Nat.reduceLT, Nat.reduceEqDiff, Nat.reduceAdd, Nat.reduceSub, Nat.reduceMul, Nat.reduceLeDiff, ↓reduceIte, reduceCtorEq, row_tail, row_tail_len, Int.reduceLE, Int.reduceLT, hl0, hl1, hd00, hll2, List.getElem?_cons_zero, List.getElem?_cons_succ]; rfl) ?_
      simp (dsimp := false) only [push_cast, hP, hnt, hgw, hgb, Nat.reduceLT, Nat.reduceEqDiff, Nat.reduceAdd, Nat.reduceSub, Nat.reduceMul, Nat.reduceLeDiff, ↓reduceIte, reduceCtorEq, row_tail, row_tail_len, Int.reduceLE, Int.reduceLT, hl0, hl1, hd00, hll2]
      refine guardR_may (by simp (dsimp := false) only [push_cast, hP, hnt, hgw, hgb, Nat.reduceLT, Nat.reduceEqDiff, Nat.reduceAdd, Nat.reduceSub, Nat.reduceMul, Nat.reduceLeDiff, ↓reduceIte, reduceCtorEq, row_tail, row_tail_len, Int.reduceLE, Int.reduceLT, hl0, hl1, hd00, hll2, List.getElem?_cons_zero, List.getElem?_cons_succ]; rfl) ?_
      simp (dsimp := false) only [push_cast, hP, hnt, hgw, hgb, Nat.reduceLT, Nat.reduceEqDiff, Nat.reduceAdd, Nat.reduceSub, Nat.reduceMul, Nat.reduceLeDiff, ↓reduceIte, reduceCtorEq, row_tail, row_tail_len, Int.reduceLE, Int.reduceLT, hl0, hl1, hd00, hll2]
      refine guardR_may (by simp (dsimp := false) only [push_cast, hP, hnt, hgw, hgb, Nat.reduceLT, Nat.reduceEqDiff, Nat.reduceAdd, Nat.reduceSub, Nat.reduceMul, Nat.reduceLeDiff, ↓reduceIte, reduceCtorEq, row_tail, row_tail_len, Int.reduceLE, Int.reduceLT, hl0, hl1, hd00, hll2, List.getElem?_cons_zero, List.getElem?_cons_succ]; rfl) ?_
      simp (dsimp := false) only [push_cast, hP, hnt, hgw, hgb, Nat.reduceLT, Nat.reduceEqDiff, Nat.reduceAdd, Nat.reduceSub, Nat.reduceMul, Nat.reduceLeDiff, ↓reduceIte, reduceCtorEq, row_tail, row_tail_len, Int.reduceLE, Int.reduceLT, hl0, hl1, hd00, hll2]
      refine hK _ ?_; clear hK
      refine vwp_cond (b := _) (by simp (dsimp := false) only [push_cast, hP, hnt, hgw, hgb, Nat.reduceLT, Nat.reduceEqDiff, Nat.reduceAdd, Nat.reduceSub, Nat.reduceMul, Nat.reduceLeDiff, ↓reduceIte, reduceCtorEq, row_tail, row_tail_len, Int.reduceLE, Int.reduceLT, hl0, hl1, hd00, hll2]; rfl) (fun rb2 => ?_) (fun rb2 => ?_)
      · have hb2 := rb2
        try simp only [beq_iff_eq, bne_iff_ne, ne_eq, bne_eq_false_iff_eq, beq_eq_false_iff_ne, decide_eq_true_eq, decide_eq_false_iff_not, Bool.not_eq_true', Bool.not_eq_false', Bool.or_eq_true, Bool.and_eq_true, Bool.or_eq_false_iff, Bool.and_eq_false_iff] at hb2
        refine vwp_seq_region rfl fun K hK => ?_
        simp (dsimp := false) only [push_cast, hP, hnt, hgw, hgb, Nat.reduceLT, Nat.reduceEqDiff, Nat.reduceAdd, Nat.reduceSub, Nat.reduceMul, Nat.reduceLeDiff, ↓reduceIte, reduceCtorEq, row_tail, row_tail_len, Int.reduceLE, Int.reduceLT, hl0, hl1, hd00, hll2]
        refine hK _ ?_; clear hK
        refine vwp_ret ?_
        refine ret_conv [] [] (by simp (dsimp := false) only [push_cast, hP, hnt, hgw, hgb, Nat.reduceLT, Nat.reduceEqDiff, Nat.reduceAdd, Nat.reduceSub, Nat.reduceMul, Nat.reduceLeDiff, ↓reduceIte, reduceCtorEq, row_tail, row_tail_len, Int.reduceLE, Int.reduceLT, hl0, hl1, hd00, hll2]; rfl) (by simp) (by simp) (by first | decide | simp) ?_ ?_
        · simp only [pack]
          rw [refVer_no (s := s) (by have := hb0; omega) (w := (⟨3, [], [], 0, 0, [], 0⟩ : Ver)) (by unfold refParse; exact if_pos hb1) (by first | exact hb2 | (have h := hb2; simpa [not_or, Decidable.or_iff_not_imp_left] using h))]
          repeat' (first | exact ConvVs.nil | exact ConvL.nil | refine ConvV.tup ?_ | refine ConvVs.cons ?_ ?_ | (refine ConvV.self ?_; simp only [push_cast, bbP_free, boolP_free, ands_free]; done) | refine ConvV.one ?_ | refine ConvV.agg ?_ | (refine ConvL.free ?_; simp only [push_cast, bbP_free, boolP_free, ands_free]; done) | refine ConvL.append ?_ ?_ | refine ConvL.cons ?_ ?_ | exact Conv.free rfl | exact Conv.nil | (refine Conv.own ?_; simp; done) | (refine Conv.loc ?_; simp; done) | refine Conv.frz (by simp) (by simp (dsimp := false) only [push_cast, ↓reduceIte, Nat.reduceEqDiff, Nat.reduceAdd, reduceCtorEq, row_tail, row_tail_len, Int.reduceLE, Int.reduceLT, hl0, hl1, hd00, hll2] <;> rfl) ?_ | refine Conv.sl (by simp) ?_ | refine Conv.fn ?_)
        · exact rb_nil
      · have hb2 := rb2
        try simp only [beq_iff_eq, bne_iff_ne, ne_eq, bne_eq_false_iff_eq, beq_eq_false_iff_ne, decide_eq_true_eq, decide_eq_false_iff_not, Bool.not_eq_true', Bool.not_eq_false', Bool.or_eq_true, Bool.and_eq_true, Bool.or_eq_false_iff, Bool.and_eq_false_iff] at hb2
        refine vwp_skip ?_
        apply_assumption
        refine vwp_seq_region rfl fun K hK => ?_
        simp (dsimp := false) only [push_cast, hP, hnt, hgw, hgb, Nat.reduceLT, Nat.reduceEqDiff, Nat.reduceAdd, Nat.reduceSub, Nat.reduceMul, Nat.reduceLeDiff, ↓reduceIte, reduceCtorEq, row_tail, row_tail_len, Int.reduceLE, Int.reduceLT, hl0, hl1, hd00, hll2]
        refine hK _ ?_; clear hK
        refine vwp_ret ?_
        refine ret_conv [] [] (by simp (dsimp := false) only [push_cast, hP, hnt, hgw, hgb, Nat.reduceLT, Nat.reduceEqDiff, Nat.reduceAdd, Nat.reduceSub, Nat.reduceMul, Nat.reduceLeDiff, ↓reduceIte, reduceCtorEq, row_tail, row_tail_len, Int.reduceLE, Int.reduceLT, hl0, hl1, hd00, hll2]; rfl) (by simp) (by simp) (by first | decide | simp) ?_ ?_
        · simp only [pack]
          rw [refVer_ok (s := s) (by have := hb0; omega) (w := (⟨3, [], [], 0, 0, [], 0⟩ : Ver)) (by unfold refParse; exact if_pos hb1) (by have h := hb2; intro g; rcases g with g | g; exact g h.1; exact g h.2)]
          repeat' (first | exact ConvVs.nil | exact ConvL.nil | refine ConvV.tup ?_ | refine ConvVs.cons ?_ ?_ | (refine ConvV.self ?_; simp only [push_cast, bbP_free, boolP_free, ands_free]; done) | refine ConvV.one ?_ | refine ConvV.agg ?_ | (refine ConvL.free ?_; simp only [push_cast, bbP_free, boolP_free, ands_free]; done) | refine ConvL.append ?_ ?_ | refine ConvL.cons ?_ ?_ | exact Conv.free rfl | exact Conv.nil | (refine Conv.own ?_; simp; done) | (refine Conv.loc ?_; simp; done) | refine Conv.frz (by simp) (by simp (dsimp := false) only [push_cast, ↓reduceIte, Nat.reduceEqDiff, Nat.reduceAdd, reduceCtorEq, row_tail, row_tail_len, Int.reduceLE, Int.reduceLT, hl0, hl1, hd00, hll2] <;> rfl) ?_ | refine Conv.sl (by simp) ?_ | refine Conv.fn ?_)
        · exact rb_nil
    · have hb1 := rb1
      try simp only [beq_iff_eq, bne_iff_ne, ne_eq, bne_eq_false_iff_eq, beq_eq_false_iff_ne, decide_eq_true_eq, decide_eq_false_iff_not, Bool.not_eq_true', Bool.not_eq_false', Bool.or_eq_true, Bool.and_eq_true, Bool.or_eq_false_iff, Bool.and_eq_false_iff] at hb1
      refine vwp_seq_region rfl fun K hK => ?_
      simp (dsimp := false) only [push_cast, hP, hnt, hgw, hgb, Nat.reduceLT, Nat.reduceEqDiff, Nat.reduceAdd, Nat.reduceSub, Nat.reduceMul, Nat.reduceLeDiff, ↓reduceIte, reduceCtorEq, row_tail, row_tail_len, Int.reduceLE, Int.reduceLT, hl0, hl1, hd00, hll2]
      refine hK _ ?_; clear hK
      refine vwp_cond (b := _) (by simp (dsimp := false) only [push_cast, hP, hnt, hgw, hgb, Nat.reduceLT, Nat.reduceEqDiff, Nat.reduceAdd, Nat.reduceSub, Nat.reduceMul, Nat.reduceLeDiff, ↓reduceIte, reduceCtorEq, row_tail, row_tail_len, Int.reduceLE, Int.reduceLT, hl0, hl1, hd00, hll2]; rfl) (fun rb3 => ?_) (fun rb3 => ?_)
      · have hb3 := rb3
        try simp only [beq_iff_eq, bne_iff_ne, ne_eq, bne_eq_false_iff_eq, beq_eq_false_iff_ne, decide_eq_true_eq, decide_eq_false_iff_not, Bool.not_eq_true', Bool.not_eq_false', Bool.or_eq_true, Bool.and_eq_true, Bool.or_eq_false_iff, Bool.and_eq_false_iff] at hb3
        refine vwp_region rfl ?_
        simp (dsimp := false) only [push_cast, hP, hnt, hgw, hgb, Nat.reduceLT, Nat.reduceEqDiff, Nat.reduceAdd, Nat.reduceSub, Nat.reduceMul, Nat.reduceLeDiff, ↓reduceIte, reduceCtorEq, row_tail, row_tail_len, Int.reduceLE, Int.reduceLT, hl0, hl1, hd00, hll2]
        refine .inl (callE_intro (refProof_call gw gb ((splitR s 10).drop 1) (by rw [List.length_drop]; omega) (fun x hx => hls x (List.mem_of_mem_drop hx))) (.inl ⟨by simp only [push_cast], rfl⟩) ?_)
        simp (dsimp := false) only [push_cast, hP, hnt, hgw, hgb, Nat.reduceLT, Nat.reduceEqDiff, Nat.reduceAdd, Nat.reduceSub, Nat.reduceMul, Nat.reduceLeDiff, ↓reduceIte, reduceCtorEq, row_tail, row_tail_len, Int.reduceLE, Int.reduceLT, hl0, hl1, hd00, hll2]
        apply_assumption
        refine vwp_seq fun K hK => ?_
        refine vwp_seq_region rfl fun K hK => ?_
        simp (dsimp := false) only [push_cast, hP, hnt, hgw, hgb, Nat.reduceLT, Nat.reduceEqDiff, Nat.reduceAdd, Nat.reduceSub, Nat.reduceMul, Nat.reduceLeDiff, ↓reduceIte, reduceCtorEq, row_tail, row_tail_len, Int.reduceLE, Int.reduceLT, hl0, hl1, hd00, hll2]
        refine .inl (callE_intro (refVerdict_call gw gb (⟨1, [], [], (prfF ((splitR s 10).drop 1)).skip, (prfF ((splitR s 10).drop 1)).phases, (prfF ((splitR s 10).drop 1)).ands, (prfF ((splitR s 10).drop 1)).lit⟩ : Ver) (fit_small _ _ _ _ _ _ (by simp) (by simp) (by have := prfF_ands ((splitR s 10).drop 1); rw [List.length_drop] at this; omega) (by simp))) (.inl ⟨rfl, rfl⟩) ?_)
        simp (dsimp := false) only [push_cast, hP, hnt, hgw, hgb, Nat.reduceLT, Nat.reduceEqDiff, Nat.reduceAdd, Nat.reduceSub, Nat.reduceMul, Nat.reduceLeDiff, ↓reduceIte, reduceCtorEq, row_tail, row_tail_len, Int.reduceLE, Int.reduceLT, hl0, hl1, hd00, hll2]
        refine hK _ ?_; clear hK
        refine vwp_seq_regionG fun K hK => ?_
        simp (dsimp := false) only [push_cast, hP, hnt, hgw, hgb, Nat.reduceLT, Nat.reduceEqDiff, Nat.reduceAdd, Nat.reduceSub, Nat.reduceMul, Nat.reduceLeDiff, ↓reduceIte, reduceCtorEq, row_tail, row_tail_len, Int.reduceLE, Int.reduceLT, hl0, hl1, hd00, hll2]
        refine guardR_may (by simp (dsimp := false) only [push_cast, hP, hnt, hgw, hgb, Nat.reduceLT, Nat.reduceEqDiff, Nat.reduceAdd, Nat.reduceSub, Nat.reduceMul, Nat.reduceLeDiff, ↓reduceIte, reduceCtorEq, row_tail, row_tail_len, Int.reduceLE, Int.reduceLT, hl0, hl1, hd00, hll2, List.getElem?_cons_zero, List.getElem?_cons_succ]; rfl) ?_
        simp (dsimp := false) only [push_cast, hP, hnt, hgw, hgb, Nat.reduceLT, Nat.reduceEqDiff, Nat.reduceAdd, Nat.reduceSub, Nat.reduceMul, Nat.reduceLeDiff, ↓reduceIte, reduceCtorEq, row_tail, row_tail_len, Int.reduceLE, Int.reduceLT, hl0, hl1, hd00, hll2]
        refine guardR_may (by simp (dsimp := false) only [push_cast, hP, hnt, hgw, hgb, Nat.reduceLT, Nat.reduceEqDiff, Nat.reduceAdd, Nat.reduceSub, Nat.reduceMul, Nat.reduceLeDiff, ↓reduceIte, reduceCtorEq, row_tail, row_tail_len, Int.reduceLE, Int.reduceLT, hl0, hl1, hd00, hll2, List.getElem?_cons_zero, List.getElem?_cons_succ]; rfl) ?_
        simp (dsimp := false) only [push_cast, hP, hnt, hgw, hgb, Nat.reduceLT, Nat.reduceEqDiff, Nat.reduceAdd, Nat.reduceSub, Nat.reduceMul, Nat.reduceLeDiff, ↓reduceIte, reduceCtorEq, row_tail, row_tail_len, Int.reduceLE, Int.reduceLT, hl0, hl1, hd00, hll2]
        refine guardR_may (by simp (dsimp := false) only [push_cast, hP, hnt, hgw, hgb, Nat.reduceLT, Nat.reduceEqDiff, Nat.reduceAdd, Nat.reduceSub, Nat.reduceMul, Nat.reduceLeDiff, ↓reduceIte, reduceCtorEq, row_tail, row_tail_len, Int.reduceLE, Int.reduceLT, hl0, hl1, hd00, hll2, List.getElem?_cons_zero, List.getElem?_cons_succ]; rfl) ?_
        simp (dsimp := false) only [push_cast, hP, hnt, hgw, hgb, Nat.reduceLT, Nat.reduceEqDiff, Nat.reduceAdd, Nat.reduceSub, Nat.reduceMul, Nat.reduceLeDiff, ↓reduceIte, reduceCtorEq, row_tail, row_tail_len, Int.reduceLE, Int.reduceLT, hl0, hl1, hd00, hll2]
        refine hK _ ?_; clear hK
        refine vwp_cond (b := _) (by simp (dsimp := false) only [push_cast, hP, hnt, hgw, hgb, Nat.reduceLT, Nat.reduceEqDiff, Nat.reduceAdd, Nat.reduceSub, Nat.reduceMul, Nat.reduceLeDiff, ↓reduceIte, reduceCtorEq, row_tail, row_tail_len, Int.reduceLE, Int.reduceLT, hl0, hl1, hd00, hll2]; rfl) (fun rb4 => ?_) (fun rb4 => ?_)
        · have hb4 := rb4
          try simp only [beq_iff_eq, bne_iff_ne, ne_eq, bne_eq_false_iff_eq, beq_eq_false_iff_ne, decide_eq_true_eq, decide_eq_false_iff_not, Bool.not_eq_true', Bool.not_eq_false', Bool.or_eq_true, Bool.and_eq_true, Bool.or_eq_false_iff, Bool.and_eq_false_iff] at hb4
          refine vwp_seq_region rfl fun K hK => ?_
          simp (dsimp := false) only [push_cast, hP, hnt, hgw, hgb, Nat.reduceLT, Nat.reduceEqDiff, Nat.reduceAdd, Nat.reduceSub, Nat.reduceMul, Nat.reduceLeDiff, ↓reduceIte, reduceCtorEq, row_tail, row_tail_len, Int.reduceLE, Int.reduceLT, hl0, hl1, hd00, hll2]
          refine hK _ ?_; clear hK
          refine vwp_ret ?_
          refine ret_conv [] [] (by simp (dsimp := false) only [push_cast, hP, hnt, hgw, hgb, Nat.reduceLT, Nat.reduceEqDiff, Nat.reduceAdd, Nat.reduceSub, Nat.reduceMul, Nat.reduceLeDiff, ↓reduceIte, reduceCtorEq, row_tail, row_tail_len, Int.reduceLE, Int.reduceLT, hl0, hl1, hd00, hll2]; rfl) (by simp) (by simp) (by first | decide | simp) ?_ ?_
          · simp only [pack]
            rw [refVer_no (s := s) (by have := hb0; omega) (w := (⟨1, [], [], (prfF ((splitR s 10).drop 1)).skip, (prfF ((splitR s 10).drop 1)).phases, (prfF ((splitR s 10).drop 1)).ands, (prfF ((splitR s 10).drop 1)).lit⟩ : Ver)) (by unfold refParse; exact (if_neg hb1).trans (if_pos hb3)) (by first | exact hb4 | (have h := hb4; simpa [not_or, Decidable.or_iff_not_imp_left] using h))]
            repeat' (first | exact ConvVs.nil | exact ConvL.nil | refine ConvV.tup ?_ | refine ConvVs.cons ?_ ?_ | (refine ConvV.self ?_; simp only [push_cast, bbP_free, boolP_free, ands_free]; done) | refine ConvV.one ?_ | refine ConvV.agg ?_ | (refine ConvL.free ?_; simp only [push_cast, bbP_free, boolP_free, ands_free]; done) | refine ConvL.append ?_ ?_ | refine ConvL.cons ?_ ?_ | exact Conv.free rfl | exact Conv.nil | (refine Conv.own ?_; simp; done) | (refine Conv.loc ?_; simp; done) | refine Conv.frz (by simp) (by simp (dsimp := false) only [push_cast, ↓reduceIte, Nat.reduceEqDiff, Nat.reduceAdd, reduceCtorEq, row_tail, row_tail_len, Int.reduceLE, Int.reduceLT, hl0, hl1, hd00, hll2] <;> rfl) ?_ | refine Conv.sl (by simp) ?_ | refine Conv.fn ?_)
          · exact rb_nil
        · have hb4 := rb4
          try simp only [beq_iff_eq, bne_iff_ne, ne_eq, bne_eq_false_iff_eq, beq_eq_false_iff_ne, decide_eq_true_eq, decide_eq_false_iff_not, Bool.not_eq_true', Bool.not_eq_false', Bool.or_eq_true, Bool.and_eq_true, Bool.or_eq_false_iff, Bool.and_eq_false_iff] at hb4
          refine vwp_skip ?_
          apply_assumption
          refine vwp_seq_region rfl fun K hK => ?_
          simp (dsimp := false) only [push_cast, hP, hnt, hgw, hgb, Nat.reduceLT, Nat.reduceEqDiff, Nat.reduceAdd, Nat.reduceSub, Nat.reduceMul, Nat.reduceLeDiff, ↓reduceIte, reduceCtorEq, row_tail, row_tail_len, Int.reduceLE, Int.reduceLT, hl0, hl1, hd00, hll2]
          refine hK _ ?_; clear hK
          refine vwp_ret ?_
          refine ret_conv [] [] (by simp (dsimp := false) only [push_cast, hP, hnt, hgw, hgb, Nat.reduceLT, Nat.reduceEqDiff, Nat.reduceAdd, Nat.reduceSub, Nat.reduceMul, Nat.reduceLeDiff, ↓reduceIte, reduceCtorEq, row_tail, row_tail_len, Int.reduceLE, Int.reduceLT, hl0, hl1, hd00, hll2]; rfl) (by simp) (by simp) (by first | decide | simp) ?_ ?_
          · simp only [pack]
            rw [refVer_ok (s := s) (by have := hb0; omega) (w := (⟨1, [], [], (prfF ((splitR s 10).drop 1)).skip, (prfF ((splitR s 10).drop 1)).phases, (prfF ((splitR s 10).drop 1)).ands, (prfF ((splitR s 10).drop 1)).lit⟩ : Ver)) (by unfold refParse; exact (if_neg hb1).trans (if_pos hb3)) (by have h := hb4; intro g; rcases g with g | g; exact g h.1; exact g h.2)]
            repeat' (first | exact ConvVs.nil | exact ConvL.nil | refine ConvV.tup ?_ | refine ConvVs.cons ?_ ?_ | (refine ConvV.self ?_; simp only [push_cast, bbP_free, boolP_free, ands_free]; done) | refine ConvV.one ?_ | refine ConvV.agg ?_ | (refine ConvL.free ?_; simp only [push_cast, bbP_free, boolP_free, ands_free]; done) | refine ConvL.append ?_ ?_ | refine ConvL.cons ?_ ?_ | exact Conv.free rfl | exact Conv.nil | (refine Conv.own ?_; simp; done) | (refine Conv.loc ?_; simp; done) | refine Conv.frz (by simp) (by simp (dsimp := false) only [push_cast, ↓reduceIte, Nat.reduceEqDiff, Nat.reduceAdd, reduceCtorEq, row_tail, row_tail_len, Int.reduceLE, Int.reduceLT, hl0, hl1, hd00, hll2] <;> rfl) ?_ | refine Conv.sl (by simp) ?_ | refine Conv.fn ?_)
          · exact rb_nil
      · have hb3 := rb3
        try simp only [beq_iff_eq, bne_iff_ne, ne_eq, bne_eq_false_iff_eq, beq_eq_false_iff_ne, decide_eq_true_eq, decide_eq_false_iff_not, Bool.not_eq_true', Bool.not_eq_false', Bool.or_eq_true, Bool.and_eq_true, Bool.or_eq_false_iff, Bool.and_eq_false_iff] at hb3
        refine vwp_seq_region rfl fun K hK => ?_
        simp (dsimp := false) only [push_cast, hP, hnt, hgw, hgb, Nat.reduceLT, Nat.reduceEqDiff, Nat.reduceAdd, Nat.reduceSub, Nat.reduceMul, Nat.reduceLeDiff, ↓reduceIte, reduceCtorEq, row_tail, row_tail_len, Int.reduceLE, Int.reduceLT, hl0, hl1, hd00, hll2]
        refine hK _ ?_; clear hK
        refine vwp_cond (b := _) (by simp (dsimp := false) only [push_cast, hP, hnt, hgw, hgb, Nat.reduceLT, Nat.reduceEqDiff, Nat.reduceAdd, Nat.reduceSub, Nat.reduceMul, Nat.reduceLeDiff, ↓reduceIte, reduceCtorEq, row_tail, row_tail_len, Int.reduceLE, Int.reduceLT, hl0, hl1, hd00, hll2]; rfl) (fun rb5 => ?_) (fun rb5 => ?_)
        · have hb5 := rb5
          try simp only [beq_iff_eq, bne_iff_ne, ne_eq, bne_eq_false_iff_eq, beq_eq_false_iff_ne, decide_eq_true_eq, decide_eq_false_iff_not, Bool.not_eq_true', Bool.not_eq_false', Bool.or_eq_true, Bool.and_eq_true, Bool.or_eq_false_iff, Bool.and_eq_false_iff] at hb5
          refine vwp_seq_region rfl fun K hK => ?_
          simp (dsimp := false) only [push_cast, hP, hnt, hgw, hgb, Nat.reduceLT, Nat.reduceEqDiff, Nat.reduceAdd, Nat.reduceSub, Nat.reduceMul, Nat.reduceLeDiff, ↓reduceIte, reduceCtorEq, row_tail, row_tail_len, Int.reduceLE, Int.reduceLT, hl0, hl1, hd00, hll2]
          refine hK _ ?_; clear hK
          refine vwp_seq_region rfl fun K hK => ?_
          simp (dsimp := false) only [push_cast, hP, hnt, hgw, hgb, Nat.reduceLT, Nat.reduceEqDiff, Nat.reduceAdd, Nat.reduceSub, Nat.reduceMul, Nat.reduceLeDiff, ↓reduceIte, reduceCtorEq, row_tail, row_tail_len, Int.reduceLE, Int.reduceLT, hl0, hl1, hd00, hll2]
          refine hK _ ?_; clear hK
          refine vwp_wk (wk_nil_cell (i := (6, 0)) (k := 2) (d := 53) 37 1 (by first | (simp (dsimp := false) only [push_cast, hP, hnt, hgw, hgb, Nat.reduceLT, Nat.reduceEqDiff, Nat.reduceAdd, Nat.reduceSub, Nat.reduceMul, Nat.reduceLeDiff, ↓reduceIte, reduceCtorEq, row_tail, row_tail_len, Int.reduceLE, Int.reduceLT, hl0, hl1, hd00, hll2]; rfl) | (simp (dsimp := false) only [push_cast, hP, hnt, hgw, hgb, Nat.reduceLT, Nat.reduceEqDiff, Nat.reduceAdd, Nat.reduceSub, Nat.reduceMul, Nat.reduceLeDiff, ↓reduceIte, reduceCtorEq, row_tail, row_tail_len, Int.reduceLE, Int.reduceLT, hl0, hl1, hd00, hll2]; done)) rfl (by first | (simp (dsimp := false) only [push_cast, hP, hnt, hgw, hgb, Nat.reduceLT, Nat.reduceEqDiff, Nat.reduceAdd, Nat.reduceSub, Nat.reduceMul, Nat.reduceLeDiff, ↓reduceIte, reduceCtorEq, row_tail, row_tail_len, Int.reduceLE, Int.reduceLT, hl0, hl1, hd00, hll2]; done) | (simp (dsimp := false) only [push_cast, hP, hnt, hgw, hgb, Nat.reduceLT, Nat.reduceEqDiff, Nat.reduceAdd, Nat.reduceSub, Nat.reduceMul, Nat.reduceLeDiff, ↓reduceIte, reduceCtorEq, row_tail, row_tail_len, Int.reduceLE, Int.reduceLT, hl0, hl1, hd00, hll2]; rfl))) ?_
          simp only [List.set]
          simp (dsimp := false) only [push_cast, hP, hnt, hgw, hgb, Nat.reduceLT, Nat.reduceEqDiff, Nat.reduceAdd, Nat.reduceSub, Nat.reduceMul, Nat.reduceLeDiff, ↓reduceIte, reduceCtorEq, row_tail, row_tail_len, Int.reduceLE, Int.reduceLT, hl0, hl1, hd00, hll2]
          refine vwp_block ?_
          refine vwp_loop (fun m σ => ∃ (i : Int) (fi : List Bool) (ins : List (List Bool)), m = ((splitR s 10).length - i).toNat ∧ ((1 ≤ i) ∧ (i ≤ (splitR s 10).length) ∧ (UnsAt (splitR s 10) i fi ins)) ∧ σ = St.of [(0, .one (.c (.string s))), (2, .one (.loc (3, 0) 0)), (4, .one (.sl true (splitR s 10).length ((splitR s 10).map fun s => .c (.string s)))), (5, .one (.loc (6, 0) 0)), (6, .one (.c (.int .i64 i)))] [((3, 0), .box 47 [.c (.int .u8 0), .c (.slice none 0 0), .c (.slice none 0 0), .c (.int .i64 0), .c (.int .i64 0), .c (.slice none 0 0), .c (.int .i64 0)]), ((6, 0), .box 47 [.c (.int .u8 2), bbP fi, .own (54, 0), .c (.int .i64 0), .c (.int .i64 0), .c (.slice none 0 0), .c (.int .i64 0)]), ((54, 0), rowBB ins)] [2, 5, 53]) _ ⟨_, ?_, 1, [], [], rfl, ?_, rfl⟩ ?_
          · refine wk_conv [] [((3, 0), (3, 0)), ((6, 0), (6, 0)), ((54, 0), (54, 0))] (by simp) (by simp) (by decide) ?_ ?_
            · refine hf_cons (by simp (dsimp := false) only [push_cast, ↓reduceIte, Nat.reduceEqDiff, Nat.reduceAdd, reduceCtorEq, row_tail, row_tail_len, Int.reduceLE, Int.reduceLT, hl0, hl1, hd00, hll2] <;> rfl) (by exact ConvV.self rfl) ?_
              refine hf_cons (by simp (dsimp := false) only [push_cast, ↓reduceIte, Nat.reduceEqDiff, Nat.reduceAdd, reduceCtorEq, row_tail, row_tail_len, Int.reduceLE, Int.reduceLT, hl0, hl1, hd00, hll2] <;> rfl) (by exact .one (.loc (by simp))) ?_
              refine hf_cons (by simp (dsimp := false) only [push_cast, ↓reduceIte, Nat.reduceEqDiff, Nat.reduceAdd, reduceCtorEq, row_tail, row_tail_len, Int.reduceLE, Int.reduceLT, hl0, hl1, hd00, hll2] <;> rfl) (by repeat' (first | exact ConvVs.nil | exact ConvL.nil | refine ConvV.tup ?_ | refine ConvVs.cons ?_ ?_ | (refine ConvV.self ?_; simp only [push_cast, bbP_free, boolP_free, ands_free]; done) | refine ConvV.one ?_ | refine ConvV.agg ?_ | (refine ConvL.free ?_; simp only [push_cast, bbP_free, boolP_free, ands_free]; done) | refine ConvL.append ?_ ?_ | refine ConvL.cons ?_ ?_ | exact Conv.free rfl | exact Conv.nil | (refine Conv.own ?_; simp; done) | (refine Conv.loc ?_; simp; done) | refine Conv.frz (by simp) (by simp (dsimp := false) only [push_cast, ↓reduceIte, Nat.reduceEqDiff, Nat.reduceAdd, reduceCtorEq, row_tail, row_tail_len, Int.reduceLE, Int.reduceLT, hl0, hl1, hd00, hll2] <;> rfl) ?_ | refine Conv.sl (by simp) ?_ | refine Conv.fn ?_)) ?_
              refine hf_cons (by simp (dsimp := false) only [push_cast, ↓reduceIte, Nat.reduceEqDiff, Nat.reduceAdd, reduceCtorEq, row_tail, row_tail_len, Int.reduceLE, Int.reduceLT, hl0, hl1, hd00, hll2] <;> rfl) (by exact .one (.loc (by simp))) ?_
              refine hf_cons (by simp (dsimp := false) only [push_cast, ↓reduceIte, Nat.reduceEqDiff, Nat.reduceAdd, reduceCtorEq, row_tail, row_tail_len, Int.reduceLE, Int.reduceLT, hl0, hl1, hd00, hll2] <;> rfl) (by exact ConvV.self rfl) ?_
              exact hf_nil
            · refine hh_cons (i := (3, 0)) (by simp) (by simp) (by simp (dsimp := false) only [push_cast, ↓reduceIte, Nat.reduceEqDiff, Nat.reduceAdd, reduceCtorEq, row_tail, row_tail_len, Int.reduceLE, Int.reduceLT, hl0, hl1, hd00, hll2] <;> rfl) (by first | (refine ConvB.free ?_; simp only [push_cast, bbP_free, boolP_free, ands_free]; done) | (refine ConvB.box ?_; repeat' (first | exact ConvVs.nil | exact ConvL.nil | refine ConvV.tup ?_ | refine ConvVs.cons ?_ ?_ | (refine ConvV.self ?_; simp only [push_cast, bbP_free, boolP_free, ands_free]; done) | refine ConvV.one ?_ | refine ConvV.agg ?_ | (refine ConvL.free ?_; simp only [push_cast, bbP_free, boolP_free, ands_free]; done) | refine ConvL.append ?_ ?_ | refine ConvL.cons ?_ ?_ | exact Conv.free rfl | exact Conv.nil | (refine Conv.own ?_; simp; done) | (refine Conv.loc ?_; simp; done) | refine Conv.frz (by simp) (by simp (dsimp := false) only [push_cast, ↓reduceIte, Nat.reduceEqDiff, Nat.reduceAdd, reduceCtorEq, row_tail, row_tail_len, Int.reduceLE, Int.reduceLT, hl0, hl1, hd00, hll2] <;> rfl) ?_ | refine Conv.sl (by simp) ?_ | refine Conv.fn ?_))) ?_
              refine hh_cons (i := (6, 0)) (by simp) (by simp) (by simp (dsimp := false) only [push_cast, ↓reduceIte, Nat.reduceEqDiff, Nat.reduceAdd, reduceCtorEq, row_tail, row_tail_len, Int.reduceLE, Int.reduceLT, hl0, hl1, hd00, hll2] <;> rfl) (by first | (refine ConvB.free ?_; simp only [push_cast, bbP_free, boolP_free, ands_free]; done) | (refine ConvB.box ?_; repeat' (first | exact ConvVs.nil | exact ConvL.nil | refine ConvV.tup ?_ | refine ConvVs.cons ?_ ?_ | (refine ConvV.self ?_; simp only [push_cast, bbP_free, boolP_free, ands_free]; done) | refine ConvV.one ?_ | refine ConvV.agg ?_ | (refine ConvL.free ?_; simp only [push_cast, bbP_free, boolP_free, ands_free]; done) | refine ConvL.append ?_ ?_ | refine ConvL.cons ?_ ?_ | exact Conv.free rfl | exact Conv.nil | (refine Conv.own ?_; simp; done) | (refine Conv.loc ?_; simp; done) | refine Conv.frz (by simp) (by simp (dsimp := false) only [push_cast, ↓reduceIte, Nat.reduceEqDiff, Nat.reduceAdd, reduceCtorEq, row_tail, row_tail_len, Int.reduceLE, Int.reduceLT, hl0, hl1, hd00, hll2] <;> rfl) ?_ | refine Conv.sl (by simp) ?_ | refine Conv.fn ?_))) ?_
              refine hh_cons (i := (54, 0)) (by simp) (by simp) (by simp (dsimp := false) only [push_cast, ↓reduceIte, Nat.reduceEqDiff, Nat.reduceAdd, reduceCtorEq, row_tail, row_tail_len, Int.reduceLE, Int.reduceLT, hl0, hl1, hd00, hll2] <;> rfl) (by exact ConvB.arr (ConvL.free (bbP_free []))) ?_
              exact hh_nil
          · exact ⟨by omega, by omega, uns_init _⟩
          · rintro m τ ⟨i, fi, ins, hm, ⟨hi1, hi2, hu⟩, rfl⟩ K hL1
            have hi0 : 0 ≤ i := by omega
            have hw := fun h : i < ((splitR s 10).length : Int) => wrap_next hi0 h (by omega)
            have hd := fun h : i < ((splitR s 10).length : Int) => dropI_map (fun s => PC.c (Value.string s)) hi0 h
            have hul := hu.len
            have hz3 : ins.length + 1 ≤ 140737488355328 := by omega
            have hz4 : (ins.length + 1) * 24 ≤ 140737488355328 := by omega
            refine vwp_seq fun K hK => ?_
            refine vwp_seq_region rfl fun K hK => ?_
            simp (dsimp := false) only [push_cast, hP, hnt, hgw, hgb, Nat.reduceLT, Nat.reduceEqDiff, Nat.reduceAdd, Nat.reduceSub, Nat.reduceMul, Nat.reduceLeDiff, ↓reduceIte, reduceCtorEq, row_tail, row_tail_len, Int.reduceLE, Int.reduceLT, hl0, hl1, hd00, hll2, hi0, rowBB, bbP, hz3, hz4]
            refine hK _ ?_; clear hK
            refine vwp_cond (b := _) (by simp (dsimp := false) only [push_cast, hP, hnt, hgw, hgb, Nat.reduceLT, Nat.reduceEqDiff, Nat.reduceAdd, Nat.reduceSub, Nat.reduceMul, Nat.reduceLeDiff, ↓reduceIte, reduceCtorEq, row_tail, row_tail_len, Int.reduceLE, Int.reduceLT, hl0, hl1, hd00, hll2, hi0, rowBB, bbP, hz3, hz4]; rfl) (fun rb6 => ?_) (fun rb6 => ?_)
            · have hb6 := rb6
              try simp only [beq_iff_eq, bne_iff_ne, ne_eq, bne_eq_false_iff_eq, beq_eq_false_iff_ne, decide_eq_true_eq, decide_eq_false_iff_not, Bool.not_eq_true', Bool.not_eq_false', Bool.or_eq_true, Bool.and_eq_true, Bool.or_eq_false_iff, Bool.and_eq_false_iff] at hb6
              have hw := hw hb6
              have hd := hd hb6
              have hbx := hb6
              refine vwp_skip ?_
              apply_assumption
              refine vwp_seq fun K hK => ?_
              refine vwp_block ?_
              refine vwp_seq_region rfl fun K hK => ?_
              simp (dsimp := false) only [push_cast, hP, hnt, hgw, hgb, Nat.reduceLT, Nat.reduceEqDiff, Nat.reduceAdd, Nat.reduceSub, Nat.reduceMul, Nat.reduceLeDiff, ↓reduceIte, reduceCtorEq, row_tail, row_tail_len, Int.reduceLE, Int.reduceLT, hl0, hl1, hd00, hll2, hi0, rowBB, bbP, hz3, hz4, hw, hd, hb6]
              refine hK _ ?_; clear hK
              refine vwp_cond (b := _) (by simp (dsimp := false) only [push_cast, hP, hnt, hgw, hgb, Nat.reduceLT, Nat.reduceEqDiff, Nat.reduceAdd, Nat.reduceSub, Nat.reduceMul, Nat.reduceLeDiff, ↓reduceIte, reduceCtorEq, row_tail, row_tail_len, Int.reduceLE, Int.reduceLT, hl0, hl1, hd00, hll2, hi0, rowBB, bbP, hz3, hz4, hw, hd, hb6]; rfl) (fun rb7 => ?_) (fun rb7 => ?_)
              · have hb7 := rb7
                try simp only [beq_iff_eq, bne_iff_ne, ne_eq, bne_eq_false_iff_eq, beq_eq_false_iff_ne, decide_eq_true_eq, decide_eq_false_iff_not, Bool.not_eq_true', Bool.not_eq_false', Bool.or_eq_true, Bool.and_eq_true, Bool.or_eq_false_iff, Bool.and_eq_false_iff] at hb7
                refine vwp_region rfl ?_
                simp (dsimp := false) only [push_cast, hP, hnt, hgw, hgb, Nat.reduceLT, Nat.reduceEqDiff, Nat.reduceAdd, Nat.reduceSub, Nat.reduceMul, Nat.reduceLeDiff, ↓reduceIte, reduceCtorEq, row_tail, row_tail_len, Int.reduceLE, Int.reduceLT, hl0, hl1, hd00, hll2, hi0, rowBB, bbP, hz3, hz4, hw, hd, hb6]
                refine .inl (callE_intro (rest_call gw gb (atI (splitR s 10) i) wfirst (by decide)) (.inl ⟨rfl, rfl⟩) ?_)
                simp (dsimp := false) only [push_cast, hP, hnt, hgw, hgb, Nat.reduceLT, Nat.reduceEqDiff, Nat.reduceAdd, Nat.reduceSub, Nat.reduceMul, Nat.reduceLeDiff, ↓reduceIte, reduceCtorEq, row_tail, row_tail_len, Int.reduceLE, Int.reduceLT, hl0, hl1, hd00, hll2, hi0, rowBB, bbP, hz3, hz4, hw, hd, hb6]
                refine .inl (callE_intro (refUnbits_call gw gb _ (by have := restF_size (atI (splitR s 10) i) wfirst; have := hls _ (atI_mem hi0 hbx); omega)) (.inl ⟨by simp only [push_cast], rfl⟩) ?_)
                simp (dsimp := false) only [push_cast, hP, hnt, hgw, hgb, Nat.reduceLT, Nat.reduceEqDiff, Nat.reduceAdd, Nat.reduceSub, Nat.reduceMul, Nat.reduceLeDiff, ↓reduceIte, reduceCtorEq, row_tail, row_tail_len, Int.reduceLE, Int.reduceLT, hl0, hl1, hd00, hll2, hi0, rowBB, bbP, hz3, hz4, hw, hd, hb6]
                apply_assumption
                refine vwp_region rfl ?_
                simp (dsimp := false) only [push_cast, hP, hnt, hgw, hgb, Nat.reduceLT, Nat.reduceEqDiff, Nat.reduceAdd, Nat.reduceSub, Nat.reduceMul, Nat.reduceLeDiff, ↓reduceIte, reduceCtorEq, row_tail, row_tail_len, Int.reduceLE, Int.reduceLT, hl0, hl1, hd00, hll2, hi0, rowBB, bbP, hz3, hz4, hw, hd, hb6]
                refine hL1 _ _ _ ?_ ?_ ⟨i + 1, unbitsF (restF (atI (splitR s 10) i) wfirst), ins, rfl, ?_, rfl⟩
                · omega
                · refine wk_conv [] [((3, 0), (3, 0)), ((6, 0), (6, 0)), ((54, 0), (54, 0))] (by simp) (by simp) (by decide) ?_ ?_
                  · refine hf_cons (by simp (dsimp := false) only [push_cast, ↓reduceIte, Nat.reduceEqDiff, Nat.reduceAdd, reduceCtorEq, row_tail, row_tail_len, Int.reduceLE, Int.reduceLT, hl0, hl1, hd00, hll2, hi0, rowBB, bbP, hz3, hz4, hw, hd, hb6] <;> rfl) (by exact ConvV.self rfl) ?_
                    refine hf_cons (by simp (dsimp := false) only [push_cast, ↓reduceIte, Nat.reduceEqDiff, Nat.reduceAdd, reduceCtorEq, row_tail, row_tail_len, Int.reduceLE, Int.reduceLT, hl0, hl1, hd00, hll2, hi0, rowBB, bbP, hz3, hz4, hw, hd, hb6] <;> rfl) (by exact .one (.loc (by simp))) ?_
                    refine hf_cons (by simp (dsimp := false) only [push_cast, ↓reduceIte, Nat.reduceEqDiff, Nat.reduceAdd, reduceCtorEq, row_tail, row_tail_len, Int.reduceLE, Int.reduceLT, hl0, hl1, hd00, hll2, hi0, rowBB, bbP, hz3, hz4, hw, hd, hb6] <;> rfl) (by repeat' (first | exact ConvVs.nil | exact ConvL.nil | refine ConvV.tup ?_ | refine ConvVs.cons ?_ ?_ | (refine ConvV.self ?_; simp only [push_cast, bbP_free, boolP_free, ands_free]; done) | refine ConvV.one ?_ | refine ConvV.agg ?_ | (refine ConvL.free ?_; simp only [push_cast, bbP_free, boolP_free, ands_free]; done) | refine ConvL.append ?_ ?_ | refine ConvL.cons ?_ ?_ | exact Conv.free rfl | exact Conv.nil | (refine Conv.own ?_; simp; done) | (refine Conv.loc ?_; simp; done) | refine Conv.frz (by simp) (by simp (dsimp := false) only [push_cast, ↓reduceIte, Nat.reduceEqDiff, Nat.reduceAdd, reduceCtorEq, row_tail, row_tail_len, Int.reduceLE, Int.reduceLT, hl0, hl1, hd00, hll2, hi0, rowBB, bbP, hz3, hz4, hw, hd, hb6] <;> rfl) ?_ | refine Conv.sl (by simp) ?_ | refine Conv.fn ?_)) ?_
                    refine hf_cons (by simp (dsimp := false) only [push_cast, ↓reduceIte, Nat.reduceEqDiff, Nat.reduceAdd, reduceCtorEq, row_tail, row_tail_len, Int.reduceLE, Int.reduceLT, hl0, hl1, hd00, hll2, hi0, rowBB, bbP, hz3, hz4, hw, hd, hb6] <;> rfl) (by exact .one (.loc (by simp))) ?_
                    refine hf_cons (by simp (dsimp := false) only [push_cast, ↓reduceIte, Nat.reduceEqDiff, Nat.reduceAdd, reduceCtorEq, row_tail, row_tail_len, Int.reduceLE, Int.reduceLT, hl0, hl1, hd00, hll2, hi0, rowBB, bbP, hz3, hz4, hw, hd, hb6] <;> rfl) (by exact ConvV.self rfl) ?_
                    exact hf_nil
                  · refine hh_cons (i := (3, 0)) (by simp) (by simp) (by simp (dsimp := false) only [push_cast, ↓reduceIte, Nat.reduceEqDiff, Nat.reduceAdd, reduceCtorEq, row_tail, row_tail_len, Int.reduceLE, Int.reduceLT, hl0, hl1, hd00, hll2, hi0, rowBB, bbP, hz3, hz4, hw, hd, hb6] <;> rfl) (by first | (refine ConvB.free ?_; simp only [push_cast, bbP_free, boolP_free, ands_free]; done) | (refine ConvB.box ?_; repeat' (first | exact ConvVs.nil | exact ConvL.nil | refine ConvV.tup ?_ | refine ConvVs.cons ?_ ?_ | (refine ConvV.self ?_; simp only [push_cast, bbP_free, boolP_free, ands_free]; done) | refine ConvV.one ?_ | refine ConvV.agg ?_ | (refine ConvL.free ?_; simp only [push_cast, bbP_free, boolP_free, ands_free]; done) | refine ConvL.append ?_ ?_ | refine ConvL.cons ?_ ?_ | exact Conv.free rfl | exact Conv.nil | (refine Conv.own ?_; simp; done) | (refine Conv.loc ?_; simp; done) | refine Conv.frz (by simp) (by simp (dsimp := false) only [push_cast, ↓reduceIte, Nat.reduceEqDiff, Nat.reduceAdd, reduceCtorEq, row_tail, row_tail_len, Int.reduceLE, Int.reduceLT, hl0, hl1, hd00, hll2, hi0, rowBB, bbP, hz3, hz4, hw, hd, hb6] <;> rfl) ?_ | refine Conv.sl (by simp) ?_ | refine Conv.fn ?_))) ?_
                    refine hh_cons (i := (6, 0)) (by simp) (by simp) (by simp (dsimp := false) only [push_cast, ↓reduceIte, Nat.reduceEqDiff, Nat.reduceAdd, reduceCtorEq, row_tail, row_tail_len, Int.reduceLE, Int.reduceLT, hl0, hl1, hd00, hll2, hi0, rowBB, bbP, hz3, hz4, hw, hd, hb6] <;> rfl) (by first | (refine ConvB.free ?_; simp only [push_cast, bbP_free, boolP_free, ands_free]; done) | (refine ConvB.box ?_; repeat' (first | exact ConvVs.nil | exact ConvL.nil | refine ConvV.tup ?_ | refine ConvVs.cons ?_ ?_ | (refine ConvV.self ?_; simp only [push_cast, bbP_free, boolP_free, ands_free]; done) | refine ConvV.one ?_ | refine ConvV.agg ?_ | (refine ConvL.free ?_; simp only [push_cast, bbP_free, boolP_free, ands_free]; done) | refine ConvL.append ?_ ?_ | refine ConvL.cons ?_ ?_ | exact Conv.free rfl | exact Conv.nil | (refine Conv.own ?_; simp; done) | (refine Conv.loc ?_; simp; done) | refine Conv.frz (by simp) (by simp (dsimp := false) only [push_cast, ↓reduceIte, Nat.reduceEqDiff, Nat.reduceAdd, reduceCtorEq, row_tail, row_tail_len, Int.reduceLE, Int.reduceLT, hl0, hl1, hd00, hll2, hi0, rowBB, bbP, hz3, hz4, hw, hd, hb6] <;> rfl) ?_ | refine Conv.sl (by simp) ?_ | refine Conv.fn ?_))) ?_
                    refine hh_cons (i := (54, 0)) (by simp) (by simp) (by simp (dsimp := false) only [push_cast, ↓reduceIte, Nat.reduceEqDiff, Nat.reduceAdd, reduceCtorEq, row_tail, row_tail_len, Int.reduceLE, Int.reduceLT, hl0, hl1, hd00, hll2, hi0, rowBB, bbP, hz3, hz4, hw, hd, hb6] <;> rfl) (by exact ConvB.arr (ConvL.free (bbP_free ins))) ?_
                    exact hh_nil
                · exact ⟨by omega, by omega, uns_one hi0 hbx hls hu hb7⟩
              · have hb7 := rb7
                try simp only [beq_iff_eq, bne_iff_ne, ne_eq, bne_eq_false_iff_eq, beq_eq_false_iff_ne, decide_eq_true_eq, decide_eq_false_iff_not, Bool.not_eq_true', Bool.not_eq_false', Bool.or_eq_true, Bool.and_eq_true, Bool.or_eq_false_iff, Bool.and_eq_false_iff] at hb7
                refine vwp_anyF [[], [0], [0, 1], [], [], [3, 4], [3, 4, 5], [3, 4, 5, 6], [3, 4, 5, 6, 7], [3, 4, 5, 6, 7, 8], [0, 1, 2, 3, 4, 5, 6, 7, 8, 9], [0, 1, 2, 3, 4, 5, 6, 7, 8, 9, 10], [0, 1, 2, 3, 4, 5, 6, 7, 8, 9, 10, 11], [0, 1, 2, 3, 4, 5, 6, 7, 8, 9, 10, 11, 12]] [([(51, .dead), (52, .old), (53, .old), (54, .dead), (55, .dead), (56, .dead), (57, .dead), (58, .dead), (59, .dead), (60, .dead), (61, .old), (62, .old), (63, .old)], [52, 53, 54, 55, 56, 57, 58, 59, 60, 61, 62, 63], []), ([(51, .dep 0), (52, .dead), (53, .old), (54, .dead), (55, .dead), (56, .dead), (57, .dead), (58, .dead), (59, .dead), (60, .dead), (61, .old), (62, .old), (63, .old)], [53, 54, 55, 56, 57, 58, 59, 60, 61, 62, 63], [0]), ([(51, .dep 1), (52, .dep 0), (53, .dead), (54, .dead), (55, .dead), (56, .dead), (57, .dead), (58, .dead), (59, .dead), (60, .dead), (61, .old), (62, .old), (63, .old)], [54, 55, 56, 57, 58, 59, 60, 61, 62, 63], [1, 0]), ([(51, .dead), (52, .dead), (53, .dead), (54, .dead), (55, .dead), (56, .old), (57, .old), (58, .old), (59, .old), (60, .old), (61, .old), (62, .old), (63, .old)], [51, 52, 53, 55, 56, 57, 58, 59, 60, 61, 62, 63], []), ([(51, .dead), (52, .dead), (53, .dead), (54, .dead), (55, .dead), (56, .old), (57, .old), (58, .old), (59, .old), (60, .old), (61, .old), (62, .old), (63, .old)], [51, 52, 53, 54, 56, 57, 58, 59, 60, 61, 62, 63], []), ([(51, .dead), (52, .dead), (53, .dead), (54, .dep 1), (55, .dep 0), (56, .dead), (57, .old), (58, .old), (59, .old), (60, .old), (61, .old), (62, .old), (63, .old)], [51, 52, 53, 57, 58, 59, 60, 61, 62, 63], [1, 0]), ([(51, .dead), (52, .dead), (53, .dead), (54, .dep 2), (55, .dep 1), (56, .dep 0), (57, .dead), (58, .old), (59, .old), (60, .old), (61, .old), (62, .old), (63, .old)], [51, 52, 53, 58, 59, 60, 61, 62, 63], [2, 1, 0]), ([(51, .dead), (52, .dead), (53, .dead), (54, .dep 3), (55, .dep 2), (56, .dep 1), (57, .dep 0), (58, .dead), (59, .old), (60, .old), (61, .old), (62, .old), (63, .old)], [51, 52, 53, 59, 60, 61, 62, 63], [3, 2, 1, 0]), ([(51, .dead), (52, .dead), (53, .dead), (54, .dep 4), (55, .dep 3), (56, .dep 2), (57, .dep 1), (58, .dep 0), (59, .dead), (60, .old), (61, .old), (62, .old), (63, .old)], [51, 52, 53, 60, 61, 62, 63], [4, 3, 2, 1, 0]), ([(51, .dead), (52, .dead), (53, .dead), (54, .dep 5), (55, .dep 4), (56, .dep 3), (57, .dep 2), (58, .dep 1), (59, .dep 0), (60, .dead), (61, .old), (62, .old), (63, .old)], [51, 52, 53, 61, 62, 63], [5, 4, 3, 2, 1, 0]), ([(51, .dep 9), (52, .dep 8), (53, .dep 7), (54, .dep 6), (55, .dep 5), (56, .dep 4), (57, .dep 3), (58, .dep 2), (59, .dep 1), (60, .dep 0), (61, .dead), (62, .old), (63, .old)], [62, 63], [9, 8, 7, 6, 5, 4, 3, 2, 1, 0]), ([(51, .dep 10), (52, .dep 9), (53, .dep 8), (54, .dep 7), (55, .dep 6), (56, .dep 5), (57, .dep 4), (58, .dep 3), (59, .dep 2), (60, .dep 1), (61, .dep 0), (62, .dead), (63, .old)], [63], [10, 9, 8, 7, 6, 5, 4, 3, 2, 1, 0]), ([(51, .dep 11), (52, .dep 10), (53, .dep 9), (54, .dep 8), (55, .dep 7), (56, .dep 6), (57, .dep 5), (58, .dep 4), (59, .dep 3), (60, .dep 2), (61, .dep 1), (62, .dep 0), (63, .dead)], [], [11, 10, 9, 8, 7, 6, 5, 4, 3, 2, 1, 0]), ([(51, .dep 12), (52, .dep 11), (53, .dep 10), (54, .dep 9), (55, .dep 8), (56, .dep 7), (57, .dep 6), (58, .dep 5), (59, .dep 4), (60, .dep 3), (61, .dep 2), (62, .dep 1), (63, .dep 0)], [], [12, 11, 10, 9, 8, 7, 6, 5, 4, 3, 2, 1, 0])] (by rw [hP]; exact mixed) rfl rfl rfl ?_
                simp (dsimp := false) only [push_cast, hP, hnt, hgw, hgb, Nat.reduceLT, Nat.reduceEqDiff, Nat.reduceAdd, Nat.reduceSub, Nat.reduceMul, Nat.reduceLeDiff, ↓reduceIte, reduceCtorEq, row_tail, row_tail_len, Int.reduceLE, Int.reduceLT, hl0, hl1, hd00, hll2, hi0, rowBB, bbP, hz3, hz4, hw, hd, hb6, Nat.reduceBNe, Nat.reduceBEq]
                refine .inl (callE_intro (rest_call gw gb (atI (splitR s 10) i) win (by decide)) (.inl ⟨rfl, rfl⟩) ?_)
                simp (dsimp := false) only [push_cast, hP, hnt, hgw, hgb, Nat.reduceLT, Nat.reduceEqDiff, Nat.reduceAdd, Nat.reduceSub, Nat.reduceMul, Nat.reduceLeDiff, ↓reduceIte, reduceCtorEq, row_tail, row_tail_len, Int.reduceLE, Int.reduceLT, hl0, hl1, hd00, hll2, hi0, rowBB, bbP, hz3, hz4, hw, hd, hb6, Nat.reduceBNe, Nat.reduceBEq]
                refine .inl (callE_intro (refUnbits_call gw gb _ (by have := restF_size (atI (splitR s 10) i) win; have := hls _ (atI_mem hi0 hbx); omega)) (.inl ⟨by simp only [push_cast], rfl⟩) ?_)
                simp (dsimp := false) only [push_cast, hP, hnt, hgw, hgb, Nat.reduceLT, Nat.reduceEqDiff, Nat.reduceAdd, Nat.reduceSub, Nat.reduceMul, Nat.reduceLeDiff, ↓reduceIte, reduceCtorEq, row_tail, row_tail_len, Int.reduceLE, Int.reduceLT, hl0, hl1, hd00, hll2, hi0, rowBB, bbP, hz3, hz4, hw, hd, hb6, Nat.reduceBNe, Nat.reduceBEq]
                refine ⟨rfl, ?_⟩
                apply_assumption
                refine vwp_region rfl ?_
                simp (dsimp := false) only [push_cast, hP, hnt, hgw, hgb, Nat.reduceLT, Nat.reduceEqDiff, Nat.reduceAdd, Nat.reduceSub, Nat.reduceMul, Nat.reduceLeDiff, ↓reduceIte, reduceCtorEq, row_tail, row_tail_len, Int.reduceLE, Int.reduceLT, hl0, hl1, hd00, hll2, hi0, rowBB, bbP, hz3, hz4, hw, hd, hb6]
                refine hL1 _ _ _ ?_ ?_ ⟨i + 1, fi, ins ++ [unbitsF (restF (atI (splitR s 10) i) win)], rfl, ?_, rfl⟩
                · omega
                · refine wk_conv [] [((3, 0), (3, 0)), ((6, 0), (6, 0)), ((62, 0), (54, 0))] (by simp) (by simp) (by decide) ?_ ?_
                  · refine hf_cons (by simp (dsimp := false) only [push_cast, ↓reduceIte, Nat.reduceEqDiff, Nat.reduceAdd, reduceCtorEq, row_tail, row_tail_len, Int.reduceLE, Int.reduceLT, hl0, hl1, hd00, hll2, hi0, rowBB, bbP, hz3, hz4, hw, hd, hb6] <;> rfl) (by exact ConvV.self rfl) ?_
                    refine hf_cons (by simp (dsimp := false) only [push_cast, ↓reduceIte, Nat.reduceEqDiff, Nat.reduceAdd, reduceCtorEq, row_tail, row_tail_len, Int.reduceLE, Int.reduceLT, hl0, hl1, hd00, hll2, hi0, rowBB, bbP, hz3, hz4, hw, hd, hb6] <;> rfl) (by exact .one (.loc (by simp))) ?_
                    refine hf_cons (by simp (dsimp := false) only [push_cast, ↓reduceIte, Nat.reduceEqDiff, Nat.reduceAdd, reduceCtorEq, row_tail, row_tail_len, Int.reduceLE, Int.reduceLT, hl0, hl1, hd00, hll2, hi0, rowBB, bbP, hz3, hz4, hw, hd, hb6] <;> rfl) (by repeat' (first | exact ConvVs.nil | exact ConvL.nil | refine ConvV.tup ?_ | refine ConvVs.cons ?_ ?_ | (refine ConvV.self ?_; simp only [push_cast, bbP_free, boolP_free, ands_free]; done) | refine ConvV.one ?_ | refine ConvV.agg ?_ | (refine ConvL.free ?_; simp only [push_cast, bbP_free, boolP_free, ands_free]; done) | refine ConvL.append ?_ ?_ | refine ConvL.cons ?_ ?_ | exact Conv.free rfl | exact Conv.nil | (refine Conv.own ?_; simp; done) | (refine Conv.loc ?_; simp; done) | refine Conv.frz (by simp) (by simp (dsimp := false) only [push_cast, ↓reduceIte, Nat.reduceEqDiff, Nat.reduceAdd, reduceCtorEq, row_tail, row_tail_len, Int.reduceLE, Int.reduceLT, hl0, hl1, hd00, hll2, hi0, rowBB, bbP, hz3, hz4, hw, hd, hb6] <;> rfl) ?_ | refine Conv.sl (by simp) ?_ | refine Conv.fn ?_)) ?_
                    refine hf_cons (by simp (dsimp := false) only [push_cast, ↓reduceIte, Nat.reduceEqDiff, Nat.reduceAdd, reduceCtorEq, row_tail, row_tail_len, Int.reduceLE, Int.reduceLT, hl0, hl1, hd00, hll2, hi0, rowBB, bbP, hz3, hz4, hw, hd, hb6] <;> rfl) (by exact .one (.loc (by simp))) ?_
                    refine hf_cons (by simp (dsimp := false) only [push_cast, ↓reduceIte, Nat.reduceEqDiff, Nat.reduceAdd, reduceCtorEq, row_tail, row_tail_len, Int.reduceLE, Int.reduceLT, hl0, hl1, hd00, hll2, hi0, rowBB, bbP, hz3, hz4, hw, hd, hb6] <;> rfl) (by exact ConvV.self rfl) ?_
                    exact hf_nil
                  · refine hh_cons (i := (3, 0)) (by simp) (by simp) (by simp (dsimp := false) only [push_cast, ↓reduceIte, Nat.reduceEqDiff, Nat.reduceAdd, reduceCtorEq, row_tail, row_tail_len, Int.reduceLE, Int.reduceLT, hl0, hl1, hd00, hll2, hi0, rowBB, bbP, hz3, hz4, hw, hd, hb6] <;> rfl) (by first | (refine ConvB.free ?_; simp only [push_cast, bbP_free, boolP_free, ands_free]; done) | (refine ConvB.box ?_; repeat' (first | exact ConvVs.nil | exact ConvL.nil | refine ConvV.tup ?_ | refine ConvVs.cons ?_ ?_ | (refine ConvV.self ?_; simp only [push_cast, bbP_free, boolP_free, ands_free]; done) | refine ConvV.one ?_ | refine ConvV.agg ?_ | (refine ConvL.free ?_; simp only [push_cast, bbP_free, boolP_free, ands_free]; done) | refine ConvL.append ?_ ?_ | refine ConvL.cons ?_ ?_ | exact Conv.free rfl | exact Conv.nil | (refine Conv.own ?_; simp; done) | (refine Conv.loc ?_; simp; done) | refine Conv.frz (by simp) (by simp (dsimp := false) only [push_cast, ↓reduceIte, Nat.reduceEqDiff, Nat.reduceAdd, reduceCtorEq, row_tail, row_tail_len, Int.reduceLE, Int.reduceLT, hl0, hl1, hd00, hll2, hi0, rowBB, bbP, hz3, hz4, hw, hd, hb6] <;> rfl) ?_ | refine Conv.sl (by simp) ?_ | refine Conv.fn ?_))) ?_
                    refine hh_cons (i := (6, 0)) (by simp) (by simp) (by simp (dsimp := false) only [push_cast, ↓reduceIte, Nat.reduceEqDiff, Nat.reduceAdd, reduceCtorEq, row_tail, row_tail_len, Int.reduceLE, Int.reduceLT, hl0, hl1, hd00, hll2, hi0, rowBB, bbP, hz3, hz4, hw, hd, hb6] <;> rfl) (by first | (refine ConvB.free ?_; simp only [push_cast, bbP_free, boolP_free, ands_free]; done) | (refine ConvB.box ?_; repeat' (first | exact ConvVs.nil | exact ConvL.nil | refine ConvV.tup ?_ | refine ConvVs.cons ?_ ?_ | (refine ConvV.self ?_; simp only [push_cast, bbP_free, boolP_free, ands_free]; done) | refine ConvV.one ?_ | refine ConvV.agg ?_ | (refine ConvL.free ?_; simp only [push_cast, bbP_free, boolP_free, ands_free]; done) | refine ConvL.append ?_ ?_ | refine ConvL.cons ?_ ?_ | exact Conv.free rfl | exact Conv.nil | (refine Conv.own ?_; simp; done) | (refine Conv.loc ?_; simp; done) | refine Conv.frz (by simp) (by simp (dsimp := false) only [push_cast, ↓reduceIte, Nat.reduceEqDiff, Nat.reduceAdd, reduceCtorEq, row_tail, row_tail_len, Int.reduceLE, Int.reduceLT, hl0, hl1, hd00, hll2, hi0, rowBB, bbP, hz3, hz4, hw, hd, hb6] <;> rfl) ?_ | refine Conv.sl (by simp) ?_ | refine Conv.fn ?_))) ?_
                    refine hh_cons (i := (62, 0)) (by simp) (by simp) (by simp (dsimp := false) only [push_cast, ↓reduceIte, Nat.reduceEqDiff, Nat.reduceAdd, reduceCtorEq, row_tail, row_tail_len, Int.reduceLE, Int.reduceLT, hl0, hl1, hd00, hll2, hi0, rowBB, bbP, hz3, hz4, hw, hd, hb6] <;> rfl) (by simp only [rowBB, List.map_append (f := bbP), List.length_append]; exact ConvB.arr (ConvL.free (by rw [frees_append, bbP_free]; simp only [List.map_cons, List.map_nil, PC.frees, bbP, PC.free, boolP_free]; rfl))) ?_
                    exact hh_nil
                · exact ⟨by omega, by omega, uns_more hi0 hbx hls hu hb7⟩
            · have hb6 := rb6
              try simp only [beq_iff_eq, bne_iff_ne, ne_eq, bne_eq_false_iff_eq, beq_eq_false_iff_ne, decide_eq_true_eq, decide_eq_false_iff_not, Bool.not_eq_true', Bool.not_eq_false', Bool.or_eq_true, Bool.and_eq_true, Bool.or_eq_false_iff, Bool.and_eq_false_iff] at hb6
              have hend := uns_end hb6 hu
              refine vwp_exit ?_
              simp only [thenQ, blockQ, Nat.reduceEqDiff, reduceIte]
              apply_assumption
              refine vwp_seq fun K hK => ?_
              refine vwp_seq_region rfl fun K hK => ?_
              simp (dsimp := false) only [push_cast, hP, hnt, hgw, hgb, Nat.reduceLT, Nat.reduceEqDiff, Nat.reduceAdd, Nat.reduceSub, Nat.reduceMul, Nat.reduceLeDiff, ↓reduceIte, reduceCtorEq, row_tail, row_tail_len, Int.reduceLE, Int.reduceLT, hl0, hl1, hd00, hll2, hi0, rowBB, bbP, hz3, hz4]
              refine .inl (callE_intro (refVerdict_call gw gb (⟨2, fi, ins, 0, 0, [], 0⟩ : Ver) (fit_small _ _ _ _ _ _ hu.fi (by have := hu.len; omega) (by simp) hu.each)) (.inl ⟨rfl, rfl⟩) ?_)
              simp (dsimp := false) only [push_cast, hP, hnt, hgw, hgb, Nat.reduceLT, Nat.reduceEqDiff, Nat.reduceAdd, Nat.reduceSub, Nat.reduceMul, Nat.reduceLeDiff, ↓reduceIte, reduceCtorEq, row_tail, row_tail_len, Int.reduceLE, Int.reduceLT, hl0, hl1, hd00, hll2, hi0, rowBB, bbP, hz3, hz4]
              refine hK _ ?_; clear hK
              refine vwp_seq_regionG fun K hK => ?_
              simp (dsimp := false) only [push_cast, hP, hnt, hgw, hgb, Nat.reduceLT, Nat.reduceEqDiff, Nat.reduceAdd, Nat.reduceSub, Nat.reduceMul, Nat.reduceLeDiff, ↓reduceIte, reduceCtorEq, row_tail, row_tail_len, Int.reduceLE, Int.reduceLT, hl0, hl1, hd00, hll2, hi0, rowBB, bbP, hz3, hz4]
              refine guardR_may (by simp (dsimp := false) only [push_cast, hP, hnt, hgw, hgb, Nat.reduceLT, Nat.reduceEqDiff, Nat.reduceAdd, Nat.reduceSub, Nat.reduceMul, Nat.reduceLeDiff, ↓reduceIte, reduceCtorEq, row_tail, row_tail_len, Int.reduceLE, Int.reduceLT, hl0, hl1, hd00, hll2, hi0, rowBB, bbP, hz3, hz4, List.getElem?_cons_zero, List.getElem?_cons_succ]; rfl) ?_
              simp (dsimp := false) only [push_cast, hP, hnt, hgw, hgb, Nat.reduceLT, Nat.reduceEqDiff, Nat.reduceAdd, Nat.reduceSub, Nat.reduceMul, Nat.reduceLeDiff, ↓reduceIte, reduceCtorEq, row_tail, row_tail_len, Int.reduceLE, Int.reduceLT, hl0, hl1, hd00, hll2, hi0, rowBB, bbP, hz3, hz4]
              refine guardR_may (by simp (dsimp := false) only [push_cast, hP, hnt, hgw, hgb, Nat.reduceLT, Nat.reduceEqDiff, Nat.reduceAdd, Nat.reduceSub, Nat.reduceMul, Nat.reduceLeDiff, ↓reduceIte, reduceCtorEq, row_tail, row_tail_len, Int.reduceLE, Int.reduceLT, hl0, hl1, hd00, hll2, hi0, rowBB, bbP, hz3, hz4, List.getElem?_cons_zero, List.getElem?_cons_succ]; rfl) ?_
              simp (dsimp := false) only [push_cast, hP, hnt, hgw, hgb, Nat.reduceLT, Nat.reduceEqDiff, Nat.reduceAdd, Nat.reduceSub, Nat.reduceMul, Nat.reduceLeDiff, ↓reduceIte, reduceCtorEq, row_tail, row_tail_len, Int.reduceLE, Int.reduceLT, hl0, hl1, hd00, hll2, hi0, rowBB, bbP, hz3, hz4]
              refine guardR_may (by simp (dsimp := false) only [push_cast, hP, hnt, hgw, hgb, Nat.reduceLT, Nat.reduceEqDiff, Nat.reduceAdd, Nat.reduceSub, Nat.reduceMul, Nat.reduceLeDiff, ↓reduceIte, reduceCtorEq, row_tail, row_tail_len, Int.reduceLE, Int.reduceLT, hl0, hl1, hd00, hll2, hi0, rowBB, bbP, hz3, hz4, List.getElem?_cons_zero, List.getElem?_cons_succ]; rfl) ?_
              simp (dsimp := false) only [push_cast, hP, hnt, hgw, hgb, Nat.reduceLT, Nat.reduceEqDiff, Nat.reduceAdd, Nat.reduceSub, Nat.reduceMul, Nat.reduceLeDiff, ↓reduceIte, reduceCtorEq, row_tail, row_tail_len, Int.reduceLE, Int.reduceLT, hl0, hl1, hd00, hll2, hi0, rowBB, bbP, hz3, hz4]
              refine hK _ ?_; clear hK
              refine vwp_cond (b := _) (by simp (dsimp := false) only [push_cast, hP, hnt, hgw, hgb, Nat.reduceLT, Nat.reduceEqDiff, Nat.reduceAdd, Nat.reduceSub, Nat.reduceMul, Nat.reduceLeDiff, ↓reduceIte, reduceCtorEq, row_tail, row_tail_len, Int.reduceLE, Int.reduceLT, hl0, hl1, hd00, hll2, hi0, rowBB, bbP, hz3, hz4]; rfl) (fun rb8 => ?_) (fun rb8 => ?_)
              · have hb8 := rb8
                try simp only [beq_iff_eq, bne_iff_ne, ne_eq, bne_eq_false_iff_eq, beq_eq_false_iff_ne, decide_eq_true_eq, decide_eq_false_iff_not, Bool.not_eq_true', Bool.not_eq_false', Bool.or_eq_true, Bool.and_eq_true, Bool.or_eq_false_iff, Bool.and_eq_false_iff] at hb8
                refine vwp_seq_region rfl fun K hK => ?_
                simp (dsimp := false) only [push_cast, hP, hnt, hgw, hgb, Nat.reduceLT, Nat.reduceEqDiff, Nat.reduceAdd, Nat.reduceSub, Nat.reduceMul, Nat.reduceLeDiff, ↓reduceIte, reduceCtorEq, row_tail, row_tail_len, Int.reduceLE, Int.reduceLT, hl0, hl1, hd00, hll2, hi0, rowBB, bbP, hz3, hz4]
                refine hK _ ?_; clear hK
                refine vwp_ret ?_
                refine ret_conv [] [] (by simp (dsimp := false) only [push_cast, hP, hnt, hgw, hgb, Nat.reduceLT, Nat.reduceEqDiff, Nat.reduceAdd, Nat.reduceSub, Nat.reduceMul, Nat.reduceLeDiff, ↓reduceIte, reduceCtorEq, row_tail, row_tail_len, Int.reduceLE, Int.reduceLT, hl0, hl1, hd00, hll2, hi0, rowBB, bbP, hz3, hz4]; rfl) (by simp) (by simp) (by first | decide | simp) ?_ ?_
                · simp only [pack]
                  rw [refVer_no (s := s) (by have := hb0; omega) (w := (⟨2, fi, ins, 0, 0, [], 0⟩ : Ver)) (by unfold refParse; exact (if_neg hb1).trans ((if_neg hb3).trans ((if_pos hb5).trans hend.symm))) (by first | exact hb8 | (have h := hb8; simpa [not_or, Decidable.or_iff_not_imp_left] using h))]
                  repeat' (first | exact ConvVs.nil | exact ConvL.nil | refine ConvV.tup ?_ | refine ConvVs.cons ?_ ?_ | (refine ConvV.self ?_; simp only [push_cast, bbP_free, boolP_free, ands_free]; done) | refine ConvV.one ?_ | refine ConvV.agg ?_ | (refine ConvL.free ?_; simp only [push_cast, bbP_free, boolP_free, ands_free]; done) | refine ConvL.append ?_ ?_ | refine ConvL.cons ?_ ?_ | exact Conv.free rfl | exact Conv.nil | (refine Conv.own ?_; simp; done) | (refine Conv.loc ?_; simp; done) | refine Conv.frz (by simp) (by simp (dsimp := false) only [push_cast, ↓reduceIte, Nat.reduceEqDiff, Nat.reduceAdd, reduceCtorEq, row_tail, row_tail_len, Int.reduceLE, Int.reduceLT, hl0, hl1, hd00, hll2, hi0, rowBB, bbP, hz3, hz4] <;> rfl) ?_ | refine Conv.sl (by simp) ?_ | refine Conv.fn ?_)
                · exact rb_nil
              · have hb8 := rb8
                try simp only [beq_iff_eq, bne_iff_ne, ne_eq, bne_eq_false_iff_eq, beq_eq_false_iff_ne, decide_eq_true_eq, decide_eq_false_iff_not, Bool.not_eq_true', Bool.not_eq_false', Bool.or_eq_true, Bool.and_eq_true, Bool.or_eq_false_iff, Bool.and_eq_false_iff] at hb8
                refine vwp_skip ?_
                apply_assumption
                refine vwp_seq_region rfl fun K hK => ?_
                simp (dsimp := false) only [push_cast, hP, hnt, hgw, hgb, Nat.reduceLT, Nat.reduceEqDiff, Nat.reduceAdd, Nat.reduceSub, Nat.reduceMul, Nat.reduceLeDiff, ↓reduceIte, reduceCtorEq, row_tail, row_tail_len, Int.reduceLE, Int.reduceLT, hl0, hl1, hd00, hll2, hi0, rowBB, bbP, hz3, hz4]
                refine hK _ ?_; clear hK
                refine vwp_ret ?_
                refine ret_conv [(54, 0)] [] (by simp (dsimp := false) only [push_cast, hP, hnt, hgw, hgb, Nat.reduceLT, Nat.reduceEqDiff, Nat.reduceAdd, Nat.reduceSub, Nat.reduceMul, Nat.reduceLeDiff, ↓reduceIte, reduceCtorEq, row_tail, row_tail_len, Int.reduceLE, Int.reduceLT, hl0, hl1, hd00, hll2, hi0, rowBB, bbP, hz3, hz4]; rfl) (by simp) (by simp) (by first | decide | simp) ?_ ?_
                · simp only [pack]
                  rw [refVer_ok (s := s) (by have := hb0; omega) (w := (⟨2, fi, ins, 0, 0, [], 0⟩ : Ver)) (by unfold refParse; exact (if_neg hb1).trans ((if_neg hb3).trans ((if_pos hb5).trans hend.symm))) (by have h := hb8; intro g; rcases g with g | g; exact g h.1; exact g h.2)]
                  repeat' (first | exact ConvVs.nil | exact ConvL.nil | refine ConvV.tup ?_ | refine ConvVs.cons ?_ ?_ | (refine ConvV.self ?_; simp only [push_cast, bbP_free, boolP_free, ands_free]; done) | refine ConvV.one ?_ | refine ConvV.agg ?_ | (refine ConvL.free ?_; simp only [push_cast, bbP_free, boolP_free, ands_free]; done) | refine ConvL.append ?_ ?_ | refine ConvL.cons ?_ ?_ | exact Conv.free rfl | exact Conv.nil | (refine Conv.own ?_; simp; done) | (refine Conv.loc ?_; simp; done) | refine Conv.frz (by simp) (by simp (dsimp := false) only [push_cast, ↓reduceIte, Nat.reduceEqDiff, Nat.reduceAdd, reduceCtorEq, row_tail, row_tail_len, Int.reduceLE, Int.reduceLT, hl0, hl1, hd00, hll2, hi0, rowBB, bbP, hz3, hz4] <;> rfl) ?_ | refine Conv.sl (by simp) ?_ | refine Conv.fn ?_)
                · exact rb_nil
        · have hb5 := rb5
          try simp only [beq_iff_eq, bne_iff_ne, ne_eq, bne_eq_false_iff_eq, beq_eq_false_iff_ne, decide_eq_true_eq, decide_eq_false_iff_not, Bool.not_eq_true', Bool.not_eq_false', Bool.or_eq_true, Bool.and_eq_true, Bool.or_eq_false_iff, Bool.and_eq_false_iff] at hb5
          refine vwp_skip ?_
          apply_assumption
          refine vwp_seq fun K hK => ?_
          refine vwp_seq_region rfl fun K hK => ?_
          simp (dsimp := false) only [push_cast, hP, hnt, hgw, hgb, Nat.reduceLT, Nat.reduceEqDiff, Nat.reduceAdd, Nat.reduceSub, Nat.reduceMul, Nat.reduceLeDiff, ↓reduceIte, reduceCtorEq, row_tail, row_tail_len, Int.reduceLE, Int.reduceLT, hl0, hl1, hd00, hll2]
          refine .inl (callE_intro (refVerdict_call gw gb ver0 (fit_small _ _ _ _ _ _ (by simp) (by simp) (by simp) (by simp))) (.inl ⟨rfl, rfl⟩) ?_)
          simp (dsimp := false) only [push_cast, hP, hnt, hgw, hgb, Nat.reduceLT, Nat.reduceEqDiff, Nat.reduceAdd, Nat.reduceSub, Nat.reduceMul, Nat.reduceLeDiff, ↓reduceIte, reduceCtorEq, row_tail, row_tail_len, Int.reduceLE, Int.reduceLT, hl0, hl1, hd00, hll2]
          refine hK _ ?_; clear hK
          refine vwp_seq_regionG fun K hK => ?_
          simp (dsimp := false) only [push_cast, hP, hnt, hgw, hgb, Nat.reduceLT, Nat.reduceEqDiff, Nat.reduceAdd, Nat.reduceSub, Nat.reduceMul, Nat.reduceLeDiff, ↓reduceIte, reduceCtorEq, row_tail, row_tail_len, Int.reduceLE, Int.reduceLT, hl0, hl1, hd00, hll2]
          refine guardR_may (by simp (dsimp := false) only [push_cast, hP, hnt, hgw, hgb, Nat.reduceLT, Nat.reduceEqDiff, Nat.reduceAdd, Nat.reduceSub, Nat.reduceMul, Nat.reduceLeDiff, ↓reduceIte, reduceCtorEq, row_tail, row_tail_len, Int.reduceLE, Int.reduceLT, hl0, hl1, hd00, hll2, List.getElem?_cons_zero, List.getElem?_cons_succ]; rfl) ?_
          simp (dsimp := false) only [push_cast, hP, hnt, hgw, hgb, Nat.reduceLT, Nat.reduceEqDiff, Nat.reduceAdd, Nat.reduceSub, Nat.reduceMul, Nat.reduceLeDiff, ↓reduceIte, reduceCtorEq, row_tail, row_tail_len, Int.reduceLE, Int.reduceLT, hl0, hl1, hd00, hll2]
          refine guardR_may (by simp (dsimp := false) only [push_cast, hP, hnt, hgw, hgb, Nat.reduceLT, Nat.reduceEqDiff, Nat.reduceAdd, Nat.reduceSub, Nat.reduceMul, Nat.reduceLeDiff, ↓reduceIte, reduceCtorEq, row_tail, row_tail_len, Int.reduceLE, Int.reduceLT, hl0, hl1, hd00, hll2, List.getElem?_cons_zero, List.getElem?_cons_succ]; rfl) ?_
          simp (dsimp := false) only [push_cast, hP, hnt, hgw, hgb, Nat.reduceLT, Nat.reduceEqDiff, Nat.reduceAdd, Nat.reduceSub, Nat.reduceMul, Nat.reduceLeDiff, ↓reduceIte, reduceCtorEq, row_tail, row_tail_len, Int.reduceLE, Int.reduceLT, hl0, hl1, hd00, hll2]
          refine guardR_may (by simp (dsimp := false) only [push_cast, hP, hnt, hgw, hgb, Nat.reduceLT, Nat.reduceEqDiff, Nat.reduceAdd, Nat.reduceSub, Nat.reduceMul, Nat.reduceLeDiff, ↓reduceIte, reduceCtorEq, row_tail, row_tail_len, Int.reduceLE, Int.reduceLT, hl0, hl1, hd00, hll2, List.getElem?_cons_zero, List.getElem?_cons_succ]; rfl) ?_
          simp (dsimp := false) only [push_cast, hP, hnt, hgw, hgb, Nat.reduceLT, Nat.reduceEqDiff, Nat.reduceAdd, Nat.reduceSub, Nat.reduceMul, Nat.reduceLeDiff, ↓reduceIte, reduceCtorEq, row_tail, row_tail_len, Int.reduceLE, Int.reduceLT, hl0, hl1, hd00, hll2]
          refine hK _ ?_; clear hK
          refine vwp_cond (b := _) (by simp (dsimp := false) only [push_cast, hP, hnt, hgw, hgb, Nat.reduceLT, Nat.reduceEqDiff, Nat.reduceAdd, Nat.reduceSub, Nat.reduceMul, Nat.reduceLeDiff, ↓reduceIte, reduceCtorEq, row_tail, row_tail_len, Int.reduceLE, Int.reduceLT, hl0, hl1, hd00, hll2]; rfl) (fun rb9 => ?_) (fun rb9 => ?_)
          · have hb9 := rb9
            try simp only [beq_iff_eq, bne_iff_ne, ne_eq, bne_eq_false_iff_eq, beq_eq_false_iff_ne, decide_eq_true_eq, decide_eq_false_iff_not, Bool.not_eq_true', Bool.not_eq_false', Bool.or_eq_true, Bool.and_eq_true, Bool.or_eq_false_iff, Bool.and_eq_false_iff] at hb9
            refine vwp_seq_region rfl fun K hK => ?_
            simp (dsimp := false) only [push_cast, hP, hnt, hgw, hgb, Nat.reduceLT, Nat.reduceEqDiff, Nat.reduceAdd, Nat.reduceSub, Nat.reduceMul, Nat.reduceLeDiff, ↓reduceIte, reduceCtorEq, row_tail, row_tail_len, Int.reduceLE, Int.reduceLT, hl0, hl1, hd00, hll2]
            refine hK _ ?_; clear hK
            refine vwp_ret ?_
            refine ret_conv [] [] (by simp (dsimp := false) only [push_cast, hP, hnt, hgw, hgb, Nat.reduceLT, Nat.reduceEqDiff, Nat.reduceAdd, Nat.reduceSub, Nat.reduceMul, Nat.reduceLeDiff, ↓reduceIte, reduceCtorEq, row_tail, row_tail_len, Int.reduceLE, Int.reduceLT, hl0, hl1, hd00, hll2]; rfl) (by simp) (by simp) (by first | decide | simp) ?_ ?_
            · simp only [pack]
              rw [refVer_no (s := s) (by have := hb0; omega) (w := ver0) (by unfold refParse; exact (if_neg hb1).trans ((if_neg hb3).trans (if_neg hb5))) (by first | exact hb9 | (have h := hb9; simpa [not_or, Decidable.or_iff_not_imp_left] using h))]
              repeat' (first | exact ConvVs.nil | exact ConvL.nil | refine ConvV.tup ?_ | refine ConvVs.cons ?_ ?_ | (refine ConvV.self ?_; simp only [push_cast, bbP_free, boolP_free, ands_free]; done) | refine ConvV.one ?_ | refine ConvV.agg ?_ | (refine ConvL.free ?_; simp only [push_cast, bbP_free, boolP_free, ands_free]; done) | refine ConvL.append ?_ ?_ | refine ConvL.cons ?_ ?_ | exact Conv.free rfl | exact Conv.nil | (refine Conv.own ?_; simp; done) | (refine Conv.loc ?_; simp; done) | refine Conv.frz (by simp) (by simp (dsimp := false) only [push_cast, ↓reduceIte, Nat.reduceEqDiff, Nat.reduceAdd, reduceCtorEq, row_tail, row_tail_len, Int.reduceLE, Int.reduceLT, hl0, hl1, hd00, hll2] <;> rfl) ?_ | refine Conv.sl (by simp) ?_ | refine Conv.fn ?_)
            · exact rb_nil
          · have hb9 := rb9
            try simp only [beq_iff_eq, bne_iff_ne, ne_eq, bne_eq_false_iff_eq, beq_eq_false_iff_ne, decide_eq_true_eq, decide_eq_false_iff_not, Bool.not_eq_true', Bool.not_eq_false', Bool.or_eq_true, Bool.and_eq_true, Bool.or_eq_false_iff, Bool.and_eq_false_iff] at hb9
            refine vwp_skip ?_
            apply_assumption
            refine vwp_seq_region rfl fun K hK => ?_
            simp (dsimp := false) only [push_cast, hP, hnt, hgw, hgb, Nat.reduceLT, Nat.reduceEqDiff, Nat.reduceAdd, Nat.reduceSub, Nat.reduceMul, Nat.reduceLeDiff, ↓reduceIte, reduceCtorEq, row_tail, row_tail_len, Int.reduceLE, Int.reduceLT, hl0, hl1, hd00, hll2]
            refine hK _ ?_; clear hK
            refine vwp_ret ?_
            refine ret_conv [] [] (by simp (dsimp := false) only [push_cast, hP, hnt, hgw, hgb, Nat.reduceLT, Nat.reduceEqDiff, Nat.reduceAdd, Nat.reduceSub, Nat.reduceMul, Nat.reduceLeDiff, ↓reduceIte, reduceCtorEq, row_tail, row_tail_len, Int.reduceLE, Int.reduceLT, hl0, hl1, hd00, hll2]; rfl) (by simp) (by simp) (by first | decide | simp) ?_ ?_
            · simp only [pack]
              rw [refVer_ok (s := s) (by have := hb0; omega) (w := ver0) (by unfold refParse; exact (if_neg hb1).trans ((if_neg hb3).trans (if_neg hb5))) (by have h := hb9; intro g; rcases g with g | g; exact g h.1; exact g h.2)]
              repeat' (first | exact ConvVs.nil | exact ConvL.nil | refine ConvV.tup ?_ | refine ConvVs.cons ?_ ?_ | (refine ConvV.self ?_; simp only [push_cast, bbP_free, boolP_free, ands_free]; done) | refine ConvV.one ?_ | refine ConvV.agg ?_ | (refine ConvL.free ?_; simp only [push_cast, bbP_free, boolP_free, ands_free]; done) | refine ConvL.append ?_ ?_ | refine ConvL.cons ?_ ?_ | exact Conv.free rfl | exact Conv.nil | (refine Conv.own ?_; simp; done) | (refine Conv.loc ?_; simp; done) | refine Conv.frz (by simp) (by simp (dsimp := false) only [push_cast, ↓reduceIte, Nat.reduceEqDiff, Nat.reduceAdd, reduceCtorEq, row_tail, row_tail_len, Int.reduceLE, Int.reduceLT, hl0, hl1, hd00, hll2] <;> rfl) ?_ | refine Conv.sl (by simp) ?_ | refine Conv.fn ?_)
            · exact rb_nil
end Go.Vm
