/-
  Walks of the program's functions by the framework, and what they compute (PtAP). Conditions: each theorem's own premises. By an AI agent.
-/
import Derived.Test.YtnpbndglolcilaaDoorPtAO
section
namespace Go.Vm
open Go Go.RowKit Go.Proofs
set_option maxRecDepth 100000
set_option linter.unusedSimpArgs false
set_option linter.unusedVariables false
set_option maxHeartbeats 4000000

def rowPS (p : List (ByteArray × Int)) : Blk := .arr 23 2 p.length (p.flatMap fun q => [.c (.string q.1), .c (.int .i64 q.2)])
theorem ps_free (p : List (ByteArray × Int)) : PC.frees (p.flatMap fun q => [PC.c (Value.string q.1), PC.c (Value.int .i64 q.2)]) = true := by
  rw [frees_flatMap]; simp [PC.frees, PC.free]
theorem ps_snoc (p : List (ByteArray × Int)) (q : ByteArray × Int) : (p ++ [q]).flatMap (fun q => [PC.c (Value.string q.1), PC.c (Value.int .i64 q.2)]) = p.flatMap (fun q => [PC.c (Value.string q.1), PC.c (Value.int .i64 q.2)]) ++ [PC.c (Value.string q.1), PC.c (Value.int .i64 q.2)] := by
  rw [List.flatMap_append]; simp
def readsG (rd : ByteArray → ByteArray × Int × Int) : List ByteArray → Option (List (ByteArray × Int))
  | [] => some []
  | w :: ws => if (rd w).2.2 = 0 then (readsG rd ws).map ((((rd w).1, (rd w).2.1)) :: ·) else none
structure ReadAt (rd : ByteArray → ByteArray × Int × Int) (L : List ByteArray) (i : Int) (p : List (ByteArray × Int)) : Prop where
  len : (p.length : Int) = i
  rest : readsG rd L = (readsG rd (L.drop i.toNat)).map (p ++ ·)
theorem readAt_init (rd : ByteArray → ByteArray × Int × Int) (L : List ByteArray) : ReadAt rd L 0 [] := ⟨rfl, by simp⟩
theorem readAt_next {rd : ByteArray → ByteArray × Int × Int} {L : List ByteArray} {i : Int} {p : List (ByteArray × Int)} (h0 : 0 ≤ i) (h1 : i < (L.length : Int)) (h : ReadAt rd L i p) (he : (rd (atI L i)).2.2 = 0) : ReadAt rd L (i + 1) (p ++ [((rd (atI L i)).1, (rd (atI L i)).2.1)]) := by
  refine ⟨by rw [List.length_append, List.length_singleton]; have := h.len; omega, ?_⟩
  rw [h.rest, drop_atI h0 h1, readsG, if_pos he, show (i + 1).toNat = i.toNat + 1 by omega]
  cases readsG rd (L.drop (i.toNat + 1)) with
  | none => rfl
  | some l => simp
theorem readAt_stop {rd : ByteArray → ByteArray × Int × Int} {L : List ByteArray} {i : Int} {p : List (ByteArray × Int)} (h0 : 0 ≤ i) (h1 : i < (L.length : Int)) (h : ReadAt rd L i p) (he : ¬ (rd (atI L i)).2.2 = 0) : readsG rd L = none := by
  rw [h.rest, drop_atI h0 h1, readsG, if_neg he]; rfl
theorem readAt_end {rd : ByteArray → ByteArray × Int × Int} {L : List ByteArray} {i : Int} {p : List (ByteArray × Int)} (h1 : ¬ i < (L.length : Int)) (h : ReadAt rd L i p) : readsG rd L = some p := by
  rw [h.rest, List.drop_eq_nil_of_le (by omega)]; simp [readsG]
def readPassG (rd : ByteArray → ByteArray × Int × Int) (ck : List (ByteArray × Int) → Int) (s : ByteArray) : List (ByteArray × Int) × Int :=
  if s.toList = (⟨#[]⟩ : ByteArray).toList then ([], 0)
  else match readsG rd (piecesB s 44) with
    | none => ([], 12)
    | some l => if ck l = 0 then (l, 0) else ([], 12)
def readPassF : ByteArray → List (ByteArray × Int) × Int := readPassG readF checksF
def readPassR : ByteArray → List (ByteArray × Int) × Int := readPassG refReadF checksR
theorem readPass_nil {rd : ByteArray → ByteArray × Int × Int} {ck : List (ByteArray × Int) → Int} {s : ByteArray} (h : s.toList = (⟨#[]⟩ : ByteArray).toList) : readPassG rd ck s = ([], 0) := if_pos h
theorem readPass_stop {rd : ByteArray → ByteArray × Int × Int} {ck : List (ByteArray × Int) → Int} {s : ByteArray} (h : ¬ s.toList = (⟨#[]⟩ : ByteArray).toList) (h2 : readsG rd (piecesB s 44) = none) : readPassG rd ck s = ([], 12) := by
  unfold readPassG; rw [if_neg h, h2]
theorem readPass_bad {rd : ByteArray → ByteArray × Int × Int} {ck : List (ByteArray × Int) → Int} {s : ByteArray} {l : List (ByteArray × Int)} (h : ¬ s.toList = (⟨#[]⟩ : ByteArray).toList) (h2 : readsG rd (piecesB s 44) = some l) (h3 : ¬ ck l = 0) : readPassG rd ck s = ([], 12) := by
  unfold readPassG; rw [if_neg h, h2]; exact if_neg h3
theorem readPass_ok {rd : ByteArray → ByteArray × Int × Int} {ck : List (ByteArray × Int) → Int} {s : ByteArray} {l : List (ByteArray × Int)} (h : ¬ s.toList = (⟨#[]⟩ : ByteArray).toList) (h2 : readsG rd (piecesB s 44) = some l) (h3 : ck l = 0) : readPassG rd ck s = (l, 0) := by
  unfold readPassG; rw [if_neg h, h2]; exact if_pos h3
theorem split44_call (gw : World) (gb : Nat) (s : ByteArray) (hs : s.size ≤ 100000) : VCall Tryd.prog gw gb 30 [.one (.c (.string (s ++ ⟨#[44]⟩))), .one (.c (.int .u8 44))] (.one (.sl true (piecesB s 44).length ((piecesB s 44).map fun s => .c (.string s)))) [] :=
  refSplit_call gw gb (s ++ ⟨#[44]⟩) 44 (by rw [ByteArray.size_append]; have : (⟨#[44]⟩ : ByteArray).size = 1 := rfl; omega)
theorem pieces_len (s : ByteArray) (c : UInt8) : (piecesB s c).length ≤ s.size + 1 := by
  have := splitR_len (s ++ ⟨#[c]⟩) c
  rw [ByteArray.size_append] at this
  exact this
theorem pieces_size (s : ByteArray) (c : UInt8) : ∀ x ∈ piecesB s c, x.size ≤ s.size + 1 := splitR_size (by rw [ByteArray.size_append]; exact Nat.le_refl _)
theorem refReadPasses_call (gw : World) (gb : Nat) (s : ByteArray) (hs : s.size ≤ 90000) : VCall Tryd.prog gw (gb) 23 [.one (.c (.string s))] (.tup [.one (.sl true (readPassR s).1.length ((readPassR s).1.flatMap fun p => [.c (.string p.1), .c (.int .i64 p.2)])), .one (.c (.int .i64 (readPassR s).2))]) [] := by
  have hsz0 : s.size + (⟨#[44]⟩ : ByteArray).size ≤ 9223372036854775807 := by have : (⟨#[44]⟩ : ByteArray).size = 1 := rfl; omega
  refine vcall_of [.tmp 2, .tmp 3] Tryd.func23 rfl rfl Tryd.ntmps23 rfl (by simp) ?_
  intro C hP hnt hgw hgb hfull
  refine vwp_seq_region rfl fun K hK => ?_
  simp (dsimp := false) only [push_cast, hP, hnt, hgw, hgb, Nat.reduceLT, Nat.reduceEqDiff, Nat.reduceAdd, Nat.reduceSub, Nat.reduceMul, Nat.reduceLeDiff, ↓reduceIte, reduceCtorEq, hsz0]
  refine hK _ ?_; clear hK
  refine vwp_seq fun K hK => ?_
  refine vwp_seq_region rfl fun K hK => ?_
  simp (dsimp := false) only [push_cast, hP, hnt, hgw, hgb, Nat.reduceLT, Nat.reduceEqDiff, Nat.reduceAdd, Nat.reduceSub, Nat.reduceMul, Nat.reduceLeDiff, ↓reduceIte, reduceCtorEq, hsz0]
  refine hK _ ?_; clear hK
  refine vwp_cond (b := _) (by simp (dsimp := false) only [push_cast, hP, hnt, hgw, hgb, Nat.reduceLT, Nat.reduceEqDiff, Nat.reduceAdd, Nat.reduceSub, Nat.reduceMul, Nat.reduceLeDiff, ↓reduceIte, reduceCtorEq, hsz0]; rfl) (fun rb0 => ?_) (fun rb0 => ?_)
  · have hb0 := rb0
    try simp only [beq_iff_eq, bne_iff_ne, ne_eq, bne_eq_false_iff_eq, beq_eq_false_iff_ne, decide_eq_true_eq, decide_eq_false_iff_not, Bool.not_eq_true', Bool.not_eq_false', Bool.or_eq_true, Bool.and_eq_true, Bool.or_eq_false_iff, Bool.and_eq_false_iff] at hb0
    refine vwp_seq_region rfl fun K hK => ?_
    simp (dsimp := false) only [push_cast, hP, hnt, hgw, hgb, Nat.reduceLT, Nat.reduceEqDiff, Nat.reduceAdd, Nat.reduceSub, Nat.reduceMul, Nat.reduceLeDiff, ↓reduceIte, reduceCtorEq, hsz0]
    refine hK _ ?_; clear hK
    refine vwp_ret ?_
    refine ret_conv [] [] (by simp (dsimp := false) only [push_cast, hP, hnt, hgw, hgb, Nat.reduceLT, Nat.reduceEqDiff, Nat.reduceAdd, Nat.reduceSub, Nat.reduceMul, Nat.reduceLeDiff, ↓reduceIte, reduceCtorEq, hsz0]; rfl) (by simp) (by simp) (by first | decide | simp) ?_ ?_
    · simp only [pack]
      rw [show readPassR s = ([], 0) from readPass_nil (by simpa using hb0)]
      repeat' (first | exact ConvVs.nil | exact ConvL.nil | refine ConvV.tup ?_ | refine ConvVs.cons ?_ ?_ | (refine ConvV.self ?_; simp only [push_cast, ps_free]; done) | refine ConvV.one ?_ | refine ConvV.agg ?_ | (refine ConvL.free ?_; simp only [push_cast, ps_free]; done) | refine ConvL.append ?_ ?_ | refine ConvL.cons ?_ ?_ | exact Conv.free rfl | exact Conv.nil | (refine Conv.own ?_; simp; done) | (refine Conv.loc ?_; simp; done) | refine Conv.frz (by simp) (by simp (dsimp := false) only [push_cast, ↓reduceIte, Nat.reduceEqDiff, Nat.reduceAdd, reduceCtorEq, hsz0] <;> rfl) ?_ | refine Conv.sl (by simp) ?_ | refine Conv.fn ?_)
    · exact rb_nil
  · have hb0 := rb0
    try simp only [beq_iff_eq, bne_iff_ne, ne_eq, bne_eq_false_iff_eq, beq_eq_false_iff_ne, decide_eq_true_eq, decide_eq_false_iff_not, Bool.not_eq_true', Bool.not_eq_false', Bool.or_eq_true, Bool.and_eq_true, Bool.or_eq_false_iff, Bool.and_eq_false_iff] at hb0
    refine vwp_skip ?_
    apply_assumption
    refine vwp_seq_region rfl fun K hK => ?_
    simp (dsimp := false) only [push_cast, hP, hnt, hgw, hgb, Nat.reduceLT, Nat.reduceEqDiff, Nat.reduceAdd, Nat.reduceSub, Nat.reduceMul, Nat.reduceLeDiff, ↓reduceIte, reduceCtorEq, hsz0]
    refine hK _ ?_; clear hK
    refine vwp_seq_region rfl fun K hK => ?_
    simp (dsimp := false) only [push_cast, hP, hnt, hgw, hgb, Nat.reduceLT, Nat.reduceEqDiff, Nat.reduceAdd, Nat.reduceSub, Nat.reduceMul, Nat.reduceLeDiff, ↓reduceIte, reduceCtorEq, hsz0]
    refine .inl (callE_intro (split44_call gw gb s (by omega)) (.inl ⟨by simp only [push_cast], rfl⟩) ?_)
    simp (dsimp := false) only [push_cast, hP, hnt, hgw, hgb, Nat.reduceLT, Nat.reduceEqDiff, Nat.reduceAdd, Nat.reduceSub, Nat.reduceMul, Nat.reduceLeDiff, ↓reduceIte, reduceCtorEq, hsz0]
    refine hK _ ?_; clear hK
    refine vwp_seq fun K hK => ?_
    refine vwp_seq_region rfl fun K hK => ?_
    simp (dsimp := false) only [push_cast, hP, hnt, hgw, hgb, Nat.reduceLT, Nat.reduceEqDiff, Nat.reduceAdd, Nat.reduceSub, Nat.reduceMul, Nat.reduceLeDiff, ↓reduceIte, reduceCtorEq, hsz0]
    refine hK _ ?_; clear hK
    refine vwp_wk (wk_nil_slot (t := 4) (d := 4) 23 2 (by first | (simp (dsimp := false) only [push_cast, hP, hnt, hgw, hgb, Nat.reduceLT, Nat.reduceEqDiff, Nat.reduceAdd, Nat.reduceSub, Nat.reduceMul, Nat.reduceLeDiff, ↓reduceIte, reduceCtorEq, hsz0]; rfl) | (simp (dsimp := false) only [push_cast, hP, hnt, hgw, hgb, Nat.reduceLT, Nat.reduceEqDiff, Nat.reduceAdd, Nat.reduceSub, Nat.reduceMul, Nat.reduceLeDiff, ↓reduceIte, reduceCtorEq, hsz0]; done)) (by first | (simp (dsimp := false) only [push_cast, hP, hnt, hgw, hgb, Nat.reduceLT, Nat.reduceEqDiff, Nat.reduceAdd, Nat.reduceSub, Nat.reduceMul, Nat.reduceLeDiff, ↓reduceIte, reduceCtorEq, hsz0]; done) | (simp (dsimp := false) only [push_cast, hP, hnt, hgw, hgb, Nat.reduceLT, Nat.reduceEqDiff, Nat.reduceAdd, Nat.reduceSub, Nat.reduceMul, Nat.reduceLeDiff, ↓reduceIte, reduceCtorEq, hsz0]; rfl))) ?_
    simp (dsimp := false) only [push_cast, hP, hnt, hgw, hgb, Nat.reduceLT, Nat.reduceEqDiff, Nat.reduceAdd, Nat.reduceSub, Nat.reduceMul, Nat.reduceLeDiff, ↓reduceIte, reduceCtorEq, hsz0]
    refine vwp_block ?_
    refine vwp_loop (fun m σ => ∃ (i : Int) (p : List (ByteArray × Int)), m = ((piecesB s 44).length - i).toNat ∧ ((0 ≤ i) ∧ (i ≤ (piecesB s 44).length) ∧ (ReadAt refReadF (piecesB s 44) i p)) ∧ σ = St.of [(4, .one (.own (5, 0))), (5, .one (.sl true (piecesB s 44).length ((piecesB s 44).map fun s => .c (.string s)))), (6, .one (.c (.int .i64 i)))] [((5, 0), rowPS p)] [4]) _ ⟨_, ?_, 0, [], rfl, ?_, rfl⟩ ?_
    · refine wk_conv [] [((5, 0), (5, 0))] (by simp) (by simp) (by decide) ?_ ?_
      · refine hf_cons (by simp (dsimp := false) only [push_cast, ↓reduceIte, Nat.reduceEqDiff, Nat.reduceAdd, reduceCtorEq, hsz0] <;> rfl) (by exact .one (.own (by simp))) ?_
        refine hf_cons (by simp (dsimp := false) only [push_cast, ↓reduceIte, Nat.reduceEqDiff, Nat.reduceAdd, reduceCtorEq, hsz0] <;> rfl) (by repeat' (first | exact ConvVs.nil | exact ConvL.nil | refine ConvV.tup ?_ | refine ConvVs.cons ?_ ?_ | (refine ConvV.self ?_; simp only [push_cast, ps_free]; done) | refine ConvV.one ?_ | refine ConvV.agg ?_ | (refine ConvL.free ?_; simp only [push_cast, ps_free]; done) | refine ConvL.append ?_ ?_ | refine ConvL.cons ?_ ?_ | exact Conv.free rfl | exact Conv.nil | (refine Conv.own ?_; simp; done) | (refine Conv.loc ?_; simp; done) | refine Conv.frz (by simp) (by simp (dsimp := false) only [push_cast, ↓reduceIte, Nat.reduceEqDiff, Nat.reduceAdd, reduceCtorEq, hsz0] <;> rfl) ?_ | refine Conv.sl (by simp) ?_ | refine Conv.fn ?_)) ?_
        refine hf_cons (by simp (dsimp := false) only [push_cast, ↓reduceIte, Nat.reduceEqDiff, Nat.reduceAdd, reduceCtorEq, hsz0] <;> rfl) (by exact ConvV.self rfl) ?_
        exact hf_nil
      · refine hh_cons (i := (5, 0)) (by simp) (by simp) (by simp (dsimp := false) only [push_cast, ↓reduceIte, Nat.reduceEqDiff, Nat.reduceAdd, reduceCtorEq, hsz0] <;> rfl) (by exact ConvB.arr (ConvL.free (ps_free []))) ?_
        exact hh_nil
    · exact ⟨by omega, by omega, readAt_init _ _⟩
    · rintro m τ ⟨i, p, hm, ⟨hi0, hi1, hra⟩, rfl⟩ K hL0
      have hpl := pieces_len s 44
      have hw := fun h : i < ((piecesB s 44).length : Int) => wrap_next hi0 h (by omega)
      have hd := fun h : i < ((piecesB s 44).length : Int) => dropI_map (fun s => PC.c (Value.string s)) hi0 h
      have hol := hra.len
      have hz3 : p.length + 1 ≤ 140737488355328 := by omega
      have hz4 : (p.length + 1) * 24 ≤ 140737488355328 := by omega
      refine vwp_seq fun K hK => ?_
      refine vwp_seq_region rfl fun K hK => ?_
      simp (dsimp := false) only [push_cast, hP, hnt, hgw, hgb, Nat.reduceLT, Nat.reduceEqDiff, Nat.reduceAdd, Nat.reduceSub, Nat.reduceMul, Nat.reduceLeDiff, ↓reduceIte, reduceCtorEq, hsz0, hi0, hi1, rowPS, hz3, hz4]
      refine hK _ ?_; clear hK
      refine vwp_cond (b := _) (by simp (dsimp := false) only [push_cast, hP, hnt, hgw, hgb, Nat.reduceLT, Nat.reduceEqDiff, Nat.reduceAdd, Nat.reduceSub, Nat.reduceMul, Nat.reduceLeDiff, ↓reduceIte, reduceCtorEq, hsz0, hi0, hi1, rowPS, hz3, hz4]; rfl) (fun rb1 => ?_) (fun rb1 => ?_)
      · have hb1 := rb1
        try simp only [beq_iff_eq, bne_iff_ne, ne_eq, bne_eq_false_iff_eq, beq_eq_false_iff_ne, decide_eq_true_eq, decide_eq_false_iff_not, Bool.not_eq_true', Bool.not_eq_false', Bool.or_eq_true, Bool.and_eq_true, Bool.or_eq_false_iff, Bool.and_eq_false_iff] at hb1
        have hw := hw hb1
        have hd := hd hb1
        refine vwp_skip ?_
        apply_assumption
        refine vwp_seq fun K hK => ?_
        refine vwp_block ?_
        refine vwp_seq_region rfl fun K hK => ?_
        simp (dsimp := false) only [push_cast, hP, hnt, hgw, hgb, Nat.reduceLT, Nat.reduceEqDiff, Nat.reduceAdd, Nat.reduceSub, Nat.reduceMul, Nat.reduceLeDiff, ↓reduceIte, reduceCtorEq, hsz0, hi0, hi1, rowPS, hz3, hz4, hw, hd, hb1]
        refine .inl (callE_intro (refRead_call gw gb _) (.inl ⟨rfl, rfl⟩) ?_)
        simp (dsimp := false) only [push_cast, hP, hnt, hgw, hgb, Nat.reduceLT, Nat.reduceEqDiff, Nat.reduceAdd, Nat.reduceSub, Nat.reduceMul, Nat.reduceLeDiff, ↓reduceIte, reduceCtorEq, hsz0, hi0, hi1, rowPS, hz3, hz4, hw, hd, hb1]
        refine hK _ ?_; clear hK
        refine vwp_seq fun K hK => ?_
        refine vwp_seq_region rfl fun K hK => ?_
        simp (dsimp := false) only [push_cast, hP, hnt, hgw, hgb, Nat.reduceLT, Nat.reduceEqDiff, Nat.reduceAdd, Nat.reduceSub, Nat.reduceMul, Nat.reduceLeDiff, ↓reduceIte, reduceCtorEq, hsz0, hi0, hi1, rowPS, hz3, hz4, hw, hd, hb1]
        refine hK _ ?_; clear hK
        refine vwp_cond (b := _) (by simp (dsimp := false) only [push_cast, hP, hnt, hgw, hgb, Nat.reduceLT, Nat.reduceEqDiff, Nat.reduceAdd, Nat.reduceSub, Nat.reduceMul, Nat.reduceLeDiff, ↓reduceIte, reduceCtorEq, hsz0, hi0, hi1, rowPS, hz3, hz4, hw, hd, hb1]; rfl) (fun rb2 => ?_) (fun rb2 => ?_)
        · have hb2 := rb2
          try simp only [beq_iff_eq, bne_iff_ne, ne_eq, bne_eq_false_iff_eq, beq_eq_false_iff_ne, decide_eq_true_eq, decide_eq_false_iff_not, Bool.not_eq_true', Bool.not_eq_false', Bool.or_eq_true, Bool.and_eq_true, Bool.or_eq_false_iff, Bool.and_eq_false_iff] at hb2
          refine vwp_seq_region rfl fun K hK => ?_
          simp (dsimp := false) only [push_cast, hP, hnt, hgw, hgb, Nat.reduceLT, Nat.reduceEqDiff, Nat.reduceAdd, Nat.reduceSub, Nat.reduceMul, Nat.reduceLeDiff, ↓reduceIte, reduceCtorEq, hsz0, hi0, hi1, rowPS, hz3, hz4, hw, hd, hb1]
          refine hK _ ?_; clear hK
          refine vwp_ret ?_
          refine ret_conv [] [] (by simp (dsimp := false) only [push_cast, hP, hnt, hgw, hgb, Nat.reduceLT, Nat.reduceEqDiff, Nat.reduceAdd, Nat.reduceSub, Nat.reduceMul, Nat.reduceLeDiff, ↓reduceIte, reduceCtorEq, hsz0, hi0, hi1, rowPS, hz3, hz4, hw, hd, hb1]; rfl) (by simp) (by simp) (by first | decide | simp) ?_ ?_
          · simp only [pack]
            rw [show readPassR s = ([], 12) from readPass_stop (by simpa using hb0) (readAt_stop hi0 hb1 hra (by simpa using hb2))]
            repeat' (first | exact ConvVs.nil | exact ConvL.nil | refine ConvV.tup ?_ | refine ConvVs.cons ?_ ?_ | (refine ConvV.self ?_; simp only [push_cast, ps_free]; done) | refine ConvV.one ?_ | refine ConvV.agg ?_ | (refine ConvL.free ?_; simp only [push_cast, ps_free]; done) | refine ConvL.append ?_ ?_ | refine ConvL.cons ?_ ?_ | exact Conv.free rfl | exact Conv.nil | (refine Conv.own ?_; simp; done) | (refine Conv.loc ?_; simp; done) | refine Conv.frz (by simp) (by simp (dsimp := false) only [push_cast, ↓reduceIte, Nat.reduceEqDiff, Nat.reduceAdd, reduceCtorEq, hsz0, hi0, hi1, rowPS, hz3, hz4, hw, hd, hb1] <;> rfl) ?_ | refine Conv.sl (by simp) ?_ | refine Conv.fn ?_)
          · exact rb_nil
        · have hb2 := rb2
          try simp only [beq_iff_eq, bne_iff_ne, ne_eq, bne_eq_false_iff_eq, beq_eq_false_iff_ne, decide_eq_true_eq, decide_eq_false_iff_not, Bool.not_eq_true', Bool.not_eq_false', Bool.or_eq_true, Bool.and_eq_true, Bool.or_eq_false_iff, Bool.and_eq_false_iff] at hb2
          refine vwp_skip ?_
          apply_assumption
          refine vwp_region rfl ?_
          simp (dsimp := false) only [push_cast, hP, hnt, hgw, hgb, Nat.reduceLT, Nat.reduceEqDiff, Nat.reduceAdd, Nat.reduceSub, Nat.reduceMul, Nat.reduceLeDiff, ↓reduceIte, reduceCtorEq, hsz0, hi0, hi1, rowPS, hz3, hz4, hw, hd, hb1]
          apply_assumption
          refine vwp_region rfl ?_
          simp (dsimp := false) only [push_cast, hP, hnt, hgw, hgb, Nat.reduceLT, Nat.reduceEqDiff, Nat.reduceAdd, Nat.reduceSub, Nat.reduceMul, Nat.reduceLeDiff, ↓reduceIte, reduceCtorEq, hsz0, hi0, hi1, rowPS, hz3, hz4, hw, hd, hb1]
          refine hL0 _ _ _ ?_ ?_ ⟨i + 1, p ++ [((refReadF (atI (piecesB s 44) i)).1, (refReadF (atI (piecesB s 44) i)).2.1)], rfl, ?_, rfl⟩
          · omega
          · refine wk_conv [] [((34, 0), (5, 0))] (by simp) (by simp) (by decide) ?_ ?_
            · refine hf_cons (by simp (dsimp := false) only [push_cast, ↓reduceIte, Nat.reduceEqDiff, Nat.reduceAdd, reduceCtorEq, hsz0, hi0, hi1, rowPS, hz3, hz4, hw, hd, hb1] <;> rfl) (by exact .one (.own (by simp))) ?_
              refine hf_cons (by simp (dsimp := false) only [push_cast, ↓reduceIte, Nat.reduceEqDiff, Nat.reduceAdd, reduceCtorEq, hsz0, hi0, hi1, rowPS, hz3, hz4, hw, hd, hb1] <;> rfl) (by repeat' (first | exact ConvVs.nil | exact ConvL.nil | refine ConvV.tup ?_ | refine ConvVs.cons ?_ ?_ | (refine ConvV.self ?_; simp only [push_cast, ps_free]; done) | refine ConvV.one ?_ | refine ConvV.agg ?_ | (refine ConvL.free ?_; simp only [push_cast, ps_free]; done) | refine ConvL.append ?_ ?_ | refine ConvL.cons ?_ ?_ | exact Conv.free rfl | exact Conv.nil | (refine Conv.own ?_; simp; done) | (refine Conv.loc ?_; simp; done) | refine Conv.frz (by simp) (by simp (dsimp := false) only [push_cast, ↓reduceIte, Nat.reduceEqDiff, Nat.reduceAdd, reduceCtorEq, hsz0, hi0, hi1, rowPS, hz3, hz4, hw, hd, hb1] <;> rfl) ?_ | refine Conv.sl (by simp) ?_ | refine Conv.fn ?_)) ?_
              refine hf_cons (by simp (dsimp := false) only [push_cast, ↓reduceIte, Nat.reduceEqDiff, Nat.reduceAdd, reduceCtorEq, hsz0, hi0, hi1, rowPS, hz3, hz4, hw, hd, hb1] <;> rfl) (by exact ConvV.self rfl) ?_
              exact hf_nil
            · refine hh_cons (i := (34, 0)) (by simp) (by simp) (by simp (dsimp := false) only [push_cast, ↓reduceIte, Nat.reduceEqDiff, Nat.reduceAdd, reduceCtorEq, hsz0, hi0, hi1, rowPS, hz3, hz4, hw, hd, hb1] <;> rfl) (by simp only [rowPS, ps_snoc, List.length_append]; exact ConvB.arr (ConvL.free (by rw [frees_append, ps_free]; rfl))) ?_
              exact hh_nil
          · exact ⟨by omega, by omega, readAt_next hi0 hb1 hra (by simpa using hb2)⟩
      · have hb1 := rb1
        try simp only [beq_iff_eq, bne_iff_ne, ne_eq, bne_eq_false_iff_eq, beq_eq_false_iff_ne, decide_eq_true_eq, decide_eq_false_iff_not, Bool.not_eq_true', Bool.not_eq_false', Bool.or_eq_true, Bool.and_eq_true, Bool.or_eq_false_iff, Bool.and_eq_false_iff] at hb1
        refine vwp_exit ?_
        simp only [thenQ, blockQ, Nat.reduceEqDiff, reduceIte]
        apply_assumption
        refine vwp_seq fun K hK => ?_
        refine vwp_seq_region rfl fun K hK => ?_
        simp (dsimp := false) only [push_cast, hP, hnt, hgw, hgb, Nat.reduceLT, Nat.reduceEqDiff, Nat.reduceAdd, Nat.reduceSub, Nat.reduceMul, Nat.reduceLeDiff, ↓reduceIte, reduceCtorEq, hsz0, hi0, hi1, rowPS, hz3, hz4]
        refine .inl (callE_intro (refChecks_call gw gb p) (.inl ⟨rfl, rfl⟩) ?_)
        simp (dsimp := false) only [push_cast, hP, hnt, hgw, hgb, Nat.reduceLT, Nat.reduceEqDiff, Nat.reduceAdd, Nat.reduceSub, Nat.reduceMul, Nat.reduceLeDiff, ↓reduceIte, reduceCtorEq, hsz0, hi0, hi1, rowPS, hz3, hz4]
        refine hK _ ?_; clear hK
        refine vwp_cond (b := _) (by simp (dsimp := false) only [push_cast, hP, hnt, hgw, hgb, Nat.reduceLT, Nat.reduceEqDiff, Nat.reduceAdd, Nat.reduceSub, Nat.reduceMul, Nat.reduceLeDiff, ↓reduceIte, reduceCtorEq, hsz0, hi0, hi1, rowPS, hz3, hz4]; rfl) (fun rb3 => ?_) (fun rb3 => ?_)
        · have hb3 := rb3
          try simp only [beq_iff_eq, bne_iff_ne, ne_eq, bne_eq_false_iff_eq, beq_eq_false_iff_ne, decide_eq_true_eq, decide_eq_false_iff_not, Bool.not_eq_true', Bool.not_eq_false', Bool.or_eq_true, Bool.and_eq_true, Bool.or_eq_false_iff, Bool.and_eq_false_iff] at hb3
          refine vwp_seq_region rfl fun K hK => ?_
          simp (dsimp := false) only [push_cast, hP, hnt, hgw, hgb, Nat.reduceLT, Nat.reduceEqDiff, Nat.reduceAdd, Nat.reduceSub, Nat.reduceMul, Nat.reduceLeDiff, ↓reduceIte, reduceCtorEq, hsz0, hi0, hi1, rowPS, hz3, hz4]
          refine hK _ ?_; clear hK
          refine vwp_ret ?_
          refine ret_conv [] [] (by simp (dsimp := false) only [push_cast, hP, hnt, hgw, hgb, Nat.reduceLT, Nat.reduceEqDiff, Nat.reduceAdd, Nat.reduceSub, Nat.reduceMul, Nat.reduceLeDiff, ↓reduceIte, reduceCtorEq, hsz0, hi0, hi1, rowPS, hz3, hz4]; rfl) (by simp) (by simp) (by first | decide | simp) ?_ ?_
          · simp only [pack]
            rw [show readPassR s = ([], 12) from readPass_bad (by simpa using hb0) (readAt_end hb1 hra) (by simpa using hb3)]
            repeat' (first | exact ConvVs.nil | exact ConvL.nil | refine ConvV.tup ?_ | refine ConvVs.cons ?_ ?_ | (refine ConvV.self ?_; simp only [push_cast, ps_free]; done) | refine ConvV.one ?_ | refine ConvV.agg ?_ | (refine ConvL.free ?_; simp only [push_cast, ps_free]; done) | refine ConvL.append ?_ ?_ | refine ConvL.cons ?_ ?_ | exact Conv.free rfl | exact Conv.nil | (refine Conv.own ?_; simp; done) | (refine Conv.loc ?_; simp; done) | refine Conv.frz (by simp) (by simp (dsimp := false) only [push_cast, ↓reduceIte, Nat.reduceEqDiff, Nat.reduceAdd, reduceCtorEq, hsz0, hi0, hi1, rowPS, hz3, hz4] <;> rfl) ?_ | refine Conv.sl (by simp) ?_ | refine Conv.fn ?_)
          · exact rb_nil
        · have hb3 := rb3
          try simp only [beq_iff_eq, bne_iff_ne, ne_eq, bne_eq_false_iff_eq, beq_eq_false_iff_ne, decide_eq_true_eq, decide_eq_false_iff_not, Bool.not_eq_true', Bool.not_eq_false', Bool.or_eq_true, Bool.and_eq_true, Bool.or_eq_false_iff, Bool.and_eq_false_iff] at hb3
          refine vwp_skip ?_
          apply_assumption
          refine vwp_seq_region rfl fun K hK => ?_
          simp (dsimp := false) only [push_cast, hP, hnt, hgw, hgb, Nat.reduceLT, Nat.reduceEqDiff, Nat.reduceAdd, Nat.reduceSub, Nat.reduceMul, Nat.reduceLeDiff, ↓reduceIte, reduceCtorEq, hsz0, hi0, hi1, rowPS, hz3, hz4]
          refine hK _ ?_; clear hK
          refine vwp_ret ?_
          refine ret_conv [(5, 0)] [] (by simp (dsimp := false) only [push_cast, hP, hnt, hgw, hgb, Nat.reduceLT, Nat.reduceEqDiff, Nat.reduceAdd, Nat.reduceSub, Nat.reduceMul, Nat.reduceLeDiff, ↓reduceIte, reduceCtorEq, hsz0, hi0, hi1, rowPS, hz3, hz4]; rfl) (by simp) (by simp) (by first | decide | simp) ?_ ?_
          · simp only [pack]
            rw [show readPassR s = (p, 0) from readPass_ok (by simpa using hb0) (readAt_end hb1 hra) (by simpa using hb3)]
            repeat' (first | exact ConvVs.nil | exact ConvL.nil | refine ConvV.tup ?_ | refine ConvVs.cons ?_ ?_ | (refine ConvV.self ?_; simp only [push_cast, ps_free]; done) | refine ConvV.one ?_ | refine ConvV.agg ?_ | (refine ConvL.free ?_; simp only [push_cast, ps_free]; done) | refine ConvL.append ?_ ?_ | refine ConvL.cons ?_ ?_ | exact Conv.free rfl | exact Conv.nil | (refine Conv.own ?_; simp; done) | (refine Conv.loc ?_; simp; done) | refine Conv.frz (by simp) (by simp (dsimp := false) only [push_cast, ↓reduceIte, Nat.reduceEqDiff, Nat.reduceAdd, reduceCtorEq, hsz0, hi0, hi1, rowPS, hz3, hz4] <;> rfl) ?_ | refine Conv.sl (by simp) ?_ | refine Conv.fn ?_)
          · exact rb_nil
end Go.Vm
end

section
namespace Go.Vm
open Go Go.RowKit Go.Proofs
set_option maxRecDepth 100000
set_option linter.unusedSimpArgs false
set_option linter.unusedVariables false
set_option maxHeartbeats 4000000

theorem piece_get {L : List ByteArray} {k : Nat} {x : List Value} (h : (L.map fun p => [Value.string p])[k]? = some x) : (k : Int) < (L.length : Int) ∧ x = [Value.string (atI L k)] := by
  rw [List.getElem?_map] at h
  obtain ⟨p, hp, rfl⟩ := Option.map_eq_some_iff.1 h
  obtain ⟨hk, he⟩ := List.getElem?_eq_some_iff.1 hp
  refine ⟨by omega, ?_⟩
  unfold atI
  rw [Int.toNat_natCast, List.getD_eq_getElem?_getD, hp]
  rfl
theorem readPasses_call (gw : World) (hg : Glob gw) (s : ByteArray) (hs : s.size ≤ 90000) : VCall Tryd.prog gw (gw.heap.size) 22 [.one (.c (.string s))] (.tup [.one (.sl true (readPassF s).1.length ((readPassF s).1.flatMap fun p => [.c (.string p.1), .c (.int .i64 p.2)])), .one (.c (.int .i64 (readPassF s).2))]) [] := by
  refine vcall_ofR [.cell 2 57, .cell 3 24] Tryd.func22 rfl rfl Tryd.ntmps22 rfl (by simp) ?_
  intro C hP hnt hgw hgb hfull hro
  refine vwp_seq_region rfl fun K hK => ?_
  simp (dsimp := false) only [push_cast, hP, hnt, hgw, hgb, Nat.reduceLT, Nat.reduceEqDiff, Nat.reduceAdd, Nat.reduceSub, Nat.reduceMul, Nat.reduceLeDiff, ↓reduceIte, reduceCtorEq]
  refine hK _ ?_; clear hK
  refine vwp_seq fun K hK => ?_
  refine vwp_seq_region rfl fun K hK => ?_
  simp (dsimp := false) only [push_cast, hP, hnt, hgw, hgb, Nat.reduceLT, Nat.reduceEqDiff, Nat.reduceAdd, Nat.reduceSub, Nat.reduceMul, Nat.reduceLeDiff, ↓reduceIte, reduceCtorEq]
  refine hK _ ?_; clear hK
  refine vwp_cond (b := _) (by simp (dsimp := false) only [push_cast, hP, hnt, hgw, hgb, Nat.reduceLT, Nat.reduceEqDiff, Nat.reduceAdd, Nat.reduceSub, Nat.reduceMul, Nat.reduceLeDiff, ↓reduceIte, reduceCtorEq]; rfl) (fun rb0 => ?_) (fun rb0 => ?_)
  · have hb0 := rb0
    try simp only [beq_iff_eq, bne_iff_ne, ne_eq, bne_eq_false_iff_eq, beq_eq_false_iff_ne, decide_eq_true_eq, decide_eq_false_iff_not, Bool.not_eq_true', Bool.not_eq_false', Bool.or_eq_true, Bool.and_eq_true, Bool.or_eq_false_iff, Bool.and_eq_false_iff] at hb0
    refine vwp_seq_region rfl fun K hK => ?_
    simp (dsimp := false) only [push_cast, hP, hnt, hgw, hgb, Nat.reduceLT, Nat.reduceEqDiff, Nat.reduceAdd, Nat.reduceSub, Nat.reduceMul, Nat.reduceLeDiff, ↓reduceIte, reduceCtorEq]
    refine hK _ ?_; clear hK
    refine vwp_ret ?_
    refine ret_conv [] [] (by simp (dsimp := false) only [push_cast, hP, hnt, hgw, hgb, Nat.reduceLT, Nat.reduceEqDiff, Nat.reduceAdd, Nat.reduceSub, Nat.reduceMul, Nat.reduceLeDiff, ↓reduceIte, reduceCtorEq]; rfl) (by simp) (by simp) (by first | decide | simp) ?_ ?_
    · simp only [pack]
      rw [show readPassF s = ([], 0) from readPass_nil (by simpa using hb0)]
      repeat' (first | exact ConvVs.nil | exact ConvL.nil | refine ConvV.tup ?_ | refine ConvVs.cons ?_ ?_ | (refine ConvV.self ?_; simp only [push_cast, ps_free]; done) | refine ConvV.one ?_ | refine ConvV.agg ?_ | (refine ConvL.free ?_; simp only [push_cast, ps_free]; done) | refine ConvL.append ?_ ?_ | refine ConvL.cons ?_ ?_ | exact Conv.free rfl | exact Conv.nil | (refine Conv.own ?_; simp; done) | (refine Conv.loc ?_; simp; done) | refine Conv.frz (by simp) (by simp (dsimp := false) only [push_cast, ↓reduceIte, Nat.reduceEqDiff, Nat.reduceAdd, reduceCtorEq] <;> rfl) ?_ | refine Conv.sl (by simp) ?_ | refine Conv.fn ?_)
    · exact rb_nil
  · have hb0 := rb0
    try simp only [beq_iff_eq, bne_iff_ne, ne_eq, bne_eq_false_iff_eq, beq_eq_false_iff_ne, decide_eq_true_eq, decide_eq_false_iff_not, Bool.not_eq_true', Bool.not_eq_false', Bool.or_eq_true, Bool.and_eq_true, Bool.or_eq_false_iff, Bool.and_eq_false_iff] at hb0
    refine vwp_skip ?_
    apply_assumption
    refine vwp_seq_region rfl fun K hK => ?_
    simp (dsimp := false) only [push_cast, hP, hnt, hgw, hgb, Nat.reduceLT, Nat.reduceEqDiff, Nat.reduceAdd, Nat.reduceSub, Nat.reduceMul, Nat.reduceLeDiff, ↓reduceIte, reduceCtorEq]
    refine hK _ ?_; clear hK
    refine vwp_wk (wk_nil_cell (i := (5, 0)) (k := 0) (d := 5) 23 2 (by first | (simp (dsimp := false) only [push_cast, hP, hnt, hgw, hgb, Nat.reduceLT, Nat.reduceEqDiff, Nat.reduceAdd, Nat.reduceSub, Nat.reduceMul, Nat.reduceLeDiff, ↓reduceIte, reduceCtorEq]; rfl) | (simp (dsimp := false) only [push_cast, hP, hnt, hgw, hgb, Nat.reduceLT, Nat.reduceEqDiff, Nat.reduceAdd, Nat.reduceSub, Nat.reduceMul, Nat.reduceLeDiff, ↓reduceIte, reduceCtorEq]; done)) rfl (by first | (simp (dsimp := false) only [push_cast, hP, hnt, hgw, hgb, Nat.reduceLT, Nat.reduceEqDiff, Nat.reduceAdd, Nat.reduceSub, Nat.reduceMul, Nat.reduceLeDiff, ↓reduceIte, reduceCtorEq]; done) | (simp (dsimp := false) only [push_cast, hP, hnt, hgw, hgb, Nat.reduceLT, Nat.reduceEqDiff, Nat.reduceAdd, Nat.reduceSub, Nat.reduceMul, Nat.reduceLeDiff, ↓reduceIte, reduceCtorEq]; rfl))) ?_
    simp (dsimp := false) only [push_cast, hP, hnt, hgw, hgb, Nat.reduceLT, Nat.reduceEqDiff, Nat.reduceAdd, Nat.reduceSub, Nat.reduceMul, Nat.reduceLeDiff, ↓reduceIte, reduceCtorEq]
    refine vwp_seq fun K hK => ?_
    refine vwp_seq_region rfl fun K hK => ?_
    simp (dsimp := false) only [push_cast, hP, hnt, hgw, hgb, Nat.reduceLT, Nat.reduceEqDiff, Nat.reduceAdd, Nat.reduceSub, Nat.reduceMul, Nat.reduceLeDiff, ↓reduceIte, reduceCtorEq]
    refine .inl (callE_intro (splitSeq_call gw gw.heap.size s ⟨#[44]⟩) (.inl ⟨rfl, rfl⟩) ?_)
    simp (dsimp := false) only [push_cast, hP, hnt, hgw, hgb, Nat.reduceLT, Nat.reduceEqDiff, Nat.reduceAdd, Nat.reduceSub, Nat.reduceMul, Nat.reduceLeDiff, ↓reduceIte, reduceCtorEq]
    refine hK _ ?_; clear hK
    refine vwp_block ?_
    refine vwp_rangeFunc (f := 102) (M := [(12, 0), (12, 1), (12, 2)]) (bx := [(9, [.string ⟨#[44]⟩]), (9, [.string s]), (3, [.int .i64 0])]) (xs := (piecesB s 44).map fun p => [Value.string p]) hro (by first | (simp (dsimp := false) only [push_cast, hP, hnt, hgw, hgb, Nat.reduceLT, Nat.reduceEqDiff, Nat.reduceAdd, Nat.reduceSub, Nat.reduceMul, Nat.reduceLeDiff, ↓reduceIte, reduceCtorEq]; done) | (simp (dsimp := false) only [push_cast, hP, hnt, hgw, hgb, Nat.reduceLT, Nat.reduceEqDiff, Nat.reduceAdd, Nat.reduceSub, Nat.reduceMul, Nat.reduceLeDiff, ↓reduceIte, reduceCtorEq]; rfl)) (by decide) (boxes3 (by first | (simp (dsimp := false) only [push_cast, hP, hnt, hgw, hgb, Nat.reduceLT, Nat.reduceEqDiff, Nat.reduceAdd, Nat.reduceSub, Nat.reduceMul, Nat.reduceLeDiff, ↓reduceIte, reduceCtorEq]; done) | (simp (dsimp := false) only [push_cast, hP, hnt, hgw, hgb, Nat.reduceLT, Nat.reduceEqDiff, Nat.reduceAdd, Nat.reduceSub, Nat.reduceMul, Nat.reduceLeDiff, ↓reduceIte, reduceCtorEq]; rfl)) (by first | (simp (dsimp := false) only [push_cast, hP, hnt, hgw, hgb, Nat.reduceLT, Nat.reduceEqDiff, Nat.reduceAdd, Nat.reduceSub, Nat.reduceMul, Nat.reduceLeDiff, ↓reduceIte, reduceCtorEq]; done) | (simp (dsimp := false) only [push_cast, hP, hnt, hgw, hgb, Nat.reduceLT, Nat.reduceEqDiff, Nat.reduceAdd, Nat.reduceSub, Nat.reduceMul, Nat.reduceLeDiff, ↓reduceIte, reduceCtorEq]; rfl)) (by first | (simp (dsimp := false) only [push_cast, hP, hnt, hgw, hgb, Nat.reduceLT, Nat.reduceEqDiff, Nat.reduceAdd, Nat.reduceSub, Nat.reduceMul, Nat.reduceLeDiff, ↓reduceIte, reduceCtorEq]; done) | (simp (dsimp := false) only [push_cast, hP, hnt, hgw, hgb, Nat.reduceLT, Nat.reduceEqDiff, Nat.reduceAdd, Nat.reduceSub, Nat.reduceMul, Nat.reduceLeDiff, ↓reduceIte, reduceCtorEq]; rfl))) rfl (by rw [hP, hgw, hgb]; exact (splitIter gw gw.heap.size s 44 (by omega))) (by simp [hnt]) (by intro x hx; obtain ⟨p, _, rfl⟩ := List.mem_map.1 hx; rfl) (fun k σ => ∃ (p : List (ByteArray × Int)), ((ReadAt readF (piecesB s 44) k p)) ∧ σ = St.of [(0, .one (.c (.string s))), (2, .one (.loc (3, 0) 0)), (3, .one (.loc (4, 0) 0)), (4, .one (.loc (5, 0) 0))] [((3, 0), .box 57 [.c (.slice none 0 0)]), ((4, 0), .box 24 [.c (.int .i64 0)]), ((5, 0), .box 57 [.own (6, 0)]), ((6, 0), rowPS p)] [2, 3, 4, 5]) ⟨_, ?_, [], ?_, rfl⟩ ?_ ?_
    · refine wk_conv [] [((3, 0), (3, 0)), ((4, 0), (4, 0)), ((5, 0), (5, 0)), ((6, 0), (6, 0))] (by simp) (by simp) (by decide) ?_ ?_
      · refine hf_cons (by simp (dsimp := false) only [push_cast, ↓reduceIte, Nat.reduceEqDiff, Nat.reduceAdd, reduceCtorEq] <;> rfl) (by exact ConvV.self rfl) ?_
        refine hf_cons (by simp (dsimp := false) only [push_cast, ↓reduceIte, Nat.reduceEqDiff, Nat.reduceAdd, reduceCtorEq] <;> rfl) (by exact .one (.loc (by simp))) ?_
        refine hf_cons (by simp (dsimp := false) only [push_cast, ↓reduceIte, Nat.reduceEqDiff, Nat.reduceAdd, reduceCtorEq] <;> rfl) (by exact .one (.loc (by simp))) ?_
        refine hf_cons (by simp (dsimp := false) only [push_cast, ↓reduceIte, Nat.reduceEqDiff, Nat.reduceAdd, reduceCtorEq] <;> rfl) (by exact .one (.loc (by simp))) ?_
        exact hf_nil
      · refine hh_cons (i := (3, 0)) (by simp) (by simp) (by simp (dsimp := false) only [push_cast, ↓reduceIte, Nat.reduceEqDiff, Nat.reduceAdd, reduceCtorEq] <;> rfl) (by first | (refine ConvB.free ?_; simp only [push_cast, ps_free]; done) | (refine ConvB.box ?_; repeat' (first | exact ConvVs.nil | exact ConvL.nil | refine ConvV.tup ?_ | refine ConvVs.cons ?_ ?_ | (refine ConvV.self ?_; simp only [push_cast, ps_free]; done) | refine ConvV.one ?_ | refine ConvV.agg ?_ | (refine ConvL.free ?_; simp only [push_cast, ps_free]; done) | refine ConvL.append ?_ ?_ | refine ConvL.cons ?_ ?_ | exact Conv.free rfl | exact Conv.nil | (refine Conv.own ?_; simp; done) | (refine Conv.loc ?_; simp; done) | refine Conv.frz (by simp) (by simp (dsimp := false) only [push_cast, ↓reduceIte, Nat.reduceEqDiff, Nat.reduceAdd, reduceCtorEq] <;> rfl) ?_ | refine Conv.sl (by simp) ?_ | refine Conv.fn ?_))) ?_
        refine hh_cons (i := (4, 0)) (by simp) (by simp) (by simp (dsimp := false) only [push_cast, ↓reduceIte, Nat.reduceEqDiff, Nat.reduceAdd, reduceCtorEq] <;> rfl) (by first | (refine ConvB.free ?_; simp only [push_cast, ps_free]; done) | (refine ConvB.box ?_; repeat' (first | exact ConvVs.nil | exact ConvL.nil | refine ConvV.tup ?_ | refine ConvVs.cons ?_ ?_ | (refine ConvV.self ?_; simp only [push_cast, ps_free]; done) | refine ConvV.one ?_ | refine ConvV.agg ?_ | (refine ConvL.free ?_; simp only [push_cast, ps_free]; done) | refine ConvL.append ?_ ?_ | refine ConvL.cons ?_ ?_ | exact Conv.free rfl | exact Conv.nil | (refine Conv.own ?_; simp; done) | (refine Conv.loc ?_; simp; done) | refine Conv.frz (by simp) (by simp (dsimp := false) only [push_cast, ↓reduceIte, Nat.reduceEqDiff, Nat.reduceAdd, reduceCtorEq] <;> rfl) ?_ | refine Conv.sl (by simp) ?_ | refine Conv.fn ?_))) ?_
        refine hh_cons (i := (5, 0)) (by simp) (by simp) (by simp (dsimp := false) only [push_cast, ↓reduceIte, Nat.reduceEqDiff, Nat.reduceAdd, reduceCtorEq] <;> rfl) (by first | (refine ConvB.free ?_; simp only [push_cast, ps_free]; done) | (refine ConvB.box ?_; repeat' (first | exact ConvVs.nil | exact ConvL.nil | refine ConvV.tup ?_ | refine ConvVs.cons ?_ ?_ | (refine ConvV.self ?_; simp only [push_cast, ps_free]; done) | refine ConvV.one ?_ | refine ConvV.agg ?_ | (refine ConvL.free ?_; simp only [push_cast, ps_free]; done) | refine ConvL.append ?_ ?_ | refine ConvL.cons ?_ ?_ | exact Conv.free rfl | exact Conv.nil | (refine Conv.own ?_; simp; done) | (refine Conv.loc ?_; simp; done) | refine Conv.frz (by simp) (by simp (dsimp := false) only [push_cast, ↓reduceIte, Nat.reduceEqDiff, Nat.reduceAdd, reduceCtorEq] <;> rfl) ?_ | refine Conv.sl (by simp) ?_ | refine Conv.fn ?_))) ?_
        refine hh_cons (i := (6, 0)) (by simp) (by simp) (by simp (dsimp := false) only [push_cast, ↓reduceIte, Nat.reduceEqDiff, Nat.reduceAdd, reduceCtorEq] <;> rfl) (by exact ConvB.arr (ConvL.free (ps_free []))) ?_
        exact hh_nil
    · exact readAt_init _ _
    · rintro k τ x ⟨p, hra, rfl⟩ hx C₂ hP₂ hnt₂ hgw₂ hgb₂ K hK
      obtain ⟨hlt, rfl⟩ := piece_get hx
      have hk0 : (0 : Int) ≤ (k : Int) := by omega
      have hpl := pieces_len s 44
      have hol := hra.len
      have hz3 : p.length + 1 ≤ 140737488355328 := by omega
      have hz4 : (p.length + 1) * 24 ≤ 140737488355328 := by omega
      replace hP₂ := hP₂.trans hP; replace hnt₂ := hnt₂.trans hnt; replace hgw₂ := hgw₂.trans hgw; replace hgb₂ := hgb₂.trans hgb
      refine vwp_region rfl ?_
      simp (dsimp := false) only [push_cast, hP₂, hnt₂, hgw₂, hgb₂, Nat.reduceLT, Nat.reduceEqDiff, Nat.reduceAdd, Nat.reduceSub, Nat.reduceMul, Nat.reduceLeDiff, ↓reduceIte, reduceCtorEq, rowPS, hz3, hz4, List.zip_cons_cons, List.zip_nil_left, List.zip_nil_right]
      refine hK _ fun C₃ hP₃ hnt₃ hgw₃ hgb₃ => ?_
      clear hP₂ hnt₂ hgw₂ hgb₂ hK
      have hPs := hP; have hnts := hnt; have hgws := hgw; have hgbs := hgb
      replace hP := hP₃.trans hP; replace hnt := hnt₃.trans hnt; replace hgw := hgw₃.trans hgw; replace hgb := hgb₃.trans hgb
      refine vwp_block ?_
      refine vwp_seq_region rfl fun K hK => ?_
      simp (dsimp := false) only [push_cast, hP, hnt, hgw, hgb, Nat.reduceLT, Nat.reduceEqDiff, Nat.reduceAdd, Nat.reduceSub, Nat.reduceMul, Nat.reduceLeDiff, ↓reduceIte, reduceCtorEq, rowPS, hz3, hz4]
      refine .inl (callE_intro (read_call gw hg _ (by have := pieces_size s 44 _ (atI_mem hk0 hlt); omega)) (.inl ⟨rfl, rfl⟩) ?_)
      simp (dsimp := false) only [push_cast, hP, hnt, hgw, hgb, Nat.reduceLT, Nat.reduceEqDiff, Nat.reduceAdd, Nat.reduceSub, Nat.reduceMul, Nat.reduceLeDiff, ↓reduceIte, reduceCtorEq, rowPS, hz3, hz4]
      refine hK _ ?_; clear hK
      refine vwp_seq fun K hK => ?_
      refine vwp_seq_region rfl fun K hK => ?_
      simp (dsimp := false) only [push_cast, hP, hnt, hgw, hgb, Nat.reduceLT, Nat.reduceEqDiff, Nat.reduceAdd, Nat.reduceSub, Nat.reduceMul, Nat.reduceLeDiff, ↓reduceIte, reduceCtorEq, rowPS, hz3, hz4]
      refine hK _ ?_; clear hK
      refine vwp_cond (b := _) (by simp (dsimp := false) only [push_cast, hP, hnt, hgw, hgb, Nat.reduceLT, Nat.reduceEqDiff, Nat.reduceAdd, Nat.reduceSub, Nat.reduceMul, Nat.reduceLeDiff, ↓reduceIte, reduceCtorEq, rowPS, hz3, hz4]; rfl) (fun rb1 => ?_) (fun rb1 => ?_)
      · have hb1 := rb1
        try simp only [beq_iff_eq, bne_iff_ne, ne_eq, bne_eq_false_iff_eq, beq_eq_false_iff_ne, decide_eq_true_eq, decide_eq_false_iff_not, Bool.not_eq_true', Bool.not_eq_false', Bool.or_eq_true, Bool.and_eq_true, Bool.or_eq_false_iff, Bool.and_eq_false_iff] at hb1
        refine vwp_seq_region rfl fun K hK => ?_
        simp (dsimp := false) only [push_cast, hP, hnt, hgw, hgb, Nat.reduceLT, Nat.reduceEqDiff, Nat.reduceAdd, Nat.reduceSub, Nat.reduceMul, Nat.reduceLeDiff, ↓reduceIte, reduceCtorEq, rowPS, hz3, hz4]
        refine hK _ ?_; clear hK
        refine vwp_ret ?_
        refine ⟨_, wk_convG (fr := [(2, .one (.loc (3, 0) 0)), (3, .one (.loc (4, 0) 0))]) (H := [((3, 0), .box 57 [.c (.slice none 0 0)]), ((4, 0), .box 24 [.c (.int .i64 12)])]) (u := [2, 3]) [] [((3, 0), (3, 0)), ((4, 0), (4, 0))] (by simp) (by simp) (by decide) ?_ ?_, ?_⟩
        · refine hg_cons (by simp (dsimp := false) only [push_cast, ↓reduceIte, Nat.reduceEqDiff, Nat.reduceAdd, reduceCtorEq, rowPS, hz3, hz4] <;> rfl) (by exact .one (.loc (by simp))) ?_
          refine hg_cons (by simp (dsimp := false) only [push_cast, ↓reduceIte, Nat.reduceEqDiff, Nat.reduceAdd, reduceCtorEq, rowPS, hz3, hz4] <;> rfl) (by exact .one (.loc (by simp))) ?_
          exact hf_nil
        · refine hh_cons (i := (3, 0)) (by simp) (by simp) (by simp (dsimp := false) only [push_cast, ↓reduceIte, Nat.reduceEqDiff, Nat.reduceAdd, reduceCtorEq, rowPS, hz3, hz4] <;> rfl) (by first | (refine ConvB.free ?_; simp only [push_cast, ps_free]; done) | (refine ConvB.box ?_; repeat' (first | exact ConvVs.nil | exact ConvL.nil | refine ConvV.tup ?_ | refine ConvVs.cons ?_ ?_ | (refine ConvV.self ?_; simp only [push_cast, ps_free]; done) | refine ConvV.one ?_ | refine ConvV.agg ?_ | (refine ConvL.free ?_; simp only [push_cast, ps_free]; done) | refine ConvL.append ?_ ?_ | refine ConvL.cons ?_ ?_ | exact Conv.free rfl | exact Conv.nil | (refine Conv.own ?_; simp; done) | (refine Conv.loc ?_; simp; done) | refine Conv.frz (by simp) (by simp (dsimp := false) only [push_cast, ↓reduceIte, Nat.reduceEqDiff, Nat.reduceAdd, reduceCtorEq, rowPS, hz3, hz4] <;> rfl) ?_ | refine Conv.sl (by simp) ?_ | refine Conv.fn ?_))) ?_
          refine hh_cons (i := (4, 0)) (by simp) (by simp) (by simp (dsimp := false) only [push_cast, ↓reduceIte, Nat.reduceEqDiff, Nat.reduceAdd, reduceCtorEq, rowPS, hz3, hz4] <;> rfl) (by first | (refine ConvB.free ?_; simp only [push_cast, ps_free]; done) | (refine ConvB.box ?_; repeat' (first | exact ConvVs.nil | exact ConvL.nil | refine ConvV.tup ?_ | refine ConvVs.cons ?_ ?_ | (refine ConvV.self ?_; simp only [push_cast, ps_free]; done) | refine ConvV.one ?_ | refine ConvV.agg ?_ | (refine ConvL.free ?_; simp only [push_cast, ps_free]; done) | refine ConvL.append ?_ ?_ | refine ConvL.cons ?_ ?_ | exact Conv.free rfl | exact Conv.nil | (refine Conv.own ?_; simp; done) | (refine Conv.loc ?_; simp; done) | refine Conv.frz (by simp) (by simp (dsimp := false) only [push_cast, ↓reduceIte, Nat.reduceEqDiff, Nat.reduceAdd, reduceCtorEq, rowPS, hz3, hz4] <;> rfl) ?_ | refine Conv.sl (by simp) ?_ | refine Conv.fn ?_))) ?_
          exact hh_nil
        simp only [unround, blockQ, thenQ]
        refine ret_conv [] [] (by simp (dsimp := false) only [push_cast, hP, hnt, hgw, hgb, Nat.reduceLT, Nat.reduceEqDiff, Nat.reduceAdd, Nat.reduceSub, Nat.reduceMul, Nat.reduceLeDiff, ↓reduceIte, reduceCtorEq, rowPS, hz3, hz4]; rfl) (by simp) (by simp) (by first | decide | simp) ?_ ?_
        · simp only [pack]
          rw [show readPassF s = ([], 12) from readPass_stop (by simpa using hb0) (readAt_stop hk0 hlt hra (by simpa using hb1))]
          repeat' (first | exact ConvVs.nil | exact ConvL.nil | refine ConvV.tup ?_ | refine ConvVs.cons ?_ ?_ | (refine ConvV.self ?_; simp only [push_cast, ps_free]; done) | refine ConvV.one ?_ | refine ConvV.agg ?_ | (refine ConvL.free ?_; simp only [push_cast, ps_free]; done) | refine ConvL.append ?_ ?_ | refine ConvL.cons ?_ ?_ | exact Conv.free rfl | exact Conv.nil | (refine Conv.own ?_; simp; done) | (refine Conv.loc ?_; simp; done) | refine Conv.frz (by simp) (by simp (dsimp := false) only [push_cast, ↓reduceIte, Nat.reduceEqDiff, Nat.reduceAdd, reduceCtorEq, rowPS, hz3, hz4] <;> rfl) ?_ | refine Conv.sl (by simp) ?_ | refine Conv.fn ?_)
        · exact rb_nil
      · have hb1 := rb1
        try simp only [beq_iff_eq, bne_iff_ne, ne_eq, bne_eq_false_iff_eq, beq_eq_false_iff_ne, decide_eq_true_eq, decide_eq_false_iff_not, Bool.not_eq_true', Bool.not_eq_false', Bool.or_eq_true, Bool.and_eq_true, Bool.or_eq_false_iff, Bool.and_eq_false_iff] at hb1
        refine vwp_skip ?_
        apply_assumption
        refine vwp_region rfl ?_
        simp (dsimp := false) only [push_cast, hP, hnt, hgw, hgb, Nat.reduceLT, Nat.reduceEqDiff, Nat.reduceAdd, Nat.reduceSub, Nat.reduceMul, Nat.reduceLeDiff, ↓reduceIte, reduceCtorEq, rowPS, hz3, hz4]
        refine ⟨_, wk_convG (fr := [(0, .one (.c (.string s))), (2, .one (.loc (3, 0) 0)), (3, .one (.loc (4, 0) 0)), (4, .one (.loc (5, 0) 0))]) (H := [((3, 0), .box 57 [.c (.slice none 0 0)]), ((4, 0), .box 24 [.c (.int .i64 0)]), ((5, 0), .box 57 [.own (6, 0)]), ((6, 0), rowPS (p ++ [((readF (atI (piecesB s 44) k)).1, (readF (atI (piecesB s 44) k)).2.1)]))]) (u := [2, 3, 4, 5]) [] [((3, 0), (3, 0)), ((4, 0), (4, 0)), ((5, 0), (5, 0)), ((24, 0), (6, 0))] (by simp) (by simp) (by decide) ?_ ?_, ?_⟩
        · refine hg_cons (by simp (dsimp := false) only [push_cast, ↓reduceIte, Nat.reduceEqDiff, Nat.reduceAdd, reduceCtorEq, rowPS, hz3, hz4] <;> rfl) (by exact ConvV.self rfl) ?_
          refine hg_cons (by simp (dsimp := false) only [push_cast, ↓reduceIte, Nat.reduceEqDiff, Nat.reduceAdd, reduceCtorEq, rowPS, hz3, hz4] <;> rfl) (by exact .one (.loc (by simp))) ?_
          refine hg_cons (by simp (dsimp := false) only [push_cast, ↓reduceIte, Nat.reduceEqDiff, Nat.reduceAdd, reduceCtorEq, rowPS, hz3, hz4] <;> rfl) (by exact .one (.loc (by simp))) ?_
          refine hg_cons (by simp (dsimp := false) only [push_cast, ↓reduceIte, Nat.reduceEqDiff, Nat.reduceAdd, reduceCtorEq, rowPS, hz3, hz4] <;> rfl) (by exact .one (.loc (by simp))) ?_
          exact hf_nil
        · refine hh_cons (i := (3, 0)) (by simp) (by simp) (by simp (dsimp := false) only [push_cast, ↓reduceIte, Nat.reduceEqDiff, Nat.reduceAdd, reduceCtorEq, rowPS, hz3, hz4] <;> rfl) (by first | (refine ConvB.free ?_; simp only [push_cast, ps_free]; done) | (refine ConvB.box ?_; repeat' (first | exact ConvVs.nil | exact ConvL.nil | refine ConvV.tup ?_ | refine ConvVs.cons ?_ ?_ | (refine ConvV.self ?_; simp only [push_cast, ps_free]; done) | refine ConvV.one ?_ | refine ConvV.agg ?_ | (refine ConvL.free ?_; simp only [push_cast, ps_free]; done) | refine ConvL.append ?_ ?_ | refine ConvL.cons ?_ ?_ | exact Conv.free rfl | exact Conv.nil | (refine Conv.own ?_; simp; done) | (refine Conv.loc ?_; simp; done) | refine Conv.frz (by simp) (by simp (dsimp := false) only [push_cast, ↓reduceIte, Nat.reduceEqDiff, Nat.reduceAdd, reduceCtorEq, rowPS, hz3, hz4] <;> rfl) ?_ | refine Conv.sl (by simp) ?_ | refine Conv.fn ?_))) ?_
          refine hh_cons (i := (4, 0)) (by simp) (by simp) (by simp (dsimp := false) only [push_cast, ↓reduceIte, Nat.reduceEqDiff, Nat.reduceAdd, reduceCtorEq, rowPS, hz3, hz4] <;> rfl) (by first | (refine ConvB.free ?_; simp only [push_cast, ps_free]; done) | (refine ConvB.box ?_; repeat' (first | exact ConvVs.nil | exact ConvL.nil | refine ConvV.tup ?_ | refine ConvVs.cons ?_ ?_ | (refine ConvV.self ?_; simp only [push_cast, ps_free]; done) | refine ConvV.one ?_ | refine ConvV.agg ?_ | (refine ConvL.free ?_; simp only [push_cast, ps_free]; done) | refine ConvL.append ?_ ?_ | refine ConvL.cons ?_ ?_ | exact Conv.free rfl | exact Conv.nil | (refine Conv.own ?_; simp; done) | (refine Conv.loc ?_; simp; done) | refine Conv.frz (by simp) (by simp (dsimp := false) only [push_cast, ↓reduceIte, Nat.reduceEqDiff, Nat.reduceAdd, reduceCtorEq, rowPS, hz3, hz4] <;> rfl) ?_ | refine Conv.sl (by simp) ?_ | refine Conv.fn ?_))) ?_
          refine hh_cons (i := (5, 0)) (by simp) (by simp) (by simp (dsimp := false) only [push_cast, ↓reduceIte, Nat.reduceEqDiff, Nat.reduceAdd, reduceCtorEq, rowPS, hz3, hz4] <;> rfl) (by first | (refine ConvB.free ?_; simp only [push_cast, ps_free]; done) | (refine ConvB.box ?_; repeat' (first | exact ConvVs.nil | exact ConvL.nil | refine ConvV.tup ?_ | refine ConvVs.cons ?_ ?_ | (refine ConvV.self ?_; simp only [push_cast, ps_free]; done) | refine ConvV.one ?_ | refine ConvV.agg ?_ | (refine ConvL.free ?_; simp only [push_cast, ps_free]; done) | refine ConvL.append ?_ ?_ | refine ConvL.cons ?_ ?_ | exact Conv.free rfl | exact Conv.nil | (refine Conv.own ?_; simp; done) | (refine Conv.loc ?_; simp; done) | refine Conv.frz (by simp) (by simp (dsimp := false) only [push_cast, ↓reduceIte, Nat.reduceEqDiff, Nat.reduceAdd, reduceCtorEq, rowPS, hz3, hz4] <;> rfl) ?_ | refine Conv.sl (by simp) ?_ | refine Conv.fn ?_))) ?_
          refine hh_cons (i := (24, 0)) (by simp) (by simp) (by simp (dsimp := false) only [push_cast, ↓reduceIte, Nat.reduceEqDiff, Nat.reduceAdd, reduceCtorEq, rowPS, hz3, hz4] <;> rfl) (by simp only [rowPS, ps_snoc, List.length_append]; exact ConvB.arr (ConvL.free (by rw [frees_append, ps_free]; rfl))) ?_
          exact hh_nil
        exact ⟨p ++ [((readF (atI (piecesB s 44) k)).1, (readF (atI (piecesB s 44) k)).2.1)], by have := readAt_next hk0 hlt hra (by simpa using hb1); simpa using this, rfl⟩
    · rintro τ ⟨p, hra, rfl⟩
      have hraE : readsG readF (piecesB s 44) = some p := readAt_end (by simp) hra
      simp only [blockQ]
      apply_assumption
      refine vwp_seq fun K hK => ?_
      refine vwp_seq_region rfl fun K hK => ?_
      simp (dsimp := false) only [push_cast, hP, hnt, hgw, hgb, Nat.reduceLT, Nat.reduceEqDiff, Nat.reduceAdd, Nat.reduceSub, Nat.reduceMul, Nat.reduceLeDiff, ↓reduceIte, reduceCtorEq, rowPS]
      refine .inl (callE_intro (checks_call gw gw.heap.size p) (.inl ⟨rfl, rfl⟩) ?_)
      simp (dsimp := false) only [push_cast, hP, hnt, hgw, hgb, Nat.reduceLT, Nat.reduceEqDiff, Nat.reduceAdd, Nat.reduceSub, Nat.reduceMul, Nat.reduceLeDiff, ↓reduceIte, reduceCtorEq, rowPS]
      refine hK _ ?_; clear hK
      refine vwp_cond (b := _) (by simp (dsimp := false) only [push_cast, hP, hnt, hgw, hgb, Nat.reduceLT, Nat.reduceEqDiff, Nat.reduceAdd, Nat.reduceSub, Nat.reduceMul, Nat.reduceLeDiff, ↓reduceIte, reduceCtorEq, rowPS]; rfl) (fun rb2 => ?_) (fun rb2 => ?_)
      · have hb2 := rb2
        try simp only [beq_iff_eq, bne_iff_ne, ne_eq, bne_eq_false_iff_eq, beq_eq_false_iff_ne, decide_eq_true_eq, decide_eq_false_iff_not, Bool.not_eq_true', Bool.not_eq_false', Bool.or_eq_true, Bool.and_eq_true, Bool.or_eq_false_iff, Bool.and_eq_false_iff] at hb2
        refine vwp_seq_region rfl fun K hK => ?_
        simp (dsimp := false) only [push_cast, hP, hnt, hgw, hgb, Nat.reduceLT, Nat.reduceEqDiff, Nat.reduceAdd, Nat.reduceSub, Nat.reduceMul, Nat.reduceLeDiff, ↓reduceIte, reduceCtorEq, rowPS]
        refine hK _ ?_; clear hK
        refine vwp_ret ?_
        refine ret_conv [] [] (by simp (dsimp := false) only [push_cast, hP, hnt, hgw, hgb, Nat.reduceLT, Nat.reduceEqDiff, Nat.reduceAdd, Nat.reduceSub, Nat.reduceMul, Nat.reduceLeDiff, ↓reduceIte, reduceCtorEq, rowPS]; rfl) (by simp) (by simp) (by first | decide | simp) ?_ ?_
        · simp only [pack]
          rw [show readPassF s = ([], 12) from readPass_bad (by simpa using hb0) hraE (by simpa using hb2)]
          repeat' (first | exact ConvVs.nil | exact ConvL.nil | refine ConvV.tup ?_ | refine ConvVs.cons ?_ ?_ | (refine ConvV.self ?_; simp only [push_cast, ps_free]; done) | refine ConvV.one ?_ | refine ConvV.agg ?_ | (refine ConvL.free ?_; simp only [push_cast, ps_free]; done) | refine ConvL.append ?_ ?_ | refine ConvL.cons ?_ ?_ | exact Conv.free rfl | exact Conv.nil | (refine Conv.own ?_; simp; done) | (refine Conv.loc ?_; simp; done) | refine Conv.frz (by simp) (by simp (dsimp := false) only [push_cast, ↓reduceIte, Nat.reduceEqDiff, Nat.reduceAdd, reduceCtorEq, rowPS] <;> rfl) ?_ | refine Conv.sl (by simp) ?_ | refine Conv.fn ?_)
        · exact rb_nil
      · have hb2 := rb2
        try simp only [beq_iff_eq, bne_iff_ne, ne_eq, bne_eq_false_iff_eq, beq_eq_false_iff_ne, decide_eq_true_eq, decide_eq_false_iff_not, Bool.not_eq_true', Bool.not_eq_false', Bool.or_eq_true, Bool.and_eq_true, Bool.or_eq_false_iff, Bool.and_eq_false_iff] at hb2
        refine vwp_skip ?_
        apply_assumption
        refine vwp_seq_region rfl fun K hK => ?_
        simp (dsimp := false) only [push_cast, hP, hnt, hgw, hgb, Nat.reduceLT, Nat.reduceEqDiff, Nat.reduceAdd, Nat.reduceSub, Nat.reduceMul, Nat.reduceLeDiff, ↓reduceIte, reduceCtorEq, rowPS]
        refine hK _ ?_; clear hK
        refine vwp_ret ?_
        refine ret_conv [(6, 0)] [] (by simp (dsimp := false) only [push_cast, hP, hnt, hgw, hgb, Nat.reduceLT, Nat.reduceEqDiff, Nat.reduceAdd, Nat.reduceSub, Nat.reduceMul, Nat.reduceLeDiff, ↓reduceIte, reduceCtorEq, rowPS]; rfl) (by simp) (by simp) (by first | decide | simp) ?_ ?_
        · simp only [pack]
          rw [show readPassF s = (p, 0) from readPass_ok (by simpa using hb0) hraE (by simpa using hb2)]
          repeat' (first | exact ConvVs.nil | exact ConvL.nil | refine ConvV.tup ?_ | refine ConvVs.cons ?_ ?_ | (refine ConvV.self ?_; simp only [push_cast, ps_free]; done) | refine ConvV.one ?_ | refine ConvV.agg ?_ | (refine ConvL.free ?_; simp only [push_cast, ps_free]; done) | refine ConvL.append ?_ ?_ | refine ConvL.cons ?_ ?_ | exact Conv.free rfl | exact Conv.nil | (refine Conv.own ?_; simp; done) | (refine Conv.loc ?_; simp; done) | refine Conv.frz (by simp) (by simp (dsimp := false) only [push_cast, ↓reduceIte, Nat.reduceEqDiff, Nat.reduceAdd, reduceCtorEq, rowPS] <;> rfl) ?_ | refine Conv.sl (by simp) ?_ | refine Conv.fn ?_)
        · exact rb_nil
end Go.Vm
end
