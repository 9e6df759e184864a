/-
  Walks of the program's functions by the framework, and what they compute (PtAU). Conditions: each theorem's own premises. By an AI agent.
-/
import Derived.Test.YtnpbndglolcilaaGreatDoorPtAT
import Derived.Test.YtnpbndglolcilaaGreatDoorPtAR
section
namespace Go.Vm
open Go Go.RowKit Go.Proofs
set_option maxRecDepth 100000
set_option linter.unusedSimpArgs false
set_option linter.unusedVariables false
set_option maxHeartbeats 4000000

theorem piece_get {L : List ByteArray} {k : Nat} {x : List Value} (h : (L.map fun p => [Value.string p])[k]? = some x) : (k : Int) < (L.length : Int) ∧ x = [Value.string (atI L k)] := by
  rw [List.getElem?_map] at h
  obtain ⟨p, hp, rfl⟩ := Option.map_eq_some_iff.1 h
  obtain ⟨hk, he⟩ := List.getElem?_eq_some_iff.1 hp
  refine ⟨by omega, ?_⟩
  unfold atI
  rw [Int.toNat_natCast, List.getD_eq_getElem?_getD, hp]
  rfl
theorem readPasses_call (gw : World) (hg : Glob gw) (s : ByteArray) (hs : s.size ≤ 90000) : VCall Tryz.prog gw (gw.heap.size) 20 [.one (.c (.string s))] (.tup [.one (.sl true (readPassF s).1.length ((readPassF s).1.flatMap fun p => [.c (.string p.1), .c (.int .i64 p.2)])), .one (.c (.int .i64 (readPassF s).2))]) [] := by
  refine vcall_ofR [.cell 2 39, .cell 3 45] Tryz.func20 rfl rfl Tryz.ntmps20 rfl (by simp) ?_
  intro C hP hnt hgw hgb hfull hro
  refine vwp_seq_region rfl fun K hK => ?_
  simp (dsimp := false) only [push_cast, hP, hnt, hgw, hgb, sevalprocAttr]
  refine hK _ ?_; clear hK
  refine vwp_seq fun K hK => ?_
  refine vwp_seq_region rfl fun K hK => ?_
  simp (dsimp := false) only [push_cast, hP, hnt, hgw, hgb, sevalprocAttr]
  refine hK _ ?_; clear hK
  refine vwp_cond (b := _) (by simp (dsimp := false) only [push_cast, hP, hnt, hgw, hgb, sevalprocAttr]; rfl) (fun rb0 => ?_) (fun rb0 => ?_)
  · have hb0 := rb0
    try simp only [beq_iff_eq, bne_iff_ne, ne_eq, bne_eq_false_iff_eq, beq_eq_false_iff_ne, decide_eq_true_eq, decide_eq_false_iff_not, Bool.not_eq_true', Bool.not_eq_false', Bool.or_eq_true, Bool.and_eq_true, Bool.or_eq_false_iff, Bool.and_eq_false_iff] at hb0
    refine vwp_seq_region rfl fun K hK => ?_
    simp (dsimp := false) only [push_cast, hP, hnt, hgw, hgb, sevalprocAttr]
    refine hK _ ?_; clear hK
    refine vwp_ret ?_
    refine ret_conv [] [] (by simp (dsimp := false) only [push_cast, hP, hnt, hgw, hgb, sevalprocAttr]; rfl) (by simp) (by simp) (by first | decide | simp) ?_ ?_
    · simp only [pack]
      rw [show readPassF s = ([], 0) from readPass_nil (by simpa using hb0)]
      repeat' (first | exact ConvVs.nil | exact ConvL.nil | refine ConvV.tup ?_ | refine ConvVs.cons ?_ ?_ | (refine ConvV.self ?_; simp only [push_cast, ps_free]; done) | refine ConvV.one ?_ | refine ConvV.agg ?_ | (refine ConvL.free ?_; simp only [push_cast, ps_free]; done) | refine ConvL.append ?_ ?_ | refine ConvL.cons ?_ ?_ | exact Conv.free rfl | exact Conv.nil | (refine Conv.own ?_; simp; done) | (refine Conv.loc ?_; simp; done) | refine Conv.frz (by simp) (by simp (dsimp := false) only [push_cast, ↓reduceIte, Nat.reduceEqDiff, Nat.reduceAdd, reduceCtorEq] <;> rfl) ?_ | refine Conv.sl (by simp) ?_ | refine Conv.fn ?_)
    · exact rb_nil
  · have hb0 := rb0
    try simp only [beq_iff_eq, bne_iff_ne, ne_eq, bne_eq_false_iff_eq, beq_eq_false_iff_ne, decide_eq_true_eq, decide_eq_false_iff_not, Bool.not_eq_true', Bool.not_eq_false', Bool.or_eq_true, Bool.and_eq_true, Bool.or_eq_false_iff, Bool.and_eq_false_iff] at hb0
    refine vwp_skip ?_
    apply_assumption
    refine vwp_seq_region rfl fun K hK => ?_
    simp (dsimp := false) only [push_cast, hP, hnt, hgw, hgb, sevalprocAttr]
    refine hK _ ?_; clear hK
    refine vwp_wk (wk_nil_cell (i := (5, 0)) (k := 0) (d := 5) 38 2 (by first | (simp (dsimp := false) only [push_cast, hP, hnt, hgw, hgb, sevalprocAttr]; rfl) | (simp (dsimp := false) only [push_cast, hP, hnt, hgw, hgb, sevalprocAttr]; done)) rfl (by first | (simp (dsimp := false) only [push_cast, hP, hnt, hgw, hgb, sevalprocAttr]; done) | (simp (dsimp := false) only [push_cast, hP, hnt, hgw, hgb, sevalprocAttr]; rfl))) ?_
    simp (dsimp := false) only [push_cast, hP, hnt, hgw, hgb, sevalprocAttr]
    refine vwp_seq fun K hK => ?_
    refine vwp_seq_region rfl fun K hK => ?_
    simp (dsimp := false) only [push_cast, hP, hnt, hgw, hgb, sevalprocAttr]
    refine .inl (callE_intro (splitSeq_call gw gw.heap.size s ⟨#[44]⟩) (.inl ⟨rfl, rfl⟩) ?_)
    simp (dsimp := false) only [push_cast, hP, hnt, hgw, hgb, sevalprocAttr]
    refine hK _ ?_; clear hK
    refine vwp_block ?_
    refine vwp_rangeFunc (f := 74) (M := [(12, 0), (12, 1), (12, 2)]) (bx := [(9, [.string ⟨#[44]⟩]), (9, [.string s]), (3, [.int .i64 0])]) (xs := (piecesB s 44).map fun p => [Value.string p]) hro (by first | (simp (dsimp := false) only [push_cast, hP, hnt, hgw, hgb, sevalprocAttr]; done) | (simp (dsimp := false) only [push_cast, hP, hnt, hgw, hgb, sevalprocAttr]; rfl)) (by decide) (boxes3 (by first | (simp (dsimp := false) only [push_cast, hP, hnt, hgw, hgb, sevalprocAttr]; done) | (simp (dsimp := false) only [push_cast, hP, hnt, hgw, hgb, sevalprocAttr]; rfl)) (by first | (simp (dsimp := false) only [push_cast, hP, hnt, hgw, hgb, sevalprocAttr]; done) | (simp (dsimp := false) only [push_cast, hP, hnt, hgw, hgb, sevalprocAttr]; rfl)) (by first | (simp (dsimp := false) only [push_cast, hP, hnt, hgw, hgb, sevalprocAttr]; done) | (simp (dsimp := false) only [push_cast, hP, hnt, hgw, hgb, sevalprocAttr]; rfl))) rfl (by rw [hP, hgw, hgb]; exact (splitIter gw gw.heap.size s 44 (by omega))) (by simp [hnt]) (by intro x hx; obtain ⟨p, _, rfl⟩ := List.mem_map.1 hx; rfl) (fun k σ => ∃ (p : List (ByteArray × Int)), ((ReadAt readF (piecesB s 44) k p)) ∧ σ = St.of [(0, .one (.c (.string s))), (2, .one (.loc (3, 0) 0)), (3, .one (.loc (4, 0) 0)), (4, .one (.loc (5, 0) 0))] [((3, 0), .box 39 [.c (.slice none 0 0)]), ((4, 0), .box 45 [.c (.int .i64 0)]), ((5, 0), .box 39 [.own (6, 0)]), ((6, 0), rowPS p)] [2, 3, 4, 5]) ⟨_, ?_, [], ?_, rfl⟩ ?_ ?_
    · refine wk_conv [] [((3, 0), (3, 0)), ((4, 0), (4, 0)), ((5, 0), (5, 0)), ((6, 0), (6, 0))] (by simp) (by simp) (by decide) ?_ ?_
      · refine hf_cons (by simp (dsimp := false) only [push_cast, ↓reduceIte, Nat.reduceEqDiff, Nat.reduceAdd, reduceCtorEq] <;> rfl) (by exact ConvV.self rfl) ?_
        refine hf_cons (by simp (dsimp := false) only [push_cast, ↓reduceIte, Nat.reduceEqDiff, Nat.reduceAdd, reduceCtorEq] <;> rfl) (by exact .one (.loc (by simp))) ?_
        refine hf_cons (by simp (dsimp := false) only [push_cast, ↓reduceIte, Nat.reduceEqDiff, Nat.reduceAdd, reduceCtorEq] <;> rfl) (by exact .one (.loc (by simp))) ?_
        refine hf_cons (by simp (dsimp := false) only [push_cast, ↓reduceIte, Nat.reduceEqDiff, Nat.reduceAdd, reduceCtorEq] <;> rfl) (by exact .one (.loc (by simp))) ?_
        exact hf_nil
      · refine hh_cons (i := (3, 0)) (by simp) (by simp) (by simp (dsimp := false) only [push_cast, ↓reduceIte, Nat.reduceEqDiff, Nat.reduceAdd, reduceCtorEq] <;> rfl) (by first | (refine ConvB.free ?_; simp only [push_cast, ps_free]; done) | (refine ConvB.box ?_; repeat' (first | exact ConvVs.nil | exact ConvL.nil | refine ConvV.tup ?_ | refine ConvVs.cons ?_ ?_ | (refine ConvV.self ?_; simp only [push_cast, ps_free]; done) | refine ConvV.one ?_ | refine ConvV.agg ?_ | (refine ConvL.free ?_; simp only [push_cast, ps_free]; done) | refine ConvL.append ?_ ?_ | refine ConvL.cons ?_ ?_ | exact Conv.free rfl | exact Conv.nil | (refine Conv.own ?_; simp; done) | (refine Conv.loc ?_; simp; done) | refine Conv.frz (by simp) (by simp (dsimp := false) only [push_cast, ↓reduceIte, Nat.reduceEqDiff, Nat.reduceAdd, reduceCtorEq] <;> rfl) ?_ | refine Conv.sl (by simp) ?_ | refine Conv.fn ?_))) ?_
        refine hh_cons (i := (4, 0)) (by simp) (by simp) (by simp (dsimp := false) only [push_cast, ↓reduceIte, Nat.reduceEqDiff, Nat.reduceAdd, reduceCtorEq] <;> rfl) (by first | (refine ConvB.free ?_; simp only [push_cast, ps_free]; done) | (refine ConvB.box ?_; repeat' (first | exact ConvVs.nil | exact ConvL.nil | refine ConvV.tup ?_ | refine ConvVs.cons ?_ ?_ | (refine ConvV.self ?_; simp only [push_cast, ps_free]; done) | refine ConvV.one ?_ | refine ConvV.agg ?_ | (refine ConvL.free ?_; simp only [push_cast, ps_free]; done) | refine ConvL.append ?_ ?_ | refine ConvL.cons ?_ ?_ | exact Conv.free rfl | exact Conv.nil | (refine Conv.own ?_; simp; done) | (refine Conv.loc ?_; simp; done) | refine Conv.frz (by simp) (by simp (dsimp := false) only [push_cast, ↓reduceIte, Nat.reduceEqDiff, Nat.reduceAdd, reduceCtorEq] <;> rfl) ?_ | refine Conv.sl (by simp) ?_ | refine Conv.fn ?_))) ?_
        refine hh_cons (i := (5, 0)) (by simp) (by simp) (by simp (dsimp := false) only [push_cast, ↓reduceIte, Nat.reduceEqDiff, Nat.reduceAdd, reduceCtorEq] <;> rfl) (by first | (refine ConvB.free ?_; simp only [push_cast, ps_free]; done) | (refine ConvB.box ?_; repeat' (first | exact ConvVs.nil | exact ConvL.nil | refine ConvV.tup ?_ | refine ConvVs.cons ?_ ?_ | (refine ConvV.self ?_; simp only [push_cast, ps_free]; done) | refine ConvV.one ?_ | refine ConvV.agg ?_ | (refine ConvL.free ?_; simp only [push_cast, ps_free]; done) | refine ConvL.append ?_ ?_ | refine ConvL.cons ?_ ?_ | exact Conv.free rfl | exact Conv.nil | (refine Conv.own ?_; simp; done) | (refine Conv.loc ?_; simp; done) | refine Conv.frz (by simp) (by simp (dsimp := false) only [push_cast, ↓reduceIte, Nat.reduceEqDiff, Nat.reduceAdd, reduceCtorEq] <;> rfl) ?_ | refine Conv.sl (by simp) ?_ | refine Conv.fn ?_))) ?_
        refine hh_cons (i := (6, 0)) (by simp) (by simp) (by simp (dsimp := false) only [push_cast, ↓reduceIte, Nat.reduceEqDiff, Nat.reduceAdd, reduceCtorEq] <;> rfl) (by exact ConvB.arr (ConvL.free (ps_free []))) ?_
        exact hh_nil
    · exact readAt_init _ _
    · rintro k τ x ⟨p, hra, rfl⟩ hx C₂ hP₂ hnt₂ hgw₂ hgb₂ K hK
      obtain ⟨hlt, rfl⟩ := piece_get hx
      have hk0 : (0 : Int) ≤ (k : Int) := by omega
      have hpl := pieces_len s 44
      have hol := hra.len
      have hz3 : p.length + 1 ≤ 140737488355328 := by omega
      have hz4 : (p.length + 1) * 24 ≤ 140737488355328 := by omega
      replace hP₂ := hP₂.trans hP; replace hnt₂ := hnt₂.trans hnt; replace hgw₂ := hgw₂.trans hgw; replace hgb₂ := hgb₂.trans hgb
      refine vwp_region rfl ?_
      simp (dsimp := false) only [push_cast, hP₂, hnt₂, hgw₂, hgb₂, sevalprocAttr, rowPS, hz3, hz4, List.zip_cons_cons, List.zip_nil_left, List.zip_nil_right]
      refine hK _ fun C₃ hP₃ hnt₃ hgw₃ hgb₃ => ?_
      clear hP₂ hnt₂ hgw₂ hgb₂ hK
      have hPs := hP; have hnts := hnt; have hgws := hgw; have hgbs := hgb
      replace hP := hP₃.trans hP; replace hnt := hnt₃.trans hnt; replace hgw := hgw₃.trans hgw; replace hgb := hgb₃.trans hgb
      refine vwp_block ?_
      refine vwp_seq_region rfl fun K hK => ?_
      simp (dsimp := false) only [push_cast, hP, hnt, hgw, hgb, sevalprocAttr, rowPS, hz3, hz4]
      refine .inl (callE_intro (read_call gw hg _ (by have := pieces_size s 44 _ (atI_mem hk0 hlt); omega)) (.inl ⟨rfl, rfl⟩) ?_)
      simp (dsimp := false) only [push_cast, hP, hnt, hgw, hgb, sevalprocAttr, rowPS, hz3, hz4]
      refine hK _ ?_; clear hK
      refine vwp_seq fun K hK => ?_
      refine vwp_seq_region rfl fun K hK => ?_
      simp (dsimp := false) only [push_cast, hP, hnt, hgw, hgb, sevalprocAttr, rowPS, hz3, hz4]
      refine hK _ ?_; clear hK
      refine vwp_cond (b := _) (by simp (dsimp := false) only [push_cast, hP, hnt, hgw, hgb, sevalprocAttr, rowPS, hz3, hz4]; rfl) (fun rb1 => ?_) (fun rb1 => ?_)
      · have hb1 := rb1
        try simp only [beq_iff_eq, bne_iff_ne, ne_eq, bne_eq_false_iff_eq, beq_eq_false_iff_ne, decide_eq_true_eq, decide_eq_false_iff_not, Bool.not_eq_true', Bool.not_eq_false', Bool.or_eq_true, Bool.and_eq_true, Bool.or_eq_false_iff, Bool.and_eq_false_iff] at hb1
        refine vwp_seq_region rfl fun K hK => ?_
        simp (dsimp := false) only [push_cast, hP, hnt, hgw, hgb, sevalprocAttr, rowPS, hz3, hz4]
        refine hK _ ?_; clear hK
        refine vwp_ret ?_
        refine ⟨_, wk_convG (fr := [(2, .one (.loc (3, 0) 0)), (3, .one (.loc (4, 0) 0))]) (H := [((3, 0), .box 39 [.c (.slice none 0 0)]), ((4, 0), .box 45 [.c (.int .i64 12)])]) (u := [2, 3]) [] [((3, 0), (3, 0)), ((4, 0), (4, 0))] (by simp) (by simp) (by decide) ?_ ?_, ?_⟩
        · refine hg_cons (by simp (dsimp := false) only [push_cast, ↓reduceIte, Nat.reduceEqDiff, Nat.reduceAdd, reduceCtorEq, rowPS, hz3, hz4] <;> rfl) (by exact .one (.loc (by simp))) ?_
          refine hg_cons (by simp (dsimp := false) only [push_cast, ↓reduceIte, Nat.reduceEqDiff, Nat.reduceAdd, reduceCtorEq, rowPS, hz3, hz4] <;> rfl) (by exact .one (.loc (by simp))) ?_
          exact hf_nil
        · refine hh_cons (i := (3, 0)) (by simp) (by simp) (by simp (dsimp := false) only [push_cast, ↓reduceIte, Nat.reduceEqDiff, Nat.reduceAdd, reduceCtorEq, rowPS, hz3, hz4] <;> rfl) (by first | (refine ConvB.free ?_; simp only [push_cast, ps_free]; done) | (refine ConvB.box ?_; repeat' (first | exact ConvVs.nil | exact ConvL.nil | refine ConvV.tup ?_ | refine ConvVs.cons ?_ ?_ | (refine ConvV.self ?_; simp only [push_cast, ps_free]; done) | refine ConvV.one ?_ | refine ConvV.agg ?_ | (refine ConvL.free ?_; simp only [push_cast, ps_free]; done) | refine ConvL.append ?_ ?_ | refine ConvL.cons ?_ ?_ | exact Conv.free rfl | exact Conv.nil | (refine Conv.own ?_; simp; done) | (refine Conv.loc ?_; simp; done) | refine Conv.frz (by simp) (by simp (dsimp := false) only [push_cast, ↓reduceIte, Nat.reduceEqDiff, Nat.reduceAdd, reduceCtorEq, rowPS, hz3, hz4] <;> rfl) ?_ | refine Conv.sl (by simp) ?_ | refine Conv.fn ?_))) ?_
          refine hh_cons (i := (4, 0)) (by simp) (by simp) (by simp (dsimp := false) only [push_cast, ↓reduceIte, Nat.reduceEqDiff, Nat.reduceAdd, reduceCtorEq, rowPS, hz3, hz4] <;> rfl) (by first | (refine ConvB.free ?_; simp only [push_cast, ps_free]; done) | (refine ConvB.box ?_; repeat' (first | exact ConvVs.nil | exact ConvL.nil | refine ConvV.tup ?_ | refine ConvVs.cons ?_ ?_ | (refine ConvV.self ?_; simp only [push_cast, ps_free]; done) | refine ConvV.one ?_ | refine ConvV.agg ?_ | (refine ConvL.free ?_; simp only [push_cast, ps_free]; done) | refine ConvL.append ?_ ?_ | refine ConvL.cons ?_ ?_ | exact Conv.free rfl | exact Conv.nil | (refine Conv.own ?_; simp; done) | (refine Conv.loc ?_; simp; done) | refine Conv.frz (by simp) (by simp (dsimp := false) only [push_cast, ↓reduceIte, Nat.reduceEqDiff, Nat.reduceAdd, reduceCtorEq, rowPS, hz3, hz4] <;> rfl) ?_ | refine Conv.sl (by simp) ?_ | refine Conv.fn ?_))) ?_
          exact hh_nil
        simp only [unround, blockQ, thenQ]
        refine ret_conv [] [] (by simp (dsimp := false) only [push_cast, hP, hnt, hgw, hgb, sevalprocAttr, rowPS, hz3, hz4]; rfl) (by simp) (by simp) (by first | decide | simp) ?_ ?_
        · simp only [pack]
          rw [show readPassF s = ([], 12) from readPass_stop (by simpa using hb0) (readAt_stop hk0 hlt hra (by simpa using hb1))]
          repeat' (first | exact ConvVs.nil | exact ConvL.nil | refine ConvV.tup ?_ | refine ConvVs.cons ?_ ?_ | (refine ConvV.self ?_; simp only [push_cast, ps_free]; done) | refine ConvV.one ?_ | refine ConvV.agg ?_ | (refine ConvL.free ?_; simp only [push_cast, ps_free]; done) | refine ConvL.append ?_ ?_ | refine ConvL.cons ?_ ?_ | exact Conv.free rfl | exact Conv.nil | (refine Conv.own ?_; simp; done) | (refine Conv.loc ?_; simp; done) | refine Conv.frz (by simp) (by simp (dsimp := false) only [push_cast, ↓reduceIte, Nat.reduceEqDiff, Nat.reduceAdd, reduceCtorEq, rowPS, hz3, hz4] <;> rfl) ?_ | refine Conv.sl (by simp) ?_ | refine Conv.fn ?_)
        · exact rb_nil
      · have hb1 := rb1
        try simp only [beq_iff_eq, bne_iff_ne, ne_eq, bne_eq_false_iff_eq, beq_eq_false_iff_ne, decide_eq_true_eq, decide_eq_false_iff_not, Bool.not_eq_true', Bool.not_eq_false', Bool.or_eq_true, Bool.and_eq_true, Bool.or_eq_false_iff, Bool.and_eq_false_iff] at hb1
        refine vwp_skip ?_
        apply_assumption
        refine vwp_region rfl ?_
        simp (dsimp := false) only [push_cast, hP, hnt, hgw, hgb, sevalprocAttr, rowPS, hz3, hz4]
        refine ⟨_, wk_convG (fr := [(0, .one (.c (.string s))), (2, .one (.loc (3, 0) 0)), (3, .one (.loc (4, 0) 0)), (4, .one (.loc (5, 0) 0))]) (H := [((3, 0), .box 39 [.c (.slice none 0 0)]), ((4, 0), .box 45 [.c (.int .i64 0)]), ((5, 0), .box 39 [.own (6, 0)]), ((6, 0), rowPS (p ++ [((readF (atI (piecesB s 44) k)).1, (readF (atI (piecesB s 44) k)).2.1)]))]) (u := [2, 3, 4, 5]) [] [((3, 0), (3, 0)), ((4, 0), (4, 0)), ((5, 0), (5, 0)), ((24, 0), (6, 0))] (by simp) (by simp) (by decide) ?_ ?_, ?_⟩
        · refine hg_cons (by simp (dsimp := false) only [push_cast, ↓reduceIte, Nat.reduceEqDiff, Nat.reduceAdd, reduceCtorEq, rowPS, hz3, hz4] <;> rfl) (by exact ConvV.self rfl) ?_
          refine hg_cons (by simp (dsimp := false) only [push_cast, ↓reduceIte, Nat.reduceEqDiff, Nat.reduceAdd, reduceCtorEq, rowPS, hz3, hz4] <;> rfl) (by exact .one (.loc (by simp))) ?_
          refine hg_cons (by simp (dsimp := false) only [push_cast, ↓reduceIte, Nat.reduceEqDiff, Nat.reduceAdd, reduceCtorEq, rowPS, hz3, hz4] <;> rfl) (by exact .one (.loc (by simp))) ?_
          refine hg_cons (by simp (dsimp := false) only [push_cast, ↓reduceIte, Nat.reduceEqDiff, Nat.reduceAdd, reduceCtorEq, rowPS, hz3, hz4] <;> rfl) (by exact .one (.loc (by simp))) ?_
          exact hf_nil
        · refine hh_cons (i := (3, 0)) (by simp) (by simp) (by simp (dsimp := false) only [push_cast, ↓reduceIte, Nat.reduceEqDiff, Nat.reduceAdd, reduceCtorEq, rowPS, hz3, hz4] <;> rfl) (by first | (refine ConvB.free ?_; simp only [push_cast, ps_free]; done) | (refine ConvB.box ?_; repeat' (first | exact ConvVs.nil | exact ConvL.nil | refine ConvV.tup ?_ | refine ConvVs.cons ?_ ?_ | (refine ConvV.self ?_; simp only [push_cast, ps_free]; done) | refine ConvV.one ?_ | refine ConvV.agg ?_ | (refine ConvL.free ?_; simp only [push_cast, ps_free]; done) | refine ConvL.append ?_ ?_ | refine ConvL.cons ?_ ?_ | exact Conv.free rfl | exact Conv.nil | (refine Conv.own ?_; simp; done) | (refine Conv.loc ?_; simp; done) | refine Conv.frz (by simp) (by simp (dsimp := false) only [push_cast, ↓reduceIte, Nat.reduceEqDiff, Nat.reduceAdd, reduceCtorEq, rowPS, hz3, hz4] <;> rfl) ?_ | refine Conv.sl (by simp) ?_ | refine Conv.fn ?_))) ?_
          refine hh_cons (i := (4, 0)) (by simp) (by simp) (by simp (dsimp := false) only [push_cast, ↓reduceIte, Nat.reduceEqDiff, Nat.reduceAdd, reduceCtorEq, rowPS, hz3, hz4] <;> rfl) (by first | (refine ConvB.free ?_; simp only [push_cast, ps_free]; done) | (refine ConvB.box ?_; repeat' (first | exact ConvVs.nil | exact ConvL.nil | refine ConvV.tup ?_ | refine ConvVs.cons ?_ ?_ | (refine ConvV.self ?_; simp only [push_cast, ps_free]; done) | refine ConvV.one ?_ | refine ConvV.agg ?_ | (refine ConvL.free ?_; simp only [push_cast, ps_free]; done) | refine ConvL.append ?_ ?_ | refine ConvL.cons ?_ ?_ | exact Conv.free rfl | exact Conv.nil | (refine Conv.own ?_; simp; done) | (refine Conv.loc ?_; simp; done) | refine Conv.frz (by simp) (by simp (dsimp := false) only [push_cast, ↓reduceIte, Nat.reduceEqDiff, Nat.reduceAdd, reduceCtorEq, rowPS, hz3, hz4] <;> rfl) ?_ | refine Conv.sl (by simp) ?_ | refine Conv.fn ?_))) ?_
          refine hh_cons (i := (5, 0)) (by simp) (by simp) (by simp (dsimp := false) only [push_cast, ↓reduceIte, Nat.reduceEqDiff, Nat.reduceAdd, reduceCtorEq, rowPS, hz3, hz4] <;> rfl) (by first | (refine ConvB.free ?_; simp only [push_cast, ps_free]; done) | (refine ConvB.box ?_; repeat' (first | exact ConvVs.nil | exact ConvL.nil | refine ConvV.tup ?_ | refine ConvVs.cons ?_ ?_ | (refine ConvV.self ?_; simp only [push_cast, ps_free]; done) | refine ConvV.one ?_ | refine ConvV.agg ?_ | (refine ConvL.free ?_; simp only [push_cast, ps_free]; done) | refine ConvL.append ?_ ?_ | refine ConvL.cons ?_ ?_ | exact Conv.free rfl | exact Conv.nil | (refine Conv.own ?_; simp; done) | (refine Conv.loc ?_; simp; done) | refine Conv.frz (by simp) (by simp (dsimp := false) only [push_cast, ↓reduceIte, Nat.reduceEqDiff, Nat.reduceAdd, reduceCtorEq, rowPS, hz3, hz4] <;> rfl) ?_ | refine Conv.sl (by simp) ?_ | refine Conv.fn ?_))) ?_
          refine hh_cons (i := (24, 0)) (by simp) (by simp) (by simp (dsimp := false) only [push_cast, ↓reduceIte, Nat.reduceEqDiff, Nat.reduceAdd, reduceCtorEq, rowPS, hz3, hz4] <;> rfl) (by simp only [rowPS, ps_snoc, List.length_append]; exact ConvB.arr (ConvL.free (by rw [frees_append, ps_free]; rfl))) ?_
          exact hh_nil
        exact ⟨p ++ [((readF (atI (piecesB s 44) k)).1, (readF (atI (piecesB s 44) k)).2.1)], by have := readAt_next hk0 hlt hra (by simpa using hb1); simpa using this, rfl⟩
    · rintro τ ⟨p, hra, rfl⟩
      have hraE : readsG readF (piecesB s 44) = some p := readAt_end (by simp) hra
      simp only [blockQ]
      apply_assumption
      refine vwp_seq fun K hK => ?_
      refine vwp_seq_region rfl fun K hK => ?_
      simp (dsimp := false) only [push_cast, hP, hnt, hgw, hgb, sevalprocAttr, rowPS]
      refine .inl (callE_intro (checks_call gw gw.heap.size p) (.inl ⟨rfl, rfl⟩) ?_)
      simp (dsimp := false) only [push_cast, hP, hnt, hgw, hgb, sevalprocAttr, rowPS]
      refine hK _ ?_; clear hK
      refine vwp_cond (b := _) (by simp (dsimp := false) only [push_cast, hP, hnt, hgw, hgb, sevalprocAttr, rowPS]; rfl) (fun rb2 => ?_) (fun rb2 => ?_)
      · have hb2 := rb2
        try simp only [beq_iff_eq, bne_iff_ne, ne_eq, bne_eq_false_iff_eq, beq_eq_false_iff_ne, decide_eq_true_eq, decide_eq_false_iff_not, Bool.not_eq_true', Bool.not_eq_false', Bool.or_eq_true, Bool.and_eq_true, Bool.or_eq_false_iff, Bool.and_eq_false_iff] at hb2
        refine vwp_seq_region rfl fun K hK => ?_
        simp (dsimp := false) only [push_cast, hP, hnt, hgw, hgb, sevalprocAttr, rowPS]
        refine hK _ ?_; clear hK
        refine vwp_ret ?_
        refine ret_conv [] [] (by simp (dsimp := false) only [push_cast, hP, hnt, hgw, hgb, sevalprocAttr, rowPS]; rfl) (by simp) (by simp) (by first | decide | simp) ?_ ?_
        · simp only [pack]
          rw [show readPassF s = ([], 12) from readPass_bad (by simpa using hb0) hraE (by simpa using hb2)]
          repeat' (first | exact ConvVs.nil | exact ConvL.nil | refine ConvV.tup ?_ | refine ConvVs.cons ?_ ?_ | (refine ConvV.self ?_; simp only [push_cast, ps_free]; done) | refine ConvV.one ?_ | refine ConvV.agg ?_ | (refine ConvL.free ?_; simp only [push_cast, ps_free]; done) | refine ConvL.append ?_ ?_ | refine ConvL.cons ?_ ?_ | exact Conv.free rfl | exact Conv.nil | (refine Conv.own ?_; simp; done) | (refine Conv.loc ?_; simp; done) | refine Conv.frz (by simp) (by simp (dsimp := false) only [push_cast, ↓reduceIte, Nat.reduceEqDiff, Nat.reduceAdd, reduceCtorEq, rowPS] <;> rfl) ?_ | refine Conv.sl (by simp) ?_ | refine Conv.fn ?_)
        · exact rb_nil
      · have hb2 := rb2
        try simp only [beq_iff_eq, bne_iff_ne, ne_eq, bne_eq_false_iff_eq, beq_eq_false_iff_ne, decide_eq_true_eq, decide_eq_false_iff_not, Bool.not_eq_true', Bool.not_eq_false', Bool.or_eq_true, Bool.and_eq_true, Bool.or_eq_false_iff, Bool.and_eq_false_iff] at hb2
        refine vwp_skip ?_
        apply_assumption
        refine vwp_seq_region rfl fun K hK => ?_
        simp (dsimp := false) only [push_cast, hP, hnt, hgw, hgb, sevalprocAttr, rowPS]
        refine hK _ ?_; clear hK
        refine vwp_ret ?_
        refine ret_conv [(6, 0)] [] (by simp (dsimp := false) only [push_cast, hP, hnt, hgw, hgb, sevalprocAttr, rowPS]; rfl) (by simp) (by simp) (by first | decide | simp) ?_ ?_
        · simp only [pack]
          rw [show readPassF s = (p, 0) from readPass_ok (by simpa using hb0) hraE (by simpa using hb2)]
          repeat' (first | exact ConvVs.nil | exact ConvL.nil | refine ConvV.tup ?_ | refine ConvVs.cons ?_ ?_ | (refine ConvV.self ?_; simp only [push_cast, ps_free]; done) | refine ConvV.one ?_ | refine ConvV.agg ?_ | (refine ConvL.free ?_; simp only [push_cast, ps_free]; done) | refine ConvL.append ?_ ?_ | refine ConvL.cons ?_ ?_ | exact Conv.free rfl | exact Conv.nil | (refine Conv.own ?_; simp; done) | (refine Conv.loc ?_; simp; done) | refine Conv.frz (by simp) (by simp (dsimp := false) only [push_cast, ↓reduceIte, Nat.reduceEqDiff, Nat.reduceAdd, reduceCtorEq, rowPS] <;> rfl) ?_ | refine Conv.sl (by simp) ?_ | refine Conv.fn ?_)
        · exact rb_nil
end Go.Vm
end

section
namespace Go.Vm
open Go Go.RowKit Go.Proofs
set_option maxRecDepth 100000
set_option linter.unusedSimpArgs false
set_option linter.unusedVariables false
set_option maxHeartbeats 4000000

def engSA (x : Eng) : ByteArray := (if x.pdr = true then ⟨#[112, 100, 114, 32]⟩ else ⟨#[98, 109, 99, 32]⟩) ++ digA x.num ++ ⟨#[32]⟩ ++ digA x.bud
theorem digA_pos {n : Int} (h : 0 ≤ n) : digA n = digB n := if_pos h
theorem engSA_eq {x : Eng} (h : engP x) : engSA x = engT x := by
  rw [← engS_eq h]
  unfold engSA engS
  rw [digA_pos h.1, digA_pos (eng_num h).1]; rfl
structure EngB (x : Eng) : Prop where
  num : x.num ≤ 1000000000000
  bud : x.bud ≤ 1000000000000
theorem toList_eq {a b : ByteArray} (h : a.toList = b.toList) : a = b := bytes_ext h
def PR (s : ByteArray) : List ByteArray := piecesB s 32
def readEngR (s : ByteArray) : Eng × Int :=
  if (PR s).length ≠ 3 then (engZ, 12)
  else if engE (engOf numR (PR s)) ≠ 0 ∨ (engSA (engOf numR (PR s))).toList ≠ s.toList then (engZ, 12) else (engOf numR (PR s), 0)
theorem readEngR_ok {s : ByteArray} (h : ((PR s).length : Int) = 3) (h2 : ¬ (engE (engOf numR (PR s)) ≠ 0 ∨ (engSA (engOf numR (PR s))).toList ≠ s.toList)) : readEngR s = (engOf numR (PR s), 0) := by
  unfold readEngR; rw [if_neg (by omega), if_neg h2]
theorem samePasses_call (gw : World) (gb : Nat) (a b : List (ByteArray × Int)) (ha : a.length ≤ 1000000) : VCall Tryz.prog gw (gb) 23 [.one (.sl false a.length (a.flatMap fun p => [.c (.string p.1), .c (.int .i64 p.2)])), .one (.sl false b.length (b.flatMap fun p => [.c (.string p.1), .c (.int .i64 p.2)]))] (.one (.c (.bool (decide (a = b))))) [] := by
  refine vcall_of [.tmp 4] Tryz.func23 rfl rfl Tryz.ntmps23 rfl (by simp) ?_
  intro C hP hnt hgw hgb hfull
  refine vwp_seq_region rfl fun K hK => ?_
  simp (dsimp := false) only [push_cast, hP, hnt, hgw, hgb, Nat.reduceLT, Nat.reduceEqDiff, Nat.reduceAdd, Nat.reduceSub, Nat.reduceMul, Nat.reduceLeDiff, ↓reduceIte, reduceCtorEq]
  refine hK _ ?_; clear hK
  refine vwp_seq fun K hK => ?_
  refine vwp_seq_region rfl fun K hK => ?_
  simp (dsimp := false) only [push_cast, hP, hnt, hgw, hgb, Nat.reduceLT, Nat.reduceEqDiff, Nat.reduceAdd, Nat.reduceSub, Nat.reduceMul, Nat.reduceLeDiff, ↓reduceIte, reduceCtorEq]
  refine hK _ ?_; clear hK
  refine vwp_cond (b := _) (by simp (dsimp := false) only [push_cast, hP, hnt, hgw, hgb, Nat.reduceLT, Nat.reduceEqDiff, Nat.reduceAdd, Nat.reduceSub, Nat.reduceMul, Nat.reduceLeDiff, ↓reduceIte, reduceCtorEq]; rfl) (fun rb0 => ?_) (fun rb0 => ?_)
  · have hb0 := rb0
    try simp only [beq_iff_eq, bne_iff_ne, ne_eq, bne_eq_false_iff_eq, beq_eq_false_iff_ne, decide_eq_true_eq, decide_eq_false_iff_not, Bool.not_eq_true', Bool.not_eq_false', Bool.or_eq_true, Bool.and_eq_true, Bool.or_eq_false_iff, Bool.and_eq_false_iff] at hb0
    refine vwp_seq_region rfl fun K hK => ?_
    simp (dsimp := false) only [push_cast, hP, hnt, hgw, hgb, Nat.reduceLT, Nat.reduceEqDiff, Nat.reduceAdd, Nat.reduceSub, Nat.reduceMul, Nat.reduceLeDiff, ↓reduceIte, reduceCtorEq]
    refine hK _ ?_; clear hK
    refine vwp_ret ?_
    refine ret_free (by simp (dsimp := false) only [push_cast, hP, hnt, hgw, hgb, Nat.reduceLT, Nat.reduceEqDiff, Nat.reduceAdd, Nat.reduceSub, Nat.reduceMul, Nat.reduceLeDiff, ↓reduceIte, reduceCtorEq]; rfl) (by simp (dsimp := false) only [push_cast, hP, hnt, hgw, hgb, Nat.reduceLT, Nat.reduceEqDiff, Nat.reduceAdd, Nat.reduceSub, Nat.reduceMul, Nat.reduceLeDiff, ↓reduceIte, reduceCtorEq]) ?_
    rw [decide_eq_false (same_len hb0)]; rfl
  · have hb0 := rb0
    try simp only [beq_iff_eq, bne_iff_ne, ne_eq, bne_eq_false_iff_eq, beq_eq_false_iff_ne, decide_eq_true_eq, decide_eq_false_iff_not, Bool.not_eq_true', Bool.not_eq_false', Bool.or_eq_true, Bool.and_eq_true, Bool.or_eq_false_iff, Bool.and_eq_false_iff] at hb0
    refine vwp_skip ?_
    apply_assumption
    refine vwp_seq fun K hK => ?_
    refine vwp_seq_region rfl fun K hK => ?_
    simp (dsimp := false) only [push_cast, hP, hnt, hgw, hgb, Nat.reduceLT, Nat.reduceEqDiff, Nat.reduceAdd, Nat.reduceSub, Nat.reduceMul, Nat.reduceLeDiff, ↓reduceIte, reduceCtorEq]
    refine hK _ ?_; clear hK
    refine vwp_block ?_
    refine vwp_loop (fun m σ => ∃ (i : Int), m = (a.length - i).toNat ∧ ((0 ≤ i) ∧ (i ≤ a.length) ∧ (a.length = b.length) ∧ (a.take i.toNat = b.take i.toNat)) ∧ σ = St.of [(0, .one (.sl false a.length (a.flatMap fun p => [.c (.string p.1), .c (.int .i64 p.2)]))), (1, .one (.sl false b.length (b.flatMap fun p => [.c (.string p.1), .c (.int .i64 p.2)]))), (5, .one (.c (.int .i64 i)))] [] []) _ ⟨_, ?_, 0, rfl, ?_, rfl⟩ ?_
    · refine wk_conv [] [] (by simp) (by simp) (by decide) ?_ ?_
      · refine hf_cons (by simp (dsimp := false) only [push_cast, ↓reduceIte, Nat.reduceEqDiff, Nat.reduceAdd, reduceCtorEq] <;> rfl) (by repeat' (first | exact ConvVs.nil | exact ConvL.nil | refine ConvV.tup ?_ | refine ConvVs.cons ?_ ?_ | (refine ConvV.self ?_; simp only [push_cast]; done) | refine ConvV.one ?_ | refine ConvV.agg ?_ | (refine ConvL.free ?_; simp only [push_cast]; done) | refine ConvL.append ?_ ?_ | refine ConvL.cons ?_ ?_ | exact Conv.free rfl | exact Conv.nil | (refine Conv.own ?_; simp; done) | (refine Conv.loc ?_; simp; done) | refine Conv.frz (by simp) (by simp (dsimp := false) only [push_cast, ↓reduceIte, Nat.reduceEqDiff, Nat.reduceAdd, reduceCtorEq] <;> rfl) ?_ | refine Conv.sl (by simp) ?_ | refine Conv.fn ?_)) ?_
        refine hf_cons (by simp (dsimp := false) only [push_cast, ↓reduceIte, Nat.reduceEqDiff, Nat.reduceAdd, reduceCtorEq] <;> rfl) (by repeat' (first | exact ConvVs.nil | exact ConvL.nil | refine ConvV.tup ?_ | refine ConvVs.cons ?_ ?_ | (refine ConvV.self ?_; simp only [push_cast]; done) | refine ConvV.one ?_ | refine ConvV.agg ?_ | (refine ConvL.free ?_; simp only [push_cast]; done) | refine ConvL.append ?_ ?_ | refine ConvL.cons ?_ ?_ | exact Conv.free rfl | exact Conv.nil | (refine Conv.own ?_; simp; done) | (refine Conv.loc ?_; simp; done) | refine Conv.frz (by simp) (by simp (dsimp := false) only [push_cast, ↓reduceIte, Nat.reduceEqDiff, Nat.reduceAdd, reduceCtorEq] <;> rfl) ?_ | refine Conv.sl (by simp) ?_ | refine Conv.fn ?_)) ?_
        refine hf_cons (by simp (dsimp := false) only [push_cast, ↓reduceIte, Nat.reduceEqDiff, Nat.reduceAdd, reduceCtorEq] <;> rfl) (by exact ConvV.self rfl) ?_
        exact hf_nil
      · exact hh_nil
    · exact ⟨by omega, by omega, by omega, rfl⟩
    · rintro m τ ⟨i, hm, ⟨hi0, hi1, hl, ht⟩, rfl⟩ K hL0
      have hw := fun h : i < (a.length : Int) => wrap_next hi0 h (by omega)
      have hda := fun h : i < (a.length : Int) => dropI_two (l := a) (fun p : ByteArray × Int => PC.c (Value.string p.1)) (fun p : ByteArray × Int => PC.c (Value.int .i64 p.2)) hi0 h
      have hdb := fun h : i < (b.length : Int) => dropI_two (l := b) (fun p : ByteArray × Int => PC.c (Value.string p.1)) (fun p : ByteArray × Int => PC.c (Value.int .i64 p.2)) hi0 h
      refine vwp_seq fun K hK => ?_
      refine vwp_seq_region rfl fun K hK => ?_
      simp (dsimp := false) only [push_cast, hP, hnt, hgw, hgb, Nat.reduceLT, Nat.reduceEqDiff, Nat.reduceAdd, Nat.reduceSub, Nat.reduceMul, Nat.reduceLeDiff, ↓reduceIte, reduceCtorEq, hi0]
      refine hK _ ?_; clear hK
      refine vwp_cond (b := _) (by simp (dsimp := false) only [push_cast, hP, hnt, hgw, hgb, Nat.reduceLT, Nat.reduceEqDiff, Nat.reduceAdd, Nat.reduceSub, Nat.reduceMul, Nat.reduceLeDiff, ↓reduceIte, reduceCtorEq, hi0]; rfl) (fun rb1 => ?_) (fun rb1 => ?_)
      · have hb1 := rb1
        try simp only [beq_iff_eq, bne_iff_ne, ne_eq, bne_eq_false_iff_eq, beq_eq_false_iff_ne, decide_eq_true_eq, decide_eq_false_iff_not, Bool.not_eq_true', Bool.not_eq_false', Bool.or_eq_true, Bool.and_eq_true, Bool.or_eq_false_iff, Bool.and_eq_false_iff] at hb1
        have hw := hw hb1
        have hda := hda hb1
        have hbb : i < (b.length : Int) := by omega
        have hdb := hdb hbb
        refine vwp_skip ?_
        apply_assumption
        refine vwp_seq fun K hK => ?_
        refine vwp_block ?_
        refine vwp_seq_anyF [[], [], [0, 1], [0, 1, 2], [], [], [4, 5], [4, 5, 6], [0, 1, 2, 3, 4, 5, 6, 7]] [([(17, .dead), (18, .dead), (19, .old), (20, .old), (21, .dead), (22, .dead), (23, .dead), (24, .dead), (25, .old)], [18, 19, 20, 21, 22, 23, 24, 25], []), ([(17, .dead), (18, .dead), (19, .old), (20, .old), (21, .dead), (22, .dead), (23, .dead), (24, .dead), (25, .old)], [17, 19, 20, 21, 22, 23, 24, 25], []), ([(17, .dep 1), (18, .dep 0), (19, .dead), (20, .old), (21, .dead), (22, .dead), (23, .dead), (24, .dead), (25, .old)], [20, 21, 22, 23, 24, 25], [1, 0]), ([(17, .dep 2), (18, .dep 1), (19, .dep 0), (20, .dead), (21, .dead), (22, .dead), (23, .dead), (24, .dead), (25, .old)], [21, 22, 23, 24, 25], [2, 1, 0]), ([(17, .dead), (18, .dead), (19, .dead), (20, .dead), (21, .dead), (22, .dead), (23, .old), (24, .old), (25, .old)], [17, 18, 19, 20, 22, 23, 24, 25], []), ([(17, .dead), (18, .dead), (19, .dead), (20, .dead), (21, .dead), (22, .dead), (23, .old), (24, .old), (25, .old)], [17, 18, 19, 20, 21, 23, 24, 25], []), ([(17, .dead), (18, .dead), (19, .dead), (20, .dead), (21, .dep 1), (22, .dep 0), (23, .dead), (24, .old), (25, .old)], [17, 18, 19, 20, 24, 25], [1, 0]), ([(17, .dead), (18, .dead), (19, .dead), (20, .dead), (21, .dep 2), (22, .dep 1), (23, .dep 0), (24, .dead), (25, .old)], [17, 18, 19, 20, 25], [2, 1, 0]), ([(17, .dep 7), (18, .dep 6), (19, .dep 5), (20, .dep 4), (21, .dep 3), (22, .dep 2), (23, .dep 1), (24, .dep 0), (25, .dead)], [], [7, 6, 5, 4, 3, 2, 1, 0])] (by rw [hP]; exact mixed) rfl rfl rfl fun K hK => ?_
        simp (dsimp := false) only [push_cast, hP, hnt, hgw, hgb, Nat.reduceLT, Nat.reduceEqDiff, Nat.reduceAdd, Nat.reduceSub, Nat.reduceMul, Nat.reduceLeDiff, ↓reduceIte, reduceCtorEq, hi0, hw, hda, hdb, hb1, hbb, Nat.reduceBNe, Nat.reduceBEq]
        refine ⟨rfl, ?_⟩
        refine hK _ ?_; clear hK
        refine vwp_cond (b := _) (by simp (dsimp := false) only [push_cast, hP, hnt, hgw, hgb, Nat.reduceLT, Nat.reduceEqDiff, Nat.reduceAdd, Nat.reduceSub, Nat.reduceMul, Nat.reduceLeDiff, ↓reduceIte, reduceCtorEq, hi0, hw, hda, hdb, hb1, hbb]; rfl) (fun rb2 => ?_) (fun rb2 => ?_)
        · have hb2 := rb2
          try simp only [beq_iff_eq, bne_iff_ne, ne_eq, bne_eq_false_iff_eq, beq_eq_false_iff_ne, decide_eq_true_eq, decide_eq_false_iff_not, Bool.not_eq_true', Bool.not_eq_false', Bool.or_eq_true, Bool.and_eq_true, Bool.or_eq_false_iff, Bool.and_eq_false_iff] at hb2
          refine vwp_seq_region rfl fun K hK => ?_
          simp (dsimp := false) only [push_cast, hP, hnt, hgw, hgb, Nat.reduceLT, Nat.reduceEqDiff, Nat.reduceAdd, Nat.reduceSub, Nat.reduceMul, Nat.reduceLeDiff, ↓reduceIte, reduceCtorEq, hi0, hw, hda, hdb, hb1, hbb]
          refine hK _ ?_; clear hK
          refine vwp_ret ?_
          refine ret_free (by simp (dsimp := false) only [push_cast, hP, hnt, hgw, hgb, Nat.reduceLT, Nat.reduceEqDiff, Nat.reduceAdd, Nat.reduceSub, Nat.reduceMul, Nat.reduceLeDiff, ↓reduceIte, reduceCtorEq, hi0, hw, hda, hdb, hb1, hbb]; rfl) (by simp (dsimp := false) only [push_cast, hP, hnt, hgw, hgb, Nat.reduceLT, Nat.reduceEqDiff, Nat.reduceAdd, Nat.reduceSub, Nat.reduceMul, Nat.reduceLeDiff, ↓reduceIte, reduceCtorEq, hi0, hw, hda, hdb, hb1, hbb]) ?_
          rw [decide_eq_false (same_stop (i := i) (fun e => by rw [e] at hb2; simp at hb2))]; rfl
        · have hb2 := rb2
          try simp only [beq_iff_eq, bne_iff_ne, ne_eq, bne_eq_false_iff_eq, beq_eq_false_iff_ne, decide_eq_true_eq, decide_eq_false_iff_not, Bool.not_eq_true', Bool.not_eq_false', Bool.or_eq_true, Bool.and_eq_true, Bool.or_eq_false_iff, Bool.and_eq_false_iff] at hb2
          refine vwp_skip ?_
          apply_assumption
          refine vwp_region rfl ?_
          simp (dsimp := false) only [push_cast, hP, hnt, hgw, hgb, Nat.reduceLT, Nat.reduceEqDiff, Nat.reduceAdd, Nat.reduceSub, Nat.reduceMul, Nat.reduceLeDiff, ↓reduceIte, reduceCtorEq, hi0, hw, hda, hdb, hb1, hbb]
          refine hL0 _ _ _ ?_ ?_ ⟨i + 1, rfl, ?_, rfl⟩
          · omega
          · refine wk_conv [] [] (by simp) (by simp) (by decide) ?_ ?_
            · refine hf_cons (by simp (dsimp := false) only [push_cast, ↓reduceIte, Nat.reduceEqDiff, Nat.reduceAdd, reduceCtorEq, hi0, hw, hda, hdb, hb1, hbb] <;> rfl) (by repeat' (first | exact ConvVs.nil | exact ConvL.nil | refine ConvV.tup ?_ | refine ConvVs.cons ?_ ?_ | (refine ConvV.self ?_; simp only [push_cast]; done) | refine ConvV.one ?_ | refine ConvV.agg ?_ | (refine ConvL.free ?_; simp only [push_cast]; done) | refine ConvL.append ?_ ?_ | refine ConvL.cons ?_ ?_ | exact Conv.free rfl | exact Conv.nil | (refine Conv.own ?_; simp; done) | (refine Conv.loc ?_; simp; done) | refine Conv.frz (by simp) (by simp (dsimp := false) only [push_cast, ↓reduceIte, Nat.reduceEqDiff, Nat.reduceAdd, reduceCtorEq, hi0, hw, hda, hdb, hb1, hbb] <;> rfl) ?_ | refine Conv.sl (by simp) ?_ | refine Conv.fn ?_)) ?_
              refine hf_cons (by simp (dsimp := false) only [push_cast, ↓reduceIte, Nat.reduceEqDiff, Nat.reduceAdd, reduceCtorEq, hi0, hw, hda, hdb, hb1, hbb] <;> rfl) (by repeat' (first | exact ConvVs.nil | exact ConvL.nil | refine ConvV.tup ?_ | refine ConvVs.cons ?_ ?_ | (refine ConvV.self ?_; simp only [push_cast]; done) | refine ConvV.one ?_ | refine ConvV.agg ?_ | (refine ConvL.free ?_; simp only [push_cast]; done) | refine ConvL.append ?_ ?_ | refine ConvL.cons ?_ ?_ | exact Conv.free rfl | exact Conv.nil | (refine Conv.own ?_; simp; done) | (refine Conv.loc ?_; simp; done) | refine Conv.frz (by simp) (by simp (dsimp := false) only [push_cast, ↓reduceIte, Nat.reduceEqDiff, Nat.reduceAdd, reduceCtorEq, hi0, hw, hda, hdb, hb1, hbb] <;> rfl) ?_ | refine Conv.sl (by simp) ?_ | refine Conv.fn ?_)) ?_
              refine hf_cons (by simp (dsimp := false) only [push_cast, ↓reduceIte, Nat.reduceEqDiff, Nat.reduceAdd, reduceCtorEq, hi0, hw, hda, hdb, hb1, hbb] <;> rfl) (by exact ConvV.self rfl) ?_
              exact hf_nil
            · exact hh_nil
          · exact ⟨by omega, by omega, hl, same_next hi0 hb1 hl ht (Prod.ext (toList_eq (by simpa using hb2.1)) (by simpa using hb2.2))⟩
      · have hb1 := rb1
        try simp only [beq_iff_eq, bne_iff_ne, ne_eq, bne_eq_false_iff_eq, beq_eq_false_iff_ne, decide_eq_true_eq, decide_eq_false_iff_not, Bool.not_eq_true', Bool.not_eq_false', Bool.or_eq_true, Bool.and_eq_true, Bool.or_eq_false_iff, Bool.and_eq_false_iff] at hb1
        refine vwp_exit ?_
        simp only [thenQ, blockQ, Nat.reduceEqDiff, reduceIte]
        apply_assumption
        refine vwp_seq_region rfl fun K hK => ?_
        simp (dsimp := false) only [push_cast, hP, hnt, hgw, hgb, Nat.reduceLT, Nat.reduceEqDiff, Nat.reduceAdd, Nat.reduceSub, Nat.reduceMul, Nat.reduceLeDiff, ↓reduceIte, reduceCtorEq, hi0]
        refine hK _ ?_; clear hK
        refine vwp_ret ?_
        refine ret_free (by simp (dsimp := false) only [push_cast, hP, hnt, hgw, hgb, Nat.reduceLT, Nat.reduceEqDiff, Nat.reduceAdd, Nat.reduceSub, Nat.reduceMul, Nat.reduceLeDiff, ↓reduceIte, reduceCtorEq, hi0]; rfl) (by simp (dsimp := false) only [push_cast, hP, hnt, hgw, hgb, Nat.reduceLT, Nat.reduceEqDiff, Nat.reduceAdd, Nat.reduceSub, Nat.reduceMul, Nat.reduceLeDiff, ↓reduceIte, reduceCtorEq, hi0]) ?_
        rw [decide_eq_true (same_end hb1 hl ht)]; rfl
end Go.Vm
end

section
namespace Go.Vm
open Go Go.RowKit Go.Proofs
set_option maxRecDepth 100000
set_option linter.unusedVariables false

theorem toList_inj {a b : ByteArray} : a.toList = b.toList ↔ a = b := ⟨bytes_ext, fun h => by rw [h]⟩

def refCheckG (n : ByteArray) (k : Int) : Int :=
  if n = nm0 ∨ n = nm1 ∨ n = nm2 ∨ n = nm3 ∨ n = nm4 ∨ n = nm5 then (if k < 0 ∨ 0 < k then 2 else 0)
  else if n = nPrefix then (if k < 1 ∨ 8 < k then 2 else 0)
  else if n = nPhases then (if k < 2 ∨ 4 < k then 2 else 0)
  else 12
theorem refCheckG_eq (n : ByteArray) (k : Int) : refCheckF n k = refCheckG n k := by simp only [refCheckF, refCheckG, toList_inj]

theorem check_eq (n : ByteArray) (k : Int) : checkF n k = refCheckF n k := by
  rw [refCheckG_eq]
  unfold checkF refCheckG
  simp only [toList_inj]
  by_cases h : Lib.containsS names8 n = true
  · have h' := (Lib.containsS_iff _ _).1 h
    simp only [names8, List.mem_cons, List.not_mem_nil, or_false] at h'
    have hne : ¬ Lib.containsS names8 n = false := by rw [h]; decide
    rw [if_neg hne]
    have e1 : ∀ m : ByteArray, (m = nm0 ∨ m = nm1 ∨ m = nm2 ∨ m = nm3 ∨ m = nm4 ∨ m = nm5) → ¬ m = nPrefix ∧ ¬ m = nPhases := by
      rintro m (rfl | rfl | rfl | rfl | rfl | rfl) <;> decide
    by_cases h6 : n = nm0 ∨ n = nm1 ∨ n = nm2 ∨ n = nm3 ∨ n = nm4 ∨ n = nm5
    · rw [if_pos h6, if_neg (e1 n h6).1, if_neg (e1 n h6).2]
    · rw [if_neg h6]
      have : n = nPrefix ∨ n = nPhases := by
        rcases h' with h' | h' | h' | h' | h' | h' | h' | h'
        · exact absurd (.inl h') h6
        · exact absurd (.inr (.inl h')) h6
        · exact absurd (.inr (.inr (.inl h'))) h6
        · exact absurd (.inr (.inr (.inr (.inl h')))) h6
        · exact absurd (.inr (.inr (.inr (.inr (.inl h'))))) h6
        · exact absurd (.inr (.inr (.inr (.inr (.inr h'))))) h6
        · exact .inl h'
        · exact .inr h'
      rcases this with rfl | rfl
      · rw [if_pos rfl, if_pos rfl]
      · have hpp : ¬ nPhases = nPrefix := by decide
        simp only [hpp, if_false, if_true]
  · have hno : ∀ m, m ∈ names8 → ¬ n = m := by
      rintro m hm rfl
      exact h ((Lib.containsS_iff _ _).2 hm)
    rw [if_pos (by simpa using h), if_neg, if_neg (hno nPrefix (by simp [names8, nPrefix])), if_neg (hno nPhases (by simp [names8, nPhases]))]
    rintro (h | h | h | h | h | h)
    · exact hno nm0 (by simp [names8, nm0]) h
    · exact hno nm1 (by simp [names8, nm1]) h
    · exact hno nm2 (by simp [names8, nm2]) h
    · exact hno nm3 (by simp [names8, nm3]) h
    · exact hno nm4 (by simp [names8, nm4]) h
    · exact hno nm5 (by simp [names8, nm5]) h

theorem digit_eq (k : Int) (h0 : 0 ≤ k) (h8 : k ≤ 8) : digitsB k = ofBytes [IntKind.wrap .u8 (IntKind.wrap .i64 (48 + k))] := by
  unfold digitsB
  rw [Lib.decDigits_one (by omega)]
  have : k = 0 ∨ k = 1 ∨ k = 2 ∨ k = 3 ∨ k = 4 ∨ k = 5 ∨ k = 6 ∨ k = 7 ∨ k = 8 := by omega
  rcases this with rfl | rfl | rfl | rfl | rfl | rfl | rfl | rfl | rfl <;> decide

theorem text_eq (n : ByteArray) (k : Int) : textF n k = refTextF n k := by
  unfold textF refTextF
  rw [check_eq]
  split
  · rfl
  · rename_i h
    have h0 : refCheckF n k = 0 := by simpa using h
    have hk := checkF_ok (n := n) (k := k) (by rw [check_eq]; exact h0)
    unfold writtenF
    by_cases hk0 : k = 0
    · rw [if_pos hk0, if_neg (by omega)]
    · rw [if_neg hk0, if_pos (by omega), digit_eq k hk.1 hk.2.1]

theorem back17 : ∀ p ∈ refPairs, refCheckG p.1 p.2 = 0 → cutN (writtenF p.1 p.2) = p.1 ∧ atoiV (cutR (writtenF p.1 p.2)) = p.2 := by
  decide +kernel

theorem mem_pairs {n : ByteArray} {k : Int} (h : checkF n k = 0) : (n, k) ∈ refPairs := by
  have hk := checkF_ok h
  have hn : n ∈ names8 := by
    unfold checkF at h
    split at h
    · cases h
    · rename_i hc
      exact (Lib.containsS_iff _ _).1 (by simpa using hc)
  unfold refPairs
  rw [List.mem_flatMap]
  refine ⟨n, hn, ?_⟩
  have : k = 0 ∨ k = 1 ∨ k = 2 ∨ k = 3 ∨ k = 4 ∨ k = 5 ∨ k = 6 ∨ k = 7 ∨ k = 8 := by omega
  rcases this with rfl | rfl | rfl | rfl | rfl | rfl | rfl | rfl | rfl <;> simp

theorem textP_written (p : ByteArray × Int) (h : checkF p.1 p.2 = 0) : textP p = writtenP p := by
  unfold textP
  rw [text_eq, refTextF, if_neg (by rw [← check_eq]; simp [h])]; rfl
theorem first_eq : ∀ l : List (ByteArray × Int), firstE l = firstR l
  | [] => rfl
  | p :: l => by unfold firstE firstR; rw [check_eq, first_eq l]
theorem checks_eq (l : List (ByteArray × Int)) : checksF l = checksR l := by unfold checksF checksR; rw [first_eq]
theorem passes_eq (l : List (ByteArray × Int)) : passesR l = passesF l := by
  unfold passesR passesF
  rw [← checks_eq]
  split
  · rfl
  · rename_i h
    have h : checksF l = 0 := by simpa using h
    unfold lstF
    rw [List.map_congr_left fun p hp => (textP_written p (firstE_mem (checksF_zero h).2 p hp)).symm]
theorem splitC_hit {c : UInt8} {s : ByteArray} {x r : List UInt8} (hs : s.data.toList = x ++ c :: r) (h : c ∉ x) : splitS s ⟨#[c]⟩ = bOf x :: splitS (bOf r) ⟨#[c]⟩ := by
  have hi : Lib.indexB s ⟨#[c]⟩ = (x.length : Int) := by
    show Lib.index s.data.toList [c] = _
    rw [hs]; exact index_hit c x r h
  have hsz : s.size = x.length + (r.length + 1) := by rw [size_list, hs]; simp
  have h1 : (⟨#[c]⟩ : ByteArray).size = 1 := rfl
  have e1 : s.extract 0 (x.length + 0) = bOf x := bOf_ext (by rw [ext_data, hs]; simp)
  have e2 : s.extract (x.length + (⟨#[c]⟩ : ByteArray).size) s.size = bOf r := bOf_ext (by
    rw [ext_data, hs, hsz, h1]
    have h3 : (x ++ c :: r).drop (x.length + 1) = r := by simp
    rw [h3, List.take_of_length_le (by omega)])
  unfold splitS
  rw [Lib.countB_hit s ⟨#[c]⟩ x.length (by rw [h1]; omega) hi, Nat.add_comm, Lib.splitB_hit ⟨#[c]⟩ 0 _ s x.length hi, e1, e2]
theorem splitC_miss {c : UInt8} {s : ByteArray} (h : c ∉ s.data.toList) : splitS s ⟨#[c]⟩ = [s] := by
  have hi : Lib.indexB s ⟨#[c]⟩ = -1 := index_miss c _ h
  unfold splitS
  exact Lib.splitB_miss ⟨#[c]⟩ 0 _ s hi
theorem dec_len_k : ∀ k u, u < 10 ^ (k + 1) → (Lib.decDigits u).length ≤ k + 1
  | 0, u, h => by rw [Lib.decDigits_one (by simpa using h)]; simp
  | k + 1, u, h => by
    by_cases h1 : u < 10
    · rw [Lib.decDigits_one h1]; simp
    · rw [Lib.decDigits, dif_neg h1, List.length_append]
      have := dec_len_k k (u / 10) (by rw [Nat.pow_succ] at h; omega)
      simp; omega
theorem numF_digL {n : Int} (h0 : 0 ≤ n) (h1 : n ≤ 1000000) : numF (digB n) = n := by
  have hp := parse_dec n.toNat (by omega)
  have ha : Lib.atoiAll (Lib.decDigits n.toNat) = .ok n := by
    have hd := dec_digits n.toNat
    have hne := dec_ne n.toNat
    unfold Lib.atoiAll
    split
    · rename_i h; exact absurd h hne
    · rename_i c r h
      have hc := hd c (by rw [h]; simp)
      simp only
      rw [if_neg (by omega), Lib.parseMag, if_neg hne, hp]
      simp only
      rw [if_neg (by omega), if_neg (by omega), if_neg (by omega)]
      congr 1; omega
  have hv : atoiV (digB n) = n := by unfold atoiV; rw [digB_data, ha]
  have ho : atoiOk (digB n) = true := by unfold atoiOk; rw [digB_data, ha]
  unfold numF
  rw [if_pos ⟨ho, by rw [hv]; exact h0, by rw [hv, digB_eq h0]⟩, hv]
theorem numR_digL {n : Int} (h0 : 0 ≤ n) (h1 : n ≤ 1000000) : numR (digB n) = n := by
  have ht : (digB n).data.toList.take 8 = Lib.decDigits n.toNat := by
    rw [digB_data, List.take_of_length_le]
    have := dec_len_k 6 n.toNat (by omega); omega
  have hn : numGo ((digB n).data.toList.take 8) = n := by rw [ht, numGo_dec]; omega
  unfold numR
  rw [hn, if_pos ⟨h0, rfl⟩]
theorem eng_data {x : Eng} (h : engP x) : (engT x).data.toList = (engW x).data.toList ++ 32 :: ((digB x.num).data.toList ++ 32 :: (digB x.bud).data.toList) := by
  unfold engT
  rw [digB_eq h.1, digB_eq (eng_num h).1, data_app, data_app, data_app, data_app, sp_data]
  simp
theorem engW_no (x : Eng) : (32 : UInt8) ∉ (engW x).data.toList := by unfold engW; split <;> decide
theorem bOf_self (s : ByteArray) : bOf s.data.toList = s := (bOf_ext rfl).symm
theorem PE_eng {x : Eng} (h : engP x) : PE (engT x) = [engW x, digB x.num, digB x.bud] := by
  unfold PE
  rw [splitC_hit (eng_data h) (engW_no x), bOf_self, splitC_hit (s := bOf _) rfl (no_dig (by decide) x.num), bOf_self, splitC_miss (c := 32) (s := bOf (digB x.bud).data.toList) (no_dig (by decide) x.bud), bOf_self]
theorem PR_eng {x : Eng} (h : engP x) : PR (engT x) = [engW x, digB x.num, digB x.bud] := by
  unfold PR
  rw [pieces_hit (eng_data h) (engW_no x), bOf_self, pieces_hit (s := bOf _) rfl (no_dig (by decide) x.num), bOf_self]
  have hm : Lib.indexByte (bOf (digB x.bud).data.toList).data.toList 32 < 0 := by
    apply Int.not_le.1
    intro hge
    obtain ⟨y, r, e, _⟩ := indexByte_hit 32 _ hge
    exact no_dig (c := 32) (by decide) x.bud (by rw [show (digB x.bud).data.toList = (bOf (digB x.bud).data.toList).data.toList from rfl, e]; simp)
  rw [pieces_miss hm, bOf_self]
theorem engW_back (x : Eng) : ((engW x).toList == (⟨#[112, 100, 114]⟩ : ByteArray).toList) = x.pdr := by
  unfold engW
  cases x.pdr
  · show ((bOf [98, 109, 99]).toList == (bOf [112, 100, 114]).toList) = false
    rw [bOf_toList, bOf_toList]; decide
  · show ((bOf [112, 100, 114]).toList == (bOf [112, 100, 114]).toList) = true
    rw [bOf_toList]; decide
theorem engF_back {x : Eng} (h : engP x) : engOf numF (PE (engT x)) = x := by
  have h1 := eng_num h
  rw [PE_eng h]
  show Eng.mk ((engW x).toList == (⟨#[112, 100, 114]⟩ : ByteArray).toList) (numF (digB x.num)) (numF (digB x.bud)) = x
  rw [engW_back, numF_digL h1.1 (by omega), numF_digL h.1 (by have := h.2.1; omega)]
theorem engR_back {x : Eng} (h : engP x) : engOf numR (PR (engT x)) = x := by
  have h1 := eng_num h
  rw [PR_eng h]
  show Eng.mk ((engW x).toList == (⟨#[112, 100, 114]⟩ : ByteArray).toList) (numR (digB x.num)) (numR (digB x.bud)) = x
  rw [engW_back, numR_digL h1.1 (by omega), numR_digL h.1 (by have := h.2.1; omega)]
theorem readEng_of {x : Eng} (h : engP x) : readEngF (engT x) = (x, 0) ∧ readEngR (engT x) = (x, 0) := by
  constructor
  · rw [readEng_ok (by rw [PE_eng h]; rfl) (by rw [engF_back h, engineF_ok (engE_ok h)]; simp), engF_back h]
  · rw [readEngR_ok (by rw [PR_eng h]; rfl) (by rw [engR_back h, engE_ok h, engSA_eq h]; simp), engR_back h]
theorem readEng_cases (s : ByteArray) : readEngF s = (engZ, 12) ∨ ∃ x, engP x ∧ s = engT x ∧ readEngF s = (x, 0) := by
  unfold readEngF
  split
  · exact .inl rfl
  · split
    · exact .inl rfl
    · rename_i h
      simp only [not_or, ne_eq, Classical.not_not] at h
      have hz : engE (engOf numF (PE s)) = 0 := by
        apply Classical.byContradiction
        intro hz
        rw [engineF_bad hz] at h
        exact hz h.1
      rw [engineF_ok hz] at h
      exact .inr ⟨_, engE_zero hz, toList_eq h.2.symm, rfl⟩
end Go.Vm
end

section
namespace Go.Vm
open Go Go.RowKit Go.Proofs
set_option maxRecDepth 100000
set_option linter.unusedSimpArgs false
set_option linter.unusedVariables false
set_option maxHeartbeats 4000000

def runV : Ver := ⟨2, [true, false], [[]], 0, 0, [], 0⟩
theorem fit_run : Fit runV := fit_of (by decide)
def saysVF (v : Ver) (s : ByteArray) : Bool :=
  ((verdictF v).2 == 0) && ((verdictF v).1.toList == s.toList) && ((readVF s).2 == 0) && sameV v (readVF s).1
def saysPF (l : List (ByteArray × Int)) (s : ByteArray) : Bool :=
  ((passesF l).2 == 0) && ((passesF l).1.toList == s.toList) && ((readPassF s).2 == 0) && decide (l = (readPassF s).1)
theorem run_call (gw : World) (gb : Nat) : VCall Tryz.prog gw (gb) 35 [] (.agg (runV.pcs true)) [] := by
  refine vcall_of [.cell 0 34] Tryz.func35 rfl rfl Tryz.ntmps35 rfl (by simp) ?_
  intro C hP hnt hgw hgb hfull
  refine vwp_seq_region rfl fun K hK => ?_
  simp (dsimp := false) only [push_cast, hP, hnt, hgw, hgb, Nat.reduceLT, Nat.reduceEqDiff, Nat.reduceAdd, Nat.reduceSub, Nat.reduceMul, Nat.reduceLeDiff, ↓reduceIte, reduceCtorEq, runV]
  refine hK _ ?_; clear hK
  refine vwp_seq_region rfl fun K hK => ?_
  simp (dsimp := false) only [push_cast, hP, hnt, hgw, hgb, Nat.reduceLT, Nat.reduceEqDiff, Nat.reduceAdd, Nat.reduceSub, Nat.reduceMul, Nat.reduceLeDiff, ↓reduceIte, reduceCtorEq, runV]
  refine hK _ ?_; clear hK
  refine vwp_ret ?_
  refine ret_conv [(2, 0), (3, 0)] [] (by simp (dsimp := false) only [push_cast, hP, hnt, hgw, hgb, Nat.reduceLT, Nat.reduceEqDiff, Nat.reduceAdd, Nat.reduceSub, Nat.reduceMul, Nat.reduceLeDiff, ↓reduceIte, reduceCtorEq, runV]; rfl) (by simp) (by simp) (by first | decide | simp) ?_ ?_
  · simp only [pack]
    repeat' (first | exact ConvVs.nil | exact ConvL.nil | refine ConvV.tup ?_ | refine ConvVs.cons ?_ ?_ | (refine ConvV.self ?_; simp only [push_cast, bbP_free, boolP_free]; done) | refine ConvV.one ?_ | refine ConvV.agg ?_ | (refine ConvL.free ?_; simp only [push_cast, bbP_free, boolP_free]; done) | refine ConvL.append ?_ ?_ | refine ConvL.cons ?_ ?_ | exact Conv.free rfl | exact Conv.nil | (refine Conv.own ?_; simp; done) | (refine Conv.loc ?_; simp; done) | refine Conv.frz (by simp) (by simp (dsimp := false) only [push_cast, ↓reduceIte, Nat.reduceEqDiff, Nat.reduceAdd, reduceCtorEq, runV] <;> rfl) ?_ | refine Conv.sl (by simp) ?_ | refine Conv.fn ?_)
  · exact rb_nil
theorem saysV_call (gw : World) (hg : Glob gw) (v : Ver) (hf : Fit v) (s : ByteArray) (hs : s.size ≤ 90000) : VCall Tryz.prog gw (gw.heap.size) 5 [.agg (v.pcs false), .one (.c (.string s))] (.one (.c (.bool (saysVF v s)))) [] := by
  refine vcall_of [.tmp 4] Tryz.func5 rfl rfl Tryz.ntmps5 rfl (by simp) ?_
  intro C hP hnt hgw hgb hfull
  refine vwp_seq_region rfl fun K hK => ?_
  simp (dsimp := false) only [push_cast, hP, hnt, hgw, hgb, Nat.reduceLT, Nat.reduceEqDiff, Nat.reduceAdd, Nat.reduceSub, Nat.reduceMul, Nat.reduceLeDiff, ↓reduceIte, reduceCtorEq]
  refine hK _ ?_; clear hK
  refine vwp_seq_region rfl fun K hK => ?_
  simp (dsimp := false) only [push_cast, hP, hnt, hgw, hgb, Nat.reduceLT, Nat.reduceEqDiff, Nat.reduceAdd, Nat.reduceSub, Nat.reduceMul, Nat.reduceLeDiff, ↓reduceIte, reduceCtorEq]
  refine .inl (callE_intro (verdict_call gw hg v hf) (.inl ⟨rfl, rfl⟩) ?_)
  simp (dsimp := false) only [push_cast, hP, hnt, hgw, hgb, Nat.reduceLT, Nat.reduceEqDiff, Nat.reduceAdd, Nat.reduceSub, Nat.reduceMul, Nat.reduceLeDiff, ↓reduceIte, reduceCtorEq]
  refine hK _ ?_; clear hK
  refine vwp_seq_region rfl fun K hK => ?_
  simp (dsimp := false) only [push_cast, hP, hnt, hgw, hgb, Nat.reduceLT, Nat.reduceEqDiff, Nat.reduceAdd, Nat.reduceSub, Nat.reduceMul, Nat.reduceLeDiff, ↓reduceIte, reduceCtorEq]
  refine .inl (callE_intro (readVerdict_call gw hg s hs) (.inl ⟨by simp only [push_cast], rfl⟩) ?_)
  simp (dsimp := false) only [push_cast, hP, hnt, hgw, hgb, Nat.reduceLT, Nat.reduceEqDiff, Nat.reduceAdd, Nat.reduceSub, Nat.reduceMul, Nat.reduceLeDiff, ↓reduceIte, reduceCtorEq]
  refine hK _ ?_; clear hK
  refine vwp_seq_regionG fun K hK => ?_
  simp (dsimp := false) only [push_cast, hP, hnt, hgw, hgb, Nat.reduceLT, Nat.reduceEqDiff, Nat.reduceAdd, Nat.reduceSub, Nat.reduceMul, Nat.reduceLeDiff, ↓reduceIte, reduceCtorEq]
  refine guardR_may (by simp (dsimp := false) only [push_cast, hP, hnt, hgw, hgb, Nat.reduceLT, Nat.reduceEqDiff, Nat.reduceAdd, Nat.reduceSub, Nat.reduceMul, Nat.reduceLeDiff, ↓reduceIte, reduceCtorEq, List.getElem?_cons_zero, List.getElem?_cons_succ]; rfl) ?_
  simp (dsimp := false) only [push_cast, hP, hnt, hgw, hgb, Nat.reduceLT, Nat.reduceEqDiff, Nat.reduceAdd, Nat.reduceSub, Nat.reduceMul, Nat.reduceLeDiff, ↓reduceIte, reduceCtorEq]
  refine guardR_may (by simp (dsimp := false) only [push_cast, hP, hnt, hgw, hgb, Nat.reduceLT, Nat.reduceEqDiff, Nat.reduceAdd, Nat.reduceSub, Nat.reduceMul, Nat.reduceLeDiff, ↓reduceIte, reduceCtorEq, List.getElem?_cons_zero, List.getElem?_cons_succ]; rfl) ?_
  simp (dsimp := false) only [push_cast, hP, hnt, hgw, hgb, Nat.reduceLT, Nat.reduceEqDiff, Nat.reduceAdd, Nat.reduceSub, Nat.reduceMul, Nat.reduceLeDiff, ↓reduceIte, reduceCtorEq]
  refine guardR_may (by simp (dsimp := false) only [push_cast, hP, hnt, hgw, hgb, Nat.reduceLT, Nat.reduceEqDiff, Nat.reduceAdd, Nat.reduceSub, Nat.reduceMul, Nat.reduceLeDiff, ↓reduceIte, reduceCtorEq, List.getElem?_cons_zero, List.getElem?_cons_succ]; rfl) ?_
  simp (dsimp := false) only [push_cast, hP, hnt, hgw, hgb, Nat.reduceLT, Nat.reduceEqDiff, Nat.reduceAdd, Nat.reduceSub, Nat.reduceMul, Nat.reduceLeDiff, ↓reduceIte, reduceCtorEq]
  refine guardR_may (by simp (dsimp := false) only [push_cast, hP, hnt, hgw, hgb, Nat.reduceLT, Nat.reduceEqDiff, Nat.reduceAdd, Nat.reduceSub, Nat.reduceMul, Nat.reduceLeDiff, ↓reduceIte, reduceCtorEq, List.getElem?_cons_zero, List.getElem?_cons_succ]; rfl) ?_
  simp (dsimp := false) only [push_cast, hP, hnt, hgw, hgb, Nat.reduceLT, Nat.reduceEqDiff, Nat.reduceAdd, Nat.reduceSub, Nat.reduceMul, Nat.reduceLeDiff, ↓reduceIte, reduceCtorEq]
  refine guardR_may (by simp (dsimp := false) only [push_cast, hP, hnt, hgw, hgb, Nat.reduceLT, Nat.reduceEqDiff, Nat.reduceAdd, Nat.reduceSub, Nat.reduceMul, Nat.reduceLeDiff, ↓reduceIte, reduceCtorEq, List.getElem?_cons_zero, List.getElem?_cons_succ]; rfl) ?_
  simp (dsimp := false) only [push_cast, hP, hnt, hgw, hgb, Nat.reduceLT, Nat.reduceEqDiff, Nat.reduceAdd, Nat.reduceSub, Nat.reduceMul, Nat.reduceLeDiff, ↓reduceIte, reduceCtorEq]
  refine guardR_may (by simp (dsimp := false) only [push_cast, hP, hnt, hgw, hgb, Nat.reduceLT, Nat.reduceEqDiff, Nat.reduceAdd, Nat.reduceSub, Nat.reduceMul, Nat.reduceLeDiff, ↓reduceIte, reduceCtorEq, List.getElem?_cons_zero, List.getElem?_cons_succ]; rfl) ?_
  simp (dsimp := false) only [push_cast, hP, hnt, hgw, hgb, Nat.reduceLT, Nat.reduceEqDiff, Nat.reduceAdd, Nat.reduceSub, Nat.reduceMul, Nat.reduceLeDiff, ↓reduceIte, reduceCtorEq]
  refine guardR_may (by simp (dsimp := false) only [push_cast, hP, hnt, hgw, hgb, Nat.reduceLT, Nat.reduceEqDiff, Nat.reduceAdd, Nat.reduceSub, Nat.reduceMul, Nat.reduceLeDiff, ↓reduceIte, reduceCtorEq, List.getElem?_cons_zero, List.getElem?_cons_succ]; rfl) ?_
  simp (dsimp := false) only [push_cast, hP, hnt, hgw, hgb, Nat.reduceLT, Nat.reduceEqDiff, Nat.reduceAdd, Nat.reduceSub, Nat.reduceMul, Nat.reduceLeDiff, ↓reduceIte, reduceCtorEq]
  refine guardR_may (by simp (dsimp := false) only [push_cast, hP, hnt, hgw, hgb, Nat.reduceLT, Nat.reduceEqDiff, Nat.reduceAdd, Nat.reduceSub, Nat.reduceMul, Nat.reduceLeDiff, ↓reduceIte, reduceCtorEq, List.getElem?_cons_zero, List.getElem?_cons_succ]; rfl) ?_
  simp (dsimp := false) only [push_cast, hP, hnt, hgw, hgb, Nat.reduceLT, Nat.reduceEqDiff, Nat.reduceAdd, Nat.reduceSub, Nat.reduceMul, Nat.reduceLeDiff, ↓reduceIte, reduceCtorEq]
  refine callE_intro (same42_call gw gw.heap.size v (readVF s).1 hf) (.inl ⟨rfl, rfl⟩) ?_
  refine ⟨rfl, ?_⟩
  simp (dsimp := false) only [push_cast, hP, hnt, hgw, hgb, Nat.reduceLT, Nat.reduceEqDiff, Nat.reduceAdd, Nat.reduceSub, Nat.reduceMul, Nat.reduceLeDiff, ↓reduceIte, reduceCtorEq]
  refine hK _ ?_; clear hK
  refine vwp_ret ?_
  refine ret_free (by simp (dsimp := false) only [push_cast, hP, hnt, hgw, hgb, Nat.reduceLT, Nat.reduceEqDiff, Nat.reduceAdd, Nat.reduceSub, Nat.reduceMul, Nat.reduceLeDiff, ↓reduceIte, reduceCtorEq]; rfl) (by simp (dsimp := false) only [push_cast, hP, hnt, hgw, hgb, Nat.reduceLT, Nat.reduceEqDiff, Nat.reduceAdd, Nat.reduceSub, Nat.reduceMul, Nat.reduceLeDiff, ↓reduceIte, reduceCtorEq]) ?_
  first | (simp only [pack, saysVF, if_true, if_false, Bool.false_eq_true, reduceIte]; done) | (simp only [pack, saysVF, if_true, if_false, ne_eq, not_true_eq_false, not_false_eq_true, true_or, or_true, or_self, ite_self, Bool.true_eq_false, Bool.false_eq_true, or_false, false_or]; done) | (subst_vars; simp only [pack, saysVF, *, if_true, if_false, ne_eq, not_true_eq_false, not_false_eq_true, true_or, or_true, or_self, ite_self, Bool.true_eq_false, Bool.false_eq_true, or_false, false_or]; done) | (simp [pack, saysVF] <;> omega)
theorem saysP_call (gw : World) (hg : Glob gw) (l : List (ByteArray × Int)) (hl : l.length ≤ 100000) (s : ByteArray) (hs : s.size ≤ 90000) : VCall Tryz.prog gw (gw.heap.size) 6 [.one (.sl false l.length (l.flatMap fun p => [.c (.string p.1), .c (.int .i64 p.2)])), .one (.c (.string s))] (.one (.c (.bool (saysPF l s)))) [] := by
  refine vcall_of [.tmp 4] Tryz.func6 rfl rfl Tryz.ntmps6 rfl (by simp) ?_
  intro C hP hnt hgw hgb hfull
  refine vwp_seq_region rfl fun K hK => ?_
  simp (dsimp := false) only [push_cast, hP, hnt, hgw, hgb, Nat.reduceLT, Nat.reduceEqDiff, Nat.reduceAdd, Nat.reduceSub, Nat.reduceMul, Nat.reduceLeDiff, ↓reduceIte, reduceCtorEq]
  refine hK _ ?_; clear hK
  refine vwp_seq_region rfl fun K hK => ?_
  simp (dsimp := false) only [push_cast, hP, hnt, hgw, hgb, Nat.reduceLT, Nat.reduceEqDiff, Nat.reduceAdd, Nat.reduceSub, Nat.reduceMul, Nat.reduceLeDiff, ↓reduceIte, reduceCtorEq]
  refine .inl (callE_intro (passes_call gw gw.heap.size l hl) (.inl ⟨rfl, rfl⟩) ?_)
  simp (dsimp := false) only [push_cast, hP, hnt, hgw, hgb, Nat.reduceLT, Nat.reduceEqDiff, Nat.reduceAdd, Nat.reduceSub, Nat.reduceMul, Nat.reduceLeDiff, ↓reduceIte, reduceCtorEq]
  refine hK _ ?_; clear hK
  refine vwp_seq_region rfl fun K hK => ?_
  simp (dsimp := false) only [push_cast, hP, hnt, hgw, hgb, Nat.reduceLT, Nat.reduceEqDiff, Nat.reduceAdd, Nat.reduceSub, Nat.reduceMul, Nat.reduceLeDiff, ↓reduceIte, reduceCtorEq]
  refine .inl (callE_intro (readPasses_call gw hg s (by omega)) (.inl ⟨by simp only [push_cast], rfl⟩) ?_)
  simp (dsimp := false) only [push_cast, hP, hnt, hgw, hgb, Nat.reduceLT, Nat.reduceEqDiff, Nat.reduceAdd, Nat.reduceSub, Nat.reduceMul, Nat.reduceLeDiff, ↓reduceIte, reduceCtorEq]
  refine hK _ ?_; clear hK
  refine vwp_seq_regionG fun K hK => ?_
  simp (dsimp := false) only [push_cast, hP, hnt, hgw, hgb, Nat.reduceLT, Nat.reduceEqDiff, Nat.reduceAdd, Nat.reduceSub, Nat.reduceMul, Nat.reduceLeDiff, ↓reduceIte, reduceCtorEq]
  refine guardR_may (by simp (dsimp := false) only [push_cast, hP, hnt, hgw, hgb, Nat.reduceLT, Nat.reduceEqDiff, Nat.reduceAdd, Nat.reduceSub, Nat.reduceMul, Nat.reduceLeDiff, ↓reduceIte, reduceCtorEq, List.getElem?_cons_zero, List.getElem?_cons_succ]; rfl) ?_
  simp (dsimp := false) only [push_cast, hP, hnt, hgw, hgb, Nat.reduceLT, Nat.reduceEqDiff, Nat.reduceAdd, Nat.reduceSub, Nat.reduceMul, Nat.reduceLeDiff, ↓reduceIte, reduceCtorEq]
  refine guardR_may (by simp (dsimp := false) only [push_cast, hP, hnt, hgw, hgb, Nat.reduceLT, Nat.reduceEqDiff, Nat.reduceAdd, Nat.reduceSub, Nat.reduceMul, Nat.reduceLeDiff, ↓reduceIte, reduceCtorEq, List.getElem?_cons_zero, List.getElem?_cons_succ]; rfl) ?_
  simp (dsimp := false) only [push_cast, hP, hnt, hgw, hgb, Nat.reduceLT, Nat.reduceEqDiff, Nat.reduceAdd, Nat.reduceSub, Nat.reduceMul, Nat.reduceLeDiff, ↓reduceIte, reduceCtorEq]
  refine guardR_may (by simp (dsimp := false) only [push_cast, hP, hnt, hgw, hgb, Nat.reduceLT, Nat.reduceEqDiff, Nat.reduceAdd, Nat.reduceSub, Nat.reduceMul, Nat.reduceLeDiff, ↓reduceIte, reduceCtorEq, List.getElem?_cons_zero, List.getElem?_cons_succ]; rfl) ?_
  simp (dsimp := false) only [push_cast, hP, hnt, hgw, hgb, Nat.reduceLT, Nat.reduceEqDiff, Nat.reduceAdd, Nat.reduceSub, Nat.reduceMul, Nat.reduceLeDiff, ↓reduceIte, reduceCtorEq]
  refine guardR_may (by simp (dsimp := false) only [push_cast, hP, hnt, hgw, hgb, Nat.reduceLT, Nat.reduceEqDiff, Nat.reduceAdd, Nat.reduceSub, Nat.reduceMul, Nat.reduceLeDiff, ↓reduceIte, reduceCtorEq, List.getElem?_cons_zero, List.getElem?_cons_succ]; rfl) ?_
  simp (dsimp := false) only [push_cast, hP, hnt, hgw, hgb, Nat.reduceLT, Nat.reduceEqDiff, Nat.reduceAdd, Nat.reduceSub, Nat.reduceMul, Nat.reduceLeDiff, ↓reduceIte, reduceCtorEq]
  refine guardR_may (by simp (dsimp := false) only [push_cast, hP, hnt, hgw, hgb, Nat.reduceLT, Nat.reduceEqDiff, Nat.reduceAdd, Nat.reduceSub, Nat.reduceMul, Nat.reduceLeDiff, ↓reduceIte, reduceCtorEq, List.getElem?_cons_zero, List.getElem?_cons_succ]; rfl) ?_
  simp (dsimp := false) only [push_cast, hP, hnt, hgw, hgb, Nat.reduceLT, Nat.reduceEqDiff, Nat.reduceAdd, Nat.reduceSub, Nat.reduceMul, Nat.reduceLeDiff, ↓reduceIte, reduceCtorEq]
  refine guardR_may (by simp (dsimp := false) only [push_cast, hP, hnt, hgw, hgb, Nat.reduceLT, Nat.reduceEqDiff, Nat.reduceAdd, Nat.reduceSub, Nat.reduceMul, Nat.reduceLeDiff, ↓reduceIte, reduceCtorEq, List.getElem?_cons_zero, List.getElem?_cons_succ]; rfl) ?_
  simp (dsimp := false) only [push_cast, hP, hnt, hgw, hgb, Nat.reduceLT, Nat.reduceEqDiff, Nat.reduceAdd, Nat.reduceSub, Nat.reduceMul, Nat.reduceLeDiff, ↓reduceIte, reduceCtorEq]
  refine guardR_may (by simp (dsimp := false) only [push_cast, hP, hnt, hgw, hgb, Nat.reduceLT, Nat.reduceEqDiff, Nat.reduceAdd, Nat.reduceSub, Nat.reduceMul, Nat.reduceLeDiff, ↓reduceIte, reduceCtorEq, List.getElem?_cons_zero, List.getElem?_cons_succ]; rfl) ?_
  simp (dsimp := false) only [push_cast, hP, hnt, hgw, hgb, Nat.reduceLT, Nat.reduceEqDiff, Nat.reduceAdd, Nat.reduceSub, Nat.reduceMul, Nat.reduceLeDiff, ↓reduceIte, reduceCtorEq]
  refine guardR_may (by simp (dsimp := false) only [push_cast, hP, hnt, hgw, hgb, Nat.reduceLT, Nat.reduceEqDiff, Nat.reduceAdd, Nat.reduceSub, Nat.reduceMul, Nat.reduceLeDiff, ↓reduceIte, reduceCtorEq, List.getElem?_cons_zero, List.getElem?_cons_succ]; rfl) ?_
  simp (dsimp := false) only [push_cast, hP, hnt, hgw, hgb, Nat.reduceLT, Nat.reduceEqDiff, Nat.reduceAdd, Nat.reduceSub, Nat.reduceMul, Nat.reduceLeDiff, ↓reduceIte, reduceCtorEq]
  refine callE_intro (samePasses_call gw gw.heap.size l (readPassF s).1 (by omega)) (.inl ⟨rfl, rfl⟩) ?_
  refine ⟨rfl, ?_⟩
  simp (dsimp := false) only [push_cast, hP, hnt, hgw, hgb, Nat.reduceLT, Nat.reduceEqDiff, Nat.reduceAdd, Nat.reduceSub, Nat.reduceMul, Nat.reduceLeDiff, ↓reduceIte, reduceCtorEq]
  refine hK _ ?_; clear hK
  refine vwp_ret ?_
  refine ret_free (by simp (dsimp := false) only [push_cast, hP, hnt, hgw, hgb, Nat.reduceLT, Nat.reduceEqDiff, Nat.reduceAdd, Nat.reduceSub, Nat.reduceMul, Nat.reduceLeDiff, ↓reduceIte, reduceCtorEq]; rfl) (by simp (dsimp := false) only [push_cast, hP, hnt, hgw, hgb, Nat.reduceLT, Nat.reduceEqDiff, Nat.reduceAdd, Nat.reduceSub, Nat.reduceMul, Nat.reduceLeDiff, ↓reduceIte, reduceCtorEq]) ?_
  first | (simp only [pack, saysPF, if_true, if_false, Bool.false_eq_true, reduceIte]; done) | (simp only [pack, saysPF, if_true, if_false, ne_eq, not_true_eq_false, not_false_eq_true, true_or, or_true, or_self, ite_self, Bool.true_eq_false, Bool.false_eq_true, or_false, false_or]; done) | (subst_vars; simp only [pack, saysPF, *, if_true, if_false, ne_eq, not_true_eq_false, not_false_eq_true, true_or, or_true, or_self, ite_self, Bool.true_eq_false, Bool.false_eq_true, or_false, false_or]; done) | (simp [pack, saysPF] <;> omega)
end Go.Vm
end

section
namespace Go.Vm
open Go Go.RowKit Go.Proofs
set_option maxRecDepth 100000
set_option linter.unusedSimpArgs false
set_option linter.unusedVariables false
set_option maxHeartbeats 4000000

def listV : List (ByteArray × Int) := [(⟨#[104, 97, 115, 104]⟩, 0), (⟨#[112, 114, 101, 102, 105, 120]⟩, 2)]
def aliveLF : Bool := saysVF runV ⟨#[85, 78, 83, 65, 70, 69, 10, 102, 105, 114, 115, 116, 32, 49, 48, 10, 105, 110, 32, 45, 10]⟩ && saysPF listV ⟨#[104, 97, 115, 104, 44, 112, 114, 101, 102, 105, 120, 58, 50]⟩
theorem aliveL_call (gw : World) (hg : Glob gw) : VCall Tryz.prog gw (gw.heap.size) 14 [] (.one (.c (.bool aliveLF))) [] := by
  refine vcall_of [.tmp 0] Tryz.func14 rfl rfl Tryz.ntmps14 rfl (by simp) ?_
  intro C hP hnt hgw hgb hfull
  refine vwp_seq_region rfl fun K hK => ?_
  simp (dsimp := false) only [push_cast, hP, hnt, hgw, hgb, sevalprocAttr]
  refine hK _ ?_; clear hK
  refine vwp_seq_regionG fun K hK => ?_
  simp (dsimp := false) only [push_cast, hP, hnt, hgw, hgb, sevalprocAttr]
  refine .inl (callE_intro (run_call gw gw.heap.size) (.inl ⟨rfl, rfl⟩) ?_)
  simp (dsimp := false) only [push_cast, hP, hnt, hgw, hgb, sevalprocAttr]
  refine .inl (callE_intro (saysV_call gw hg runV fit_run ⟨#[85, 78, 83, 65, 70, 69, 10, 102, 105, 114, 115, 116, 32, 49, 48, 10, 105, 110, 32, 45, 10]⟩ (by decide)) (.inl ⟨by simp only [push_cast], rfl⟩) ?_)
  simp (dsimp := false) only [push_cast, hP, hnt, hgw, hgb, sevalprocAttr]
  refine guardR_may (by simp (dsimp := false) only [push_cast, hP, hnt, hgw, hgb, sevalprocAttr, List.getElem?_cons_zero, List.getElem?_cons_succ]; rfl) ?_
  simp (dsimp := false) only [push_cast, hP, hnt, hgw, hgb, sevalprocAttr]
  refine guardR_may (by simp (dsimp := false) only [push_cast, hP, hnt, hgw, hgb, sevalprocAttr, List.getElem?_cons_zero, List.getElem?_cons_succ]; rfl) ?_
  simp (dsimp := false) only [push_cast, hP, hnt, hgw, hgb, sevalprocAttr]
  refine guardR_may (by simp (dsimp := false) only [push_cast, hP, hnt, hgw, hgb, sevalprocAttr, List.getElem?_cons_zero, List.getElem?_cons_succ]; rfl) ?_
  simp (dsimp := false) only [push_cast, hP, hnt, hgw, hgb, sevalprocAttr]
  refine guardR_may (by simp (dsimp := false) only [push_cast, hP, hnt, hgw, hgb, sevalprocAttr, List.getElem?_cons_zero, List.getElem?_cons_succ]; rfl) ?_
  simp (dsimp := false) only [push_cast, hP, hnt, hgw, hgb, sevalprocAttr]
  refine callE_intro (saysP_call gw hg listV (by decide) ⟨#[104, 97, 115, 104, 44, 112, 114, 101, 102, 105, 120, 58, 50]⟩ (by decide)) (.inl ⟨rfl, rfl⟩) ?_
  refine ⟨rfl, ?_⟩
  simp (dsimp := false) only [push_cast, hP, hnt, hgw, hgb, sevalprocAttr]
  refine hK _ ?_; clear hK
  refine vwp_ret ?_
  refine ret_free (by simp (dsimp := false) only [push_cast, hP, hnt, hgw, hgb, sevalprocAttr]; rfl) (by simp (dsimp := false) only [push_cast, hP, hnt, hgw, hgb, sevalprocAttr]) ?_
  first | (simp only [pack, aliveLF, if_true, if_false, Bool.false_eq_true, reduceIte]; done) | (simp only [pack, aliveLF, if_true, if_false, ne_eq, not_true_eq_false, not_false_eq_true, true_or, or_true, or_self, ite_self, Bool.true_eq_false, Bool.false_eq_true, or_false, false_or]; done) | (subst_vars; simp only [pack, aliveLF, *, if_true, if_false, ne_eq, not_true_eq_false, not_false_eq_true, true_or, or_true, or_self, ite_self, Bool.true_eq_false, Bool.false_eq_true, or_false, false_or]; done) | (simp [pack, aliveLF] <;> omega)
end Go.Vm
end
