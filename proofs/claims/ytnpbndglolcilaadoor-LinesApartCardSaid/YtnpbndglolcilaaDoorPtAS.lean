/-
  Walks of the program's functions by the framework, and what they compute (PtAS). Conditions: each theorem's own premises. By an AI agent.
-/
import Derived.Test.YtnpbndglolcilaaDoorPtAR
section
namespace Go.Vm
open Go Go.RowKit Go.Proofs
set_option maxRecDepth 100000
set_option linter.unusedVariables false

theorem text17 : ∀ p ∈ refPairs, refCheckG p.1 p.2 = 0 → (44 : UInt8) ∉ (writtenF p.1 p.2).data.toList ∧ (writtenF p.1 p.2).data.toList ≠ [] := by
  decide +kernel
theorem textP_no {p : ByteArray × Int} (h : checkF p.1 p.2 = 0) : (44 : UInt8) ∉ (textP p).data.toList ∧ (textP p).data.toList ≠ [] := by
  have := text17 p (mem_pairs h) (by rw [← refCheckG_eq, ← check_eq]; exact h)
  rw [textP_written p h]
  exact this
theorem pass_back {p : ByteArray × Int} (h : checkF p.1 p.2 = 0) : readF (textP p) = (p.1, p.2, 0) := by
  have hb := back17 p (mem_pairs h) (by rw [← refCheckG_eq, ← check_eq]; exact h)
  have e : textP p = writtenF p.1 p.2 := textP_written p h
  unfold readF
  rw [e, hb.1, hb.2, if_neg]
  rintro (h1 | h1)
  · exact h1 (by rw [textF_snd]; exact h)
  · exact h1 (by rw [show (textF p.1 p.2).1 = writtenF p.1 p.2 from e])
theorem idx_neg {c : UInt8} {l : List UInt8} (h : c ∉ l) : Lib.indexByte l c < 0 := by
  apply Int.not_le.1
  intro hge
  obtain ⟨y, r, e, _⟩ := indexByte_hit c _ hge
  exact h (by rw [e]; simp)
theorem pieces_join : ∀ (w : ByteArray) (ws : List ByteArray), (∀ x ∈ w :: ws, (44 : UInt8) ∉ x.data.toList) → piecesB (joinS commaB (w :: ws)) 44 = w :: ws
  | w, [], h => by
    have e : joinS commaB [w] = w := joinS_one _ _
    rw [e, pieces_miss (idx_neg (h w (by simp)))]
  | w, v :: vs, h => by
    have e : (joinS commaB (w :: v :: vs)).data.toList = w.data.toList ++ 44 :: (joinS commaB (v :: vs)).data.toList := by
      show Lib.join ((w :: v :: vs).map (·.data.toList)) [44] = w.data.toList ++ 44 :: Lib.join ((v :: vs).map (·.data.toList)) [44]
      rw [List.map_cons, List.map_cons, Lib.join_cons, Lib.join_cons]
      simp [Lib.joinTail]
    rw [pieces_hit e (h w (by simp)), bOf_self, bOf_self, pieces_join v vs (fun x hx => h x (by simp [hx]))]
theorem reads_texts : ∀ l : List (ByteArray × Int), (∀ p ∈ l, checkF p.1 p.2 = 0) → readsG readF (l.map textP) = some l
  | [], _ => rfl
  | p :: l, h => by
    have hp := pass_back (h p (by simp))
    rw [List.map_cons, readsG, hp, reads_texts l (fun q hq => h q (by simp [hq]))]
    simp
theorem passesF_zero {l : List (ByteArray × Int)} (h : (passesF l).2 = 0) : checksF l = 0 ∧ passesF l = (joinS commaB (l.map textP), 0) := by
  unfold passesF at h ⊢
  split at h
  · rename_i h1; exact absurd h h1
  · rename_i h1
    exact ⟨by simpa using h1, if_neg h1⟩
theorem passes_back {l : List (ByteArray × Int)} (h : (passesF l).2 = 0) : readPassF (passesF l).1 = (l, 0) := by
  obtain ⟨hc, he⟩ := passesF_zero h
  have hm := firstE_mem (checksF_zero hc).2
  rw [he]
  show readPassF (joinS commaB (l.map textP)) = (l, 0)
  match l, hc, hm with
  | [], _, _ => exact readPass_nil rfl
  | p :: l, hc, hm =>
    have hp := pieces_join (textP p) (l.map textP) (fun x hx => by
      rw [← List.map_cons] at hx
      obtain ⟨q, hq, rfl⟩ := List.mem_map.1 hx
      exact (textP_no (hm q hq)).1)
    have hne : ¬ (joinS commaB ((p :: l).map textP)).toList = (⟨#[]⟩ : ByteArray).toList := by
      intro hh
      have := bytes_ext hh
      have h2 : (joinS commaB ((p :: l).map textP)).data.toList = [] := by rw [this]
      have h3 : (joinS commaB ((p :: l).map textP)).data.toList = (textP p).data.toList ++ Lib.joinTail [44] ((l.map textP).map (·.data.toList)) := by
        show Lib.join (((p :: l).map textP).map (·.data.toList)) [44] = _
        rw [List.map_cons, List.map_cons, Lib.join_cons]
      rw [h3, List.append_eq_nil_iff] at h2
      exact (textP_no (hm p (by simp))).2 h2.1
    exact readPass_ok hne (by rw [List.map_cons, hp, ← List.map_cons]; exact reads_texts (p :: l) hm) hc
theorem pass_apart {l m : List (ByteArray × Int)} (hl : (passesF l).2 = 0) (hm : (passesF m).2 = 0) : ((passesF l).1.toList == (passesF m).1.toList) = decide (l = m) := by
  rw [Bool.eq_iff_iff, beq_iff_eq, decide_eq_true_eq]
  constructor
  · intro h
    have e := bytes_ext h
    have h1 := passes_back hl
    have h2 := passes_back hm
    rw [e, h2] at h1
    exact (Prod.mk.inj h1).1.symm
  · rintro rfl; rfl
theorem engineF_zero {x : Eng} (h : (engineF x).2 = 0) : engP x ∧ engineF x = (engT x, 0) := by
  by_cases hz : engE x = 0
  · exact ⟨engE_zero hz, engineF_ok hz⟩
  · rw [engineF_bad hz] at h; exact absurd h hz
theorem eng_apart {x y : Eng} (hx : (engineF x).2 = 0) (hy : (engineF y).2 = 0) : (engineF x).1.toList = (engineF y).1.toList ↔ x = y := by
  obtain ⟨px, ex⟩ := engineF_zero hx
  obtain ⟨py, ey⟩ := engineF_zero hy
  rw [ex, ey]
  constructor
  · intro h
    have e : engT x = engT y := bytes_ext h
    rw [← engF_back px, ← engF_back py, e]
  · rintro rfl; rfl
theorem ver_apart {v u : Ver} (hv : (verdictF v).2 = 0) (hu : (verdictF u).2 = 0) : ((verdictF v).1.toList == (verdictF u).1.toList) = sameV v u := by
  rw [Bool.eq_iff_iff, beq_iff_eq]
  constructor
  · intro h
    have h1 := (readV_of (s := (verdictF u).1) ⟨hv, h⟩).1
    have h2 := (readV_of (s := (verdictF u).1) ⟨hu, rfl⟩).1
    rw [h1] at h2
    rw [(Prod.mk.inj h2).1]
    exact sameV_refl u
  · intro h; rw [ver_ext h]
def linesN (v : Ver) : Int := if v.kind = 2 then (v.inputs.length : Int) + 2 else if v.kind = 1 then (v.ands.length : Int) + 4 else 1
theorem told_lines (v : Ver) : ((toldF v).length : Int) = linesN v := by
  unfold toldF linesN
  split
  · have := toldU_len (v := v) (i := v.inputs.length) (by omega) (by omega)
    rw [Int.toNat_natCast] at this
    rw [this]; omega
  · split
    · have := toldS_len (v := v) (i := v.ands.length) (by omega) (by omega)
      rw [Int.toNat_natCast] at this
      rw [List.length_append, this]; simp; omega
    · rfl
theorem lines_count {v : Ver} (hv : (verdictF v).2 = 0) : ((splitR (verdictF v).1 10).length : Int) = linesN v := by
  obtain ⟨_, hs, _, _⟩ := verdict_say (s := (verdictF v).1) ⟨hv, rfl⟩
  rw [hs, splitR_joined (toldF v) told_no10, told_lines]
theorem verdictF_size (v : Ver) : (verdictF v).1.size ≤ 40000 := by
  unfold verdictF
  split
  · show 0 ≤ 40000; omega
  · split
    · show 0 ≤ 40000; omega
    · rw [bOf_size]; omega
theorem alive_ok : aliveLF = true := by
  have hm : mayF runV = true := by decide
  have hl : verdictL runV = [85, 78, 83, 65, 70, 69, 10, 102, 105, 114, 115, 116, 32, 49, 48, 10, 105, 110, 32, 45, 10] := by decide +kernel
  have hv : verdictF runV = (⟨#[85, 78, 83, 65, 70, 69, 10, 102, 105, 114, 115, 116, 32, 49, 48, 10, 105, 110, 32, 45, 10]⟩, 0) := by
    unfold verdictF
    rw [if_neg (by rw [hm]; simp), hl, if_neg (by decide)]
    rfl
  have hr := (readV_of (v := runV) (s := ⟨#[85, 78, 83, 65, 70, 69, 10, 102, 105, 114, 115, 116, 32, 49, 48, 10, 105, 110, 32, 45, 10]⟩) ⟨by rw [hv], by rw [hv]⟩).1
  have hc : checksF listV = 0 := by
    have h0 : checkF nm0 0 = 0 := by rw [check_eq, refCheckG_eq]; decide
    have h1 : checkF nPrefix 2 = 0 := by rw [check_eq, refCheckG_eq]; decide
    rw [checks_eq]
    show checksR [(nm0, 0), (nPrefix, 2)] = 0
    rw [← checks_eq]
    unfold checksF firstE firstE firstE
    rw [h0, h1]; rfl
  have hp : passesF listV = (⟨#[104, 97, 115, 104, 44, 112, 114, 101, 102, 105, 120, 58, 50]⟩, 0) := by
    rw [← passes_eq]
    unfold passesR
    rw [if_neg (by rw [← checks_eq, hc]; simp)]
    decide +kernel
  have hq := passes_back (l := listV) (by rw [hp])
  rw [hp] at hq
  unfold aliveLF saysVF saysPF
  rw [hv, hr, hp, hq, sameV_refl]
  simp
theorem alive_true_call (gw : World) (hg : Glob gw) : VCall Tryd.prog gw gw.heap.size 29 [] (.one (.c (.bool true))) [] := by
  have := aliveL_call gw hg
  rwa [alive_ok] at this
theorem wrap_small {n k : Int} (h0 : 0 ≤ n) (h1 : n ≤ 1000000) (hk0 : 1 ≤ k) (hk : k ≤ 100) : IntKind.wrap .i64 (n + k) = n + k := by
  have h := wrap_next (i := n + k - 1) (n := n + k) (by omega) (by omega) (by omega)
  rwa [show n + k - 1 + 1 = n + k by omega] at h
theorem count_two {v : Ver} (hf : Fit v) (hv : (verdictF v).2 = 0) (hk : v.kind = 2) : ((splitR (verdictF v).1 10).length : Int) = IntKind.wrap .i64 ((v.inputs.length : Int) + 2) := by
  have h := hf.inputs
  rw [lines_count hv, linesN, if_pos hk, wrap_small (by omega) (by omega) (by omega) (by omega)]
theorem count_one {v : Ver} (hf : Fit v) (hv : (verdictF v).2 = 0) (hk : ¬ v.kind = 2) (hk1 : v.kind = 1) : ((splitR (verdictF v).1 10).length : Int) = IntKind.wrap .i64 ((v.ands.length : Int) + 4) := by
  have h := hf.ands
  rw [lines_count hv, linesN, if_neg hk, if_pos hk1, wrap_small (by omega) (by omega) (by omega) (by omega)]
theorem count_no {v : Ver} (hv : (verdictF v).2 = 0) (hk : ¬ v.kind = 2) (hk1 : ¬ v.kind = 1) : ((splitR (verdictF v).1 10).length : Int) = 1 := by
  rw [lines_count hv, linesN, if_neg hk, if_neg hk1]
theorem apart_end (l m : List (ByteArray × Int)) (x y : Eng) : (((passesF l).2 != 0 || (passesF m).2 != 0 || ((passesF l).1.toList == (passesF m).1.toList) == decide (l = m)) && ((engineF x).2 != 0 || (engineF y).2 != 0 || ((engineF x).1.toList == (engineF y).1.toList) == (x.pdr == y.pdr && (x.num == y.num && x.bud == y.bud)))) = true := by
  rw [Bool.and_eq_true]
  constructor
  · by_cases h1 : (passesF l).2 = 0
    · by_cases h2 : (passesF m).2 = 0
      · rw [pass_apart h1 h2]; simp
      · simp [h2]
    · simp [h1]
  · by_cases h1 : (engineF x).2 = 0
    · by_cases h2 : (engineF y).2 = 0
      · have e := eng_apart h1 h2
        have e2 : (x.pdr == y.pdr && (x.num == y.num && x.bud == y.bud)) = true ↔ x = y := by
          obtain ⟨⟩ := x; obtain ⟨⟩ := y
          simp
        have e3 : ((engineF x).1.toList == (engineF y).1.toList) = (x.pdr == y.pdr && (x.num == y.num && x.bud == y.bud)) := by
          rw [Bool.eq_iff_iff, beq_iff_eq, e, e2]
        rw [e3]; simp
      · simp [h2]
    · simp [h1]
end Go.Vm
end

section
namespace Go.Vm
open Go Go.RowKit Go.Proofs
set_option maxRecDepth 100000
set_option linter.unusedSimpArgs false
set_option linter.unusedVariables false
set_option maxHeartbeats 4000000
theorem linesApart_call (gw : World) (hg : Glob gw) (v u : Ver) (l m : List (ByteArray × Int)) (x y : Eng) : VCall Tryd.prog gw (gw.heap.size) 7 [.agg (v.pcs false), .agg (u.pcs false), .one (.sl false l.length (l.flatMap fun p => [.c (.string p.1), .c (.int .i64 p.2)])), .one (.sl false m.length (m.flatMap fun p => [.c (.string p.1), .c (.int .i64 p.2)])), .agg x.pcs, .agg y.pcs] (.one (.c (.bool true))) [] := by
  refine vcall_of [.tmp 12] Tryd.func7 rfl rfl Tryd.ntmps7 rfl (by simp) ?_
  intro C hP hnt hgw hgb hfull
  refine vwp_seq_region rfl fun K hK => ?_
  simp (dsimp := false) only [push_cast, hP, hnt, hgw, hgb, sevalprocAttr, String.reduceEq]
  refine hK _ ?_; clear hK
  refine vwp_seq_region rfl fun K hK => ?_
  simp (dsimp := false) only [push_cast, hP, hnt, hgw, hgb, sevalprocAttr, String.reduceEq]
  refine .inl (callE_intro (alive_true_call gw hg) (.inl ⟨rfl, rfl⟩) ?_)
  simp (dsimp := false) only [push_cast, hP, hnt, hgw, hgb, sevalprocAttr, String.reduceEq]
  refine hK _ ?_; clear hK
  refine vwp_seq fun K hK => ?_
  refine vwp_seq_regionG fun K hK => ?_
  simp (dsimp := false) only [push_cast, hP, hnt, hgw, hgb, sevalprocAttr, String.reduceEq]
  refine .inl (callE_intro (great_call gw gw.heap.size v) (.inl ⟨rfl, rfl⟩) ?_)
  simp (dsimp := false) only [push_cast, hP, hnt, hgw, hgb, sevalprocAttr, String.reduceEq]
  refine guardR_may (by simp (dsimp := false) only [push_cast, hP, hnt, hgw, hgb, sevalprocAttr, String.reduceEq, List.getElem?_cons_zero, List.getElem?_cons_succ]; rfl) ?_
  simp (dsimp := false) only [push_cast, hP, hnt, hgw, hgb, sevalprocAttr, String.reduceEq]
  refine guardR_may (by simp (dsimp := false) only [push_cast, hP, hnt, hgw, hgb, sevalprocAttr, String.reduceEq, List.getElem?_cons_zero, List.getElem?_cons_succ]; rfl) ?_
  simp (dsimp := false) only [push_cast, hP, hnt, hgw, hgb, sevalprocAttr, String.reduceEq]
  refine callE_intro (great_call gw gw.heap.size u) (.inl ⟨rfl, rfl⟩) ?_
  refine ⟨rfl, ?_⟩
  simp (dsimp := false) only [push_cast, hP, hnt, hgw, hgb, sevalprocAttr, String.reduceEq]
  refine guardR_may (by simp (dsimp := false) only [push_cast, hP, hnt, hgw, hgb, sevalprocAttr, String.reduceEq, List.getElem?_cons_zero, List.getElem?_cons_succ]; rfl) ?_
  simp (dsimp := false) only [push_cast, hP, hnt, hgw, hgb, sevalprocAttr, String.reduceEq]
  refine guardR_may (by simp (dsimp := false) only [push_cast, hP, hnt, hgw, hgb, sevalprocAttr, String.reduceEq, List.getElem?_cons_zero, List.getElem?_cons_succ]; rfl) ?_
  simp (dsimp := false) only [push_cast, hP, hnt, hgw, hgb, sevalprocAttr, String.reduceEq]
  refine guardR_may (by simp (dsimp := false) only [push_cast, hP, hnt, hgw, hgb, sevalprocAttr, String.reduceEq, List.getElem?_cons_zero, List.getElem?_cons_succ]; rfl) ?_
  simp (dsimp := false) only [push_cast, hP, hnt, hgw, hgb, sevalprocAttr, String.reduceEq]
  refine guardR_may (by simp (dsimp := false) only [push_cast, hP, hnt, hgw, hgb, sevalprocAttr, String.reduceEq, List.getElem?_cons_zero, List.getElem?_cons_succ]; rfl) ?_
  simp (dsimp := false) only [push_cast, hP, hnt, hgw, hgb, sevalprocAttr, String.reduceEq]
  refine guardR_may (by simp (dsimp := false) only [push_cast, hP, hnt, hgw, hgb, sevalprocAttr, String.reduceEq, List.getElem?_cons_zero, List.getElem?_cons_succ]; rfl) ?_
  simp (dsimp := false) only [push_cast, hP, hnt, hgw, hgb, sevalprocAttr, String.reduceEq]
  refine guardR_may (by simp (dsimp := false) only [push_cast, hP, hnt, hgw, hgb, sevalprocAttr, String.reduceEq, List.getElem?_cons_zero, List.getElem?_cons_succ]; rfl) ?_
  simp (dsimp := false) only [push_cast, hP, hnt, hgw, hgb, sevalprocAttr, String.reduceEq]
  refine guardR_may (by simp (dsimp := false) only [push_cast, hP, hnt, hgw, hgb, sevalprocAttr, String.reduceEq, List.getElem?_cons_zero, List.getElem?_cons_succ]; rfl) ?_
  simp (dsimp := false) only [push_cast, hP, hnt, hgw, hgb, sevalprocAttr, String.reduceEq]
  refine guardR_may (by simp (dsimp := false) only [push_cast, hP, hnt, hgw, hgb, sevalprocAttr, String.reduceEq, List.getElem?_cons_zero, List.getElem?_cons_succ]; rfl) ?_
  simp (dsimp := false) only [push_cast, hP, hnt, hgw, hgb, sevalprocAttr, String.reduceEq]
  refine hK _ ?_; clear hK
  refine vwp_cond (b := _) (by simp (dsimp := false) only [push_cast, hP, hnt, hgw, hgb, sevalprocAttr, String.reduceEq]; rfl) (fun rb0 => ?_) (fun rb0 => ?_)
  · have hb0 := rb0
    try simp only [beq_iff_eq, bne_iff_ne, ne_eq, bne_eq_false_iff_eq, beq_eq_false_iff_ne, decide_eq_true_eq, decide_eq_false_iff_not, Bool.not_eq_true', Bool.not_eq_false', Bool.or_eq_true, Bool.and_eq_true, Bool.or_eq_false_iff, Bool.and_eq_false_iff] at hb0
    refine vwp_seq_region rfl fun K hK => ?_
    simp (dsimp := false) only [push_cast, hP, hnt, hgw, hgb, sevalprocAttr, String.reduceEq]
    refine hK _ ?_; clear hK
    refine vwp_ret ?_
    refine ret_free (by simp (dsimp := false) only [push_cast, hP, hnt, hgw, hgb, sevalprocAttr, String.reduceEq]; rfl) (by simp (dsimp := false) only [push_cast, hP, hnt, hgw, hgb, sevalprocAttr, String.reduceEq]) ?_
    rfl
  · have hb0 := rb0
    try simp only [beq_iff_eq, bne_iff_ne, ne_eq, bne_eq_false_iff_eq, beq_eq_false_iff_ne, decide_eq_true_eq, decide_eq_false_iff_not, Bool.not_eq_true', Bool.not_eq_false', Bool.or_eq_true, Bool.and_eq_true, Bool.or_eq_false_iff, Bool.and_eq_false_iff] at hb0
    have hfv : Fit v := fit_of (by simp_all)
    have hfu : Fit u := fit_of (by simp_all)
    have hll : (l.length : Int) ≤ 12 := by omega
    have hlm : (m.length : Int) ≤ 12 := by omega
    refine vwp_skip ?_
    apply_assumption
    refine vwp_seq_region rfl fun K hK => ?_
    simp (dsimp := false) only [push_cast, hP, hnt, hgw, hgb, sevalprocAttr, String.reduceEq]
    refine .inl (callE_intro (verdict_call gw hg v hfv) (.inl ⟨rfl, rfl⟩) ?_)
    simp (dsimp := false) only [push_cast, hP, hnt, hgw, hgb, sevalprocAttr, String.reduceEq]
    refine hK _ ?_; clear hK
    refine vwp_seq_region rfl fun K hK => ?_
    simp (dsimp := false) only [push_cast, hP, hnt, hgw, hgb, sevalprocAttr, String.reduceEq]
    refine .inl (callE_intro (verdict_call gw hg u hfu) (.inl ⟨rfl, rfl⟩) ?_)
    simp (dsimp := false) only [push_cast, hP, hnt, hgw, hgb, sevalprocAttr, String.reduceEq]
    refine hK _ ?_; clear hK
    refine vwp_seq fun K hK => ?_
    refine vwp_seq_regionG fun K hK => ?_
    simp (dsimp := false) only [push_cast, hP, hnt, hgw, hgb, sevalprocAttr, String.reduceEq]
    refine guardR_may (by simp (dsimp := false) only [push_cast, hP, hnt, hgw, hgb, sevalprocAttr, String.reduceEq, List.getElem?_cons_zero, List.getElem?_cons_succ]; rfl) ?_
    simp (dsimp := false) only [push_cast, hP, hnt, hgw, hgb, sevalprocAttr, String.reduceEq]
    refine guardR_may (by simp (dsimp := false) only [push_cast, hP, hnt, hgw, hgb, sevalprocAttr, String.reduceEq, List.getElem?_cons_zero, List.getElem?_cons_succ]; rfl) ?_
    simp (dsimp := false) only [push_cast, hP, hnt, hgw, hgb, sevalprocAttr, String.reduceEq]
    refine guardR_may (by simp (dsimp := false) only [push_cast, hP, hnt, hgw, hgb, sevalprocAttr, String.reduceEq, List.getElem?_cons_zero, List.getElem?_cons_succ]; rfl) ?_
    simp (dsimp := false) only [push_cast, hP, hnt, hgw, hgb, sevalprocAttr, String.reduceEq]
    refine guardR_may (by simp (dsimp := false) only [push_cast, hP, hnt, hgw, hgb, sevalprocAttr, String.reduceEq, List.getElem?_cons_zero, List.getElem?_cons_succ]; rfl) ?_
    simp (dsimp := false) only [push_cast, hP, hnt, hgw, hgb, sevalprocAttr, String.reduceEq]
    refine guardR_may (by simp (dsimp := false) only [push_cast, hP, hnt, hgw, hgb, sevalprocAttr, String.reduceEq, List.getElem?_cons_zero, List.getElem?_cons_succ]; rfl) ?_
    simp (dsimp := false) only [push_cast, hP, hnt, hgw, hgb, sevalprocAttr, String.reduceEq]
    refine guardR_may (by simp (dsimp := false) only [push_cast, hP, hnt, hgw, hgb, sevalprocAttr, String.reduceEq, List.getElem?_cons_zero, List.getElem?_cons_succ]; rfl) ?_
    simp (dsimp := false) only [push_cast, hP, hnt, hgw, hgb, sevalprocAttr, String.reduceEq]
    refine guardR_may (by simp (dsimp := false) only [push_cast, hP, hnt, hgw, hgb, sevalprocAttr, String.reduceEq, List.getElem?_cons_zero, List.getElem?_cons_succ]; rfl) ?_
    simp (dsimp := false) only [push_cast, hP, hnt, hgw, hgb, sevalprocAttr, String.reduceEq]
    refine guardR_may (by simp (dsimp := false) only [push_cast, hP, hnt, hgw, hgb, sevalprocAttr, String.reduceEq, List.getElem?_cons_zero, List.getElem?_cons_succ]; rfl) ?_
    simp (dsimp := false) only [push_cast, hP, hnt, hgw, hgb, sevalprocAttr, String.reduceEq]
    refine callE_intro (same42_call gw gw.heap.size v u hfv) (.inl ⟨rfl, rfl⟩) ?_
    refine ⟨rfl, ?_⟩
    simp (dsimp := false) only [push_cast, hP, hnt, hgw, hgb, sevalprocAttr, String.reduceEq]
    refine guardR_may (by simp (dsimp := false) only [push_cast, hP, hnt, hgw, hgb, sevalprocAttr, String.reduceEq, List.getElem?_cons_zero, List.getElem?_cons_succ]; rfl) ?_
    simp (dsimp := false) only [push_cast, hP, hnt, hgw, hgb, sevalprocAttr, String.reduceEq]
    refine hK _ ?_; clear hK
    refine vwp_cond (b := _) (by simp (dsimp := false) only [push_cast, hP, hnt, hgw, hgb, sevalprocAttr, String.reduceEq]; rfl) (fun rb1 => ?_) (fun rb1 => ?_)
    · have hb1 := rb1
      try simp only [beq_iff_eq, bne_iff_ne, ne_eq, bne_eq_false_iff_eq, beq_eq_false_iff_ne, decide_eq_true_eq, decide_eq_false_iff_not, Bool.not_eq_true', Bool.not_eq_false', Bool.or_eq_true, Bool.and_eq_true, Bool.or_eq_false_iff, Bool.and_eq_false_iff] at hb1
      refine vwp_seq_region rfl fun K hK => ?_
      simp (dsimp := false) only [push_cast, hP, hnt, hgw, hgb, sevalprocAttr, String.reduceEq]
      refine hK _ ?_; clear hK
      refine vwp_ret ?_
      refine ret_free (by simp (dsimp := false) only [push_cast, hP, hnt, hgw, hgb, sevalprocAttr, String.reduceEq]; rfl) (by simp (dsimp := false) only [push_cast, hP, hnt, hgw, hgb, sevalprocAttr, String.reduceEq]) ?_
      exfalso; have h := rb1; simp only [Bool.and_eq_true, beq_iff_eq] at h; have e := ver_apart h.1.1 h.1.2; simp_all
    · have hb1 := rb1
      try simp only [beq_iff_eq, bne_iff_ne, ne_eq, bne_eq_false_iff_eq, beq_eq_false_iff_ne, decide_eq_true_eq, decide_eq_false_iff_not, Bool.not_eq_true', Bool.not_eq_false', Bool.or_eq_true, Bool.and_eq_true, Bool.or_eq_false_iff, Bool.and_eq_false_iff] at hb1
      refine vwp_skip ?_
      apply_assumption
      refine vwp_seq_region rfl fun K hK => ?_
      simp (dsimp := false) only [push_cast, hP, hnt, hgw, hgb, sevalprocAttr, String.reduceEq]
      refine hK _ ?_; clear hK
      refine vwp_seq fun K hK => ?_
      refine vwp_seq_region rfl fun K hK => ?_
      simp (dsimp := false) only [push_cast, hP, hnt, hgw, hgb, sevalprocAttr, String.reduceEq]
      refine hK _ ?_; clear hK
      refine vwp_block ?_
      refine vwp_seq_region rfl fun K hK => ?_
      simp (dsimp := false) only [push_cast, hP, hnt, hgw, hgb, sevalprocAttr, String.reduceEq]
      refine hK _ ?_; clear hK
      refine vwp_cond (b := _) (by simp (dsimp := false) only [push_cast, hP, hnt, hgw, hgb, sevalprocAttr, String.reduceEq]; rfl) (fun rb2 => ?_) (fun rb2 => ?_)
      · have hb2 := rb2
        try simp only [beq_iff_eq, bne_iff_ne, ne_eq, bne_eq_false_iff_eq, beq_eq_false_iff_ne, decide_eq_true_eq, decide_eq_false_iff_not, Bool.not_eq_true', Bool.not_eq_false', Bool.or_eq_true, Bool.and_eq_true, Bool.or_eq_false_iff, Bool.and_eq_false_iff] at hb2
        refine vwp_region rfl ?_
        simp (dsimp := false) only [push_cast, hP, hnt, hgw, hgb, sevalprocAttr, String.reduceEq]
        apply_assumption
        refine vwp_seq fun K hK => ?_
        refine vwp_seq_regionG fun K hK => ?_
        simp (dsimp := false) only [push_cast, hP, hnt, hgw, hgb, sevalprocAttr, String.reduceEq]
        refine guardR_may (by simp (dsimp := false) only [push_cast, hP, hnt, hgw, hgb, sevalprocAttr, String.reduceEq, List.getElem?_cons_zero, List.getElem?_cons_succ]; rfl) ?_
        simp (dsimp := false) only [push_cast, hP, hnt, hgw, hgb, sevalprocAttr, String.reduceEq]
        refine guardR_may (by simp (dsimp := false) only [push_cast, hP, hnt, hgw, hgb, sevalprocAttr, String.reduceEq, List.getElem?_cons_zero, List.getElem?_cons_succ]; rfl) ?_
        simp (dsimp := false) only [push_cast, hP, hnt, hgw, hgb, sevalprocAttr, String.reduceEq]
        refine callE_intro (split10_call gw gw.heap.size (verdictF v).1 (by have := verdictF_size v; omega)) (.inl ⟨by simp only [push_cast], rfl⟩) ?_
        refine ⟨rfl, ?_⟩
        simp (dsimp := false) only [push_cast, hP, hnt, hgw, hgb, sevalprocAttr, String.reduceEq]
        refine guardR_may (by simp (dsimp := false) only [push_cast, hP, hnt, hgw, hgb, sevalprocAttr, String.reduceEq, List.getElem?_cons_zero, List.getElem?_cons_succ]; rfl) ?_
        simp (dsimp := false) only [push_cast, hP, hnt, hgw, hgb, sevalprocAttr, String.reduceEq]
        refine guardR_may (by simp (dsimp := false) only [push_cast, hP, hnt, hgw, hgb, sevalprocAttr, String.reduceEq, List.getElem?_cons_zero, List.getElem?_cons_succ]; rfl) ?_
        simp (dsimp := false) only [push_cast, hP, hnt, hgw, hgb, sevalprocAttr, String.reduceEq]
        refine guardR_may (by simp (dsimp := false) only [push_cast, hP, hnt, hgw, hgb, sevalprocAttr, String.reduceEq, List.getElem?_cons_zero, List.getElem?_cons_succ]; rfl) ?_
        simp (dsimp := false) only [push_cast, hP, hnt, hgw, hgb, sevalprocAttr, String.reduceEq]
        refine hK _ ?_; clear hK
        refine vwp_cond (b := _) (by simp (dsimp := false) only [push_cast, hP, hnt, hgw, hgb, sevalprocAttr, String.reduceEq]; rfl) (fun rb3 => ?_) (fun rb3 => ?_)
        · have hb3 := rb3
          try simp only [beq_iff_eq, bne_iff_ne, ne_eq, bne_eq_false_iff_eq, beq_eq_false_iff_ne, decide_eq_true_eq, decide_eq_false_iff_not, Bool.not_eq_true', Bool.not_eq_false', Bool.or_eq_true, Bool.and_eq_true, Bool.or_eq_false_iff, Bool.and_eq_false_iff] at hb3
          refine vwp_seq_region rfl fun K hK => ?_
          simp (dsimp := false) only [push_cast, hP, hnt, hgw, hgb, sevalprocAttr, String.reduceEq]
          refine hK _ ?_; clear hK
          refine vwp_ret ?_
          refine ret_free (by simp (dsimp := false) only [push_cast, hP, hnt, hgw, hgb, sevalprocAttr, String.reduceEq]; rfl) (by simp (dsimp := false) only [push_cast, hP, hnt, hgw, hgb, sevalprocAttr, String.reduceEq]) ?_
          exfalso; exact hb3.2 (count_two hfv hb3.1 hb2)
        · have hb3 := rb3
          try simp only [beq_iff_eq, bne_iff_ne, ne_eq, bne_eq_false_iff_eq, beq_eq_false_iff_ne, decide_eq_true_eq, decide_eq_false_iff_not, Bool.not_eq_true', Bool.not_eq_false', Bool.or_eq_true, Bool.and_eq_true, Bool.or_eq_false_iff, Bool.and_eq_false_iff] at hb3
          refine vwp_skip ?_
          apply_assumption
          refine vwp_seq_region rfl fun K hK => ?_
          simp (dsimp := false) only [push_cast, hP, hnt, hgw, hgb, sevalprocAttr, String.reduceEq]
          refine .inl (callE_intro (passes_call gw gw.heap.size l (by omega)) (.inl ⟨rfl, rfl⟩) ?_)
          simp (dsimp := false) only [push_cast, hP, hnt, hgw, hgb, sevalprocAttr, String.reduceEq]
          refine hK _ ?_; clear hK
          refine vwp_seq_region rfl fun K hK => ?_
          simp (dsimp := false) only [push_cast, hP, hnt, hgw, hgb, sevalprocAttr, String.reduceEq]
          refine .inl (callE_intro (passes_call gw gw.heap.size m (by omega)) (.inl ⟨rfl, rfl⟩) ?_)
          simp (dsimp := false) only [push_cast, hP, hnt, hgw, hgb, sevalprocAttr, String.reduceEq]
          refine hK _ ?_; clear hK
          refine vwp_seq_region rfl fun K hK => ?_
          simp (dsimp := false) only [push_cast, hP, hnt, hgw, hgb, sevalprocAttr, String.reduceEq]
          refine .inl (callE_intro (engineText_call gw hg x) (.inl ⟨rfl, rfl⟩) ?_)
          simp (dsimp := false) only [push_cast, hP, hnt, hgw, hgb, sevalprocAttr, String.reduceEq]
          refine hK _ ?_; clear hK
          refine vwp_seq_region rfl fun K hK => ?_
          simp (dsimp := false) only [push_cast, hP, hnt, hgw, hgb, sevalprocAttr, String.reduceEq]
          refine .inl (callE_intro (engineText_call gw hg y) (.inl ⟨rfl, rfl⟩) ?_)
          simp (dsimp := false) only [push_cast, hP, hnt, hgw, hgb, sevalprocAttr, String.reduceEq]
          refine hK _ ?_; clear hK
          refine vwp_seq_regionG fun K hK => ?_
          simp (dsimp := false) only [push_cast, hP, hnt, hgw, hgb, sevalprocAttr, String.reduceEq]
          refine guardR_may (by simp (dsimp := false) only [push_cast, hP, hnt, hgw, hgb, sevalprocAttr, String.reduceEq, List.getElem?_cons_zero, List.getElem?_cons_succ]; rfl) ?_
          simp (dsimp := false) only [push_cast, hP, hnt, hgw, hgb, sevalprocAttr, String.reduceEq]
          refine guardR_may (by simp (dsimp := false) only [push_cast, hP, hnt, hgw, hgb, sevalprocAttr, String.reduceEq, List.getElem?_cons_zero, List.getElem?_cons_succ]; rfl) ?_
          simp (dsimp := false) only [push_cast, hP, hnt, hgw, hgb, sevalprocAttr, String.reduceEq]
          refine guardR_may (by simp (dsimp := false) only [push_cast, hP, hnt, hgw, hgb, sevalprocAttr, String.reduceEq, List.getElem?_cons_zero, List.getElem?_cons_succ]; rfl) ?_
          simp (dsimp := false) only [push_cast, hP, hnt, hgw, hgb, sevalprocAttr, String.reduceEq]
          refine guardR_may (by simp (dsimp := false) only [push_cast, hP, hnt, hgw, hgb, sevalprocAttr, String.reduceEq, List.getElem?_cons_zero, List.getElem?_cons_succ]; rfl) ?_
          simp (dsimp := false) only [push_cast, hP, hnt, hgw, hgb, sevalprocAttr, String.reduceEq]
          refine guardR_may (by simp (dsimp := false) only [push_cast, hP, hnt, hgw, hgb, sevalprocAttr, String.reduceEq, List.getElem?_cons_zero, List.getElem?_cons_succ]; rfl) ?_
          simp (dsimp := false) only [push_cast, hP, hnt, hgw, hgb, sevalprocAttr, String.reduceEq]
          refine guardR_may (by simp (dsimp := false) only [push_cast, hP, hnt, hgw, hgb, sevalprocAttr, String.reduceEq, List.getElem?_cons_zero, List.getElem?_cons_succ]; rfl) ?_
          simp (dsimp := false) only [push_cast, hP, hnt, hgw, hgb, sevalprocAttr, String.reduceEq]
          refine guardR_may (by simp (dsimp := false) only [push_cast, hP, hnt, hgw, hgb, sevalprocAttr, String.reduceEq, List.getElem?_cons_zero, List.getElem?_cons_succ]; rfl) ?_
          simp (dsimp := false) only [push_cast, hP, hnt, hgw, hgb, sevalprocAttr, String.reduceEq]
          refine guardR_may (by simp (dsimp := false) only [push_cast, hP, hnt, hgw, hgb, sevalprocAttr, String.reduceEq, List.getElem?_cons_zero, List.getElem?_cons_succ]; rfl) ?_
          simp (dsimp := false) only [push_cast, hP, hnt, hgw, hgb, sevalprocAttr, String.reduceEq]
          refine guardR_may (by simp (dsimp := false) only [push_cast, hP, hnt, hgw, hgb, sevalprocAttr, String.reduceEq, List.getElem?_cons_zero, List.getElem?_cons_succ]; rfl) ?_
          simp (dsimp := false) only [push_cast, hP, hnt, hgw, hgb, sevalprocAttr, String.reduceEq]
          refine guardR_may (by simp (dsimp := false) only [push_cast, hP, hnt, hgw, hgb, sevalprocAttr, String.reduceEq, List.getElem?_cons_zero, List.getElem?_cons_succ]; rfl) ?_
          simp (dsimp := false) only [push_cast, hP, hnt, hgw, hgb, sevalprocAttr, String.reduceEq]
          refine guardR_may (by simp (dsimp := false) only [push_cast, hP, hnt, hgw, hgb, sevalprocAttr, String.reduceEq, List.getElem?_cons_zero, List.getElem?_cons_succ]; rfl) ?_
          simp (dsimp := false) only [push_cast, hP, hnt, hgw, hgb, sevalprocAttr, String.reduceEq]
          refine guardR_may (by simp (dsimp := false) only [push_cast, hP, hnt, hgw, hgb, sevalprocAttr, String.reduceEq, List.getElem?_cons_zero, List.getElem?_cons_succ]; rfl) ?_
          simp (dsimp := false) only [push_cast, hP, hnt, hgw, hgb, sevalprocAttr, String.reduceEq]
          refine guardR_may (by simp (dsimp := false) only [push_cast, hP, hnt, hgw, hgb, sevalprocAttr, String.reduceEq, List.getElem?_cons_zero, List.getElem?_cons_succ]; rfl) ?_
          simp (dsimp := false) only [push_cast, hP, hnt, hgw, hgb, sevalprocAttr, String.reduceEq]
          refine callE_intro (samePasses_call gw gw.heap.size l m (by omega)) (.inl ⟨rfl, rfl⟩) ?_
          refine ⟨rfl, ?_⟩
          simp (dsimp := false) only [push_cast, hP, hnt, hgw, hgb, sevalprocAttr, String.reduceEq]
          refine guardR_may (by simp (dsimp := false) only [push_cast, hP, hnt, hgw, hgb, sevalprocAttr, String.reduceEq, List.getElem?_cons_zero, List.getElem?_cons_succ]; rfl) ?_
          simp (dsimp := false) only [push_cast, hP, hnt, hgw, hgb, sevalprocAttr, String.reduceEq]
          refine guardR_may (by simp (dsimp := false) only [push_cast, hP, hnt, hgw, hgb, sevalprocAttr, String.reduceEq, List.getElem?_cons_zero, List.getElem?_cons_succ]; rfl) ?_
          simp (dsimp := false) only [push_cast, hP, hnt, hgw, hgb, sevalprocAttr, String.reduceEq]
          refine guardR_may (by simp (dsimp := false) only [push_cast, hP, hnt, hgw, hgb, sevalprocAttr, String.reduceEq, List.getElem?_cons_zero, List.getElem?_cons_succ]; rfl) ?_
          simp (dsimp := false) only [push_cast, hP, hnt, hgw, hgb, sevalprocAttr, String.reduceEq]
          refine guardR_may (by simp (dsimp := false) only [push_cast, hP, hnt, hgw, hgb, sevalprocAttr, String.reduceEq, List.getElem?_cons_zero, List.getElem?_cons_succ]; rfl) ?_
          simp (dsimp := false) only [push_cast, hP, hnt, hgw, hgb, sevalprocAttr, String.reduceEq]
          refine guardR_may (by simp (dsimp := false) only [push_cast, hP, hnt, hgw, hgb, sevalprocAttr, String.reduceEq, List.getElem?_cons_zero, List.getElem?_cons_succ]; rfl) ?_
          simp (dsimp := false) only [push_cast, hP, hnt, hgw, hgb, sevalprocAttr, String.reduceEq]
          refine guardR_may (by simp (dsimp := false) only [push_cast, hP, hnt, hgw, hgb, sevalprocAttr, String.reduceEq, List.getElem?_cons_zero, List.getElem?_cons_succ]; rfl) ?_
          simp (dsimp := false) only [push_cast, hP, hnt, hgw, hgb, sevalprocAttr, String.reduceEq]
          refine guardR_may (by simp (dsimp := false) only [push_cast, hP, hnt, hgw, hgb, sevalprocAttr, String.reduceEq, List.getElem?_cons_zero, List.getElem?_cons_succ]; rfl) ?_
          simp (dsimp := false) only [push_cast, hP, hnt, hgw, hgb, sevalprocAttr, String.reduceEq]
          refine guardR_may (by simp (dsimp := false) only [push_cast, hP, hnt, hgw, hgb, sevalprocAttr, String.reduceEq, List.getElem?_cons_zero, List.getElem?_cons_succ]; rfl) ?_
          simp (dsimp := false) only [push_cast, hP, hnt, hgw, hgb, sevalprocAttr, String.reduceEq]
          refine guardR_may (by simp (dsimp := false) only [push_cast, hP, hnt, hgw, hgb, sevalprocAttr, String.reduceEq, List.getElem?_cons_zero, List.getElem?_cons_succ]; rfl) ?_
          simp (dsimp := false) only [push_cast, hP, hnt, hgw, hgb, sevalprocAttr, String.reduceEq]
          refine guardR_may (by simp (dsimp := false) only [push_cast, hP, hnt, hgw, hgb, sevalprocAttr, String.reduceEq, List.getElem?_cons_zero, List.getElem?_cons_succ]; rfl) ?_
          simp (dsimp := false) only [push_cast, hP, hnt, hgw, hgb, sevalprocAttr, String.reduceEq]
          refine guardR_may (by simp (dsimp := false) only [push_cast, hP, hnt, hgw, hgb, sevalprocAttr, String.reduceEq, List.getElem?_cons_zero, List.getElem?_cons_succ]; rfl) ?_
          simp (dsimp := false) only [push_cast, hP, hnt, hgw, hgb, sevalprocAttr, String.reduceEq]
          refine guardR_may (by simp (dsimp := false) only [push_cast, hP, hnt, hgw, hgb, sevalprocAttr, String.reduceEq, List.getElem?_cons_zero, List.getElem?_cons_succ]; rfl) ?_
          simp (dsimp := false) only [push_cast, hP, hnt, hgw, hgb, sevalprocAttr, String.reduceEq]
          refine guardR_may (by simp (dsimp := false) only [push_cast, hP, hnt, hgw, hgb, sevalprocAttr, String.reduceEq, List.getElem?_cons_zero, List.getElem?_cons_succ]; rfl) ?_
          simp (dsimp := false) only [push_cast, hP, hnt, hgw, hgb, sevalprocAttr, String.reduceEq]
          refine guardR_may (by simp (dsimp := false) only [push_cast, hP, hnt, hgw, hgb, sevalprocAttr, String.reduceEq, List.getElem?_cons_zero, List.getElem?_cons_succ]; rfl) ?_
          simp (dsimp := false) only [push_cast, hP, hnt, hgw, hgb, sevalprocAttr, String.reduceEq]
          refine guardR_may (by simp (dsimp := false) only [push_cast, hP, hnt, hgw, hgb, sevalprocAttr, String.reduceEq, List.getElem?_cons_zero, List.getElem?_cons_succ]; rfl) ?_
          simp (dsimp := false) only [push_cast, hP, hnt, hgw, hgb, sevalprocAttr, String.reduceEq]
          refine guardR_may (by simp (dsimp := false) only [push_cast, hP, hnt, hgw, hgb, sevalprocAttr, String.reduceEq, List.getElem?_cons_zero, List.getElem?_cons_succ]; rfl) ?_
          simp (dsimp := false) only [push_cast, hP, hnt, hgw, hgb, sevalprocAttr, String.reduceEq]
          refine guardR_may (by simp (dsimp := false) only [push_cast, hP, hnt, hgw, hgb, sevalprocAttr, String.reduceEq, List.getElem?_cons_zero, List.getElem?_cons_succ]; rfl) ?_
          simp (dsimp := false) only [push_cast, hP, hnt, hgw, hgb, sevalprocAttr, String.reduceEq]
          refine hK _ ?_; clear hK
          refine vwp_ret ?_
          refine ret_free (by simp (dsimp := false) only [push_cast, hP, hnt, hgw, hgb, sevalprocAttr, String.reduceEq]; rfl) (by simp (dsimp := false) only [push_cast, hP, hnt, hgw, hgb, sevalprocAttr, String.reduceEq]) ?_
          rw [apart_end]; rfl
      · have hb2 := rb2
        try simp only [beq_iff_eq, bne_iff_ne, ne_eq, bne_eq_false_iff_eq, beq_eq_false_iff_ne, decide_eq_true_eq, decide_eq_false_iff_not, Bool.not_eq_true', Bool.not_eq_false', Bool.or_eq_true, Bool.and_eq_true, Bool.or_eq_false_iff, Bool.and_eq_false_iff] at hb2
        refine vwp_seq_region rfl fun K hK => ?_
        simp (dsimp := false) only [push_cast, hP, hnt, hgw, hgb, sevalprocAttr, String.reduceEq]
        refine hK _ ?_; clear hK
        refine vwp_cond (b := _) (by simp (dsimp := false) only [push_cast, hP, hnt, hgw, hgb, sevalprocAttr, String.reduceEq]; rfl) (fun rb4 => ?_) (fun rb4 => ?_)
        · have hb4 := rb4
          try simp only [beq_iff_eq, bne_iff_ne, ne_eq, bne_eq_false_iff_eq, beq_eq_false_iff_ne, decide_eq_true_eq, decide_eq_false_iff_not, Bool.not_eq_true', Bool.not_eq_false', Bool.or_eq_true, Bool.and_eq_true, Bool.or_eq_false_iff, Bool.and_eq_false_iff] at hb4
          refine vwp_region rfl ?_
          simp (dsimp := false) only [push_cast, hP, hnt, hgw, hgb, sevalprocAttr, String.reduceEq]
          apply_assumption
          refine vwp_seq fun K hK => ?_
          refine vwp_seq_regionG fun K hK => ?_
          simp (dsimp := false) only [push_cast, hP, hnt, hgw, hgb, sevalprocAttr, String.reduceEq]
          refine guardR_may (by simp (dsimp := false) only [push_cast, hP, hnt, hgw, hgb, sevalprocAttr, String.reduceEq, List.getElem?_cons_zero, List.getElem?_cons_succ]; rfl) ?_
          simp (dsimp := false) only [push_cast, hP, hnt, hgw, hgb, sevalprocAttr, String.reduceEq]
          refine guardR_may (by simp (dsimp := false) only [push_cast, hP, hnt, hgw, hgb, sevalprocAttr, String.reduceEq, List.getElem?_cons_zero, List.getElem?_cons_succ]; rfl) ?_
          simp (dsimp := false) only [push_cast, hP, hnt, hgw, hgb, sevalprocAttr, String.reduceEq]
          refine callE_intro (split10_call gw gw.heap.size (verdictF v).1 (by have := verdictF_size v; omega)) (.inl ⟨by simp only [push_cast], rfl⟩) ?_
          refine ⟨rfl, ?_⟩
          simp (dsimp := false) only [push_cast, hP, hnt, hgw, hgb, sevalprocAttr, String.reduceEq]
          refine guardR_may (by simp (dsimp := false) only [push_cast, hP, hnt, hgw, hgb, sevalprocAttr, String.reduceEq, List.getElem?_cons_zero, List.getElem?_cons_succ]; rfl) ?_
          simp (dsimp := false) only [push_cast, hP, hnt, hgw, hgb, sevalprocAttr, String.reduceEq]
          refine guardR_may (by simp (dsimp := false) only [push_cast, hP, hnt, hgw, hgb, sevalprocAttr, String.reduceEq, List.getElem?_cons_zero, List.getElem?_cons_succ]; rfl) ?_
          simp (dsimp := false) only [push_cast, hP, hnt, hgw, hgb, sevalprocAttr, String.reduceEq]
          refine guardR_may (by simp (dsimp := false) only [push_cast, hP, hnt, hgw, hgb, sevalprocAttr, String.reduceEq, List.getElem?_cons_zero, List.getElem?_cons_succ]; rfl) ?_
          simp (dsimp := false) only [push_cast, hP, hnt, hgw, hgb, sevalprocAttr, String.reduceEq]
          refine hK _ ?_; clear hK
          refine vwp_cond (b := _) (by simp (dsimp := false) only [push_cast, hP, hnt, hgw, hgb, sevalprocAttr, String.reduceEq]; rfl) (fun rb5 => ?_) (fun rb5 => ?_)
          · have hb5 := rb5
            try simp only [beq_iff_eq, bne_iff_ne, ne_eq, bne_eq_false_iff_eq, beq_eq_false_iff_ne, decide_eq_true_eq, decide_eq_false_iff_not, Bool.not_eq_true', Bool.not_eq_false', Bool.or_eq_true, Bool.and_eq_true, Bool.or_eq_false_iff, Bool.and_eq_false_iff] at hb5
            refine vwp_seq_region rfl fun K hK => ?_
            simp (dsimp := false) only [push_cast, hP, hnt, hgw, hgb, sevalprocAttr, String.reduceEq]
            refine hK _ ?_; clear hK
            refine vwp_ret ?_
            refine ret_free (by simp (dsimp := false) only [push_cast, hP, hnt, hgw, hgb, sevalprocAttr, String.reduceEq]; rfl) (by simp (dsimp := false) only [push_cast, hP, hnt, hgw, hgb, sevalprocAttr, String.reduceEq]) ?_
            exfalso; exact hb5.2 (count_one hfv hb5.1 hb2 hb4)
          · have hb5 := rb5
            try simp only [beq_iff_eq, bne_iff_ne, ne_eq, bne_eq_false_iff_eq, beq_eq_false_iff_ne, decide_eq_true_eq, decide_eq_false_iff_not, Bool.not_eq_true', Bool.not_eq_false', Bool.or_eq_true, Bool.and_eq_true, Bool.or_eq_false_iff, Bool.and_eq_false_iff] at hb5
            refine vwp_skip ?_
            apply_assumption
            refine vwp_seq_region rfl fun K hK => ?_
            simp (dsimp := false) only [push_cast, hP, hnt, hgw, hgb, sevalprocAttr, String.reduceEq]
            refine .inl (callE_intro (passes_call gw gw.heap.size l (by omega)) (.inl ⟨rfl, rfl⟩) ?_)
            simp (dsimp := false) only [push_cast, hP, hnt, hgw, hgb, sevalprocAttr, String.reduceEq]
            refine hK _ ?_; clear hK
            refine vwp_seq_region rfl fun K hK => ?_
            simp (dsimp := false) only [push_cast, hP, hnt, hgw, hgb, sevalprocAttr, String.reduceEq]
            refine .inl (callE_intro (passes_call gw gw.heap.size m (by omega)) (.inl ⟨rfl, rfl⟩) ?_)
            simp (dsimp := false) only [push_cast, hP, hnt, hgw, hgb, sevalprocAttr, String.reduceEq]
            refine hK _ ?_; clear hK
            refine vwp_seq_region rfl fun K hK => ?_
            simp (dsimp := false) only [push_cast, hP, hnt, hgw, hgb, sevalprocAttr, String.reduceEq]
            refine .inl (callE_intro (engineText_call gw hg x) (.inl ⟨rfl, rfl⟩) ?_)
            simp (dsimp := false) only [push_cast, hP, hnt, hgw, hgb, sevalprocAttr, String.reduceEq]
            refine hK _ ?_; clear hK
            refine vwp_seq_region rfl fun K hK => ?_
            simp (dsimp := false) only [push_cast, hP, hnt, hgw, hgb, sevalprocAttr, String.reduceEq]
            refine .inl (callE_intro (engineText_call gw hg y) (.inl ⟨rfl, rfl⟩) ?_)
            simp (dsimp := false) only [push_cast, hP, hnt, hgw, hgb, sevalprocAttr, String.reduceEq]
            refine hK _ ?_; clear hK
            refine vwp_seq_regionG fun K hK => ?_
            simp (dsimp := false) only [push_cast, hP, hnt, hgw, hgb, sevalprocAttr, String.reduceEq]
            refine guardR_may (by simp (dsimp := false) only [push_cast, hP, hnt, hgw, hgb, sevalprocAttr, String.reduceEq, List.getElem?_cons_zero, List.getElem?_cons_succ]; rfl) ?_
            simp (dsimp := false) only [push_cast, hP, hnt, hgw, hgb, sevalprocAttr, String.reduceEq]
            refine guardR_may (by simp (dsimp := false) only [push_cast, hP, hnt, hgw, hgb, sevalprocAttr, String.reduceEq, List.getElem?_cons_zero, List.getElem?_cons_succ]; rfl) ?_
            simp (dsimp := false) only [push_cast, hP, hnt, hgw, hgb, sevalprocAttr, String.reduceEq]
            refine guardR_may (by simp (dsimp := false) only [push_cast, hP, hnt, hgw, hgb, sevalprocAttr, String.reduceEq, List.getElem?_cons_zero, List.getElem?_cons_succ]; rfl) ?_
            simp (dsimp := false) only [push_cast, hP, hnt, hgw, hgb, sevalprocAttr, String.reduceEq]
            refine guardR_may (by simp (dsimp := false) only [push_cast, hP, hnt, hgw, hgb, sevalprocAttr, String.reduceEq, List.getElem?_cons_zero, List.getElem?_cons_succ]; rfl) ?_
            simp (dsimp := false) only [push_cast, hP, hnt, hgw, hgb, sevalprocAttr, String.reduceEq]
            refine guardR_may (by simp (dsimp := false) only [push_cast, hP, hnt, hgw, hgb, sevalprocAttr, String.reduceEq, List.getElem?_cons_zero, List.getElem?_cons_succ]; rfl) ?_
            simp (dsimp := false) only [push_cast, hP, hnt, hgw, hgb, sevalprocAttr, String.reduceEq]
            refine guardR_may (by simp (dsimp := false) only [push_cast, hP, hnt, hgw, hgb, sevalprocAttr, String.reduceEq, List.getElem?_cons_zero, List.getElem?_cons_succ]; rfl) ?_
            simp (dsimp := false) only [push_cast, hP, hnt, hgw, hgb, sevalprocAttr, String.reduceEq]
            refine guardR_may (by simp (dsimp := false) only [push_cast, hP, hnt, hgw, hgb, sevalprocAttr, String.reduceEq, List.getElem?_cons_zero, List.getElem?_cons_succ]; rfl) ?_
            simp (dsimp := false) only [push_cast, hP, hnt, hgw, hgb, sevalprocAttr, String.reduceEq]
            refine guardR_may (by simp (dsimp := false) only [push_cast, hP, hnt, hgw, hgb, sevalprocAttr, String.reduceEq, List.getElem?_cons_zero, List.getElem?_cons_succ]; rfl) ?_
            simp (dsimp := false) only [push_cast, hP, hnt, hgw, hgb, sevalprocAttr, String.reduceEq]
            refine guardR_may (by simp (dsimp := false) only [push_cast, hP, hnt, hgw, hgb, sevalprocAttr, String.reduceEq, List.getElem?_cons_zero, List.getElem?_cons_succ]; rfl) ?_
            simp (dsimp := false) only [push_cast, hP, hnt, hgw, hgb, sevalprocAttr, String.reduceEq]
            refine guardR_may (by simp (dsimp := false) only [push_cast, hP, hnt, hgw, hgb, sevalprocAttr, String.reduceEq, List.getElem?_cons_zero, List.getElem?_cons_succ]; rfl) ?_
            simp (dsimp := false) only [push_cast, hP, hnt, hgw, hgb, sevalprocAttr, String.reduceEq]
            refine guardR_may (by simp (dsimp := false) only [push_cast, hP, hnt, hgw, hgb, sevalprocAttr, String.reduceEq, List.getElem?_cons_zero, List.getElem?_cons_succ]; rfl) ?_
            simp (dsimp := false) only [push_cast, hP, hnt, hgw, hgb, sevalprocAttr, String.reduceEq]
            refine guardR_may (by simp (dsimp := false) only [push_cast, hP, hnt, hgw, hgb, sevalprocAttr, String.reduceEq, List.getElem?_cons_zero, List.getElem?_cons_succ]; rfl) ?_
            simp (dsimp := false) only [push_cast, hP, hnt, hgw, hgb, sevalprocAttr, String.reduceEq]
            refine guardR_may (by simp (dsimp := false) only [push_cast, hP, hnt, hgw, hgb, sevalprocAttr, String.reduceEq, List.getElem?_cons_zero, List.getElem?_cons_succ]; rfl) ?_
            simp (dsimp := false) only [push_cast, hP, hnt, hgw, hgb, sevalprocAttr, String.reduceEq]
            refine callE_intro (samePasses_call gw gw.heap.size l m (by omega)) (.inl ⟨rfl, rfl⟩) ?_
            refine ⟨rfl, ?_⟩
            simp (dsimp := false) only [push_cast, hP, hnt, hgw, hgb, sevalprocAttr, String.reduceEq]
            refine guardR_may (by simp (dsimp := false) only [push_cast, hP, hnt, hgw, hgb, sevalprocAttr, String.reduceEq, List.getElem?_cons_zero, List.getElem?_cons_succ]; rfl) ?_
            simp (dsimp := false) only [push_cast, hP, hnt, hgw, hgb, sevalprocAttr, String.reduceEq]
            refine guardR_may (by simp (dsimp := false) only [push_cast, hP, hnt, hgw, hgb, sevalprocAttr, String.reduceEq, List.getElem?_cons_zero, List.getElem?_cons_succ]; rfl) ?_
            simp (dsimp := false) only [push_cast, hP, hnt, hgw, hgb, sevalprocAttr, String.reduceEq]
            refine guardR_may (by simp (dsimp := false) only [push_cast, hP, hnt, hgw, hgb, sevalprocAttr, String.reduceEq, List.getElem?_cons_zero, List.getElem?_cons_succ]; rfl) ?_
            simp (dsimp := false) only [push_cast, hP, hnt, hgw, hgb, sevalprocAttr, String.reduceEq]
            refine guardR_may (by simp (dsimp := false) only [push_cast, hP, hnt, hgw, hgb, sevalprocAttr, String.reduceEq, List.getElem?_cons_zero, List.getElem?_cons_succ]; rfl) ?_
            simp (dsimp := false) only [push_cast, hP, hnt, hgw, hgb, sevalprocAttr, String.reduceEq]
            refine guardR_may (by simp (dsimp := false) only [push_cast, hP, hnt, hgw, hgb, sevalprocAttr, String.reduceEq, List.getElem?_cons_zero, List.getElem?_cons_succ]; rfl) ?_
            simp (dsimp := false) only [push_cast, hP, hnt, hgw, hgb, sevalprocAttr, String.reduceEq]
            refine guardR_may (by simp (dsimp := false) only [push_cast, hP, hnt, hgw, hgb, sevalprocAttr, String.reduceEq, List.getElem?_cons_zero, List.getElem?_cons_succ]; rfl) ?_
            simp (dsimp := false) only [push_cast, hP, hnt, hgw, hgb, sevalprocAttr, String.reduceEq]
            refine guardR_may (by simp (dsimp := false) only [push_cast, hP, hnt, hgw, hgb, sevalprocAttr, String.reduceEq, List.getElem?_cons_zero, List.getElem?_cons_succ]; rfl) ?_
            simp (dsimp := false) only [push_cast, hP, hnt, hgw, hgb, sevalprocAttr, String.reduceEq]
            refine guardR_may (by simp (dsimp := false) only [push_cast, hP, hnt, hgw, hgb, sevalprocAttr, String.reduceEq, List.getElem?_cons_zero, List.getElem?_cons_succ]; rfl) ?_
            simp (dsimp := false) only [push_cast, hP, hnt, hgw, hgb, sevalprocAttr, String.reduceEq]
            refine guardR_may (by simp (dsimp := false) only [push_cast, hP, hnt, hgw, hgb, sevalprocAttr, String.reduceEq, List.getElem?_cons_zero, List.getElem?_cons_succ]; rfl) ?_
            simp (dsimp := false) only [push_cast, hP, hnt, hgw, hgb, sevalprocAttr, String.reduceEq]
            refine guardR_may (by simp (dsimp := false) only [push_cast, hP, hnt, hgw, hgb, sevalprocAttr, String.reduceEq, List.getElem?_cons_zero, List.getElem?_cons_succ]; rfl) ?_
            simp (dsimp := false) only [push_cast, hP, hnt, hgw, hgb, sevalprocAttr, String.reduceEq]
            refine guardR_may (by simp (dsimp := false) only [push_cast, hP, hnt, hgw, hgb, sevalprocAttr, String.reduceEq, List.getElem?_cons_zero, List.getElem?_cons_succ]; rfl) ?_
            simp (dsimp := false) only [push_cast, hP, hnt, hgw, hgb, sevalprocAttr, String.reduceEq]
            refine guardR_may (by simp (dsimp := false) only [push_cast, hP, hnt, hgw, hgb, sevalprocAttr, String.reduceEq, List.getElem?_cons_zero, List.getElem?_cons_succ]; rfl) ?_
            simp (dsimp := false) only [push_cast, hP, hnt, hgw, hgb, sevalprocAttr, String.reduceEq]
            refine guardR_may (by simp (dsimp := false) only [push_cast, hP, hnt, hgw, hgb, sevalprocAttr, String.reduceEq, List.getElem?_cons_zero, List.getElem?_cons_succ]; rfl) ?_
            simp (dsimp := false) only [push_cast, hP, hnt, hgw, hgb, sevalprocAttr, String.reduceEq]
            refine guardR_may (by simp (dsimp := false) only [push_cast, hP, hnt, hgw, hgb, sevalprocAttr, String.reduceEq, List.getElem?_cons_zero, List.getElem?_cons_succ]; rfl) ?_
            simp (dsimp := false) only [push_cast, hP, hnt, hgw, hgb, sevalprocAttr, String.reduceEq]
            refine guardR_may (by simp (dsimp := false) only [push_cast, hP, hnt, hgw, hgb, sevalprocAttr, String.reduceEq, List.getElem?_cons_zero, List.getElem?_cons_succ]; rfl) ?_
            simp (dsimp := false) only [push_cast, hP, hnt, hgw, hgb, sevalprocAttr, String.reduceEq]
            refine guardR_may (by simp (dsimp := false) only [push_cast, hP, hnt, hgw, hgb, sevalprocAttr, String.reduceEq, List.getElem?_cons_zero, List.getElem?_cons_succ]; rfl) ?_
            simp (dsimp := false) only [push_cast, hP, hnt, hgw, hgb, sevalprocAttr, String.reduceEq]
            refine guardR_may (by simp (dsimp := false) only [push_cast, hP, hnt, hgw, hgb, sevalprocAttr, String.reduceEq, List.getElem?_cons_zero, List.getElem?_cons_succ]; rfl) ?_
            simp (dsimp := false) only [push_cast, hP, hnt, hgw, hgb, sevalprocAttr, String.reduceEq]
            refine hK _ ?_; clear hK
            refine vwp_ret ?_
            refine ret_free (by simp (dsimp := false) only [push_cast, hP, hnt, hgw, hgb, sevalprocAttr, String.reduceEq]; rfl) (by simp (dsimp := false) only [push_cast, hP, hnt, hgw, hgb, sevalprocAttr, String.reduceEq]) ?_
            rw [apart_end]; rfl
        · have hb4 := rb4
          try simp only [beq_iff_eq, bne_iff_ne, ne_eq, bne_eq_false_iff_eq, beq_eq_false_iff_ne, decide_eq_true_eq, decide_eq_false_iff_not, Bool.not_eq_true', Bool.not_eq_false', Bool.or_eq_true, Bool.and_eq_true, Bool.or_eq_false_iff, Bool.and_eq_false_iff] at hb4
          refine vwp_skip ?_
          apply_assumption
          refine vwp_seq fun K hK => ?_
          refine vwp_seq_regionG fun K hK => ?_
          simp (dsimp := false) only [push_cast, hP, hnt, hgw, hgb, sevalprocAttr, String.reduceEq]
          refine guardR_may (by simp (dsimp := false) only [push_cast, hP, hnt, hgw, hgb, sevalprocAttr, String.reduceEq, List.getElem?_cons_zero, List.getElem?_cons_succ]; rfl) ?_
          simp (dsimp := false) only [push_cast, hP, hnt, hgw, hgb, sevalprocAttr, String.reduceEq]
          refine guardR_may (by simp (dsimp := false) only [push_cast, hP, hnt, hgw, hgb, sevalprocAttr, String.reduceEq, List.getElem?_cons_zero, List.getElem?_cons_succ]; rfl) ?_
          simp (dsimp := false) only [push_cast, hP, hnt, hgw, hgb, sevalprocAttr, String.reduceEq]
          refine callE_intro (split10_call gw gw.heap.size (verdictF v).1 (by have := verdictF_size v; omega)) (.inl ⟨by simp only [push_cast], rfl⟩) ?_
          refine ⟨rfl, ?_⟩
          simp (dsimp := false) only [push_cast, hP, hnt, hgw, hgb, sevalprocAttr, String.reduceEq]
          refine guardR_may (by simp (dsimp := false) only [push_cast, hP, hnt, hgw, hgb, sevalprocAttr, String.reduceEq, List.getElem?_cons_zero, List.getElem?_cons_succ]; rfl) ?_
          simp (dsimp := false) only [push_cast, hP, hnt, hgw, hgb, sevalprocAttr, String.reduceEq]
          refine guardR_may (by simp (dsimp := false) only [push_cast, hP, hnt, hgw, hgb, sevalprocAttr, String.reduceEq, List.getElem?_cons_zero, List.getElem?_cons_succ]; rfl) ?_
          simp (dsimp := false) only [push_cast, hP, hnt, hgw, hgb, sevalprocAttr, String.reduceEq]
          refine guardR_may (by simp (dsimp := false) only [push_cast, hP, hnt, hgw, hgb, sevalprocAttr, String.reduceEq, List.getElem?_cons_zero, List.getElem?_cons_succ]; rfl) ?_
          simp (dsimp := false) only [push_cast, hP, hnt, hgw, hgb, sevalprocAttr, String.reduceEq]
          refine hK _ ?_; clear hK
          refine vwp_cond (b := _) (by simp (dsimp := false) only [push_cast, hP, hnt, hgw, hgb, sevalprocAttr, String.reduceEq]; rfl) (fun rb6 => ?_) (fun rb6 => ?_)
          · have hb6 := rb6
            try simp only [beq_iff_eq, bne_iff_ne, ne_eq, bne_eq_false_iff_eq, beq_eq_false_iff_ne, decide_eq_true_eq, decide_eq_false_iff_not, Bool.not_eq_true', Bool.not_eq_false', Bool.or_eq_true, Bool.and_eq_true, Bool.or_eq_false_iff, Bool.and_eq_false_iff] at hb6
            refine vwp_seq_region rfl fun K hK => ?_
            simp (dsimp := false) only [push_cast, hP, hnt, hgw, hgb, sevalprocAttr, String.reduceEq]
            refine hK _ ?_; clear hK
            refine vwp_ret ?_
            refine ret_free (by simp (dsimp := false) only [push_cast, hP, hnt, hgw, hgb, sevalprocAttr, String.reduceEq]; rfl) (by simp (dsimp := false) only [push_cast, hP, hnt, hgw, hgb, sevalprocAttr, String.reduceEq]) ?_
            exfalso; exact hb6.2 (count_no hb6.1 hb2 hb4)
          · have hb6 := rb6
            try simp only [beq_iff_eq, bne_iff_ne, ne_eq, bne_eq_false_iff_eq, beq_eq_false_iff_ne, decide_eq_true_eq, decide_eq_false_iff_not, Bool.not_eq_true', Bool.not_eq_false', Bool.or_eq_true, Bool.and_eq_true, Bool.or_eq_false_iff, Bool.and_eq_false_iff] at hb6
            refine vwp_skip ?_
            apply_assumption
            refine vwp_seq_region rfl fun K hK => ?_
            simp (dsimp := false) only [push_cast, hP, hnt, hgw, hgb, sevalprocAttr, String.reduceEq]
            refine .inl (callE_intro (passes_call gw gw.heap.size l (by omega)) (.inl ⟨rfl, rfl⟩) ?_)
            simp (dsimp := false) only [push_cast, hP, hnt, hgw, hgb, sevalprocAttr, String.reduceEq]
            refine hK _ ?_; clear hK
            refine vwp_seq_region rfl fun K hK => ?_
            simp (dsimp := false) only [push_cast, hP, hnt, hgw, hgb, sevalprocAttr, String.reduceEq]
            refine .inl (callE_intro (passes_call gw gw.heap.size m (by omega)) (.inl ⟨rfl, rfl⟩) ?_)
            simp (dsimp := false) only [push_cast, hP, hnt, hgw, hgb, sevalprocAttr, String.reduceEq]
            refine hK _ ?_; clear hK
            refine vwp_seq_region rfl fun K hK => ?_
            simp (dsimp := false) only [push_cast, hP, hnt, hgw, hgb, sevalprocAttr, String.reduceEq]
            refine .inl (callE_intro (engineText_call gw hg x) (.inl ⟨rfl, rfl⟩) ?_)
            simp (dsimp := false) only [push_cast, hP, hnt, hgw, hgb, sevalprocAttr, String.reduceEq]
            refine hK _ ?_; clear hK
            refine vwp_seq_region rfl fun K hK => ?_
            simp (dsimp := false) only [push_cast, hP, hnt, hgw, hgb, sevalprocAttr, String.reduceEq]
            refine .inl (callE_intro (engineText_call gw hg y) (.inl ⟨rfl, rfl⟩) ?_)
            simp (dsimp := false) only [push_cast, hP, hnt, hgw, hgb, sevalprocAttr, String.reduceEq]
            refine hK _ ?_; clear hK
            refine vwp_seq_regionG fun K hK => ?_
            simp (dsimp := false) only [push_cast, hP, hnt, hgw, hgb, sevalprocAttr, String.reduceEq]
            refine guardR_may (by simp (dsimp := false) only [push_cast, hP, hnt, hgw, hgb, sevalprocAttr, String.reduceEq, List.getElem?_cons_zero, List.getElem?_cons_succ]; rfl) ?_
            simp (dsimp := false) only [push_cast, hP, hnt, hgw, hgb, sevalprocAttr, String.reduceEq]
            refine guardR_may (by simp (dsimp := false) only [push_cast, hP, hnt, hgw, hgb, sevalprocAttr, String.reduceEq, List.getElem?_cons_zero, List.getElem?_cons_succ]; rfl) ?_
            simp (dsimp := false) only [push_cast, hP, hnt, hgw, hgb, sevalprocAttr, String.reduceEq]
            refine guardR_may (by simp (dsimp := false) only [push_cast, hP, hnt, hgw, hgb, sevalprocAttr, String.reduceEq, List.getElem?_cons_zero, List.getElem?_cons_succ]; rfl) ?_
            simp (dsimp := false) only [push_cast, hP, hnt, hgw, hgb, sevalprocAttr, String.reduceEq]
            refine guardR_may (by simp (dsimp := false) only [push_cast, hP, hnt, hgw, hgb, sevalprocAttr, String.reduceEq, List.getElem?_cons_zero, List.getElem?_cons_succ]; rfl) ?_
            simp (dsimp := false) only [push_cast, hP, hnt, hgw, hgb, sevalprocAttr, String.reduceEq]
            refine guardR_may (by simp (dsimp := false) only [push_cast, hP, hnt, hgw, hgb, sevalprocAttr, String.reduceEq, List.getElem?_cons_zero, List.getElem?_cons_succ]; rfl) ?_
            simp (dsimp := false) only [push_cast, hP, hnt, hgw, hgb, sevalprocAttr, String.reduceEq]
            refine guardR_may (by simp (dsimp := false) only [push_cast, hP, hnt, hgw, hgb, sevalprocAttr, String.reduceEq, List.getElem?_cons_zero, List.getElem?_cons_succ]; rfl) ?_
            simp (dsimp := false) only [push_cast, hP, hnt, hgw, hgb, sevalprocAttr, String.reduceEq]
            refine guardR_may (by simp (dsimp := false) only [push_cast, hP, hnt, hgw, hgb, sevalprocAttr, String.reduceEq, List.getElem?_cons_zero, List.getElem?_cons_succ]; rfl) ?_
            simp (dsimp := false) only [push_cast, hP, hnt, hgw, hgb, sevalprocAttr, String.reduceEq]
            refine guardR_may (by simp (dsimp := false) only [push_cast, hP, hnt, hgw, hgb, sevalprocAttr, String.reduceEq, List.getElem?_cons_zero, List.getElem?_cons_succ]; rfl) ?_
            simp (dsimp := false) only [push_cast, hP, hnt, hgw, hgb, sevalprocAttr, String.reduceEq]
            refine guardR_may (by simp (dsimp := false) only [push_cast, hP, hnt, hgw, hgb, sevalprocAttr, String.reduceEq, List.getElem?_cons_zero, List.getElem?_cons_succ]; rfl) ?_
            simp (dsimp := false) only [push_cast, hP, hnt, hgw, hgb, sevalprocAttr, String.reduceEq]
            refine guardR_may (by simp (dsimp := false) only [push_cast, hP, hnt, hgw, hgb, sevalprocAttr, String.reduceEq, List.getElem?_cons_zero, List.getElem?_cons_succ]; rfl) ?_
            simp (dsimp := false) only [push_cast, hP, hnt, hgw, hgb, sevalprocAttr, String.reduceEq]
            refine guardR_may (by simp (dsimp := false) only [push_cast, hP, hnt, hgw, hgb, sevalprocAttr, String.reduceEq, List.getElem?_cons_zero, List.getElem?_cons_succ]; rfl) ?_
            simp (dsimp := false) only [push_cast, hP, hnt, hgw, hgb, sevalprocAttr, String.reduceEq]
            refine guardR_may (by simp (dsimp := false) only [push_cast, hP, hnt, hgw, hgb, sevalprocAttr, String.reduceEq, List.getElem?_cons_zero, List.getElem?_cons_succ]; rfl) ?_
            simp (dsimp := false) only [push_cast, hP, hnt, hgw, hgb, sevalprocAttr, String.reduceEq]
            refine guardR_may (by simp (dsimp := false) only [push_cast, hP, hnt, hgw, hgb, sevalprocAttr, String.reduceEq, List.getElem?_cons_zero, List.getElem?_cons_succ]; rfl) ?_
            simp (dsimp := false) only [push_cast, hP, hnt, hgw, hgb, sevalprocAttr, String.reduceEq]
            refine callE_intro (samePasses_call gw gw.heap.size l m (by omega)) (.inl ⟨rfl, rfl⟩) ?_
            refine ⟨rfl, ?_⟩
            simp (dsimp := false) only [push_cast, hP, hnt, hgw, hgb, sevalprocAttr, String.reduceEq]
            refine guardR_may (by simp (dsimp := false) only [push_cast, hP, hnt, hgw, hgb, sevalprocAttr, String.reduceEq, List.getElem?_cons_zero, List.getElem?_cons_succ]; rfl) ?_
            simp (dsimp := false) only [push_cast, hP, hnt, hgw, hgb, sevalprocAttr, String.reduceEq]
            refine guardR_may (by simp (dsimp := false) only [push_cast, hP, hnt, hgw, hgb, sevalprocAttr, String.reduceEq, List.getElem?_cons_zero, List.getElem?_cons_succ]; rfl) ?_
            simp (dsimp := false) only [push_cast, hP, hnt, hgw, hgb, sevalprocAttr, String.reduceEq]
            refine guardR_may (by simp (dsimp := false) only [push_cast, hP, hnt, hgw, hgb, sevalprocAttr, String.reduceEq, List.getElem?_cons_zero, List.getElem?_cons_succ]; rfl) ?_
            simp (dsimp := false) only [push_cast, hP, hnt, hgw, hgb, sevalprocAttr, String.reduceEq]
            refine guardR_may (by simp (dsimp := false) only [push_cast, hP, hnt, hgw, hgb, sevalprocAttr, String.reduceEq, List.getElem?_cons_zero, List.getElem?_cons_succ]; rfl) ?_
            simp (dsimp := false) only [push_cast, hP, hnt, hgw, hgb, sevalprocAttr, String.reduceEq]
            refine guardR_may (by simp (dsimp := false) only [push_cast, hP, hnt, hgw, hgb, sevalprocAttr, String.reduceEq, List.getElem?_cons_zero, List.getElem?_cons_succ]; rfl) ?_
            simp (dsimp := false) only [push_cast, hP, hnt, hgw, hgb, sevalprocAttr, String.reduceEq]
            refine guardR_may (by simp (dsimp := false) only [push_cast, hP, hnt, hgw, hgb, sevalprocAttr, String.reduceEq, List.getElem?_cons_zero, List.getElem?_cons_succ]; rfl) ?_
            simp (dsimp := false) only [push_cast, hP, hnt, hgw, hgb, sevalprocAttr, String.reduceEq]
            refine guardR_may (by simp (dsimp := false) only [push_cast, hP, hnt, hgw, hgb, sevalprocAttr, String.reduceEq, List.getElem?_cons_zero, List.getElem?_cons_succ]; rfl) ?_
            simp (dsimp := false) only [push_cast, hP, hnt, hgw, hgb, sevalprocAttr, String.reduceEq]
            refine guardR_may (by simp (dsimp := false) only [push_cast, hP, hnt, hgw, hgb, sevalprocAttr, String.reduceEq, List.getElem?_cons_zero, List.getElem?_cons_succ]; rfl) ?_
            simp (dsimp := false) only [push_cast, hP, hnt, hgw, hgb, sevalprocAttr, String.reduceEq]
            refine guardR_may (by simp (dsimp := false) only [push_cast, hP, hnt, hgw, hgb, sevalprocAttr, String.reduceEq, List.getElem?_cons_zero, List.getElem?_cons_succ]; rfl) ?_
            simp (dsimp := false) only [push_cast, hP, hnt, hgw, hgb, sevalprocAttr, String.reduceEq]
            refine guardR_may (by simp (dsimp := false) only [push_cast, hP, hnt, hgw, hgb, sevalprocAttr, String.reduceEq, List.getElem?_cons_zero, List.getElem?_cons_succ]; rfl) ?_
            simp (dsimp := false) only [push_cast, hP, hnt, hgw, hgb, sevalprocAttr, String.reduceEq]
            refine guardR_may (by simp (dsimp := false) only [push_cast, hP, hnt, hgw, hgb, sevalprocAttr, String.reduceEq, List.getElem?_cons_zero, List.getElem?_cons_succ]; rfl) ?_
            simp (dsimp := false) only [push_cast, hP, hnt, hgw, hgb, sevalprocAttr, String.reduceEq]
            refine guardR_may (by simp (dsimp := false) only [push_cast, hP, hnt, hgw, hgb, sevalprocAttr, String.reduceEq, List.getElem?_cons_zero, List.getElem?_cons_succ]; rfl) ?_
            simp (dsimp := false) only [push_cast, hP, hnt, hgw, hgb, sevalprocAttr, String.reduceEq]
            refine guardR_may (by simp (dsimp := false) only [push_cast, hP, hnt, hgw, hgb, sevalprocAttr, String.reduceEq, List.getElem?_cons_zero, List.getElem?_cons_succ]; rfl) ?_
            simp (dsimp := false) only [push_cast, hP, hnt, hgw, hgb, sevalprocAttr, String.reduceEq]
            refine guardR_may (by simp (dsimp := false) only [push_cast, hP, hnt, hgw, hgb, sevalprocAttr, String.reduceEq, List.getElem?_cons_zero, List.getElem?_cons_succ]; rfl) ?_
            simp (dsimp := false) only [push_cast, hP, hnt, hgw, hgb, sevalprocAttr, String.reduceEq]
            refine guardR_may (by simp (dsimp := false) only [push_cast, hP, hnt, hgw, hgb, sevalprocAttr, String.reduceEq, List.getElem?_cons_zero, List.getElem?_cons_succ]; rfl) ?_
            simp (dsimp := false) only [push_cast, hP, hnt, hgw, hgb, sevalprocAttr, String.reduceEq]
            refine guardR_may (by simp (dsimp := false) only [push_cast, hP, hnt, hgw, hgb, sevalprocAttr, String.reduceEq, List.getElem?_cons_zero, List.getElem?_cons_succ]; rfl) ?_
            simp (dsimp := false) only [push_cast, hP, hnt, hgw, hgb, sevalprocAttr, String.reduceEq]
            refine guardR_may (by simp (dsimp := false) only [push_cast, hP, hnt, hgw, hgb, sevalprocAttr, String.reduceEq, List.getElem?_cons_zero, List.getElem?_cons_succ]; rfl) ?_
            simp (dsimp := false) only [push_cast, hP, hnt, hgw, hgb, sevalprocAttr, String.reduceEq]
            refine hK _ ?_; clear hK
            refine vwp_ret ?_
            refine ret_free (by simp (dsimp := false) only [push_cast, hP, hnt, hgw, hgb, sevalprocAttr, String.reduceEq]; rfl) (by simp (dsimp := false) only [push_cast, hP, hnt, hgw, hgb, sevalprocAttr, String.reduceEq]) ?_
            rw [apart_end]; rfl
end Go.Vm
end
