/-
  Walks of the program's functions by the framework, and what they compute (PtG). Conditions: each theorem's own premises. By an AI agent.
-/
import Derived.Test.YtnpbndglolcilaaDoorPtF
section
namespace Go.Vm
open Go Go.RowKit Go.Proofs
set_option maxRecDepth 100000
set_option linter.unusedSimpArgs false
set_option linter.unusedVariables false
set_option maxHeartbeats 4000000

def atoiOk (t : ByteArray) : Bool := match Lib.atoiAll t.data.toList with | .ok _ => true | _ => false
theorem atoiE_ok {t : ByteArray} (h : atoiOk t = true) : atoiE t = .c .nilIface := by unfold atoiE; unfold atoiOk at h; split at h <;> simp_all
theorem atoiE_bad {t : ByteArray} (h : atoiOk t = false) : atoiE t = .ifc := by unfold atoiE; unfold atoiOk at h; split at h <;> simp_all
theorem atoiV_range (t : ByteArray) : -9223372036854775808 ≤ atoiV t ∧ atoiV t ≤ 9223372036854775807 := by
  unfold atoiV
  split
  · rename_i v h
    unfold Lib.atoiAll at h
    split at h
    · cases h
    · simp only at h
      split at h
      · cases h
      · cases h
      · split at h
        · cases h
        · split at h
          · cases h
          · rename_i u _ h1 h2
            cases h
            split <;> omega
  · unfold Lib.atoiSat; split <;> omega
  · omega
def numF (t : ByteArray) : Int := if atoiOk t = true ∧ 0 ≤ atoiV t ∧ (itoaB (atoiV t)).toList = t.toList then atoiV t else -1

theorem number_ok (gw : World) (hg : Glob gw) (t : ByteArray) (ht : t.size ≤ 1000000) (ho : atoiOk t = true) : VCall Tryd.prog gw (gw.heap.size) 54 [.one (.c (.string t))] (.one (.c (.int .i64 (numF t)))) [] := by
  have he := atoiE_ok ho
  refine vcall_of [.tmp 2] Tryd.func54 rfl rfl Tryd.ntmps54 rfl (by simp) ?_
  intro C hP hnt hgw hgb hfull
  refine vwp_seq_region rfl fun K hK => ?_
  simp (dsimp := false) only [push_cast, hP, hnt, hgw, hgb, Nat.reduceLT, Nat.reduceEqDiff, Nat.reduceAdd, Nat.reduceSub, Nat.reduceMul, Nat.reduceLeDiff, ↓reduceIte, reduceCtorEq, he]
  refine hK _ ?_; clear hK
  refine vwp_seq_region rfl fun K hK => ?_
  simp (dsimp := false) only [push_cast, hP, hnt, hgw, hgb, Nat.reduceLT, Nat.reduceEqDiff, Nat.reduceAdd, Nat.reduceSub, Nat.reduceMul, Nat.reduceLeDiff, ↓reduceIte, reduceCtorEq, he]
  refine .inl (callE_intro (atoi_call gw hg t ht) (.inl ⟨atoiE_strict t, rfl⟩) ?_)
  simp (dsimp := false) only [push_cast, hP, hnt, hgw, hgb, Nat.reduceLT, Nat.reduceEqDiff, Nat.reduceAdd, Nat.reduceSub, Nat.reduceMul, Nat.reduceLeDiff, ↓reduceIte, reduceCtorEq, he]
  refine hK _ ?_; clear hK
  refine vwp_seq fun K hK => ?_
  refine vwp_seq_regionG fun K hK => ?_
  simp (dsimp := false) only [push_cast, hP, hnt, hgw, hgb, Nat.reduceLT, Nat.reduceEqDiff, Nat.reduceAdd, Nat.reduceSub, Nat.reduceMul, Nat.reduceLeDiff, ↓reduceIte, reduceCtorEq, he]
  refine guardR_may (by simp (dsimp := false) only [push_cast, hP, hnt, hgw, hgb, Nat.reduceLT, Nat.reduceEqDiff, Nat.reduceAdd, Nat.reduceSub, Nat.reduceMul, Nat.reduceLeDiff, ↓reduceIte, reduceCtorEq, he, List.getElem?_cons_zero, List.getElem?_cons_succ]; rfl) ?_
  simp (dsimp := false) only [push_cast, hP, hnt, hgw, hgb, Nat.reduceLT, Nat.reduceEqDiff, Nat.reduceAdd, Nat.reduceSub, Nat.reduceMul, Nat.reduceLeDiff, ↓reduceIte, reduceCtorEq, he]
  refine guardR_may (by simp (dsimp := false) only [push_cast, hP, hnt, hgw, hgb, Nat.reduceLT, Nat.reduceEqDiff, Nat.reduceAdd, Nat.reduceSub, Nat.reduceMul, Nat.reduceLeDiff, ↓reduceIte, reduceCtorEq, he, List.getElem?_cons_zero, List.getElem?_cons_succ]; rfl) ?_
  simp (dsimp := false) only [push_cast, hP, hnt, hgw, hgb, Nat.reduceLT, Nat.reduceEqDiff, Nat.reduceAdd, Nat.reduceSub, Nat.reduceMul, Nat.reduceLeDiff, ↓reduceIte, reduceCtorEq, he]
  refine guardR_may (by simp (dsimp := false) only [push_cast, hP, hnt, hgw, hgb, Nat.reduceLT, Nat.reduceEqDiff, Nat.reduceAdd, Nat.reduceSub, Nat.reduceMul, Nat.reduceLeDiff, ↓reduceIte, reduceCtorEq, he, List.getElem?_cons_zero, List.getElem?_cons_succ]; rfl) ?_
  simp (dsimp := false) only [push_cast, hP, hnt, hgw, hgb, Nat.reduceLT, Nat.reduceEqDiff, Nat.reduceAdd, Nat.reduceSub, Nat.reduceMul, Nat.reduceLeDiff, ↓reduceIte, reduceCtorEq, he]
  refine guardR_may (by simp (dsimp := false) only [push_cast, hP, hnt, hgw, hgb, Nat.reduceLT, Nat.reduceEqDiff, Nat.reduceAdd, Nat.reduceSub, Nat.reduceMul, Nat.reduceLeDiff, ↓reduceIte, reduceCtorEq, he, List.getElem?_cons_zero, List.getElem?_cons_succ]; rfl) ?_
  simp (dsimp := false) only [push_cast, hP, hnt, hgw, hgb, Nat.reduceLT, Nat.reduceEqDiff, Nat.reduceAdd, Nat.reduceSub, Nat.reduceMul, Nat.reduceLeDiff, ↓reduceIte, reduceCtorEq, he]
  refine callE_intro (itoaG_call gw hg _ (atoiV_range t).1 (atoiV_range t).2) (.inl ⟨rfl, rfl⟩) ?_
  refine ⟨rfl, ?_⟩
  simp (dsimp := false) only [push_cast, hP, hnt, hgw, hgb, Nat.reduceLT, Nat.reduceEqDiff, Nat.reduceAdd, Nat.reduceSub, Nat.reduceMul, Nat.reduceLeDiff, ↓reduceIte, reduceCtorEq, he]
  refine guardR_may (by simp (dsimp := false) only [push_cast, hP, hnt, hgw, hgb, Nat.reduceLT, Nat.reduceEqDiff, Nat.reduceAdd, Nat.reduceSub, Nat.reduceMul, Nat.reduceLeDiff, ↓reduceIte, reduceCtorEq, he, List.getElem?_cons_zero, List.getElem?_cons_succ]; rfl) ?_
  simp (dsimp := false) only [push_cast, hP, hnt, hgw, hgb, Nat.reduceLT, Nat.reduceEqDiff, Nat.reduceAdd, Nat.reduceSub, Nat.reduceMul, Nat.reduceLeDiff, ↓reduceIte, reduceCtorEq, he]
  refine guardR_may (by simp (dsimp := false) only [push_cast, hP, hnt, hgw, hgb, Nat.reduceLT, Nat.reduceEqDiff, Nat.reduceAdd, Nat.reduceSub, Nat.reduceMul, Nat.reduceLeDiff, ↓reduceIte, reduceCtorEq, he, List.getElem?_cons_zero, List.getElem?_cons_succ]; rfl) ?_
  simp (dsimp := false) only [push_cast, hP, hnt, hgw, hgb, Nat.reduceLT, Nat.reduceEqDiff, Nat.reduceAdd, Nat.reduceSub, Nat.reduceMul, Nat.reduceLeDiff, ↓reduceIte, reduceCtorEq, he]
  refine hK _ ?_; clear hK
  refine vwp_cond (b := _) (by simp (dsimp := false) only [push_cast, hP, hnt, hgw, hgb, Nat.reduceLT, Nat.reduceEqDiff, Nat.reduceAdd, Nat.reduceSub, Nat.reduceMul, Nat.reduceLeDiff, ↓reduceIte, reduceCtorEq, he]; rfl) (fun rb0 => ?_) (fun rb0 => ?_)
  · have hb0 := rb0
    try simp only [beq_iff_eq, bne_iff_ne, ne_eq, bne_eq_false_iff_eq, beq_eq_false_iff_ne, decide_eq_true_eq, decide_eq_false_iff_not, Bool.not_eq_true', Bool.not_eq_false', Bool.or_eq_true, Bool.and_eq_true, Bool.or_eq_false_iff, Bool.and_eq_false_iff] at hb0
    refine vwp_seq_region rfl fun K hK => ?_
    simp (dsimp := false) only [push_cast, hP, hnt, hgw, hgb, Nat.reduceLT, Nat.reduceEqDiff, Nat.reduceAdd, Nat.reduceSub, Nat.reduceMul, Nat.reduceLeDiff, ↓reduceIte, reduceCtorEq, he]
    refine hK _ ?_; clear hK
    refine vwp_ret ?_
    refine ret_free (by simp (dsimp := false) only [push_cast, hP, hnt, hgw, hgb, Nat.reduceLT, Nat.reduceEqDiff, Nat.reduceAdd, Nat.reduceSub, Nat.reduceMul, Nat.reduceLeDiff, ↓reduceIte, reduceCtorEq, he]; rfl) (by simp (dsimp := false) only [push_cast, hP, hnt, hgw, hgb, Nat.reduceLT, Nat.reduceEqDiff, Nat.reduceAdd, Nat.reduceSub, Nat.reduceMul, Nat.reduceLeDiff, ↓reduceIte, reduceCtorEq, he]) ?_
    rw [show numF t = -1 from if_neg (fun h => by rcases hb0 with g | g
                                                  · omega
                                                  · exact g h.2.2)]; rfl
  · have hb0 := rb0
    try simp only [beq_iff_eq, bne_iff_ne, ne_eq, bne_eq_false_iff_eq, beq_eq_false_iff_ne, decide_eq_true_eq, decide_eq_false_iff_not, Bool.not_eq_true', Bool.not_eq_false', Bool.or_eq_true, Bool.and_eq_true, Bool.or_eq_false_iff, Bool.and_eq_false_iff] at hb0
    refine vwp_skip ?_
    apply_assumption
    refine vwp_seq_region rfl fun K hK => ?_
    simp (dsimp := false) only [push_cast, hP, hnt, hgw, hgb, Nat.reduceLT, Nat.reduceEqDiff, Nat.reduceAdd, Nat.reduceSub, Nat.reduceMul, Nat.reduceLeDiff, ↓reduceIte, reduceCtorEq, he]
    refine hK _ ?_; clear hK
    refine vwp_ret ?_
    refine ret_free (by simp (dsimp := false) only [push_cast, hP, hnt, hgw, hgb, Nat.reduceLT, Nat.reduceEqDiff, Nat.reduceAdd, Nat.reduceSub, Nat.reduceMul, Nat.reduceLeDiff, ↓reduceIte, reduceCtorEq, he]; rfl) (by simp (dsimp := false) only [push_cast, hP, hnt, hgw, hgb, Nat.reduceLT, Nat.reduceEqDiff, Nat.reduceAdd, Nat.reduceSub, Nat.reduceMul, Nat.reduceLeDiff, ↓reduceIte, reduceCtorEq, he]) ?_
    rw [show numF t = atoiV t from if_pos ⟨ho, by omega, hb0.2⟩]; rfl
theorem number_bad (gw : World) (hg : Glob gw) (t : ByteArray) (ht : t.size ≤ 1000000) (ho : atoiOk t = false) : VCall Tryd.prog gw (gw.heap.size) 54 [.one (.c (.string t))] (.one (.c (.int .i64 (numF t)))) [] := by
  have he := atoiE_bad ho
  refine vcall_of [.tmp 2] Tryd.func54 rfl rfl Tryd.ntmps54 rfl (by simp) ?_
  intro C hP hnt hgw hgb hfull
  refine vwp_seq_region rfl fun K hK => ?_
  simp (dsimp := false) only [push_cast, hP, hnt, hgw, hgb, Nat.reduceLT, Nat.reduceEqDiff, Nat.reduceAdd, Nat.reduceSub, Nat.reduceMul, Nat.reduceLeDiff, ↓reduceIte, reduceCtorEq, he]
  refine hK _ ?_; clear hK
  refine vwp_seq_region rfl fun K hK => ?_
  simp (dsimp := false) only [push_cast, hP, hnt, hgw, hgb, Nat.reduceLT, Nat.reduceEqDiff, Nat.reduceAdd, Nat.reduceSub, Nat.reduceMul, Nat.reduceLeDiff, ↓reduceIte, reduceCtorEq, he]
  refine .inl (callE_intro (atoi_call gw hg t ht) (.inl ⟨atoiE_strict t, rfl⟩) ?_)
  simp (dsimp := false) only [push_cast, hP, hnt, hgw, hgb, Nat.reduceLT, Nat.reduceEqDiff, Nat.reduceAdd, Nat.reduceSub, Nat.reduceMul, Nat.reduceLeDiff, ↓reduceIte, reduceCtorEq, he]
  refine hK _ ?_; clear hK
  refine vwp_seq fun K hK => ?_
  refine vwp_seq_regionG fun K hK => ?_
  simp (dsimp := false) only [push_cast, hP, hnt, hgw, hgb, Nat.reduceLT, Nat.reduceEqDiff, Nat.reduceAdd, Nat.reduceSub, Nat.reduceMul, Nat.reduceLeDiff, ↓reduceIte, reduceCtorEq, he]
  refine guardR_may (by simp (dsimp := false) only [push_cast, hP, hnt, hgw, hgb, Nat.reduceLT, Nat.reduceEqDiff, Nat.reduceAdd, Nat.reduceSub, Nat.reduceMul, Nat.reduceLeDiff, ↓reduceIte, reduceCtorEq, he, List.getElem?_cons_zero, List.getElem?_cons_succ]; rfl) ?_
  simp (dsimp := false) only [push_cast, hP, hnt, hgw, hgb, Nat.reduceLT, Nat.reduceEqDiff, Nat.reduceAdd, Nat.reduceSub, Nat.reduceMul, Nat.reduceLeDiff, ↓reduceIte, reduceCtorEq, he]
  refine guardR_may (by simp (dsimp := false) only [push_cast, hP, hnt, hgw, hgb, Nat.reduceLT, Nat.reduceEqDiff, Nat.reduceAdd, Nat.reduceSub, Nat.reduceMul, Nat.reduceLeDiff, ↓reduceIte, reduceCtorEq, he, List.getElem?_cons_zero, List.getElem?_cons_succ]; rfl) ?_
  simp (dsimp := false) only [push_cast, hP, hnt, hgw, hgb, Nat.reduceLT, Nat.reduceEqDiff, Nat.reduceAdd, Nat.reduceSub, Nat.reduceMul, Nat.reduceLeDiff, ↓reduceIte, reduceCtorEq, he]
  refine guardR_may (by simp (dsimp := false) only [push_cast, hP, hnt, hgw, hgb, Nat.reduceLT, Nat.reduceEqDiff, Nat.reduceAdd, Nat.reduceSub, Nat.reduceMul, Nat.reduceLeDiff, ↓reduceIte, reduceCtorEq, he, List.getElem?_cons_zero, List.getElem?_cons_succ]; rfl) ?_
  simp (dsimp := false) only [push_cast, hP, hnt, hgw, hgb, Nat.reduceLT, Nat.reduceEqDiff, Nat.reduceAdd, Nat.reduceSub, Nat.reduceMul, Nat.reduceLeDiff, ↓reduceIte, reduceCtorEq, he]
  refine guardR_may (by simp (dsimp := false) only [push_cast, hP, hnt, hgw, hgb, Nat.reduceLT, Nat.reduceEqDiff, Nat.reduceAdd, Nat.reduceSub, Nat.reduceMul, Nat.reduceLeDiff, ↓reduceIte, reduceCtorEq, he, List.getElem?_cons_zero, List.getElem?_cons_succ]; rfl) ?_
  simp (dsimp := false) only [push_cast, hP, hnt, hgw, hgb, Nat.reduceLT, Nat.reduceEqDiff, Nat.reduceAdd, Nat.reduceSub, Nat.reduceMul, Nat.reduceLeDiff, ↓reduceIte, reduceCtorEq, he]
  refine callE_intro (itoaG_call gw hg _ (atoiV_range t).1 (atoiV_range t).2) (.inl ⟨rfl, rfl⟩) ?_
  refine ⟨rfl, ?_⟩
  simp (dsimp := false) only [push_cast, hP, hnt, hgw, hgb, Nat.reduceLT, Nat.reduceEqDiff, Nat.reduceAdd, Nat.reduceSub, Nat.reduceMul, Nat.reduceLeDiff, ↓reduceIte, reduceCtorEq, he]
  refine guardR_may (by simp (dsimp := false) only [push_cast, hP, hnt, hgw, hgb, Nat.reduceLT, Nat.reduceEqDiff, Nat.reduceAdd, Nat.reduceSub, Nat.reduceMul, Nat.reduceLeDiff, ↓reduceIte, reduceCtorEq, he, List.getElem?_cons_zero, List.getElem?_cons_succ]; rfl) ?_
  simp (dsimp := false) only [push_cast, hP, hnt, hgw, hgb, Nat.reduceLT, Nat.reduceEqDiff, Nat.reduceAdd, Nat.reduceSub, Nat.reduceMul, Nat.reduceLeDiff, ↓reduceIte, reduceCtorEq, he]
  refine guardR_may (by simp (dsimp := false) only [push_cast, hP, hnt, hgw, hgb, Nat.reduceLT, Nat.reduceEqDiff, Nat.reduceAdd, Nat.reduceSub, Nat.reduceMul, Nat.reduceLeDiff, ↓reduceIte, reduceCtorEq, he, List.getElem?_cons_zero, List.getElem?_cons_succ]; rfl) ?_
  simp (dsimp := false) only [push_cast, hP, hnt, hgw, hgb, Nat.reduceLT, Nat.reduceEqDiff, Nat.reduceAdd, Nat.reduceSub, Nat.reduceMul, Nat.reduceLeDiff, ↓reduceIte, reduceCtorEq, he]
  refine hK _ ?_; clear hK
  refine vwp_cond (b := _) (by simp (dsimp := false) only [push_cast, hP, hnt, hgw, hgb, Nat.reduceLT, Nat.reduceEqDiff, Nat.reduceAdd, Nat.reduceSub, Nat.reduceMul, Nat.reduceLeDiff, ↓reduceIte, reduceCtorEq, he]; rfl) (fun rb0 => ?_) (fun rb0 => ?_)
  · have hb0 := rb0
    try simp only [beq_iff_eq, bne_iff_ne, ne_eq, bne_eq_false_iff_eq, beq_eq_false_iff_ne, decide_eq_true_eq, decide_eq_false_iff_not, Bool.not_eq_true', Bool.not_eq_false', Bool.or_eq_true, Bool.and_eq_true, Bool.or_eq_false_iff, Bool.and_eq_false_iff] at hb0
    refine vwp_seq_region rfl fun K hK => ?_
    simp (dsimp := false) only [push_cast, hP, hnt, hgw, hgb, Nat.reduceLT, Nat.reduceEqDiff, Nat.reduceAdd, Nat.reduceSub, Nat.reduceMul, Nat.reduceLeDiff, ↓reduceIte, reduceCtorEq, he]
    refine hK _ ?_; clear hK
    refine vwp_ret ?_
    refine ret_free (by simp (dsimp := false) only [push_cast, hP, hnt, hgw, hgb, Nat.reduceLT, Nat.reduceEqDiff, Nat.reduceAdd, Nat.reduceSub, Nat.reduceMul, Nat.reduceLeDiff, ↓reduceIte, reduceCtorEq, he]; rfl) (by simp (dsimp := false) only [push_cast, hP, hnt, hgw, hgb, Nat.reduceLT, Nat.reduceEqDiff, Nat.reduceAdd, Nat.reduceSub, Nat.reduceMul, Nat.reduceLeDiff, ↓reduceIte, reduceCtorEq, he]) ?_
    rw [show numF t = -1 from if_neg (fun h => by rw [ho] at h; cases h.1)]; rfl
  · have hb0 := rb0
    try simp only [beq_iff_eq, bne_iff_ne, ne_eq, bne_eq_false_iff_eq, beq_eq_false_iff_ne, decide_eq_true_eq, decide_eq_false_iff_not, Bool.not_eq_true', Bool.not_eq_false', Bool.or_eq_true, Bool.and_eq_true, Bool.or_eq_false_iff, Bool.and_eq_false_iff] at hb0
    refine vwp_skip ?_
    apply_assumption
    refine vwp_seq_region rfl fun K hK => ?_
    simp (dsimp := false) only [push_cast, hP, hnt, hgw, hgb, Nat.reduceLT, Nat.reduceEqDiff, Nat.reduceAdd, Nat.reduceSub, Nat.reduceMul, Nat.reduceLeDiff, ↓reduceIte, reduceCtorEq, he]
    refine hK _ ?_; clear hK
    refine vwp_ret ?_
    refine ret_free (by simp (dsimp := false) only [push_cast, hP, hnt, hgw, hgb, Nat.reduceLT, Nat.reduceEqDiff, Nat.reduceAdd, Nat.reduceSub, Nat.reduceMul, Nat.reduceLeDiff, ↓reduceIte, reduceCtorEq, he]; rfl) (by simp (dsimp := false) only [push_cast, hP, hnt, hgw, hgb, Nat.reduceLT, Nat.reduceEqDiff, Nat.reduceAdd, Nat.reduceSub, Nat.reduceMul, Nat.reduceLeDiff, ↓reduceIte, reduceCtorEq, he]) ?_
    cases rb0
theorem number_call (gw : World) (hg : Glob gw) (t : ByteArray) (ht : t.size ≤ 1000000) : VCall Tryd.prog gw gw.heap.size 54 [.one (.c (.string t))] (.one (.c (.int .i64 (numF t)))) [] := by
  cases ho : atoiOk t with
  | true => exact number_ok gw hg t ht ho
  | false => exact number_bad gw hg t ht ho

end Go.Vm
end

section
namespace Go.Vm
open Go Go.RowKit Go.Proofs
set_option maxRecDepth 100000
set_option linter.unusedSimpArgs false
set_option linter.unusedVariables false
set_option maxHeartbeats 4000000

def bit1 (b : UInt8) : Bool := ((b.toNat : Int) == 49)
def boolP (b : Bool) : PC := .c (.bool b)
def unbitsF (s : ByteArray) : List Bool := if s.toList = (⟨#[45]⟩ : ByteArray).toList then [] else s.data.toList.map bit1
theorem byteAt_eq (s : ByteArray) (i : Int) : byteAt s i.toNat = atI s.data.toList i := rfl
theorem boolP_free (l : List Bool) : PC.frees (l.map (fun b => PC.c (Value.bool b))) = true := by rw [frees_map]; simp [PC.free]
def rowB (l : List Bool) : Blk := .arr 4 1 l.length (l.map (fun b => PC.c (Value.bool b)))
theorem bits_next {s : ByteArray} {i : Int} (h0 : 0 ≤ i) (h1 : i < (s.size : Int)) : (s.data.toList.take (i + 1).toNat).map bit1 = (s.data.toList.take i.toNat).map bit1 ++ [((byteAt s i.toNat).toNat : Int) == 49] := by
  rw [take_next h0 (by rw [← size_list]; exact h1), List.map_append]; rfl
theorem bits_len {s : ByteArray} {i : Int} (h0 : 0 ≤ i) (h1 : i ≤ (s.size : Int)) : ((s.data.toList.take i.toNat).map bit1).length = i.toNat := by
  rw [List.length_map, len_take h0 (by rw [← size_list]; exact h1)]

theorem unbits_call (gw : World) (gb : Nat) (s : ByteArray) (hs : s.size ≤ 100000) : VCall Tryd.prog gw (gb) 53 [.one (.c (.string s))] (.one (.sl true (unbitsF s).length ((unbitsF s).map (fun b => PC.c (Value.bool b))))) [] := by
  refine vcall_of [.tmp 2] Tryd.func53 rfl rfl Tryd.ntmps53 rfl (by simp) ?_
  intro C hP hnt hgw hgb hfull
  refine vwp_seq_region rfl fun K hK => ?_
  simp (dsimp := false) only [push_cast, hP, hnt, hgw, hgb, Nat.reduceLT, Nat.reduceEqDiff, Nat.reduceAdd, Nat.reduceSub, Nat.reduceMul, Nat.reduceLeDiff, ↓reduceIte, reduceCtorEq]
  refine hK _ ?_; clear hK
  refine vwp_seq fun K hK => ?_
  refine vwp_seq_region rfl fun K hK => ?_
  simp (dsimp := false) only [push_cast, hP, hnt, hgw, hgb, Nat.reduceLT, Nat.reduceEqDiff, Nat.reduceAdd, Nat.reduceSub, Nat.reduceMul, Nat.reduceLeDiff, ↓reduceIte, reduceCtorEq]
  refine hK _ ?_; clear hK
  refine vwp_cond (b := _) (by simp (dsimp := false) only [push_cast, hP, hnt, hgw, hgb, Nat.reduceLT, Nat.reduceEqDiff, Nat.reduceAdd, Nat.reduceSub, Nat.reduceMul, Nat.reduceLeDiff, ↓reduceIte, reduceCtorEq]; rfl) (fun rb0 => ?_) (fun rb0 => ?_)
  · have hb0 := rb0
    try simp only [beq_iff_eq, bne_iff_ne, ne_eq, bne_eq_false_iff_eq, beq_eq_false_iff_ne, decide_eq_true_eq, decide_eq_false_iff_not, Bool.not_eq_true', Bool.not_eq_false', Bool.or_eq_true, Bool.and_eq_true, Bool.or_eq_false_iff, Bool.and_eq_false_iff] at hb0
    refine vwp_seq_region rfl fun K hK => ?_
    simp (dsimp := false) only [push_cast, hP, hnt, hgw, hgb, Nat.reduceLT, Nat.reduceEqDiff, Nat.reduceAdd, Nat.reduceSub, Nat.reduceMul, Nat.reduceLeDiff, ↓reduceIte, reduceCtorEq]
    refine hK _ ?_; clear hK
    refine vwp_ret ?_
    refine ret_conv [] [] (by simp (dsimp := false) only [push_cast, hP, hnt, hgw, hgb, Nat.reduceLT, Nat.reduceEqDiff, Nat.reduceAdd, Nat.reduceSub, Nat.reduceMul, Nat.reduceLeDiff, ↓reduceIte, reduceCtorEq]; rfl) (by simp) (by simp) (by first | decide | simp) ?_ ?_
    · simp only [pack]
      rw [show unbitsF s = [] from if_pos hb0]
      repeat' (first | exact ConvVs.nil | exact ConvL.nil | refine ConvV.tup ?_ | refine ConvVs.cons ?_ ?_ | (refine ConvV.self ?_; simp only [push_cast, boolP_free]; done) | refine ConvV.one ?_ | refine ConvV.agg ?_ | (refine ConvL.free ?_; simp only [push_cast, boolP_free]; done) | refine ConvL.append ?_ ?_ | refine ConvL.cons ?_ ?_ | exact Conv.free rfl | exact Conv.nil | (refine Conv.own ?_; simp; done) | (refine Conv.loc ?_; simp; done) | refine Conv.frz (by simp) (by simp (dsimp := false) only [push_cast, ↓reduceIte, Nat.reduceEqDiff, Nat.reduceAdd, reduceCtorEq] <;> rfl) ?_ | refine Conv.sl (by simp) ?_ | refine Conv.fn ?_)
    · exact rb_nil
  · have hb0 := rb0
    try simp only [beq_iff_eq, bne_iff_ne, ne_eq, bne_eq_false_iff_eq, beq_eq_false_iff_ne, decide_eq_true_eq, decide_eq_false_iff_not, Bool.not_eq_true', Bool.not_eq_false', Bool.or_eq_true, Bool.and_eq_true, Bool.or_eq_false_iff, Bool.and_eq_false_iff] at hb0
    refine vwp_skip ?_
    apply_assumption
    refine vwp_seq_region rfl fun K hK => ?_
    simp (dsimp := false) only [push_cast, hP, hnt, hgw, hgb, Nat.reduceLT, Nat.reduceEqDiff, Nat.reduceAdd, Nat.reduceSub, Nat.reduceMul, Nat.reduceLeDiff, ↓reduceIte, reduceCtorEq]
    refine hK _ ?_; clear hK
    refine vwp_seq fun K hK => ?_
    refine vwp_seq_region rfl fun K hK => ?_
    simp (dsimp := false) only [push_cast, hP, hnt, hgw, hgb, Nat.reduceLT, Nat.reduceEqDiff, Nat.reduceAdd, Nat.reduceSub, Nat.reduceMul, Nat.reduceLeDiff, ↓reduceIte, reduceCtorEq]
    refine hK _ ?_; clear hK
    refine vwp_wk (wk_nil_slot (t := 3) (d := 3) 4 1 (by first | (simp (dsimp := false) only [push_cast, hP, hnt, hgw, hgb, Nat.reduceLT, Nat.reduceEqDiff, Nat.reduceAdd, Nat.reduceSub, Nat.reduceMul, Nat.reduceLeDiff, ↓reduceIte, reduceCtorEq]; rfl) | (simp (dsimp := false) only [push_cast, hP, hnt, hgw, hgb, Nat.reduceLT, Nat.reduceEqDiff, Nat.reduceAdd, Nat.reduceSub, Nat.reduceMul, Nat.reduceLeDiff, ↓reduceIte, reduceCtorEq]; done)) (by first | (simp (dsimp := false) only [push_cast, hP, hnt, hgw, hgb, Nat.reduceLT, Nat.reduceEqDiff, Nat.reduceAdd, Nat.reduceSub, Nat.reduceMul, Nat.reduceLeDiff, ↓reduceIte, reduceCtorEq]; done) | (simp (dsimp := false) only [push_cast, hP, hnt, hgw, hgb, Nat.reduceLT, Nat.reduceEqDiff, Nat.reduceAdd, Nat.reduceSub, Nat.reduceMul, Nat.reduceLeDiff, ↓reduceIte, reduceCtorEq]; rfl))) ?_
    simp (dsimp := false) only [push_cast, hP, hnt, hgw, hgb, Nat.reduceLT, Nat.reduceEqDiff, Nat.reduceAdd, Nat.reduceSub, Nat.reduceMul, Nat.reduceLeDiff, ↓reduceIte, reduceCtorEq]
    refine vwp_block ?_
    refine vwp_loop (fun m σ => ∃ (i : Int), m = (s.size - i).toNat ∧ ((0 ≤ i) ∧ (i ≤ s.size)) ∧ σ = St.of [(0, .one (.c (.string s))), (3, .one (.own (4, 0))), (8, .one (.c (.int .i64 s.size))), (9, .one (.c (.int .i64 i)))] [((4, 0), rowB ((s.data.toList.take i.toNat).map bit1))] [3]) _ ⟨_, ?_, 0, rfl, ?_, rfl⟩ ?_
    · refine wk_conv [] [((4, 0), (4, 0))] (by simp) (by simp) (by decide) ?_ ?_
      · refine hf_cons (by simp (dsimp := false) only [push_cast, ↓reduceIte, Nat.reduceEqDiff, Nat.reduceAdd, reduceCtorEq] <;> rfl) (by exact ConvV.self rfl) ?_
        refine hf_cons (by simp (dsimp := false) only [push_cast, ↓reduceIte, Nat.reduceEqDiff, Nat.reduceAdd, reduceCtorEq] <;> rfl) (by exact .one (.own (by simp))) ?_
        refine hf_cons (by simp (dsimp := false) only [push_cast, ↓reduceIte, Nat.reduceEqDiff, Nat.reduceAdd, reduceCtorEq] <;> rfl) (by exact ConvV.self rfl) ?_
        refine hf_cons (by simp (dsimp := false) only [push_cast, ↓reduceIte, Nat.reduceEqDiff, Nat.reduceAdd, reduceCtorEq] <;> rfl) (by exact ConvV.self rfl) ?_
        exact hf_nil
      · refine hh_cons (i := (4, 0)) (by simp) (by simp) (by simp (dsimp := false) only [push_cast, ↓reduceIte, Nat.reduceEqDiff, Nat.reduceAdd, reduceCtorEq] <;> rfl) (by exact ConvB.arr (ConvL.free (boolP_free []))) ?_
        exact hh_nil
    · exact ⟨by omega, by omega⟩
    · rintro m τ ⟨i, hm, ⟨hi0, hi1⟩, rfl⟩ K hL0
      have hw := fun h : i < (s.size : Int) => wrap_next hi0 h (by omega)
      have hlen := bits_len (s := s) hi0 hi1
      have hz3 : ((s.data.toList.take i.toNat).map bit1).length + 1 ≤ 140737488355328 := by omega
      have hz4 : (((s.data.toList.take i.toNat).map bit1).length + 1) * 1 ≤ 140737488355328 := by omega
      refine vwp_seq_region rfl fun K hK => ?_
      simp (dsimp := false) only [push_cast, hP, hnt, hgw, hgb, Nat.reduceLT, Nat.reduceEqDiff, Nat.reduceAdd, Nat.reduceSub, Nat.reduceMul, Nat.reduceLeDiff, ↓reduceIte, reduceCtorEq, hi0, rowB, hz3, hz4]
      refine hK _ ?_; clear hK
      refine vwp_seq fun K hK => ?_
      refine vwp_cond (b := _) (by simp (dsimp := false) only [push_cast, hP, hnt, hgw, hgb, Nat.reduceLT, Nat.reduceEqDiff, Nat.reduceAdd, Nat.reduceSub, Nat.reduceMul, Nat.reduceLeDiff, ↓reduceIte, reduceCtorEq, hi0, rowB, hz3, hz4]; rfl) (fun rb1 => ?_) (fun rb1 => ?_)
      · have hb1 := rb1
        try simp only [beq_iff_eq, bne_iff_ne, ne_eq, bne_eq_false_iff_eq, beq_eq_false_iff_ne, decide_eq_true_eq, decide_eq_false_iff_not, Bool.not_eq_true', Bool.not_eq_false', Bool.or_eq_true, Bool.and_eq_true, Bool.or_eq_false_iff, Bool.and_eq_false_iff] at hb1
        have hw := hw hb1
        have hbx := hb1
        refine vwp_skip ?_
        apply_assumption
        refine vwp_seq fun K hK => ?_
        refine vwp_block ?_
        refine vwp_seq_region rfl fun K hK => ?_
        simp (dsimp := false) only [push_cast, hP, hnt, hgw, hgb, Nat.reduceLT, Nat.reduceEqDiff, Nat.reduceAdd, Nat.reduceSub, Nat.reduceMul, Nat.reduceLeDiff, ↓reduceIte, reduceCtorEq, hi0, rowB, hz3, hz4, hw, hb1]
        refine hK _ ?_; clear hK
        refine vwp_region rfl ?_
        simp (dsimp := false) only [push_cast, hP, hnt, hgw, hgb, Nat.reduceLT, Nat.reduceEqDiff, Nat.reduceAdd, Nat.reduceSub, Nat.reduceMul, Nat.reduceLeDiff, ↓reduceIte, reduceCtorEq, hi0, rowB, hz3, hz4, hw, hb1]
        apply_assumption
        refine vwp_region rfl ?_
        simp (dsimp := false) only [push_cast, hP, hnt, hgw, hgb, Nat.reduceLT, Nat.reduceEqDiff, Nat.reduceAdd, Nat.reduceSub, Nat.reduceMul, Nat.reduceLeDiff, ↓reduceIte, reduceCtorEq, hi0, rowB, hz3, hz4, hw, hb1]
        refine hL0 _ _ _ ?_ ?_ ⟨i + 1, rfl, ?_, rfl⟩
        · omega
        · refine wk_conv [] [((19, 0), (4, 0))] (by simp) (by simp) (by decide) ?_ ?_
          · refine hf_cons (by simp (dsimp := false) only [push_cast, ↓reduceIte, Nat.reduceEqDiff, Nat.reduceAdd, reduceCtorEq, hi0, rowB, hz3, hz4, hw, hb1] <;> rfl) (by exact ConvV.self rfl) ?_
            refine hf_cons (by simp (dsimp := false) only [push_cast, ↓reduceIte, Nat.reduceEqDiff, Nat.reduceAdd, reduceCtorEq, hi0, rowB, hz3, hz4, hw, hb1] <;> rfl) (by exact .one (.own (by simp))) ?_
            refine hf_cons (by simp (dsimp := false) only [push_cast, ↓reduceIte, Nat.reduceEqDiff, Nat.reduceAdd, reduceCtorEq, hi0, rowB, hz3, hz4, hw, hb1] <;> rfl) (by exact ConvV.self rfl) ?_
            refine hf_cons (by simp (dsimp := false) only [push_cast, ↓reduceIte, Nat.reduceEqDiff, Nat.reduceAdd, reduceCtorEq, hi0, rowB, hz3, hz4, hw, hb1] <;> rfl) (by exact ConvV.self rfl) ?_
            exact hf_nil
          · refine hh_cons (i := (19, 0)) (by simp) (by simp) (by simp (dsimp := false) only [push_cast, ↓reduceIte, Nat.reduceEqDiff, Nat.reduceAdd, reduceCtorEq, hi0, rowB, hz3, hz4, hw, hb1] <;> rfl) (by rw [bits_next hi0 hbx]; simp only [rowB, List.map_append (f := fun b => PC.c (Value.bool b)), List.length_append]; exact ConvB.arr (ConvL.free (by rw [frees_append, boolP_free]; rfl))) ?_
            exact hh_nil
        · exact ⟨by omega, by omega⟩
      · have hb1 := rb1
        try simp only [beq_iff_eq, bne_iff_ne, ne_eq, bne_eq_false_iff_eq, beq_eq_false_iff_ne, decide_eq_true_eq, decide_eq_false_iff_not, Bool.not_eq_true', Bool.not_eq_false', Bool.or_eq_true, Bool.and_eq_true, Bool.or_eq_false_iff, Bool.and_eq_false_iff] at hb1
        have hend : s.data.toList.take i.toNat = s.data.toList := take_all (by rw [← size_list]; exact hb1)
        refine vwp_exit ?_
        simp only [thenQ, blockQ, Nat.reduceEqDiff, reduceIte]
        apply_assumption
        refine vwp_seq_region rfl fun K hK => ?_
        simp (dsimp := false) only [push_cast, hP, hnt, hgw, hgb, Nat.reduceLT, Nat.reduceEqDiff, Nat.reduceAdd, Nat.reduceSub, Nat.reduceMul, Nat.reduceLeDiff, ↓reduceIte, reduceCtorEq, hi0, rowB, hz3, hz4, hend]
        refine hK _ ?_; clear hK
        refine vwp_ret ?_
        refine ret_conv [(4, 0)] [] (by simp (dsimp := false) only [push_cast, hP, hnt, hgw, hgb, Nat.reduceLT, Nat.reduceEqDiff, Nat.reduceAdd, Nat.reduceSub, Nat.reduceMul, Nat.reduceLeDiff, ↓reduceIte, reduceCtorEq, hi0, rowB, hz3, hz4, hend]; rfl) (by simp) (by simp) (by first | decide | simp) ?_ ?_
        · simp only [pack]
          rw [show unbitsF s = s.data.toList.map bit1 from if_neg hb0]
          repeat' (first | exact ConvVs.nil | exact ConvL.nil | refine ConvV.tup ?_ | refine ConvVs.cons ?_ ?_ | (refine ConvV.self ?_; simp only [push_cast, boolP_free]; done) | refine ConvV.one ?_ | refine ConvV.agg ?_ | (refine ConvL.free ?_; simp only [push_cast, boolP_free]; done) | refine ConvL.append ?_ ?_ | refine ConvL.cons ?_ ?_ | exact Conv.free rfl | exact Conv.nil | (refine Conv.own ?_; simp; done) | (refine Conv.loc ?_; simp; done) | refine Conv.frz (by simp) (by simp (dsimp := false) only [push_cast, ↓reduceIte, Nat.reduceEqDiff, Nat.reduceAdd, reduceCtorEq, hi0, rowB, hz3, hz4, hend] <;> rfl) ?_ | refine Conv.sl (by simp) ?_ | refine Conv.fn ?_)
        · exact rb_nil
theorem refUnbits_call (gw : World) (gb : Nat) (s : ByteArray) (hs : s.size ≤ 100000) : VCall Tryd.prog gw (gb) 56 [.one (.c (.string s))] (.one (.sl true (unbitsF s).length ((unbitsF s).map (fun b => PC.c (Value.bool b))))) [] := by
  refine vcall_of [.tmp 2] Tryd.func56 rfl rfl Tryd.ntmps56 rfl (by simp) ?_
  intro C hP hnt hgw hgb hfull
  refine vwp_seq_region rfl fun K hK => ?_
  simp (dsimp := false) only [push_cast, hP, hnt, hgw, hgb, Nat.reduceLT, Nat.reduceEqDiff, Nat.reduceAdd, Nat.reduceSub, Nat.reduceMul, Nat.reduceLeDiff, ↓reduceIte, reduceCtorEq]
  refine hK _ ?_; clear hK
  refine vwp_seq fun K hK => ?_
  refine vwp_seq_region rfl fun K hK => ?_
  simp (dsimp := false) only [push_cast, hP, hnt, hgw, hgb, Nat.reduceLT, Nat.reduceEqDiff, Nat.reduceAdd, Nat.reduceSub, Nat.reduceMul, Nat.reduceLeDiff, ↓reduceIte, reduceCtorEq]
  refine hK _ ?_; clear hK
  refine vwp_cond (b := _) (by simp (dsimp := false) only [push_cast, hP, hnt, hgw, hgb, Nat.reduceLT, Nat.reduceEqDiff, Nat.reduceAdd, Nat.reduceSub, Nat.reduceMul, Nat.reduceLeDiff, ↓reduceIte, reduceCtorEq]; rfl) (fun rb0 => ?_) (fun rb0 => ?_)
  · have hb0 := rb0
    try simp only [beq_iff_eq, bne_iff_ne, ne_eq, bne_eq_false_iff_eq, beq_eq_false_iff_ne, decide_eq_true_eq, decide_eq_false_iff_not, Bool.not_eq_true', Bool.not_eq_false', Bool.or_eq_true, Bool.and_eq_true, Bool.or_eq_false_iff, Bool.and_eq_false_iff] at hb0
    refine vwp_seq_region rfl fun K hK => ?_
    simp (dsimp := false) only [push_cast, hP, hnt, hgw, hgb, Nat.reduceLT, Nat.reduceEqDiff, Nat.reduceAdd, Nat.reduceSub, Nat.reduceMul, Nat.reduceLeDiff, ↓reduceIte, reduceCtorEq]
    refine hK _ ?_; clear hK
    refine vwp_ret ?_
    refine ret_conv [] [] (by simp (dsimp := false) only [push_cast, hP, hnt, hgw, hgb, Nat.reduceLT, Nat.reduceEqDiff, Nat.reduceAdd, Nat.reduceSub, Nat.reduceMul, Nat.reduceLeDiff, ↓reduceIte, reduceCtorEq]; rfl) (by simp) (by simp) (by first | decide | simp) ?_ ?_
    · simp only [pack]
      rw [show unbitsF s = [] from if_pos hb0]
      repeat' (first | exact ConvVs.nil | exact ConvL.nil | refine ConvV.tup ?_ | refine ConvVs.cons ?_ ?_ | (refine ConvV.self ?_; simp only [push_cast, boolP_free]; done) | refine ConvV.one ?_ | refine ConvV.agg ?_ | (refine ConvL.free ?_; simp only [push_cast, boolP_free]; done) | refine ConvL.append ?_ ?_ | refine ConvL.cons ?_ ?_ | exact Conv.free rfl | exact Conv.nil | (refine Conv.own ?_; simp; done) | (refine Conv.loc ?_; simp; done) | refine Conv.frz (by simp) (by simp (dsimp := false) only [push_cast, ↓reduceIte, Nat.reduceEqDiff, Nat.reduceAdd, reduceCtorEq] <;> rfl) ?_ | refine Conv.sl (by simp) ?_ | refine Conv.fn ?_)
    · exact rb_nil
  · have hb0 := rb0
    try simp only [beq_iff_eq, bne_iff_ne, ne_eq, bne_eq_false_iff_eq, beq_eq_false_iff_ne, decide_eq_true_eq, decide_eq_false_iff_not, Bool.not_eq_true', Bool.not_eq_false', Bool.or_eq_true, Bool.and_eq_true, Bool.or_eq_false_iff, Bool.and_eq_false_iff] at hb0
    refine vwp_skip ?_
    apply_assumption
    refine vwp_seq_region rfl fun K hK => ?_
    simp (dsimp := false) only [push_cast, hP, hnt, hgw, hgb, Nat.reduceLT, Nat.reduceEqDiff, Nat.reduceAdd, Nat.reduceSub, Nat.reduceMul, Nat.reduceLeDiff, ↓reduceIte, reduceCtorEq]
    refine hK _ ?_; clear hK
    refine vwp_seq fun K hK => ?_
    refine vwp_seq_region rfl fun K hK => ?_
    simp (dsimp := false) only [push_cast, hP, hnt, hgw, hgb, Nat.reduceLT, Nat.reduceEqDiff, Nat.reduceAdd, Nat.reduceSub, Nat.reduceMul, Nat.reduceLeDiff, ↓reduceIte, reduceCtorEq]
    refine hK _ ?_; clear hK
    refine vwp_wk (wk_nil_slot (t := 3) (d := 3) 4 1 (by first | (simp (dsimp := false) only [push_cast, hP, hnt, hgw, hgb, Nat.reduceLT, Nat.reduceEqDiff, Nat.reduceAdd, Nat.reduceSub, Nat.reduceMul, Nat.reduceLeDiff, ↓reduceIte, reduceCtorEq]; rfl) | (simp (dsimp := false) only [push_cast, hP, hnt, hgw, hgb, Nat.reduceLT, Nat.reduceEqDiff, Nat.reduceAdd, Nat.reduceSub, Nat.reduceMul, Nat.reduceLeDiff, ↓reduceIte, reduceCtorEq]; done)) (by first | (simp (dsimp := false) only [push_cast, hP, hnt, hgw, hgb, Nat.reduceLT, Nat.reduceEqDiff, Nat.reduceAdd, Nat.reduceSub, Nat.reduceMul, Nat.reduceLeDiff, ↓reduceIte, reduceCtorEq]; done) | (simp (dsimp := false) only [push_cast, hP, hnt, hgw, hgb, Nat.reduceLT, Nat.reduceEqDiff, Nat.reduceAdd, Nat.reduceSub, Nat.reduceMul, Nat.reduceLeDiff, ↓reduceIte, reduceCtorEq]; rfl))) ?_
    simp (dsimp := false) only [push_cast, hP, hnt, hgw, hgb, Nat.reduceLT, Nat.reduceEqDiff, Nat.reduceAdd, Nat.reduceSub, Nat.reduceMul, Nat.reduceLeDiff, ↓reduceIte, reduceCtorEq]
    refine vwp_block ?_
    refine vwp_loop (fun m σ => ∃ (i : Int), m = (s.size - i).toNat ∧ ((0 ≤ i) ∧ (i ≤ s.size)) ∧ σ = St.of [(0, .one (.c (.string s))), (3, .one (.own (4, 0))), (4, .one (.c (.int .i64 i)))] [((4, 0), rowB ((s.data.toList.take i.toNat).map bit1))] [3]) _ ⟨_, ?_, 0, rfl, ?_, rfl⟩ ?_
    · refine wk_conv [] [((4, 0), (4, 0))] (by simp) (by simp) (by decide) ?_ ?_
      · refine hf_cons (by simp (dsimp := false) only [push_cast, ↓reduceIte, Nat.reduceEqDiff, Nat.reduceAdd, reduceCtorEq] <;> rfl) (by exact ConvV.self rfl) ?_
        refine hf_cons (by simp (dsimp := false) only [push_cast, ↓reduceIte, Nat.reduceEqDiff, Nat.reduceAdd, reduceCtorEq] <;> rfl) (by exact .one (.own (by simp))) ?_
        refine hf_cons (by simp (dsimp := false) only [push_cast, ↓reduceIte, Nat.reduceEqDiff, Nat.reduceAdd, reduceCtorEq] <;> rfl) (by exact ConvV.self rfl) ?_
        exact hf_nil
      · refine hh_cons (i := (4, 0)) (by simp) (by simp) (by simp (dsimp := false) only [push_cast, ↓reduceIte, Nat.reduceEqDiff, Nat.reduceAdd, reduceCtorEq] <;> rfl) (by exact ConvB.arr (ConvL.free (boolP_free []))) ?_
        exact hh_nil
    · exact ⟨by omega, by omega⟩
    · rintro m τ ⟨i, hm, ⟨hi0, hi1⟩, rfl⟩ K hL0
      have hw := fun h : i < (s.size : Int) => wrap_next hi0 h (by omega)
      have hlen := bits_len (s := s) hi0 hi1
      have hz3 : ((s.data.toList.take i.toNat).map bit1).length + 1 ≤ 140737488355328 := by omega
      have hz4 : (((s.data.toList.take i.toNat).map bit1).length + 1) * 1 ≤ 140737488355328 := by omega
      refine vwp_seq fun K hK => ?_
      refine vwp_seq_region rfl fun K hK => ?_
      simp (dsimp := false) only [push_cast, hP, hnt, hgw, hgb, Nat.reduceLT, Nat.reduceEqDiff, Nat.reduceAdd, Nat.reduceSub, Nat.reduceMul, Nat.reduceLeDiff, ↓reduceIte, reduceCtorEq, hi0, rowB, hz3, hz4]
      refine hK _ ?_; clear hK
      refine vwp_cond (b := _) (by simp (dsimp := false) only [push_cast, hP, hnt, hgw, hgb, Nat.reduceLT, Nat.reduceEqDiff, Nat.reduceAdd, Nat.reduceSub, Nat.reduceMul, Nat.reduceLeDiff, ↓reduceIte, reduceCtorEq, hi0, rowB, hz3, hz4]; rfl) (fun rb1 => ?_) (fun rb1 => ?_)
      · have hb1 := rb1
        try simp only [beq_iff_eq, bne_iff_ne, ne_eq, bne_eq_false_iff_eq, beq_eq_false_iff_ne, decide_eq_true_eq, decide_eq_false_iff_not, Bool.not_eq_true', Bool.not_eq_false', Bool.or_eq_true, Bool.and_eq_true, Bool.or_eq_false_iff, Bool.and_eq_false_iff] at hb1
        have hw := hw hb1
        have hbx := hb1
        refine vwp_skip ?_
        apply_assumption
        refine vwp_seq fun K hK => ?_
        refine vwp_block ?_
        refine vwp_region rfl ?_
        simp (dsimp := false) only [push_cast, hP, hnt, hgw, hgb, Nat.reduceLT, Nat.reduceEqDiff, Nat.reduceAdd, Nat.reduceSub, Nat.reduceMul, Nat.reduceLeDiff, ↓reduceIte, reduceCtorEq, hi0, rowB, hz3, hz4, hw, hb1]
        apply_assumption
        refine vwp_region rfl ?_
        simp (dsimp := false) only [push_cast, hP, hnt, hgw, hgb, Nat.reduceLT, Nat.reduceEqDiff, Nat.reduceAdd, Nat.reduceSub, Nat.reduceMul, Nat.reduceLeDiff, ↓reduceIte, reduceCtorEq, hi0, rowB, hz3, hz4, hw, hb1]
        refine hL0 _ _ _ ?_ ?_ ⟨i + 1, rfl, ?_, rfl⟩
        · omega
        · refine wk_conv [] [((20, 0), (4, 0))] (by simp) (by simp) (by decide) ?_ ?_
          · refine hf_cons (by simp (dsimp := false) only [push_cast, ↓reduceIte, Nat.reduceEqDiff, Nat.reduceAdd, reduceCtorEq, hi0, rowB, hz3, hz4, hw, hb1] <;> rfl) (by exact ConvV.self rfl) ?_
            refine hf_cons (by simp (dsimp := false) only [push_cast, ↓reduceIte, Nat.reduceEqDiff, Nat.reduceAdd, reduceCtorEq, hi0, rowB, hz3, hz4, hw, hb1] <;> rfl) (by exact .one (.own (by simp))) ?_
            refine hf_cons (by simp (dsimp := false) only [push_cast, ↓reduceIte, Nat.reduceEqDiff, Nat.reduceAdd, reduceCtorEq, hi0, rowB, hz3, hz4, hw, hb1] <;> rfl) (by exact ConvV.self rfl) ?_
            exact hf_nil
          · refine hh_cons (i := (20, 0)) (by simp) (by simp) (by simp (dsimp := false) only [push_cast, ↓reduceIte, Nat.reduceEqDiff, Nat.reduceAdd, reduceCtorEq, hi0, rowB, hz3, hz4, hw, hb1] <;> rfl) (by rw [bits_next hi0 hbx]; simp only [rowB, List.map_append (f := fun b => PC.c (Value.bool b)), List.length_append]; exact ConvB.arr (ConvL.free (by rw [frees_append, boolP_free]; rfl))) ?_
            exact hh_nil
        · exact ⟨by omega, by omega⟩
      · have hb1 := rb1
        try simp only [beq_iff_eq, bne_iff_ne, ne_eq, bne_eq_false_iff_eq, beq_eq_false_iff_ne, decide_eq_true_eq, decide_eq_false_iff_not, Bool.not_eq_true', Bool.not_eq_false', Bool.or_eq_true, Bool.and_eq_true, Bool.or_eq_false_iff, Bool.and_eq_false_iff] at hb1
        have hend : s.data.toList.take i.toNat = s.data.toList := take_all (by rw [← size_list]; exact hb1)
        refine vwp_exit ?_
        simp only [thenQ, blockQ, Nat.reduceEqDiff, reduceIte]
        apply_assumption
        refine vwp_seq_region rfl fun K hK => ?_
        simp (dsimp := false) only [push_cast, hP, hnt, hgw, hgb, Nat.reduceLT, Nat.reduceEqDiff, Nat.reduceAdd, Nat.reduceSub, Nat.reduceMul, Nat.reduceLeDiff, ↓reduceIte, reduceCtorEq, hi0, rowB, hz3, hz4, hend]
        refine hK _ ?_; clear hK
        refine vwp_ret ?_
        refine ret_conv [(4, 0)] [] (by simp (dsimp := false) only [push_cast, hP, hnt, hgw, hgb, Nat.reduceLT, Nat.reduceEqDiff, Nat.reduceAdd, Nat.reduceSub, Nat.reduceMul, Nat.reduceLeDiff, ↓reduceIte, reduceCtorEq, hi0, rowB, hz3, hz4, hend]; rfl) (by simp) (by simp) (by first | decide | simp) ?_ ?_
        · simp only [pack]
          rw [show unbitsF s = s.data.toList.map bit1 from if_neg hb0]
          repeat' (first | exact ConvVs.nil | exact ConvL.nil | refine ConvV.tup ?_ | refine ConvVs.cons ?_ ?_ | (refine ConvV.self ?_; simp only [push_cast, boolP_free]; done) | refine ConvV.one ?_ | refine ConvV.agg ?_ | (refine ConvL.free ?_; simp only [push_cast, boolP_free]; done) | refine ConvL.append ?_ ?_ | refine ConvL.cons ?_ ?_ | exact Conv.free rfl | exact Conv.nil | (refine Conv.own ?_; simp; done) | (refine Conv.loc ?_; simp; done) | refine Conv.frz (by simp) (by simp (dsimp := false) only [push_cast, ↓reduceIte, Nat.reduceEqDiff, Nat.reduceAdd, reduceCtorEq, hi0, rowB, hz3, hz4, hend] <;> rfl) ?_ | refine Conv.sl (by simp) ?_ | refine Conv.fn ?_)
        · exact rb_nil
end Go.Vm
end

section
namespace Go.Vm
open Go Go.RowKit Go.Proofs
set_option maxRecDepth 100000
set_option linter.unusedSimpArgs false
set_option linter.unusedVariables false
set_option maxHeartbeats 4000000

def digA (n : Int) : ByteArray := if 0 ≤ n then digB n else ofBytes [IntKind.wrap .u8 (IntKind.wrap .i64 (48 + n.tmod 10))]
theorem digits_neg (gw : World) (gb : Nat) (n : Int) (h0 : n < 0) : VCall Tryd.prog gw (gb) 82 [.one (.c (.int .i64 n))] (.one (.c (.string (digA n)))) [] := by
  have hge : (decide (10 ≤ n)) = false := decide_eq_false (by omega)
  refine vcall_of [.tmp 2] Tryd.func82 rfl rfl Tryd.ntmps82 rfl (by simp) ?_
  intro C hP hnt hgw hgb hfull
  refine vwp_seq_region rfl fun K hK => ?_
  simp (dsimp := false) only [push_cast, hP, hnt, hgw, hgb, Nat.reduceLT, Nat.reduceEqDiff, Nat.reduceAdd, Nat.reduceSub, Nat.reduceMul, Nat.reduceLeDiff, ↓reduceIte, reduceCtorEq, Int.reduceEq]
  refine hK _ ?_; clear hK
  refine vwp_seq_region rfl fun K hK => ?_
  simp (dsimp := false) only [push_cast, hP, hnt, hgw, hgb, Nat.reduceLT, Nat.reduceEqDiff, Nat.reduceAdd, Nat.reduceSub, Nat.reduceMul, Nat.reduceLeDiff, ↓reduceIte, reduceCtorEq, Int.reduceEq]
  refine hK _ ?_; clear hK
  refine vwp_seq fun K hK => ?_
  refine vwp_seq_region rfl fun K hK => ?_
  simp (dsimp := false) only [push_cast, hP, hnt, hgw, hgb, Nat.reduceLT, Nat.reduceEqDiff, Nat.reduceAdd, Nat.reduceSub, Nat.reduceMul, Nat.reduceLeDiff, ↓reduceIte, reduceCtorEq, Int.reduceEq]
  refine hK _ ?_; clear hK
  refine vwp_cond (b := _) (by simp (dsimp := false) only [push_cast, hP, hnt, hgw, hgb, Nat.reduceLT, Nat.reduceEqDiff, Nat.reduceAdd, Nat.reduceSub, Nat.reduceMul, Nat.reduceLeDiff, ↓reduceIte, reduceCtorEq, Int.reduceEq]; rfl) (fun rb0 => ?_) (fun rb0 => ?_)
  · have hb0 := rb0
    try simp only [beq_iff_eq, bne_iff_ne, ne_eq, bne_eq_false_iff_eq, beq_eq_false_iff_ne, decide_eq_true_eq, decide_eq_false_iff_not, Bool.not_eq_true', Bool.not_eq_false', Bool.or_eq_true, Bool.and_eq_true, Bool.or_eq_false_iff, Bool.and_eq_false_iff] at hb0
    exfalso; omega
  · have hb0 := rb0
    try simp only [beq_iff_eq, bne_iff_ne, ne_eq, bne_eq_false_iff_eq, beq_eq_false_iff_ne, decide_eq_true_eq, decide_eq_false_iff_not, Bool.not_eq_true', Bool.not_eq_false', Bool.or_eq_true, Bool.and_eq_true, Bool.or_eq_false_iff, Bool.and_eq_false_iff] at hb0
    refine vwp_skip ?_
    apply_assumption
    refine vwp_seq_region rfl fun K hK => ?_
    simp (dsimp := false) only [push_cast, hP, hnt, hgw, hgb, Nat.reduceLT, Nat.reduceEqDiff, Nat.reduceAdd, Nat.reduceSub, Nat.reduceMul, Nat.reduceLeDiff, ↓reduceIte, reduceCtorEq, Int.reduceEq]
    refine hK _ ?_; clear hK
    refine vwp_ret ?_
    refine ret_free (by simp (dsimp := false) only [push_cast, hP, hnt, hgw, hgb, Nat.reduceLT, Nat.reduceEqDiff, Nat.reduceAdd, Nat.reduceSub, Nat.reduceMul, Nat.reduceLeDiff, ↓reduceIte, reduceCtorEq, Int.reduceEq]; rfl) (by simp (dsimp := false) only [push_cast, hP, hnt, hgw, hgb, Nat.reduceLT, Nat.reduceEqDiff, Nat.reduceAdd, Nat.reduceSub, Nat.reduceMul, Nat.reduceLeDiff, ↓reduceIte, reduceCtorEq, Int.reduceEq]) ?_
    rw [show digA n = ofBytes [IntKind.wrap .u8 (IntKind.wrap .i64 (48 + n.tmod 10))] from if_neg (by omega)]; rfl
theorem digitsA_call (gw : World) (gb : Nat) (n : Int) (h1 : n ≤ 9223372036854775807) : VCall Tryd.prog gw gb 82 [.one (.c (.int .i64 n))] (.one (.c (.string (digA n)))) [] := by
  by_cases h : 0 ≤ n
  · have := digits_call gw gb n h h1
    rwa [show digA n = digB n from if_pos h]
  · exact digits_neg gw gb n (by omega)
def numStep (n : Int) (b : UInt8) : Int := 10 * n + b.toNat - 48
def numGo (l : List UInt8) : Int := l.foldl numStep 0
def numBnd : Int → Nat → Int
  | c, 0 => c
  | c, k + 1 => numBnd (10 * c + 300) k
theorem foldl_bnd : ∀ (l : List UInt8) (a c : Int), -c ≤ a → a ≤ c → -(numBnd c l.length) ≤ l.foldl numStep a ∧ l.foldl numStep a ≤ numBnd c l.length
  | [], a, c, h1, h2 => ⟨h1, h2⟩
  | b :: l, a, c, h1, h2 => by
    have hb : b.toNat < 256 := b.toNat_lt
    exact foldl_bnd l (numStep a b) (10 * c + 300) (by unfold numStep; omega) (by unfold numStep; omega)
theorem numBnd_le : ∀ k, k ≤ 8 → numBnd 0 k ≤ 1000000000000 := by decide
theorem numGo_bnd {l : List UInt8} (h : l.length ≤ 8) : -1000000000000 ≤ numGo l ∧ numGo l ≤ 1000000000000 := by
  have h1 := foldl_bnd l 0 0 (by omega) (by omega)
  have h2 := numBnd_le l.length h
  unfold numGo; omega
theorem numGo_next {s : ByteArray} {i : Int} (h0 : 0 ≤ i) (h1 : i < (s.size : Int)) : numGo (s.data.toList.take (i + 1).toNat) = 10 * numGo (s.data.toList.take i.toNat) + ((byteAt s i.toNat).toNat : Int) - 48 := by
  rw [take_next h0 (by rw [← size_list]; exact h1)]
  unfold numGo; rw [List.foldl_append]; rfl
def numR (t : ByteArray) : Int := if 0 ≤ numGo (t.data.toList.take 8) ∧ (digB (numGo (t.data.toList.take 8))).toList = t.toList then numGo (t.data.toList.take 8) else -1
theorem refNumber_call (gw : World) (gb : Nat) (t : ByteArray) (ht : t.size ≤ 1000000) : VCall Tryd.prog gw (gb) 67 [.one (.c (.string t))] (.one (.c (.int .i64 (numR t)))) [] := by
  refine vcall_of [.tmp 2] Tryd.func67 rfl rfl Tryd.ntmps67 rfl (by simp) ?_
  intro C hP hnt hgw hgb hfull
  refine vwp_seq_region rfl fun K hK => ?_
  simp (dsimp := false) only [push_cast, hP, hnt, hgw, hgb, Nat.reduceLT, Nat.reduceEqDiff, Nat.reduceAdd, Nat.reduceSub, Nat.reduceMul, Nat.reduceLeDiff, ↓reduceIte, reduceCtorEq]
  refine hK _ ?_; clear hK
  refine vwp_seq_region rfl fun K hK => ?_
  simp (dsimp := false) only [push_cast, hP, hnt, hgw, hgb, Nat.reduceLT, Nat.reduceEqDiff, Nat.reduceAdd, Nat.reduceSub, Nat.reduceMul, Nat.reduceLeDiff, ↓reduceIte, reduceCtorEq]
  refine hK _ ?_; clear hK
  refine vwp_seq fun K hK => ?_
  refine vwp_seq_region rfl fun K hK => ?_
  simp (dsimp := false) only [push_cast, hP, hnt, hgw, hgb, Nat.reduceLT, Nat.reduceEqDiff, Nat.reduceAdd, Nat.reduceSub, Nat.reduceMul, Nat.reduceLeDiff, ↓reduceIte, reduceCtorEq]
  refine hK _ ?_; clear hK
  refine vwp_block ?_
  have hz : (0 : Int) = numGo (t.data.toList.take (Int.toNat 0)) := rfl
  refine vwp_loop (fun m σ => ∃ (i : Int), m = (t.size - i).toNat ∧ ((0 ≤ i) ∧ (i ≤ t.size) ∧ (i ≤ 8)) ∧ σ = St.of [(0, .one (.c (.string t))), (3, .one (.c (.int .i64 (numGo (t.data.toList.take i.toNat))))), (4, .one (.c (.int .i64 i)))] [] []) _ ⟨_, ?_, 0, rfl, ?_, rfl⟩ ?_
  · refine wk_conv [] [] (by simp) (by simp) (by decide) ?_ ?_
    · refine hf_cons (by simp (dsimp := false) only [push_cast, ↓reduceIte, Nat.reduceEqDiff, Nat.reduceAdd, reduceCtorEq] <;> rfl) (by exact ConvV.self rfl) ?_
      refine hf_cons (by simp (dsimp := false) only [push_cast, ↓reduceIte, Nat.reduceEqDiff, Nat.reduceAdd, reduceCtorEq] <;> rfl) (by exact ConvV.self rfl) ?_
      refine hf_cons (by simp (dsimp := false) only [push_cast, ↓reduceIte, Nat.reduceEqDiff, Nat.reduceAdd, reduceCtorEq] <;> rfl) (by exact ConvV.self rfl) ?_
      exact hf_nil
    · exact hh_nil
  · exact ⟨by omega, by omega, by omega⟩
  · rintro m τ ⟨i, hm, ⟨hi0, hi1, hi8⟩, rfl⟩ K hL0
    have hw := fun h : i < (t.size : Int) => wrap_next hi0 h (by omega)
    have hbn := numGo_bnd (l := t.data.toList.take i.toNat) (by rw [len_take hi0 (by rw [← size_list]; exact hi1)]; omega)
    have hbt : (byteAt t i.toNat).toNat < 256 := UInt8.toNat_lt _
    have hm1 : IntKind.wrap .i64 (10 * numGo (t.data.toList.take i.toNat)) = 10 * numGo (t.data.toList.take i.toNat) := by rw [IntKind.wrap_i64]; omega
    have hm2 : IntKind.wrap .i64 ((byteAt t i.toNat).toNat : Int) = ((byteAt t i.toNat).toNat : Int) := by rw [IntKind.wrap_i64]; omega
    have hm3 : IntKind.wrap .i64 (10 * numGo (t.data.toList.take i.toNat) + ((byteAt t i.toNat).toNat : Int)) = 10 * numGo (t.data.toList.take i.toNat) + ((byteAt t i.toNat).toNat : Int) := by rw [IntKind.wrap_i64]; omega
    have hm4 : IntKind.wrap .i64 (10 * numGo (t.data.toList.take i.toNat) + ((byteAt t i.toNat).toNat : Int) - 48) = 10 * numGo (t.data.toList.take i.toNat) + ((byteAt t i.toNat).toNat : Int) - 48 := by rw [IntKind.wrap_i64]; omega
    have hle : numGo (t.data.toList.take i.toNat) ≤ 9223372036854775807 := by omega
    refine vwp_seq fun K hK => ?_
    refine vwp_seq_regionG fun K hK => ?_
    simp (dsimp := false) only [push_cast, hP, hnt, hgw, hgb, Nat.reduceLT, Nat.reduceEqDiff, Nat.reduceAdd, Nat.reduceSub, Nat.reduceMul, Nat.reduceLeDiff, ↓reduceIte, reduceCtorEq, hi0, hm1, hm2, hm3, hm4]
    refine guardR_may (by simp (dsimp := false) only [push_cast, hP, hnt, hgw, hgb, Nat.reduceLT, Nat.reduceEqDiff, Nat.reduceAdd, Nat.reduceSub, Nat.reduceMul, Nat.reduceLeDiff, ↓reduceIte, reduceCtorEq, hi0, hm1, hm2, hm3, hm4, List.getElem?_cons_zero, List.getElem?_cons_succ]; rfl) ?_
    simp (dsimp := false) only [push_cast, hP, hnt, hgw, hgb, Nat.reduceLT, Nat.reduceEqDiff, Nat.reduceAdd, Nat.reduceSub, Nat.reduceMul, Nat.reduceLeDiff, ↓reduceIte, reduceCtorEq, hi0, hm1, hm2, hm3, hm4]
    refine guardR_may (by simp (dsimp := false) only [push_cast, hP, hnt, hgw, hgb, Nat.reduceLT, Nat.reduceEqDiff, Nat.reduceAdd, Nat.reduceSub, Nat.reduceMul, Nat.reduceLeDiff, ↓reduceIte, reduceCtorEq, hi0, hm1, hm2, hm3, hm4, List.getElem?_cons_zero, List.getElem?_cons_succ]; rfl) ?_
    simp (dsimp := false) only [push_cast, hP, hnt, hgw, hgb, Nat.reduceLT, Nat.reduceEqDiff, Nat.reduceAdd, Nat.reduceSub, Nat.reduceMul, Nat.reduceLeDiff, ↓reduceIte, reduceCtorEq, hi0, hm1, hm2, hm3, hm4]
    refine hK _ ?_; clear hK
    refine vwp_cond (b := _) (by simp (dsimp := false) only [push_cast, hP, hnt, hgw, hgb, Nat.reduceLT, Nat.reduceEqDiff, Nat.reduceAdd, Nat.reduceSub, Nat.reduceMul, Nat.reduceLeDiff, ↓reduceIte, reduceCtorEq, hi0, hm1, hm2, hm3, hm4]; rfl) (fun rb0 => ?_) (fun rb0 => ?_)
    · have hb0 := rb0
      try simp only [beq_iff_eq, bne_iff_ne, ne_eq, bne_eq_false_iff_eq, beq_eq_false_iff_ne, decide_eq_true_eq, decide_eq_false_iff_not, Bool.not_eq_true', Bool.not_eq_false', Bool.or_eq_true, Bool.and_eq_true, Bool.or_eq_false_iff, Bool.and_eq_false_iff] at hb0
      have hw := hw hb0.1
      have hbx := hb0.1
      refine vwp_skip ?_
      apply_assumption
      refine vwp_seq fun K hK => ?_
      refine vwp_block ?_
      refine vwp_region rfl ?_
      simp (dsimp := false) only [push_cast, hP, hnt, hgw, hgb, Nat.reduceLT, Nat.reduceEqDiff, Nat.reduceAdd, Nat.reduceSub, Nat.reduceMul, Nat.reduceLeDiff, ↓reduceIte, reduceCtorEq, hi0, hm1, hm2, hm3, hm4, hw, hbx]
      apply_assumption
      refine vwp_region rfl ?_
      simp (dsimp := false) only [push_cast, hP, hnt, hgw, hgb, Nat.reduceLT, Nat.reduceEqDiff, Nat.reduceAdd, Nat.reduceSub, Nat.reduceMul, Nat.reduceLeDiff, ↓reduceIte, reduceCtorEq, hi0, hm1, hm2, hm3, hm4, hw, hbx]
      have hn := (numGo_next (s := t) hi0 hb0.1).symm
      refine hL0 _ _ _ ?_ ?_ ⟨i + 1, rfl, ?_, rfl⟩
      · omega
      · refine wk_conv [] [] (by simp) (by simp) (by decide) ?_ ?_
        · refine hf_cons (by simp (dsimp := false) only [push_cast, ↓reduceIte, Nat.reduceEqDiff, Nat.reduceAdd, reduceCtorEq, hi0, hm1, hm2, hm3, hm4, hw, hbx, hn] <;> rfl) (by exact ConvV.self rfl) ?_
          refine hf_cons (by simp (dsimp := false) only [push_cast, ↓reduceIte, Nat.reduceEqDiff, Nat.reduceAdd, reduceCtorEq, hi0, hm1, hm2, hm3, hm4, hw, hbx, hn] <;> rfl) (by exact ConvV.self rfl) ?_
          refine hf_cons (by simp (dsimp := false) only [push_cast, ↓reduceIte, Nat.reduceEqDiff, Nat.reduceAdd, reduceCtorEq, hi0, hm1, hm2, hm3, hm4, hw, hbx, hn] <;> rfl) (by exact ConvV.self rfl) ?_
          exact hf_nil
        · exact hh_nil
      · exact ⟨by omega, by omega, by omega⟩
    · have hb0 := rb0
      try simp only [beq_iff_eq, bne_iff_ne, ne_eq, bne_eq_false_iff_eq, beq_eq_false_iff_ne, decide_eq_true_eq, decide_eq_false_iff_not, Bool.not_eq_true', Bool.not_eq_false', Bool.or_eq_true, Bool.and_eq_true, Bool.or_eq_false_iff, Bool.and_eq_false_iff] at hb0
      have hend : t.data.toList.take i.toNat = t.data.toList.take 8 := by rcases hb0 with h | h; (rw [take_all (by rw [← size_list]; exact h), List.take_of_length_le (by rw [← size_list]; omega)]); (rw [show i.toNat = 8 by omega])
      have hle8 : numGo (t.data.toList.take 8) ≤ 9223372036854775807 := by rw [← hend]; exact hle
      refine vwp_exit ?_
      simp only [thenQ, blockQ, Nat.reduceEqDiff, reduceIte]
      apply_assumption
      refine vwp_seq fun K hK => ?_
      refine vwp_seq_regionG fun K hK => ?_
      simp (dsimp := false) only [push_cast, hP, hnt, hgw, hgb, Nat.reduceLT, Nat.reduceEqDiff, Nat.reduceAdd, Nat.reduceSub, Nat.reduceMul, Nat.reduceLeDiff, ↓reduceIte, reduceCtorEq, hi0, hm1, hm2, hm3, hm4, hend]
      refine guardR_may (by simp (dsimp := false) only [push_cast, hP, hnt, hgw, hgb, Nat.reduceLT, Nat.reduceEqDiff, Nat.reduceAdd, Nat.reduceSub, Nat.reduceMul, Nat.reduceLeDiff, ↓reduceIte, reduceCtorEq, hi0, hm1, hm2, hm3, hm4, hend, List.getElem?_cons_zero, List.getElem?_cons_succ]; rfl) ?_
      simp (dsimp := false) only [push_cast, hP, hnt, hgw, hgb, Nat.reduceLT, Nat.reduceEqDiff, Nat.reduceAdd, Nat.reduceSub, Nat.reduceMul, Nat.reduceLeDiff, ↓reduceIte, reduceCtorEq, hi0, hm1, hm2, hm3, hm4, hend]
      refine guardR_may (by simp (dsimp := false) only [push_cast, hP, hnt, hgw, hgb, Nat.reduceLT, Nat.reduceEqDiff, Nat.reduceAdd, Nat.reduceSub, Nat.reduceMul, Nat.reduceLeDiff, ↓reduceIte, reduceCtorEq, hi0, hm1, hm2, hm3, hm4, hend, List.getElem?_cons_zero, List.getElem?_cons_succ]; rfl) ?_
      simp (dsimp := false) only [push_cast, hP, hnt, hgw, hgb, Nat.reduceLT, Nat.reduceEqDiff, Nat.reduceAdd, Nat.reduceSub, Nat.reduceMul, Nat.reduceLeDiff, ↓reduceIte, reduceCtorEq, hi0, hm1, hm2, hm3, hm4, hend]
      refine callE_intro (digitsA_call gw gb _ hle8) (.inl ⟨rfl, rfl⟩) ?_
      refine ⟨rfl, ?_⟩
      simp (dsimp := false) only [push_cast, hP, hnt, hgw, hgb, Nat.reduceLT, Nat.reduceEqDiff, Nat.reduceAdd, Nat.reduceSub, Nat.reduceMul, Nat.reduceLeDiff, ↓reduceIte, reduceCtorEq, hi0, hm1, hm2, hm3, hm4, hend]
      refine guardR_may (by simp (dsimp := false) only [push_cast, hP, hnt, hgw, hgb, Nat.reduceLT, Nat.reduceEqDiff, Nat.reduceAdd, Nat.reduceSub, Nat.reduceMul, Nat.reduceLeDiff, ↓reduceIte, reduceCtorEq, hi0, hm1, hm2, hm3, hm4, hend, List.getElem?_cons_zero, List.getElem?_cons_succ]; rfl) ?_
      simp (dsimp := false) only [push_cast, hP, hnt, hgw, hgb, Nat.reduceLT, Nat.reduceEqDiff, Nat.reduceAdd, Nat.reduceSub, Nat.reduceMul, Nat.reduceLeDiff, ↓reduceIte, reduceCtorEq, hi0, hm1, hm2, hm3, hm4, hend]
      refine guardR_may (by simp (dsimp := false) only [push_cast, hP, hnt, hgw, hgb, Nat.reduceLT, Nat.reduceEqDiff, Nat.reduceAdd, Nat.reduceSub, Nat.reduceMul, Nat.reduceLeDiff, ↓reduceIte, reduceCtorEq, hi0, hm1, hm2, hm3, hm4, hend, List.getElem?_cons_zero, List.getElem?_cons_succ]; rfl) ?_
      simp (dsimp := false) only [push_cast, hP, hnt, hgw, hgb, Nat.reduceLT, Nat.reduceEqDiff, Nat.reduceAdd, Nat.reduceSub, Nat.reduceMul, Nat.reduceLeDiff, ↓reduceIte, reduceCtorEq, hi0, hm1, hm2, hm3, hm4, hend]
      refine hK _ ?_; clear hK
      refine vwp_cond (b := _) (by simp (dsimp := false) only [push_cast, hP, hnt, hgw, hgb, Nat.reduceLT, Nat.reduceEqDiff, Nat.reduceAdd, Nat.reduceSub, Nat.reduceMul, Nat.reduceLeDiff, ↓reduceIte, reduceCtorEq, hi0, hm1, hm2, hm3, hm4, hend]; rfl) (fun rb1 => ?_) (fun rb1 => ?_)
      · have hb1 := rb1
        try simp only [beq_iff_eq, bne_iff_ne, ne_eq, bne_eq_false_iff_eq, beq_eq_false_iff_ne, decide_eq_true_eq, decide_eq_false_iff_not, Bool.not_eq_true', Bool.not_eq_false', Bool.or_eq_true, Bool.and_eq_true, Bool.or_eq_false_iff, Bool.and_eq_false_iff] at hb1
        refine vwp_seq_region rfl fun K hK => ?_
        simp (dsimp := false) only [push_cast, hP, hnt, hgw, hgb, Nat.reduceLT, Nat.reduceEqDiff, Nat.reduceAdd, Nat.reduceSub, Nat.reduceMul, Nat.reduceLeDiff, ↓reduceIte, reduceCtorEq, hi0, hm1, hm2, hm3, hm4, hend]
        refine hK _ ?_; clear hK
        refine vwp_ret ?_
        refine ret_free (by simp (dsimp := false) only [push_cast, hP, hnt, hgw, hgb, Nat.reduceLT, Nat.reduceEqDiff, Nat.reduceAdd, Nat.reduceSub, Nat.reduceMul, Nat.reduceLeDiff, ↓reduceIte, reduceCtorEq, hi0, hm1, hm2, hm3, hm4, hend]; rfl) (by simp (dsimp := false) only [push_cast, hP, hnt, hgw, hgb, Nat.reduceLT, Nat.reduceEqDiff, Nat.reduceAdd, Nat.reduceSub, Nat.reduceMul, Nat.reduceLeDiff, ↓reduceIte, reduceCtorEq, hi0, hm1, hm2, hm3, hm4, hend]) ?_
        rw [show numR t = -1 from if_neg (fun h => by rw [hend] at hbn; rcases hb1 with g | g <;> first | omega | exact g (by rw [show digA (numGo (t.data.toList.take 8)) = digB (numGo (t.data.toList.take 8)) from if_pos h.1]; exact h.2))]; rfl
      · have hb1 := rb1
        try simp only [beq_iff_eq, bne_iff_ne, ne_eq, bne_eq_false_iff_eq, beq_eq_false_iff_ne, decide_eq_true_eq, decide_eq_false_iff_not, Bool.not_eq_true', Bool.not_eq_false', Bool.or_eq_true, Bool.and_eq_true, Bool.or_eq_false_iff, Bool.and_eq_false_iff] at hb1
        refine vwp_skip ?_
        apply_assumption
        refine vwp_seq_region rfl fun K hK => ?_
        simp (dsimp := false) only [push_cast, hP, hnt, hgw, hgb, Nat.reduceLT, Nat.reduceEqDiff, Nat.reduceAdd, Nat.reduceSub, Nat.reduceMul, Nat.reduceLeDiff, ↓reduceIte, reduceCtorEq, hi0, hm1, hm2, hm3, hm4, hend]
        refine hK _ ?_; clear hK
        refine vwp_ret ?_
        refine ret_free (by simp (dsimp := false) only [push_cast, hP, hnt, hgw, hgb, Nat.reduceLT, Nat.reduceEqDiff, Nat.reduceAdd, Nat.reduceSub, Nat.reduceMul, Nat.reduceLeDiff, ↓reduceIte, reduceCtorEq, hi0, hm1, hm2, hm3, hm4, hend]; rfl) (by simp (dsimp := false) only [push_cast, hP, hnt, hgw, hgb, Nat.reduceLT, Nat.reduceEqDiff, Nat.reduceAdd, Nat.reduceSub, Nat.reduceMul, Nat.reduceLeDiff, ↓reduceIte, reduceCtorEq, hi0, hm1, hm2, hm3, hm4, hend]) ?_
        rw [show numR t = numGo (t.data.toList.take 8) from if_pos ⟨by have := hb1.1; omega, by have := hb1.2; rwa [show digA (numGo (t.data.toList.take 8)) = digB (numGo (t.data.toList.take 8)) from if_pos (by have := hb1.1; omega)] at this⟩]; rfl
end Go.Vm
end
