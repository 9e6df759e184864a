/-
  Walks of the program's functions by the framework, and what they compute (PtB). Conditions: each theorem's own premises. By an AI agent.
-/
import Derived.Test.YtnpbndglolcilaaDoorPtA
section
namespace Go.Vm
open Go Go.RowKit Go.Proofs
set_option maxRecDepth 100000
set_option linter.unusedSimpArgs false
set_option linter.unusedVariables false
set_option maxHeartbeats 4000000

structure Ver where
  kind : Int
  first : List Bool
  inputs : List (List Bool)
  skip : Int
  phases : Int
  ands : List (Int × Int)
  lit : Int
def Ver.prf (t : Bool) (v : Ver) : List PC := [.c (.int .i64 v.skip), .c (.int .i64 v.phases), .sl t v.ands.length (v.ands.flatMap fun g => [.c (.int .i64 g.1), .c (.int .i64 g.2)]), .c (.int .i64 v.lit)]
def Ver.pcs (t : Bool) (v : Ver) : List PC := .c (.int .u8 v.kind) :: .sl t v.first.length (v.first.map fun b => .c (.bool b)) :: .sl t v.inputs.length (v.inputs.map fun l => .sl t l.length (l.map fun b => .c (.bool b))) :: v.prf t
theorem nat_nonneg (n : Nat) : (0 ≤ (n : Int)) = True := by simp
attribute [push_cast] Ver.pcs Ver.prf Int.toNat_natCast nat_nonneg
def noProofF (v : Ver) : Bool := (((v.skip == 0) && (v.phases == 0)) && ((v.ands.length : Int) == 0)) && (v.lit == 0)
theorem noProof_call (gw : World) (gb : Nat) (v : Ver) : VCall Tryd.prog gw (gb) 79 [.agg (v.prf false)] (.one (.c (.bool (noProofF v)))) [] := by
  refine vcall_of [.tmp 2] Tryd.func79 rfl rfl Tryd.ntmps79 rfl (by simp) ?_
  intro C hP hnt hgw hgb hfull
  refine vwp_seq_region rfl fun K hK => ?_
  simp (dsimp := false) only [push_cast, hP, hnt, hgw, hgb, Nat.reduceLT, Nat.reduceEqDiff, Nat.reduceAdd, Nat.reduceSub, Nat.reduceMul, Nat.reduceLeDiff, ↓reduceIte, reduceCtorEq]
  refine hK _ ?_; clear hK
  refine vwp_seq_regionG fun K hK => ?_
  simp (dsimp := false) only [push_cast, hP, hnt, hgw, hgb, Nat.reduceLT, Nat.reduceEqDiff, Nat.reduceAdd, Nat.reduceSub, Nat.reduceMul, Nat.reduceLeDiff, ↓reduceIte, reduceCtorEq]
  refine guardR_may (by simp (dsimp := false) only [push_cast, hP, hnt, hgw, hgb, Nat.reduceLT, Nat.reduceEqDiff, Nat.reduceAdd, Nat.reduceSub, Nat.reduceMul, Nat.reduceLeDiff, ↓reduceIte, reduceCtorEq, List.getElem?_cons_zero, List.getElem?_cons_succ]; rfl) ?_
  simp (dsimp := false) only [push_cast, hP, hnt, hgw, hgb, Nat.reduceLT, Nat.reduceEqDiff, Nat.reduceAdd, Nat.reduceSub, Nat.reduceMul, Nat.reduceLeDiff, ↓reduceIte, reduceCtorEq]
  refine guardR_may (by simp (dsimp := false) only [push_cast, hP, hnt, hgw, hgb, Nat.reduceLT, Nat.reduceEqDiff, Nat.reduceAdd, Nat.reduceSub, Nat.reduceMul, Nat.reduceLeDiff, ↓reduceIte, reduceCtorEq, List.getElem?_cons_zero, List.getElem?_cons_succ]; rfl) ?_
  simp (dsimp := false) only [push_cast, hP, hnt, hgw, hgb, Nat.reduceLT, Nat.reduceEqDiff, Nat.reduceAdd, Nat.reduceSub, Nat.reduceMul, Nat.reduceLeDiff, ↓reduceIte, reduceCtorEq]
  refine guardR_may (by simp (dsimp := false) only [push_cast, hP, hnt, hgw, hgb, Nat.reduceLT, Nat.reduceEqDiff, Nat.reduceAdd, Nat.reduceSub, Nat.reduceMul, Nat.reduceLeDiff, ↓reduceIte, reduceCtorEq, List.getElem?_cons_zero, List.getElem?_cons_succ]; rfl) ?_
  simp (dsimp := false) only [push_cast, hP, hnt, hgw, hgb, Nat.reduceLT, Nat.reduceEqDiff, Nat.reduceAdd, Nat.reduceSub, Nat.reduceMul, Nat.reduceLeDiff, ↓reduceIte, reduceCtorEq]
  refine guardR_may (by simp (dsimp := false) only [push_cast, hP, hnt, hgw, hgb, Nat.reduceLT, Nat.reduceEqDiff, Nat.reduceAdd, Nat.reduceSub, Nat.reduceMul, Nat.reduceLeDiff, ↓reduceIte, reduceCtorEq, List.getElem?_cons_zero, List.getElem?_cons_succ]; rfl) ?_
  simp (dsimp := false) only [push_cast, hP, hnt, hgw, hgb, Nat.reduceLT, Nat.reduceEqDiff, Nat.reduceAdd, Nat.reduceSub, Nat.reduceMul, Nat.reduceLeDiff, ↓reduceIte, reduceCtorEq]
  refine guardR_may (by simp (dsimp := false) only [push_cast, hP, hnt, hgw, hgb, Nat.reduceLT, Nat.reduceEqDiff, Nat.reduceAdd, Nat.reduceSub, Nat.reduceMul, Nat.reduceLeDiff, ↓reduceIte, reduceCtorEq, List.getElem?_cons_zero, List.getElem?_cons_succ]; rfl) ?_
  simp (dsimp := false) only [push_cast, hP, hnt, hgw, hgb, Nat.reduceLT, Nat.reduceEqDiff, Nat.reduceAdd, Nat.reduceSub, Nat.reduceMul, Nat.reduceLeDiff, ↓reduceIte, reduceCtorEq]
  refine guardR_may (by simp (dsimp := false) only [push_cast, hP, hnt, hgw, hgb, Nat.reduceLT, Nat.reduceEqDiff, Nat.reduceAdd, Nat.reduceSub, Nat.reduceMul, Nat.reduceLeDiff, ↓reduceIte, reduceCtorEq, List.getElem?_cons_zero, List.getElem?_cons_succ]; rfl) ?_
  simp (dsimp := false) only [push_cast, hP, hnt, hgw, hgb, Nat.reduceLT, Nat.reduceEqDiff, Nat.reduceAdd, Nat.reduceSub, Nat.reduceMul, Nat.reduceLeDiff, ↓reduceIte, reduceCtorEq]
  refine guardR_may (by simp (dsimp := false) only [push_cast, hP, hnt, hgw, hgb, Nat.reduceLT, Nat.reduceEqDiff, Nat.reduceAdd, Nat.reduceSub, Nat.reduceMul, Nat.reduceLeDiff, ↓reduceIte, reduceCtorEq, List.getElem?_cons_zero, List.getElem?_cons_succ]; rfl) ?_
  simp (dsimp := false) only [push_cast, hP, hnt, hgw, hgb, Nat.reduceLT, Nat.reduceEqDiff, Nat.reduceAdd, Nat.reduceSub, Nat.reduceMul, Nat.reduceLeDiff, ↓reduceIte, reduceCtorEq]
  refine guardR_may (by simp (dsimp := false) only [push_cast, hP, hnt, hgw, hgb, Nat.reduceLT, Nat.reduceEqDiff, Nat.reduceAdd, Nat.reduceSub, Nat.reduceMul, Nat.reduceLeDiff, ↓reduceIte, reduceCtorEq, List.getElem?_cons_zero, List.getElem?_cons_succ]; rfl) ?_
  simp (dsimp := false) only [push_cast, hP, hnt, hgw, hgb, Nat.reduceLT, Nat.reduceEqDiff, Nat.reduceAdd, Nat.reduceSub, Nat.reduceMul, Nat.reduceLeDiff, ↓reduceIte, reduceCtorEq]
  refine guardR_may (by simp (dsimp := false) only [push_cast, hP, hnt, hgw, hgb, Nat.reduceLT, Nat.reduceEqDiff, Nat.reduceAdd, Nat.reduceSub, Nat.reduceMul, Nat.reduceLeDiff, ↓reduceIte, reduceCtorEq, List.getElem?_cons_zero, List.getElem?_cons_succ]; rfl) ?_
  simp (dsimp := false) only [push_cast, hP, hnt, hgw, hgb, Nat.reduceLT, Nat.reduceEqDiff, Nat.reduceAdd, Nat.reduceSub, Nat.reduceMul, Nat.reduceLeDiff, ↓reduceIte, reduceCtorEq]
  refine guardR_may (by simp (dsimp := false) only [push_cast, hP, hnt, hgw, hgb, Nat.reduceLT, Nat.reduceEqDiff, Nat.reduceAdd, Nat.reduceSub, Nat.reduceMul, Nat.reduceLeDiff, ↓reduceIte, reduceCtorEq, List.getElem?_cons_zero, List.getElem?_cons_succ]; rfl) ?_
  simp (dsimp := false) only [push_cast, hP, hnt, hgw, hgb, Nat.reduceLT, Nat.reduceEqDiff, Nat.reduceAdd, Nat.reduceSub, Nat.reduceMul, Nat.reduceLeDiff, ↓reduceIte, reduceCtorEq]
  refine guardR_may (by simp (dsimp := false) only [push_cast, hP, hnt, hgw, hgb, Nat.reduceLT, Nat.reduceEqDiff, Nat.reduceAdd, Nat.reduceSub, Nat.reduceMul, Nat.reduceLeDiff, ↓reduceIte, reduceCtorEq, List.getElem?_cons_zero, List.getElem?_cons_succ]; rfl) ?_
  simp (dsimp := false) only [push_cast, hP, hnt, hgw, hgb, Nat.reduceLT, Nat.reduceEqDiff, Nat.reduceAdd, Nat.reduceSub, Nat.reduceMul, Nat.reduceLeDiff, ↓reduceIte, reduceCtorEq]
  refine guardR_may (by simp (dsimp := false) only [push_cast, hP, hnt, hgw, hgb, Nat.reduceLT, Nat.reduceEqDiff, Nat.reduceAdd, Nat.reduceSub, Nat.reduceMul, Nat.reduceLeDiff, ↓reduceIte, reduceCtorEq, List.getElem?_cons_zero, List.getElem?_cons_succ]; rfl) ?_
  simp (dsimp := false) only [push_cast, hP, hnt, hgw, hgb, Nat.reduceLT, Nat.reduceEqDiff, Nat.reduceAdd, Nat.reduceSub, Nat.reduceMul, Nat.reduceLeDiff, ↓reduceIte, reduceCtorEq]
  refine hK _ ?_; clear hK
  refine vwp_ret ?_
  refine ret_free (by simp (dsimp := false) only [push_cast, hP, hnt, hgw, hgb, Nat.reduceLT, Nat.reduceEqDiff, Nat.reduceAdd, Nat.reduceSub, Nat.reduceMul, Nat.reduceLeDiff, ↓reduceIte, reduceCtorEq]; rfl) (by simp (dsimp := false) only [push_cast, hP, hnt, hgw, hgb, Nat.reduceLT, Nat.reduceEqDiff, Nat.reduceAdd, Nat.reduceSub, Nat.reduceMul, Nat.reduceLeDiff, ↓reduceIte, reduceCtorEq]) ?_
  first | (simp only [pack, noProofF, if_true, if_false, Bool.false_eq_true, reduceIte]; done) | (simp only [pack, noProofF, if_true, if_false, ne_eq, not_true_eq_false, not_false_eq_true, true_or, or_true, or_self, ite_self, Bool.true_eq_false, Bool.false_eq_true, or_false, false_or]; done) | (subst_vars; simp only [pack, noProofF, *, if_true, if_false, ne_eq, not_true_eq_false, not_false_eq_true, true_or, or_true, or_self, ite_self, Bool.true_eq_false, Bool.false_eq_true, or_false, false_or]; done) | (simp [pack, noProofF] <;> omega)
theorem refWithin_call (gw : World) (gb : Nat) (n top : Int) : VCall Tryd.prog gw (gb) 80 [.one (.c (.int .i64 n)), .one (.c (.int .i64 top))] (.one (.c (.bool (inTo top n)))) [] := by
  refine vcall_of [.tmp 4] Tryd.func80 rfl rfl Tryd.ntmps80 rfl (by simp) ?_
  intro C hP hnt hgw hgb hfull
  refine vwp_seq_region rfl fun K hK => ?_
  simp (dsimp := false) only [push_cast, hP, hnt, hgw, hgb, Nat.reduceLT, Nat.reduceEqDiff, Nat.reduceAdd, Nat.reduceSub, Nat.reduceMul, Nat.reduceLeDiff, ↓reduceIte, reduceCtorEq]
  refine hK _ ?_; clear hK
  refine vwp_seq_regionG fun K hK => ?_
  simp (dsimp := false) only [push_cast, hP, hnt, hgw, hgb, Nat.reduceLT, Nat.reduceEqDiff, Nat.reduceAdd, Nat.reduceSub, Nat.reduceMul, Nat.reduceLeDiff, ↓reduceIte, reduceCtorEq]
  refine guardR_may (by simp (dsimp := false) only [push_cast, hP, hnt, hgw, hgb, Nat.reduceLT, Nat.reduceEqDiff, Nat.reduceAdd, Nat.reduceSub, Nat.reduceMul, Nat.reduceLeDiff, ↓reduceIte, reduceCtorEq, List.getElem?_cons_zero, List.getElem?_cons_succ]; rfl) ?_
  simp (dsimp := false) only [push_cast, hP, hnt, hgw, hgb, Nat.reduceLT, Nat.reduceEqDiff, Nat.reduceAdd, Nat.reduceSub, Nat.reduceMul, Nat.reduceLeDiff, ↓reduceIte, reduceCtorEq]
  refine guardR_may (by simp (dsimp := false) only [push_cast, hP, hnt, hgw, hgb, Nat.reduceLT, Nat.reduceEqDiff, Nat.reduceAdd, Nat.reduceSub, Nat.reduceMul, Nat.reduceLeDiff, ↓reduceIte, reduceCtorEq, List.getElem?_cons_zero, List.getElem?_cons_succ]; rfl) ?_
  simp (dsimp := false) only [push_cast, hP, hnt, hgw, hgb, Nat.reduceLT, Nat.reduceEqDiff, Nat.reduceAdd, Nat.reduceSub, Nat.reduceMul, Nat.reduceLeDiff, ↓reduceIte, reduceCtorEq]
  refine guardR_may (by simp (dsimp := false) only [push_cast, hP, hnt, hgw, hgb, Nat.reduceLT, Nat.reduceEqDiff, Nat.reduceAdd, Nat.reduceSub, Nat.reduceMul, Nat.reduceLeDiff, ↓reduceIte, reduceCtorEq, List.getElem?_cons_zero, List.getElem?_cons_succ]; rfl) ?_
  simp (dsimp := false) only [push_cast, hP, hnt, hgw, hgb, Nat.reduceLT, Nat.reduceEqDiff, Nat.reduceAdd, Nat.reduceSub, Nat.reduceMul, Nat.reduceLeDiff, ↓reduceIte, reduceCtorEq]
  refine hK _ ?_; clear hK
  refine vwp_ret ?_
  refine ret_free (by simp (dsimp := false) only [push_cast, hP, hnt, hgw, hgb, Nat.reduceLT, Nat.reduceEqDiff, Nat.reduceAdd, Nat.reduceSub, Nat.reduceMul, Nat.reduceLeDiff, ↓reduceIte, reduceCtorEq]; rfl) (by simp (dsimp := false) only [push_cast, hP, hnt, hgw, hgb, Nat.reduceLT, Nat.reduceEqDiff, Nat.reduceAdd, Nat.reduceSub, Nat.reduceMul, Nat.reduceLeDiff, ↓reduceIte, reduceCtorEq]) ?_
  simp only [pack, inTo, Bool.decide_and]
theorem bits_one {l : List Bool} {i : Int} (h0 : 0 ≤ i) (h1 : i < (l.length : Int)) (h : atI l i = true) : bitsB (l.take i.toNat) ++ ⟨#[49]⟩ = bitsB (l.take (i + 1).toNat) := by
  rw [take_next h0 h1, h]; unfold bitsB; rw [List.map_append, bOf_append]; rfl
theorem bits_zero {l : List Bool} {i : Int} (h0 : 0 ≤ i) (h1 : i < (l.length : Int)) (h : atI l i = false) : bitsB (l.take i.toNat) ++ ⟨#[48]⟩ = bitsB (l.take (i + 1).toNat) := by
  rw [take_next h0 h1, h]; unfold bitsB; rw [List.map_append, bOf_append]; rfl
theorem bitsB_size (l : List Bool) : (bitsB l).size = l.length := by unfold bitsB; rw [bOf_size, List.length_map]
theorem bitsS_nil {l : List Bool} (h : (bitsB l).toList = (⟨#[]⟩ : ByteArray).toList) : bitsS l = bOf [45] := by
  unfold bitsB at h
  rw [bOf_toList] at h
  exact if_pos (by simpa using (h.trans (bOf_toList [])))
theorem bitsS_ne {l : List Bool} (h : ¬ (bitsB l).toList = (⟨#[]⟩ : ByteArray).toList) : bitsS l = bitsB l := if_neg (by rintro rfl; exact h rfl)
theorem ba_toList_nil : (⟨#[]⟩ : ByteArray).toList = [] := bOf_toList []
theorem refBits_call (gw : World) (gb : Nat) (l : List Bool) (hl : l.length ≤ 100000) : VCall Tryd.prog gw (gb) 81 [.one (.sl false l.length (l.map fun b => .c (.bool b)))] (.one (.c (.string (bitsS l)))) [] := by
  refine vcall_of [.tmp 2] Tryd.func81 rfl rfl Tryd.ntmps81 rfl (by simp) ?_
  intro C hP hnt hgw hgb hfull
  refine vwp_seq_region rfl fun K hK => ?_
  simp (dsimp := false) only [push_cast, hP, hnt, hgw, hgb, Nat.reduceLT, Nat.reduceEqDiff, Nat.reduceAdd, Nat.reduceSub, Nat.reduceMul, Nat.reduceLeDiff, ↓reduceIte, reduceCtorEq]
  refine hK _ ?_; clear hK
  refine vwp_seq_region rfl fun K hK => ?_
  simp (dsimp := false) only [push_cast, hP, hnt, hgw, hgb, Nat.reduceLT, Nat.reduceEqDiff, Nat.reduceAdd, Nat.reduceSub, Nat.reduceMul, Nat.reduceLeDiff, ↓reduceIte, reduceCtorEq]
  refine hK _ ?_; clear hK
  refine vwp_seq fun K hK => ?_
  refine vwp_seq_region rfl fun K hK => ?_
  simp (dsimp := false) only [push_cast, hP, hnt, hgw, hgb, Nat.reduceLT, Nat.reduceEqDiff, Nat.reduceAdd, Nat.reduceSub, Nat.reduceMul, Nat.reduceLeDiff, ↓reduceIte, reduceCtorEq]
  refine hK _ ?_; clear hK
  refine vwp_block ?_
  have hz : (⟨#[]⟩ : ByteArray) = bitsB (l.take (Int.toNat 0)) := rfl
  refine vwp_loop (fun m σ => ∃ (i : Int), m = (l.length - i).toNat ∧ ((0 ≤ i) ∧ (i ≤ l.length)) ∧ σ = St.of [(0, .one (.sl false l.length (l.map fun b => .c (.bool b)))), (3, .one (.c (.string (bitsB (l.take i.toNat))))), (4, .one (.c (.int .i64 i)))] [] []) _ ⟨_, ?_, 0, rfl, ?_, rfl⟩ ?_
  · refine wk_conv [] [] (by simp) (by simp) (by decide) ?_ ?_
    · refine hf_cons (by simp (dsimp := false) only [push_cast, ↓reduceIte, Nat.reduceEqDiff, Nat.reduceAdd, reduceCtorEq, hz] <;> rfl) (by repeat' (first | exact ConvVs.nil | exact ConvL.nil | refine ConvV.tup ?_ | refine ConvVs.cons ?_ ?_ | (refine ConvV.self ?_; simp only [push_cast]; done) | refine ConvV.one ?_ | refine ConvV.agg ?_ | (refine ConvL.free ?_; simp only [push_cast]; done) | refine ConvL.append ?_ ?_ | refine ConvL.cons ?_ ?_ | exact Conv.free rfl | exact Conv.nil | (refine Conv.own ?_; simp; done) | (refine Conv.loc ?_; simp; done) | refine Conv.frz (by simp) (by simp (dsimp := false) only [push_cast, ↓reduceIte, Nat.reduceEqDiff, Nat.reduceAdd, reduceCtorEq, hz] <;> rfl) ?_ | refine Conv.sl (by simp) ?_ | refine Conv.fn ?_)) ?_
      refine hf_cons (by simp (dsimp := false) only [push_cast, ↓reduceIte, Nat.reduceEqDiff, Nat.reduceAdd, reduceCtorEq, hz] <;> rfl) (by exact ConvV.self rfl) ?_
      refine hf_cons (by simp (dsimp := false) only [push_cast, ↓reduceIte, Nat.reduceEqDiff, Nat.reduceAdd, reduceCtorEq, hz] <;> rfl) (by exact ConvV.self rfl) ?_
      exact hf_nil
    · exact hh_nil
  · exact ⟨by omega, by omega⟩
  · rintro m τ ⟨i, hm, ⟨hi0, hi1⟩, rfl⟩ K hL0
    have hw := fun h : i < (l.length : Int) => wrap_next hi0 h (by omega)
    have hd := fun h : i < (l.length : Int) => dropI_map (fun b => PC.c (Value.bool b)) hi0 h
    have hs1 : (bitsB (l.take i.toNat)).size + (⟨#[49]⟩ : ByteArray).size ≤ 9223372036854775807 := by rw [bitsB_size, len_take hi0 hi1]; have : (⟨#[49]⟩ : ByteArray).size = 1 := rfl; omega
    have hs2 : (bitsB (l.take i.toNat)).size + (⟨#[48]⟩ : ByteArray).size ≤ 9223372036854775807 := by rw [bitsB_size, len_take hi0 hi1]; have : (⟨#[48]⟩ : ByteArray).size = 1 := rfl; omega
    refine vwp_seq fun K hK => ?_
    refine vwp_seq_region rfl fun K hK => ?_
    simp (dsimp := false) only [push_cast, hP, hnt, hgw, hgb, Nat.reduceLT, Nat.reduceEqDiff, Nat.reduceAdd, Nat.reduceSub, Nat.reduceMul, Nat.reduceLeDiff, ↓reduceIte, reduceCtorEq, hi0, hs1, hs2]
    refine hK _ ?_; clear hK
    refine vwp_cond (b := _) (by simp (dsimp := false) only [push_cast, hP, hnt, hgw, hgb, Nat.reduceLT, Nat.reduceEqDiff, Nat.reduceAdd, Nat.reduceSub, Nat.reduceMul, Nat.reduceLeDiff, ↓reduceIte, reduceCtorEq, hi0, hs1, hs2]; rfl) (fun rb0 => ?_) (fun rb0 => ?_)
    · have hb0 := rb0
      try simp only [beq_iff_eq, bne_iff_ne, ne_eq, bne_eq_false_iff_eq, beq_eq_false_iff_ne, decide_eq_true_eq, decide_eq_false_iff_not, Bool.not_eq_true', Bool.not_eq_false', Bool.or_eq_true, Bool.and_eq_true, Bool.or_eq_false_iff, Bool.and_eq_false_iff] at hb0
      have hw := hw hb0
      have hd := hd hb0
      refine vwp_skip ?_
      apply_assumption
      refine vwp_seq fun K hK => ?_
      refine vwp_block ?_
      refine vwp_seq_region rfl fun K hK => ?_
      simp (dsimp := false) only [push_cast, hP, hnt, hgw, hgb, Nat.reduceLT, Nat.reduceEqDiff, Nat.reduceAdd, Nat.reduceSub, Nat.reduceMul, Nat.reduceLeDiff, ↓reduceIte, reduceCtorEq, hi0, hs1, hs2, hw, hd, hb0]
      refine hK _ ?_; clear hK
      refine vwp_cond (b := _) (by simp (dsimp := false) only [push_cast, hP, hnt, hgw, hgb, Nat.reduceLT, Nat.reduceEqDiff, Nat.reduceAdd, Nat.reduceSub, Nat.reduceMul, Nat.reduceLeDiff, ↓reduceIte, reduceCtorEq, hi0, hs1, hs2, hw, hd, hb0]; rfl) (fun rb1 => ?_) (fun rb1 => ?_)
      · have hb1 := rb1
        try simp only [beq_iff_eq, bne_iff_ne, ne_eq, bne_eq_false_iff_eq, beq_eq_false_iff_ne, decide_eq_true_eq, decide_eq_false_iff_not, Bool.not_eq_true', Bool.not_eq_false', Bool.or_eq_true, Bool.and_eq_true, Bool.or_eq_false_iff, Bool.and_eq_false_iff] at hb1
        refine vwp_region rfl ?_
        simp (dsimp := false) only [push_cast, hP, hnt, hgw, hgb, Nat.reduceLT, Nat.reduceEqDiff, Nat.reduceAdd, Nat.reduceSub, Nat.reduceMul, Nat.reduceLeDiff, ↓reduceIte, reduceCtorEq, hi0, hs1, hs2, hw, hd, hb0]
        apply_assumption
        refine vwp_region rfl ?_
        simp (dsimp := false) only [push_cast, hP, hnt, hgw, hgb, Nat.reduceLT, Nat.reduceEqDiff, Nat.reduceAdd, Nat.reduceSub, Nat.reduceMul, Nat.reduceLeDiff, ↓reduceIte, reduceCtorEq, hi0, hs1, hs2, hw, hd, hb0]
        have hn := bits_one hi0 hb0 hb1
        refine hL0 _ _ _ ?_ ?_ ⟨i + 1, rfl, ?_, rfl⟩
        · omega
        · refine wk_conv [] [] (by simp) (by simp) (by decide) ?_ ?_
          · refine hf_cons (by simp (dsimp := false) only [push_cast, ↓reduceIte, Nat.reduceEqDiff, Nat.reduceAdd, reduceCtorEq, hi0, hs1, hs2, hw, hd, hb0, hn] <;> rfl) (by repeat' (first | exact ConvVs.nil | exact ConvL.nil | refine ConvV.tup ?_ | refine ConvVs.cons ?_ ?_ | (refine ConvV.self ?_; simp only [push_cast]; done) | refine ConvV.one ?_ | refine ConvV.agg ?_ | (refine ConvL.free ?_; simp only [push_cast]; done) | refine ConvL.append ?_ ?_ | refine ConvL.cons ?_ ?_ | exact Conv.free rfl | exact Conv.nil | (refine Conv.own ?_; simp; done) | (refine Conv.loc ?_; simp; done) | refine Conv.frz (by simp) (by simp (dsimp := false) only [push_cast, ↓reduceIte, Nat.reduceEqDiff, Nat.reduceAdd, reduceCtorEq, hi0, hs1, hs2, hw, hd, hb0, hn] <;> rfl) ?_ | refine Conv.sl (by simp) ?_ | refine Conv.fn ?_)) ?_
            refine hf_cons (by simp (dsimp := false) only [push_cast, ↓reduceIte, Nat.reduceEqDiff, Nat.reduceAdd, reduceCtorEq, hi0, hs1, hs2, hw, hd, hb0, hn] <;> rfl) (by exact ConvV.self rfl) ?_
            refine hf_cons (by simp (dsimp := false) only [push_cast, ↓reduceIte, Nat.reduceEqDiff, Nat.reduceAdd, reduceCtorEq, hi0, hs1, hs2, hw, hd, hb0, hn] <;> rfl) (by exact ConvV.self rfl) ?_
            exact hf_nil
          · exact hh_nil
        · exact ⟨by omega, by omega⟩
      · have hb1 := rb1
        try simp only [beq_iff_eq, bne_iff_ne, ne_eq, bne_eq_false_iff_eq, beq_eq_false_iff_ne, decide_eq_true_eq, decide_eq_false_iff_not, Bool.not_eq_true', Bool.not_eq_false', Bool.or_eq_true, Bool.and_eq_true, Bool.or_eq_false_iff, Bool.and_eq_false_iff] at hb1
        refine vwp_region rfl ?_
        simp (dsimp := false) only [push_cast, hP, hnt, hgw, hgb, Nat.reduceLT, Nat.reduceEqDiff, Nat.reduceAdd, Nat.reduceSub, Nat.reduceMul, Nat.reduceLeDiff, ↓reduceIte, reduceCtorEq, hi0, hs1, hs2, hw, hd, hb0]
        apply_assumption
        refine vwp_region rfl ?_
        simp (dsimp := false) only [push_cast, hP, hnt, hgw, hgb, Nat.reduceLT, Nat.reduceEqDiff, Nat.reduceAdd, Nat.reduceSub, Nat.reduceMul, Nat.reduceLeDiff, ↓reduceIte, reduceCtorEq, hi0, hs1, hs2, hw, hd, hb0]
        have hn := bits_zero hi0 hb0 hb1
        refine hL0 _ _ _ ?_ ?_ ⟨i + 1, rfl, ?_, rfl⟩
        · omega
        · refine wk_conv [] [] (by simp) (by simp) (by decide) ?_ ?_
          · refine hf_cons (by simp (dsimp := false) only [push_cast, ↓reduceIte, Nat.reduceEqDiff, Nat.reduceAdd, reduceCtorEq, hi0, hs1, hs2, hw, hd, hb0, hn] <;> rfl) (by repeat' (first | exact ConvVs.nil | exact ConvL.nil | refine ConvV.tup ?_ | refine ConvVs.cons ?_ ?_ | (refine ConvV.self ?_; simp only [push_cast]; done) | refine ConvV.one ?_ | refine ConvV.agg ?_ | (refine ConvL.free ?_; simp only [push_cast]; done) | refine ConvL.append ?_ ?_ | refine ConvL.cons ?_ ?_ | exact Conv.free rfl | exact Conv.nil | (refine Conv.own ?_; simp; done) | (refine Conv.loc ?_; simp; done) | refine Conv.frz (by simp) (by simp (dsimp := false) only [push_cast, ↓reduceIte, Nat.reduceEqDiff, Nat.reduceAdd, reduceCtorEq, hi0, hs1, hs2, hw, hd, hb0, hn] <;> rfl) ?_ | refine Conv.sl (by simp) ?_ | refine Conv.fn ?_)) ?_
            refine hf_cons (by simp (dsimp := false) only [push_cast, ↓reduceIte, Nat.reduceEqDiff, Nat.reduceAdd, reduceCtorEq, hi0, hs1, hs2, hw, hd, hb0, hn] <;> rfl) (by exact ConvV.self rfl) ?_
            refine hf_cons (by simp (dsimp := false) only [push_cast, ↓reduceIte, Nat.reduceEqDiff, Nat.reduceAdd, reduceCtorEq, hi0, hs1, hs2, hw, hd, hb0, hn] <;> rfl) (by exact ConvV.self rfl) ?_
            exact hf_nil
          · exact hh_nil
        · exact ⟨by omega, by omega⟩
    · have hb0 := rb0
      try simp only [beq_iff_eq, bne_iff_ne, ne_eq, bne_eq_false_iff_eq, beq_eq_false_iff_ne, decide_eq_true_eq, decide_eq_false_iff_not, Bool.not_eq_true', Bool.not_eq_false', Bool.or_eq_true, Bool.and_eq_true, Bool.or_eq_false_iff, Bool.and_eq_false_iff] at hb0
      have hend : l.take i.toNat = l := take_all hb0
      refine vwp_exit ?_
      simp only [thenQ, blockQ, Nat.reduceEqDiff, reduceIte]
      apply_assumption
      refine vwp_seq fun K hK => ?_
      refine vwp_seq_region rfl fun K hK => ?_
      simp (dsimp := false) only [push_cast, hP, hnt, hgw, hgb, Nat.reduceLT, Nat.reduceEqDiff, Nat.reduceAdd, Nat.reduceSub, Nat.reduceMul, Nat.reduceLeDiff, ↓reduceIte, reduceCtorEq, hi0, hs1, hs2, hend]
      refine hK _ ?_; clear hK
      refine vwp_cond (b := _) (by simp (dsimp := false) only [push_cast, hP, hnt, hgw, hgb, Nat.reduceLT, Nat.reduceEqDiff, Nat.reduceAdd, Nat.reduceSub, Nat.reduceMul, Nat.reduceLeDiff, ↓reduceIte, reduceCtorEq, hi0, hs1, hs2, hend]; rfl) (fun rb2 => ?_) (fun rb2 => ?_)
      · have hb2 := rb2
        try simp only [beq_iff_eq, bne_iff_ne, ne_eq, bne_eq_false_iff_eq, beq_eq_false_iff_ne, decide_eq_true_eq, decide_eq_false_iff_not, Bool.not_eq_true', Bool.not_eq_false', Bool.or_eq_true, Bool.and_eq_true, Bool.or_eq_false_iff, Bool.and_eq_false_iff] at hb2
        refine vwp_seq_region rfl fun K hK => ?_
        simp (dsimp := false) only [push_cast, hP, hnt, hgw, hgb, Nat.reduceLT, Nat.reduceEqDiff, Nat.reduceAdd, Nat.reduceSub, Nat.reduceMul, Nat.reduceLeDiff, ↓reduceIte, reduceCtorEq, hi0, hs1, hs2, hend]
        refine hK _ ?_; clear hK
        refine vwp_ret ?_
        refine ret_free (by simp (dsimp := false) only [push_cast, hP, hnt, hgw, hgb, Nat.reduceLT, Nat.reduceEqDiff, Nat.reduceAdd, Nat.reduceSub, Nat.reduceMul, Nat.reduceLeDiff, ↓reduceIte, reduceCtorEq, hi0, hs1, hs2, hend]; rfl) (by simp (dsimp := false) only [push_cast, hP, hnt, hgw, hgb, Nat.reduceLT, Nat.reduceEqDiff, Nat.reduceAdd, Nat.reduceSub, Nat.reduceMul, Nat.reduceLeDiff, ↓reduceIte, reduceCtorEq, hi0, hs1, hs2, hend]) ?_
        rw [bitsS_nil hb2]; rfl
      · have hb2 := rb2
        try simp only [beq_iff_eq, bne_iff_ne, ne_eq, bne_eq_false_iff_eq, beq_eq_false_iff_ne, decide_eq_true_eq, decide_eq_false_iff_not, Bool.not_eq_true', Bool.not_eq_false', Bool.or_eq_true, Bool.and_eq_true, Bool.or_eq_false_iff, Bool.and_eq_false_iff] at hb2
        refine vwp_skip ?_
        apply_assumption
        refine vwp_seq_region rfl fun K hK => ?_
        simp (dsimp := false) only [push_cast, hP, hnt, hgw, hgb, Nat.reduceLT, Nat.reduceEqDiff, Nat.reduceAdd, Nat.reduceSub, Nat.reduceMul, Nat.reduceLeDiff, ↓reduceIte, reduceCtorEq, hi0, hs1, hs2, hend]
        refine hK _ ?_; clear hK
        refine vwp_ret ?_
        refine ret_free (by simp (dsimp := false) only [push_cast, hP, hnt, hgw, hgb, Nat.reduceLT, Nat.reduceEqDiff, Nat.reduceAdd, Nat.reduceSub, Nat.reduceMul, Nat.reduceLeDiff, ↓reduceIte, reduceCtorEq, hi0, hs1, hs2, hend]; rfl) (by simp (dsimp := false) only [push_cast, hP, hnt, hgw, hgb, Nat.reduceLT, Nat.reduceEqDiff, Nat.reduceAdd, Nat.reduceSub, Nat.reduceMul, Nat.reduceLeDiff, ↓reduceIte, reduceCtorEq, hi0, hs1, hs2, hend]) ?_
        rw [bitsS_ne hb2]; rfl
end Go.Vm
end

section
namespace Go.Vm
open Go Go.RowKit Go.Proofs
set_option maxRecDepth 100000
set_option linter.unusedSimpArgs false
set_option linter.unusedVariables false
set_option maxHeartbeats 4000000

structure Fit (v : Ver) : Prop where
  first : v.first.length ≤ 100000
  inputs : v.inputs.length ≤ 100000
  ands : v.ands.length ≤ 100000
  each : ∀ l ∈ v.inputs, l.length ≤ 100000
def longF (l : List Bool) : Bool := decide (60 < l.length ∧ l.length ≠ 1001)
def greatHead (v : Ver) : Bool := decide ((200 < v.ands.length ∧ v.ands.length ≠ 1001) ∨ (20 < v.inputs.length ∧ v.inputs.length ≠ 101) ∨ (60 < v.first.length ∧ v.first.length ≠ 1001))
def greatF (v : Ver) : Bool := greatHead v || v.inputs.any longF
theorem greatF_head {v : Ver} (h : greatHead v = true) : greatF v = true := by unfold greatF; rw [h]; rfl
theorem greatF_any {v : Ver} (h : v.inputs.any longF = true) : greatF v = true := by unfold greatF; rw [h, Bool.or_true]
theorem greatF_no {v : Ver} (h : greatHead v = false) (h' : v.inputs.any longF = false) : greatF v = false := by unfold greatF; rw [h, h']; rfl
def noRun (v : Ver) : Bool := decide (v.first.length + v.inputs.length = 0)
def framesF (v : Ver) : Bool := decide (1 ≤ v.inputs.length ∧ v.inputs.length ≤ 100 ∧ v.first.length ≤ 1000)
def wideF (l : List Bool) : Bool := decide (l.length ≤ 1000)
def gateF (g : Int × Int) : Bool := inTo 2001 g.1 && inTo 2001 g.2
def mayF (v : Ver) : Bool :=
  if v.kind = 3 then noRun v && noProofF v
  else if v.kind = 2 then noProofF v && framesF v && v.inputs.all wideF
  else if v.kind = 1 then (noRun v && inTo 100 v.skip && inTo 100 v.phases && decide (v.ands.length ≤ 1000) && inTo 2001 v.lit) && v.ands.all gateF
  else false
theorem great_call (gw : World) (gb : Nat) (v : Ver) : VCall Tryd.prog gw (gb) 14 [.agg (v.pcs false)] (.one (.c (.bool (greatF v)))) [] := by
  refine vcall_of [.tmp 2] Tryd.func14 rfl rfl Tryd.ntmps14 rfl (by simp) ?_
  intro C hP hnt hgw hgb hfull
  refine vwp_seq_region rfl fun K hK => ?_
  simp (dsimp := false) only [push_cast, hP, hnt, hgw, hgb, Nat.reduceLT, Nat.reduceEqDiff, Nat.reduceAdd, Nat.reduceSub, Nat.reduceMul, Nat.reduceLeDiff, ↓reduceIte, reduceCtorEq]
  refine hK _ ?_; clear hK
  refine vwp_seq_region rfl fun K hK => ?_
  simp (dsimp := false) only [push_cast, hP, hnt, hgw, hgb, Nat.reduceLT, Nat.reduceEqDiff, Nat.reduceAdd, Nat.reduceSub, Nat.reduceMul, Nat.reduceLeDiff, ↓reduceIte, reduceCtorEq]
  refine hK _ ?_; clear hK
  refine vwp_seq fun K hK => ?_
  refine vwp_seq_regionG fun K hK => ?_
  simp (dsimp := false) only [push_cast, hP, hnt, hgw, hgb, Nat.reduceLT, Nat.reduceEqDiff, Nat.reduceAdd, Nat.reduceSub, Nat.reduceMul, Nat.reduceLeDiff, ↓reduceIte, reduceCtorEq]
  refine guardR_may (by simp (dsimp := false) only [push_cast, hP, hnt, hgw, hgb, Nat.reduceLT, Nat.reduceEqDiff, Nat.reduceAdd, Nat.reduceSub, Nat.reduceMul, Nat.reduceLeDiff, ↓reduceIte, reduceCtorEq, List.getElem?_cons_zero, List.getElem?_cons_succ]; rfl) ?_
  simp (dsimp := false) only [push_cast, hP, hnt, hgw, hgb, Nat.reduceLT, Nat.reduceEqDiff, Nat.reduceAdd, Nat.reduceSub, Nat.reduceMul, Nat.reduceLeDiff, ↓reduceIte, reduceCtorEq]
  refine guardR_may (by simp (dsimp := false) only [push_cast, hP, hnt, hgw, hgb, Nat.reduceLT, Nat.reduceEqDiff, Nat.reduceAdd, Nat.reduceSub, Nat.reduceMul, Nat.reduceLeDiff, ↓reduceIte, reduceCtorEq, List.getElem?_cons_zero, List.getElem?_cons_succ]; rfl) ?_
  simp (dsimp := false) only [push_cast, hP, hnt, hgw, hgb, Nat.reduceLT, Nat.reduceEqDiff, Nat.reduceAdd, Nat.reduceSub, Nat.reduceMul, Nat.reduceLeDiff, ↓reduceIte, reduceCtorEq]
  refine guardR_may (by simp (dsimp := false) only [push_cast, hP, hnt, hgw, hgb, Nat.reduceLT, Nat.reduceEqDiff, Nat.reduceAdd, Nat.reduceSub, Nat.reduceMul, Nat.reduceLeDiff, ↓reduceIte, reduceCtorEq, List.getElem?_cons_zero, List.getElem?_cons_succ]; rfl) ?_
  simp (dsimp := false) only [push_cast, hP, hnt, hgw, hgb, Nat.reduceLT, Nat.reduceEqDiff, Nat.reduceAdd, Nat.reduceSub, Nat.reduceMul, Nat.reduceLeDiff, ↓reduceIte, reduceCtorEq]
  refine guardR_may (by simp (dsimp := false) only [push_cast, hP, hnt, hgw, hgb, Nat.reduceLT, Nat.reduceEqDiff, Nat.reduceAdd, Nat.reduceSub, Nat.reduceMul, Nat.reduceLeDiff, ↓reduceIte, reduceCtorEq, List.getElem?_cons_zero, List.getElem?_cons_succ]; rfl) ?_
  simp (dsimp := false) only [push_cast, hP, hnt, hgw, hgb, Nat.reduceLT, Nat.reduceEqDiff, Nat.reduceAdd, Nat.reduceSub, Nat.reduceMul, Nat.reduceLeDiff, ↓reduceIte, reduceCtorEq]
  refine guardR_may (by simp (dsimp := false) only [push_cast, hP, hnt, hgw, hgb, Nat.reduceLT, Nat.reduceEqDiff, Nat.reduceAdd, Nat.reduceSub, Nat.reduceMul, Nat.reduceLeDiff, ↓reduceIte, reduceCtorEq, List.getElem?_cons_zero, List.getElem?_cons_succ]; rfl) ?_
  simp (dsimp := false) only [push_cast, hP, hnt, hgw, hgb, Nat.reduceLT, Nat.reduceEqDiff, Nat.reduceAdd, Nat.reduceSub, Nat.reduceMul, Nat.reduceLeDiff, ↓reduceIte, reduceCtorEq]
  refine guardR_may (by simp (dsimp := false) only [push_cast, hP, hnt, hgw, hgb, Nat.reduceLT, Nat.reduceEqDiff, Nat.reduceAdd, Nat.reduceSub, Nat.reduceMul, Nat.reduceLeDiff, ↓reduceIte, reduceCtorEq, List.getElem?_cons_zero, List.getElem?_cons_succ]; rfl) ?_
  simp (dsimp := false) only [push_cast, hP, hnt, hgw, hgb, Nat.reduceLT, Nat.reduceEqDiff, Nat.reduceAdd, Nat.reduceSub, Nat.reduceMul, Nat.reduceLeDiff, ↓reduceIte, reduceCtorEq]
  refine guardR_may (by simp (dsimp := false) only [push_cast, hP, hnt, hgw, hgb, Nat.reduceLT, Nat.reduceEqDiff, Nat.reduceAdd, Nat.reduceSub, Nat.reduceMul, Nat.reduceLeDiff, ↓reduceIte, reduceCtorEq, List.getElem?_cons_zero, List.getElem?_cons_succ]; rfl) ?_
  simp (dsimp := false) only [push_cast, hP, hnt, hgw, hgb, Nat.reduceLT, Nat.reduceEqDiff, Nat.reduceAdd, Nat.reduceSub, Nat.reduceMul, Nat.reduceLeDiff, ↓reduceIte, reduceCtorEq]
  refine guardR_may (by simp (dsimp := false) only [push_cast, hP, hnt, hgw, hgb, Nat.reduceLT, Nat.reduceEqDiff, Nat.reduceAdd, Nat.reduceSub, Nat.reduceMul, Nat.reduceLeDiff, ↓reduceIte, reduceCtorEq, List.getElem?_cons_zero, List.getElem?_cons_succ]; rfl) ?_
  simp (dsimp := false) only [push_cast, hP, hnt, hgw, hgb, Nat.reduceLT, Nat.reduceEqDiff, Nat.reduceAdd, Nat.reduceSub, Nat.reduceMul, Nat.reduceLeDiff, ↓reduceIte, reduceCtorEq]
  refine guardR_may (by simp (dsimp := false) only [push_cast, hP, hnt, hgw, hgb, Nat.reduceLT, Nat.reduceEqDiff, Nat.reduceAdd, Nat.reduceSub, Nat.reduceMul, Nat.reduceLeDiff, ↓reduceIte, reduceCtorEq, List.getElem?_cons_zero, List.getElem?_cons_succ]; rfl) ?_
  simp (dsimp := false) only [push_cast, hP, hnt, hgw, hgb, Nat.reduceLT, Nat.reduceEqDiff, Nat.reduceAdd, Nat.reduceSub, Nat.reduceMul, Nat.reduceLeDiff, ↓reduceIte, reduceCtorEq]
  refine guardR_may (by simp (dsimp := false) only [push_cast, hP, hnt, hgw, hgb, Nat.reduceLT, Nat.reduceEqDiff, Nat.reduceAdd, Nat.reduceSub, Nat.reduceMul, Nat.reduceLeDiff, ↓reduceIte, reduceCtorEq, List.getElem?_cons_zero, List.getElem?_cons_succ]; rfl) ?_
  simp (dsimp := false) only [push_cast, hP, hnt, hgw, hgb, Nat.reduceLT, Nat.reduceEqDiff, Nat.reduceAdd, Nat.reduceSub, Nat.reduceMul, Nat.reduceLeDiff, ↓reduceIte, reduceCtorEq]
  refine guardR_may (by simp (dsimp := false) only [push_cast, hP, hnt, hgw, hgb, Nat.reduceLT, Nat.reduceEqDiff, Nat.reduceAdd, Nat.reduceSub, Nat.reduceMul, Nat.reduceLeDiff, ↓reduceIte, reduceCtorEq, List.getElem?_cons_zero, List.getElem?_cons_succ]; rfl) ?_
  simp (dsimp := false) only [push_cast, hP, hnt, hgw, hgb, Nat.reduceLT, Nat.reduceEqDiff, Nat.reduceAdd, Nat.reduceSub, Nat.reduceMul, Nat.reduceLeDiff, ↓reduceIte, reduceCtorEq]
  refine guardR_may (by simp (dsimp := false) only [push_cast, hP, hnt, hgw, hgb, Nat.reduceLT, Nat.reduceEqDiff, Nat.reduceAdd, Nat.reduceSub, Nat.reduceMul, Nat.reduceLeDiff, ↓reduceIte, reduceCtorEq, List.getElem?_cons_zero, List.getElem?_cons_succ]; rfl) ?_
  simp (dsimp := false) only [push_cast, hP, hnt, hgw, hgb, Nat.reduceLT, Nat.reduceEqDiff, Nat.reduceAdd, Nat.reduceSub, Nat.reduceMul, Nat.reduceLeDiff, ↓reduceIte, reduceCtorEq]
  refine guardR_may (by simp (dsimp := false) only [push_cast, hP, hnt, hgw, hgb, Nat.reduceLT, Nat.reduceEqDiff, Nat.reduceAdd, Nat.reduceSub, Nat.reduceMul, Nat.reduceLeDiff, ↓reduceIte, reduceCtorEq, List.getElem?_cons_zero, List.getElem?_cons_succ]; rfl) ?_
  simp (dsimp := false) only [push_cast, hP, hnt, hgw, hgb, Nat.reduceLT, Nat.reduceEqDiff, Nat.reduceAdd, Nat.reduceSub, Nat.reduceMul, Nat.reduceLeDiff, ↓reduceIte, reduceCtorEq]
  refine guardR_may (by simp (dsimp := false) only [push_cast, hP, hnt, hgw, hgb, Nat.reduceLT, Nat.reduceEqDiff, Nat.reduceAdd, Nat.reduceSub, Nat.reduceMul, Nat.reduceLeDiff, ↓reduceIte, reduceCtorEq, List.getElem?_cons_zero, List.getElem?_cons_succ]; rfl) ?_
  simp (dsimp := false) only [push_cast, hP, hnt, hgw, hgb, Nat.reduceLT, Nat.reduceEqDiff, Nat.reduceAdd, Nat.reduceSub, Nat.reduceMul, Nat.reduceLeDiff, ↓reduceIte, reduceCtorEq]
  refine guardR_may (by simp (dsimp := false) only [push_cast, hP, hnt, hgw, hgb, Nat.reduceLT, Nat.reduceEqDiff, Nat.reduceAdd, Nat.reduceSub, Nat.reduceMul, Nat.reduceLeDiff, ↓reduceIte, reduceCtorEq, List.getElem?_cons_zero, List.getElem?_cons_succ]; rfl) ?_
  simp (dsimp := false) only [push_cast, hP, hnt, hgw, hgb, Nat.reduceLT, Nat.reduceEqDiff, Nat.reduceAdd, Nat.reduceSub, Nat.reduceMul, Nat.reduceLeDiff, ↓reduceIte, reduceCtorEq]
  refine guardR_may (by simp (dsimp := false) only [push_cast, hP, hnt, hgw, hgb, Nat.reduceLT, Nat.reduceEqDiff, Nat.reduceAdd, Nat.reduceSub, Nat.reduceMul, Nat.reduceLeDiff, ↓reduceIte, reduceCtorEq, List.getElem?_cons_zero, List.getElem?_cons_succ]; rfl) ?_
  simp (dsimp := false) only [push_cast, hP, hnt, hgw, hgb, Nat.reduceLT, Nat.reduceEqDiff, Nat.reduceAdd, Nat.reduceSub, Nat.reduceMul, Nat.reduceLeDiff, ↓reduceIte, reduceCtorEq]
  refine guardR_may (by simp (dsimp := false) only [push_cast, hP, hnt, hgw, hgb, Nat.reduceLT, Nat.reduceEqDiff, Nat.reduceAdd, Nat.reduceSub, Nat.reduceMul, Nat.reduceLeDiff, ↓reduceIte, reduceCtorEq, List.getElem?_cons_zero, List.getElem?_cons_succ]; rfl) ?_
  simp (dsimp := false) only [push_cast, hP, hnt, hgw, hgb, Nat.reduceLT, Nat.reduceEqDiff, Nat.reduceAdd, Nat.reduceSub, Nat.reduceMul, Nat.reduceLeDiff, ↓reduceIte, reduceCtorEq]
  refine guardR_may (by simp (dsimp := false) only [push_cast, hP, hnt, hgw, hgb, Nat.reduceLT, Nat.reduceEqDiff, Nat.reduceAdd, Nat.reduceSub, Nat.reduceMul, Nat.reduceLeDiff, ↓reduceIte, reduceCtorEq, List.getElem?_cons_zero, List.getElem?_cons_succ]; rfl) ?_
  simp (dsimp := false) only [push_cast, hP, hnt, hgw, hgb, Nat.reduceLT, Nat.reduceEqDiff, Nat.reduceAdd, Nat.reduceSub, Nat.reduceMul, Nat.reduceLeDiff, ↓reduceIte, reduceCtorEq]
  refine guardR_may (by simp (dsimp := false) only [push_cast, hP, hnt, hgw, hgb, Nat.reduceLT, Nat.reduceEqDiff, Nat.reduceAdd, Nat.reduceSub, Nat.reduceMul, Nat.reduceLeDiff, ↓reduceIte, reduceCtorEq, List.getElem?_cons_zero, List.getElem?_cons_succ]; rfl) ?_
  simp (dsimp := false) only [push_cast, hP, hnt, hgw, hgb, Nat.reduceLT, Nat.reduceEqDiff, Nat.reduceAdd, Nat.reduceSub, Nat.reduceMul, Nat.reduceLeDiff, ↓reduceIte, reduceCtorEq]
  refine guardR_may (by simp (dsimp := false) only [push_cast, hP, hnt, hgw, hgb, Nat.reduceLT, Nat.reduceEqDiff, Nat.reduceAdd, Nat.reduceSub, Nat.reduceMul, Nat.reduceLeDiff, ↓reduceIte, reduceCtorEq, List.getElem?_cons_zero, List.getElem?_cons_succ]; rfl) ?_
  simp (dsimp := false) only [push_cast, hP, hnt, hgw, hgb, Nat.reduceLT, Nat.reduceEqDiff, Nat.reduceAdd, Nat.reduceSub, Nat.reduceMul, Nat.reduceLeDiff, ↓reduceIte, reduceCtorEq]
  refine guardR_may (by simp (dsimp := false) only [push_cast, hP, hnt, hgw, hgb, Nat.reduceLT, Nat.reduceEqDiff, Nat.reduceAdd, Nat.reduceSub, Nat.reduceMul, Nat.reduceLeDiff, ↓reduceIte, reduceCtorEq, List.getElem?_cons_zero, List.getElem?_cons_succ]; rfl) ?_
  simp (dsimp := false) only [push_cast, hP, hnt, hgw, hgb, Nat.reduceLT, Nat.reduceEqDiff, Nat.reduceAdd, Nat.reduceSub, Nat.reduceMul, Nat.reduceLeDiff, ↓reduceIte, reduceCtorEq]
  refine guardR_may (by simp (dsimp := false) only [push_cast, hP, hnt, hgw, hgb, Nat.reduceLT, Nat.reduceEqDiff, Nat.reduceAdd, Nat.reduceSub, Nat.reduceMul, Nat.reduceLeDiff, ↓reduceIte, reduceCtorEq, List.getElem?_cons_zero, List.getElem?_cons_succ]; rfl) ?_
  simp (dsimp := false) only [push_cast, hP, hnt, hgw, hgb, Nat.reduceLT, Nat.reduceEqDiff, Nat.reduceAdd, Nat.reduceSub, Nat.reduceMul, Nat.reduceLeDiff, ↓reduceIte, reduceCtorEq]
  refine guardR_may (by simp (dsimp := false) only [push_cast, hP, hnt, hgw, hgb, Nat.reduceLT, Nat.reduceEqDiff, Nat.reduceAdd, Nat.reduceSub, Nat.reduceMul, Nat.reduceLeDiff, ↓reduceIte, reduceCtorEq, List.getElem?_cons_zero, List.getElem?_cons_succ]; rfl) ?_
  simp (dsimp := false) only [push_cast, hP, hnt, hgw, hgb, Nat.reduceLT, Nat.reduceEqDiff, Nat.reduceAdd, Nat.reduceSub, Nat.reduceMul, Nat.reduceLeDiff, ↓reduceIte, reduceCtorEq]
  refine guardR_may (by simp (dsimp := false) only [push_cast, hP, hnt, hgw, hgb, Nat.reduceLT, Nat.reduceEqDiff, Nat.reduceAdd, Nat.reduceSub, Nat.reduceMul, Nat.reduceLeDiff, ↓reduceIte, reduceCtorEq, List.getElem?_cons_zero, List.getElem?_cons_succ]; rfl) ?_
  simp (dsimp := false) only [push_cast, hP, hnt, hgw, hgb, Nat.reduceLT, Nat.reduceEqDiff, Nat.reduceAdd, Nat.reduceSub, Nat.reduceMul, Nat.reduceLeDiff, ↓reduceIte, reduceCtorEq]
  refine guardR_may (by simp (dsimp := false) only [push_cast, hP, hnt, hgw, hgb, Nat.reduceLT, Nat.reduceEqDiff, Nat.reduceAdd, Nat.reduceSub, Nat.reduceMul, Nat.reduceLeDiff, ↓reduceIte, reduceCtorEq, List.getElem?_cons_zero, List.getElem?_cons_succ]; rfl) ?_
  simp (dsimp := false) only [push_cast, hP, hnt, hgw, hgb, Nat.reduceLT, Nat.reduceEqDiff, Nat.reduceAdd, Nat.reduceSub, Nat.reduceMul, Nat.reduceLeDiff, ↓reduceIte, reduceCtorEq]
  refine guardR_may (by simp (dsimp := false) only [push_cast, hP, hnt, hgw, hgb, Nat.reduceLT, Nat.reduceEqDiff, Nat.reduceAdd, Nat.reduceSub, Nat.reduceMul, Nat.reduceLeDiff, ↓reduceIte, reduceCtorEq, List.getElem?_cons_zero, List.getElem?_cons_succ]; rfl) ?_
  simp (dsimp := false) only [push_cast, hP, hnt, hgw, hgb, Nat.reduceLT, Nat.reduceEqDiff, Nat.reduceAdd, Nat.reduceSub, Nat.reduceMul, Nat.reduceLeDiff, ↓reduceIte, reduceCtorEq]
  refine hK _ ?_; clear hK
  refine vwp_cond (b := _) (by simp (dsimp := false) only [push_cast, hP, hnt, hgw, hgb, Nat.reduceLT, Nat.reduceEqDiff, Nat.reduceAdd, Nat.reduceSub, Nat.reduceMul, Nat.reduceLeDiff, ↓reduceIte, reduceCtorEq]; rfl) (fun rb0 => ?_) (fun rb0 => ?_)
  · have hb0 := rb0
    try simp only [beq_iff_eq, bne_iff_ne, ne_eq, bne_eq_false_iff_eq, beq_eq_false_iff_ne, decide_eq_true_eq, decide_eq_false_iff_not, Bool.not_eq_true', Bool.not_eq_false', Bool.or_eq_true, Bool.and_eq_true, Bool.or_eq_false_iff, Bool.and_eq_false_iff] at hb0
    refine vwp_seq_region rfl fun K hK => ?_
    simp (dsimp := false) only [push_cast, hP, hnt, hgw, hgb, Nat.reduceLT, Nat.reduceEqDiff, Nat.reduceAdd, Nat.reduceSub, Nat.reduceMul, Nat.reduceLeDiff, ↓reduceIte, reduceCtorEq]
    refine hK _ ?_; clear hK
    refine vwp_ret ?_
    refine ret_free (by simp (dsimp := false) only [push_cast, hP, hnt, hgw, hgb, Nat.reduceLT, Nat.reduceEqDiff, Nat.reduceAdd, Nat.reduceSub, Nat.reduceMul, Nat.reduceLeDiff, ↓reduceIte, reduceCtorEq]; rfl) (by simp (dsimp := false) only [push_cast, hP, hnt, hgw, hgb, Nat.reduceLT, Nat.reduceEqDiff, Nat.reduceAdd, Nat.reduceSub, Nat.reduceMul, Nat.reduceLeDiff, ↓reduceIte, reduceCtorEq]) ?_
    rw [greatF_head (by unfold greatHead; exact decide_eq_true (by omega))]; rfl
  · have hb0 := rb0
    try simp only [beq_iff_eq, bne_iff_ne, ne_eq, bne_eq_false_iff_eq, beq_eq_false_iff_ne, decide_eq_true_eq, decide_eq_false_iff_not, Bool.not_eq_true', Bool.not_eq_false', Bool.or_eq_true, Bool.and_eq_true, Bool.or_eq_false_iff, Bool.and_eq_false_iff] at hb0
    refine vwp_skip ?_
    apply_assumption
    refine vwp_seq fun K hK => ?_
    refine vwp_seq_region rfl fun K hK => ?_
    simp (dsimp := false) only [push_cast, hP, hnt, hgw, hgb, Nat.reduceLT, Nat.reduceEqDiff, Nat.reduceAdd, Nat.reduceSub, Nat.reduceMul, Nat.reduceLeDiff, ↓reduceIte, reduceCtorEq]
    refine hK _ ?_; clear hK
    refine vwp_block ?_
    refine vwp_loop (fun m σ => ∃ (i : Int), m = (v.inputs.length - i).toNat ∧ ((0 ≤ i) ∧ (i ≤ v.inputs.length) ∧ ((v.inputs.drop i.toNat).any longF = v.inputs.any longF)) ∧ σ = St.of [(1, .one (.loc (2, 0) 0)), (4, .one (.c (.int .i64 i)))] [((2, 0), .box 47 (v.pcs false))] [1]) _ ⟨_, ?_, 0, rfl, ?_, rfl⟩ ?_
    · refine wk_conv [] [((2, 0), (2, 0))] (by simp) (by simp) (by decide) ?_ ?_
      · refine hf_cons (by simp (dsimp := false) only [push_cast, ↓reduceIte, Nat.reduceEqDiff, Nat.reduceAdd, reduceCtorEq] <;> rfl) (by exact .one (.loc (by simp))) ?_
        refine hf_cons (by simp (dsimp := false) only [push_cast, ↓reduceIte, Nat.reduceEqDiff, Nat.reduceAdd, reduceCtorEq] <;> rfl) (by exact ConvV.self rfl) ?_
        exact hf_nil
      · refine hh_cons (i := (2, 0)) (by simp) (by simp) (by simp (dsimp := false) only [push_cast, ↓reduceIte, Nat.reduceEqDiff, Nat.reduceAdd, reduceCtorEq] <;> rfl) (by first | (refine ConvB.free ?_; simp only [push_cast]; done) | (refine ConvB.box ?_; repeat' (first | exact ConvVs.nil | exact ConvL.nil | refine ConvV.tup ?_ | refine ConvVs.cons ?_ ?_ | (refine ConvV.self ?_; simp only [push_cast]; done) | refine ConvV.one ?_ | refine ConvV.agg ?_ | (refine ConvL.free ?_; simp only [push_cast]; done) | refine ConvL.append ?_ ?_ | refine ConvL.cons ?_ ?_ | exact Conv.free rfl | exact Conv.nil | (refine Conv.own ?_; simp; done) | (refine Conv.loc ?_; simp; done) | refine Conv.frz (by simp) (by simp (dsimp := false) only [push_cast, ↓reduceIte, Nat.reduceEqDiff, Nat.reduceAdd, reduceCtorEq] <;> rfl) ?_ | refine Conv.sl (by simp) ?_ | refine Conv.fn ?_))) ?_
        exact hh_nil
    · exact ⟨by omega, by omega, rfl⟩
    · rintro m τ ⟨i, hm, ⟨hi0, hi1, hi2⟩, rfl⟩ K hL0
      have hw := fun h : i < (v.inputs.length : Int) => wrap_next hi0 h (by omega)
      have hd := fun h : i < (v.inputs.length : Int) => dropI_map (fun l => PC.sl false l.length (l.map fun b => PC.c (Value.bool b))) hi0 h
      refine vwp_seq fun K hK => ?_
      refine vwp_seq_region rfl fun K hK => ?_
      simp (dsimp := false) only [push_cast, hP, hnt, hgw, hgb, Nat.reduceLT, Nat.reduceEqDiff, Nat.reduceAdd, Nat.reduceSub, Nat.reduceMul, Nat.reduceLeDiff, ↓reduceIte, reduceCtorEq, hi0]
      refine hK _ ?_; clear hK
      refine vwp_cond (b := _) (by simp (dsimp := false) only [push_cast, hP, hnt, hgw, hgb, Nat.reduceLT, Nat.reduceEqDiff, Nat.reduceAdd, Nat.reduceSub, Nat.reduceMul, Nat.reduceLeDiff, ↓reduceIte, reduceCtorEq, hi0]; rfl) (fun rb1 => ?_) (fun rb1 => ?_)
      · have hb1 := rb1
        try simp only [beq_iff_eq, bne_iff_ne, ne_eq, bne_eq_false_iff_eq, beq_eq_false_iff_ne, decide_eq_true_eq, decide_eq_false_iff_not, Bool.not_eq_true', Bool.not_eq_false', Bool.or_eq_true, Bool.and_eq_true, Bool.or_eq_false_iff, Bool.and_eq_false_iff] at hb1
        have hw := hw hb1
        have hd := hd hb1
        refine vwp_skip ?_
        apply_assumption
        refine vwp_seq fun K hK => ?_
        refine vwp_block ?_
        refine vwp_seq_regionG fun K hK => ?_
        simp (dsimp := false) only [push_cast, hP, hnt, hgw, hgb, Nat.reduceLT, Nat.reduceEqDiff, Nat.reduceAdd, Nat.reduceSub, Nat.reduceMul, Nat.reduceLeDiff, ↓reduceIte, reduceCtorEq, hi0, hw, hd, hb1]
        refine guardR_may (by simp (dsimp := false) only [push_cast, hP, hnt, hgw, hgb, Nat.reduceLT, Nat.reduceEqDiff, Nat.reduceAdd, Nat.reduceSub, Nat.reduceMul, Nat.reduceLeDiff, ↓reduceIte, reduceCtorEq, hi0, hw, hd, hb1, List.getElem?_cons_zero, List.getElem?_cons_succ]; rfl) ?_
        simp (dsimp := false) only [push_cast, hP, hnt, hgw, hgb, Nat.reduceLT, Nat.reduceEqDiff, Nat.reduceAdd, Nat.reduceSub, Nat.reduceMul, Nat.reduceLeDiff, ↓reduceIte, reduceCtorEq, hi0, hw, hd, hb1]
        refine guardR_may (by simp (dsimp := false) only [push_cast, hP, hnt, hgw, hgb, Nat.reduceLT, Nat.reduceEqDiff, Nat.reduceAdd, Nat.reduceSub, Nat.reduceMul, Nat.reduceLeDiff, ↓reduceIte, reduceCtorEq, hi0, hw, hd, hb1, List.getElem?_cons_zero, List.getElem?_cons_succ]; rfl) ?_
        simp (dsimp := false) only [push_cast, hP, hnt, hgw, hgb, Nat.reduceLT, Nat.reduceEqDiff, Nat.reduceAdd, Nat.reduceSub, Nat.reduceMul, Nat.reduceLeDiff, ↓reduceIte, reduceCtorEq, hi0, hw, hd, hb1]
        refine guardR_may (by simp (dsimp := false) only [push_cast, hP, hnt, hgw, hgb, Nat.reduceLT, Nat.reduceEqDiff, Nat.reduceAdd, Nat.reduceSub, Nat.reduceMul, Nat.reduceLeDiff, ↓reduceIte, reduceCtorEq, hi0, hw, hd, hb1, List.getElem?_cons_zero, List.getElem?_cons_succ]; rfl) ?_
        simp (dsimp := false) only [push_cast, hP, hnt, hgw, hgb, Nat.reduceLT, Nat.reduceEqDiff, Nat.reduceAdd, Nat.reduceSub, Nat.reduceMul, Nat.reduceLeDiff, ↓reduceIte, reduceCtorEq, hi0, hw, hd, hb1]
        refine guardR_may (by simp (dsimp := false) only [push_cast, hP, hnt, hgw, hgb, Nat.reduceLT, Nat.reduceEqDiff, Nat.reduceAdd, Nat.reduceSub, Nat.reduceMul, Nat.reduceLeDiff, ↓reduceIte, reduceCtorEq, hi0, hw, hd, hb1, List.getElem?_cons_zero, List.getElem?_cons_succ]; rfl) ?_
        simp (dsimp := false) only [push_cast, hP, hnt, hgw, hgb, Nat.reduceLT, Nat.reduceEqDiff, Nat.reduceAdd, Nat.reduceSub, Nat.reduceMul, Nat.reduceLeDiff, ↓reduceIte, reduceCtorEq, hi0, hw, hd, hb1]
        refine guardR_may (by simp (dsimp := false) only [push_cast, hP, hnt, hgw, hgb, Nat.reduceLT, Nat.reduceEqDiff, Nat.reduceAdd, Nat.reduceSub, Nat.reduceMul, Nat.reduceLeDiff, ↓reduceIte, reduceCtorEq, hi0, hw, hd, hb1, List.getElem?_cons_zero, List.getElem?_cons_succ]; rfl) ?_
        simp (dsimp := false) only [push_cast, hP, hnt, hgw, hgb, Nat.reduceLT, Nat.reduceEqDiff, Nat.reduceAdd, Nat.reduceSub, Nat.reduceMul, Nat.reduceLeDiff, ↓reduceIte, reduceCtorEq, hi0, hw, hd, hb1]
        refine guardR_may (by simp (dsimp := false) only [push_cast, hP, hnt, hgw, hgb, Nat.reduceLT, Nat.reduceEqDiff, Nat.reduceAdd, Nat.reduceSub, Nat.reduceMul, Nat.reduceLeDiff, ↓reduceIte, reduceCtorEq, hi0, hw, hd, hb1, List.getElem?_cons_zero, List.getElem?_cons_succ]; rfl) ?_
        simp (dsimp := false) only [push_cast, hP, hnt, hgw, hgb, Nat.reduceLT, Nat.reduceEqDiff, Nat.reduceAdd, Nat.reduceSub, Nat.reduceMul, Nat.reduceLeDiff, ↓reduceIte, reduceCtorEq, hi0, hw, hd, hb1]
        refine guardR_may (by simp (dsimp := false) only [push_cast, hP, hnt, hgw, hgb, Nat.reduceLT, Nat.reduceEqDiff, Nat.reduceAdd, Nat.reduceSub, Nat.reduceMul, Nat.reduceLeDiff, ↓reduceIte, reduceCtorEq, hi0, hw, hd, hb1, List.getElem?_cons_zero, List.getElem?_cons_succ]; rfl) ?_
        simp (dsimp := false) only [push_cast, hP, hnt, hgw, hgb, Nat.reduceLT, Nat.reduceEqDiff, Nat.reduceAdd, Nat.reduceSub, Nat.reduceMul, Nat.reduceLeDiff, ↓reduceIte, reduceCtorEq, hi0, hw, hd, hb1]
        refine guardR_may (by simp (dsimp := false) only [push_cast, hP, hnt, hgw, hgb, Nat.reduceLT, Nat.reduceEqDiff, Nat.reduceAdd, Nat.reduceSub, Nat.reduceMul, Nat.reduceLeDiff, ↓reduceIte, reduceCtorEq, hi0, hw, hd, hb1, List.getElem?_cons_zero, List.getElem?_cons_succ]; rfl) ?_
        simp (dsimp := false) only [push_cast, hP, hnt, hgw, hgb, Nat.reduceLT, Nat.reduceEqDiff, Nat.reduceAdd, Nat.reduceSub, Nat.reduceMul, Nat.reduceLeDiff, ↓reduceIte, reduceCtorEq, hi0, hw, hd, hb1]
        refine hK _ ?_; clear hK
        refine vwp_cond (b := _) (by simp (dsimp := false) only [push_cast, hP, hnt, hgw, hgb, Nat.reduceLT, Nat.reduceEqDiff, Nat.reduceAdd, Nat.reduceSub, Nat.reduceMul, Nat.reduceLeDiff, ↓reduceIte, reduceCtorEq, hi0, hw, hd, hb1]; rfl) (fun rb2 => ?_) (fun rb2 => ?_)
        · have hb2 := rb2
          try simp only [beq_iff_eq, bne_iff_ne, ne_eq, bne_eq_false_iff_eq, beq_eq_false_iff_ne, decide_eq_true_eq, decide_eq_false_iff_not, Bool.not_eq_true', Bool.not_eq_false', Bool.or_eq_true, Bool.and_eq_true, Bool.or_eq_false_iff, Bool.and_eq_false_iff] at hb2
          refine vwp_seq_region rfl fun K hK => ?_
          simp (dsimp := false) only [push_cast, hP, hnt, hgw, hgb, Nat.reduceLT, Nat.reduceEqDiff, Nat.reduceAdd, Nat.reduceSub, Nat.reduceMul, Nat.reduceLeDiff, ↓reduceIte, reduceCtorEq, hi0, hw, hd, hb1]
          refine hK _ ?_; clear hK
          refine vwp_ret ?_
          refine ret_free (by simp (dsimp := false) only [push_cast, hP, hnt, hgw, hgb, Nat.reduceLT, Nat.reduceEqDiff, Nat.reduceAdd, Nat.reduceSub, Nat.reduceMul, Nat.reduceLeDiff, ↓reduceIte, reduceCtorEq, hi0, hw, hd, hb1]; rfl) (by simp (dsimp := false) only [push_cast, hP, hnt, hgw, hgb, Nat.reduceLT, Nat.reduceEqDiff, Nat.reduceAdd, Nat.reduceSub, Nat.reduceMul, Nat.reduceLeDiff, ↓reduceIte, reduceCtorEq, hi0, hw, hd, hb1]) ?_
          rw [greatF_any (any_stop hi0 hb1 hi2 (by unfold longF; exact decide_eq_true (by omega)))]; rfl
        · have hb2 := rb2
          try simp only [beq_iff_eq, bne_iff_ne, ne_eq, bne_eq_false_iff_eq, beq_eq_false_iff_ne, decide_eq_true_eq, decide_eq_false_iff_not, Bool.not_eq_true', Bool.not_eq_false', Bool.or_eq_true, Bool.and_eq_true, Bool.or_eq_false_iff, Bool.and_eq_false_iff] at hb2
          refine vwp_skip ?_
          apply_assumption
          refine vwp_region rfl ?_
          simp (dsimp := false) only [push_cast, hP, hnt, hgw, hgb, Nat.reduceLT, Nat.reduceEqDiff, Nat.reduceAdd, Nat.reduceSub, Nat.reduceMul, Nat.reduceLeDiff, ↓reduceIte, reduceCtorEq, hi0, hw, hd, hb1]
          refine hL0 _ _ _ ?_ ?_ ⟨i + 1, rfl, ?_, rfl⟩
          · omega
          · refine wk_conv [] [((2, 0), (2, 0))] (by simp) (by simp) (by decide) ?_ ?_
            · refine hf_cons (by simp (dsimp := false) only [push_cast, ↓reduceIte, Nat.reduceEqDiff, Nat.reduceAdd, reduceCtorEq, hi0, hw, hd, hb1] <;> rfl) (by exact .one (.loc (by simp))) ?_
              refine hf_cons (by simp (dsimp := false) only [push_cast, ↓reduceIte, Nat.reduceEqDiff, Nat.reduceAdd, reduceCtorEq, hi0, hw, hd, hb1] <;> rfl) (by exact ConvV.self rfl) ?_
              exact hf_nil
            · refine hh_cons (i := (2, 0)) (by simp) (by simp) (by simp (dsimp := false) only [push_cast, ↓reduceIte, Nat.reduceEqDiff, Nat.reduceAdd, reduceCtorEq, hi0, hw, hd, hb1] <;> rfl) (by first | (refine ConvB.free ?_; simp only [push_cast]; done) | (refine ConvB.box ?_; repeat' (first | exact ConvVs.nil | exact ConvL.nil | refine ConvV.tup ?_ | refine ConvVs.cons ?_ ?_ | (refine ConvV.self ?_; simp only [push_cast]; done) | refine ConvV.one ?_ | refine ConvV.agg ?_ | (refine ConvL.free ?_; simp only [push_cast]; done) | refine ConvL.append ?_ ?_ | refine ConvL.cons ?_ ?_ | exact Conv.free rfl | exact Conv.nil | (refine Conv.own ?_; simp; done) | (refine Conv.loc ?_; simp; done) | refine Conv.frz (by simp) (by simp (dsimp := false) only [push_cast, ↓reduceIte, Nat.reduceEqDiff, Nat.reduceAdd, reduceCtorEq, hi0, hw, hd, hb1] <;> rfl) ?_ | refine Conv.sl (by simp) ?_ | refine Conv.fn ?_))) ?_
              exact hh_nil
          · exact ⟨by omega, by omega, any_next hi0 hb1 hi2 (by unfold longF; exact decide_eq_false (by omega))⟩
      · have hb1 := rb1
        try simp only [beq_iff_eq, bne_iff_ne, ne_eq, bne_eq_false_iff_eq, beq_eq_false_iff_ne, decide_eq_true_eq, decide_eq_false_iff_not, Bool.not_eq_true', Bool.not_eq_false', Bool.or_eq_true, Bool.and_eq_true, Bool.or_eq_false_iff, Bool.and_eq_false_iff] at hb1
        refine vwp_exit ?_
        simp only [thenQ, blockQ, Nat.reduceEqDiff, reduceIte]
        apply_assumption
        refine vwp_seq_region rfl fun K hK => ?_
        simp (dsimp := false) only [push_cast, hP, hnt, hgw, hgb, Nat.reduceLT, Nat.reduceEqDiff, Nat.reduceAdd, Nat.reduceSub, Nat.reduceMul, Nat.reduceLeDiff, ↓reduceIte, reduceCtorEq, hi0]
        refine hK _ ?_; clear hK
        refine vwp_ret ?_
        refine ret_free (by simp (dsimp := false) only [push_cast, hP, hnt, hgw, hgb, Nat.reduceLT, Nat.reduceEqDiff, Nat.reduceAdd, Nat.reduceSub, Nat.reduceMul, Nat.reduceLeDiff, ↓reduceIte, reduceCtorEq, hi0]; rfl) (by simp (dsimp := false) only [push_cast, hP, hnt, hgw, hgb, Nat.reduceLT, Nat.reduceEqDiff, Nat.reduceAdd, Nat.reduceSub, Nat.reduceMul, Nat.reduceLeDiff, ↓reduceIte, reduceCtorEq, hi0]) ?_
        rw [greatF_no (by unfold greatHead; exact decide_eq_false (by omega)) (any_end hb1 hi2)]; rfl
end Go.Vm
end
