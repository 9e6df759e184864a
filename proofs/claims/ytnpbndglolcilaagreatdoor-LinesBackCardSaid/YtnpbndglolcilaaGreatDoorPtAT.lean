/-
  Walks of the program's functions by the framework, and what they compute (PtAT). Conditions: each theorem's own premises. By an AI agent.
-/
import Derived.Test.YtnpbndglolcilaaGreatDoorPtAS
import Derived.Test.YtnpbndglolcilaaGreatDoorPtAH
section
namespace Go.Vm
open Go Go.RowKit Go.Proofs
set_option maxRecDepth 100000
set_option linter.unusedSimpArgs false
set_option linter.unusedVariables false
set_option maxHeartbeats 4000000
theorem refEngine0_call (gw : World) (gb : Nat) (x : Eng) : VCall Tryz.prog gw (gb) 18 [.agg (x.pcs)] (.one (.c (.int .i64 (engE x)))) [] := by
  refine vcall_of [.tmp 2] Tryz.func18 rfl rfl Tryz.ntmps18 rfl (by simp) ?_
  intro C hP hnt hgw hgb hfull
  refine vwp_seq_region rfl fun K hK => ?_
  simp (dsimp := false) only [push_cast, hP, hnt, hgw, hgb, sevalprocAttr]
  refine hK _ ?_; clear hK
  refine vwp_seq fun K hK => ?_
  refine vwp_seq_regionG fun K hK => ?_
  simp (dsimp := false) only [push_cast, hP, hnt, hgw, hgb, sevalprocAttr]
  refine guardR_may (by simp (dsimp := false) only [push_cast, hP, hnt, hgw, hgb, sevalprocAttr, List.getElem?_cons_zero, List.getElem?_cons_succ]; rfl) ?_
  simp (dsimp := false) only [push_cast, hP, hnt, hgw, hgb, sevalprocAttr]
  refine guardR_may (by simp (dsimp := false) only [push_cast, hP, hnt, hgw, hgb, sevalprocAttr, List.getElem?_cons_zero, List.getElem?_cons_succ]; rfl) ?_
  simp (dsimp := false) only [push_cast, hP, hnt, hgw, hgb, sevalprocAttr]
  refine guardR_may (by simp (dsimp := false) only [push_cast, hP, hnt, hgw, hgb, sevalprocAttr, List.getElem?_cons_zero, List.getElem?_cons_succ]; rfl) ?_
  simp (dsimp := false) only [push_cast, hP, hnt, hgw, hgb, sevalprocAttr]
  refine guardR_may (by simp (dsimp := false) only [push_cast, hP, hnt, hgw, hgb, sevalprocAttr, List.getElem?_cons_zero, List.getElem?_cons_succ]; rfl) ?_
  simp (dsimp := false) only [push_cast, hP, hnt, hgw, hgb, sevalprocAttr]
  refine guardR_may (by simp (dsimp := false) only [push_cast, hP, hnt, hgw, hgb, sevalprocAttr, List.getElem?_cons_zero, List.getElem?_cons_succ]; rfl) ?_
  simp (dsimp := false) only [push_cast, hP, hnt, hgw, hgb, sevalprocAttr]
  refine guardR_may (by simp (dsimp := false) only [push_cast, hP, hnt, hgw, hgb, sevalprocAttr, List.getElem?_cons_zero, List.getElem?_cons_succ]; rfl) ?_
  simp (dsimp := false) only [push_cast, hP, hnt, hgw, hgb, sevalprocAttr]
  refine guardR_may (by simp (dsimp := false) only [push_cast, hP, hnt, hgw, hgb, sevalprocAttr, List.getElem?_cons_zero, List.getElem?_cons_succ]; rfl) ?_
  simp (dsimp := false) only [push_cast, hP, hnt, hgw, hgb, sevalprocAttr]
  refine guardR_may (by simp (dsimp := false) only [push_cast, hP, hnt, hgw, hgb, sevalprocAttr, List.getElem?_cons_zero, List.getElem?_cons_succ]; rfl) ?_
  simp (dsimp := false) only [push_cast, hP, hnt, hgw, hgb, sevalprocAttr]
  refine guardR_may (by simp (dsimp := false) only [push_cast, hP, hnt, hgw, hgb, sevalprocAttr, List.getElem?_cons_zero, List.getElem?_cons_succ]; rfl) ?_
  simp (dsimp := false) only [push_cast, hP, hnt, hgw, hgb, sevalprocAttr]
  refine guardR_may (by simp (dsimp := false) only [push_cast, hP, hnt, hgw, hgb, sevalprocAttr, List.getElem?_cons_zero, List.getElem?_cons_succ]; rfl) ?_
  simp (dsimp := false) only [push_cast, hP, hnt, hgw, hgb, sevalprocAttr]
  refine guardR_may (by simp (dsimp := false) only [push_cast, hP, hnt, hgw, hgb, sevalprocAttr, List.getElem?_cons_zero, List.getElem?_cons_succ]; rfl) ?_
  simp (dsimp := false) only [push_cast, hP, hnt, hgw, hgb, sevalprocAttr]
  refine guardR_may (by simp (dsimp := false) only [push_cast, hP, hnt, hgw, hgb, sevalprocAttr, List.getElem?_cons_zero, List.getElem?_cons_succ]; rfl) ?_
  simp (dsimp := false) only [push_cast, hP, hnt, hgw, hgb, sevalprocAttr]
  refine guardR_may (by simp (dsimp := false) only [push_cast, hP, hnt, hgw, hgb, sevalprocAttr, List.getElem?_cons_zero, List.getElem?_cons_succ]; rfl) ?_
  simp (dsimp := false) only [push_cast, hP, hnt, hgw, hgb, sevalprocAttr]
  refine guardR_may (by simp (dsimp := false) only [push_cast, hP, hnt, hgw, hgb, sevalprocAttr, List.getElem?_cons_zero, List.getElem?_cons_succ]; rfl) ?_
  simp (dsimp := false) only [push_cast, hP, hnt, hgw, hgb, sevalprocAttr]
  refine guardR_may (by simp (dsimp := false) only [push_cast, hP, hnt, hgw, hgb, sevalprocAttr, List.getElem?_cons_zero, List.getElem?_cons_succ]; rfl) ?_
  simp (dsimp := false) only [push_cast, hP, hnt, hgw, hgb, sevalprocAttr]
  refine guardR_may (by simp (dsimp := false) only [push_cast, hP, hnt, hgw, hgb, sevalprocAttr, List.getElem?_cons_zero, List.getElem?_cons_succ]; rfl) ?_
  simp (dsimp := false) only [push_cast, hP, hnt, hgw, hgb, sevalprocAttr]
  refine guardR_may (by simp (dsimp := false) only [push_cast, hP, hnt, hgw, hgb, sevalprocAttr, List.getElem?_cons_zero, List.getElem?_cons_succ]; rfl) ?_
  simp (dsimp := false) only [push_cast, hP, hnt, hgw, hgb, sevalprocAttr]
  refine guardR_may (by simp (dsimp := false) only [push_cast, hP, hnt, hgw, hgb, sevalprocAttr, List.getElem?_cons_zero, List.getElem?_cons_succ]; rfl) ?_
  simp (dsimp := false) only [push_cast, hP, hnt, hgw, hgb, sevalprocAttr]
  refine guardR_may (by simp (dsimp := false) only [push_cast, hP, hnt, hgw, hgb, sevalprocAttr, List.getElem?_cons_zero, List.getElem?_cons_succ]; rfl) ?_
  simp (dsimp := false) only [push_cast, hP, hnt, hgw, hgb, sevalprocAttr]
  refine guardR_may (by simp (dsimp := false) only [push_cast, hP, hnt, hgw, hgb, sevalprocAttr, List.getElem?_cons_zero, List.getElem?_cons_succ]; rfl) ?_
  simp (dsimp := false) only [push_cast, hP, hnt, hgw, hgb, sevalprocAttr]
  refine guardR_may (by simp (dsimp := false) only [push_cast, hP, hnt, hgw, hgb, sevalprocAttr, List.getElem?_cons_zero, List.getElem?_cons_succ]; rfl) ?_
  simp (dsimp := false) only [push_cast, hP, hnt, hgw, hgb, sevalprocAttr]
  refine guardR_may (by simp (dsimp := false) only [push_cast, hP, hnt, hgw, hgb, sevalprocAttr, List.getElem?_cons_zero, List.getElem?_cons_succ]; rfl) ?_
  simp (dsimp := false) only [push_cast, hP, hnt, hgw, hgb, sevalprocAttr]
  refine guardR_may (by simp (dsimp := false) only [push_cast, hP, hnt, hgw, hgb, sevalprocAttr, List.getElem?_cons_zero, List.getElem?_cons_succ]; rfl) ?_
  simp (dsimp := false) only [push_cast, hP, hnt, hgw, hgb, sevalprocAttr]
  refine guardR_may (by simp (dsimp := false) only [push_cast, hP, hnt, hgw, hgb, sevalprocAttr, List.getElem?_cons_zero, List.getElem?_cons_succ]; rfl) ?_
  simp (dsimp := false) only [push_cast, hP, hnt, hgw, hgb, sevalprocAttr]
  refine guardR_may (by simp (dsimp := false) only [push_cast, hP, hnt, hgw, hgb, sevalprocAttr, List.getElem?_cons_zero, List.getElem?_cons_succ]; rfl) ?_
  simp (dsimp := false) only [push_cast, hP, hnt, hgw, hgb, sevalprocAttr]
  refine guardR_may (by simp (dsimp := false) only [push_cast, hP, hnt, hgw, hgb, sevalprocAttr, List.getElem?_cons_zero, List.getElem?_cons_succ]; rfl) ?_
  simp (dsimp := false) only [push_cast, hP, hnt, hgw, hgb, sevalprocAttr]
  refine guardR_may (by simp (dsimp := false) only [push_cast, hP, hnt, hgw, hgb, sevalprocAttr, List.getElem?_cons_zero, List.getElem?_cons_succ]; rfl) ?_
  simp (dsimp := false) only [push_cast, hP, hnt, hgw, hgb, sevalprocAttr]
  refine guardR_may (by simp (dsimp := false) only [push_cast, hP, hnt, hgw, hgb, sevalprocAttr, List.getElem?_cons_zero, List.getElem?_cons_succ]; rfl) ?_
  simp (dsimp := false) only [push_cast, hP, hnt, hgw, hgb, sevalprocAttr]
  refine hK _ ?_; clear hK
  refine vwp_cond (b := _) (by simp (dsimp := false) only [push_cast, hP, hnt, hgw, hgb, sevalprocAttr]; rfl) (fun rb0 => ?_) (fun rb0 => ?_)
  · have hb0 := rb0
    try simp only [beq_iff_eq, bne_iff_ne, ne_eq, bne_eq_false_iff_eq, beq_eq_false_iff_ne, decide_eq_true_eq, decide_eq_false_iff_not, Bool.not_eq_true', Bool.not_eq_false', Bool.or_eq_true, Bool.and_eq_true, Bool.or_eq_false_iff, Bool.and_eq_false_iff] at hb0
    refine vwp_seq_region rfl fun K hK => ?_
    simp (dsimp := false) only [push_cast, hP, hnt, hgw, hgb, sevalprocAttr]
    refine hK _ ?_; clear hK
    refine vwp_ret ?_
    refine ret_free (by simp (dsimp := false) only [push_cast, hP, hnt, hgw, hgb, sevalprocAttr]; rfl) (by simp (dsimp := false) only [push_cast, hP, hnt, hgw, hgb, sevalprocAttr]) ?_
    rw [engE_bad (by rintro ⟨h1, h2, h3⟩; rcases h3 with ⟨h3, h4⟩ | ⟨h3, h4⟩ <;> simp [h3] at hb0 <;> omega)]; rfl
  · have hb0 := rb0
    try simp only [beq_iff_eq, bne_iff_ne, ne_eq, bne_eq_false_iff_eq, beq_eq_false_iff_ne, decide_eq_true_eq, decide_eq_false_iff_not, Bool.not_eq_true', Bool.not_eq_false', Bool.or_eq_true, Bool.and_eq_true, Bool.or_eq_false_iff, Bool.and_eq_false_iff] at hb0
    refine vwp_skip ?_
    apply_assumption
    refine vwp_seq_region rfl fun K hK => ?_
    simp (dsimp := false) only [push_cast, hP, hnt, hgw, hgb, sevalprocAttr]
    refine hK _ ?_; clear hK
    refine vwp_ret ?_
    refine ret_free (by simp (dsimp := false) only [push_cast, hP, hnt, hgw, hgb, sevalprocAttr]; rfl) (by simp (dsimp := false) only [push_cast, hP, hnt, hgw, hgb, sevalprocAttr]) ?_
    rw [engE_ok (by cases hx : x.pdr <;> simp [hx] at hb0 <;> exact ⟨by omega, by omega, by first | (left; exact ⟨hx, by omega, by omega⟩) | (right; exact ⟨hx, by omega, by omega⟩)⟩)]; rfl
def engS (x : Eng) : ByteArray := (if x.pdr = true then ⟨#[112, 100, 114, 32]⟩ else ⟨#[98, 109, 99, 32]⟩) ++ digB x.num ++ spB ++ digB x.bud
theorem engS_eq {x : Eng} (h : engP x) : engS x = engT x := by
  have hb := h.1
  have hn : 0 ≤ x.num := by rcases h.2.2 with ⟨_, h⟩ | ⟨_, h⟩ <;> omega
  unfold engS engT engW
  rw [digB_eq hb, digB_eq hn]
  cases x.pdr <;> rfl
theorem eng_num {x : Eng} (h : engP x) : 0 ≤ x.num ∧ x.num ≤ 100 := by rcases h.2.2 with ⟨_, h⟩ | ⟨_, h⟩ <;> omega
theorem engT_size {x : Eng} (h : engP x) : (engT x).size ≤ 50 := by
  have h1 := engW_size x
  have h2 := itoaB_big (eng_num h).1 (by have := (eng_num h).2; omega)
  have h3 := itoaB_big h.1 (by have := h.2.1; omega)
  have h4 : spB.size = 1 := rfl
  unfold engT
  rw [ByteArray.size_append, ByteArray.size_append, ByteArray.size_append, ByteArray.size_append]
  omega
theorem engineF_bad {x : Eng} (h : ¬ engE x = 0) : engineF x = (⟨#[]⟩, engE x) := if_pos h
theorem engineF_ok {x : Eng} (h : engE x = 0) : engineF x = (engT x, 0) := if_neg (by simpa using h)
theorem engineText_call (gw : World) (hg : Glob gw) (x : Eng) : VCall Tryz.prog gw (gw.heap.size) 13 [.agg (x.pcs)] (.tup [.one (.c (.string (engineF x).1)), .one (.c (.int .i64 (engineF x).2))]) [] := by
  refine vcall_of [.tmp 2, .tmp 3] Tryz.func13 rfl rfl Tryz.ntmps13 rfl (by simp) ?_
  intro C hP hnt hgw hgb hfull
  refine vwp_seq_region rfl fun K hK => ?_
  simp (dsimp := false) only [push_cast, hP, hnt, hgw, hgb, sevalprocAttr]
  refine hK _ ?_; clear hK
  refine vwp_seq fun K hK => ?_
  refine vwp_seq_region rfl fun K hK => ?_
  simp (dsimp := false) only [push_cast, hP, hnt, hgw, hgb, sevalprocAttr]
  refine .inl (callE_intro (engine_call gw gw.heap.size x) (.inl ⟨rfl, rfl⟩) ?_)
  simp (dsimp := false) only [push_cast, hP, hnt, hgw, hgb, sevalprocAttr]
  refine hK _ ?_; clear hK
  refine vwp_seq_region rfl fun K hK => ?_
  simp (dsimp := false) only [push_cast, hP, hnt, hgw, hgb, sevalprocAttr]
  refine hK _ ?_; clear hK
  refine vwp_cond (b := _) (by simp (dsimp := false) only [push_cast, hP, hnt, hgw, hgb, sevalprocAttr]; rfl) (fun rb0 => ?_) (fun rb0 => ?_)
  · have hb0 := rb0
    try simp only [beq_iff_eq, bne_iff_ne, ne_eq, bne_eq_false_iff_eq, beq_eq_false_iff_ne, decide_eq_true_eq, decide_eq_false_iff_not, Bool.not_eq_true', Bool.not_eq_false', Bool.or_eq_true, Bool.and_eq_true, Bool.or_eq_false_iff, Bool.and_eq_false_iff] at hb0
    refine vwp_seq_region rfl fun K hK => ?_
    simp (dsimp := false) only [push_cast, hP, hnt, hgw, hgb, sevalprocAttr]
    refine hK _ ?_; clear hK
    refine vwp_ret ?_
    refine ret_free (by simp (dsimp := false) only [push_cast, hP, hnt, hgw, hgb, sevalprocAttr]; rfl) (by simp (dsimp := false) only [push_cast, hP, hnt, hgw, hgb, sevalprocAttr]) ?_
    rw [engineF_bad (by simpa using hb0)]; rfl
  · have hb0 := rb0
    try simp only [beq_iff_eq, bne_iff_ne, ne_eq, bne_eq_false_iff_eq, beq_eq_false_iff_ne, decide_eq_true_eq, decide_eq_false_iff_not, Bool.not_eq_true', Bool.not_eq_false', Bool.or_eq_true, Bool.and_eq_true, Bool.or_eq_false_iff, Bool.and_eq_false_iff] at hb0
    refine vwp_skip ?_
    apply_assumption
    refine vwp_seq_region rfl fun K hK => ?_
    simp (dsimp := false) only [push_cast, hP, hnt, hgw, hgb, sevalprocAttr]
    refine hK _ ?_; clear hK
    refine vwp_seq fun K hK => ?_
    refine vwp_seq_region rfl fun K hK => ?_
    simp (dsimp := false) only [push_cast, hP, hnt, hgw, hgb, sevalprocAttr]
    refine hK _ ?_; clear hK
    refine vwp_cond (b := _) (by simp (dsimp := false) only [push_cast, hP, hnt, hgw, hgb, sevalprocAttr]; rfl) (fun rb1 => ?_) (fun rb1 => ?_)
    · have hb1 := rb1
      try simp only [beq_iff_eq, bne_iff_ne, ne_eq, bne_eq_false_iff_eq, beq_eq_false_iff_ne, decide_eq_true_eq, decide_eq_false_iff_not, Bool.not_eq_true', Bool.not_eq_false', Bool.or_eq_true, Bool.and_eq_true, Bool.or_eq_false_iff, Bool.and_eq_false_iff] at hb1
      have hp := engE_zero (by simpa using hb0)
      have hn1 := itoaB_big (eng_num hp).1 (by have := (eng_num hp).2; omega)
      have hn2 := itoaB_big hp.1 (by have := hp.2.1; omega)
      have hc1 : (⟨#[112, 100, 114]⟩ : ByteArray).size = 3 := rfl
      have hc2 : (⟨#[32]⟩ : ByteArray).size = 1 := rfl
      have hs1 : (⟨#[112, 100, 114]⟩ : ByteArray).size + (⟨#[32]⟩ : ByteArray).size ≤ 9223372036854775807 := by omega
      have hs2 : ((⟨#[112, 100, 114]⟩ : ByteArray) ++ (⟨#[32]⟩ : ByteArray)).size + (itoaB x.num).size ≤ 9223372036854775807 := by rw [ByteArray.size_append]; omega
      have hs3 : ((⟨#[112, 100, 114]⟩ : ByteArray) ++ (⟨#[32]⟩ : ByteArray) ++ itoaB x.num).size + (⟨#[32]⟩ : ByteArray).size ≤ 9223372036854775807 := by rw [ByteArray.size_append, ByteArray.size_append]; omega
      have hs4 : ((⟨#[112, 100, 114]⟩ : ByteArray) ++ (⟨#[32]⟩ : ByteArray) ++ itoaB x.num ++ (⟨#[32]⟩ : ByteArray)).size + (itoaB x.bud).size ≤ 9223372036854775807 := by rw [ByteArray.size_append, ByteArray.size_append, ByteArray.size_append]; omega
      refine vwp_region rfl ?_
      simp (dsimp := false) only [push_cast, hP, hnt, hgw, hgb, sevalprocAttr, hs1, hs2, hs3, hs4]
      apply_assumption
      refine vwp_seq_anyF [[], [0], [], [2], [2, 3], [0, 1, 2, 3, 4], [0, 1, 2, 3, 4, 5], [], [7], [2, 3, 4, 7, 8], [0, 1, 2, 3, 4, 5, 6, 7, 8, 9], [0, 1, 2, 3, 4, 5, 6, 7, 8, 9, 10], [0, 1, 2, 3, 4, 5, 6, 7, 8, 9, 10, 11]] [([(13, .dead), (14, .old), (15, .dead), (16, .dead), (17, .dead), (18, .old), (19, .old), (20, .dead), (21, .dead), (22, .dead), (23, .old), (2, .old), (3, .old)], [14, 15, 16, 17, 18, 19, 20, 21, 22, 23, 2, 3], []), ([(13, .dep 0), (14, .dead), (15, .dead), (16, .dead), (17, .dead), (18, .old), (19, .old), (20, .dead), (21, .dead), (22, .dead), (23, .old), (2, .old), (3, .old)], [15, 16, 17, 18, 19, 20, 21, 22, 23, 2, 3], [0]), ([(13, .dead), (14, .dead), (15, .dead), (16, .old), (17, .old), (18, .old), (19, .old), (20, .dead), (21, .dead), (22, .old), (23, .old), (2, .old), (3, .old)], [13, 14, 16, 17, 18, 19, 20, 21, 22, 23, 2, 3], []), ([(13, .dead), (14, .dead), (15, .dep 0), (16, .dead), (17, .old), (18, .old), (19, .old), (20, .dead), (21, .dead), (22, .old), (23, .old), (2, .old), (3, .old)], [13, 14, 17, 18, 19, 20, 21, 22, 23, 2, 3], [0]), ([(13, .dead), (14, .dead), (15, .dep 1), (16, .dep 0), (17, .dead), (18, .old), (19, .old), (20, .dead), (21, .dead), (22, .old), (23, .old), (2, .old), (3, .old)], [13, 14, 18, 19, 20, 21, 22, 23, 2, 3], [1, 0]), ([(13, .dep 4), (14, .dep 3), (15, .dep 2), (16, .dep 1), (17, .dep 0), (18, .dead), (19, .old), (20, .dead), (21, .dead), (22, .dead), (23, .old), (2, .old), (3, .old)], [19, 20, 21, 22, 23, 2, 3], [4, 3, 2, 1, 0]), ([(13, .dep 5), (14, .dep 4), (15, .dep 3), (16, .dep 2), (17, .dep 1), (18, .dep 0), (19, .dead), (20, .dead), (21, .dead), (22, .dead), (23, .old), (2, .old), (3, .old)], [20, 21, 22, 23, 2, 3], [5, 4, 3, 2, 1, 0]), ([(13, .dead), (14, .dead), (15, .dead), (16, .dead), (17, .dead), (18, .dead), (19, .dead), (20, .dead), (21, .old), (22, .old), (23, .old), (2, .old), (3, .old)], [13, 14, 15, 16, 17, 18, 19, 21, 22, 23, 2, 3], []), ([(13, .dead), (14, .dead), (15, .dead), (16, .dead), (17, .dead), (18, .dead), (19, .dead), (20, .dep 0), (21, .dead), (22, .old), (23, .old), (2, .old), (3, .old)], [13, 14, 15, 16, 17, 18, 19, 22, 23, 2, 3], [0]), ([(13, .dead), (14, .dead), (15, .dep 6), (16, .dep 5), (17, .dep 4), (18, .dead), (19, .dead), (20, .dep 1), (21, .dep 0), (22, .dead), (23, .old), (2, .old), (3, .old)], [13, 14, 18, 19, 23, 2, 3], [6, 5, 4, 1, 0]), ([(13, .dep 9), (14, .dep 8), (15, .dep 7), (16, .dep 6), (17, .dep 5), (18, .dep 4), (19, .dep 3), (20, .dep 2), (21, .dep 1), (22, .dep 0), (23, .dead), (2, .old), (3, .old)], [2, 3], [9, 8, 7, 6, 5, 4, 3, 2, 1, 0]), ([(13, .dep 10), (14, .dep 9), (15, .dep 8), (16, .dep 7), (17, .dep 6), (18, .dep 5), (19, .dep 4), (20, .dep 3), (21, .dep 2), (22, .dep 1), (23, .dep 0), (2, .dead), (3, .old)], [3], [10, 9, 8, 7, 6, 5, 4, 3, 2, 1, 0]), ([(13, .dep 11), (14, .dep 10), (15, .dep 9), (16, .dep 8), (17, .dep 7), (18, .dep 6), (19, .dep 5), (20, .dep 4), (21, .dep 3), (22, .dep 2), (23, .dep 1), (2, .dep 0), (3, .dead)], [], [11, 10, 9, 8, 7, 6, 5, 4, 3, 2, 1, 0])] (by rw [hP]; exact mixed) rfl rfl rfl fun K hK => ?_
      simp (dsimp := false) only [push_cast, hP, hnt, hgw, hgb, sevalprocAttr, hs1, hs2, hs3, hs4, Nat.reduceBNe, Nat.reduceBEq]
      refine .inl (callE_intro (itoaG_call gw hg _ (by have := eng_num hp; omega) (by have := eng_num hp; omega)) (.inl ⟨rfl, rfl⟩) ?_)
      simp (dsimp := false) only [push_cast, hP, hnt, hgw, hgb, sevalprocAttr, hs1, hs2, hs3, hs4, Nat.reduceBNe, Nat.reduceBEq]
      refine .inl (callE_intro (itoaG_call gw hg _ (by have := hp.1; omega) (by have := hp.2.1; omega)) (.inl ⟨rfl, rfl⟩) ?_)
      simp (dsimp := false) only [push_cast, hP, hnt, hgw, hgb, sevalprocAttr, hs1, hs2, hs3, hs4, Nat.reduceBNe, Nat.reduceBEq]
      refine ⟨rfl, ?_⟩
      refine hK _ ?_; clear hK
      refine vwp_ret ?_
      refine ret_free (by simp (dsimp := false) only [push_cast, hP, hnt, hgw, hgb, sevalprocAttr, hs1, hs2, hs3, hs4]; rfl) (by simp (dsimp := false) only [push_cast, hP, hnt, hgw, hgb, sevalprocAttr, hs1, hs2, hs3, hs4]) ?_
      rw [engineF_ok (by simpa using hb0), engT, engW, if_pos hb1]; rfl
    · have hb1 := rb1
      try simp only [beq_iff_eq, bne_iff_ne, ne_eq, bne_eq_false_iff_eq, beq_eq_false_iff_ne, decide_eq_true_eq, decide_eq_false_iff_not, Bool.not_eq_true', Bool.not_eq_false', Bool.or_eq_true, Bool.and_eq_true, Bool.or_eq_false_iff, Bool.and_eq_false_iff] at hb1
      have hp := engE_zero (by simpa using hb0)
      have hn1 := itoaB_big (eng_num hp).1 (by have := (eng_num hp).2; omega)
      have hn2 := itoaB_big hp.1 (by have := hp.2.1; omega)
      have hc1 : (⟨#[98, 109, 99]⟩ : ByteArray).size = 3 := rfl
      have hc2 : (⟨#[32]⟩ : ByteArray).size = 1 := rfl
      have hs1 : (⟨#[98, 109, 99]⟩ : ByteArray).size + (⟨#[32]⟩ : ByteArray).size ≤ 9223372036854775807 := by omega
      have hs2 : ((⟨#[98, 109, 99]⟩ : ByteArray) ++ (⟨#[32]⟩ : ByteArray)).size + (itoaB x.num).size ≤ 9223372036854775807 := by rw [ByteArray.size_append]; omega
      have hs3 : ((⟨#[98, 109, 99]⟩ : ByteArray) ++ (⟨#[32]⟩ : ByteArray) ++ itoaB x.num).size + (⟨#[32]⟩ : ByteArray).size ≤ 9223372036854775807 := by rw [ByteArray.size_append, ByteArray.size_append]; omega
      have hs4 : ((⟨#[98, 109, 99]⟩ : ByteArray) ++ (⟨#[32]⟩ : ByteArray) ++ itoaB x.num ++ (⟨#[32]⟩ : ByteArray)).size + (itoaB x.bud).size ≤ 9223372036854775807 := by rw [ByteArray.size_append, ByteArray.size_append, ByteArray.size_append]; omega
      refine vwp_skip ?_
      apply_assumption
      refine vwp_seq_anyF [[], [0], [], [2], [2, 3], [0, 1, 2, 3, 4], [0, 1, 2, 3, 4, 5], [], [7], [2, 3, 4, 7, 8], [0, 1, 2, 3, 4, 5, 6, 7, 8, 9], [0, 1, 2, 3, 4, 5, 6, 7, 8, 9, 10], [0, 1, 2, 3, 4, 5, 6, 7, 8, 9, 10, 11]] [([(13, .dead), (14, .old), (15, .dead), (16, .dead), (17, .dead), (18, .old), (19, .old), (20, .dead), (21, .dead), (22, .dead), (23, .old), (2, .old), (3, .old)], [14, 15, 16, 17, 18, 19, 20, 21, 22, 23, 2, 3], []), ([(13, .dep 0), (14, .dead), (15, .dead), (16, .dead), (17, .dead), (18, .old), (19, .old), (20, .dead), (21, .dead), (22, .dead), (23, .old), (2, .old), (3, .old)], [15, 16, 17, 18, 19, 20, 21, 22, 23, 2, 3], [0]), ([(13, .dead), (14, .dead), (15, .dead), (16, .old), (17, .old), (18, .old), (19, .old), (20, .dead), (21, .dead), (22, .old), (23, .old), (2, .old), (3, .old)], [13, 14, 16, 17, 18, 19, 20, 21, 22, 23, 2, 3], []), ([(13, .dead), (14, .dead), (15, .dep 0), (16, .dead), (17, .old), (18, .old), (19, .old), (20, .dead), (21, .dead), (22, .old), (23, .old), (2, .old), (3, .old)], [13, 14, 17, 18, 19, 20, 21, 22, 23, 2, 3], [0]), ([(13, .dead), (14, .dead), (15, .dep 1), (16, .dep 0), (17, .dead), (18, .old), (19, .old), (20, .dead), (21, .dead), (22, .old), (23, .old), (2, .old), (3, .old)], [13, 14, 18, 19, 20, 21, 22, 23, 2, 3], [1, 0]), ([(13, .dep 4), (14, .dep 3), (15, .dep 2), (16, .dep 1), (17, .dep 0), (18, .dead), (19, .old), (20, .dead), (21, .dead), (22, .dead), (23, .old), (2, .old), (3, .old)], [19, 20, 21, 22, 23, 2, 3], [4, 3, 2, 1, 0]), ([(13, .dep 5), (14, .dep 4), (15, .dep 3), (16, .dep 2), (17, .dep 1), (18, .dep 0), (19, .dead), (20, .dead), (21, .dead), (22, .dead), (23, .old), (2, .old), (3, .old)], [20, 21, 22, 23, 2, 3], [5, 4, 3, 2, 1, 0]), ([(13, .dead), (14, .dead), (15, .dead), (16, .dead), (17, .dead), (18, .dead), (19, .dead), (20, .dead), (21, .old), (22, .old), (23, .old), (2, .old), (3, .old)], [13, 14, 15, 16, 17, 18, 19, 21, 22, 23, 2, 3], []), ([(13, .dead), (14, .dead), (15, .dead), (16, .dead), (17, .dead), (18, .dead), (19, .dead), (20, .dep 0), (21, .dead), (22, .old), (23, .old), (2, .old), (3, .old)], [13, 14, 15, 16, 17, 18, 19, 22, 23, 2, 3], [0]), ([(13, .dead), (14, .dead), (15, .dep 6), (16, .dep 5), (17, .dep 4), (18, .dead), (19, .dead), (20, .dep 1), (21, .dep 0), (22, .dead), (23, .old), (2, .old), (3, .old)], [13, 14, 18, 19, 23, 2, 3], [6, 5, 4, 1, 0]), ([(13, .dep 9), (14, .dep 8), (15, .dep 7), (16, .dep 6), (17, .dep 5), (18, .dep 4), (19, .dep 3), (20, .dep 2), (21, .dep 1), (22, .dep 0), (23, .dead), (2, .old), (3, .old)], [2, 3], [9, 8, 7, 6, 5, 4, 3, 2, 1, 0]), ([(13, .dep 10), (14, .dep 9), (15, .dep 8), (16, .dep 7), (17, .dep 6), (18, .dep 5), (19, .dep 4), (20, .dep 3), (21, .dep 2), (22, .dep 1), (23, .dep 0), (2, .dead), (3, .old)], [3], [10, 9, 8, 7, 6, 5, 4, 3, 2, 1, 0]), ([(13, .dep 11), (14, .dep 10), (15, .dep 9), (16, .dep 8), (17, .dep 7), (18, .dep 6), (19, .dep 5), (20, .dep 4), (21, .dep 3), (22, .dep 2), (23, .dep 1), (2, .dep 0), (3, .dead)], [], [11, 10, 9, 8, 7, 6, 5, 4, 3, 2, 1, 0])] (by rw [hP]; exact mixed) rfl rfl rfl fun K hK => ?_
      simp (dsimp := false) only [push_cast, hP, hnt, hgw, hgb, sevalprocAttr, hs1, hs2, hs3, hs4, Nat.reduceBNe, Nat.reduceBEq]
      refine .inl (callE_intro (itoaG_call gw hg _ (by have := eng_num hp; omega) (by have := eng_num hp; omega)) (.inl ⟨rfl, rfl⟩) ?_)
      simp (dsimp := false) only [push_cast, hP, hnt, hgw, hgb, sevalprocAttr, hs1, hs2, hs3, hs4, Nat.reduceBNe, Nat.reduceBEq]
      refine .inl (callE_intro (itoaG_call gw hg _ (by have := hp.1; omega) (by have := hp.2.1; omega)) (.inl ⟨rfl, rfl⟩) ?_)
      simp (dsimp := false) only [push_cast, hP, hnt, hgw, hgb, sevalprocAttr, hs1, hs2, hs3, hs4, Nat.reduceBNe, Nat.reduceBEq]
      refine ⟨rfl, ?_⟩
      refine hK _ ?_; clear hK
      refine vwp_ret ?_
      refine ret_free (by simp (dsimp := false) only [push_cast, hP, hnt, hgw, hgb, sevalprocAttr, hs1, hs2, hs3, hs4]; rfl) (by simp (dsimp := false) only [push_cast, hP, hnt, hgw, hgb, sevalprocAttr, hs1, hs2, hs3, hs4]) ?_
      rw [engineF_ok (by simpa using hb0), engT, engW, if_neg (by simp [hb1])]; rfl
end Go.Vm
end

section
namespace Go.Vm
open Go Go.RowKit Go.Proofs
set_option maxRecDepth 100000
set_option linter.unusedSimpArgs false
set_option linter.unusedVariables false
set_option maxHeartbeats 4000000

def PE (s : ByteArray) : List ByteArray := splitS s ⟨#[32]⟩
def engOf (num : ByteArray → Int) (L : List ByteArray) : Eng := ⟨(atI L 0).toList == (⟨#[112, 100, 114]⟩ : ByteArray).toList, num (atI L 1), num (atI L 2)⟩
def engZ : Eng := ⟨false, 0, 0⟩
def readEngF (s : ByteArray) : Eng × Int :=
  if (PE s).length ≠ 3 then (engZ, 12)
  else if (engineF (engOf numF (PE s))).2 ≠ 0 ∨ (engineF (engOf numF (PE s))).1.toList ≠ s.toList then (engZ, 12) else (engOf numF (PE s), 0)
theorem PE_size (s : ByteArray) : ∀ x ∈ PE s, x.size ≤ s.size := splitB_size _ _ _
theorem readEng_len {s : ByteArray} (h : ¬ ((PE s).length : Int) = 3) : readEngF s = (engZ, 12) := if_pos (by omega)
theorem readEng_bad {s : ByteArray} (h : ((PE s).length : Int) = 3) (h2 : (engineF (engOf numF (PE s))).2 ≠ 0 ∨ (engineF (engOf numF (PE s))).1.toList ≠ s.toList) : readEngF s = (engZ, 12) := by
  unfold readEngF; rw [if_neg (by omega), if_pos h2]
theorem readEng_ok {s : ByteArray} (h : ((PE s).length : Int) = 3) (h2 : ¬ ((engineF (engOf numF (PE s))).2 ≠ 0 ∨ (engineF (engOf numF (PE s))).1.toList ≠ s.toList)) : readEngF s = (engOf numF (PE s), 0) := by
  unfold readEngF; rw [if_neg (by omega), if_neg h2]
theorem splitE_call (gw : World) (hg : Glob gw) (s : ByteArray) (hs : s.size ≤ 100000) :
    VCall Tryz.prog gw gw.heap.size 40 [.one (.c (.string s)), .one (.c (.string ⟨#[32]⟩))] (.one (.sl true (PE s).length ((PE s).map fun s => .c (.string s)))) [] := split_call gw hg s ⟨#[32]⟩ hs (by decide)
theorem readEngine_call (gw : World) (hg : Glob gw) (s : ByteArray) (hs : s.size ≤ 90000) : VCall Tryz.prog gw (gw.heap.size) 21 [.one (.c (.string s))] (.tup [.agg (readEngF s).1.pcs, .one (.c (.int .i64 (readEngF s).2))]) [] := by
  refine vcall_of [.cell 2 42, .tmp 3] Tryz.func21 rfl rfl Tryz.ntmps21 rfl (by simp) ?_
  intro C hP hnt hgw hgb hfull
  refine vwp_seq_region rfl fun K hK => ?_
  simp (dsimp := false) only [push_cast, hP, hnt, hgw, hgb, Nat.reduceLT, Nat.reduceEqDiff, Nat.reduceAdd, Nat.reduceSub, Nat.reduceMul, Nat.reduceLeDiff, ↓reduceIte, reduceCtorEq]
  refine hK _ ?_; clear hK
  refine vwp_seq_region rfl fun K hK => ?_
  simp (dsimp := false) only [push_cast, hP, hnt, hgw, hgb, Nat.reduceLT, Nat.reduceEqDiff, Nat.reduceAdd, Nat.reduceSub, Nat.reduceMul, Nat.reduceLeDiff, ↓reduceIte, reduceCtorEq]
  refine .inl (callE_intro (splitE_call gw hg s (by omega)) (.inl ⟨by simp only [push_cast], rfl⟩) ?_)
  simp (dsimp := false) only [push_cast, hP, hnt, hgw, hgb, Nat.reduceLT, Nat.reduceEqDiff, Nat.reduceAdd, Nat.reduceSub, Nat.reduceMul, Nat.reduceLeDiff, ↓reduceIte, reduceCtorEq]
  refine hK _ ?_; clear hK
  refine vwp_seq fun K hK => ?_
  refine vwp_seq_region rfl fun K hK => ?_
  simp (dsimp := false) only [push_cast, hP, hnt, hgw, hgb, Nat.reduceLT, Nat.reduceEqDiff, Nat.reduceAdd, Nat.reduceSub, Nat.reduceMul, Nat.reduceLeDiff, ↓reduceIte, reduceCtorEq]
  refine hK _ ?_; clear hK
  refine vwp_cond (b := _) (by simp (dsimp := false) only [push_cast, hP, hnt, hgw, hgb, Nat.reduceLT, Nat.reduceEqDiff, Nat.reduceAdd, Nat.reduceSub, Nat.reduceMul, Nat.reduceLeDiff, ↓reduceIte, reduceCtorEq]; rfl) (fun rb0 => ?_) (fun rb0 => ?_)
  · have hb0 := rb0
    try simp only [beq_iff_eq, bne_iff_ne, ne_eq, bne_eq_false_iff_eq, beq_eq_false_iff_ne, decide_eq_true_eq, decide_eq_false_iff_not, Bool.not_eq_true', Bool.not_eq_false', Bool.or_eq_true, Bool.and_eq_true, Bool.or_eq_false_iff, Bool.and_eq_false_iff] at hb0
    refine vwp_seq_region rfl fun K hK => ?_
    simp (dsimp := false) only [push_cast, hP, hnt, hgw, hgb, Nat.reduceLT, Nat.reduceEqDiff, Nat.reduceAdd, Nat.reduceSub, Nat.reduceMul, Nat.reduceLeDiff, ↓reduceIte, reduceCtorEq]
    refine hK _ ?_; clear hK
    refine vwp_ret ?_
    refine ret_free (by simp (dsimp := false) only [push_cast, hP, hnt, hgw, hgb, Nat.reduceLT, Nat.reduceEqDiff, Nat.reduceAdd, Nat.reduceSub, Nat.reduceMul, Nat.reduceLeDiff, ↓reduceIte, reduceCtorEq]; rfl) (by simp (dsimp := false) only [push_cast, hP, hnt, hgw, hgb, Nat.reduceLT, Nat.reduceEqDiff, Nat.reduceAdd, Nat.reduceSub, Nat.reduceMul, Nat.reduceLeDiff, ↓reduceIte, reduceCtorEq]) ?_
    rw [readEng_len hb0]; rfl
  · have hb0 := rb0
    try simp only [beq_iff_eq, bne_iff_ne, ne_eq, bne_eq_false_iff_eq, beq_eq_false_iff_ne, decide_eq_true_eq, decide_eq_false_iff_not, Bool.not_eq_true', Bool.not_eq_false', Bool.or_eq_true, Bool.and_eq_true, Bool.or_eq_false_iff, Bool.and_eq_false_iff] at hb0
    have h00 : ((0 : Int) ≤ 0) = True := by simp
    have h01 : ((0 : Int) ≤ 1) = True := by simp
    have h02 : ((0 : Int) ≤ 2) = True := by simp
    have hk0 : (0 : Int) < ((PE s).length : Int) := by omega
    have hk1 : (1 : Int) < ((PE s).length : Int) := by omega
    have hk2 : (2 : Int) < ((PE s).length : Int) := by omega
    have hd0 := dropI_map (fun s => PC.c (Value.string s)) (show (0 : Int) ≤ 0 by omega) hk0
    have hd1 := dropI_map (fun s => PC.c (Value.string s)) (show (0 : Int) ≤ 1 by omega) hk1
    have hd2 := dropI_map (fun s => PC.c (Value.string s)) (show (0 : Int) ≤ 2 by omega) hk2
    have hz1 := PE_size s _ (atI_mem (show (0 : Int) ≤ 1 by omega) hk1)
    have hz2 := PE_size s _ (atI_mem (show (0 : Int) ≤ 2 by omega) hk2)
    refine vwp_skip ?_
    apply_assumption
    refine vwp_seq_anyF [[], [0], [0, 1], [0, 1, 2], [], [4], [4, 5], [4, 5, 6], [], [8], [8, 9], [4, 5, 6, 7, 8, 9, 10], [0, 1, 2, 3, 4, 5, 6, 7, 8, 9, 10, 11], [], [0, 1, 2, 3, 4, 5, 6, 7, 8, 9, 10, 11, 12, 13]] [([(14, .dead), (15, .old), (16, .old), (17, .old), (18, .dead), (19, .dead), (20, .dead), (21, .dead), (22, .dead), (23, .dead), (24, .dead), (25, .dead), (26, .old), (5, .dead)], [15, 16, 17, 18, 19, 20, 21, 22, 23, 24, 25, 26, 5], []), ([(14, .dep 0), (15, .dead), (16, .old), (17, .old), (18, .dead), (19, .dead), (20, .dead), (21, .dead), (22, .dead), (23, .dead), (24, .dead), (25, .dead), (26, .old), (5, .dead)], [16, 17, 18, 19, 20, 21, 22, 23, 24, 25, 26, 5], [0]), ([(14, .dep 1), (15, .dep 0), (16, .dead), (17, .old), (18, .dead), (19, .dead), (20, .dead), (21, .dead), (22, .dead), (23, .dead), (24, .dead), (25, .dead), (26, .old), (5, .dead)], [17, 18, 19, 20, 21, 22, 23, 24, 25, 26, 5], [1, 0]), ([(14, .dep 2), (15, .dep 1), (16, .dep 0), (17, .dead), (18, .dead), (19, .dead), (20, .dead), (21, .dead), (22, .dead), (23, .dead), (24, .dead), (25, .dead), (26, .old), (5, .dead)], [18, 19, 20, 21, 22, 23, 24, 25, 26, 5], [2, 1, 0]), ([(14, .dead), (15, .dead), (16, .dead), (17, .dead), (18, .dead), (19, .old), (20, .old), (21, .old), (22, .dead), (23, .dead), (24, .dead), (25, .old), (26, .old), (5, .dead)], [14, 15, 16, 17, 19, 20, 21, 22, 23, 24, 25, 26, 5], []), ([(14, .dead), (15, .dead), (16, .dead), (17, .dead), (18, .dep 0), (19, .dead), (20, .old), (21, .old), (22, .dead), (23, .dead), (24, .dead), (25, .old), (26, .old), (5, .dead)], [14, 15, 16, 17, 20, 21, 22, 23, 24, 25, 26, 5], [0]), ([(14, .dead), (15, .dead), (16, .dead), (17, .dead), (18, .dep 1), (19, .dep 0), (20, .dead), (21, .old), (22, .dead), (23, .dead), (24, .dead), (25, .old), (26, .old), (5, .dead)], [14, 15, 16, 17, 21, 22, 23, 24, 25, 26, 5], [1, 0]), ([(14, .dead), (15, .dead), (16, .dead), (17, .dead), (18, .dep 2), (19, .dep 1), (20, .dep 0), (21, .dead), (22, .dead), (23, .dead), (24, .dead), (25, .old), (26, .old), (5, .dead)], [14, 15, 16, 17, 22, 23, 24, 25, 26, 5], [2, 1, 0]), ([(14, .dead), (15, .dead), (16, .dead), (17, .dead), (18, .dead), (19, .dead), (20, .dead), (21, .dead), (22, .dead), (23, .old), (24, .old), (25, .old), (26, .old), (5, .dead)], [14, 15, 16, 17, 18, 19, 20, 21, 23, 24, 25, 26, 5], []), ([(14, .dead), (15, .dead), (16, .dead), (17, .dead), (18, .dead), (19, .dead), (20, .dead), (21, .dead), (22, .dep 0), (23, .dead), (24, .old), (25, .old), (26, .old), (5, .dead)], [14, 15, 16, 17, 18, 19, 20, 21, 24, 25, 26, 5], [0]), ([(14, .dead), (15, .dead), (16, .dead), (17, .dead), (18, .dead), (19, .dead), (20, .dead), (21, .dead), (22, .dep 1), (23, .dep 0), (24, .dead), (25, .old), (26, .old), (5, .dead)], [14, 15, 16, 17, 18, 19, 20, 21, 25, 26, 5], [1, 0]), ([(14, .dead), (15, .dead), (16, .dead), (17, .dead), (18, .dep 6), (19, .dep 5), (20, .dep 4), (21, .dep 3), (22, .dep 2), (23, .dep 1), (24, .dep 0), (25, .dead), (26, .old), (5, .dead)], [14, 15, 16, 17, 26, 5], [6, 5, 4, 3, 2, 1, 0]), ([(14, .dep 11), (15, .dep 10), (16, .dep 9), (17, .dep 8), (18, .dep 7), (19, .dep 6), (20, .dep 5), (21, .dep 4), (22, .dep 3), (23, .dep 2), (24, .dep 1), (25, .dep 0), (26, .dead), (5, .dead)], [5], [11, 10, 9, 8, 7, 6, 5, 4, 3, 2, 1, 0]), ([(14, .dead), (15, .dead), (16, .dead), (17, .dead), (18, .dead), (19, .dead), (20, .dead), (21, .dead), (22, .dead), (23, .dead), (24, .dead), (25, .dead), (26, .dead), (5, .dead)], [14, 15, 16, 17, 18, 19, 20, 21, 22, 23, 24, 25, 26], []), ([(14, .dep 13), (15, .dep 12), (16, .dep 11), (17, .dep 10), (18, .dep 9), (19, .dep 8), (20, .dep 7), (21, .dep 6), (22, .dep 5), (23, .dep 4), (24, .dep 3), (25, .dep 2), (26, .dep 1), (5, .dep 0)], [], [13, 12, 11, 10, 9, 8, 7, 6, 5, 4, 3, 2, 1, 0])] (by rw [hP]; exact mixed) rfl rfl rfl fun K hK => ?_
    simp (dsimp := false) only [push_cast, hP, hnt, hgw, hgb, Nat.reduceLT, Nat.reduceEqDiff, Nat.reduceAdd, Nat.reduceSub, Nat.reduceMul, Nat.reduceLeDiff, ↓reduceIte, reduceCtorEq, h00, h01, h02, hk0, hk1, hk2, hd0, hd1, hd2, Nat.reduceBNe, Nat.reduceBEq]
    refine .inl (callE_intro (number_call gw hg _ (by omega)) (.inl ⟨rfl, rfl⟩) ?_)
    simp (dsimp := false) only [push_cast, hP, hnt, hgw, hgb, Nat.reduceLT, Nat.reduceEqDiff, Nat.reduceAdd, Nat.reduceSub, Nat.reduceMul, Nat.reduceLeDiff, ↓reduceIte, reduceCtorEq, h00, h01, h02, hk0, hk1, hk2, hd0, hd1, hd2, Nat.reduceBNe, Nat.reduceBEq]
    refine .inl (callE_intro (number_call gw hg _ (by omega)) (.inl ⟨rfl, rfl⟩) ?_)
    simp (dsimp := false) only [push_cast, hP, hnt, hgw, hgb, Nat.reduceLT, Nat.reduceEqDiff, Nat.reduceAdd, Nat.reduceSub, Nat.reduceMul, Nat.reduceLeDiff, ↓reduceIte, reduceCtorEq, h00, h01, h02, hk0, hk1, hk2, hd0, hd1, hd2, Nat.reduceBNe, Nat.reduceBEq]
    refine ⟨rfl, ?_⟩
    refine hK _ ?_; clear hK
    refine vwp_seq fun K hK => ?_
    refine vwp_seq_region rfl fun K hK => ?_
    simp (dsimp := false) only [push_cast, hP, hnt, hgw, hgb, Nat.reduceLT, Nat.reduceEqDiff, Nat.reduceAdd, Nat.reduceSub, Nat.reduceMul, Nat.reduceLeDiff, ↓reduceIte, reduceCtorEq, h00, h01, h02, hk0, hk1, hk2, hd0, hd1, hd2]
    refine .inl (callE_intro (engineText_call gw hg (engOf numF (PE s))) (.inl ⟨rfl, rfl⟩) ?_)
    simp (dsimp := false) only [push_cast, hP, hnt, hgw, hgb, Nat.reduceLT, Nat.reduceEqDiff, Nat.reduceAdd, Nat.reduceSub, Nat.reduceMul, Nat.reduceLeDiff, ↓reduceIte, reduceCtorEq, h00, h01, h02, hk0, hk1, hk2, hd0, hd1, hd2]
    refine hK _ ?_; clear hK
    refine vwp_seq_regionG fun K hK => ?_
    simp (dsimp := false) only [push_cast, hP, hnt, hgw, hgb, Nat.reduceLT, Nat.reduceEqDiff, Nat.reduceAdd, Nat.reduceSub, Nat.reduceMul, Nat.reduceLeDiff, ↓reduceIte, reduceCtorEq, h00, h01, h02, hk0, hk1, hk2, hd0, hd1, hd2]
    refine guardR_may (by simp (dsimp := false) only [push_cast, hP, hnt, hgw, hgb, Nat.reduceLT, Nat.reduceEqDiff, Nat.reduceAdd, Nat.reduceSub, Nat.reduceMul, Nat.reduceLeDiff, ↓reduceIte, reduceCtorEq, h00, h01, h02, hk0, hk1, hk2, hd0, hd1, hd2, List.getElem?_cons_zero, List.getElem?_cons_succ]; rfl) ?_
    simp (dsimp := false) only [push_cast, hP, hnt, hgw, hgb, Nat.reduceLT, Nat.reduceEqDiff, Nat.reduceAdd, Nat.reduceSub, Nat.reduceMul, Nat.reduceLeDiff, ↓reduceIte, reduceCtorEq, h00, h01, h02, hk0, hk1, hk2, hd0, hd1, hd2]
    refine guardR_may (by simp (dsimp := false) only [push_cast, hP, hnt, hgw, hgb, Nat.reduceLT, Nat.reduceEqDiff, Nat.reduceAdd, Nat.reduceSub, Nat.reduceMul, Nat.reduceLeDiff, ↓reduceIte, reduceCtorEq, h00, h01, h02, hk0, hk1, hk2, hd0, hd1, hd2, List.getElem?_cons_zero, List.getElem?_cons_succ]; rfl) ?_
    simp (dsimp := false) only [push_cast, hP, hnt, hgw, hgb, Nat.reduceLT, Nat.reduceEqDiff, Nat.reduceAdd, Nat.reduceSub, Nat.reduceMul, Nat.reduceLeDiff, ↓reduceIte, reduceCtorEq, h00, h01, h02, hk0, hk1, hk2, hd0, hd1, hd2]
    refine guardR_may (by simp (dsimp := false) only [push_cast, hP, hnt, hgw, hgb, Nat.reduceLT, Nat.reduceEqDiff, Nat.reduceAdd, Nat.reduceSub, Nat.reduceMul, Nat.reduceLeDiff, ↓reduceIte, reduceCtorEq, h00, h01, h02, hk0, hk1, hk2, hd0, hd1, hd2, List.getElem?_cons_zero, List.getElem?_cons_succ]; rfl) ?_
    simp (dsimp := false) only [push_cast, hP, hnt, hgw, hgb, Nat.reduceLT, Nat.reduceEqDiff, Nat.reduceAdd, Nat.reduceSub, Nat.reduceMul, Nat.reduceLeDiff, ↓reduceIte, reduceCtorEq, h00, h01, h02, hk0, hk1, hk2, hd0, hd1, hd2]
    refine hK _ ?_; clear hK
    refine vwp_cond (b := _) (by simp (dsimp := false) only [push_cast, hP, hnt, hgw, hgb, Nat.reduceLT, Nat.reduceEqDiff, Nat.reduceAdd, Nat.reduceSub, Nat.reduceMul, Nat.reduceLeDiff, ↓reduceIte, reduceCtorEq, h00, h01, h02, hk0, hk1, hk2, hd0, hd1, hd2]; rfl) (fun rb1 => ?_) (fun rb1 => ?_)
    · have hb1 := rb1
      try simp only [beq_iff_eq, bne_iff_ne, ne_eq, bne_eq_false_iff_eq, beq_eq_false_iff_ne, decide_eq_true_eq, decide_eq_false_iff_not, Bool.not_eq_true', Bool.not_eq_false', Bool.or_eq_true, Bool.and_eq_true, Bool.or_eq_false_iff, Bool.and_eq_false_iff] at hb1
      refine vwp_seq_region rfl fun K hK => ?_
      simp (dsimp := false) only [push_cast, hP, hnt, hgw, hgb, Nat.reduceLT, Nat.reduceEqDiff, Nat.reduceAdd, Nat.reduceSub, Nat.reduceMul, Nat.reduceLeDiff, ↓reduceIte, reduceCtorEq, h00, h01, h02, hk0, hk1, hk2, hd0, hd1, hd2]
      refine hK _ ?_; clear hK
      refine vwp_ret ?_
      refine ret_free (by simp (dsimp := false) only [push_cast, hP, hnt, hgw, hgb, Nat.reduceLT, Nat.reduceEqDiff, Nat.reduceAdd, Nat.reduceSub, Nat.reduceMul, Nat.reduceLeDiff, ↓reduceIte, reduceCtorEq, h00, h01, h02, hk0, hk1, hk2, hd0, hd1, hd2]; rfl) (by simp (dsimp := false) only [push_cast, hP, hnt, hgw, hgb, Nat.reduceLT, Nat.reduceEqDiff, Nat.reduceAdd, Nat.reduceSub, Nat.reduceMul, Nat.reduceLeDiff, ↓reduceIte, reduceCtorEq, h00, h01, h02, hk0, hk1, hk2, hd0, hd1, hd2]) ?_
      rw [readEng_bad hb0 (by simpa using hb1)]; rfl
    · have hb1 := rb1
      try simp only [beq_iff_eq, bne_iff_ne, ne_eq, bne_eq_false_iff_eq, beq_eq_false_iff_ne, decide_eq_true_eq, decide_eq_false_iff_not, Bool.not_eq_true', Bool.not_eq_false', Bool.or_eq_true, Bool.and_eq_true, Bool.or_eq_false_iff, Bool.and_eq_false_iff] at hb1
      refine vwp_skip ?_
      apply_assumption
      refine vwp_seq_region rfl fun K hK => ?_
      simp (dsimp := false) only [push_cast, hP, hnt, hgw, hgb, Nat.reduceLT, Nat.reduceEqDiff, Nat.reduceAdd, Nat.reduceSub, Nat.reduceMul, Nat.reduceLeDiff, ↓reduceIte, reduceCtorEq, h00, h01, h02, hk0, hk1, hk2, hd0, hd1, hd2]
      refine hK _ ?_; clear hK
      refine vwp_ret ?_
      refine ret_free (by simp (dsimp := false) only [push_cast, hP, hnt, hgw, hgb, Nat.reduceLT, Nat.reduceEqDiff, Nat.reduceAdd, Nat.reduceSub, Nat.reduceMul, Nat.reduceLeDiff, ↓reduceIte, reduceCtorEq, h00, h01, h02, hk0, hk1, hk2, hd0, hd1, hd2]; rfl) (by simp (dsimp := false) only [push_cast, hP, hnt, hgw, hgb, Nat.reduceLT, Nat.reduceEqDiff, Nat.reduceAdd, Nat.reduceSub, Nat.reduceMul, Nat.reduceLeDiff, ↓reduceIte, reduceCtorEq, h00, h01, h02, hk0, hk1, hk2, hd0, hd1, hd2]) ?_
      rw [readEng_ok hb0 (by simpa using hb1)]; rfl
end Go.Vm
end

section
namespace Go.Vm
open Go Go.RowKit Go.Proofs
set_option maxRecDepth 100000
set_option linter.unusedSimpArgs false
set_option linter.unusedVariables false
set_option maxHeartbeats 4000000
theorem splitSeq0_call (gw : World) (gb : Nat) (s sep : ByteArray) (k : Int) : VCall Tryz.prog gw (gb) 59 [.one (.c (.string s)), .one (.c (.string sep)), .one (.c (.int .i64 k))] (.one (.fn 74 [.loc (0, 0) 0, .loc (0, 1) 0, .loc (0, 2) 0])) [.box 9 [.c (.string sep)], .box 9 [.c (.string s)], .box 3 [.c (.int .i64 k)]] := by
  refine vcall_of [.tmp 6] Tryz.func59 rfl rfl Tryz.ntmps59 rfl (by simp) ?_
  intro C hP hnt hgw hgb hfull
  refine vwp_seq_region rfl fun K hK => ?_
  simp (dsimp := false) only [push_cast, hP, hnt, hgw, hgb, sevalprocAttr]
  refine hK _ ?_; clear hK
  refine vwp_seq_region rfl fun K hK => ?_
  simp (dsimp := false) only [push_cast, hP, hnt, hgw, hgb, sevalprocAttr]
  refine hK _ ?_; clear hK
  refine vwp_ret ?_
  refine ret_conv [] [((5, 0), (0, 0)), ((4, 0), (0, 1)), ((6, 0), (0, 2))] (by simp (dsimp := false) only [push_cast, hP, hnt, hgw, hgb, sevalprocAttr]; rfl) (by simp) (by simp) (by first | decide | simp) ?_ ?_
  · simp only [pack]
    repeat' (first | exact ConvVs.nil | exact ConvL.nil | refine ConvV.tup ?_ | refine ConvVs.cons ?_ ?_ | (refine ConvV.self ?_; simp only [push_cast]; done) | refine ConvV.one ?_ | refine ConvV.agg ?_ | (refine ConvL.free ?_; simp only [push_cast]; done) | refine ConvL.append ?_ ?_ | refine ConvL.cons ?_ ?_ | exact Conv.free rfl | exact Conv.nil | (refine Conv.own ?_; simp; done) | (refine Conv.loc ?_; simp; done) | refine Conv.frz (by simp) (by simp (dsimp := false) only [push_cast, ↓reduceIte, Nat.reduceEqDiff, Nat.reduceAdd, reduceCtorEq] <;> rfl) ?_ | refine Conv.sl (by simp) ?_ | refine Conv.fn ?_)
  · refine rb_cons ⟨(5, 0), _, by simp, by simp, by simp (dsimp := false) only [push_cast, ↓reduceIte, Nat.reduceEqDiff, Nat.reduceAdd, reduceCtorEq] <;> rfl, by first | (refine ConvB.free ?_; simp only [push_cast]; done) | ((first | refine ConvB.arr ?_ | refine ConvB.box ?_); repeat' (first | exact ConvVs.nil | exact ConvL.nil | refine ConvV.tup ?_ | refine ConvVs.cons ?_ ?_ | (refine ConvV.self ?_; simp only [push_cast]; done) | refine ConvV.one ?_ | refine ConvV.agg ?_ | (refine ConvL.free ?_; simp only [push_cast]; done) | refine ConvL.append ?_ ?_ | refine ConvL.cons ?_ ?_ | exact Conv.free rfl | exact Conv.nil | (refine Conv.own ?_; simp; done) | (refine Conv.loc ?_; simp; done) | refine Conv.frz (by simp) (by simp (dsimp := false) only [push_cast, ↓reduceIte, Nat.reduceEqDiff, Nat.reduceAdd, reduceCtorEq] <;> rfl) ?_ | refine Conv.sl (by simp) ?_ | refine Conv.fn ?_))⟩ ?_
    refine rb_cons ⟨(4, 0), _, by simp, by simp, by simp (dsimp := false) only [push_cast, ↓reduceIte, Nat.reduceEqDiff, Nat.reduceAdd, reduceCtorEq] <;> rfl, by first | (refine ConvB.free ?_; simp only [push_cast]; done) | ((first | refine ConvB.arr ?_ | refine ConvB.box ?_); repeat' (first | exact ConvVs.nil | exact ConvL.nil | refine ConvV.tup ?_ | refine ConvVs.cons ?_ ?_ | (refine ConvV.self ?_; simp only [push_cast]; done) | refine ConvV.one ?_ | refine ConvV.agg ?_ | (refine ConvL.free ?_; simp only [push_cast]; done) | refine ConvL.append ?_ ?_ | refine ConvL.cons ?_ ?_ | exact Conv.free rfl | exact Conv.nil | (refine Conv.own ?_; simp; done) | (refine Conv.loc ?_; simp; done) | refine Conv.frz (by simp) (by simp (dsimp := false) only [push_cast, ↓reduceIte, Nat.reduceEqDiff, Nat.reduceAdd, reduceCtorEq] <;> rfl) ?_ | refine Conv.sl (by simp) ?_ | refine Conv.fn ?_))⟩ ?_
    refine rb_cons ⟨(6, 0), _, by simp, by simp, by simp (dsimp := false) only [push_cast, ↓reduceIte, Nat.reduceEqDiff, Nat.reduceAdd, reduceCtorEq] <;> rfl, by first | (refine ConvB.free ?_; simp only [push_cast]; done) | ((first | refine ConvB.arr ?_ | refine ConvB.box ?_); repeat' (first | exact ConvVs.nil | exact ConvL.nil | refine ConvV.tup ?_ | refine ConvVs.cons ?_ ?_ | (refine ConvV.self ?_; simp only [push_cast]; done) | refine ConvV.one ?_ | refine ConvV.agg ?_ | (refine ConvL.free ?_; simp only [push_cast]; done) | refine ConvL.append ?_ ?_ | refine ConvL.cons ?_ ?_ | exact Conv.free rfl | exact Conv.nil | (refine Conv.own ?_; simp; done) | (refine Conv.loc ?_; simp; done) | refine Conv.frz (by simp) (by simp (dsimp := false) only [push_cast, ↓reduceIte, Nat.reduceEqDiff, Nat.reduceAdd, reduceCtorEq] <;> rfl) ?_ | refine Conv.sl (by simp) ?_ | refine Conv.fn ?_))⟩ ?_
    exact rb_nil
theorem splitSeq_call (gw : World) (gb : Nat) (s sep : ByteArray) : VCall Tryz.prog gw (gb) 45 [.one (.c (.string s)), .one (.c (.string sep))] (.one (.fn 74 [.loc (0, 0) 0, .loc (0, 1) 0, .loc (0, 2) 0])) [.box 9 [.c (.string sep)], .box 9 [.c (.string s)], .box 3 [.c (.int .i64 0)]] := by
  refine vcall_of [.tmp 4] Tryz.func45 rfl rfl Tryz.ntmps45 rfl (by simp) ?_
  intro C hP hnt hgw hgb hfull
  refine vwp_seq_region rfl fun K hK => ?_
  simp (dsimp := false) only [push_cast, hP, hnt, hgw, hgb, sevalprocAttr]
  refine hK _ ?_; clear hK
  refine vwp_seq_region rfl fun K hK => ?_
  simp (dsimp := false) only [push_cast, hP, hnt, hgw, hgb, sevalprocAttr]
  refine .inl (callE_intro (splitSeq0_call gw gb s sep 0) (.inl ⟨rfl, rfl⟩) ?_)
  simp (dsimp := false) only [push_cast, hP, hnt, hgw, hgb, sevalprocAttr]
  refine hK _ ?_; clear hK
  refine vwp_ret ?_
  refine ret_conv [] [((8, 0), (0, 0)), ((8, 1), (0, 1)), ((8, 2), (0, 2))] (by simp (dsimp := false) only [push_cast, hP, hnt, hgw, hgb, sevalprocAttr]; rfl) (by simp) (by simp) (by first | decide | simp) ?_ ?_
  · simp only [pack]
    repeat' (first | exact ConvVs.nil | exact ConvL.nil | refine ConvV.tup ?_ | refine ConvVs.cons ?_ ?_ | (refine ConvV.self ?_; simp only [push_cast]; done) | refine ConvV.one ?_ | refine ConvV.agg ?_ | (refine ConvL.free ?_; simp only [push_cast]; done) | refine ConvL.append ?_ ?_ | refine ConvL.cons ?_ ?_ | exact Conv.free rfl | exact Conv.nil | (refine Conv.own ?_; simp; done) | (refine Conv.loc ?_; simp; done) | refine Conv.frz (by simp) (by simp (dsimp := false) only [push_cast, ↓reduceIte, Nat.reduceEqDiff, Nat.reduceAdd, reduceCtorEq] <;> rfl) ?_ | refine Conv.sl (by simp) ?_ | refine Conv.fn ?_)
  · refine rb_cons ⟨(8, 0), _, by simp, by simp, by simp (dsimp := false) only [push_cast, ↓reduceIte, Nat.reduceEqDiff, Nat.reduceAdd, reduceCtorEq] <;> rfl, by first | (refine ConvB.free ?_; simp only [push_cast]; done) | ((first | refine ConvB.arr ?_ | refine ConvB.box ?_); repeat' (first | exact ConvVs.nil | exact ConvL.nil | refine ConvV.tup ?_ | refine ConvVs.cons ?_ ?_ | (refine ConvV.self ?_; simp only [push_cast]; done) | refine ConvV.one ?_ | refine ConvV.agg ?_ | (refine ConvL.free ?_; simp only [push_cast]; done) | refine ConvL.append ?_ ?_ | refine ConvL.cons ?_ ?_ | exact Conv.free rfl | exact Conv.nil | (refine Conv.own ?_; simp; done) | (refine Conv.loc ?_; simp; done) | refine Conv.frz (by simp) (by simp (dsimp := false) only [push_cast, ↓reduceIte, Nat.reduceEqDiff, Nat.reduceAdd, reduceCtorEq] <;> rfl) ?_ | refine Conv.sl (by simp) ?_ | refine Conv.fn ?_))⟩ ?_
    refine rb_cons ⟨(8, 1), _, by simp, by simp, by simp (dsimp := false) only [push_cast, ↓reduceIte, Nat.reduceEqDiff, Nat.reduceAdd, reduceCtorEq] <;> rfl, by first | (refine ConvB.free ?_; simp only [push_cast]; done) | ((first | refine ConvB.arr ?_ | refine ConvB.box ?_); repeat' (first | exact ConvVs.nil | exact ConvL.nil | refine ConvV.tup ?_ | refine ConvVs.cons ?_ ?_ | (refine ConvV.self ?_; simp only [push_cast]; done) | refine ConvV.one ?_ | refine ConvV.agg ?_ | (refine ConvL.free ?_; simp only [push_cast]; done) | refine ConvL.append ?_ ?_ | refine ConvL.cons ?_ ?_ | exact Conv.free rfl | exact Conv.nil | (refine Conv.own ?_; simp; done) | (refine Conv.loc ?_; simp; done) | refine Conv.frz (by simp) (by simp (dsimp := false) only [push_cast, ↓reduceIte, Nat.reduceEqDiff, Nat.reduceAdd, reduceCtorEq] <;> rfl) ?_ | refine Conv.sl (by simp) ?_ | refine Conv.fn ?_))⟩ ?_
    refine rb_cons ⟨(8, 2), _, by simp, by simp, by simp (dsimp := false) only [push_cast, ↓reduceIte, Nat.reduceEqDiff, Nat.reduceAdd, reduceCtorEq] <;> rfl, by first | (refine ConvB.free ?_; simp only [push_cast]; done) | ((first | refine ConvB.arr ?_ | refine ConvB.box ?_); repeat' (first | exact ConvVs.nil | exact ConvL.nil | refine ConvV.tup ?_ | refine ConvVs.cons ?_ ?_ | (refine ConvV.self ?_; simp only [push_cast]; done) | refine ConvV.one ?_ | refine ConvV.agg ?_ | (refine ConvL.free ?_; simp only [push_cast]; done) | refine ConvL.append ?_ ?_ | refine ConvL.cons ?_ ?_ | exact Conv.free rfl | exact Conv.nil | (refine Conv.own ?_; simp; done) | (refine Conv.loc ?_; simp; done) | refine Conv.frz (by simp) (by simp (dsimp := false) only [push_cast, ↓reduceIte, Nat.reduceEqDiff, Nat.reduceAdd, reduceCtorEq] <;> rfl) ?_ | refine Conv.sl (by simp) ?_ | refine Conv.fn ?_))⟩ ?_
    exact rb_nil
end Go.Vm
end

section
namespace Go.Vm
open Go Go.RowKit Go.Proofs
set_option maxRecDepth 100000
set_option linter.unusedSimpArgs false
set_option linter.unusedVariables false
set_option maxHeartbeats 4000000

def rowPS (p : List (ByteArray × Int)) : Blk := .arr 38 2 p.length (p.flatMap fun q => [.c (.string q.1), .c (.int .i64 q.2)])
theorem ps_free (p : List (ByteArray × Int)) : PC.frees (p.flatMap fun q => [PC.c (Value.string q.1), PC.c (Value.int .i64 q.2)]) = true := by
  rw [frees_flatMap]; simp [PC.frees, PC.free]
theorem ps_snoc (p : List (ByteArray × Int)) (q : ByteArray × Int) : (p ++ [q]).flatMap (fun q => [PC.c (Value.string q.1), PC.c (Value.int .i64 q.2)]) = p.flatMap (fun q => [PC.c (Value.string q.1), PC.c (Value.int .i64 q.2)]) ++ [PC.c (Value.string q.1), PC.c (Value.int .i64 q.2)] := by
  rw [List.flatMap_append]; simp
def readsG (rd : ByteArray → ByteArray × Int × Int) : List ByteArray → Option (List (ByteArray × Int))
  | [] => some []
  | w :: ws => if (rd w).2.2 = 0 then (readsG rd ws).map ((((rd w).1, (rd w).2.1)) :: ·) else none
structure ReadAt (rd : ByteArray → ByteArray × Int × Int) (L : List ByteArray) (i : Int) (p : List (ByteArray × Int)) : Prop where
  len : (p.length : Int) = i
  rest : readsG rd L = (readsG rd (L.drop i.toNat)).map (p ++ ·)
theorem readAt_init (rd : ByteArray → ByteArray × Int × Int) (L : List ByteArray) : ReadAt rd L 0 [] := ⟨rfl, by simp⟩
theorem readAt_next {rd : ByteArray → ByteArray × Int × Int} {L : List ByteArray} {i : Int} {p : List (ByteArray × Int)} (h0 : 0 ≤ i) (h1 : i < (L.length : Int)) (h : ReadAt rd L i p) (he : (rd (atI L i)).2.2 = 0) : ReadAt rd L (i + 1) (p ++ [((rd (atI L i)).1, (rd (atI L i)).2.1)]) := by
  refine ⟨by rw [List.length_append, List.length_singleton]; have := h.len; omega, ?_⟩
  rw [h.rest, drop_atI h0 h1, readsG, if_pos he, show (i + 1).toNat = i.toNat + 1 by omega]
  cases readsG rd (L.drop (i.toNat + 1)) with
  | none => rfl
  | some l => simp
theorem readAt_stop {rd : ByteArray → ByteArray × Int × Int} {L : List ByteArray} {i : Int} {p : List (ByteArray × Int)} (h0 : 0 ≤ i) (h1 : i < (L.length : Int)) (h : ReadAt rd L i p) (he : ¬ (rd (atI L i)).2.2 = 0) : readsG rd L = none := by
  rw [h.rest, drop_atI h0 h1, readsG, if_neg he]; rfl
theorem readAt_end {rd : ByteArray → ByteArray × Int × Int} {L : List ByteArray} {i : Int} {p : List (ByteArray × Int)} (h1 : ¬ i < (L.length : Int)) (h : ReadAt rd L i p) : readsG rd L = some p := by
  rw [h.rest, List.drop_eq_nil_of_le (by omega)]; simp [readsG]
def readPassG (rd : ByteArray → ByteArray × Int × Int) (ck : List (ByteArray × Int) → Int) (s : ByteArray) : List (ByteArray × Int) × Int :=
  if s.toList = (⟨#[]⟩ : ByteArray).toList then ([], 0)
  else match readsG rd (piecesB s 44) with
    | none => ([], 12)
    | some l => if ck l = 0 then (l, 0) else ([], 12)
def readPassF : ByteArray → List (ByteArray × Int) × Int := readPassG readF checksF
theorem readPass_nil {rd : ByteArray → ByteArray × Int × Int} {ck : List (ByteArray × Int) → Int} {s : ByteArray} (h : s.toList = (⟨#[]⟩ : ByteArray).toList) : readPassG rd ck s = ([], 0) := if_pos h
theorem readPass_stop {rd : ByteArray → ByteArray × Int × Int} {ck : List (ByteArray × Int) → Int} {s : ByteArray} (h : ¬ s.toList = (⟨#[]⟩ : ByteArray).toList) (h2 : readsG rd (piecesB s 44) = none) : readPassG rd ck s = ([], 12) := by
  unfold readPassG; rw [if_neg h, h2]
theorem readPass_bad {rd : ByteArray → ByteArray × Int × Int} {ck : List (ByteArray × Int) → Int} {s : ByteArray} {l : List (ByteArray × Int)} (h : ¬ s.toList = (⟨#[]⟩ : ByteArray).toList) (h2 : readsG rd (piecesB s 44) = some l) (h3 : ¬ ck l = 0) : readPassG rd ck s = ([], 12) := by
  unfold readPassG; rw [if_neg h, h2]; exact if_neg h3
theorem readPass_ok {rd : ByteArray → ByteArray × Int × Int} {ck : List (ByteArray × Int) → Int} {s : ByteArray} {l : List (ByteArray × Int)} (h : ¬ s.toList = (⟨#[]⟩ : ByteArray).toList) (h2 : readsG rd (piecesB s 44) = some l) (h3 : ck l = 0) : readPassG rd ck s = (l, 0) := by
  unfold readPassG; rw [if_neg h, h2]; exact if_pos h3
theorem pieces_len (s : ByteArray) (c : UInt8) : (piecesB s c).length ≤ s.size + 1 := by
  have := splitR_len (s ++ ⟨#[c]⟩) c
  rw [ByteArray.size_append] at this
  exact this
theorem pieces_size (s : ByteArray) (c : UInt8) : ∀ x ∈ piecesB s c, x.size ≤ s.size + 1 := splitR_size (by rw [ByteArray.size_append]; exact Nat.le_refl _)
end Go.Vm
end
