/-
  Walks of the program's functions by the framework, and what they compute (PtAQ). Conditions: each theorem's own premises. By an AI agent.
-/
import Derived.Test.YtnpbndglolcilaaGreatDoorPtAP
section
namespace Go.Vm
open Go Go.RowKit Go.Proofs
set_option maxRecDepth 100000
set_option linter.unusedSimpArgs false
set_option linter.unusedVariables false
set_option maxHeartbeats 4000000

def firstE (l : List (ByteArray × Int)) : Int :=
  match l with
  | [] => 0
  | p :: l => if checkF p.1 p.2 = 0 then firstE l else checkF p.1 p.2
def checksF (l : List (ByteArray × Int)) : Int := if 10 < l.length then 4 else firstE l
def firstR (l : List (ByteArray × Int)) : Int :=
  match l with
  | [] => 0
  | p :: l => if refCheckF p.1 p.2 = 0 then firstR l else refCheckF p.1 p.2
def checksR (l : List (ByteArray × Int)) : Int := if 10 < l.length then 4 else firstR l
theorem firstE_drop {l : List (ByteArray × Int)} {i : Int} (h0 : 0 ≤ i) (h1 : i < (l.length : Int)) : firstE (l.drop i.toNat) = if checkF (atI l i).1 (atI l i).2 = 0 then firstE (l.drop (i + 1).toNat) else checkF (atI l i).1 (atI l i).2 := by
  rw [drop_atI h0 h1, show (i + 1).toNat = i.toNat + 1 by omega]; rfl
theorem firstE_end {l : List (ByteArray × Int)} {i : Int} (h1 : ¬ i < (l.length : Int)) : firstE (l.drop i.toNat) = 0 := by
  rw [List.drop_eq_nil_of_le (by omega)]; rfl
theorem checksF_big {l : List (ByteArray × Int)} (h : 10 < (l.length : Int)) : checksF l = 4 := if_pos (by omega)
theorem checksF_small {l : List (ByteArray × Int)} (h : ¬ 10 < (l.length : Int)) : checksF l = firstE l := if_neg (by omega)
theorem checks_call (gw : World) (gb : Nat) (l : List (ByteArray × Int)) : VCall Tryz.prog gw (gb) 32 [.one (.sl false l.length (l.flatMap fun p => [.c (.string p.1), .c (.int .i64 p.2)]))] (.one (.c (.int .i64 (checksF l)))) [] := by
  refine vcall_of [.tmp 2] Tryz.func32 rfl rfl Tryz.ntmps32 rfl (by simp) ?_
  intro C hP hnt hgw hgb hfull
  refine vwp_seq_region rfl fun K hK => ?_
  simp (dsimp := false) only [push_cast, hP, hnt, hgw, hgb, sevalprocAttr]
  refine hK _ ?_; clear hK
  refine vwp_seq fun K hK => ?_
  refine vwp_seq_region rfl fun K hK => ?_
  simp (dsimp := false) only [push_cast, hP, hnt, hgw, hgb, sevalprocAttr]
  refine hK _ ?_; clear hK
  refine vwp_cond (b := _) (by simp (dsimp := false) only [push_cast, hP, hnt, hgw, hgb, sevalprocAttr]; rfl) (fun rb0 => ?_) (fun rb0 => ?_)
  · have hb0 := rb0
    try simp only [beq_iff_eq, bne_iff_ne, ne_eq, bne_eq_false_iff_eq, beq_eq_false_iff_ne, decide_eq_true_eq, decide_eq_false_iff_not, Bool.not_eq_true', Bool.not_eq_false', Bool.or_eq_true, Bool.and_eq_true, Bool.or_eq_false_iff, Bool.and_eq_false_iff] at hb0
    refine vwp_seq_region rfl fun K hK => ?_
    simp (dsimp := false) only [push_cast, hP, hnt, hgw, hgb, sevalprocAttr]
    refine hK _ ?_; clear hK
    refine vwp_ret ?_
    refine ret_free (by simp (dsimp := false) only [push_cast, hP, hnt, hgw, hgb, sevalprocAttr]; rfl) (by simp (dsimp := false) only [push_cast, hP, hnt, hgw, hgb, sevalprocAttr]) ?_
    rw [checksF_big hb0]; rfl
  · have hb0 := rb0
    try simp only [beq_iff_eq, bne_iff_ne, ne_eq, bne_eq_false_iff_eq, beq_eq_false_iff_ne, decide_eq_true_eq, decide_eq_false_iff_not, Bool.not_eq_true', Bool.not_eq_false', Bool.or_eq_true, Bool.and_eq_true, Bool.or_eq_false_iff, Bool.and_eq_false_iff] at hb0
    refine vwp_skip ?_
    apply_assumption
    refine vwp_seq fun K hK => ?_
    refine vwp_seq_region rfl fun K hK => ?_
    simp (dsimp := false) only [push_cast, hP, hnt, hgw, hgb, sevalprocAttr]
    refine hK _ ?_; clear hK
    refine vwp_block ?_
    refine vwp_loop (fun m σ => ∃ (i : Int), m = (l.length - i).toNat ∧ ((0 ≤ i) ∧ (i ≤ l.length) ∧ (firstE (l.drop i.toNat) = firstE l)) ∧ σ = St.of [(9, .one (.sl false l.length (l.flatMap fun p => [.c (.string p.1), .c (.int .i64 p.2)]))), (10, .one (.c (.int .i64 l.length))), (11, .one (.c (.int .i64 i)))] [] []) _ ⟨_, ?_, 0, rfl, ?_, rfl⟩ ?_
    · refine wk_conv [] [] (by simp) (by simp) (by decide) ?_ ?_
      · refine hf_cons (by simp (dsimp := false) only [push_cast, ↓reduceIte, Nat.reduceEqDiff, Nat.reduceAdd, reduceCtorEq] <;> rfl) (by repeat' (first | exact ConvVs.nil | exact ConvL.nil | refine ConvV.tup ?_ | refine ConvVs.cons ?_ ?_ | (refine ConvV.self ?_; simp only [push_cast]; done) | refine ConvV.one ?_ | refine ConvV.agg ?_ | (refine ConvL.free ?_; simp only [push_cast]; done) | refine ConvL.append ?_ ?_ | refine ConvL.cons ?_ ?_ | exact Conv.free rfl | exact Conv.nil | (refine Conv.own ?_; simp; done) | (refine Conv.loc ?_; simp; done) | refine Conv.frz (by simp) (by simp (dsimp := false) only [push_cast, ↓reduceIte, Nat.reduceEqDiff, Nat.reduceAdd, reduceCtorEq] <;> rfl) ?_ | refine Conv.sl (by simp) ?_ | refine Conv.fn ?_)) ?_
        refine hf_cons (by simp (dsimp := false) only [push_cast, ↓reduceIte, Nat.reduceEqDiff, Nat.reduceAdd, reduceCtorEq] <;> rfl) (by exact ConvV.self rfl) ?_
        refine hf_cons (by simp (dsimp := false) only [push_cast, ↓reduceIte, Nat.reduceEqDiff, Nat.reduceAdd, reduceCtorEq] <;> rfl) (by exact ConvV.self rfl) ?_
        exact hf_nil
      · exact hh_nil
    · exact ⟨by omega, by omega, rfl⟩
    · rintro m τ ⟨i, hm, ⟨hi0, hi1, hi2⟩, rfl⟩ K hL0
      have hw := fun h : i < (l.length : Int) => wrap_next hi0 h (by omega)
      have hd := fun h : i < (l.length : Int) => dropI_two (fun p : ByteArray × Int => PC.c (Value.string p.1)) (fun p : ByteArray × Int => PC.c (Value.int .i64 p.2)) hi0 h
      refine vwp_seq_region rfl fun K hK => ?_
      simp (dsimp := false) only [push_cast, hP, hnt, hgw, hgb, sevalprocAttr, hi0]
      refine hK _ ?_; clear hK
      refine vwp_seq fun K hK => ?_
      refine vwp_cond (b := _) (by simp (dsimp := false) only [push_cast, hP, hnt, hgw, hgb, sevalprocAttr, hi0]; rfl) (fun rb1 => ?_) (fun rb1 => ?_)
      · have hb1 := rb1
        try simp only [beq_iff_eq, bne_iff_ne, ne_eq, bne_eq_false_iff_eq, beq_eq_false_iff_ne, decide_eq_true_eq, decide_eq_false_iff_not, Bool.not_eq_true', Bool.not_eq_false', Bool.or_eq_true, Bool.and_eq_true, Bool.or_eq_false_iff, Bool.and_eq_false_iff] at hb1
        have hw := hw hb1
        have hd := hd hb1
        refine vwp_skip ?_
        apply_assumption
        refine vwp_seq fun K hK => ?_
        refine vwp_block ?_
        refine vwp_seq_region rfl fun K hK => ?_
        simp (dsimp := false) only [push_cast, hP, hnt, hgw, hgb, sevalprocAttr, hi0, hw, hd, hb1]
        refine hK _ ?_; clear hK
        refine vwp_seq_region rfl fun K hK => ?_
        simp (dsimp := false) only [push_cast, hP, hnt, hgw, hgb, sevalprocAttr, hi0, hw, hd, hb1]
        refine .inl (callE_intro (check_call gw gb _ _) (.inl ⟨rfl, rfl⟩) ?_)
        simp (dsimp := false) only [push_cast, hP, hnt, hgw, hgb, sevalprocAttr, hi0, hw, hd, hb1]
        refine hK _ ?_; clear hK
        refine vwp_seq_region rfl fun K hK => ?_
        simp (dsimp := false) only [push_cast, hP, hnt, hgw, hgb, sevalprocAttr, hi0, hw, hd, hb1]
        refine hK _ ?_; clear hK
        refine vwp_cond (b := _) (by simp (dsimp := false) only [push_cast, hP, hnt, hgw, hgb, sevalprocAttr, hi0, hw, hd, hb1]; rfl) (fun rb2 => ?_) (fun rb2 => ?_)
        · have hb2 := rb2
          try simp only [beq_iff_eq, bne_iff_ne, ne_eq, bne_eq_false_iff_eq, beq_eq_false_iff_ne, decide_eq_true_eq, decide_eq_false_iff_not, Bool.not_eq_true', Bool.not_eq_false', Bool.or_eq_true, Bool.and_eq_true, Bool.or_eq_false_iff, Bool.and_eq_false_iff] at hb2
          refine vwp_seq_region rfl fun K hK => ?_
          simp (dsimp := false) only [push_cast, hP, hnt, hgw, hgb, sevalprocAttr, hi0, hw, hd, hb1]
          refine hK _ ?_; clear hK
          refine vwp_ret ?_
          refine ret_free (by simp (dsimp := false) only [push_cast, hP, hnt, hgw, hgb, sevalprocAttr, hi0, hw, hd, hb1]; rfl) (by simp (dsimp := false) only [push_cast, hP, hnt, hgw, hgb, sevalprocAttr, hi0, hw, hd, hb1]) ?_
          rw [checksF_small hb0, ← hi2, firstE_drop hi0 hb1, if_neg (by simpa using hb2)]; rfl
        · have hb2 := rb2
          try simp only [beq_iff_eq, bne_iff_ne, ne_eq, bne_eq_false_iff_eq, beq_eq_false_iff_ne, decide_eq_true_eq, decide_eq_false_iff_not, Bool.not_eq_true', Bool.not_eq_false', Bool.or_eq_true, Bool.and_eq_true, Bool.or_eq_false_iff, Bool.and_eq_false_iff] at hb2
          refine vwp_skip ?_
          apply_assumption
          refine vwp_region rfl ?_
          simp (dsimp := false) only [push_cast, hP, hnt, hgw, hgb, sevalprocAttr, hi0, hw, hd, hb1]
          refine hL0 _ _ _ ?_ ?_ ⟨i + 1, rfl, ?_, rfl⟩
          · omega
          · refine wk_conv [] [] (by simp) (by simp) (by decide) ?_ ?_
            · refine hf_cons (by simp (dsimp := false) only [push_cast, ↓reduceIte, Nat.reduceEqDiff, Nat.reduceAdd, reduceCtorEq, hi0, hw, hd, hb1] <;> rfl) (by repeat' (first | exact ConvVs.nil | exact ConvL.nil | refine ConvV.tup ?_ | refine ConvVs.cons ?_ ?_ | (refine ConvV.self ?_; simp only [push_cast]; done) | refine ConvV.one ?_ | refine ConvV.agg ?_ | (refine ConvL.free ?_; simp only [push_cast]; done) | refine ConvL.append ?_ ?_ | refine ConvL.cons ?_ ?_ | exact Conv.free rfl | exact Conv.nil | (refine Conv.own ?_; simp; done) | (refine Conv.loc ?_; simp; done) | refine Conv.frz (by simp) (by simp (dsimp := false) only [push_cast, ↓reduceIte, Nat.reduceEqDiff, Nat.reduceAdd, reduceCtorEq, hi0, hw, hd, hb1] <;> rfl) ?_ | refine Conv.sl (by simp) ?_ | refine Conv.fn ?_)) ?_
              refine hf_cons (by simp (dsimp := false) only [push_cast, ↓reduceIte, Nat.reduceEqDiff, Nat.reduceAdd, reduceCtorEq, hi0, hw, hd, hb1] <;> rfl) (by exact ConvV.self rfl) ?_
              refine hf_cons (by simp (dsimp := false) only [push_cast, ↓reduceIte, Nat.reduceEqDiff, Nat.reduceAdd, reduceCtorEq, hi0, hw, hd, hb1] <;> rfl) (by exact ConvV.self rfl) ?_
              exact hf_nil
            · exact hh_nil
          · exact ⟨by omega, by omega, by rw [firstE_drop hi0 hb1, if_pos (by simpa using hb2)] at hi2; exact hi2⟩
      · have hb1 := rb1
        try simp only [beq_iff_eq, bne_iff_ne, ne_eq, bne_eq_false_iff_eq, beq_eq_false_iff_ne, decide_eq_true_eq, decide_eq_false_iff_not, Bool.not_eq_true', Bool.not_eq_false', Bool.or_eq_true, Bool.and_eq_true, Bool.or_eq_false_iff, Bool.and_eq_false_iff] at hb1
        refine vwp_exit ?_
        simp only [thenQ, blockQ, Nat.reduceEqDiff, reduceIte]
        apply_assumption
        refine vwp_seq_region rfl fun K hK => ?_
        simp (dsimp := false) only [push_cast, hP, hnt, hgw, hgb, sevalprocAttr, hi0]
        refine hK _ ?_; clear hK
        refine vwp_ret ?_
        refine ret_free (by simp (dsimp := false) only [push_cast, hP, hnt, hgw, hgb, sevalprocAttr, hi0]; rfl) (by simp (dsimp := false) only [push_cast, hP, hnt, hgw, hgb, sevalprocAttr, hi0]) ?_
        rw [checksF_small hb0, ← hi2, firstE_end hb1]; rfl
end Go.Vm
end

section
namespace Go.Vm
open Go Go.RowKit Go.Proofs
set_option maxRecDepth 100000
set_option linter.unusedSimpArgs false
set_option linter.unusedVariables false
set_option maxHeartbeats 4000000

theorem textF_snd (n : ByteArray) (k : Int) : (textF n k).2 = checkF n k := by
  unfold textF
  split
  · rfl
  · rename_i h
    have : checkF n k = 0 := by simpa using h
    split <;> simp [this]
theorem textF_size {n : ByteArray} {k : Int} (h : checkF n k = 0) : (textF n k).1.size ≤ 100 := by
  unfold textF
  rw [if_neg (by simp [h])]
  have hz := checkF_ok (n := n) (k := k) h
  split
  · show n.size ≤ 100
    omega
  · rw [ByteArray.size_append, ByteArray.size_append, digitsB_size k (by omega)]
    have : colon.size = 1 := rfl
    omega
theorem joinS_nil (sep : ByteArray) : joinS sep [] = ⟨#[]⟩ := rfl
theorem lens_le (n : Nat) : ∀ (ws : List (List UInt8)), (∀ w ∈ ws, w.length ≤ n) → Lib.lens ws ≤ n * ws.length
  | [], _ => by simp [Lib.lens]
  | w :: ws, h => by
    have h1 := lens_le n ws fun x hx => h x (List.mem_cons_of_mem _ hx)
    have h2 := h w (by simp)
    simp only [Lib.lens, List.map_cons, List.sum_cons, List.length_cons, Nat.mul_succ] at h1 ⊢
    omega
theorem joinS_bound (sep : ByteArray) (n : Nat) (ws : List ByteArray) (h : ∀ w ∈ ws, w.size ≤ n) : (joinS sep ws).size ≤ (n + sep.size) * ws.length := by
  cases ws with
  | nil => rw [joinS_nil]; exact Nat.zero_le _
  | cons w ws =>
    have h1 := lens_le n ((w :: ws).map fun x => x.data.toList) fun x hx => by
      obtain ⟨y, hy, rfl⟩ := List.mem_map.1 hx
      rw [← size_list]; exact h y hy
    have h2 : (joinS sep (w :: ws)).size = (Lib.join ((w :: ws).map fun x => x.data.toList) sep.data.toList).length := bOf_size _
    rw [h2, List.map_cons, Lib.join_length, ← size_list, List.length_map, List.length_cons]
    rw [List.map_cons, List.length_cons, List.length_map] at h1
    rw [Nat.add_mul]
    have := Nat.mul_le_mul_left sep.size (Nat.le_succ ws.length)
    simp only [Nat.succ_eq_add_one] at this
    omega
def commaB : ByteArray := ⟨#[44]⟩
def textP (p : ByteArray × Int) : ByteArray := (textF p.1 p.2).1
def textC (p : ByteArray × Int) : PC := .c (.string (textP p))
def passesF (l : List (ByteArray × Int)) : ByteArray × Int := if checksF l ≠ 0 then (⟨#[]⟩, checksF l) else (joinS commaB (l.map textP), 0)
theorem firstE_mem : ∀ {l : List (ByteArray × Int)}, firstE l = 0 → ∀ p ∈ l, checkF p.1 p.2 = 0
  | [], _, p, hp => by simp at hp
  | q :: l, h, p, hp => by
    unfold firstE at h
    split at h
    · rename_i hq
      rcases List.mem_cons.1 hp with rfl | hp
      · exact hq
      · exact firstE_mem h p hp
    · rename_i hq; exact absurd h hq
theorem checksF_zero {l : List (ByteArray × Int)} (h : checksF l = 0) : l.length ≤ 10 ∧ firstE l = 0 := by
  unfold checksF at h
  split at h
  · cases h
  · exact ⟨by omega, h⟩
theorem textP_size {l : List (ByteArray × Int)} (h : checksF l = 0) : ∀ w ∈ l.map textP, w.size ≤ 100 := by
  intro w hw
  obtain ⟨p, hp, rfl⟩ := List.mem_map.1 hw
  exact textF_size (firstE_mem (checksF_zero h).2 p hp)
theorem joinP_size {l : List (ByteArray × Int)} (h : checksF l = 0) : (joinS commaB (l.map textP)).size ≤ 2000 := by
  have h1 := joinS_bound commaB 100 (l.map textP) (textP_size h)
  have h2 := (checksF_zero h).1
  have h3 : commaB.size = 1 := rfl
  rw [List.length_map, h3] at h1
  have := Nat.mul_le_mul_left (100 + 1) h2
  omega
theorem joinP_call (gw : World) (gb : Nat) (l : List (ByteArray × Int)) (h : checksF l = 0) : VCall Tryz.prog gw gb 27 [.one (.sl false l.length (l.map fun p => .c (.string (textP p)))), .one (.c (.string ⟨#[44]⟩))] (.one (.c (.string (joinS commaB (l.map textP))))) [] := by
  have := join_call gw gb (l.map textP) commaB (by rw [List.length_map]; have := (checksF_zero h).1; omega) (by have := joinP_size h; omega)
  rwa [List.length_map, List.map_map] at this
theorem rowAt_two {f : (ByteArray × Int) → PC} {z : PC} {l : List (ByteArray × Int)} : rowZ [z] l.length = rowAt f z l (Int.toNat 0) := rowAt_zero
theorem passesF_bad {l : List (ByteArray × Int)} (h : ¬ checksF l = 0) : passesF l = (⟨#[]⟩, checksF l) := if_pos h
theorem passesF_ok {l : List (ByteArray × Int)} (h : checksF l = 0) : passesF l = (joinS commaB (l.map textP), 0) := if_neg (by simpa using h)
theorem passes_call (gw : World) (gb : Nat) (l : List (ByteArray × Int)) (hl : l.length ≤ 100000) : VCall Tryz.prog gw (gb) 12 [.one (.sl false l.length (l.flatMap fun p => [.c (.string p.1), .c (.int .i64 p.2)]))] (.tup [.one (.c (.string (passesF l).1)), .one (.c (.int .i64 (passesF l).2))]) [] := by
  have hz : rowZ [PC.c (Value.string ⟨#[]⟩)] l.length = rowAt textC (.c (.string ⟨#[]⟩)) l (Int.toNat 0) := rowAt_two
  have hm1 : (0 + 1 + 1 + 1 + 1 + 1 + 1 + 1 + 1 + 1 + 1 + 1 + 1 + 1 + 1 + 1 + 1) * (l.length : Int) ≤ 140737488355328 := by omega
  have hm2 : (l.length : Int) ≤ 140737488355328 := by omega
  have hm3 : (0 : Int) ≤ (l.length : Int) := by omega
  have hrf : ∀ k, PC.frees (rowAt textC (.c (.string ⟨#[]⟩)) l k) = true := fun k => rowAt_frees rfl fun _ => rfl
  refine vcall_of [.tmp 2, .tmp 3] Tryz.func12 rfl rfl Tryz.ntmps12 rfl (by simp) ?_
  intro C hP hnt hgw hgb hfull
  refine vwp_seq_region rfl fun K hK => ?_
  simp (dsimp := false) only [push_cast, hP, hnt, hgw, hgb, Nat.reduceLT, Nat.reduceEqDiff, Nat.reduceAdd, Nat.reduceSub, Nat.reduceMul, Nat.reduceLeDiff, ↓reduceIte, reduceCtorEq, Int.toNat_natCast, hm1, hm2, hm3, hrf]
  refine hK _ ?_; clear hK
  refine vwp_seq fun K hK => ?_
  refine vwp_seq_region rfl fun K hK => ?_
  simp (dsimp := false) only [push_cast, hP, hnt, hgw, hgb, Nat.reduceLT, Nat.reduceEqDiff, Nat.reduceAdd, Nat.reduceSub, Nat.reduceMul, Nat.reduceLeDiff, ↓reduceIte, reduceCtorEq, Int.toNat_natCast, hm1, hm2, hm3, hrf]
  refine .inl (callE_intro (checks_call gw gb l) (.inl ⟨rfl, rfl⟩) ?_)
  simp (dsimp := false) only [push_cast, hP, hnt, hgw, hgb, Nat.reduceLT, Nat.reduceEqDiff, Nat.reduceAdd, Nat.reduceSub, Nat.reduceMul, Nat.reduceLeDiff, ↓reduceIte, reduceCtorEq, Int.toNat_natCast, hm1, hm2, hm3, hrf]
  refine hK _ ?_; clear hK
  refine vwp_seq_region rfl fun K hK => ?_
  simp (dsimp := false) only [push_cast, hP, hnt, hgw, hgb, Nat.reduceLT, Nat.reduceEqDiff, Nat.reduceAdd, Nat.reduceSub, Nat.reduceMul, Nat.reduceLeDiff, ↓reduceIte, reduceCtorEq, Int.toNat_natCast, hm1, hm2, hm3, hrf]
  refine hK _ ?_; clear hK
  refine vwp_cond (b := _) (by simp (dsimp := false) only [push_cast, hP, hnt, hgw, hgb, Nat.reduceLT, Nat.reduceEqDiff, Nat.reduceAdd, Nat.reduceSub, Nat.reduceMul, Nat.reduceLeDiff, ↓reduceIte, reduceCtorEq, Int.toNat_natCast, hm1, hm2, hm3, hrf]; rfl) (fun rb0 => ?_) (fun rb0 => ?_)
  · have hb0 := rb0
    try simp only [beq_iff_eq, bne_iff_ne, ne_eq, bne_eq_false_iff_eq, beq_eq_false_iff_ne, decide_eq_true_eq, decide_eq_false_iff_not, Bool.not_eq_true', Bool.not_eq_false', Bool.or_eq_true, Bool.and_eq_true, Bool.or_eq_false_iff, Bool.and_eq_false_iff] at hb0
    refine vwp_seq_region rfl fun K hK => ?_
    simp (dsimp := false) only [push_cast, hP, hnt, hgw, hgb, Nat.reduceLT, Nat.reduceEqDiff, Nat.reduceAdd, Nat.reduceSub, Nat.reduceMul, Nat.reduceLeDiff, ↓reduceIte, reduceCtorEq, Int.toNat_natCast, hm1, hm2, hm3, hrf]
    refine hK _ ?_; clear hK
    refine vwp_ret ?_
    refine ret_free (by simp (dsimp := false) only [push_cast, hP, hnt, hgw, hgb, Nat.reduceLT, Nat.reduceEqDiff, Nat.reduceAdd, Nat.reduceSub, Nat.reduceMul, Nat.reduceLeDiff, ↓reduceIte, reduceCtorEq, Int.toNat_natCast, hm1, hm2, hm3, hrf]; rfl) (by simp (dsimp := false) only [push_cast, hP, hnt, hgw, hgb, Nat.reduceLT, Nat.reduceEqDiff, Nat.reduceAdd, Nat.reduceSub, Nat.reduceMul, Nat.reduceLeDiff, ↓reduceIte, reduceCtorEq, Int.toNat_natCast, hm1, hm2, hm3, hrf]) ?_
    rw [passesF_bad (by simpa using hb0)]; rfl
  · have hb0 := rb0
    try simp only [beq_iff_eq, bne_iff_ne, ne_eq, bne_eq_false_iff_eq, beq_eq_false_iff_ne, decide_eq_true_eq, decide_eq_false_iff_not, Bool.not_eq_true', Bool.not_eq_false', Bool.or_eq_true, Bool.and_eq_true, Bool.or_eq_false_iff, Bool.and_eq_false_iff] at hb0
    refine vwp_skip ?_
    apply_assumption
    refine vwp_seq_region rfl fun K hK => ?_
    simp (dsimp := false) only [push_cast, hP, hnt, hgw, hgb, Nat.reduceLT, Nat.reduceEqDiff, Nat.reduceAdd, Nat.reduceSub, Nat.reduceMul, Nat.reduceLeDiff, ↓reduceIte, reduceCtorEq, Int.toNat_natCast, hm1, hm2, hm3, hrf]
    refine hK _ ?_; clear hK
    refine vwp_seq fun K hK => ?_
    refine vwp_seq_region rfl fun K hK => ?_
    simp (dsimp := false) only [push_cast, hP, hnt, hgw, hgb, Nat.reduceLT, Nat.reduceEqDiff, Nat.reduceAdd, Nat.reduceSub, Nat.reduceMul, Nat.reduceLeDiff, ↓reduceIte, reduceCtorEq, Int.toNat_natCast, hm1, hm2, hm3, hrf]
    refine hK _ ?_; clear hK
    refine vwp_block ?_
    refine vwp_loop (fun m σ => ∃ (i : Int), m = (l.length - i).toNat ∧ ((0 ≤ i) ∧ (i ≤ l.length)) ∧ σ = St.of [(5, .one (.own (18, 0))), (18, .one (.sl false l.length (l.flatMap fun p => [.c (.string p.1), .c (.int .i64 p.2)]))), (19, .one (.c (.int .i64 l.length))), (20, .one (.c (.int .i64 i)))] [((18, 0), .arr 9 1 l.length (rowAt textC (.c (.string ⟨#[]⟩)) l i.toNat))] [17]) _ ⟨_, ?_, 0, rfl, ?_, rfl⟩ ?_
    · refine wk_conv [] [((18, 0), (18, 0))] (by simp) (by simp) (by decide) ?_ ?_
      · refine hf_cons (by simp (dsimp := false) only [push_cast, ↓reduceIte, Nat.reduceEqDiff, Nat.reduceAdd, reduceCtorEq, Int.toNat_natCast, hm1, hm2, hm3, hrf, hz] <;> rfl) (by exact .one (.own (by simp))) ?_
        refine hf_cons (by simp (dsimp := false) only [push_cast, ↓reduceIte, Nat.reduceEqDiff, Nat.reduceAdd, reduceCtorEq, Int.toNat_natCast, hm1, hm2, hm3, hrf, hz] <;> rfl) (by repeat' (first | exact ConvVs.nil | exact ConvL.nil | refine ConvV.tup ?_ | refine ConvVs.cons ?_ ?_ | (refine ConvV.self ?_; simp only [push_cast, hrf]; done) | refine ConvV.one ?_ | refine ConvV.agg ?_ | (refine ConvL.free ?_; simp only [push_cast, hrf]; done) | refine ConvL.append ?_ ?_ | refine ConvL.cons ?_ ?_ | exact Conv.free rfl | exact Conv.nil | (refine Conv.own ?_; simp; done) | (refine Conv.loc ?_; simp; done) | refine Conv.frz (by simp) (by simp (dsimp := false) only [push_cast, ↓reduceIte, Nat.reduceEqDiff, Nat.reduceAdd, reduceCtorEq, Int.toNat_natCast, hm1, hm2, hm3, hrf, hz] <;> rfl) ?_ | refine Conv.sl (by simp) ?_ | refine Conv.fn ?_)) ?_
        refine hf_cons (by simp (dsimp := false) only [push_cast, ↓reduceIte, Nat.reduceEqDiff, Nat.reduceAdd, reduceCtorEq, Int.toNat_natCast, hm1, hm2, hm3, hrf, hz] <;> rfl) (by exact ConvV.self rfl) ?_
        refine hf_cons (by simp (dsimp := false) only [push_cast, ↓reduceIte, Nat.reduceEqDiff, Nat.reduceAdd, reduceCtorEq, Int.toNat_natCast, hm1, hm2, hm3, hrf, hz] <;> rfl) (by exact ConvV.self rfl) ?_
        exact hf_nil
      · refine hh_cons (i := (18, 0)) (by simp) (by simp) (by simp (dsimp := false) only [push_cast, ↓reduceIte, Nat.reduceEqDiff, Nat.reduceAdd, reduceCtorEq, Int.toNat_natCast, hm1, hm2, hm3, hrf, hz] <;> rfl) (by first | (refine ConvB.free ?_; simp only [push_cast, hrf]; done) | (refine ConvB.arr ?_; repeat' (first | exact ConvVs.nil | exact ConvL.nil | refine ConvV.tup ?_ | refine ConvVs.cons ?_ ?_ | (refine ConvV.self ?_; simp only [push_cast, hrf]; done) | refine ConvV.one ?_ | refine ConvV.agg ?_ | (refine ConvL.free ?_; simp only [push_cast, hrf]; done) | refine ConvL.append ?_ ?_ | refine ConvL.cons ?_ ?_ | exact Conv.free rfl | exact Conv.nil | (refine Conv.own ?_; simp; done) | (refine Conv.loc ?_; simp; done) | refine Conv.frz (by simp) (by simp (dsimp := false) only [push_cast, ↓reduceIte, Nat.reduceEqDiff, Nat.reduceAdd, reduceCtorEq, Int.toNat_natCast, hm1, hm2, hm3, hrf, hz] <;> rfl) ?_ | refine Conv.sl (by simp) ?_ | refine Conv.fn ?_))) ?_
        exact hh_nil
    · exact ⟨by omega, by omega⟩
    · rintro m τ ⟨i, hm, ⟨hi0, hi1⟩, rfl⟩ K hL0
      have hw := fun h : i < (l.length : Int) => wrap_next hi0 h (by omega)
      have hd := fun h : i < (l.length : Int) => dropI_two (fun p : ByteArray × Int => PC.c (Value.string p.1)) (fun p : ByteArray × Int => PC.c (Value.int .i64 p.2)) hi0 h
      refine vwp_seq_region rfl fun K hK => ?_
      simp (dsimp := false) only [push_cast, hP, hnt, hgw, hgb, Nat.reduceLT, Nat.reduceEqDiff, Nat.reduceAdd, Nat.reduceSub, Nat.reduceMul, Nat.reduceLeDiff, ↓reduceIte, reduceCtorEq, Int.toNat_natCast, hm1, hm2, hm3, hrf, hi0]
      refine hK _ ?_; clear hK
      refine vwp_seq fun K hK => ?_
      refine vwp_cond (b := _) (by simp (dsimp := false) only [push_cast, hP, hnt, hgw, hgb, Nat.reduceLT, Nat.reduceEqDiff, Nat.reduceAdd, Nat.reduceSub, Nat.reduceMul, Nat.reduceLeDiff, ↓reduceIte, reduceCtorEq, Int.toNat_natCast, hm1, hm2, hm3, hrf, hi0]; rfl) (fun rb1 => ?_) (fun rb1 => ?_)
      · have hb1 := rb1
        try simp only [beq_iff_eq, bne_iff_ne, ne_eq, bne_eq_false_iff_eq, beq_eq_false_iff_ne, decide_eq_true_eq, decide_eq_false_iff_not, Bool.not_eq_true', Bool.not_eq_false', Bool.or_eq_true, Bool.and_eq_true, Bool.or_eq_false_iff, Bool.and_eq_false_iff] at hb1
        have hw := hw hb1
        have hd := hd hb1
        have hk : i.toNat < l.length := by omega
        have hf1 : i.toNat * 1 + 1 ≤ (rowAt textC (PC.c (Value.string ⟨#[]⟩)) l i.toNat).length := by rw [rowAt_len (by omega)]; omega
        have hs1 : splice (rowAt textC (PC.c (Value.string ⟨#[]⟩)) l i.toNat) (i.toNat * 1) [PC.c (Value.string (textF (atI l i).1 (atI l i).2).1)] = rowPut textC (PC.c (Value.string ⟨#[]⟩)) l i.toNat (textC (atI l i)) := by rw [Nat.mul_one]; exact rowAt_put hk
        refine vwp_skip ?_
        apply_assumption
        refine vwp_seq fun K hK => ?_
        refine vwp_block ?_
        refine vwp_seq_region rfl fun K hK => ?_
        simp (dsimp := false) only [push_cast, hP, hnt, hgw, hgb, Nat.reduceLT, Nat.reduceEqDiff, Nat.reduceAdd, Nat.reduceSub, Nat.reduceMul, Nat.reduceLeDiff, ↓reduceIte, reduceCtorEq, Int.toNat_natCast, hm1, hm2, hm3, hrf, hi0, hw, hd, hb1, hf1, hs1]
        refine hK _ ?_; clear hK
        refine vwp_seq_region rfl fun K hK => ?_
        simp (dsimp := false) only [push_cast, hP, hnt, hgw, hgb, Nat.reduceLT, Nat.reduceEqDiff, Nat.reduceAdd, Nat.reduceSub, Nat.reduceMul, Nat.reduceLeDiff, ↓reduceIte, reduceCtorEq, Int.toNat_natCast, hm1, hm2, hm3, hrf, hi0, hw, hd, hb1, hf1, hs1]
        refine .inl (callE_intro (text_call gw gb _ _) (.inl ⟨rfl, rfl⟩) ?_)
        simp (dsimp := false) only [push_cast, hP, hnt, hgw, hgb, Nat.reduceLT, Nat.reduceEqDiff, Nat.reduceAdd, Nat.reduceSub, Nat.reduceMul, Nat.reduceLeDiff, ↓reduceIte, reduceCtorEq, Int.toNat_natCast, hm1, hm2, hm3, hrf, hi0, hw, hd, hb1, hf1, hs1]
        refine hK _ ?_; clear hK
        refine vwp_seq fun K hK => ?_
        refine vwp_seq_region rfl fun K hK => ?_
        simp (dsimp := false) only [push_cast, hP, hnt, hgw, hgb, Nat.reduceLT, Nat.reduceEqDiff, Nat.reduceAdd, Nat.reduceSub, Nat.reduceMul, Nat.reduceLeDiff, ↓reduceIte, reduceCtorEq, Int.toNat_natCast, hm1, hm2, hm3, hrf, hi0, hw, hd, hb1, hf1, hs1]
        refine hK _ ?_; clear hK
        refine vwp_cond (b := _) (by simp (dsimp := false) only [push_cast, hP, hnt, hgw, hgb, Nat.reduceLT, Nat.reduceEqDiff, Nat.reduceAdd, Nat.reduceSub, Nat.reduceMul, Nat.reduceLeDiff, ↓reduceIte, reduceCtorEq, Int.toNat_natCast, hm1, hm2, hm3, hrf, hi0, hw, hd, hb1, hf1, hs1]; rfl) (fun rb2 => ?_) (fun rb2 => ?_)
        · have hb2 := rb2
          try simp only [beq_iff_eq, bne_iff_ne, ne_eq, bne_eq_false_iff_eq, beq_eq_false_iff_ne, decide_eq_true_eq, decide_eq_false_iff_not, Bool.not_eq_true', Bool.not_eq_false', Bool.or_eq_true, Bool.and_eq_true, Bool.or_eq_false_iff, Bool.and_eq_false_iff] at hb2
          refine vwp_seq_region rfl fun K hK => ?_
          simp (dsimp := false) only [push_cast, hP, hnt, hgw, hgb, Nat.reduceLT, Nat.reduceEqDiff, Nat.reduceAdd, Nat.reduceSub, Nat.reduceMul, Nat.reduceLeDiff, ↓reduceIte, reduceCtorEq, Int.toNat_natCast, hm1, hm2, hm3, hrf, hi0, hw, hd, hb1, hf1, hs1]
          refine hK _ ?_; clear hK
          refine vwp_ret ?_
          refine ret_free (by simp (dsimp := false) only [push_cast, hP, hnt, hgw, hgb, Nat.reduceLT, Nat.reduceEqDiff, Nat.reduceAdd, Nat.reduceSub, Nat.reduceMul, Nat.reduceLeDiff, ↓reduceIte, reduceCtorEq, Int.toNat_natCast, hm1, hm2, hm3, hrf, hi0, hw, hd, hb1, hf1, hs1]; rfl) (by simp (dsimp := false) only [push_cast, hP, hnt, hgw, hgb, Nat.reduceLT, Nat.reduceEqDiff, Nat.reduceAdd, Nat.reduceSub, Nat.reduceMul, Nat.reduceLeDiff, ↓reduceIte, reduceCtorEq, Int.toNat_natCast, hm1, hm2, hm3, hrf, hi0, hw, hd, hb1, hf1, hs1]) ?_
          exact absurd (show (textF (atI l i).1 (atI l i).2).2 = 0 by rw [textF_snd]; exact firstE_mem (checksF_zero (by simpa using hb0)).2 _ (atI_mem hi0 hb1)) (by simpa using hb2)
        · have hb2 := rb2
          try simp only [beq_iff_eq, bne_iff_ne, ne_eq, bne_eq_false_iff_eq, beq_eq_false_iff_ne, decide_eq_true_eq, decide_eq_false_iff_not, Bool.not_eq_true', Bool.not_eq_false', Bool.or_eq_true, Bool.and_eq_true, Bool.or_eq_false_iff, Bool.and_eq_false_iff] at hb2
          refine vwp_skip ?_
          apply_assumption
          refine vwp_region rfl ?_
          simp (dsimp := false) only [push_cast, hP, hnt, hgw, hgb, Nat.reduceLT, Nat.reduceEqDiff, Nat.reduceAdd, Nat.reduceSub, Nat.reduceMul, Nat.reduceLeDiff, ↓reduceIte, reduceCtorEq, Int.toNat_natCast, hm1, hm2, hm3, hrf, hi0, hw, hd, hb1, hf1, hs1]
          apply_assumption
          refine vwp_region rfl ?_
          simp (dsimp := false) only [push_cast, hP, hnt, hgw, hgb, Nat.reduceLT, Nat.reduceEqDiff, Nat.reduceAdd, Nat.reduceSub, Nat.reduceMul, Nat.reduceLeDiff, ↓reduceIte, reduceCtorEq, Int.toNat_natCast, hm1, hm2, hm3, hrf, hi0, hw, hd, hb1, hf1, hs1]
          have hn : rowPut textC (PC.c (Value.string ⟨#[]⟩)) l i.toNat (textC (atI l i)) = rowAt textC (PC.c (Value.string ⟨#[]⟩)) l (i + 1).toNat := rowAt_next hi0 hb1
          refine hL0 _ _ _ ?_ ?_ ⟨i + 1, rfl, ?_, rfl⟩
          · omega
          · refine wk_conv [] [((18, 0), (18, 0))] (by simp) (by simp) (by decide) ?_ ?_
            · refine hf_cons (by simp (dsimp := false) only [push_cast, ↓reduceIte, Nat.reduceEqDiff, Nat.reduceAdd, reduceCtorEq, Int.toNat_natCast, hm1, hm2, hm3, hrf, hi0, hw, hd, hb1, hf1, hs1, hn] <;> rfl) (by exact .one (.own (by simp))) ?_
              refine hf_cons (by simp (dsimp := false) only [push_cast, ↓reduceIte, Nat.reduceEqDiff, Nat.reduceAdd, reduceCtorEq, Int.toNat_natCast, hm1, hm2, hm3, hrf, hi0, hw, hd, hb1, hf1, hs1, hn] <;> rfl) (by repeat' (first | exact ConvVs.nil | exact ConvL.nil | refine ConvV.tup ?_ | refine ConvVs.cons ?_ ?_ | (refine ConvV.self ?_; simp only [push_cast, hrf]; done) | refine ConvV.one ?_ | refine ConvV.agg ?_ | (refine ConvL.free ?_; simp only [push_cast, hrf]; done) | refine ConvL.append ?_ ?_ | refine ConvL.cons ?_ ?_ | exact Conv.free rfl | exact Conv.nil | (refine Conv.own ?_; simp; done) | (refine Conv.loc ?_; simp; done) | refine Conv.frz (by simp) (by simp (dsimp := false) only [push_cast, ↓reduceIte, Nat.reduceEqDiff, Nat.reduceAdd, reduceCtorEq, Int.toNat_natCast, hm1, hm2, hm3, hrf, hi0, hw, hd, hb1, hf1, hs1, hn] <;> rfl) ?_ | refine Conv.sl (by simp) ?_ | refine Conv.fn ?_)) ?_
              refine hf_cons (by simp (dsimp := false) only [push_cast, ↓reduceIte, Nat.reduceEqDiff, Nat.reduceAdd, reduceCtorEq, Int.toNat_natCast, hm1, hm2, hm3, hrf, hi0, hw, hd, hb1, hf1, hs1, hn] <;> rfl) (by exact ConvV.self rfl) ?_
              refine hf_cons (by simp (dsimp := false) only [push_cast, ↓reduceIte, Nat.reduceEqDiff, Nat.reduceAdd, reduceCtorEq, Int.toNat_natCast, hm1, hm2, hm3, hrf, hi0, hw, hd, hb1, hf1, hs1, hn] <;> rfl) (by exact ConvV.self rfl) ?_
              exact hf_nil
            · refine hh_cons (i := (18, 0)) (by simp) (by simp) (by simp (dsimp := false) only [push_cast, ↓reduceIte, Nat.reduceEqDiff, Nat.reduceAdd, reduceCtorEq, Int.toNat_natCast, hm1, hm2, hm3, hrf, hi0, hw, hd, hb1, hf1, hs1, hn] <;> rfl) (by first | (refine ConvB.free ?_; simp only [push_cast, hrf]; done) | (refine ConvB.arr ?_; repeat' (first | exact ConvVs.nil | exact ConvL.nil | refine ConvV.tup ?_ | refine ConvVs.cons ?_ ?_ | (refine ConvV.self ?_; simp only [push_cast, hrf]; done) | refine ConvV.one ?_ | refine ConvV.agg ?_ | (refine ConvL.free ?_; simp only [push_cast, hrf]; done) | refine ConvL.append ?_ ?_ | refine ConvL.cons ?_ ?_ | exact Conv.free rfl | exact Conv.nil | (refine Conv.own ?_; simp; done) | (refine Conv.loc ?_; simp; done) | refine Conv.frz (by simp) (by simp (dsimp := false) only [push_cast, ↓reduceIte, Nat.reduceEqDiff, Nat.reduceAdd, reduceCtorEq, Int.toNat_natCast, hm1, hm2, hm3, hrf, hi0, hw, hd, hb1, hf1, hs1, hn] <;> rfl) ?_ | refine Conv.sl (by simp) ?_ | refine Conv.fn ?_))) ?_
              exact hh_nil
          · exact ⟨by omega, by omega⟩
      · have hb1 := rb1
        try simp only [beq_iff_eq, bne_iff_ne, ne_eq, bne_eq_false_iff_eq, beq_eq_false_iff_ne, decide_eq_true_eq, decide_eq_false_iff_not, Bool.not_eq_true', Bool.not_eq_false', Bool.or_eq_true, Bool.and_eq_true, Bool.or_eq_false_iff, Bool.and_eq_false_iff] at hb1
        have hend : rowAt textC (PC.c (Value.string ⟨#[]⟩)) l i.toNat = l.map fun p => PC.c (Value.string (textP p)) := by rw [show i.toNat = l.length by omega]; exact rowAt_end
        refine vwp_exit ?_
        simp only [thenQ, blockQ, Nat.reduceEqDiff, reduceIte]
        apply_assumption
        refine vwp_seq_region rfl fun K hK => ?_
        simp (dsimp := false) only [push_cast, hP, hnt, hgw, hgb, Nat.reduceLT, Nat.reduceEqDiff, Nat.reduceAdd, Nat.reduceSub, Nat.reduceMul, Nat.reduceLeDiff, ↓reduceIte, reduceCtorEq, Int.toNat_natCast, hm1, hm2, hm3, hrf, hi0, hend]
        refine .inl (callE_intro (joinP_call gw gb l (by simpa using hb0)) (.inl ⟨rfl, rfl⟩) ?_)
        simp (dsimp := false) only [push_cast, hP, hnt, hgw, hgb, Nat.reduceLT, Nat.reduceEqDiff, Nat.reduceAdd, Nat.reduceSub, Nat.reduceMul, Nat.reduceLeDiff, ↓reduceIte, reduceCtorEq, Int.toNat_natCast, hm1, hm2, hm3, hrf, hi0, hend]
        refine hK _ ?_; clear hK
        refine vwp_ret ?_
        refine ret_free (by simp (dsimp := false) only [push_cast, hP, hnt, hgw, hgb, Nat.reduceLT, Nat.reduceEqDiff, Nat.reduceAdd, Nat.reduceSub, Nat.reduceMul, Nat.reduceLeDiff, ↓reduceIte, reduceCtorEq, Int.toNat_natCast, hm1, hm2, hm3, hrf, hi0, hend]; rfl) (by simp (dsimp := false) only [push_cast, hP, hnt, hgw, hgb, Nat.reduceLT, Nat.reduceEqDiff, Nat.reduceAdd, Nat.reduceSub, Nat.reduceMul, Nat.reduceLeDiff, ↓reduceIte, reduceCtorEq, Int.toNat_natCast, hm1, hm2, hm3, hrf, hi0, hend]) ?_
        rw [passesF_ok (by simpa using hb0)]; rfl
end Go.Vm
end

section
namespace Go.Vm
open Go Go.RowKit Go.Proofs
set_option maxRecDepth 100000
set_option linter.unusedSimpArgs false
set_option linter.unusedVariables false
set_option maxHeartbeats 4000000

def writtenP (p : ByteArray × Int) : ByteArray := writtenF p.1 p.2
def lstF (l : List (ByteArray × Int)) : ByteArray := joinS commaB (l.map writtenP)
def passesR (l : List (ByteArray × Int)) : ByteArray × Int := if checksR l ≠ 0 then (⟨#[]⟩, checksR l) else (lstF l, 0)
structure Neat (l : List (ByteArray × Int)) : Prop where
  few : l.length ≤ 10
  each : ∀ p ∈ l, p.1.size ≤ 9
end Go.Vm
end

section
namespace Go.Vm
open Go Go.RowKit Go.Proofs
set_option maxRecDepth 100000
set_option linter.unusedSimpArgs false
set_option linter.unusedVariables false
set_option maxHeartbeats 4000000

structure Eng where
  pdr : Bool
  num : Int
  bud : Int
def Eng.pcs (x : Eng) : List PC := [.c (.bool x.pdr), .c (.int .i64 x.num), .c (.int .i64 x.bud)]
attribute [push_cast] Eng.pcs
def engP (x : Eng) : Prop := 0 ≤ x.bud ∧ x.bud ≤ 100000 ∧ ((x.pdr = true ∧ 1 ≤ x.num ∧ x.num ≤ 60) ∨ (x.pdr = false ∧ 0 ≤ x.num ∧ x.num ≤ 99))
instance (x : Eng) : Decidable (engP x) := by unfold engP; exact inferInstance
def engE (x : Eng) : Int := if engP x then 0 else 2
theorem engE_ok {x : Eng} (h : engP x) : engE x = 0 := if_pos h
theorem engE_bad {x : Eng} (h : ¬ engP x) : engE x = 2 := if_neg h
theorem engE_zero {x : Eng} (h : engE x = 0) : engP x := by
  unfold engE at h
  split at h
  · assumption
  · cases h
def bmcB : ByteArray := ⟨#[98, 109, 99]⟩
def pdrB : ByteArray := ⟨#[112, 100, 114]⟩
def engW (x : Eng) : ByteArray := if x.pdr = true then pdrB else bmcB
def engT (x : Eng) : ByteArray := engW x ++ spB ++ itoaB x.num ++ spB ++ itoaB x.bud
def engineF (x : Eng) : ByteArray × Int := if engE x ≠ 0 then (⟨#[]⟩, engE x) else (engT x, 0)
theorem itoaB_big {n : Int} (h0 : 0 ≤ n) (h1 : n ≤ 1000000) : (itoaB n).size ≤ 21 := by
  unfold itoaB; rw [bOf_size]; exact Lib.itoa_length_le n (by omega) (by omega)
theorem engine_call (gw : World) (gb : Nat) (x : Eng) : VCall Tryz.prog gw (gb) 34 [.agg (x.pcs)] (.one (.c (.int .i64 (engE x)))) [] := by
  refine vcall_of [.tmp 2] Tryz.func34 rfl rfl Tryz.ntmps34 rfl (by simp) ?_
  intro C hP hnt hgw hgb hfull
  refine vwp_seq_region rfl fun K hK => ?_
  simp (dsimp := false) only [push_cast, hP, hnt, hgw, hgb, sevalprocAttr]
  refine hK _ ?_; clear hK
  refine vwp_seq_region rfl fun K hK => ?_
  simp (dsimp := false) only [push_cast, hP, hnt, hgw, hgb, sevalprocAttr]
  refine hK _ ?_; clear hK
  refine vwp_seq fun K hK => ?_
  refine vwp_seq_region rfl fun K hK => ?_
  simp (dsimp := false) only [push_cast, hP, hnt, hgw, hgb, sevalprocAttr]
  refine hK _ ?_; clear hK
  refine vwp_cond (b := _) (by simp (dsimp := false) only [push_cast, hP, hnt, hgw, hgb, sevalprocAttr]; rfl) (fun rb0 => ?_) (fun rb0 => ?_)
  · have hb0 := rb0
    try simp only [beq_iff_eq, bne_iff_ne, ne_eq, bne_eq_false_iff_eq, beq_eq_false_iff_ne, decide_eq_true_eq, decide_eq_false_iff_not, Bool.not_eq_true', Bool.not_eq_false', Bool.or_eq_true, Bool.and_eq_true, Bool.or_eq_false_iff, Bool.and_eq_false_iff] at hb0
    refine vwp_region rfl ?_
    simp (dsimp := false) only [push_cast, hP, hnt, hgw, hgb, sevalprocAttr]
    apply_assumption
    refine vwp_seq fun K hK => ?_
    refine vwp_seq_regionG fun K hK => ?_
    simp (dsimp := false) only [push_cast, hP, hnt, hgw, hgb, sevalprocAttr]
    refine guardR_may (by simp (dsimp := false) only [push_cast, hP, hnt, hgw, hgb, sevalprocAttr, List.getElem?_cons_zero, List.getElem?_cons_succ]; rfl) ?_
    simp (dsimp := false) only [push_cast, hP, hnt, hgw, hgb, sevalprocAttr]
    refine guardR_may (by simp (dsimp := false) only [push_cast, hP, hnt, hgw, hgb, sevalprocAttr, List.getElem?_cons_zero, List.getElem?_cons_succ]; rfl) ?_
    simp (dsimp := false) only [push_cast, hP, hnt, hgw, hgb, sevalprocAttr]
    refine guardR_may (by simp (dsimp := false) only [push_cast, hP, hnt, hgw, hgb, sevalprocAttr, List.getElem?_cons_zero, List.getElem?_cons_succ]; rfl) ?_
    simp (dsimp := false) only [push_cast, hP, hnt, hgw, hgb, sevalprocAttr]
    refine guardR_may (by simp (dsimp := false) only [push_cast, hP, hnt, hgw, hgb, sevalprocAttr, List.getElem?_cons_zero, List.getElem?_cons_succ]; rfl) ?_
    simp (dsimp := false) only [push_cast, hP, hnt, hgw, hgb, sevalprocAttr]
    refine guardR_may (by simp (dsimp := false) only [push_cast, hP, hnt, hgw, hgb, sevalprocAttr, List.getElem?_cons_zero, List.getElem?_cons_succ]; rfl) ?_
    simp (dsimp := false) only [push_cast, hP, hnt, hgw, hgb, sevalprocAttr]
    refine guardR_may (by simp (dsimp := false) only [push_cast, hP, hnt, hgw, hgb, sevalprocAttr, List.getElem?_cons_zero, List.getElem?_cons_succ]; rfl) ?_
    simp (dsimp := false) only [push_cast, hP, hnt, hgw, hgb, sevalprocAttr]
    refine guardR_may (by simp (dsimp := false) only [push_cast, hP, hnt, hgw, hgb, sevalprocAttr, List.getElem?_cons_zero, List.getElem?_cons_succ]; rfl) ?_
    simp (dsimp := false) only [push_cast, hP, hnt, hgw, hgb, sevalprocAttr]
    refine guardR_may (by simp (dsimp := false) only [push_cast, hP, hnt, hgw, hgb, sevalprocAttr, List.getElem?_cons_zero, List.getElem?_cons_succ]; rfl) ?_
    simp (dsimp := false) only [push_cast, hP, hnt, hgw, hgb, sevalprocAttr]
    refine guardR_may (by simp (dsimp := false) only [push_cast, hP, hnt, hgw, hgb, sevalprocAttr, List.getElem?_cons_zero, List.getElem?_cons_succ]; rfl) ?_
    simp (dsimp := false) only [push_cast, hP, hnt, hgw, hgb, sevalprocAttr]
    refine guardR_may (by simp (dsimp := false) only [push_cast, hP, hnt, hgw, hgb, sevalprocAttr, List.getElem?_cons_zero, List.getElem?_cons_succ]; rfl) ?_
    simp (dsimp := false) only [push_cast, hP, hnt, hgw, hgb, sevalprocAttr]
    refine guardR_may (by simp (dsimp := false) only [push_cast, hP, hnt, hgw, hgb, sevalprocAttr, List.getElem?_cons_zero, List.getElem?_cons_succ]; rfl) ?_
    simp (dsimp := false) only [push_cast, hP, hnt, hgw, hgb, sevalprocAttr]
    refine hK _ ?_; clear hK
    refine vwp_cond (b := _) (by simp (dsimp := false) only [push_cast, hP, hnt, hgw, hgb, sevalprocAttr]; rfl) (fun rb1 => ?_) (fun rb1 => ?_)
    · have hb1 := rb1
      try simp only [beq_iff_eq, bne_iff_ne, ne_eq, bne_eq_false_iff_eq, beq_eq_false_iff_ne, decide_eq_true_eq, decide_eq_false_iff_not, Bool.not_eq_true', Bool.not_eq_false', Bool.or_eq_true, Bool.and_eq_true, Bool.or_eq_false_iff, Bool.and_eq_false_iff] at hb1
      refine vwp_seq_region rfl fun K hK => ?_
      simp (dsimp := false) only [push_cast, hP, hnt, hgw, hgb, sevalprocAttr]
      refine hK _ ?_; clear hK
      refine vwp_ret ?_
      refine ret_free (by simp (dsimp := false) only [push_cast, hP, hnt, hgw, hgb, sevalprocAttr]; rfl) (by simp (dsimp := false) only [push_cast, hP, hnt, hgw, hgb, sevalprocAttr]) ?_
      rw [engE_bad (by rintro ⟨h1, h2, h3⟩; rcases h3 with ⟨h3, h4⟩ | ⟨h3, h4⟩ <;> first | (simp_all; done) | (simp_all; omega))]; rfl
    · have hb1 := rb1
      try simp only [beq_iff_eq, bne_iff_ne, ne_eq, bne_eq_false_iff_eq, beq_eq_false_iff_ne, decide_eq_true_eq, decide_eq_false_iff_not, Bool.not_eq_true', Bool.not_eq_false', Bool.or_eq_true, Bool.and_eq_true, Bool.or_eq_false_iff, Bool.and_eq_false_iff] at hb1
      refine vwp_skip ?_
      apply_assumption
      refine vwp_seq_region rfl fun K hK => ?_
      simp (dsimp := false) only [push_cast, hP, hnt, hgw, hgb, sevalprocAttr]
      refine hK _ ?_; clear hK
      refine vwp_ret ?_
      refine ret_free (by simp (dsimp := false) only [push_cast, hP, hnt, hgw, hgb, sevalprocAttr]; rfl) (by simp (dsimp := false) only [push_cast, hP, hnt, hgw, hgb, sevalprocAttr]) ?_
      rw [engE_ok ⟨by first | omega | (simp_all; done) | (simp_all; omega), by first | omega | (simp_all; done) | (simp_all; omega), by first | (left; refine ⟨by assumption, ?_⟩; first | omega | (simp_all; done) | (simp_all; omega)) | (right; refine ⟨by assumption, ?_⟩; first | omega | (simp_all; done) | (simp_all; omega))⟩]; rfl
  · have hb0 := rb0
    try simp only [beq_iff_eq, bne_iff_ne, ne_eq, bne_eq_false_iff_eq, beq_eq_false_iff_ne, decide_eq_true_eq, decide_eq_false_iff_not, Bool.not_eq_true', Bool.not_eq_false', Bool.or_eq_true, Bool.and_eq_true, Bool.or_eq_false_iff, Bool.and_eq_false_iff] at hb0
    refine vwp_skip ?_
    apply_assumption
    refine vwp_seq fun K hK => ?_
    refine vwp_seq_regionG fun K hK => ?_
    simp (dsimp := false) only [push_cast, hP, hnt, hgw, hgb, sevalprocAttr]
    refine guardR_may (by simp (dsimp := false) only [push_cast, hP, hnt, hgw, hgb, sevalprocAttr, List.getElem?_cons_zero, List.getElem?_cons_succ]; rfl) ?_
    simp (dsimp := false) only [push_cast, hP, hnt, hgw, hgb, sevalprocAttr]
    refine guardR_may (by simp (dsimp := false) only [push_cast, hP, hnt, hgw, hgb, sevalprocAttr, List.getElem?_cons_zero, List.getElem?_cons_succ]; rfl) ?_
    simp (dsimp := false) only [push_cast, hP, hnt, hgw, hgb, sevalprocAttr]
    refine guardR_may (by simp (dsimp := false) only [push_cast, hP, hnt, hgw, hgb, sevalprocAttr, List.getElem?_cons_zero, List.getElem?_cons_succ]; rfl) ?_
    simp (dsimp := false) only [push_cast, hP, hnt, hgw, hgb, sevalprocAttr]
    refine guardR_may (by simp (dsimp := false) only [push_cast, hP, hnt, hgw, hgb, sevalprocAttr, List.getElem?_cons_zero, List.getElem?_cons_succ]; rfl) ?_
    simp (dsimp := false) only [push_cast, hP, hnt, hgw, hgb, sevalprocAttr]
    refine guardR_may (by simp (dsimp := false) only [push_cast, hP, hnt, hgw, hgb, sevalprocAttr, List.getElem?_cons_zero, List.getElem?_cons_succ]; rfl) ?_
    simp (dsimp := false) only [push_cast, hP, hnt, hgw, hgb, sevalprocAttr]
    refine guardR_may (by simp (dsimp := false) only [push_cast, hP, hnt, hgw, hgb, sevalprocAttr, List.getElem?_cons_zero, List.getElem?_cons_succ]; rfl) ?_
    simp (dsimp := false) only [push_cast, hP, hnt, hgw, hgb, sevalprocAttr]
    refine guardR_may (by simp (dsimp := false) only [push_cast, hP, hnt, hgw, hgb, sevalprocAttr, List.getElem?_cons_zero, List.getElem?_cons_succ]; rfl) ?_
    simp (dsimp := false) only [push_cast, hP, hnt, hgw, hgb, sevalprocAttr]
    refine guardR_may (by simp (dsimp := false) only [push_cast, hP, hnt, hgw, hgb, sevalprocAttr, List.getElem?_cons_zero, List.getElem?_cons_succ]; rfl) ?_
    simp (dsimp := false) only [push_cast, hP, hnt, hgw, hgb, sevalprocAttr]
    refine guardR_may (by simp (dsimp := false) only [push_cast, hP, hnt, hgw, hgb, sevalprocAttr, List.getElem?_cons_zero, List.getElem?_cons_succ]; rfl) ?_
    simp (dsimp := false) only [push_cast, hP, hnt, hgw, hgb, sevalprocAttr]
    refine guardR_may (by simp (dsimp := false) only [push_cast, hP, hnt, hgw, hgb, sevalprocAttr, List.getElem?_cons_zero, List.getElem?_cons_succ]; rfl) ?_
    simp (dsimp := false) only [push_cast, hP, hnt, hgw, hgb, sevalprocAttr]
    refine guardR_may (by simp (dsimp := false) only [push_cast, hP, hnt, hgw, hgb, sevalprocAttr, List.getElem?_cons_zero, List.getElem?_cons_succ]; rfl) ?_
    simp (dsimp := false) only [push_cast, hP, hnt, hgw, hgb, sevalprocAttr]
    refine hK _ ?_; clear hK
    refine vwp_cond (b := _) (by simp (dsimp := false) only [push_cast, hP, hnt, hgw, hgb, sevalprocAttr]; rfl) (fun rb2 => ?_) (fun rb2 => ?_)
    · have hb2 := rb2
      try simp only [beq_iff_eq, bne_iff_ne, ne_eq, bne_eq_false_iff_eq, beq_eq_false_iff_ne, decide_eq_true_eq, decide_eq_false_iff_not, Bool.not_eq_true', Bool.not_eq_false', Bool.or_eq_true, Bool.and_eq_true, Bool.or_eq_false_iff, Bool.and_eq_false_iff] at hb2
      refine vwp_seq_region rfl fun K hK => ?_
      simp (dsimp := false) only [push_cast, hP, hnt, hgw, hgb, sevalprocAttr]
      refine hK _ ?_; clear hK
      refine vwp_ret ?_
      refine ret_free (by simp (dsimp := false) only [push_cast, hP, hnt, hgw, hgb, sevalprocAttr]; rfl) (by simp (dsimp := false) only [push_cast, hP, hnt, hgw, hgb, sevalprocAttr]) ?_
      rw [engE_bad (by rintro ⟨h1, h2, h3⟩; rcases h3 with ⟨h3, h4⟩ | ⟨h3, h4⟩ <;> first | (simp_all; done) | (simp_all; omega))]; rfl
    · have hb2 := rb2
      try simp only [beq_iff_eq, bne_iff_ne, ne_eq, bne_eq_false_iff_eq, beq_eq_false_iff_ne, decide_eq_true_eq, decide_eq_false_iff_not, Bool.not_eq_true', Bool.not_eq_false', Bool.or_eq_true, Bool.and_eq_true, Bool.or_eq_false_iff, Bool.and_eq_false_iff] at hb2
      refine vwp_skip ?_
      apply_assumption
      refine vwp_seq_region rfl fun K hK => ?_
      simp (dsimp := false) only [push_cast, hP, hnt, hgw, hgb, sevalprocAttr]
      refine hK _ ?_; clear hK
      refine vwp_ret ?_
      refine ret_free (by simp (dsimp := false) only [push_cast, hP, hnt, hgw, hgb, sevalprocAttr]; rfl) (by simp (dsimp := false) only [push_cast, hP, hnt, hgw, hgb, sevalprocAttr]) ?_
      rw [engE_ok ⟨by first | omega | (simp_all; done) | (simp_all; omega), by first | omega | (simp_all; done) | (simp_all; omega), by first | (left; refine ⟨by assumption, ?_⟩; first | omega | (simp_all; done) | (simp_all; omega)) | (right; refine ⟨by assumption, ?_⟩; first | omega | (simp_all; done) | (simp_all; omega))⟩]; rfl
end Go.Vm
end

section
namespace Go.Vm
open Go Go.RowKit Go.Proofs
set_option maxRecDepth 100000
set_option linter.unusedSimpArgs false
set_option linter.unusedVariables false
set_option maxHeartbeats 4000000
def engS (x : Eng) : ByteArray := (if x.pdr = true then ⟨#[112, 100, 114, 32]⟩ else ⟨#[98, 109, 99, 32]⟩) ++ digB x.num ++ spB ++ digB x.bud
theorem engS_eq {x : Eng} (h : engP x) : engS x = engT x := by
  have hb := h.1
  have hn : 0 ≤ x.num := by rcases h.2.2 with ⟨_, h⟩ | ⟨_, h⟩ <;> omega
  unfold engS engT engW
  rw [digB_eq hb, digB_eq hn]
  cases x.pdr <;> rfl
theorem eng_num {x : Eng} (h : engP x) : 0 ≤ x.num ∧ x.num ≤ 100 := by rcases h.2.2 with ⟨_, h⟩ | ⟨_, h⟩ <;> omega
theorem engineF_bad {x : Eng} (h : ¬ engE x = 0) : engineF x = (⟨#[]⟩, engE x) := if_pos h
theorem engineF_ok {x : Eng} (h : engE x = 0) : engineF x = (engT x, 0) := if_neg (by simpa using h)
theorem engineText_call (gw : World) (hg : Glob gw) (x : Eng) : VCall Tryz.prog gw (gw.heap.size) 13 [.agg (x.pcs)] (.tup [.one (.c (.string (engineF x).1)), .one (.c (.int .i64 (engineF x).2))]) [] := by
  refine vcall_of [.tmp 2, .tmp 3] Tryz.func13 rfl rfl Tryz.ntmps13 rfl (by simp) ?_
  intro C hP hnt hgw hgb hfull
  refine vwp_seq_region rfl fun K hK => ?_
  simp (dsimp := false) only [push_cast, hP, hnt, hgw, hgb, sevalprocAttr]
  refine hK _ ?_; clear hK
  refine vwp_seq fun K hK => ?_
  refine vwp_seq_region rfl fun K hK => ?_
  simp (dsimp := false) only [push_cast, hP, hnt, hgw, hgb, sevalprocAttr]
  refine .inl (callE_intro (engine_call gw gw.heap.size x) (.inl ⟨rfl, rfl⟩) ?_)
  simp (dsimp := false) only [push_cast, hP, hnt, hgw, hgb, sevalprocAttr]
  refine hK _ ?_; clear hK
  refine vwp_seq_region rfl fun K hK => ?_
  simp (dsimp := false) only [push_cast, hP, hnt, hgw, hgb, sevalprocAttr]
  refine hK _ ?_; clear hK
  refine vwp_cond (b := _) (by simp (dsimp := false) only [push_cast, hP, hnt, hgw, hgb, sevalprocAttr]; rfl) (fun rb0 => ?_) (fun rb0 => ?_)
  · have hb0 := rb0
    try simp only [beq_iff_eq, bne_iff_ne, ne_eq, bne_eq_false_iff_eq, beq_eq_false_iff_ne, decide_eq_true_eq, decide_eq_false_iff_not, Bool.not_eq_true', Bool.not_eq_false', Bool.or_eq_true, Bool.and_eq_true, Bool.or_eq_false_iff, Bool.and_eq_false_iff] at hb0
    refine vwp_seq_region rfl fun K hK => ?_
    simp (dsimp := false) only [push_cast, hP, hnt, hgw, hgb, sevalprocAttr]
    refine hK _ ?_; clear hK
    refine vwp_ret ?_
    refine ret_free (by simp (dsimp := false) only [push_cast, hP, hnt, hgw, hgb, sevalprocAttr]; rfl) (by simp (dsimp := false) only [push_cast, hP, hnt, hgw, hgb, sevalprocAttr]) ?_
    rw [engineF_bad (by simpa using hb0)]; rfl
  · have hb0 := rb0
    try simp only [beq_iff_eq, bne_iff_ne, ne_eq, bne_eq_false_iff_eq, beq_eq_false_iff_ne, decide_eq_true_eq, decide_eq_false_iff_not, Bool.not_eq_true', Bool.not_eq_false', Bool.or_eq_true, Bool.and_eq_true, Bool.or_eq_false_iff, Bool.and_eq_false_iff] at hb0
    refine vwp_skip ?_
    apply_assumption
    refine vwp_seq_region rfl fun K hK => ?_
    simp (dsimp := false) only [push_cast, hP, hnt, hgw, hgb, sevalprocAttr]
    refine hK _ ?_; clear hK
    refine vwp_seq fun K hK => ?_
    refine vwp_seq_region rfl fun K hK => ?_
    simp (dsimp := false) only [push_cast, hP, hnt, hgw, hgb, sevalprocAttr]
    refine hK _ ?_; clear hK
    refine vwp_cond (b := _) (by simp (dsimp := false) only [push_cast, hP, hnt, hgw, hgb, sevalprocAttr]; rfl) (fun rb1 => ?_) (fun rb1 => ?_)
    · have hb1 := rb1
      try simp only [beq_iff_eq, bne_iff_ne, ne_eq, bne_eq_false_iff_eq, beq_eq_false_iff_ne, decide_eq_true_eq, decide_eq_false_iff_not, Bool.not_eq_true', Bool.not_eq_false', Bool.or_eq_true, Bool.and_eq_true, Bool.or_eq_false_iff, Bool.and_eq_false_iff] at hb1
      have hp := engE_zero (by simpa using hb0)
      have hn1 := itoaB_big (eng_num hp).1 (by have := (eng_num hp).2; omega)
      have hn2 := itoaB_big hp.1 (by have := hp.2.1; omega)
      have hc1 : (⟨#[112, 100, 114]⟩ : ByteArray).size = 3 := rfl
      have hc2 : (⟨#[32]⟩ : ByteArray).size = 1 := rfl
      have hs1 : (⟨#[112, 100, 114]⟩ : ByteArray).size + (⟨#[32]⟩ : ByteArray).size ≤ 9223372036854775807 := by omega
      have hs2 : ((⟨#[112, 100, 114]⟩ : ByteArray) ++ (⟨#[32]⟩ : ByteArray)).size + (itoaB x.num).size ≤ 9223372036854775807 := by rw [ByteArray.size_append]; omega
      have hs3 : ((⟨#[112, 100, 114]⟩ : ByteArray) ++ (⟨#[32]⟩ : ByteArray) ++ itoaB x.num).size + (⟨#[32]⟩ : ByteArray).size ≤ 9223372036854775807 := by rw [ByteArray.size_append, ByteArray.size_append]; omega
      have hs4 : ((⟨#[112, 100, 114]⟩ : ByteArray) ++ (⟨#[32]⟩ : ByteArray) ++ itoaB x.num ++ (⟨#[32]⟩ : ByteArray)).size + (itoaB x.bud).size ≤ 9223372036854775807 := by rw [ByteArray.size_append, ByteArray.size_append, ByteArray.size_append]; omega
      refine vwp_region rfl ?_
      simp (dsimp := false) only [push_cast, hP, hnt, hgw, hgb, sevalprocAttr, hs1, hs2, hs3, hs4]
      apply_assumption
      refine vwp_seq_anyF [[], [0], [], [2], [2, 3], [0, 1, 2, 3, 4], [0, 1, 2, 3, 4, 5], [], [7], [2, 3, 4, 7, 8], [0, 1, 2, 3, 4, 5, 6, 7, 8, 9], [0, 1, 2, 3, 4, 5, 6, 7, 8, 9, 10], [0, 1, 2, 3, 4, 5, 6, 7, 8, 9, 10, 11]] [([(13, .dead), (14, .old), (15, .dead), (16, .dead), (17, .dead), (18, .old), (19, .old), (20, .dead), (21, .dead), (22, .dead), (23, .old), (2, .old), (3, .old)], [14, 15, 16, 17, 18, 19, 20, 21, 22, 23, 2, 3], []), ([(13, .dep 0), (14, .dead), (15, .dead), (16, .dead), (17, .dead), (18, .old), (19, .old), (20, .dead), (21, .dead), (22, .dead), (23, .old), (2, .old), (3, .old)], [15, 16, 17, 18, 19, 20, 21, 22, 23, 2, 3], [0]), ([(13, .dead), (14, .dead), (15, .dead), (16, .old), (17, .old), (18, .old), (19, .old), (20, .dead), (21, .dead), (22, .old), (23, .old), (2, .old), (3, .old)], [13, 14, 16, 17, 18, 19, 20, 21, 22, 23, 2, 3], []), ([(13, .dead), (14, .dead), (15, .dep 0), (16, .dead), (17, .old), (18, .old), (19, .old), (20, .dead), (21, .dead), (22, .old), (23, .old), (2, .old), (3, .old)], [13, 14, 17, 18, 19, 20, 21, 22, 23, 2, 3], [0]), ([(13, .dead), (14, .dead), (15, .dep 1), (16, .dep 0), (17, .dead), (18, .old), (19, .old), (20, .dead), (21, .dead), (22, .old), (23, .old), (2, .old), (3, .old)], [13, 14, 18, 19, 20, 21, 22, 23, 2, 3], [1, 0]), ([(13, .dep 4), (14, .dep 3), (15, .dep 2), (16, .dep 1), (17, .dep 0), (18, .dead), (19, .old), (20, .dead), (21, .dead), (22, .dead), (23, .old), (2, .old), (3, .old)], [19, 20, 21, 22, 23, 2, 3], [4, 3, 2, 1, 0]), ([(13, .dep 5), (14, .dep 4), (15, .dep 3), (16, .dep 2), (17, .dep 1), (18, .dep 0), (19, .dead), (20, .dead), (21, .dead), (22, .dead), (23, .old), (2, .old), (3, .old)], [20, 21, 22, 23, 2, 3], [5, 4, 3, 2, 1, 0]), ([(13, .dead), (14, .dead), (15, .dead), (16, .dead), (17, .dead), (18, .dead), (19, .dead), (20, .dead), (21, .old), (22, .old), (23, .old), (2, .old), (3, .old)], [13, 14, 15, 16, 17, 18, 19, 21, 22, 23, 2, 3], []), ([(13, .dead), (14, .dead), (15, .dead), (16, .dead), (17, .dead), (18, .dead), (19, .dead), (20, .dep 0), (21, .dead), (22, .old), (23, .old), (2, .old), (3, .old)], [13, 14, 15, 16, 17, 18, 19, 22, 23, 2, 3], [0]), ([(13, .dead), (14, .dead), (15, .dep 6), (16, .dep 5), (17, .dep 4), (18, .dead), (19, .dead), (20, .dep 1), (21, .dep 0), (22, .dead), (23, .old), (2, .old), (3, .old)], [13, 14, 18, 19, 23, 2, 3], [6, 5, 4, 1, 0]), ([(13, .dep 9), (14, .dep 8), (15, .dep 7), (16, .dep 6), (17, .dep 5), (18, .dep 4), (19, .dep 3), (20, .dep 2), (21, .dep 1), (22, .dep 0), (23, .dead), (2, .old), (3, .old)], [2, 3], [9, 8, 7, 6, 5, 4, 3, 2, 1, 0]), ([(13, .dep 10), (14, .dep 9), (15, .dep 8), (16, .dep 7), (17, .dep 6), (18, .dep 5), (19, .dep 4), (20, .dep 3), (21, .dep 2), (22, .dep 1), (23, .dep 0), (2, .dead), (3, .old)], [3], [10, 9, 8, 7, 6, 5, 4, 3, 2, 1, 0]), ([(13, .dep 11), (14, .dep 10), (15, .dep 9), (16, .dep 8), (17, .dep 7), (18, .dep 6), (19, .dep 5), (20, .dep 4), (21, .dep 3), (22, .dep 2), (23, .dep 1), (2, .dep 0), (3, .dead)], [], [11, 10, 9, 8, 7, 6, 5, 4, 3, 2, 1, 0])] (by rw [hP]; exact mixed) rfl rfl rfl fun K hK => ?_
      simp (dsimp := false) only [push_cast, hP, hnt, hgw, hgb, sevalprocAttr, hs1, hs2, hs3, hs4, Nat.reduceBNe, Nat.reduceBEq]
      refine .inl (callE_intro (itoaG_call gw hg _ (by have := eng_num hp; omega) (by have := eng_num hp; omega)) (.inl ⟨rfl, rfl⟩) ?_)
      simp (dsimp := false) only [push_cast, hP, hnt, hgw, hgb, sevalprocAttr, hs1, hs2, hs3, hs4, Nat.reduceBNe, Nat.reduceBEq]
      refine .inl (callE_intro (itoaG_call gw hg _ (by have := hp.1; omega) (by have := hp.2.1; omega)) (.inl ⟨rfl, rfl⟩) ?_)
      simp (dsimp := false) only [push_cast, hP, hnt, hgw, hgb, sevalprocAttr, hs1, hs2, hs3, hs4, Nat.reduceBNe, Nat.reduceBEq]
      refine ⟨rfl, ?_⟩
      refine hK _ ?_; clear hK
      refine vwp_ret ?_
      refine ret_free (by simp (dsimp := false) only [push_cast, hP, hnt, hgw, hgb, sevalprocAttr, hs1, hs2, hs3, hs4]; rfl) (by simp (dsimp := false) only [push_cast, hP, hnt, hgw, hgb, sevalprocAttr, hs1, hs2, hs3, hs4]) ?_
      rw [engineF_ok (by simpa using hb0), engT, engW, if_pos hb1]; rfl
    · have hb1 := rb1
      try simp only [beq_iff_eq, bne_iff_ne, ne_eq, bne_eq_false_iff_eq, beq_eq_false_iff_ne, decide_eq_true_eq, decide_eq_false_iff_not, Bool.not_eq_true', Bool.not_eq_false', Bool.or_eq_true, Bool.and_eq_true, Bool.or_eq_false_iff, Bool.and_eq_false_iff] at hb1
      have hp := engE_zero (by simpa using hb0)
      have hn1 := itoaB_big (eng_num hp).1 (by have := (eng_num hp).2; omega)
      have hn2 := itoaB_big hp.1 (by have := hp.2.1; omega)
      have hc1 : (⟨#[98, 109, 99]⟩ : ByteArray).size = 3 := rfl
      have hc2 : (⟨#[32]⟩ : ByteArray).size = 1 := rfl
      have hs1 : (⟨#[98, 109, 99]⟩ : ByteArray).size + (⟨#[32]⟩ : ByteArray).size ≤ 9223372036854775807 := by omega
      have hs2 : ((⟨#[98, 109, 99]⟩ : ByteArray) ++ (⟨#[32]⟩ : ByteArray)).size + (itoaB x.num).size ≤ 9223372036854775807 := by rw [ByteArray.size_append]; omega
      have hs3 : ((⟨#[98, 109, 99]⟩ : ByteArray) ++ (⟨#[32]⟩ : ByteArray) ++ itoaB x.num).size + (⟨#[32]⟩ : ByteArray).size ≤ 9223372036854775807 := by rw [ByteArray.size_append, ByteArray.size_append]; omega
      have hs4 : ((⟨#[98, 109, 99]⟩ : ByteArray) ++ (⟨#[32]⟩ : ByteArray) ++ itoaB x.num ++ (⟨#[32]⟩ : ByteArray)).size + (itoaB x.bud).size ≤ 9223372036854775807 := by rw [ByteArray.size_append, ByteArray.size_append, ByteArray.size_append]; omega
      refine vwp_skip ?_
      apply_assumption
      refine vwp_seq_anyF [[], [0], [], [2], [2, 3], [0, 1, 2, 3, 4], [0, 1, 2, 3, 4, 5], [], [7], [2, 3, 4, 7, 8], [0, 1, 2, 3, 4, 5, 6, 7, 8, 9], [0, 1, 2, 3, 4, 5, 6, 7, 8, 9, 10], [0, 1, 2, 3, 4, 5, 6, 7, 8, 9, 10, 11]] [([(13, .dead), (14, .old), (15, .dead), (16, .dead), (17, .dead), (18, .old), (19, .old), (20, .dead), (21, .dead), (22, .dead), (23, .old), (2, .old), (3, .old)], [14, 15, 16, 17, 18, 19, 20, 21, 22, 23, 2, 3], []), ([(13, .dep 0), (14, .dead), (15, .dead), (16, .dead), (17, .dead), (18, .old), (19, .old), (20, .dead), (21, .dead), (22, .dead), (23, .old), (2, .old), (3, .old)], [15, 16, 17, 18, 19, 20, 21, 22, 23, 2, 3], [0]), ([(13, .dead), (14, .dead), (15, .dead), (16, .old), (17, .old), (18, .old), (19, .old), (20, .dead), (21, .dead), (22, .old), (23, .old), (2, .old), (3, .old)], [13, 14, 16, 17, 18, 19, 20, 21, 22, 23, 2, 3], []), ([(13, .dead), (14, .dead), (15, .dep 0), (16, .dead), (17, .old), (18, .old), (19, .old), (20, .dead), (21, .dead), (22, .old), (23, .old), (2, .old), (3, .old)], [13, 14, 17, 18, 19, 20, 21, 22, 23, 2, 3], [0]), ([(13, .dead), (14, .dead), (15, .dep 1), (16, .dep 0), (17, .dead), (18, .old), (19, .old), (20, .dead), (21, .dead), (22, .old), (23, .old), (2, .old), (3, .old)], [13, 14, 18, 19, 20, 21, 22, 23, 2, 3], [1, 0]), ([(13, .dep 4), (14, .dep 3), (15, .dep 2), (16, .dep 1), (17, .dep 0), (18, .dead), (19, .old), (20, .dead), (21, .dead), (22, .dead), (23, .old), (2, .old), (3, .old)], [19, 20, 21, 22, 23, 2, 3], [4, 3, 2, 1, 0]), ([(13, .dep 5), (14, .dep 4), (15, .dep 3), (16, .dep 2), (17, .dep 1), (18, .dep 0), (19, .dead), (20, .dead), (21, .dead), (22, .dead), (23, .old), (2, .old), (3, .old)], [20, 21, 22, 23, 2, 3], [5, 4, 3, 2, 1, 0]), ([(13, .dead), (14, .dead), (15, .dead), (16, .dead), (17, .dead), (18, .dead), (19, .dead), (20, .dead), (21, .old), (22, .old), (23, .old), (2, .old), (3, .old)], [13, 14, 15, 16, 17, 18, 19, 21, 22, 23, 2, 3], []), ([(13, .dead), (14, .dead), (15, .dead), (16, .dead), (17, .dead), (18, .dead), (19, .dead), (20, .dep 0), (21, .dead), (22, .old), (23, .old), (2, .old), (3, .old)], [13, 14, 15, 16, 17, 18, 19, 22, 23, 2, 3], [0]), ([(13, .dead), (14, .dead), (15, .dep 6), (16, .dep 5), (17, .dep 4), (18, .dead), (19, .dead), (20, .dep 1), (21, .dep 0), (22, .dead), (23, .old), (2, .old), (3, .old)], [13, 14, 18, 19, 23, 2, 3], [6, 5, 4, 1, 0]), ([(13, .dep 9), (14, .dep 8), (15, .dep 7), (16, .dep 6), (17, .dep 5), (18, .dep 4), (19, .dep 3), (20, .dep 2), (21, .dep 1), (22, .dep 0), (23, .dead), (2, .old), (3, .old)], [2, 3], [9, 8, 7, 6, 5, 4, 3, 2, 1, 0]), ([(13, .dep 10), (14, .dep 9), (15, .dep 8), (16, .dep 7), (17, .dep 6), (18, .dep 5), (19, .dep 4), (20, .dep 3), (21, .dep 2), (22, .dep 1), (23, .dep 0), (2, .dead), (3, .old)], [3], [10, 9, 8, 7, 6, 5, 4, 3, 2, 1, 0]), ([(13, .dep 11), (14, .dep 10), (15, .dep 9), (16, .dep 8), (17, .dep 7), (18, .dep 6), (19, .dep 5), (20, .dep 4), (21, .dep 3), (22, .dep 2), (23, .dep 1), (2, .dep 0), (3, .dead)], [], [11, 10, 9, 8, 7, 6, 5, 4, 3, 2, 1, 0])] (by rw [hP]; exact mixed) rfl rfl rfl fun K hK => ?_
      simp (dsimp := false) only [push_cast, hP, hnt, hgw, hgb, sevalprocAttr, hs1, hs2, hs3, hs4, Nat.reduceBNe, Nat.reduceBEq]
      refine .inl (callE_intro (itoaG_call gw hg _ (by have := eng_num hp; omega) (by have := eng_num hp; omega)) (.inl ⟨rfl, rfl⟩) ?_)
      simp (dsimp := false) only [push_cast, hP, hnt, hgw, hgb, sevalprocAttr, hs1, hs2, hs3, hs4, Nat.reduceBNe, Nat.reduceBEq]
      refine .inl (callE_intro (itoaG_call gw hg _ (by have := hp.1; omega) (by have := hp.2.1; omega)) (.inl ⟨rfl, rfl⟩) ?_)
      simp (dsimp := false) only [push_cast, hP, hnt, hgw, hgb, sevalprocAttr, hs1, hs2, hs3, hs4, Nat.reduceBNe, Nat.reduceBEq]
      refine ⟨rfl, ?_⟩
      refine hK _ ?_; clear hK
      refine vwp_ret ?_
      refine ret_free (by simp (dsimp := false) only [push_cast, hP, hnt, hgw, hgb, sevalprocAttr, hs1, hs2, hs3, hs4]; rfl) (by simp (dsimp := false) only [push_cast, hP, hnt, hgw, hgb, sevalprocAttr, hs1, hs2, hs3, hs4]) ?_
      rw [engineF_ok (by simpa using hb0), engT, engW, if_neg (by simp [hb1])]; rfl
end Go.Vm
end
