/-
  Walks of the program's functions by the framework, and what they compute (PtF). Conditions: each theorem's own premises. By an AI agent.
-/
import Derived.Test.YtnpbndglolcilaaDoorPtE
section
namespace Go.Vm
open Go Go.RowKit Go.Proofs
set_option maxRecDepth 100000
set_option linter.unusedSimpArgs false
set_option linter.unusedVariables false
set_option maxHeartbeats 4000000

def digB (n : Int) : ByteArray := bOf (Lib.decDigits n.toNat)
theorem digB_eq {n : Int} (h : 0 ≤ n) : itoaB n = digB n := by
  unfold itoaB digB
  obtain ⟨k, rfl⟩ := Int.eq_ofNat_of_zero_le h
  rw [Lib.itoa_nonneg]; rfl
theorem digB_small {n : Int} (h0 : 0 ≤ n) (h : n < 10) : digB n = ofBytes [IntKind.wrap .u8 (IntKind.wrap .i64 (48 + n % 10))] := by
  obtain ⟨k, rfl⟩ := Int.eq_ofNat_of_zero_le h0
  have hk : k < 10 := by omega
  unfold digB
  rw [Int.toNat_natCast, Lib.decDigits_one hk]
  clear h0 h
  revert hk; revert k; decide
theorem digB_big {n : Int} (h : 10 ≤ n) : digB n = digB (n / 10) ++ ofBytes [IntKind.wrap .u8 (IntKind.wrap .i64 (48 + n % 10))] := by
  obtain ⟨k, rfl⟩ := Int.eq_ofNat_of_zero_le (show 0 ≤ n by omega)
  have hk : ¬ k < 10 := by omega
  unfold digB
  have e1 : ((k : Int) / 10).toNat = k / 10 := by omega
  rw [Int.toNat_natCast, Lib.decDigits, dif_neg hk, e1, bOf_append]
  congr 1
  have h2 : k % 10 < 10 := Nat.mod_lt _ (by decide)
  have e2 : ((k : Int) % 10) = ((k % 10 : Nat) : Int) := by omega
  rw [e2]
  generalize k % 10 = m at h2
  revert h2; revert m; decide
theorem ofBytes_one (x : Int) : (ofBytes [x]).size = 1 := rfl
theorem digB_size {n : Int} (h1 : n ≤ 9223372036854775807) (h0 : 0 ≤ n) : (digB n).size ≤ 21 := by
  rw [← digB_eq h0]; unfold itoaB; rw [bOf_size]; exact Lib.itoa_length_le n (by omega) (by omega)
theorem digits_step (gw : World) (gb : Nat) (n : Int) (h0 : 0 ≤ n) (h1 : n ≤ 9223372036854775807) (ih : 10 ≤ n → VCall Tryd.prog gw gb 82 [.one (.c (.int .i64 (n / 10)))] (.one (.c (.string (digB (n / 10))))) []) : VCall Tryd.prog gw (gb) 82 [.one (.c (.int .i64 n))] (.one (.c (.string (digB n)))) [] := by
  have hq : IntKind.wrap .i64 (n.tdiv 10) = n / 10 := by rw [Int.tdiv_eq_ediv_of_nonneg h0, IntKind.wrap_i64]; omega
  have hr : n.tmod 10 = n % 10 := Int.tmod_eq_emod_of_nonneg h0
  have hs : 10 ≤ n → (digB (n / 10)).size + (ofBytes [IntKind.wrap .u8 (IntKind.wrap .i64 (48 + n % 10))]).size ≤ 9223372036854775807 := fun h => by
    have := digB_size (n := n / 10) (by omega) (by omega)
    rw [ofBytes_one]; omega
  refine vcall_of [.tmp 2] Tryd.func82 rfl rfl Tryd.ntmps82 rfl (by simp) ?_
  intro C hP hnt hgw hgb hfull
  refine vwp_seq_region rfl fun K hK => ?_
  simp (dsimp := false) only [push_cast, hP, hnt, hgw, hgb, Nat.reduceLT, Nat.reduceEqDiff, Nat.reduceAdd, Nat.reduceSub, Nat.reduceMul, Nat.reduceLeDiff, ↓reduceIte, reduceCtorEq, hq, hr, Int.reduceEq]
  refine hK _ ?_; clear hK
  refine vwp_seq_region rfl fun K hK => ?_
  simp (dsimp := false) only [push_cast, hP, hnt, hgw, hgb, Nat.reduceLT, Nat.reduceEqDiff, Nat.reduceAdd, Nat.reduceSub, Nat.reduceMul, Nat.reduceLeDiff, ↓reduceIte, reduceCtorEq, hq, hr, Int.reduceEq]
  refine hK _ ?_; clear hK
  refine vwp_seq fun K hK => ?_
  refine vwp_seq_region rfl fun K hK => ?_
  simp (dsimp := false) only [push_cast, hP, hnt, hgw, hgb, Nat.reduceLT, Nat.reduceEqDiff, Nat.reduceAdd, Nat.reduceSub, Nat.reduceMul, Nat.reduceLeDiff, ↓reduceIte, reduceCtorEq, hq, hr, Int.reduceEq]
  refine hK _ ?_; clear hK
  refine vwp_cond (b := _) (by simp (dsimp := false) only [push_cast, hP, hnt, hgw, hgb, Nat.reduceLT, Nat.reduceEqDiff, Nat.reduceAdd, Nat.reduceSub, Nat.reduceMul, Nat.reduceLeDiff, ↓reduceIte, reduceCtorEq, hq, hr, Int.reduceEq]; rfl) (fun rb0 => ?_) (fun rb0 => ?_)
  · have hb0 := rb0
    try simp only [beq_iff_eq, bne_iff_ne, ne_eq, bne_eq_false_iff_eq, beq_eq_false_iff_ne, decide_eq_true_eq, decide_eq_false_iff_not, Bool.not_eq_true', Bool.not_eq_false', Bool.or_eq_true, Bool.and_eq_true, Bool.or_eq_false_iff, Bool.and_eq_false_iff] at hb0
    have hs := hs hb0
    refine vwp_seq_region rfl fun K hK => ?_
    simp (dsimp := false) only [push_cast, hP, hnt, hgw, hgb, Nat.reduceLT, Nat.reduceEqDiff, Nat.reduceAdd, Nat.reduceSub, Nat.reduceMul, Nat.reduceLeDiff, ↓reduceIte, reduceCtorEq, hq, hr, Int.reduceEq, hs]
    refine .inl (callE_intro (ih (by omega)) (.inl ⟨rfl, rfl⟩) ?_)
    simp (dsimp := false) only [push_cast, hP, hnt, hgw, hgb, Nat.reduceLT, Nat.reduceEqDiff, Nat.reduceAdd, Nat.reduceSub, Nat.reduceMul, Nat.reduceLeDiff, ↓reduceIte, reduceCtorEq, hq, hr, Int.reduceEq, hs]
    refine hK _ ?_; clear hK
    refine vwp_ret ?_
    refine ret_free (by simp (dsimp := false) only [push_cast, hP, hnt, hgw, hgb, Nat.reduceLT, Nat.reduceEqDiff, Nat.reduceAdd, Nat.reduceSub, Nat.reduceMul, Nat.reduceLeDiff, ↓reduceIte, reduceCtorEq, hq, hr, Int.reduceEq, hs]; rfl) (by simp (dsimp := false) only [push_cast, hP, hnt, hgw, hgb, Nat.reduceLT, Nat.reduceEqDiff, Nat.reduceAdd, Nat.reduceSub, Nat.reduceMul, Nat.reduceLeDiff, ↓reduceIte, reduceCtorEq, hq, hr, Int.reduceEq, hs]) ?_
    rw [digB_big (n := n) (by omega)]; rfl
  · have hb0 := rb0
    try simp only [beq_iff_eq, bne_iff_ne, ne_eq, bne_eq_false_iff_eq, beq_eq_false_iff_ne, decide_eq_true_eq, decide_eq_false_iff_not, Bool.not_eq_true', Bool.not_eq_false', Bool.or_eq_true, Bool.and_eq_true, Bool.or_eq_false_iff, Bool.and_eq_false_iff] at hb0
    refine vwp_skip ?_
    apply_assumption
    refine vwp_seq_region rfl fun K hK => ?_
    simp (dsimp := false) only [push_cast, hP, hnt, hgw, hgb, Nat.reduceLT, Nat.reduceEqDiff, Nat.reduceAdd, Nat.reduceSub, Nat.reduceMul, Nat.reduceLeDiff, ↓reduceIte, reduceCtorEq, hq, hr, Int.reduceEq]
    refine hK _ ?_; clear hK
    refine vwp_ret ?_
    refine ret_free (by simp (dsimp := false) only [push_cast, hP, hnt, hgw, hgb, Nat.reduceLT, Nat.reduceEqDiff, Nat.reduceAdd, Nat.reduceSub, Nat.reduceMul, Nat.reduceLeDiff, ↓reduceIte, reduceCtorEq, hq, hr, Int.reduceEq]; rfl) (by simp (dsimp := false) only [push_cast, hP, hnt, hgw, hgb, Nat.reduceLT, Nat.reduceEqDiff, Nat.reduceAdd, Nat.reduceSub, Nat.reduceMul, Nat.reduceLeDiff, ↓reduceIte, reduceCtorEq, hq, hr, Int.reduceEq]) ?_
    rw [digB_small (n := n) h0 (by omega)]; rfl
theorem digits_call (gw : World) (gb : Nat) (n : Int) (h0 : 0 ≤ n) (h1 : n ≤ 9223372036854775807) : VCall Tryd.prog gw gb 82 [.one (.c (.int .i64 n))] (.one (.c (.string (digB n)))) [] := by
  have key : ∀ (k : Nat) (n : Int), n.toNat ≤ k → 0 ≤ n → n ≤ 9223372036854775807 → VCall Tryd.prog gw gb 82 [.one (.c (.int .i64 n))] (.one (.c (.string (digB n)))) [] := by
    intro k
    induction k with
    | zero => intro n hk h0 h1; exact digits_step gw gb n h0 h1 (fun h => by omega)
    | succ k ih => intro n hk h0 h1; exact digits_step gw gb n h0 h1 (fun h => ih (n / 10) (by omega) (by omega) (by omega))
  exact key n.toNat n (Nat.le_refl _) h0 h1

def nlL (w : ByteArray) : List UInt8 := w.data.toList ++ [10]
def joinedL (ws : List ByteArray) : List UInt8 := ws.flatMap nlL
theorem joined_next {l : List ByteArray} {i : Int} (h0 : 0 ≤ i) (h1 : i < (l.length : Int)) : bOf (joinedL (l.take i.toNat)) ++ (atI l i ++ ⟨#[10]⟩) = bOf (joinedL (l.take (i + 1).toNat)) := by
  unfold joinedL
  rw [flat_next nlL h0 h1, bOf_append]
  congr 1
theorem joined_le (l : List ByteArray) (k : Nat) : (joinedL (l.take k)).length ≤ (joinedL l).length := by
  have : joinedL l = joinedL (l.take k) ++ joinedL (l.drop k) := by unfold joinedL; rw [← List.flatMap_append, List.take_append_drop]
  rw [this, List.length_append]; omega
theorem joined_at {l : List ByteArray} {i : Int} (h0 : 0 ≤ i) (h1 : i < (l.length : Int)) : (atI l i).size + 1 + (joinedL (l.take i.toNat)).length ≤ (joinedL l).length := by
  have h2 := joined_le l (i + 1).toNat
  unfold joinedL at h2 ⊢
  rw [flat_next nlL h0 h1, List.length_append] at h2
  have : (nlL (atI l i)).length = (atI l i).size + 1 := by unfold nlL; rw [List.length_append, ← size_list]; rfl
  omega
theorem joined_call (gw : World) (gb : Nat) (l : List ByteArray) (hl : l.length ≤ 100000) (hj : (joinedL l).length ≤ 1000000000) : VCall Tryd.prog gw (gb) 48 [.one (.sl false l.length (l.map fun s => .c (.string s)))] (.one (.c (.string (bOf (joinedL l))))) [] := by
  have h10 : (⟨#[10]⟩ : ByteArray).size = 1 := rfl
  refine vcall_of [.tmp 2] Tryd.func48 rfl rfl Tryd.ntmps48 rfl (by simp) ?_
  intro C hP hnt hgw hgb hfull
  refine vwp_seq_region rfl fun K hK => ?_
  simp (dsimp := false) only [push_cast, hP, hnt, hgw, hgb, Nat.reduceLT, Nat.reduceEqDiff, Nat.reduceAdd, Nat.reduceSub, Nat.reduceMul, Nat.reduceLeDiff, ↓reduceIte, reduceCtorEq]
  refine hK _ ?_; clear hK
  refine vwp_seq_region rfl fun K hK => ?_
  simp (dsimp := false) only [push_cast, hP, hnt, hgw, hgb, Nat.reduceLT, Nat.reduceEqDiff, Nat.reduceAdd, Nat.reduceSub, Nat.reduceMul, Nat.reduceLeDiff, ↓reduceIte, reduceCtorEq]
  refine hK _ ?_; clear hK
  refine vwp_seq fun K hK => ?_
  refine vwp_seq_region rfl fun K hK => ?_
  simp (dsimp := false) only [push_cast, hP, hnt, hgw, hgb, Nat.reduceLT, Nat.reduceEqDiff, Nat.reduceAdd, Nat.reduceSub, Nat.reduceMul, Nat.reduceLeDiff, ↓reduceIte, reduceCtorEq]
  refine hK _ ?_; clear hK
  refine vwp_block ?_
  have hz : (⟨#[]⟩ : ByteArray) = bOf (joinedL (l.take (Int.toNat 0))) := rfl
  refine vwp_loop (fun m σ => ∃ (i : Int), m = (l.length - i).toNat ∧ ((0 ≤ i) ∧ (i ≤ l.length)) ∧ σ = St.of [(0, .one (.sl false l.length (l.map fun s => .c (.string s)))), (3, .one (.c (.string (bOf (joinedL (l.take i.toNat)))))), (4, .one (.c (.int .i64 i)))] [] []) _ ⟨_, ?_, 0, rfl, ?_, rfl⟩ ?_
  · refine wk_conv [] [] (by simp) (by simp) (by decide) ?_ ?_
    · refine hf_cons (by simp (dsimp := false) only [push_cast, ↓reduceIte, Nat.reduceEqDiff, Nat.reduceAdd, reduceCtorEq, hz] <;> rfl) (by repeat' (first | exact ConvVs.nil | exact ConvL.nil | refine ConvV.tup ?_ | refine ConvVs.cons ?_ ?_ | (refine ConvV.self ?_; simp only [push_cast]; done) | refine ConvV.one ?_ | refine ConvV.agg ?_ | (refine ConvL.free ?_; simp only [push_cast]; done) | refine ConvL.append ?_ ?_ | refine ConvL.cons ?_ ?_ | exact Conv.free rfl | exact Conv.nil | (refine Conv.own ?_; simp; done) | (refine Conv.loc ?_; simp; done) | refine Conv.frz (by simp) (by simp (dsimp := false) only [push_cast, ↓reduceIte, Nat.reduceEqDiff, Nat.reduceAdd, reduceCtorEq, hz] <;> rfl) ?_ | refine Conv.sl (by simp) ?_ | refine Conv.fn ?_)) ?_
      refine hf_cons (by simp (dsimp := false) only [push_cast, ↓reduceIte, Nat.reduceEqDiff, Nat.reduceAdd, reduceCtorEq, hz] <;> rfl) (by exact ConvV.self rfl) ?_
      refine hf_cons (by simp (dsimp := false) only [push_cast, ↓reduceIte, Nat.reduceEqDiff, Nat.reduceAdd, reduceCtorEq, hz] <;> rfl) (by exact ConvV.self rfl) ?_
      exact hf_nil
    · exact hh_nil
  · exact ⟨by omega, by omega⟩
  · rintro m τ ⟨i, hm, ⟨hi0, hi1⟩, rfl⟩ K hL0
    have hw := fun h : i < (l.length : Int) => wrap_next hi0 h (by omega)
    have hd := fun h : i < (l.length : Int) => dropI_map (fun s => PC.c (Value.string s)) hi0 h
    have hs1 := fun h : i < (l.length : Int) => (show (atI l i).size + (⟨#[10]⟩ : ByteArray).size ≤ 9223372036854775807 from by have := joined_at hi0 h; omega)
    have hs2 := fun h : i < (l.length : Int) => (show (bOf (joinedL (l.take i.toNat))).size + (atI l i ++ (⟨#[10]⟩ : ByteArray)).size ≤ 9223372036854775807 from by have := joined_at hi0 h; rw [bOf_size, ByteArray.size_append]; omega)
    refine vwp_seq fun K hK => ?_
    refine vwp_seq_region rfl fun K hK => ?_
    simp (dsimp := false) only [push_cast, hP, hnt, hgw, hgb, Nat.reduceLT, Nat.reduceEqDiff, Nat.reduceAdd, Nat.reduceSub, Nat.reduceMul, Nat.reduceLeDiff, ↓reduceIte, reduceCtorEq, hi0]
    refine hK _ ?_; clear hK
    refine vwp_cond (b := _) (by simp (dsimp := false) only [push_cast, hP, hnt, hgw, hgb, Nat.reduceLT, Nat.reduceEqDiff, Nat.reduceAdd, Nat.reduceSub, Nat.reduceMul, Nat.reduceLeDiff, ↓reduceIte, reduceCtorEq, hi0]; rfl) (fun rb0 => ?_) (fun rb0 => ?_)
    · have hb0 := rb0
      try simp only [beq_iff_eq, bne_iff_ne, ne_eq, bne_eq_false_iff_eq, beq_eq_false_iff_ne, decide_eq_true_eq, decide_eq_false_iff_not, Bool.not_eq_true', Bool.not_eq_false', Bool.or_eq_true, Bool.and_eq_true, Bool.or_eq_false_iff, Bool.and_eq_false_iff] at hb0
      have hw := hw hb0
      have hd := hd hb0
      have hs1 := hs1 hb0
      have hs2 := hs2 hb0
      refine vwp_skip ?_
      apply_assumption
      refine vwp_seq fun K hK => ?_
      refine vwp_block ?_
      refine vwp_region rfl ?_
      simp (dsimp := false) only [push_cast, hP, hnt, hgw, hgb, Nat.reduceLT, Nat.reduceEqDiff, Nat.reduceAdd, Nat.reduceSub, Nat.reduceMul, Nat.reduceLeDiff, ↓reduceIte, reduceCtorEq, hi0, hw, hd, hs1, hs2, hb0]
      apply_assumption
      refine vwp_region rfl ?_
      simp (dsimp := false) only [push_cast, hP, hnt, hgw, hgb, Nat.reduceLT, Nat.reduceEqDiff, Nat.reduceAdd, Nat.reduceSub, Nat.reduceMul, Nat.reduceLeDiff, ↓reduceIte, reduceCtorEq, hi0, hw, hd, hs1, hs2, hb0]
      have hn := joined_next hi0 hb0
      refine hL0 _ _ _ ?_ ?_ ⟨i + 1, rfl, ?_, rfl⟩
      · omega
      · refine wk_conv [] [] (by simp) (by simp) (by decide) ?_ ?_
        · refine hf_cons (by simp (dsimp := false) only [push_cast, ↓reduceIte, Nat.reduceEqDiff, Nat.reduceAdd, reduceCtorEq, hi0, hw, hd, hs1, hs2, hb0, hn] <;> rfl) (by repeat' (first | exact ConvVs.nil | exact ConvL.nil | refine ConvV.tup ?_ | refine ConvVs.cons ?_ ?_ | (refine ConvV.self ?_; simp only [push_cast]; done) | refine ConvV.one ?_ | refine ConvV.agg ?_ | (refine ConvL.free ?_; simp only [push_cast]; done) | refine ConvL.append ?_ ?_ | refine ConvL.cons ?_ ?_ | exact Conv.free rfl | exact Conv.nil | (refine Conv.own ?_; simp; done) | (refine Conv.loc ?_; simp; done) | refine Conv.frz (by simp) (by simp (dsimp := false) only [push_cast, ↓reduceIte, Nat.reduceEqDiff, Nat.reduceAdd, reduceCtorEq, hi0, hw, hd, hs1, hs2, hb0, hn] <;> rfl) ?_ | refine Conv.sl (by simp) ?_ | refine Conv.fn ?_)) ?_
          refine hf_cons (by simp (dsimp := false) only [push_cast, ↓reduceIte, Nat.reduceEqDiff, Nat.reduceAdd, reduceCtorEq, hi0, hw, hd, hs1, hs2, hb0, hn] <;> rfl) (by exact ConvV.self rfl) ?_
          refine hf_cons (by simp (dsimp := false) only [push_cast, ↓reduceIte, Nat.reduceEqDiff, Nat.reduceAdd, reduceCtorEq, hi0, hw, hd, hs1, hs2, hb0, hn] <;> rfl) (by exact ConvV.self rfl) ?_
          exact hf_nil
        · exact hh_nil
      · exact ⟨by omega, by omega⟩
    · have hb0 := rb0
      try simp only [beq_iff_eq, bne_iff_ne, ne_eq, bne_eq_false_iff_eq, beq_eq_false_iff_ne, decide_eq_true_eq, decide_eq_false_iff_not, Bool.not_eq_true', Bool.not_eq_false', Bool.or_eq_true, Bool.and_eq_true, Bool.or_eq_false_iff, Bool.and_eq_false_iff] at hb0
      have hend : l.take i.toNat = l := take_all hb0
      refine vwp_exit ?_
      simp only [thenQ, blockQ, Nat.reduceEqDiff, reduceIte]
      apply_assumption
      refine vwp_seq_region rfl fun K hK => ?_
      simp (dsimp := false) only [push_cast, hP, hnt, hgw, hgb, Nat.reduceLT, Nat.reduceEqDiff, Nat.reduceAdd, Nat.reduceSub, Nat.reduceMul, Nat.reduceLeDiff, ↓reduceIte, reduceCtorEq, hi0, hend]
      refine hK _ ?_; clear hK
      refine vwp_ret ?_
      refine ret_free (by simp (dsimp := false) only [push_cast, hP, hnt, hgw, hgb, Nat.reduceLT, Nat.reduceEqDiff, Nat.reduceAdd, Nat.reduceSub, Nat.reduceMul, Nat.reduceLeDiff, ↓reduceIte, reduceCtorEq, hi0, hend]; rfl) (by simp (dsimp := false) only [push_cast, hP, hnt, hgw, hgb, Nat.reduceLT, Nat.reduceEqDiff, Nat.reduceAdd, Nat.reduceSub, Nat.reduceMul, Nat.reduceLeDiff, ↓reduceIte, reduceCtorEq, hi0, hend]) ?_
      rfl
end Go.Vm
end

section
namespace Go.Vm
open Go Go.RowKit Go.Proofs
set_option maxRecDepth 100000
set_option linter.unusedSimpArgs false
set_option linter.unusedVariables false
set_option maxHeartbeats 4000000

def sFirst (l : List Bool) : ByteArray := ⟨#[102, 105, 114, 115, 116, 32]⟩ ++ bitsS l
def sIn (l : List Bool) : ByteArray := ⟨#[105, 110, 32]⟩ ++ bitsS l
def sSkip (n : Int) : ByteArray := ⟨#[115, 107, 105, 112, 32]⟩ ++ digB n
def sPhases (n : Int) : ByteArray := ⟨#[112, 104, 97, 115, 101, 115, 32]⟩ ++ digB n
def sLit (n : Int) : ByteArray := ⟨#[108, 105, 116, 32]⟩ ++ digB n
def sAnd (g : Int × Int) : ByteArray := ⟨#[97, 110, 100, 32]⟩ ++ digB g.1 ++ ⟨#[32]⟩ ++ digB g.2
def toldU (v : Ver) (k : Nat) : List ByteArray := [wUNSAFE, sFirst v.first] ++ (v.inputs.take k).map sIn
def toldS (v : Ver) (k : Nat) : List ByteArray := [wSAFE, sSkip v.skip, sPhases v.phases] ++ (v.ands.take k).map sAnd
def toldF (v : Ver) : List ByteArray := if v.kind = 2 then toldU v v.inputs.length else if v.kind = 1 then toldS v v.ands.length ++ [sLit v.lit] else [wUNKNOWN]
theorem toldU_next {v : Ver} {i : Int} (h0 : 0 ≤ i) (h1 : i < (v.inputs.length : Int)) : toldU v (i + 1).toNat = toldU v i.toNat ++ [sIn (atI v.inputs i)] := by
  unfold toldU; rw [take_next h0 h1, List.map_append, List.append_assoc]; rfl
theorem toldS_next {v : Ver} {i : Int} (h0 : 0 ≤ i) (h1 : i < (v.ands.length : Int)) : toldS v (i + 1).toNat = toldS v i.toNat ++ [sAnd (atI v.ands i)] := by
  unfold toldS; rw [take_next h0 h1, List.map_append, List.append_assoc]; rfl
theorem toldU_len {v : Ver} {i : Int} (h0 : 0 ≤ i) (h1 : i ≤ (v.inputs.length : Int)) : (toldU v i.toNat).length = 2 + i.toNat := by
  unfold toldU; rw [List.length_append, List.length_map, len_take h0 h1]; rfl
theorem toldS_len {v : Ver} {i : Int} (h0 : 0 ≤ i) (h1 : i ≤ (v.ands.length : Int)) : (toldS v i.toNat).length = 3 + i.toNat := by
  unfold toldS; rw [List.length_append, List.length_map, len_take h0 h1]; rfl
def rowS (l : List ByteArray) : Blk := .arr 9 1 l.length (l.map fun s => .c (.string s))
theorem strs_free (l : List ByteArray) : PC.frees (l.map fun s => .c (.string s)) = true := by rw [frees_map]; simp [PC.free]
theorem bitsS_le {l : List Bool} (h : l.length ≤ 1000) : (bitsS l).size ≤ 1001 := by have := bitsS_size l; omega
theorem told_call (gw : World) (gb : Nat) (v : Ver) (hf : Fit v) (hm : mayF v = true) : VCall Tryd.prog gw (gb) 49 [.agg (v.pcs false)] (.one (.sl true (toldF v).length ((toldF v).map fun s => .c (.string s)))) [] := by
  refine vcall_of [.tmp 2] Tryd.func49 rfl rfl Tryd.ntmps49 rfl (by simp) ?_
  intro C hP hnt hgw hgb hfull
  refine vwp_seq_region rfl fun K hK => ?_
  simp (dsimp := false) only [push_cast, hP, hnt, hgw, hgb, Nat.reduceLT, Nat.reduceEqDiff, Nat.reduceAdd, Nat.reduceSub, Nat.reduceMul, Nat.reduceLeDiff, ↓reduceIte, reduceCtorEq]
  refine hK _ ?_; clear hK
  refine vwp_seq fun K hK => ?_
  refine vwp_seq_region rfl fun K hK => ?_
  simp (dsimp := false) only [push_cast, hP, hnt, hgw, hgb, Nat.reduceLT, Nat.reduceEqDiff, Nat.reduceAdd, Nat.reduceSub, Nat.reduceMul, Nat.reduceLeDiff, ↓reduceIte, reduceCtorEq]
  refine hK _ ?_; clear hK
  refine vwp_block ?_
  refine vwp_seq_region rfl fun K hK => ?_
  simp (dsimp := false) only [push_cast, hP, hnt, hgw, hgb, Nat.reduceLT, Nat.reduceEqDiff, Nat.reduceAdd, Nat.reduceSub, Nat.reduceMul, Nat.reduceLeDiff, ↓reduceIte, reduceCtorEq]
  refine hK _ ?_; clear hK
  refine vwp_cond (b := _) (by simp (dsimp := false) only [push_cast, hP, hnt, hgw, hgb, Nat.reduceLT, Nat.reduceEqDiff, Nat.reduceAdd, Nat.reduceSub, Nat.reduceMul, Nat.reduceLeDiff, ↓reduceIte, reduceCtorEq]; rfl) (fun rb0 => ?_) (fun rb0 => ?_)
  · have hb0 := rb0
    try simp only [beq_iff_eq, bne_iff_ne, ne_eq, bne_eq_false_iff_eq, beq_eq_false_iff_ne, decide_eq_true_eq, decide_eq_false_iff_not, Bool.not_eq_true', Bool.not_eq_false', Bool.or_eq_true, Bool.and_eq_true, Bool.or_eq_false_iff, Bool.and_eq_false_iff] at hb0
    have hu := may_unsafe hm hb0
    have hz1 : (⟨#[102, 105, 114, 115, 116, 32]⟩ : ByteArray).size + (bitsS v.first).size ≤ 9223372036854775807 := by have := bitsS_le hu.first; have : (⟨#[102, 105, 114, 115, 116, 32]⟩ : ByteArray).size = 6 := rfl; omega
    refine vwp_seq_region rfl fun K hK => ?_
    simp (dsimp := false) only [push_cast, hP, hnt, hgw, hgb, Nat.reduceLT, Nat.reduceEqDiff, Nat.reduceAdd, Nat.reduceSub, Nat.reduceMul, Nat.reduceLeDiff, ↓reduceIte, reduceCtorEq, hz1]
    refine .inl (callE_intro (refBits_call gw gb v.first hf.first) (.inl ⟨rfl, rfl⟩) ?_)
    simp (dsimp := false) only [push_cast, hP, hnt, hgw, hgb, Nat.reduceLT, Nat.reduceEqDiff, Nat.reduceAdd, Nat.reduceSub, Nat.reduceMul, Nat.reduceLeDiff, ↓reduceIte, reduceCtorEq, hz1]
    refine hK _ ?_; clear hK
    refine vwp_seq fun K hK => ?_
    refine vwp_seq_region rfl fun K hK => ?_
    simp (dsimp := false) only [push_cast, hP, hnt, hgw, hgb, Nat.reduceLT, Nat.reduceEqDiff, Nat.reduceAdd, Nat.reduceSub, Nat.reduceMul, Nat.reduceLeDiff, ↓reduceIte, reduceCtorEq, hz1]
    refine hK _ ?_; clear hK
    refine vwp_block ?_
    refine vwp_loop (fun m σ => ∃ (i : Int), m = (v.inputs.length - i).toNat ∧ ((0 ≤ i) ∧ (i ≤ v.inputs.length)) ∧ σ = St.of [(1, .one (.loc (2, 0) 0)), (3, .one (.own (18, 0))), (4, .one (.c (.int .i64 i)))] [((2, 0), .box 47 (v.pcs false)), ((18, 0), rowS (toldU v i.toNat))] [1, 17]) _ ⟨_, ?_, 0, rfl, ?_, rfl⟩ ?_
    · refine wk_conv [] [((2, 0), (2, 0)), ((18, 0), (18, 0))] (by simp) (by simp) (by decide) ?_ ?_
      · refine hf_cons (by simp (dsimp := false) only [push_cast, ↓reduceIte, Nat.reduceEqDiff, Nat.reduceAdd, reduceCtorEq, hz1] <;> rfl) (by exact .one (.loc (by simp))) ?_
        refine hf_cons (by simp (dsimp := false) only [push_cast, ↓reduceIte, Nat.reduceEqDiff, Nat.reduceAdd, reduceCtorEq, hz1] <;> rfl) (by exact .one (.own (by simp))) ?_
        refine hf_cons (by simp (dsimp := false) only [push_cast, ↓reduceIte, Nat.reduceEqDiff, Nat.reduceAdd, reduceCtorEq, hz1] <;> rfl) (by exact ConvV.self rfl) ?_
        exact hf_nil
      · refine hh_cons (i := (2, 0)) (by simp) (by simp) (by simp (dsimp := false) only [push_cast, ↓reduceIte, Nat.reduceEqDiff, Nat.reduceAdd, reduceCtorEq, hz1] <;> rfl) (by first | (refine ConvB.free ?_; simp only [push_cast, strs_free]; done) | (refine ConvB.box ?_; repeat' (first | exact ConvVs.nil | exact ConvL.nil | refine ConvV.tup ?_ | refine ConvVs.cons ?_ ?_ | (refine ConvV.self ?_; simp only [push_cast, strs_free]; done) | refine ConvV.one ?_ | refine ConvV.agg ?_ | (refine ConvL.free ?_; simp only [push_cast, strs_free]; done) | refine ConvL.append ?_ ?_ | refine ConvL.cons ?_ ?_ | exact Conv.free rfl | exact Conv.nil | (refine Conv.own ?_; simp; done) | (refine Conv.loc ?_; simp; done) | refine Conv.frz (by simp) (by simp (dsimp := false) only [push_cast, ↓reduceIte, Nat.reduceEqDiff, Nat.reduceAdd, reduceCtorEq, hz1] <;> rfl) ?_ | refine Conv.sl (by simp) ?_ | refine Conv.fn ?_))) ?_
        refine hh_cons (i := (18, 0)) (by simp) (by simp) (by simp (dsimp := false) only [push_cast, ↓reduceIte, Nat.reduceEqDiff, Nat.reduceAdd, reduceCtorEq, hz1] <;> rfl) (by exact ConvB.arr (ConvL.free (strs_free (toldU v (Int.toNat 0))))) ?_
        exact hh_nil
    · exact ⟨by omega, by omega⟩
    · rintro m τ ⟨i, hm, ⟨hi0, hi1⟩, rfl⟩ K hL1
      have hw := fun h : i < (v.inputs.length : Int) => wrap_next hi0 h (by have := hf.inputs; omega)
      have hd := fun h : i < (v.inputs.length : Int) => dropI_map (fun l => PC.sl false l.length (l.map fun b => PC.c (Value.bool b))) hi0 h
      have hlen := toldU_len hi0 hi1
      refine vwp_seq fun K hK => ?_
      refine vwp_seq_region rfl fun K hK => ?_
      simp (dsimp := false) only [push_cast, hP, hnt, hgw, hgb, Nat.reduceLT, Nat.reduceEqDiff, Nat.reduceAdd, Nat.reduceSub, Nat.reduceMul, Nat.reduceLeDiff, ↓reduceIte, reduceCtorEq, hz1, hi0, rowS]
      refine hK _ ?_; clear hK
      refine vwp_cond (b := _) (by simp (dsimp := false) only [push_cast, hP, hnt, hgw, hgb, Nat.reduceLT, Nat.reduceEqDiff, Nat.reduceAdd, Nat.reduceSub, Nat.reduceMul, Nat.reduceLeDiff, ↓reduceIte, reduceCtorEq, hz1, hi0, rowS]; rfl) (fun rb1 => ?_) (fun rb1 => ?_)
      · have hb1 := rb1
        try simp only [beq_iff_eq, bne_iff_ne, ne_eq, bne_eq_false_iff_eq, beq_eq_false_iff_ne, decide_eq_true_eq, decide_eq_false_iff_not, Bool.not_eq_true', Bool.not_eq_false', Bool.or_eq_true, Bool.and_eq_true, Bool.or_eq_false_iff, Bool.and_eq_false_iff] at hb1
        have hw := hw hb1
        have hd := hd hb1
        have hbx := hb1
        have hz2 : (⟨#[105, 110, 32]⟩ : ByteArray).size + (bitsS (atI v.inputs i)).size ≤ 9223372036854775807 := by have := bitsS_le (hu.each _ (atI_mem hi0 hb1)); have : (⟨#[105, 110, 32]⟩ : ByteArray).size = 3 := rfl; omega
        have hz3 : (toldU v i.toNat).length + 1 ≤ 140737488355328 := by have := hu.few; omega
        have hz4 : ((toldU v i.toNat).length + 1) * 16 ≤ 140737488355328 := by have := hu.few; omega
        refine vwp_skip ?_
        apply_assumption
        refine vwp_seq fun K hK => ?_
        refine vwp_block ?_
        refine vwp_region rfl ?_
        simp (dsimp := false) only [push_cast, hP, hnt, hgw, hgb, Nat.reduceLT, Nat.reduceEqDiff, Nat.reduceAdd, Nat.reduceSub, Nat.reduceMul, Nat.reduceLeDiff, ↓reduceIte, reduceCtorEq, hz1, hi0, rowS, hw, hd, hb1, hz2, hz3, hz4]
        refine .inl (callE_intro (refBits_call gw gb (atI v.inputs i) (by have := hu.each _ (atI_mem hi0 hbx); omega)) (.inl ⟨rfl, rfl⟩) ?_)
        simp (dsimp := false) only [push_cast, hP, hnt, hgw, hgb, Nat.reduceLT, Nat.reduceEqDiff, Nat.reduceAdd, Nat.reduceSub, Nat.reduceMul, Nat.reduceLeDiff, ↓reduceIte, reduceCtorEq, hz1, hi0, rowS, hw, hd, hb1, hz2, hz3, hz4]
        apply_assumption
        refine vwp_region rfl ?_
        simp (dsimp := false) only [push_cast, hP, hnt, hgw, hgb, Nat.reduceLT, Nat.reduceEqDiff, Nat.reduceAdd, Nat.reduceSub, Nat.reduceMul, Nat.reduceLeDiff, ↓reduceIte, reduceCtorEq, hz1, hi0, rowS, hw, hd, hb1, hz2, hz3, hz4]
        refine hL1 _ _ _ ?_ ?_ ⟨i + 1, rfl, ?_, rfl⟩
        · omega
        · refine wk_conv [] [((2, 0), (2, 0)), ((37, 0), (18, 0))] (by simp) (by simp) (by decide) ?_ ?_
          · refine hf_cons (by simp (dsimp := false) only [push_cast, ↓reduceIte, Nat.reduceEqDiff, Nat.reduceAdd, reduceCtorEq, hz1, hi0, rowS, hw, hd, hb1, hz2, hz3, hz4] <;> rfl) (by exact .one (.loc (by simp))) ?_
            refine hf_cons (by simp (dsimp := false) only [push_cast, ↓reduceIte, Nat.reduceEqDiff, Nat.reduceAdd, reduceCtorEq, hz1, hi0, rowS, hw, hd, hb1, hz2, hz3, hz4] <;> rfl) (by exact .one (.own (by simp))) ?_
            refine hf_cons (by simp (dsimp := false) only [push_cast, ↓reduceIte, Nat.reduceEqDiff, Nat.reduceAdd, reduceCtorEq, hz1, hi0, rowS, hw, hd, hb1, hz2, hz3, hz4] <;> rfl) (by exact ConvV.self rfl) ?_
            exact hf_nil
          · refine hh_cons (i := (2, 0)) (by simp) (by simp) (by simp (dsimp := false) only [push_cast, ↓reduceIte, Nat.reduceEqDiff, Nat.reduceAdd, reduceCtorEq, hz1, hi0, rowS, hw, hd, hb1, hz2, hz3, hz4] <;> rfl) (by first | (refine ConvB.free ?_; simp only [push_cast, strs_free]; done) | (refine ConvB.box ?_; repeat' (first | exact ConvVs.nil | exact ConvL.nil | refine ConvV.tup ?_ | refine ConvVs.cons ?_ ?_ | (refine ConvV.self ?_; simp only [push_cast, strs_free]; done) | refine ConvV.one ?_ | refine ConvV.agg ?_ | (refine ConvL.free ?_; simp only [push_cast, strs_free]; done) | refine ConvL.append ?_ ?_ | refine ConvL.cons ?_ ?_ | exact Conv.free rfl | exact Conv.nil | (refine Conv.own ?_; simp; done) | (refine Conv.loc ?_; simp; done) | refine Conv.frz (by simp) (by simp (dsimp := false) only [push_cast, ↓reduceIte, Nat.reduceEqDiff, Nat.reduceAdd, reduceCtorEq, hz1, hi0, rowS, hw, hd, hb1, hz2, hz3, hz4] <;> rfl) ?_ | refine Conv.sl (by simp) ?_ | refine Conv.fn ?_))) ?_
            refine hh_cons (i := (37, 0)) (by simp) (by simp) (by simp (dsimp := false) only [push_cast, ↓reduceIte, Nat.reduceEqDiff, Nat.reduceAdd, reduceCtorEq, hz1, hi0, rowS, hw, hd, hb1, hz2, hz3, hz4] <;> rfl) (by rw [toldU_next hi0 hbx]; simp only [rowS, List.map_append, List.length_append]; exact ConvB.arr (ConvL.free (by rw [frees_append, strs_free]; rfl))) ?_
            exact hh_nil
        · exact ⟨by omega, by omega⟩
      · have hb1 := rb1
        try simp only [beq_iff_eq, bne_iff_ne, ne_eq, bne_eq_false_iff_eq, beq_eq_false_iff_ne, decide_eq_true_eq, decide_eq_false_iff_not, Bool.not_eq_true', Bool.not_eq_false', Bool.or_eq_true, Bool.and_eq_true, Bool.or_eq_false_iff, Bool.and_eq_false_iff] at hb1
        have hend : i.toNat = v.inputs.length := by omega
        refine vwp_exit ?_
        simp only [thenQ, blockQ, Nat.reduceEqDiff, reduceIte]
        apply_assumption
        refine vwp_seq_region rfl fun K hK => ?_
        simp (dsimp := false) only [push_cast, hP, hnt, hgw, hgb, Nat.reduceLT, Nat.reduceEqDiff, Nat.reduceAdd, Nat.reduceSub, Nat.reduceMul, Nat.reduceLeDiff, ↓reduceIte, reduceCtorEq, hz1, hi0, rowS, hend]
        refine hK _ ?_; clear hK
        refine vwp_ret ?_
        refine ret_conv [(18, 0)] [] (by simp (dsimp := false) only [push_cast, hP, hnt, hgw, hgb, Nat.reduceLT, Nat.reduceEqDiff, Nat.reduceAdd, Nat.reduceSub, Nat.reduceMul, Nat.reduceLeDiff, ↓reduceIte, reduceCtorEq, hz1, hi0, rowS, hend]; rfl) (by simp) (by simp) (by first | decide | simp) ?_ ?_
        · simp only [pack]
          rw [show toldF v = toldU v v.inputs.length from if_pos ‹_›]
          repeat' (first | exact ConvVs.nil | exact ConvL.nil | refine ConvV.tup ?_ | refine ConvVs.cons ?_ ?_ | (refine ConvV.self ?_; simp only [push_cast, strs_free]; done) | refine ConvV.one ?_ | refine ConvV.agg ?_ | (refine ConvL.free ?_; simp only [push_cast, strs_free]; done) | refine ConvL.append ?_ ?_ | refine ConvL.cons ?_ ?_ | exact Conv.free rfl | exact Conv.nil | (refine Conv.own ?_; simp; done) | (refine Conv.loc ?_; simp; done) | refine Conv.frz (by simp) (by simp (dsimp := false) only [push_cast, ↓reduceIte, Nat.reduceEqDiff, Nat.reduceAdd, reduceCtorEq, hz1, hi0, rowS, hend] <;> rfl) ?_ | refine Conv.sl (by simp) ?_ | refine Conv.fn ?_)
        · exact rb_nil
  · have hb0 := rb0
    try simp only [beq_iff_eq, bne_iff_ne, ne_eq, bne_eq_false_iff_eq, beq_eq_false_iff_ne, decide_eq_true_eq, decide_eq_false_iff_not, Bool.not_eq_true', Bool.not_eq_false', Bool.or_eq_true, Bool.and_eq_true, Bool.or_eq_false_iff, Bool.and_eq_false_iff] at hb0
    refine vwp_seq_region rfl fun K hK => ?_
    simp (dsimp := false) only [push_cast, hP, hnt, hgw, hgb, Nat.reduceLT, Nat.reduceEqDiff, Nat.reduceAdd, Nat.reduceSub, Nat.reduceMul, Nat.reduceLeDiff, ↓reduceIte, reduceCtorEq]
    refine hK _ ?_; clear hK
    refine vwp_cond (b := _) (by simp (dsimp := false) only [push_cast, hP, hnt, hgw, hgb, Nat.reduceLT, Nat.reduceEqDiff, Nat.reduceAdd, Nat.reduceSub, Nat.reduceMul, Nat.reduceLeDiff, ↓reduceIte, reduceCtorEq]; rfl) (fun rb2 => ?_) (fun rb2 => ?_)
    · have hb2 := rb2
      try simp only [beq_iff_eq, bne_iff_ne, ne_eq, bne_eq_false_iff_eq, beq_eq_false_iff_ne, decide_eq_true_eq, decide_eq_false_iff_not, Bool.not_eq_true', Bool.not_eq_false', Bool.or_eq_true, Bool.and_eq_true, Bool.or_eq_false_iff, Bool.and_eq_false_iff] at hb2
      have hs := may_safe hm hb2
      have q0 := digB_size (n := v.skip) (by have := hs.skip; omega) (by have := hs.skip; omega)
      have q1 := digB_size (n := v.phases) (by have := hs.phases; omega) (by have := hs.phases; omega)
      have q2 := digB_size (n := v.lit) (by have := hs.lit; omega) (by have := hs.lit; omega)
      have hz1 : (⟨#[115, 107, 105, 112, 32]⟩ : ByteArray).size + (digB v.skip).size ≤ 9223372036854775807 := by have : (⟨#[115, 107, 105, 112, 32]⟩ : ByteArray).size = 5 := rfl; omega
      have hz2 : (⟨#[112, 104, 97, 115, 101, 115, 32]⟩ : ByteArray).size + (digB v.phases).size ≤ 9223372036854775807 := by have : (⟨#[112, 104, 97, 115, 101, 115, 32]⟩ : ByteArray).size = 7 := rfl; omega
      have hz3 : (⟨#[108, 105, 116, 32]⟩ : ByteArray).size + (digB v.lit).size ≤ 9223372036854775807 := by have : (⟨#[108, 105, 116, 32]⟩ : ByteArray).size = 4 := rfl; omega
      refine vwp_seq_anyF [[], [0], [0, 1], [0, 1, 2], [0, 1, 2, 3], [], [5], [5, 6], [0, 1, 2, 3, 5, 6, 7], [0, 1, 2, 3, 5, 6, 7, 8], [0, 1, 2, 3, 4, 5, 6, 7, 8, 9], [0, 1, 2, 3, 4, 5, 6, 7, 8, 9, 10]] [([(40, .dead), (41, .old), (42, .old), (43, .old), (44, .old), (45, .dead), (46, .dead), (47, .dead), (48, .old), (49, .old), (50, .old), (5, .old)], [41, 42, 43, 44, 45, 46, 47, 48, 49, 50, 5], []), ([(40, .dep 0), (41, .dead), (42, .old), (43, .old), (44, .old), (45, .dead), (46, .dead), (47, .dead), (48, .old), (49, .old), (50, .old), (5, .old)], [42, 43, 44, 45, 46, 47, 48, 49, 50, 5], [0]), ([(40, .dep 1), (41, .dep 0), (42, .dead), (43, .old), (44, .old), (45, .dead), (46, .dead), (47, .dead), (48, .old), (49, .old), (50, .old), (5, .old)], [43, 44, 45, 46, 47, 48, 49, 50, 5], [1, 0]), ([(40, .dep 2), (41, .dep 1), (42, .dep 0), (43, .dead), (44, .old), (45, .dead), (46, .dead), (47, .dead), (48, .old), (49, .old), (50, .old), (5, .old)], [44, 45, 46, 47, 48, 49, 50, 5], [2, 1, 0]), ([(40, .dep 3), (41, .dep 2), (42, .dep 1), (43, .dep 0), (44, .dead), (45, .dead), (46, .dead), (47, .dead), (48, .dead), (49, .dead), (50, .old), (5, .old)], [45, 46, 47, 48, 49, 50, 5], [3, 2, 1, 0]), ([(40, .dead), (41, .dead), (42, .dead), (43, .dead), (44, .dead), (45, .dead), (46, .old), (47, .old), (48, .old), (49, .old), (50, .old), (5, .old)], [40, 41, 42, 43, 44, 46, 47, 48, 49, 50, 5], []), ([(40, .dead), (41, .dead), (42, .dead), (43, .dead), (44, .dead), (45, .dep 0), (46, .dead), (47, .old), (48, .old), (49, .old), (50, .old), (5, .old)], [40, 41, 42, 43, 44, 47, 48, 49, 50, 5], [0]), ([(40, .dead), (41, .dead), (42, .dead), (43, .dead), (44, .dead), (45, .dep 1), (46, .dep 0), (47, .dead), (48, .old), (49, .old), (50, .old), (5, .old)], [40, 41, 42, 43, 44, 48, 49, 50, 5], [1, 0]), ([(40, .dep 7), (41, .dep 6), (42, .dep 5), (43, .dep 4), (44, .dead), (45, .dep 2), (46, .dep 1), (47, .dep 0), (48, .dead), (49, .old), (50, .old), (5, .old)], [44, 49, 50, 5], [7, 6, 5, 4, 2, 1, 0]), ([(40, .dep 8), (41, .dep 7), (42, .dep 6), (43, .dep 5), (44, .dead), (45, .dep 3), (46, .dep 2), (47, .dep 1), (48, .dep 0), (49, .dead), (50, .old), (5, .old)], [44, 50, 5], [8, 7, 6, 5, 3, 2, 1, 0]), ([(40, .dep 9), (41, .dep 8), (42, .dep 7), (43, .dep 6), (44, .dep 5), (45, .dep 4), (46, .dep 3), (47, .dep 2), (48, .dep 1), (49, .dep 0), (50, .dead), (5, .old)], [5], [9, 8, 7, 6, 5, 4, 3, 2, 1, 0]), ([(40, .dep 10), (41, .dep 9), (42, .dep 8), (43, .dep 7), (44, .dep 6), (45, .dep 5), (46, .dep 4), (47, .dep 3), (48, .dep 2), (49, .dep 1), (50, .dep 0), (5, .dead)], [], [10, 9, 8, 7, 6, 5, 4, 3, 2, 1, 0])] (by rw [hP]; exact mixed) rfl rfl rfl fun K hK => ?_
      simp (dsimp := false) only [push_cast, hP, hnt, hgw, hgb, Nat.reduceLT, Nat.reduceEqDiff, Nat.reduceAdd, Nat.reduceSub, Nat.reduceMul, Nat.reduceLeDiff, ↓reduceIte, reduceCtorEq, hz1, hz2, hz3, Nat.reduceBNe, Nat.reduceBEq]
      refine .inl (callE_intro (digits_call gw gb v.skip (by have := hs.skip; omega) (by have := hs.skip; omega)) (.inl ⟨rfl, rfl⟩) ?_)
      simp (dsimp := false) only [push_cast, hP, hnt, hgw, hgb, Nat.reduceLT, Nat.reduceEqDiff, Nat.reduceAdd, Nat.reduceSub, Nat.reduceMul, Nat.reduceLeDiff, ↓reduceIte, reduceCtorEq, hz1, hz2, hz3, Nat.reduceBNe, Nat.reduceBEq]
      refine .inl (callE_intro (digits_call gw gb v.phases (by have := hs.phases; omega) (by have := hs.phases; omega)) (.inl ⟨rfl, rfl⟩) ?_)
      simp (dsimp := false) only [push_cast, hP, hnt, hgw, hgb, Nat.reduceLT, Nat.reduceEqDiff, Nat.reduceAdd, Nat.reduceSub, Nat.reduceMul, Nat.reduceLeDiff, ↓reduceIte, reduceCtorEq, hz1, hz2, hz3, Nat.reduceBNe, Nat.reduceBEq]
      refine ⟨rfl, ?_⟩
      refine hK _ ?_; clear hK
      refine vwp_seq fun K hK => ?_
      refine vwp_seq_region rfl fun K hK => ?_
      simp (dsimp := false) only [push_cast, hP, hnt, hgw, hgb, Nat.reduceLT, Nat.reduceEqDiff, Nat.reduceAdd, Nat.reduceSub, Nat.reduceMul, Nat.reduceLeDiff, ↓reduceIte, reduceCtorEq, hz1, hz2, hz3]
      refine hK _ ?_; clear hK
      refine vwp_block ?_
      refine vwp_loop (fun m σ => ∃ (i : Int), m = (v.ands.length - i).toNat ∧ ((0 ≤ i) ∧ (i ≤ v.ands.length)) ∧ σ = St.of [(1, .one (.loc (2, 0) 0)), (5, .one (.own (51, 0))), (6, .one (.c (.int .i64 i)))] [((2, 0), .box 47 (v.pcs false)), ((51, 0), rowS (toldS v i.toNat))] [1, 50]) _ ⟨_, ?_, 0, rfl, ?_, rfl⟩ ?_
      · refine wk_conv [] [((2, 0), (2, 0)), ((51, 0), (51, 0))] (by simp) (by simp) (by decide) ?_ ?_
        · refine hf_cons (by simp (dsimp := false) only [push_cast, ↓reduceIte, Nat.reduceEqDiff, Nat.reduceAdd, reduceCtorEq, hz1, hz2, hz3] <;> rfl) (by exact .one (.loc (by simp))) ?_
          refine hf_cons (by simp (dsimp := false) only [push_cast, ↓reduceIte, Nat.reduceEqDiff, Nat.reduceAdd, reduceCtorEq, hz1, hz2, hz3] <;> rfl) (by exact .one (.own (by simp))) ?_
          refine hf_cons (by simp (dsimp := false) only [push_cast, ↓reduceIte, Nat.reduceEqDiff, Nat.reduceAdd, reduceCtorEq, hz1, hz2, hz3] <;> rfl) (by exact ConvV.self rfl) ?_
          exact hf_nil
        · refine hh_cons (i := (2, 0)) (by simp) (by simp) (by simp (dsimp := false) only [push_cast, ↓reduceIte, Nat.reduceEqDiff, Nat.reduceAdd, reduceCtorEq, hz1, hz2, hz3] <;> rfl) (by first | (refine ConvB.free ?_; simp only [push_cast, strs_free]; done) | (refine ConvB.box ?_; repeat' (first | exact ConvVs.nil | exact ConvL.nil | refine ConvV.tup ?_ | refine ConvVs.cons ?_ ?_ | (refine ConvV.self ?_; simp only [push_cast, strs_free]; done) | refine ConvV.one ?_ | refine ConvV.agg ?_ | (refine ConvL.free ?_; simp only [push_cast, strs_free]; done) | refine ConvL.append ?_ ?_ | refine ConvL.cons ?_ ?_ | exact Conv.free rfl | exact Conv.nil | (refine Conv.own ?_; simp; done) | (refine Conv.loc ?_; simp; done) | refine Conv.frz (by simp) (by simp (dsimp := false) only [push_cast, ↓reduceIte, Nat.reduceEqDiff, Nat.reduceAdd, reduceCtorEq, hz1, hz2, hz3] <;> rfl) ?_ | refine Conv.sl (by simp) ?_ | refine Conv.fn ?_))) ?_
          refine hh_cons (i := (51, 0)) (by simp) (by simp) (by simp (dsimp := false) only [push_cast, ↓reduceIte, Nat.reduceEqDiff, Nat.reduceAdd, reduceCtorEq, hz1, hz2, hz3] <;> rfl) (by exact ConvB.arr (ConvL.free (strs_free (toldS v (Int.toNat 0))))) ?_
          exact hh_nil
      · exact ⟨by omega, by omega⟩
      · rintro m τ ⟨i, hm, ⟨hi0, hi1⟩, rfl⟩ K hL3
        have hw := fun h : i < (v.ands.length : Int) => wrap_next hi0 h (by have := hf.ands; omega)
        have hd := fun h : i < (v.ands.length : Int) => dropI_two (fun g : Int × Int => PC.c (Value.int .i64 g.1)) (fun g => PC.c (Value.int .i64 g.2)) hi0 h
        have hlen := toldS_len hi0 hi1
        refine vwp_seq fun K hK => ?_
        refine vwp_seq_region rfl fun K hK => ?_
        simp (dsimp := false) only [push_cast, hP, hnt, hgw, hgb, Nat.reduceLT, Nat.reduceEqDiff, Nat.reduceAdd, Nat.reduceSub, Nat.reduceMul, Nat.reduceLeDiff, ↓reduceIte, reduceCtorEq, hz1, hz2, hz3, hi0, rowS]
        refine hK _ ?_; clear hK
        refine vwp_cond (b := _) (by simp (dsimp := false) only [push_cast, hP, hnt, hgw, hgb, Nat.reduceLT, Nat.reduceEqDiff, Nat.reduceAdd, Nat.reduceSub, Nat.reduceMul, Nat.reduceLeDiff, ↓reduceIte, reduceCtorEq, hz1, hz2, hz3, hi0, rowS]; rfl) (fun rb3 => ?_) (fun rb3 => ?_)
        · have hb3 := rb3
          try simp only [beq_iff_eq, bne_iff_ne, ne_eq, bne_eq_false_iff_eq, beq_eq_false_iff_ne, decide_eq_true_eq, decide_eq_false_iff_not, Bool.not_eq_true', Bool.not_eq_false', Bool.or_eq_true, Bool.and_eq_true, Bool.or_eq_false_iff, Bool.and_eq_false_iff] at hb3
          have hw := hw hb3
          have hd := hd hb3
          have hbx := hb3
          have hga := hs.each _ (atI_mem hi0 hb3)
          unfold gateF at hga
          rw [Bool.and_eq_true] at hga
          have hg1 := inTo_spec hga.1
          have hg2 := inTo_spec hga.2
          have q3 := digB_size (n := (atI v.ands i).1) (by omega) (by omega)
          have q4 := digB_size (n := (atI v.ands i).2) (by omega) (by omega)
          have l4 : (⟨#[97, 110, 100, 32]⟩ : ByteArray).size = 4 := rfl
          have l1 : (⟨#[32]⟩ : ByteArray).size = 1 := rfl
          have hz4 : (⟨#[97, 110, 100, 32]⟩ : ByteArray).size + (digB (atI v.ands i).1).size ≤ 9223372036854775807 := by omega
          have hz5 : ((⟨#[97, 110, 100, 32]⟩ : ByteArray) ++ digB (atI v.ands i).1).size + (⟨#[32]⟩ : ByteArray).size ≤ 9223372036854775807 := by rw [ByteArray.size_append]; omega
          have hz6 : ((⟨#[97, 110, 100, 32]⟩ : ByteArray) ++ digB (atI v.ands i).1 ++ (⟨#[32]⟩ : ByteArray)).size + (digB (atI v.ands i).2).size ≤ 9223372036854775807 := by rw [ByteArray.size_append, ByteArray.size_append]; omega
          have hz7 : (toldS v i.toNat).length + 1 ≤ 140737488355328 := by have := hs.few; omega
          have hz8 : ((toldS v i.toNat).length + 1) * 16 ≤ 140737488355328 := by have := hs.few; omega
          refine vwp_skip ?_
          apply_assumption
          refine vwp_seq fun K hK => ?_
          refine vwp_block ?_
          refine vwp_seq_region rfl fun K hK => ?_
          simp (dsimp := false) only [push_cast, hP, hnt, hgw, hgb, Nat.reduceLT, Nat.reduceEqDiff, Nat.reduceAdd, Nat.reduceSub, Nat.reduceMul, Nat.reduceLeDiff, ↓reduceIte, reduceCtorEq, hz1, hz2, hz3, hi0, rowS, hw, hd, hb3, hz4, hz5, hz6, hz7, hz8]
          refine hK _ ?_; clear hK
          refine vwp_anyF [[], [], [1], [1, 2], [1, 2, 3], [1, 2, 3, 4], [], [6], [1, 2, 3, 6, 7], [1, 2, 3, 4, 5, 6, 7, 8], [1, 2, 3, 4, 5, 6, 7, 8, 9], [0, 1, 2, 3, 4, 5, 6, 7, 8, 9, 10], [0, 1, 2, 3, 4, 5, 6, 7, 8, 9, 10, 11]] [([(67, .dead), (68, .dead), (69, .dead), (70, .dead), (71, .dead), (72, .dead), (73, .dead), (74, .dead), (75, .dead), (76, .dead), (77, .dead), (78, .old), (5, .old)], [68, 69, 70, 71, 72, 73, 74, 75, 76, 77, 78, 5], []), ([(67, .dead), (68, .dead), (69, .old), (70, .old), (71, .old), (72, .old), (73, .dead), (74, .dead), (75, .old), (76, .old), (77, .old), (78, .old), (5, .old)], [67, 69, 70, 71, 72, 73, 74, 75, 76, 77, 78, 5], []), ([(67, .dead), (68, .dep 0), (69, .dead), (70, .old), (71, .old), (72, .old), (73, .dead), (74, .dead), (75, .old), (76, .old), (77, .old), (78, .old), (5, .old)], [67, 70, 71, 72, 73, 74, 75, 76, 77, 78, 5], [0]), ([(67, .dead), (68, .dep 1), (69, .dep 0), (70, .dead), (71, .old), (72, .old), (73, .dead), (74, .dead), (75, .old), (76, .old), (77, .old), (78, .old), (5, .old)], [67, 71, 72, 73, 74, 75, 76, 77, 78, 5], [1, 0]), ([(67, .dead), (68, .dep 2), (69, .dep 1), (70, .dep 0), (71, .dead), (72, .old), (73, .dead), (74, .dead), (75, .dead), (76, .old), (77, .old), (78, .old), (5, .old)], [67, 72, 73, 74, 75, 76, 77, 78, 5], [2, 1, 0]), ([(67, .dead), (68, .dep 3), (69, .dep 2), (70, .dep 1), (71, .dep 0), (72, .dead), (73, .dead), (74, .dead), (75, .dead), (76, .old), (77, .old), (78, .old), (5, .old)], [67, 73, 74, 75, 76, 77, 78, 5], [3, 2, 1, 0]), ([(67, .dead), (68, .dead), (69, .dead), (70, .dead), (71, .dead), (72, .dead), (73, .dead), (74, .old), (75, .old), (76, .old), (77, .old), (78, .old), (5, .old)], [67, 68, 69, 70, 71, 72, 74, 75, 76, 77, 78, 5], []), ([(67, .dead), (68, .dead), (69, .dead), (70, .dead), (71, .dead), (72, .dead), (73, .dep 0), (74, .dead), (75, .old), (76, .old), (77, .old), (78, .old), (5, .old)], [67, 68, 69, 70, 71, 72, 75, 76, 77, 78, 5], [0]), ([(67, .dead), (68, .dep 6), (69, .dep 5), (70, .dep 4), (71, .dead), (72, .dead), (73, .dep 1), (74, .dep 0), (75, .dead), (76, .old), (77, .old), (78, .old), (5, .old)], [67, 71, 72, 76, 77, 78, 5], [6, 5, 4, 1, 0]), ([(67, .dead), (68, .dep 7), (69, .dep 6), (70, .dep 5), (71, .dep 4), (72, .dep 3), (73, .dep 2), (74, .dep 1), (75, .dep 0), (76, .dead), (77, .old), (78, .old), (5, .old)], [67, 77, 78, 5], [7, 6, 5, 4, 3, 2, 1, 0]), ([(67, .dead), (68, .dep 8), (69, .dep 7), (70, .dep 6), (71, .dep 5), (72, .dep 4), (73, .dep 3), (74, .dep 2), (75, .dep 1), (76, .dep 0), (77, .dead), (78, .old), (5, .old)], [67, 78, 5], [8, 7, 6, 5, 4, 3, 2, 1, 0]), ([(67, .dep 10), (68, .dep 9), (69, .dep 8), (70, .dep 7), (71, .dep 6), (72, .dep 5), (73, .dep 4), (74, .dep 3), (75, .dep 2), (76, .dep 1), (77, .dep 0), (78, .dead), (5, .old)], [5], [10, 9, 8, 7, 6, 5, 4, 3, 2, 1, 0]), ([(67, .dep 11), (68, .dep 10), (69, .dep 9), (70, .dep 8), (71, .dep 7), (72, .dep 6), (73, .dep 5), (74, .dep 4), (75, .dep 3), (76, .dep 2), (77, .dep 1), (78, .dep 0), (5, .dead)], [], [11, 10, 9, 8, 7, 6, 5, 4, 3, 2, 1, 0])] (by rw [hP]; exact mixed) rfl rfl rfl ?_
          simp (dsimp := false) only [push_cast, hP, hnt, hgw, hgb, Nat.reduceLT, Nat.reduceEqDiff, Nat.reduceAdd, Nat.reduceSub, Nat.reduceMul, Nat.reduceLeDiff, ↓reduceIte, reduceCtorEq, hz1, hz2, hz3, hi0, rowS, hw, hd, hb3, hz4, hz5, hz6, hz7, hz8, Nat.reduceBNe, Nat.reduceBEq]
          refine .inl (callE_intro (digits_call gw gb _ (by omega) (by omega)) (.inl ⟨rfl, rfl⟩) ?_)
          simp (dsimp := false) only [push_cast, hP, hnt, hgw, hgb, Nat.reduceLT, Nat.reduceEqDiff, Nat.reduceAdd, Nat.reduceSub, Nat.reduceMul, Nat.reduceLeDiff, ↓reduceIte, reduceCtorEq, hz1, hz2, hz3, hi0, rowS, hw, hd, hb3, hz4, hz5, hz6, hz7, hz8, Nat.reduceBNe, Nat.reduceBEq]
          refine .inl (callE_intro (digits_call gw gb _ (by omega) (by omega)) (.inl ⟨rfl, rfl⟩) ?_)
          simp (dsimp := false) only [push_cast, hP, hnt, hgw, hgb, Nat.reduceLT, Nat.reduceEqDiff, Nat.reduceAdd, Nat.reduceSub, Nat.reduceMul, Nat.reduceLeDiff, ↓reduceIte, reduceCtorEq, hz1, hz2, hz3, hi0, rowS, hw, hd, hb3, hz4, hz5, hz6, hz7, hz8, Nat.reduceBNe, Nat.reduceBEq]
          refine ⟨rfl, ?_⟩
          apply_assumption
          refine vwp_region rfl ?_
          simp (dsimp := false) only [push_cast, hP, hnt, hgw, hgb, Nat.reduceLT, Nat.reduceEqDiff, Nat.reduceAdd, Nat.reduceSub, Nat.reduceMul, Nat.reduceLeDiff, ↓reduceIte, reduceCtorEq, hz1, hz2, hz3, hi0, rowS, hw, hd, hb3, hz4, hz5, hz6, hz7, hz8]
          refine hL3 _ _ _ ?_ ?_ ⟨i + 1, rfl, ?_, rfl⟩
          · omega
          · refine wk_conv [] [((2, 0), (2, 0)), ((79, 0), (51, 0))] (by simp) (by simp) (by decide) ?_ ?_
            · refine hf_cons (by simp (dsimp := false) only [push_cast, ↓reduceIte, Nat.reduceEqDiff, Nat.reduceAdd, reduceCtorEq, hz1, hz2, hz3, hi0, rowS, hw, hd, hb3, hz4, hz5, hz6, hz7, hz8] <;> rfl) (by exact .one (.loc (by simp))) ?_
              refine hf_cons (by simp (dsimp := false) only [push_cast, ↓reduceIte, Nat.reduceEqDiff, Nat.reduceAdd, reduceCtorEq, hz1, hz2, hz3, hi0, rowS, hw, hd, hb3, hz4, hz5, hz6, hz7, hz8] <;> rfl) (by exact .one (.own (by simp))) ?_
              refine hf_cons (by simp (dsimp := false) only [push_cast, ↓reduceIte, Nat.reduceEqDiff, Nat.reduceAdd, reduceCtorEq, hz1, hz2, hz3, hi0, rowS, hw, hd, hb3, hz4, hz5, hz6, hz7, hz8] <;> rfl) (by exact ConvV.self rfl) ?_
              exact hf_nil
            · refine hh_cons (i := (2, 0)) (by simp) (by simp) (by simp (dsimp := false) only [push_cast, ↓reduceIte, Nat.reduceEqDiff, Nat.reduceAdd, reduceCtorEq, hz1, hz2, hz3, hi0, rowS, hw, hd, hb3, hz4, hz5, hz6, hz7, hz8] <;> rfl) (by first | (refine ConvB.free ?_; simp only [push_cast, strs_free]; done) | (refine ConvB.box ?_; repeat' (first | exact ConvVs.nil | exact ConvL.nil | refine ConvV.tup ?_ | refine ConvVs.cons ?_ ?_ | (refine ConvV.self ?_; simp only [push_cast, strs_free]; done) | refine ConvV.one ?_ | refine ConvV.agg ?_ | (refine ConvL.free ?_; simp only [push_cast, strs_free]; done) | refine ConvL.append ?_ ?_ | refine ConvL.cons ?_ ?_ | exact Conv.free rfl | exact Conv.nil | (refine Conv.own ?_; simp; done) | (refine Conv.loc ?_; simp; done) | refine Conv.frz (by simp) (by simp (dsimp := false) only [push_cast, ↓reduceIte, Nat.reduceEqDiff, Nat.reduceAdd, reduceCtorEq, hz1, hz2, hz3, hi0, rowS, hw, hd, hb3, hz4, hz5, hz6, hz7, hz8] <;> rfl) ?_ | refine Conv.sl (by simp) ?_ | refine Conv.fn ?_))) ?_
              refine hh_cons (i := (79, 0)) (by simp) (by simp) (by simp (dsimp := false) only [push_cast, ↓reduceIte, Nat.reduceEqDiff, Nat.reduceAdd, reduceCtorEq, hz1, hz2, hz3, hi0, rowS, hw, hd, hb3, hz4, hz5, hz6, hz7, hz8] <;> rfl) (by rw [toldS_next hi0 hbx]; simp only [rowS, List.map_append, List.length_append]; exact ConvB.arr (ConvL.free (by rw [frees_append, strs_free]; rfl))) ?_
              exact hh_nil
          · exact ⟨by omega, by omega⟩
        · have hb3 := rb3
          try simp only [beq_iff_eq, bne_iff_ne, ne_eq, bne_eq_false_iff_eq, beq_eq_false_iff_ne, decide_eq_true_eq, decide_eq_false_iff_not, Bool.not_eq_true', Bool.not_eq_false', Bool.or_eq_true, Bool.and_eq_true, Bool.or_eq_false_iff, Bool.and_eq_false_iff] at hb3
          have hend : i.toNat = v.ands.length := by omega
          have hz7 : (toldS v v.ands.length).length + 1 ≤ 140737488355328 := by have := hs.few; rw [← hend, hlen]; omega
          have hz8 : ((toldS v v.ands.length).length + 1) * 16 ≤ 140737488355328 := by have := hs.few; rw [← hend, hlen]; omega
          refine vwp_exit ?_
          simp only [thenQ, blockQ, Nat.reduceEqDiff, reduceIte]
          apply_assumption
          refine vwp_seq_region rfl fun K hK => ?_
          simp (dsimp := false) only [push_cast, hP, hnt, hgw, hgb, Nat.reduceLT, Nat.reduceEqDiff, Nat.reduceAdd, Nat.reduceSub, Nat.reduceMul, Nat.reduceLeDiff, ↓reduceIte, reduceCtorEq, hz1, hz2, hz3, hi0, rowS, hend, hz7, hz8]
          refine .inl (callE_intro (digits_call gw gb v.lit (by have := hs.lit; omega) (by have := hs.lit; omega)) (.inl ⟨rfl, rfl⟩) ?_)
          simp (dsimp := false) only [push_cast, hP, hnt, hgw, hgb, Nat.reduceLT, Nat.reduceEqDiff, Nat.reduceAdd, Nat.reduceSub, Nat.reduceMul, Nat.reduceLeDiff, ↓reduceIte, reduceCtorEq, hz1, hz2, hz3, hi0, rowS, hend, hz7, hz8]
          refine hK _ ?_; clear hK
          refine vwp_ret ?_
          refine ret_conv [(88, 0)] [] (by simp (dsimp := false) only [push_cast, hP, hnt, hgw, hgb, Nat.reduceLT, Nat.reduceEqDiff, Nat.reduceAdd, Nat.reduceSub, Nat.reduceMul, Nat.reduceLeDiff, ↓reduceIte, reduceCtorEq, hz1, hz2, hz3, hi0, rowS, hend, hz7, hz8]; rfl) (by simp) (by simp) (by first | decide | simp) ?_ ?_
          · simp only [pack]
            rw [show toldF v = toldS v v.ands.length ++ [sLit v.lit] from by unfold toldF; rw [if_neg ‹_›, if_pos ‹_›], List.map_append, List.length_append]
            repeat' (first | exact ConvVs.nil | exact ConvL.nil | refine ConvV.tup ?_ | refine ConvVs.cons ?_ ?_ | (refine ConvV.self ?_; simp only [push_cast, strs_free]; done) | refine ConvV.one ?_ | refine ConvV.agg ?_ | (refine ConvL.free ?_; simp only [push_cast, strs_free]; done) | refine ConvL.append ?_ ?_ | refine ConvL.cons ?_ ?_ | exact Conv.free rfl | exact Conv.nil | (refine Conv.own ?_; simp; done) | (refine Conv.loc ?_; simp; done) | refine Conv.frz (by simp) (by simp (dsimp := false) only [push_cast, ↓reduceIte, Nat.reduceEqDiff, Nat.reduceAdd, reduceCtorEq, hz1, hz2, hz3, hi0, rowS, hend, hz7, hz8] <;> rfl) ?_ | refine Conv.sl (by simp) ?_ | refine Conv.fn ?_)
          · exact rb_nil
    · have hb2 := rb2
      try simp only [beq_iff_eq, bne_iff_ne, ne_eq, bne_eq_false_iff_eq, beq_eq_false_iff_ne, decide_eq_true_eq, decide_eq_false_iff_not, Bool.not_eq_true', Bool.not_eq_false', Bool.or_eq_true, Bool.and_eq_true, Bool.or_eq_false_iff, Bool.and_eq_false_iff] at hb2
      refine vwp_skip ?_
      apply_assumption
      refine vwp_seq_region rfl fun K hK => ?_
      simp (dsimp := false) only [push_cast, hP, hnt, hgw, hgb, Nat.reduceLT, Nat.reduceEqDiff, Nat.reduceAdd, Nat.reduceSub, Nat.reduceMul, Nat.reduceLeDiff, ↓reduceIte, reduceCtorEq]
      refine hK _ ?_; clear hK
      refine vwp_ret ?_
      refine ret_conv [(89, 0)] [] (by simp (dsimp := false) only [push_cast, hP, hnt, hgw, hgb, Nat.reduceLT, Nat.reduceEqDiff, Nat.reduceAdd, Nat.reduceSub, Nat.reduceMul, Nat.reduceLeDiff, ↓reduceIte, reduceCtorEq]; rfl) (by simp) (by simp) (by first | decide | simp) ?_ ?_
      · simp only [pack]
        rw [show toldF v = [wUNKNOWN] from by unfold toldF; rw [if_neg ‹_›, if_neg ‹_›]]
        repeat' (first | exact ConvVs.nil | exact ConvL.nil | refine ConvV.tup ?_ | refine ConvVs.cons ?_ ?_ | (refine ConvV.self ?_; simp only [push_cast, strs_free]; done) | refine ConvV.one ?_ | refine ConvV.agg ?_ | (refine ConvL.free ?_; simp only [push_cast, strs_free]; done) | refine ConvL.append ?_ ?_ | refine ConvL.cons ?_ ?_ | exact Conv.free rfl | exact Conv.nil | (refine Conv.own ?_; simp; done) | (refine Conv.loc ?_; simp; done) | refine Conv.frz (by simp) (by simp (dsimp := false) only [push_cast, ↓reduceIte, Nat.reduceEqDiff, Nat.reduceAdd, reduceCtorEq] <;> rfl) ?_ | refine Conv.sl (by simp) ?_ | refine Conv.fn ?_)
      · exact rb_nil
end Go.Vm
end

section
namespace Go.Vm
open Go Go.RowKit Go.Proofs
set_option maxRecDepth 100000
set_option linter.unusedSimpArgs false
set_option linter.unusedVariables false
set_option maxHeartbeats 4000000

theorem data_app (a b : ByteArray) : (a ++ b).data.toList = a.data.toList ++ b.data.toList := by rw [ByteArray.data_append, Array.toList_append]
theorem lineL_one (a : ByteArray) : lineL [a] = nlL a := by unfold lineL nlL; rw [joinS_one, data_app]
theorem bOf_data (l : List UInt8) : (bOf l).data.toList = l := rfl
theorem lineL_two (a b : ByteArray) : lineL [a, b] = nlL (a ++ spB ++ b) := by
  unfold lineL nlL; rw [joinS_two, data_app, data_app, data_app, bOf_data]; simp
theorem lineL_three (a b c : ByteArray) : lineL [a, b, c] = nlL (a ++ spB ++ b ++ spB ++ c) := by
  unfold lineL nlL; rw [joinS_three, data_app, data_app, data_app, data_app, data_app, bOf_data]; simp
theorem ba_assoc (a b c : ByteArray) : a ++ b ++ c = a ++ (b ++ c) := ByteArray.append_assoc
theorem joined_app (a b : List ByteArray) : joinedL (a ++ b) = joinedL a ++ joinedL b := by unfold joinedL; rw [List.flatMap_append]
theorem flatMap_congr' {α β : Type} {l : List α} {f g : α → List β} (h : ∀ a ∈ l, f a = g a) : l.flatMap f = l.flatMap g := by
  induction l with
  | nil => rfl
  | cons a l ih => rw [List.flatMap_cons, List.flatMap_cons, h a (by simp), ih fun b hb => h b (List.mem_cons_of_mem _ hb)]
theorem joined_map {α : Type} (l : List α) (f : α → ByteArray) : joinedL (l.map f) = l.flatMap fun a => nlL (f a) := by unfold joinedL; rw [List.flatMap_map]
theorem joined_two (a b : ByteArray) : joinedL [a, b] = nlL a ++ nlL b := by simp [joinedL]
theorem joined_three (a b c : ByteArray) : joinedL [a, b, c] = nlL a ++ nlL b ++ nlL c := by simp [joinedL]
theorem joined_one (a : ByteArray) : joinedL [a] = nlL a := by simp [joinedL]
theorem lineAnd_eq {g : Int × Int} (h : gateF g = true) : lineAnd g = nlL (sAnd g) := by
  unfold gateF at h
  rw [Bool.and_eq_true] at h
  unfold lineAnd sAnd
  rw [lineL_three, digB_eq (inTo_spec h.1).1, digB_eq (inTo_spec h.2).1]
  rfl
theorem joined_told {v : Ver} (hm : mayF v = true) : joinedL (toldF v) = verdictL v := by
  rcases may_kind hm with h | h | h
  · unfold toldF verdictL
    rw [if_neg (by omega), if_neg (by omega), if_pos h, joined_one, lineL_one]
  · unfold toldF verdictL toldU preUnsafe
    rw [if_pos h, if_neg (by omega), if_pos h, joined_app, joined_two, lineL_one, lineL_two, List.take_length, joined_map]
    congr 1
    exact flatMap_congr' fun l _ => by unfold lineIn; rw [lineL_two]; rfl
  · have hs := may_safe hm h
    unfold toldF verdictL toldS preSafe
    rw [if_neg (by omega), if_pos h, if_neg (by omega), if_neg (by omega), joined_app, joined_app, joined_three, lineL_one, lineL_two, lineL_two, lineL_two, List.take_length, joined_map, joined_one, digB_eq hs.skip.1, digB_eq hs.phases.1, digB_eq hs.lit.1]
    congr 1
    congr 1
    exact flatMap_congr' fun g hg => (lineAnd_eq (hs.each g hg)).symm
theorem verdictL_len {v : Ver} (hm : mayF v = true) : (verdictL v).length ≤ 3000000 := by
  rcases may_kind hm with h | h | h
  · rw [vL3 h, lineL_size]; have := j_one wUNKNOWN (by decide); omega
  · rw [vL2 h]; have := rowUnsafe_len (may_unsafe hm h) v.inputs.length; rw [List.take_length] at this; omega
  · rw [vL1 h, List.length_append, lineL_size]
    have hs := may_safe hm h
    have := rowSafe_len hs v.ands.length; rw [List.take_length] at this
    have := j_itoa wlit (by decide) hs.lit
    omega
theorem toldF_len {v : Ver} (hm : mayF v = true) : (toldF v).length ≤ 100000 := by
  unfold toldF
  split
  · rename_i h
    have := toldU_len (v := v) (i := v.inputs.length) (by omega) (by omega)
    have := (may_unsafe hm h).few
    rw [Int.toNat_natCast] at *; omega
  · split
    · rename_i h
      have := toldS_len (v := v) (i := v.ands.length) (by omega) (by omega)
      have := (may_safe hm h).few
      rw [Int.toNat_natCast] at *
      rw [List.length_append]; simp; omega
    · simp
theorem refVerdict_call (gw : World) (gb : Nat) (v : Ver) (hf : Fit v) : VCall Tryd.prog gw (gb) 16 [.agg (v.pcs false)] (.tup [.one (.c (.string (verdictF v).1)), .one (.c (.int .i64 (verdictF v).2))]) [] := by
  refine vcall_of [.tmp 2, .tmp 3] Tryd.func16 rfl rfl Tryd.ntmps16 rfl (by simp) ?_
  intro C hP hnt hgw hgb hfull
  refine vwp_seq_region rfl fun K hK => ?_
  simp (dsimp := false) only [push_cast, hP, hnt, hgw, hgb, Nat.reduceLT, Nat.reduceEqDiff, Nat.reduceAdd, Nat.reduceSub, Nat.reduceMul, Nat.reduceLeDiff, ↓reduceIte, reduceCtorEq, bOf_size]
  refine hK _ ?_; clear hK
  refine vwp_seq fun K hK => ?_
  refine vwp_seq_region rfl fun K hK => ?_
  simp (dsimp := false) only [push_cast, hP, hnt, hgw, hgb, Nat.reduceLT, Nat.reduceEqDiff, Nat.reduceAdd, Nat.reduceSub, Nat.reduceMul, Nat.reduceLeDiff, ↓reduceIte, reduceCtorEq, bOf_size]
  refine .inl (callE_intro (refMay_call gw gb v hf) (.inl ⟨rfl, rfl⟩) ?_)
  simp (dsimp := false) only [push_cast, hP, hnt, hgw, hgb, Nat.reduceLT, Nat.reduceEqDiff, Nat.reduceAdd, Nat.reduceSub, Nat.reduceMul, Nat.reduceLeDiff, ↓reduceIte, reduceCtorEq, bOf_size]
  refine hK _ ?_; clear hK
  refine vwp_cond (b := _) (by simp (dsimp := false) only [push_cast, hP, hnt, hgw, hgb, Nat.reduceLT, Nat.reduceEqDiff, Nat.reduceAdd, Nat.reduceSub, Nat.reduceMul, Nat.reduceLeDiff, ↓reduceIte, reduceCtorEq, bOf_size]; rfl) (fun rb0 => ?_) (fun rb0 => ?_)
  · have hb0 := rb0
    try simp only [beq_iff_eq, bne_iff_ne, ne_eq, bne_eq_false_iff_eq, beq_eq_false_iff_ne, decide_eq_true_eq, decide_eq_false_iff_not, Bool.not_eq_true', Bool.not_eq_false', Bool.or_eq_true, Bool.and_eq_true, Bool.or_eq_false_iff, Bool.and_eq_false_iff] at hb0
    refine vwp_seq_region rfl fun K hK => ?_
    simp (dsimp := false) only [push_cast, hP, hnt, hgw, hgb, Nat.reduceLT, Nat.reduceEqDiff, Nat.reduceAdd, Nat.reduceSub, Nat.reduceMul, Nat.reduceLeDiff, ↓reduceIte, reduceCtorEq, bOf_size]
    refine hK _ ?_; clear hK
    refine vwp_ret ?_
    refine ret_free (by simp (dsimp := false) only [push_cast, hP, hnt, hgw, hgb, Nat.reduceLT, Nat.reduceEqDiff, Nat.reduceAdd, Nat.reduceSub, Nat.reduceMul, Nat.reduceLeDiff, ↓reduceIte, reduceCtorEq, bOf_size]; rfl) (by simp (dsimp := false) only [push_cast, hP, hnt, hgw, hgb, Nat.reduceLT, Nat.reduceEqDiff, Nat.reduceAdd, Nat.reduceSub, Nat.reduceMul, Nat.reduceLeDiff, ↓reduceIte, reduceCtorEq, bOf_size]) ?_
    rw [verdictF_no hb0]; rfl
  · have hb0 := rb0
    try simp only [beq_iff_eq, bne_iff_ne, ne_eq, bne_eq_false_iff_eq, beq_eq_false_iff_ne, decide_eq_true_eq, decide_eq_false_iff_not, Bool.not_eq_true', Bool.not_eq_false', Bool.or_eq_true, Bool.and_eq_true, Bool.or_eq_false_iff, Bool.and_eq_false_iff] at hb0
    have hjt := joined_told hb0
    refine vwp_skip ?_
    apply_assumption
    refine vwp_seq_region rfl fun K hK => ?_
    simp (dsimp := false) only [push_cast, hP, hnt, hgw, hgb, Nat.reduceLT, Nat.reduceEqDiff, Nat.reduceAdd, Nat.reduceSub, Nat.reduceMul, Nat.reduceLeDiff, ↓reduceIte, reduceCtorEq, bOf_size, hjt]
    refine .inl (callE_intro (told_call gw gb v hf hb0) (.inl ⟨by simp only [push_cast], rfl⟩) ?_)
    simp (dsimp := false) only [push_cast, hP, hnt, hgw, hgb, Nat.reduceLT, Nat.reduceEqDiff, Nat.reduceAdd, Nat.reduceSub, Nat.reduceMul, Nat.reduceLeDiff, ↓reduceIte, reduceCtorEq, bOf_size, hjt]
    refine .inl (callE_intro (joined_call gw gb (toldF v) (toldF_len hb0) (by rw [joined_told hb0]; have := verdictL_len hb0; omega)) (.inl ⟨rfl, rfl⟩) ?_)
    simp (dsimp := false) only [push_cast, hP, hnt, hgw, hgb, Nat.reduceLT, Nat.reduceEqDiff, Nat.reduceAdd, Nat.reduceSub, Nat.reduceMul, Nat.reduceLeDiff, ↓reduceIte, reduceCtorEq, bOf_size, hjt]
    refine hK _ ?_; clear hK
    refine vwp_seq fun K hK => ?_
    refine vwp_seq_region rfl fun K hK => ?_
    simp (dsimp := false) only [push_cast, hP, hnt, hgw, hgb, Nat.reduceLT, Nat.reduceEqDiff, Nat.reduceAdd, Nat.reduceSub, Nat.reduceMul, Nat.reduceLeDiff, ↓reduceIte, reduceCtorEq, bOf_size, hjt]
    refine hK _ ?_; clear hK
    refine vwp_cond (b := _) (by simp (dsimp := false) only [push_cast, hP, hnt, hgw, hgb, Nat.reduceLT, Nat.reduceEqDiff, Nat.reduceAdd, Nat.reduceSub, Nat.reduceMul, Nat.reduceLeDiff, ↓reduceIte, reduceCtorEq, bOf_size, hjt]; rfl) (fun rb1 => ?_) (fun rb1 => ?_)
    · have hb1 := rb1
      try simp only [beq_iff_eq, bne_iff_ne, ne_eq, bne_eq_false_iff_eq, beq_eq_false_iff_ne, decide_eq_true_eq, decide_eq_false_iff_not, Bool.not_eq_true', Bool.not_eq_false', Bool.or_eq_true, Bool.and_eq_true, Bool.or_eq_false_iff, Bool.and_eq_false_iff] at hb1
      refine vwp_seq_region rfl fun K hK => ?_
      simp (dsimp := false) only [push_cast, hP, hnt, hgw, hgb, Nat.reduceLT, Nat.reduceEqDiff, Nat.reduceAdd, Nat.reduceSub, Nat.reduceMul, Nat.reduceLeDiff, ↓reduceIte, reduceCtorEq, bOf_size, hjt]
      refine hK _ ?_; clear hK
      refine vwp_ret ?_
      refine ret_free (by simp (dsimp := false) only [push_cast, hP, hnt, hgw, hgb, Nat.reduceLT, Nat.reduceEqDiff, Nat.reduceAdd, Nat.reduceSub, Nat.reduceMul, Nat.reduceLeDiff, ↓reduceIte, reduceCtorEq, bOf_size, hjt]; rfl) (by simp (dsimp := false) only [push_cast, hP, hnt, hgw, hgb, Nat.reduceLT, Nat.reduceEqDiff, Nat.reduceAdd, Nat.reduceSub, Nat.reduceMul, Nat.reduceLeDiff, ↓reduceIte, reduceCtorEq, bOf_size, hjt]) ?_
      rw [verdictF_big hb0 rfl hb1]; rfl
    · have hb1 := rb1
      try simp only [beq_iff_eq, bne_iff_ne, ne_eq, bne_eq_false_iff_eq, beq_eq_false_iff_ne, decide_eq_true_eq, decide_eq_false_iff_not, Bool.not_eq_true', Bool.not_eq_false', Bool.or_eq_true, Bool.and_eq_true, Bool.or_eq_false_iff, Bool.and_eq_false_iff] at hb1
      refine vwp_skip ?_
      apply_assumption
      refine vwp_seq_region rfl fun K hK => ?_
      simp (dsimp := false) only [push_cast, hP, hnt, hgw, hgb, Nat.reduceLT, Nat.reduceEqDiff, Nat.reduceAdd, Nat.reduceSub, Nat.reduceMul, Nat.reduceLeDiff, ↓reduceIte, reduceCtorEq, bOf_size, hjt]
      refine hK _ ?_; clear hK
      refine vwp_ret ?_
      refine ret_free (by simp (dsimp := false) only [push_cast, hP, hnt, hgw, hgb, Nat.reduceLT, Nat.reduceEqDiff, Nat.reduceAdd, Nat.reduceSub, Nat.reduceMul, Nat.reduceLeDiff, ↓reduceIte, reduceCtorEq, bOf_size, hjt]; rfl) (by simp (dsimp := false) only [push_cast, hP, hnt, hgw, hgb, Nat.reduceLT, Nat.reduceEqDiff, Nat.reduceAdd, Nat.reduceSub, Nat.reduceMul, Nat.reduceLeDiff, ↓reduceIte, reduceCtorEq, bOf_size, hjt]) ?_
      rw [verdictF_ok hb0 rfl hb1]; rfl
end Go.Vm
end
