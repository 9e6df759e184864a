/-
  Walks of the program's functions by the framework, and what they compute (PtAK). Conditions: each theorem's own premises. By an AI agent.
-/
import Derived.Test.YtnpbndglolcilaaGreatDoorPtAJ
section
namespace Go.Vm
open Go Go.RowKit Go.Proofs
set_option maxRecDepth 100000
set_option linter.unusedSimpArgs false
set_option linter.unusedVariables false
set_option maxHeartbeats 4000000

def bitc (b : Bool) : UInt8 := if b then 49 else 48
def bitsB (l : List Bool) : ByteArray := bOf (l.map bitc)
def bitsS (l : List Bool) : ByteArray := if l = [] then bOf [45] else bitsB l
def bitP (b : Bool) : PC := .c (.int .u8 (bitc b).toNat)
theorem bytesOf_map {α : Type} (f : α → UInt8) (l : List α) : bytesOf (l.map fun a => .c (.int .u8 (f a).toNat)) = some (l.map fun a => ((f a).toNat : Int)) := by
  induction l with
  | nil => rfl
  | cons a l ih => simp only [List.map_cons, bytesOf, ih]
theorem ofBytes_acc : ∀ (l : List UInt8) (b : ByteArray), (l.map fun a => (a.toNat : Int)).foldl (fun r n => r.push (UInt8.ofNat n.toNat)) b = b ++ bOf l
  | [], b => by apply ByteArray.ext; simp [bOf]
  | x :: l, b => by
    simp only [List.map_cons, List.foldl_cons, ofBytes_acc l]
    apply ByteArray.ext
    simp [bOf, ByteArray.data_append]
theorem ofBytes_eq (l : List UInt8) : ofBytes (l.map fun a => (a.toNat : Int)) = bOf l := by
  unfold ofBytes
  rw [ofBytes_acc]
  apply ByteArray.ext
  simp
theorem ofBytes_bits (l : List Bool) : ofBytes (l.map fun a => ((bitc a).toNat : Int)) = bitsB l := by
  have := ofBytes_eq (l.map bitc)
  rwa [List.map_map] at this
theorem bits_call (gw : World) (gb : Nat) (l : List Bool) (hl : l.length ≤ 100000) : VCall Tryz.prog gw (gb) 28 [.one (.sl false l.length (l.map fun b => .c (.bool b)))] (.one (.c (.string (bitsS l)))) [] := by
  have hz : rowZ [PC.c (Value.int .u8 0)] l.length = rowAt bitP (.c (.int .u8 0)) l (Int.toNat 0) := rowAt_zero
  have hm1 : (0 + 1) * (l.length : Int) ≤ 140737488355328 := by omega
  have hm2 : (l.length : Int) ≤ 140737488355328 := by omega
  have hm3 : (0 : Int) ≤ (l.length : Int) := by omega
  have hrf : ∀ k, PC.frees (rowAt bitP (.c (.int .u8 0)) l k) = true := fun k => rowAt_frees rfl fun _ => rfl
  refine vcall_of [.tmp 2] Tryz.func28 rfl rfl Tryz.ntmps28 rfl (by simp) ?_
  intro C hP hnt hgw hgb hfull
  refine vwp_seq_region rfl fun K hK => ?_
  simp (dsimp := false) only [push_cast, hP, hnt, hgw, hgb, Nat.reduceLT, Nat.reduceEqDiff, Nat.reduceAdd, Nat.reduceSub, Nat.reduceMul, Nat.reduceLeDiff, ↓reduceIte, reduceCtorEq, Int.toNat_natCast, hm1, hm2, hm3]
  refine hK _ ?_; clear hK
  refine vwp_seq fun K hK => ?_
  refine vwp_seq_region rfl fun K hK => ?_
  simp (dsimp := false) only [push_cast, hP, hnt, hgw, hgb, Nat.reduceLT, Nat.reduceEqDiff, Nat.reduceAdd, Nat.reduceSub, Nat.reduceMul, Nat.reduceLeDiff, ↓reduceIte, reduceCtorEq, Int.toNat_natCast, hm1, hm2, hm3]
  refine hK _ ?_; clear hK
  refine vwp_cond (b := _) (by simp (dsimp := false) only [push_cast, hP, hnt, hgw, hgb, Nat.reduceLT, Nat.reduceEqDiff, Nat.reduceAdd, Nat.reduceSub, Nat.reduceMul, Nat.reduceLeDiff, ↓reduceIte, reduceCtorEq, Int.toNat_natCast, hm1, hm2, hm3]; rfl) (fun rb0 => ?_) (fun rb0 => ?_)
  · have hb0 := rb0
    try simp only [beq_iff_eq, bne_iff_ne, ne_eq, bne_eq_false_iff_eq, beq_eq_false_iff_ne, decide_eq_true_eq, decide_eq_false_iff_not, Bool.not_eq_true', Bool.not_eq_false', Bool.or_eq_true, Bool.and_eq_true, Bool.or_eq_false_iff, Bool.and_eq_false_iff] at hb0
    refine vwp_seq_region rfl fun K hK => ?_
    simp (dsimp := false) only [push_cast, hP, hnt, hgw, hgb, Nat.reduceLT, Nat.reduceEqDiff, Nat.reduceAdd, Nat.reduceSub, Nat.reduceMul, Nat.reduceLeDiff, ↓reduceIte, reduceCtorEq, Int.toNat_natCast, hm1, hm2, hm3]
    refine hK _ ?_; clear hK
    refine vwp_ret ?_
    refine ret_free (by simp (dsimp := false) only [push_cast, hP, hnt, hgw, hgb, Nat.reduceLT, Nat.reduceEqDiff, Nat.reduceAdd, Nat.reduceSub, Nat.reduceMul, Nat.reduceLeDiff, ↓reduceIte, reduceCtorEq, Int.toNat_natCast, hm1, hm2, hm3]; rfl) (by simp (dsimp := false) only [push_cast, hP, hnt, hgw, hgb, Nat.reduceLT, Nat.reduceEqDiff, Nat.reduceAdd, Nat.reduceSub, Nat.reduceMul, Nat.reduceLeDiff, ↓reduceIte, reduceCtorEq, Int.toNat_natCast, hm1, hm2, hm3]) ?_
    rw [show bitsS l = bOf [45] from if_pos (List.length_eq_zero_iff.1 (by omega))]; rfl
  · have hb0 := rb0
    try simp only [beq_iff_eq, bne_iff_ne, ne_eq, bne_eq_false_iff_eq, beq_eq_false_iff_ne, decide_eq_true_eq, decide_eq_false_iff_not, Bool.not_eq_true', Bool.not_eq_false', Bool.or_eq_true, Bool.and_eq_true, Bool.or_eq_false_iff, Bool.and_eq_false_iff] at hb0
    refine vwp_skip ?_
    apply_assumption
    refine vwp_seq_region rfl fun K hK => ?_
    simp (dsimp := false) only [push_cast, hP, hnt, hgw, hgb, Nat.reduceLT, Nat.reduceEqDiff, Nat.reduceAdd, Nat.reduceSub, Nat.reduceMul, Nat.reduceLeDiff, ↓reduceIte, reduceCtorEq, Int.toNat_natCast, hm1, hm2, hm3]
    refine hK _ ?_; clear hK
    refine vwp_seq fun K hK => ?_
    refine vwp_seq_region rfl fun K hK => ?_
    simp (dsimp := false) only [push_cast, hP, hnt, hgw, hgb, Nat.reduceLT, Nat.reduceEqDiff, Nat.reduceAdd, Nat.reduceSub, Nat.reduceMul, Nat.reduceLeDiff, ↓reduceIte, reduceCtorEq, Int.toNat_natCast, hm1, hm2, hm3]
    refine hK _ ?_; clear hK
    refine vwp_block ?_
    refine vwp_loop (fun m σ => ∃ (i : Int), m = (l.length - i).toNat ∧ ((0 ≤ i) ∧ (i ≤ l.length)) ∧ σ = St.of [(3, .one (.own (12, 0))), (12, .one (.sl false l.length (l.map fun b => .c (.bool b)))), (13, .one (.c (.int .i64 l.length))), (14, .one (.c (.int .i64 i)))] [((12, 0), .arr 5 1 l.length (rowAt bitP (.c (.int .u8 0)) l i.toNat))] [11]) _ ⟨_, ?_, 0, rfl, ?_, rfl⟩ ?_
    · refine wk_conv [] [((12, 0), (12, 0))] (by simp) (by simp) (by decide) ?_ ?_
      · refine hf_cons (by simp (dsimp := false) only [push_cast, ↓reduceIte, Nat.reduceEqDiff, Nat.reduceAdd, reduceCtorEq, Int.toNat_natCast, hm1, hm2, hm3, hz] <;> rfl) (by exact .one (.own (by simp))) ?_
        refine hf_cons (by simp (dsimp := false) only [push_cast, ↓reduceIte, Nat.reduceEqDiff, Nat.reduceAdd, reduceCtorEq, Int.toNat_natCast, hm1, hm2, hm3, hz] <;> rfl) (by repeat' (first | exact ConvVs.nil | exact ConvL.nil | refine ConvV.tup ?_ | refine ConvVs.cons ?_ ?_ | (refine ConvV.self ?_; simp only [push_cast, hrf]; done) | refine ConvV.one ?_ | refine ConvV.agg ?_ | (refine ConvL.free ?_; simp only [push_cast, hrf]; done) | refine ConvL.append ?_ ?_ | refine ConvL.cons ?_ ?_ | exact Conv.free rfl | exact Conv.nil | (refine Conv.own ?_; simp; done) | (refine Conv.loc ?_; simp; done) | refine Conv.frz (by simp) (by simp (dsimp := false) only [push_cast, ↓reduceIte, Nat.reduceEqDiff, Nat.reduceAdd, reduceCtorEq, Int.toNat_natCast, hm1, hm2, hm3, hz] <;> rfl) ?_ | refine Conv.sl (by simp) ?_ | refine Conv.fn ?_)) ?_
        refine hf_cons (by simp (dsimp := false) only [push_cast, ↓reduceIte, Nat.reduceEqDiff, Nat.reduceAdd, reduceCtorEq, Int.toNat_natCast, hm1, hm2, hm3, hz] <;> rfl) (by exact ConvV.self rfl) ?_
        refine hf_cons (by simp (dsimp := false) only [push_cast, ↓reduceIte, Nat.reduceEqDiff, Nat.reduceAdd, reduceCtorEq, Int.toNat_natCast, hm1, hm2, hm3, hz] <;> rfl) (by exact ConvV.self rfl) ?_
        exact hf_nil
      · refine hh_cons (i := (12, 0)) (by simp) (by simp) (by simp (dsimp := false) only [push_cast, ↓reduceIte, Nat.reduceEqDiff, Nat.reduceAdd, reduceCtorEq, Int.toNat_natCast, hm1, hm2, hm3, hz] <;> rfl) (by first | (refine ConvB.free ?_; simp only [push_cast, hrf]; done) | (refine ConvB.arr ?_; repeat' (first | exact ConvVs.nil | exact ConvL.nil | refine ConvV.tup ?_ | refine ConvVs.cons ?_ ?_ | (refine ConvV.self ?_; simp only [push_cast, hrf]; done) | refine ConvV.one ?_ | refine ConvV.agg ?_ | (refine ConvL.free ?_; simp only [push_cast, hrf]; done) | refine ConvL.append ?_ ?_ | refine ConvL.cons ?_ ?_ | exact Conv.free rfl | exact Conv.nil | (refine Conv.own ?_; simp; done) | (refine Conv.loc ?_; simp; done) | refine Conv.frz (by simp) (by simp (dsimp := false) only [push_cast, ↓reduceIte, Nat.reduceEqDiff, Nat.reduceAdd, reduceCtorEq, Int.toNat_natCast, hm1, hm2, hm3, hz] <;> rfl) ?_ | refine Conv.sl (by simp) ?_ | refine Conv.fn ?_))) ?_
        exact hh_nil
    · exact ⟨by omega, by omega⟩
    · rintro m τ ⟨i, hm, ⟨hi0, hi1⟩, rfl⟩ K hL0
      have hw := fun h : i < (l.length : Int) => wrap_next hi0 h (by omega)
      have hd := fun h : i < (l.length : Int) => dropI_map (fun b => PC.c (Value.bool b)) hi0 h
      refine vwp_seq_region rfl fun K hK => ?_
      simp (dsimp := false) only [push_cast, hP, hnt, hgw, hgb, Nat.reduceLT, Nat.reduceEqDiff, Nat.reduceAdd, Nat.reduceSub, Nat.reduceMul, Nat.reduceLeDiff, ↓reduceIte, reduceCtorEq, Int.toNat_natCast, hm1, hm2, hm3, hi0]
      refine hK _ ?_; clear hK
      refine vwp_seq fun K hK => ?_
      refine vwp_cond (b := _) (by simp (dsimp := false) only [push_cast, hP, hnt, hgw, hgb, Nat.reduceLT, Nat.reduceEqDiff, Nat.reduceAdd, Nat.reduceSub, Nat.reduceMul, Nat.reduceLeDiff, ↓reduceIte, reduceCtorEq, Int.toNat_natCast, hm1, hm2, hm3, hi0]; rfl) (fun rb1 => ?_) (fun rb1 => ?_)
      · have hb1 := rb1
        try simp only [beq_iff_eq, bne_iff_ne, ne_eq, bne_eq_false_iff_eq, beq_eq_false_iff_ne, decide_eq_true_eq, decide_eq_false_iff_not, Bool.not_eq_true', Bool.not_eq_false', Bool.or_eq_true, Bool.and_eq_true, Bool.or_eq_false_iff, Bool.and_eq_false_iff] at hb1
        have hw := hw hb1
        have hd := hd hb1
        have hk : i.toNat < l.length := by omega
        have hf1 : i.toNat * 1 + 1 ≤ (rowAt bitP (PC.c (Value.int .u8 0)) l i.toNat).length := by rw [rowAt_len (by omega)]; omega
        have hs1 : splice (rowAt bitP (PC.c (Value.int .u8 0)) l i.toNat) (i.toNat * 1) [PC.c (Value.int .u8 48)] = rowPut bitP (PC.c (Value.int .u8 0)) l i.toNat (bitP false) := by rw [Nat.mul_one]; exact rowAt_put hk
        have hf2 : i.toNat * 1 + 1 ≤ (rowPut bitP (PC.c (Value.int .u8 0)) l i.toNat (bitP false)).length := by rw [rowPut_len hk]; omega
        have hs2 : splice (rowPut bitP (PC.c (Value.int .u8 0)) l i.toNat (bitP false)) (i.toNat * 1) [PC.c (Value.int .u8 49)] = rowPut bitP (PC.c (Value.int .u8 0)) l i.toNat (bitP true) := by rw [Nat.mul_one]; exact rowPut_put hk
        refine vwp_skip ?_
        apply_assumption
        refine vwp_seq fun K hK => ?_
        refine vwp_block ?_
        refine vwp_seq_region rfl fun K hK => ?_
        simp (dsimp := false) only [push_cast, hP, hnt, hgw, hgb, Nat.reduceLT, Nat.reduceEqDiff, Nat.reduceAdd, Nat.reduceSub, Nat.reduceMul, Nat.reduceLeDiff, ↓reduceIte, reduceCtorEq, Int.toNat_natCast, hm1, hm2, hm3, hi0, hw, hd, hb1, hf1, hs1, hf2, hs2]
        refine hK _ ?_; clear hK
        refine vwp_seq_region rfl fun K hK => ?_
        simp (dsimp := false) only [push_cast, hP, hnt, hgw, hgb, Nat.reduceLT, Nat.reduceEqDiff, Nat.reduceAdd, Nat.reduceSub, Nat.reduceMul, Nat.reduceLeDiff, ↓reduceIte, reduceCtorEq, Int.toNat_natCast, hm1, hm2, hm3, hi0, hw, hd, hb1, hf1, hs1, hf2, hs2]
        refine hK _ ?_; clear hK
        refine vwp_seq_region rfl fun K hK => ?_
        simp (dsimp := false) only [push_cast, hP, hnt, hgw, hgb, Nat.reduceLT, Nat.reduceEqDiff, Nat.reduceAdd, Nat.reduceSub, Nat.reduceMul, Nat.reduceLeDiff, ↓reduceIte, reduceCtorEq, Int.toNat_natCast, hm1, hm2, hm3, hi0, hw, hd, hb1, hf1, hs1, hf2, hs2]
        refine hK _ ?_; clear hK
        refine vwp_cond (b := _) (by simp (dsimp := false) only [push_cast, hP, hnt, hgw, hgb, Nat.reduceLT, Nat.reduceEqDiff, Nat.reduceAdd, Nat.reduceSub, Nat.reduceMul, Nat.reduceLeDiff, ↓reduceIte, reduceCtorEq, Int.toNat_natCast, hm1, hm2, hm3, hi0, hw, hd, hb1, hf1, hs1, hf2, hs2]; rfl) (fun rb2 => ?_) (fun rb2 => ?_)
        · have hb2 := rb2
          try simp only [beq_iff_eq, bne_iff_ne, ne_eq, bne_eq_false_iff_eq, beq_eq_false_iff_ne, decide_eq_true_eq, decide_eq_false_iff_not, Bool.not_eq_true', Bool.not_eq_false', Bool.or_eq_true, Bool.and_eq_true, Bool.or_eq_false_iff, Bool.and_eq_false_iff] at hb2
          refine vwp_region rfl ?_
          simp (dsimp := false) only [push_cast, hP, hnt, hgw, hgb, Nat.reduceLT, Nat.reduceEqDiff, Nat.reduceAdd, Nat.reduceSub, Nat.reduceMul, Nat.reduceLeDiff, ↓reduceIte, reduceCtorEq, Int.toNat_natCast, hm1, hm2, hm3, hi0, hw, hd, hb1, hf1, hs1, hf2, hs2]
          apply_assumption
          refine vwp_region rfl ?_
          simp (dsimp := false) only [push_cast, hP, hnt, hgw, hgb, Nat.reduceLT, Nat.reduceEqDiff, Nat.reduceAdd, Nat.reduceSub, Nat.reduceMul, Nat.reduceLeDiff, ↓reduceIte, reduceCtorEq, Int.toNat_natCast, hm1, hm2, hm3, hi0, hw, hd, hb1, hf1, hs1, hf2, hs2]
          have hn : rowPut bitP (PC.c (Value.int .u8 0)) l i.toNat (bitP true) = rowAt bitP (PC.c (Value.int .u8 0)) l (i + 1).toNat := by rw [← rowAt_next hi0 hb1, hb2]
          refine hL0 _ _ _ ?_ ?_ ⟨i + 1, rfl, ?_, rfl⟩
          · omega
          · refine wk_conv [] [((12, 0), (12, 0))] (by simp) (by simp) (by decide) ?_ ?_
            · refine hf_cons (by simp (dsimp := false) only [push_cast, ↓reduceIte, Nat.reduceEqDiff, Nat.reduceAdd, reduceCtorEq, Int.toNat_natCast, hm1, hm2, hm3, hi0, hw, hd, hb1, hf1, hs1, hf2, hs2, hn] <;> rfl) (by exact .one (.own (by simp))) ?_
              refine hf_cons (by simp (dsimp := false) only [push_cast, ↓reduceIte, Nat.reduceEqDiff, Nat.reduceAdd, reduceCtorEq, Int.toNat_natCast, hm1, hm2, hm3, hi0, hw, hd, hb1, hf1, hs1, hf2, hs2, hn] <;> rfl) (by repeat' (first | exact ConvVs.nil | exact ConvL.nil | refine ConvV.tup ?_ | refine ConvVs.cons ?_ ?_ | (refine ConvV.self ?_; simp only [push_cast, hrf]; done) | refine ConvV.one ?_ | refine ConvV.agg ?_ | (refine ConvL.free ?_; simp only [push_cast, hrf]; done) | refine ConvL.append ?_ ?_ | refine ConvL.cons ?_ ?_ | exact Conv.free rfl | exact Conv.nil | (refine Conv.own ?_; simp; done) | (refine Conv.loc ?_; simp; done) | refine Conv.frz (by simp) (by simp (dsimp := false) only [push_cast, ↓reduceIte, Nat.reduceEqDiff, Nat.reduceAdd, reduceCtorEq, Int.toNat_natCast, hm1, hm2, hm3, hi0, hw, hd, hb1, hf1, hs1, hf2, hs2, hn] <;> rfl) ?_ | refine Conv.sl (by simp) ?_ | refine Conv.fn ?_)) ?_
              refine hf_cons (by simp (dsimp := false) only [push_cast, ↓reduceIte, Nat.reduceEqDiff, Nat.reduceAdd, reduceCtorEq, Int.toNat_natCast, hm1, hm2, hm3, hi0, hw, hd, hb1, hf1, hs1, hf2, hs2, hn] <;> rfl) (by exact ConvV.self rfl) ?_
              refine hf_cons (by simp (dsimp := false) only [push_cast, ↓reduceIte, Nat.reduceEqDiff, Nat.reduceAdd, reduceCtorEq, Int.toNat_natCast, hm1, hm2, hm3, hi0, hw, hd, hb1, hf1, hs1, hf2, hs2, hn] <;> rfl) (by exact ConvV.self rfl) ?_
              exact hf_nil
            · refine hh_cons (i := (12, 0)) (by simp) (by simp) (by simp (dsimp := false) only [push_cast, ↓reduceIte, Nat.reduceEqDiff, Nat.reduceAdd, reduceCtorEq, Int.toNat_natCast, hm1, hm2, hm3, hi0, hw, hd, hb1, hf1, hs1, hf2, hs2, hn] <;> rfl) (by first | (refine ConvB.free ?_; simp only [push_cast, hrf]; done) | (refine ConvB.arr ?_; repeat' (first | exact ConvVs.nil | exact ConvL.nil | refine ConvV.tup ?_ | refine ConvVs.cons ?_ ?_ | (refine ConvV.self ?_; simp only [push_cast, hrf]; done) | refine ConvV.one ?_ | refine ConvV.agg ?_ | (refine ConvL.free ?_; simp only [push_cast, hrf]; done) | refine ConvL.append ?_ ?_ | refine ConvL.cons ?_ ?_ | exact Conv.free rfl | exact Conv.nil | (refine Conv.own ?_; simp; done) | (refine Conv.loc ?_; simp; done) | refine Conv.frz (by simp) (by simp (dsimp := false) only [push_cast, ↓reduceIte, Nat.reduceEqDiff, Nat.reduceAdd, reduceCtorEq, Int.toNat_natCast, hm1, hm2, hm3, hi0, hw, hd, hb1, hf1, hs1, hf2, hs2, hn] <;> rfl) ?_ | refine Conv.sl (by simp) ?_ | refine Conv.fn ?_))) ?_
              exact hh_nil
          · exact ⟨by omega, by omega⟩
        · have hb2 := rb2
          try simp only [beq_iff_eq, bne_iff_ne, ne_eq, bne_eq_false_iff_eq, beq_eq_false_iff_ne, decide_eq_true_eq, decide_eq_false_iff_not, Bool.not_eq_true', Bool.not_eq_false', Bool.or_eq_true, Bool.and_eq_true, Bool.or_eq_false_iff, Bool.and_eq_false_iff] at hb2
          refine vwp_skip ?_
          apply_assumption
          refine vwp_region rfl ?_
          simp (dsimp := false) only [push_cast, hP, hnt, hgw, hgb, Nat.reduceLT, Nat.reduceEqDiff, Nat.reduceAdd, Nat.reduceSub, Nat.reduceMul, Nat.reduceLeDiff, ↓reduceIte, reduceCtorEq, Int.toNat_natCast, hm1, hm2, hm3, hi0, hw, hd, hb1, hf1, hs1, hf2, hs2]
          have hn : rowPut bitP (PC.c (Value.int .u8 0)) l i.toNat (bitP false) = rowAt bitP (PC.c (Value.int .u8 0)) l (i + 1).toNat := by rw [← rowAt_next hi0 hb1, hb2]
          refine hL0 _ _ _ ?_ ?_ ⟨i + 1, rfl, ?_, rfl⟩
          · omega
          · refine wk_conv [] [((12, 0), (12, 0))] (by simp) (by simp) (by decide) ?_ ?_
            · refine hf_cons (by simp (dsimp := false) only [push_cast, ↓reduceIte, Nat.reduceEqDiff, Nat.reduceAdd, reduceCtorEq, Int.toNat_natCast, hm1, hm2, hm3, hi0, hw, hd, hb1, hf1, hs1, hf2, hs2, hn] <;> rfl) (by exact .one (.own (by simp))) ?_
              refine hf_cons (by simp (dsimp := false) only [push_cast, ↓reduceIte, Nat.reduceEqDiff, Nat.reduceAdd, reduceCtorEq, Int.toNat_natCast, hm1, hm2, hm3, hi0, hw, hd, hb1, hf1, hs1, hf2, hs2, hn] <;> rfl) (by repeat' (first | exact ConvVs.nil | exact ConvL.nil | refine ConvV.tup ?_ | refine ConvVs.cons ?_ ?_ | (refine ConvV.self ?_; simp only [push_cast, hrf]; done) | refine ConvV.one ?_ | refine ConvV.agg ?_ | (refine ConvL.free ?_; simp only [push_cast, hrf]; done) | refine ConvL.append ?_ ?_ | refine ConvL.cons ?_ ?_ | exact Conv.free rfl | exact Conv.nil | (refine Conv.own ?_; simp; done) | (refine Conv.loc ?_; simp; done) | refine Conv.frz (by simp) (by simp (dsimp := false) only [push_cast, ↓reduceIte, Nat.reduceEqDiff, Nat.reduceAdd, reduceCtorEq, Int.toNat_natCast, hm1, hm2, hm3, hi0, hw, hd, hb1, hf1, hs1, hf2, hs2, hn] <;> rfl) ?_ | refine Conv.sl (by simp) ?_ | refine Conv.fn ?_)) ?_
              refine hf_cons (by simp (dsimp := false) only [push_cast, ↓reduceIte, Nat.reduceEqDiff, Nat.reduceAdd, reduceCtorEq, Int.toNat_natCast, hm1, hm2, hm3, hi0, hw, hd, hb1, hf1, hs1, hf2, hs2, hn] <;> rfl) (by exact ConvV.self rfl) ?_
              refine hf_cons (by simp (dsimp := false) only [push_cast, ↓reduceIte, Nat.reduceEqDiff, Nat.reduceAdd, reduceCtorEq, Int.toNat_natCast, hm1, hm2, hm3, hi0, hw, hd, hb1, hf1, hs1, hf2, hs2, hn] <;> rfl) (by exact ConvV.self rfl) ?_
              exact hf_nil
            · refine hh_cons (i := (12, 0)) (by simp) (by simp) (by simp (dsimp := false) only [push_cast, ↓reduceIte, Nat.reduceEqDiff, Nat.reduceAdd, reduceCtorEq, Int.toNat_natCast, hm1, hm2, hm3, hi0, hw, hd, hb1, hf1, hs1, hf2, hs2, hn] <;> rfl) (by first | (refine ConvB.free ?_; simp only [push_cast, hrf]; done) | (refine ConvB.arr ?_; repeat' (first | exact ConvVs.nil | exact ConvL.nil | refine ConvV.tup ?_ | refine ConvVs.cons ?_ ?_ | (refine ConvV.self ?_; simp only [push_cast, hrf]; done) | refine ConvV.one ?_ | refine ConvV.agg ?_ | (refine ConvL.free ?_; simp only [push_cast, hrf]; done) | refine ConvL.append ?_ ?_ | refine ConvL.cons ?_ ?_ | exact Conv.free rfl | exact Conv.nil | (refine Conv.own ?_; simp; done) | (refine Conv.loc ?_; simp; done) | refine Conv.frz (by simp) (by simp (dsimp := false) only [push_cast, ↓reduceIte, Nat.reduceEqDiff, Nat.reduceAdd, reduceCtorEq, Int.toNat_natCast, hm1, hm2, hm3, hi0, hw, hd, hb1, hf1, hs1, hf2, hs2, hn] <;> rfl) ?_ | refine Conv.sl (by simp) ?_ | refine Conv.fn ?_))) ?_
              exact hh_nil
          · exact ⟨by omega, by omega⟩
      · have hb1 := rb1
        try simp only [beq_iff_eq, bne_iff_ne, ne_eq, bne_eq_false_iff_eq, beq_eq_false_iff_ne, decide_eq_true_eq, decide_eq_false_iff_not, Bool.not_eq_true', Bool.not_eq_false', Bool.or_eq_true, Bool.and_eq_true, Bool.or_eq_false_iff, Bool.and_eq_false_iff] at hb1
        have hend : rowAt bitP (PC.c (Value.int .u8 0)) l i.toNat = l.map bitP := by rw [show i.toNat = l.length by omega]; exact rowAt_end
        have hbb : bytesOf (l.map bitP) = some (l.map fun a => ((bitc a).toNat : Int)) := bytesOf_map bitc l
        have hob := ofBytes_bits l
        refine vwp_exit ?_
        simp only [thenQ, blockQ, Nat.reduceEqDiff, reduceIte]
        apply_assumption
        refine vwp_seq_region rfl fun K hK => ?_
        simp (dsimp := false) only [push_cast, hP, hnt, hgw, hgb, Nat.reduceLT, Nat.reduceEqDiff, Nat.reduceAdd, Nat.reduceSub, Nat.reduceMul, Nat.reduceLeDiff, ↓reduceIte, reduceCtorEq, Int.toNat_natCast, hm1, hm2, hm3, hi0, hend, hbb, hob]
        refine hK _ ?_; clear hK
        refine vwp_ret ?_
        refine ret_free (by simp (dsimp := false) only [push_cast, hP, hnt, hgw, hgb, Nat.reduceLT, Nat.reduceEqDiff, Nat.reduceAdd, Nat.reduceSub, Nat.reduceMul, Nat.reduceLeDiff, ↓reduceIte, reduceCtorEq, Int.toNat_natCast, hm1, hm2, hm3, hi0, hend, hbb, hob]; rfl) (by simp (dsimp := false) only [push_cast, hP, hnt, hgw, hgb, Nat.reduceLT, Nat.reduceEqDiff, Nat.reduceAdd, Nat.reduceSub, Nat.reduceMul, Nat.reduceLeDiff, ↓reduceIte, reduceCtorEq, Int.toNat_natCast, hm1, hm2, hm3, hi0, hend, hbb, hob]) ?_
        rw [show bitsS l = bitsB l from if_neg (fun h => hb0 (by simp [h]))]; rfl
end Go.Vm
end

section
namespace Go.Vm
open Go Go.RowKit Go.Proofs
set_option maxRecDepth 100000
set_option linter.unusedSimpArgs false
set_option linter.unusedVariables false
set_option maxHeartbeats 4000000

structure Ver where
  kind : Int
  first : List Bool
  inputs : List (List Bool)
  skip : Int
  phases : Int
  ands : List (Int × Int)
  lit : Int
def Ver.prf (t : Bool) (v : Ver) : List PC := [.c (.int .i64 v.skip), .c (.int .i64 v.phases), .sl t v.ands.length (v.ands.flatMap fun g => [.c (.int .i64 g.1), .c (.int .i64 g.2)]), .c (.int .i64 v.lit)]
def Ver.pcs (t : Bool) (v : Ver) : List PC := .c (.int .u8 v.kind) :: .sl t v.first.length (v.first.map fun b => .c (.bool b)) :: .sl t v.inputs.length (v.inputs.map fun l => .sl t l.length (l.map fun b => .c (.bool b))) :: v.prf t
theorem nat_nonneg (n : Nat) : (0 ≤ (n : Int)) = True := by simp
attribute [push_cast] Ver.pcs Ver.prf Int.toNat_natCast nat_nonneg
def noProofF (v : Ver) : Bool := (((v.skip == 0) && (v.phases == 0)) && ((v.ands.length : Int) == 0)) && (v.lit == 0)
theorem noProof_call (gw : World) (gb : Nat) (v : Ver) : VCall Tryz.prog gw (gb) 36 [.agg (v.prf false)] (.one (.c (.bool (noProofF v)))) [] := by
  refine vcall_of [.tmp 2] Tryz.func36 rfl rfl Tryz.ntmps36 rfl (by simp) ?_
  intro C hP hnt hgw hgb hfull
  refine vwp_seq_region rfl fun K hK => ?_
  simp (dsimp := false) only [push_cast, hP, hnt, hgw, hgb, sevalprocAttr]
  refine hK _ ?_; clear hK
  refine vwp_seq_regionG fun K hK => ?_
  simp (dsimp := false) only [push_cast, hP, hnt, hgw, hgb, sevalprocAttr]
  refine guardR_may (by simp (dsimp := false) only [push_cast, hP, hnt, hgw, hgb, sevalprocAttr, List.getElem?_cons_zero, List.getElem?_cons_succ]; rfl) ?_
  simp (dsimp := false) only [push_cast, hP, hnt, hgw, hgb, sevalprocAttr]
  refine guardR_may (by simp (dsimp := false) only [push_cast, hP, hnt, hgw, hgb, sevalprocAttr, List.getElem?_cons_zero, List.getElem?_cons_succ]; rfl) ?_
  simp (dsimp := false) only [push_cast, hP, hnt, hgw, hgb, sevalprocAttr]
  refine guardR_may (by simp (dsimp := false) only [push_cast, hP, hnt, hgw, hgb, sevalprocAttr, List.getElem?_cons_zero, List.getElem?_cons_succ]; rfl) ?_
  simp (dsimp := false) only [push_cast, hP, hnt, hgw, hgb, sevalprocAttr]
  refine guardR_may (by simp (dsimp := false) only [push_cast, hP, hnt, hgw, hgb, sevalprocAttr, List.getElem?_cons_zero, List.getElem?_cons_succ]; rfl) ?_
  simp (dsimp := false) only [push_cast, hP, hnt, hgw, hgb, sevalprocAttr]
  refine guardR_may (by simp (dsimp := false) only [push_cast, hP, hnt, hgw, hgb, sevalprocAttr, List.getElem?_cons_zero, List.getElem?_cons_succ]; rfl) ?_
  simp (dsimp := false) only [push_cast, hP, hnt, hgw, hgb, sevalprocAttr]
  refine guardR_may (by simp (dsimp := false) only [push_cast, hP, hnt, hgw, hgb, sevalprocAttr, List.getElem?_cons_zero, List.getElem?_cons_succ]; rfl) ?_
  simp (dsimp := false) only [push_cast, hP, hnt, hgw, hgb, sevalprocAttr]
  refine guardR_may (by simp (dsimp := false) only [push_cast, hP, hnt, hgw, hgb, sevalprocAttr, List.getElem?_cons_zero, List.getElem?_cons_succ]; rfl) ?_
  simp (dsimp := false) only [push_cast, hP, hnt, hgw, hgb, sevalprocAttr]
  refine guardR_may (by simp (dsimp := false) only [push_cast, hP, hnt, hgw, hgb, sevalprocAttr, List.getElem?_cons_zero, List.getElem?_cons_succ]; rfl) ?_
  simp (dsimp := false) only [push_cast, hP, hnt, hgw, hgb, sevalprocAttr]
  refine guardR_may (by simp (dsimp := false) only [push_cast, hP, hnt, hgw, hgb, sevalprocAttr, List.getElem?_cons_zero, List.getElem?_cons_succ]; rfl) ?_
  simp (dsimp := false) only [push_cast, hP, hnt, hgw, hgb, sevalprocAttr]
  refine guardR_may (by simp (dsimp := false) only [push_cast, hP, hnt, hgw, hgb, sevalprocAttr, List.getElem?_cons_zero, List.getElem?_cons_succ]; rfl) ?_
  simp (dsimp := false) only [push_cast, hP, hnt, hgw, hgb, sevalprocAttr]
  refine guardR_may (by simp (dsimp := false) only [push_cast, hP, hnt, hgw, hgb, sevalprocAttr, List.getElem?_cons_zero, List.getElem?_cons_succ]; rfl) ?_
  simp (dsimp := false) only [push_cast, hP, hnt, hgw, hgb, sevalprocAttr]
  refine guardR_may (by simp (dsimp := false) only [push_cast, hP, hnt, hgw, hgb, sevalprocAttr, List.getElem?_cons_zero, List.getElem?_cons_succ]; rfl) ?_
  simp (dsimp := false) only [push_cast, hP, hnt, hgw, hgb, sevalprocAttr]
  refine hK _ ?_; clear hK
  refine vwp_ret ?_
  refine ret_free (by simp (dsimp := false) only [push_cast, hP, hnt, hgw, hgb, sevalprocAttr]; rfl) (by simp (dsimp := false) only [push_cast, hP, hnt, hgw, hgb, sevalprocAttr]) ?_
  first | (simp only [pack, noProofF, if_true, if_false, Bool.false_eq_true, reduceIte]; done) | (simp only [pack, noProofF, if_true, if_false, ne_eq, not_true_eq_false, not_false_eq_true, true_or, or_true, or_self, ite_self, Bool.true_eq_false, Bool.false_eq_true, or_false, false_or]; done) | (subst_vars; simp only [pack, noProofF, *, if_true, if_false, ne_eq, not_true_eq_false, not_false_eq_true, true_or, or_true, or_self, ite_self, Bool.true_eq_false, Bool.false_eq_true, or_false, false_or]; done) | (simp [pack, noProofF] <;> omega)
theorem refWithin_call (gw : World) (gb : Nat) (n top : Int) : VCall Tryz.prog gw (gb) 37 [.one (.c (.int .i64 n)), .one (.c (.int .i64 top))] (.one (.c (.bool (inTo top n)))) [] := by
  refine vcall_of [.tmp 4] Tryz.func37 rfl rfl Tryz.ntmps37 rfl (by simp) ?_
  intro C hP hnt hgw hgb hfull
  refine vwp_seq_region rfl fun K hK => ?_
  simp (dsimp := false) only [push_cast, hP, hnt, hgw, hgb, sevalprocAttr]
  refine hK _ ?_; clear hK
  refine vwp_seq_regionG fun K hK => ?_
  simp (dsimp := false) only [push_cast, hP, hnt, hgw, hgb, sevalprocAttr]
  refine guardR_may (by simp (dsimp := false) only [push_cast, hP, hnt, hgw, hgb, sevalprocAttr, List.getElem?_cons_zero, List.getElem?_cons_succ]; rfl) ?_
  simp (dsimp := false) only [push_cast, hP, hnt, hgw, hgb, sevalprocAttr]
  refine guardR_may (by simp (dsimp := false) only [push_cast, hP, hnt, hgw, hgb, sevalprocAttr, List.getElem?_cons_zero, List.getElem?_cons_succ]; rfl) ?_
  simp (dsimp := false) only [push_cast, hP, hnt, hgw, hgb, sevalprocAttr]
  refine guardR_may (by simp (dsimp := false) only [push_cast, hP, hnt, hgw, hgb, sevalprocAttr, List.getElem?_cons_zero, List.getElem?_cons_succ]; rfl) ?_
  simp (dsimp := false) only [push_cast, hP, hnt, hgw, hgb, sevalprocAttr]
  refine hK _ ?_; clear hK
  refine vwp_ret ?_
  refine ret_free (by simp (dsimp := false) only [push_cast, hP, hnt, hgw, hgb, sevalprocAttr]; rfl) (by simp (dsimp := false) only [push_cast, hP, hnt, hgw, hgb, sevalprocAttr]) ?_
  simp only [pack, inTo, Bool.decide_and]
theorem bitsB_size (l : List Bool) : (bitsB l).size = l.length := by unfold bitsB; rw [bOf_size, List.length_map]
end Go.Vm
end

section
namespace Go.Vm
open Go Go.RowKit Go.Proofs
set_option maxRecDepth 100000
set_option linter.unusedSimpArgs false
set_option linter.unusedVariables false
set_option maxHeartbeats 4000000

structure Fit (v : Ver) : Prop where
  first : v.first.length ≤ 100000
  inputs : v.inputs.length ≤ 100000
  ands : v.ands.length ≤ 100000
  each : ∀ l ∈ v.inputs, l.length ≤ 100000
def longF (l : List Bool) : Bool := decide (60 < l.length ∧ l.length ≠ 1001)
def greatHead (v : Ver) : Bool := decide ((200 < v.ands.length ∧ v.ands.length ≠ 1001) ∨ (20 < v.inputs.length ∧ v.inputs.length ≠ 101) ∨ (60 < v.first.length ∧ v.first.length ≠ 1001))
def greatF (v : Ver) : Bool := greatHead v || v.inputs.any longF
theorem greatF_head {v : Ver} (h : greatHead v = true) : greatF v = true := by unfold greatF; rw [h]; rfl
theorem greatF_any {v : Ver} (h : v.inputs.any longF = true) : greatF v = true := by unfold greatF; rw [h, Bool.or_true]
theorem greatF_no {v : Ver} (h : greatHead v = false) (h' : v.inputs.any longF = false) : greatF v = false := by unfold greatF; rw [h, h']; rfl
def noRun (v : Ver) : Bool := decide (v.first.length + v.inputs.length = 0)
def framesF (v : Ver) : Bool := decide (1 ≤ v.inputs.length ∧ v.inputs.length ≤ 100 ∧ v.first.length ≤ 1000)
def wideF (l : List Bool) : Bool := decide (l.length ≤ 1000)
def gateF (g : Int × Int) : Bool := inTo 2001 g.1 && inTo 2001 g.2
def mayF (v : Ver) : Bool :=
  if v.kind = 3 then noRun v && noProofF v
  else if v.kind = 2 then noProofF v && framesF v && v.inputs.all wideF
  else if v.kind = 1 then (noRun v && inTo 100 v.skip && inTo 100 v.phases && decide (v.ands.length ≤ 1000) && inTo 2001 v.lit) && v.ands.all gateF
  else false
theorem great_call (gw : World) (gb : Nat) (v : Ver) : VCall Tryz.prog gw (gb) 15 [.agg (v.pcs false)] (.one (.c (.bool (greatF v)))) [] := by
  refine vcall_of [.tmp 2] Tryz.func15 rfl rfl Tryz.ntmps15 rfl (by simp) ?_
  intro C hP hnt hgw hgb hfull
  refine vwp_seq_region rfl fun K hK => ?_
  simp (dsimp := false) only [push_cast, hP, hnt, hgw, hgb, sevalprocAttr]
  refine hK _ ?_; clear hK
  refine vwp_seq_region rfl fun K hK => ?_
  simp (dsimp := false) only [push_cast, hP, hnt, hgw, hgb, sevalprocAttr]
  refine hK _ ?_; clear hK
  refine vwp_seq fun K hK => ?_
  refine vwp_seq_regionG fun K hK => ?_
  simp (dsimp := false) only [push_cast, hP, hnt, hgw, hgb, sevalprocAttr]
  refine guardR_may (by simp (dsimp := false) only [push_cast, hP, hnt, hgw, hgb, sevalprocAttr, List.getElem?_cons_zero, List.getElem?_cons_succ]; rfl) ?_
  simp (dsimp := false) only [push_cast, hP, hnt, hgw, hgb, sevalprocAttr]
  refine guardR_may (by simp (dsimp := false) only [push_cast, hP, hnt, hgw, hgb, sevalprocAttr, List.getElem?_cons_zero, List.getElem?_cons_succ]; rfl) ?_
  simp (dsimp := false) only [push_cast, hP, hnt, hgw, hgb, sevalprocAttr]
  refine guardR_may (by simp (dsimp := false) only [push_cast, hP, hnt, hgw, hgb, sevalprocAttr, List.getElem?_cons_zero, List.getElem?_cons_succ]; rfl) ?_
  simp (dsimp := false) only [push_cast, hP, hnt, hgw, hgb, sevalprocAttr]
  refine guardR_may (by simp (dsimp := false) only [push_cast, hP, hnt, hgw, hgb, sevalprocAttr, List.getElem?_cons_zero, List.getElem?_cons_succ]; rfl) ?_
  simp (dsimp := false) only [push_cast, hP, hnt, hgw, hgb, sevalprocAttr]
  refine guardR_may (by simp (dsimp := false) only [push_cast, hP, hnt, hgw, hgb, sevalprocAttr, List.getElem?_cons_zero, List.getElem?_cons_succ]; rfl) ?_
  simp (dsimp := false) only [push_cast, hP, hnt, hgw, hgb, sevalprocAttr]
  refine guardR_may (by simp (dsimp := false) only [push_cast, hP, hnt, hgw, hgb, sevalprocAttr, List.getElem?_cons_zero, List.getElem?_cons_succ]; rfl) ?_
  simp (dsimp := false) only [push_cast, hP, hnt, hgw, hgb, sevalprocAttr]
  refine guardR_may (by simp (dsimp := false) only [push_cast, hP, hnt, hgw, hgb, sevalprocAttr, List.getElem?_cons_zero, List.getElem?_cons_succ]; rfl) ?_
  simp (dsimp := false) only [push_cast, hP, hnt, hgw, hgb, sevalprocAttr]
  refine guardR_may (by simp (dsimp := false) only [push_cast, hP, hnt, hgw, hgb, sevalprocAttr, List.getElem?_cons_zero, List.getElem?_cons_succ]; rfl) ?_
  simp (dsimp := false) only [push_cast, hP, hnt, hgw, hgb, sevalprocAttr]
  refine guardR_may (by simp (dsimp := false) only [push_cast, hP, hnt, hgw, hgb, sevalprocAttr, List.getElem?_cons_zero, List.getElem?_cons_succ]; rfl) ?_
  simp (dsimp := false) only [push_cast, hP, hnt, hgw, hgb, sevalprocAttr]
  refine guardR_may (by simp (dsimp := false) only [push_cast, hP, hnt, hgw, hgb, sevalprocAttr, List.getElem?_cons_zero, List.getElem?_cons_succ]; rfl) ?_
  simp (dsimp := false) only [push_cast, hP, hnt, hgw, hgb, sevalprocAttr]
  refine guardR_may (by simp (dsimp := false) only [push_cast, hP, hnt, hgw, hgb, sevalprocAttr, List.getElem?_cons_zero, List.getElem?_cons_succ]; rfl) ?_
  simp (dsimp := false) only [push_cast, hP, hnt, hgw, hgb, sevalprocAttr]
  refine guardR_may (by simp (dsimp := false) only [push_cast, hP, hnt, hgw, hgb, sevalprocAttr, List.getElem?_cons_zero, List.getElem?_cons_succ]; rfl) ?_
  simp (dsimp := false) only [push_cast, hP, hnt, hgw, hgb, sevalprocAttr]
  refine guardR_may (by simp (dsimp := false) only [push_cast, hP, hnt, hgw, hgb, sevalprocAttr, List.getElem?_cons_zero, List.getElem?_cons_succ]; rfl) ?_
  simp (dsimp := false) only [push_cast, hP, hnt, hgw, hgb, sevalprocAttr]
  refine guardR_may (by simp (dsimp := false) only [push_cast, hP, hnt, hgw, hgb, sevalprocAttr, List.getElem?_cons_zero, List.getElem?_cons_succ]; rfl) ?_
  simp (dsimp := false) only [push_cast, hP, hnt, hgw, hgb, sevalprocAttr]
  refine guardR_may (by simp (dsimp := false) only [push_cast, hP, hnt, hgw, hgb, sevalprocAttr, List.getElem?_cons_zero, List.getElem?_cons_succ]; rfl) ?_
  simp (dsimp := false) only [push_cast, hP, hnt, hgw, hgb, sevalprocAttr]
  refine guardR_may (by simp (dsimp := false) only [push_cast, hP, hnt, hgw, hgb, sevalprocAttr, List.getElem?_cons_zero, List.getElem?_cons_succ]; rfl) ?_
  simp (dsimp := false) only [push_cast, hP, hnt, hgw, hgb, sevalprocAttr]
  refine guardR_may (by simp (dsimp := false) only [push_cast, hP, hnt, hgw, hgb, sevalprocAttr, List.getElem?_cons_zero, List.getElem?_cons_succ]; rfl) ?_
  simp (dsimp := false) only [push_cast, hP, hnt, hgw, hgb, sevalprocAttr]
  refine guardR_may (by simp (dsimp := false) only [push_cast, hP, hnt, hgw, hgb, sevalprocAttr, List.getElem?_cons_zero, List.getElem?_cons_succ]; rfl) ?_
  simp (dsimp := false) only [push_cast, hP, hnt, hgw, hgb, sevalprocAttr]
  refine guardR_may (by simp (dsimp := false) only [push_cast, hP, hnt, hgw, hgb, sevalprocAttr, List.getElem?_cons_zero, List.getElem?_cons_succ]; rfl) ?_
  simp (dsimp := false) only [push_cast, hP, hnt, hgw, hgb, sevalprocAttr]
  refine guardR_may (by simp (dsimp := false) only [push_cast, hP, hnt, hgw, hgb, sevalprocAttr, List.getElem?_cons_zero, List.getElem?_cons_succ]; rfl) ?_
  simp (dsimp := false) only [push_cast, hP, hnt, hgw, hgb, sevalprocAttr]
  refine guardR_may (by simp (dsimp := false) only [push_cast, hP, hnt, hgw, hgb, sevalprocAttr, List.getElem?_cons_zero, List.getElem?_cons_succ]; rfl) ?_
  simp (dsimp := false) only [push_cast, hP, hnt, hgw, hgb, sevalprocAttr]
  refine guardR_may (by simp (dsimp := false) only [push_cast, hP, hnt, hgw, hgb, sevalprocAttr, List.getElem?_cons_zero, List.getElem?_cons_succ]; rfl) ?_
  simp (dsimp := false) only [push_cast, hP, hnt, hgw, hgb, sevalprocAttr]
  refine guardR_may (by simp (dsimp := false) only [push_cast, hP, hnt, hgw, hgb, sevalprocAttr, List.getElem?_cons_zero, List.getElem?_cons_succ]; rfl) ?_
  simp (dsimp := false) only [push_cast, hP, hnt, hgw, hgb, sevalprocAttr]
  refine guardR_may (by simp (dsimp := false) only [push_cast, hP, hnt, hgw, hgb, sevalprocAttr, List.getElem?_cons_zero, List.getElem?_cons_succ]; rfl) ?_
  simp (dsimp := false) only [push_cast, hP, hnt, hgw, hgb, sevalprocAttr]
  refine guardR_may (by simp (dsimp := false) only [push_cast, hP, hnt, hgw, hgb, sevalprocAttr, List.getElem?_cons_zero, List.getElem?_cons_succ]; rfl) ?_
  simp (dsimp := false) only [push_cast, hP, hnt, hgw, hgb, sevalprocAttr]
  refine guardR_may (by simp (dsimp := false) only [push_cast, hP, hnt, hgw, hgb, sevalprocAttr, List.getElem?_cons_zero, List.getElem?_cons_succ]; rfl) ?_
  simp (dsimp := false) only [push_cast, hP, hnt, hgw, hgb, sevalprocAttr]
  refine hK _ ?_; clear hK
  refine vwp_cond (b := _) (by simp (dsimp := false) only [push_cast, hP, hnt, hgw, hgb, sevalprocAttr]; rfl) (fun rb0 => ?_) (fun rb0 => ?_)
  · have hb0 := rb0
    try simp only [beq_iff_eq, bne_iff_ne, ne_eq, bne_eq_false_iff_eq, beq_eq_false_iff_ne, decide_eq_true_eq, decide_eq_false_iff_not, Bool.not_eq_true', Bool.not_eq_false', Bool.or_eq_true, Bool.and_eq_true, Bool.or_eq_false_iff, Bool.and_eq_false_iff] at hb0
    refine vwp_seq_region rfl fun K hK => ?_
    simp (dsimp := false) only [push_cast, hP, hnt, hgw, hgb, sevalprocAttr]
    refine hK _ ?_; clear hK
    refine vwp_ret ?_
    refine ret_free (by simp (dsimp := false) only [push_cast, hP, hnt, hgw, hgb, sevalprocAttr]; rfl) (by simp (dsimp := false) only [push_cast, hP, hnt, hgw, hgb, sevalprocAttr]) ?_
    rw [greatF_head (by unfold greatHead; exact decide_eq_true (by omega))]; rfl
  · have hb0 := rb0
    try simp only [beq_iff_eq, bne_iff_ne, ne_eq, bne_eq_false_iff_eq, beq_eq_false_iff_ne, decide_eq_true_eq, decide_eq_false_iff_not, Bool.not_eq_true', Bool.not_eq_false', Bool.or_eq_true, Bool.and_eq_true, Bool.or_eq_false_iff, Bool.and_eq_false_iff] at hb0
    refine vwp_skip ?_
    apply_assumption
    refine vwp_seq fun K hK => ?_
    refine vwp_seq_region rfl fun K hK => ?_
    simp (dsimp := false) only [push_cast, hP, hnt, hgw, hgb, sevalprocAttr]
    refine hK _ ?_; clear hK
    refine vwp_block ?_
    refine vwp_loop (fun m σ => ∃ (i : Int), m = (v.inputs.length - i).toNat ∧ ((0 ≤ i) ∧ (i ≤ v.inputs.length) ∧ ((v.inputs.drop i.toNat).any longF = v.inputs.any longF)) ∧ σ = St.of [(1, .one (.loc (2, 0) 0)), (4, .one (.c (.int .i64 i)))] [((2, 0), .box 34 (v.pcs false))] [1]) _ ⟨_, ?_, 0, rfl, ?_, rfl⟩ ?_
    · refine wk_conv [] [((2, 0), (2, 0))] (by simp) (by simp) (by decide) ?_ ?_
      · refine hf_cons (by simp (dsimp := false) only [push_cast, ↓reduceIte, Nat.reduceEqDiff, Nat.reduceAdd, reduceCtorEq] <;> rfl) (by exact .one (.loc (by simp))) ?_
        refine hf_cons (by simp (dsimp := false) only [push_cast, ↓reduceIte, Nat.reduceEqDiff, Nat.reduceAdd, reduceCtorEq] <;> rfl) (by exact ConvV.self rfl) ?_
        exact hf_nil
      · refine hh_cons (i := (2, 0)) (by simp) (by simp) (by simp (dsimp := false) only [push_cast, ↓reduceIte, Nat.reduceEqDiff, Nat.reduceAdd, reduceCtorEq] <;> rfl) (by first | (refine ConvB.free ?_; simp only [push_cast]; done) | (refine ConvB.box ?_; repeat' (first | exact ConvVs.nil | exact ConvL.nil | refine ConvV.tup ?_ | refine ConvVs.cons ?_ ?_ | (refine ConvV.self ?_; simp only [push_cast]; done) | refine ConvV.one ?_ | refine ConvV.agg ?_ | (refine ConvL.free ?_; simp only [push_cast]; done) | refine ConvL.append ?_ ?_ | refine ConvL.cons ?_ ?_ | exact Conv.free rfl | exact Conv.nil | (refine Conv.own ?_; simp; done) | (refine Conv.loc ?_; simp; done) | refine Conv.frz (by simp) (by simp (dsimp := false) only [push_cast, ↓reduceIte, Nat.reduceEqDiff, Nat.reduceAdd, reduceCtorEq] <;> rfl) ?_ | refine Conv.sl (by simp) ?_ | refine Conv.fn ?_))) ?_
        exact hh_nil
    · exact ⟨by omega, by omega, rfl⟩
    · rintro m τ ⟨i, hm, ⟨hi0, hi1, hi2⟩, rfl⟩ K hL0
      have hw := fun h : i < (v.inputs.length : Int) => wrap_next hi0 h (by omega)
      have hd := fun h : i < (v.inputs.length : Int) => dropI_map (fun l => PC.sl false l.length (l.map fun b => PC.c (Value.bool b))) hi0 h
      refine vwp_seq fun K hK => ?_
      refine vwp_seq_region rfl fun K hK => ?_
      simp (dsimp := false) only [push_cast, hP, hnt, hgw, hgb, sevalprocAttr, hi0]
      refine hK _ ?_; clear hK
      refine vwp_cond (b := _) (by simp (dsimp := false) only [push_cast, hP, hnt, hgw, hgb, sevalprocAttr, hi0]; rfl) (fun rb1 => ?_) (fun rb1 => ?_)
      · have hb1 := rb1
        try simp only [beq_iff_eq, bne_iff_ne, ne_eq, bne_eq_false_iff_eq, beq_eq_false_iff_ne, decide_eq_true_eq, decide_eq_false_iff_not, Bool.not_eq_true', Bool.not_eq_false', Bool.or_eq_true, Bool.and_eq_true, Bool.or_eq_false_iff, Bool.and_eq_false_iff] at hb1
        have hw := hw hb1
        have hd := hd hb1
        refine vwp_skip ?_
        apply_assumption
        refine vwp_seq fun K hK => ?_
        refine vwp_block ?_
        refine vwp_seq_regionG fun K hK => ?_
        simp (dsimp := false) only [push_cast, hP, hnt, hgw, hgb, sevalprocAttr, hi0, hw, hd, hb1]
        refine guardR_may (by simp (dsimp := false) only [push_cast, hP, hnt, hgw, hgb, sevalprocAttr, hi0, hw, hd, hb1, List.getElem?_cons_zero, List.getElem?_cons_succ]; rfl) ?_
        simp (dsimp := false) only [push_cast, hP, hnt, hgw, hgb, sevalprocAttr, hi0, hw, hd, hb1]
        refine guardR_may (by simp (dsimp := false) only [push_cast, hP, hnt, hgw, hgb, sevalprocAttr, hi0, hw, hd, hb1, List.getElem?_cons_zero, List.getElem?_cons_succ]; rfl) ?_
        simp (dsimp := false) only [push_cast, hP, hnt, hgw, hgb, sevalprocAttr, hi0, hw, hd, hb1]
        refine guardR_may (by simp (dsimp := false) only [push_cast, hP, hnt, hgw, hgb, sevalprocAttr, hi0, hw, hd, hb1, List.getElem?_cons_zero, List.getElem?_cons_succ]; rfl) ?_
        simp (dsimp := false) only [push_cast, hP, hnt, hgw, hgb, sevalprocAttr, hi0, hw, hd, hb1]
        refine guardR_may (by simp (dsimp := false) only [push_cast, hP, hnt, hgw, hgb, sevalprocAttr, hi0, hw, hd, hb1, List.getElem?_cons_zero, List.getElem?_cons_succ]; rfl) ?_
        simp (dsimp := false) only [push_cast, hP, hnt, hgw, hgb, sevalprocAttr, hi0, hw, hd, hb1]
        refine guardR_may (by simp (dsimp := false) only [push_cast, hP, hnt, hgw, hgb, sevalprocAttr, hi0, hw, hd, hb1, List.getElem?_cons_zero, List.getElem?_cons_succ]; rfl) ?_
        simp (dsimp := false) only [push_cast, hP, hnt, hgw, hgb, sevalprocAttr, hi0, hw, hd, hb1]
        refine guardR_may (by simp (dsimp := false) only [push_cast, hP, hnt, hgw, hgb, sevalprocAttr, hi0, hw, hd, hb1, List.getElem?_cons_zero, List.getElem?_cons_succ]; rfl) ?_
        simp (dsimp := false) only [push_cast, hP, hnt, hgw, hgb, sevalprocAttr, hi0, hw, hd, hb1]
        refine guardR_may (by simp (dsimp := false) only [push_cast, hP, hnt, hgw, hgb, sevalprocAttr, hi0, hw, hd, hb1, List.getElem?_cons_zero, List.getElem?_cons_succ]; rfl) ?_
        simp (dsimp := false) only [push_cast, hP, hnt, hgw, hgb, sevalprocAttr, hi0, hw, hd, hb1]
        refine guardR_may (by simp (dsimp := false) only [push_cast, hP, hnt, hgw, hgb, sevalprocAttr, hi0, hw, hd, hb1, List.getElem?_cons_zero, List.getElem?_cons_succ]; rfl) ?_
        simp (dsimp := false) only [push_cast, hP, hnt, hgw, hgb, sevalprocAttr, hi0, hw, hd, hb1]
        refine hK _ ?_; clear hK
        refine vwp_cond (b := _) (by simp (dsimp := false) only [push_cast, hP, hnt, hgw, hgb, sevalprocAttr, hi0, hw, hd, hb1]; rfl) (fun rb2 => ?_) (fun rb2 => ?_)
        · have hb2 := rb2
          try simp only [beq_iff_eq, bne_iff_ne, ne_eq, bne_eq_false_iff_eq, beq_eq_false_iff_ne, decide_eq_true_eq, decide_eq_false_iff_not, Bool.not_eq_true', Bool.not_eq_false', Bool.or_eq_true, Bool.and_eq_true, Bool.or_eq_false_iff, Bool.and_eq_false_iff] at hb2
          refine vwp_seq_region rfl fun K hK => ?_
          simp (dsimp := false) only [push_cast, hP, hnt, hgw, hgb, sevalprocAttr, hi0, hw, hd, hb1]
          refine hK _ ?_; clear hK
          refine vwp_ret ?_
          refine ret_free (by simp (dsimp := false) only [push_cast, hP, hnt, hgw, hgb, sevalprocAttr, hi0, hw, hd, hb1]; rfl) (by simp (dsimp := false) only [push_cast, hP, hnt, hgw, hgb, sevalprocAttr, hi0, hw, hd, hb1]) ?_
          rw [greatF_any (any_stop hi0 hb1 hi2 (by unfold longF; exact decide_eq_true (by omega)))]; rfl
        · have hb2 := rb2
          try simp only [beq_iff_eq, bne_iff_ne, ne_eq, bne_eq_false_iff_eq, beq_eq_false_iff_ne, decide_eq_true_eq, decide_eq_false_iff_not, Bool.not_eq_true', Bool.not_eq_false', Bool.or_eq_true, Bool.and_eq_true, Bool.or_eq_false_iff, Bool.and_eq_false_iff] at hb2
          refine vwp_skip ?_
          apply_assumption
          refine vwp_region rfl ?_
          simp (dsimp := false) only [push_cast, hP, hnt, hgw, hgb, sevalprocAttr, hi0, hw, hd, hb1]
          refine hL0 _ _ _ ?_ ?_ ⟨i + 1, rfl, ?_, rfl⟩
          · omega
          · refine wk_conv [] [((2, 0), (2, 0))] (by simp) (by simp) (by decide) ?_ ?_
            · refine hf_cons (by simp (dsimp := false) only [push_cast, ↓reduceIte, Nat.reduceEqDiff, Nat.reduceAdd, reduceCtorEq, hi0, hw, hd, hb1] <;> rfl) (by exact .one (.loc (by simp))) ?_
              refine hf_cons (by simp (dsimp := false) only [push_cast, ↓reduceIte, Nat.reduceEqDiff, Nat.reduceAdd, reduceCtorEq, hi0, hw, hd, hb1] <;> rfl) (by exact ConvV.self rfl) ?_
              exact hf_nil
            · refine hh_cons (i := (2, 0)) (by simp) (by simp) (by simp (dsimp := false) only [push_cast, ↓reduceIte, Nat.reduceEqDiff, Nat.reduceAdd, reduceCtorEq, hi0, hw, hd, hb1] <;> rfl) (by first | (refine ConvB.free ?_; simp only [push_cast]; done) | (refine ConvB.box ?_; repeat' (first | exact ConvVs.nil | exact ConvL.nil | refine ConvV.tup ?_ | refine ConvVs.cons ?_ ?_ | (refine ConvV.self ?_; simp only [push_cast]; done) | refine ConvV.one ?_ | refine ConvV.agg ?_ | (refine ConvL.free ?_; simp only [push_cast]; done) | refine ConvL.append ?_ ?_ | refine ConvL.cons ?_ ?_ | exact Conv.free rfl | exact Conv.nil | (refine Conv.own ?_; simp; done) | (refine Conv.loc ?_; simp; done) | refine Conv.frz (by simp) (by simp (dsimp := false) only [push_cast, ↓reduceIte, Nat.reduceEqDiff, Nat.reduceAdd, reduceCtorEq, hi0, hw, hd, hb1] <;> rfl) ?_ | refine Conv.sl (by simp) ?_ | refine Conv.fn ?_))) ?_
              exact hh_nil
          · exact ⟨by omega, by omega, any_next hi0 hb1 hi2 (by unfold longF; exact decide_eq_false (by omega))⟩
      · have hb1 := rb1
        try simp only [beq_iff_eq, bne_iff_ne, ne_eq, bne_eq_false_iff_eq, beq_eq_false_iff_ne, decide_eq_true_eq, decide_eq_false_iff_not, Bool.not_eq_true', Bool.not_eq_false', Bool.or_eq_true, Bool.and_eq_true, Bool.or_eq_false_iff, Bool.and_eq_false_iff] at hb1
        refine vwp_exit ?_
        simp only [thenQ, blockQ, Nat.reduceEqDiff, reduceIte]
        apply_assumption
        refine vwp_seq_region rfl fun K hK => ?_
        simp (dsimp := false) only [push_cast, hP, hnt, hgw, hgb, sevalprocAttr, hi0]
        refine hK _ ?_; clear hK
        refine vwp_ret ?_
        refine ret_free (by simp (dsimp := false) only [push_cast, hP, hnt, hgw, hgb, sevalprocAttr, hi0]; rfl) (by simp (dsimp := false) only [push_cast, hP, hnt, hgw, hgb, sevalprocAttr, hi0]) ?_
        rw [greatF_no (by unfold greatHead; exact decide_eq_false (by omega)) (any_end hb1 hi2)]; rfl
end Go.Vm
end
