/-
  Contracts of the library, and a run that is computed (PtAT). Conditions: each theorem's own premises. By an AI agent.
-/
import Derived.Test.YtcdbbiognijleaaGreatPtAS
section
namespace Go.Vm
open Go Go.RowKit Go.Proofs
set_option maxRecDepth 100000
set_option linter.unusedSimpArgs false
set_option linter.unusedVariables false
set_option maxHeartbeats 4000000

def n4001 : Nat := 4001
theorem arr429 : arrT Tryz.prog 429 = some (n4001, 4) := by kernel_rfl
theorem zero429 : zeroCellsT Tryz.prog 429 = some ((List.replicate 4001 false).map fun b => PC.c (Value.bool b)) := by kernel_rfl
def upI (i : Int) : Int := IntKind.wrap .i64 ((i - 1).tdiv 2)
def hpG (h : List Int) : List Bool → Int → List Int → Bool
  | _, _, [] => true
  | has, i, v :: r => if (v < 1 ∨ 4000 < v) ∨ atI has v = true ∨ (0 < i ∧ v < atI h (upI i)) then false else hpG h (has.set v.toNat true) (i + 1) r
def heapF (h : List Int) : Int := if 4000 < (h.length : Int) then 8 else if hpG h (List.replicate 4001 false) 0 h = true then 0 else 8
theorem upI_eq {i : Int} (h0 : 0 < i) (h1 : i ≤ 100000000) : upI i = (i - 1) / 2 := by
  unfold upI
  rw [IntKind.wrap_i64]
  have : (i - 1).tdiv 2 = (i - 1) / 2 := Int.tdiv_eq_ediv_of_nonneg (by omega)
  omega
section
variable {h l : List Int} {has : List Bool} {i : Int} {r : Bool}
theorem hpG_no (h0 : 0 ≤ i) (h1 : i < (l.length : Int)) (hh : hpG h has i (l.drop i.toNat) = r) (hc : (atI l i < 1 ∨ 4000 < atI l i) ∨ atI has (atI l i) = true ∨ (0 < i ∧ atI l i < atI h (upI i))) : r = false := by
  rw [drop_atI h0 h1] at hh
  unfold hpG at hh
  rw [if_pos hc] at hh
  exact hh.symm
theorem hpG_next (h0 : 0 ≤ i) (h1 : i < (l.length : Int)) (hh : hpG h has i (l.drop i.toNat) = r) (hc : ¬ ((atI l i < 1 ∨ 4000 < atI l i) ∨ atI has (atI l i) = true ∨ (0 < i ∧ atI l i < atI h (upI i)))) : hpG h (has.set (atI l i).toNat true) (i + 1) (l.drop (i + 1).toNat) = r := by
  rw [drop_atI h0 h1] at hh
  unfold hpG at hh
  rw [if_neg hc] at hh
  rwa [show (i + 1).toNat = i.toNat + 1 by omega]
theorem hpG_end (h1 : ¬ i < (l.length : Int)) (hh : hpG h has i (l.drop i.toNat) = r) : r = true := by
  rw [List.drop_eq_nil_of_le (by omega)] at hh
  exact hh.symm
end
theorem heap_call (gw : World) (gb : Nat) (h : List Int) (hl : h.length ≤ 100000000) : VCall Tryz.prog gw (gb) 300 [.one (.sl false h.length (h.map fun n => .c (.int .i64 n)))] (.one (.c (.int .i64 (heapF h)))) [] := by
  refine vcall_of [.tmp 2] Tryz.func300 rfl rfl Tryz.ntmps300 rfl (by simp) ?_
  intro C hP hnt hgw hgb hfull
  refine vwp_seq_region rfl fun K hK => ?_
  simp (dsimp := false) only [push_cast, hP, hnt, hgw, hgb, sevalprocAttr, arr429, zero429]
  refine hK _ ?_; clear hK
  refine vwp_seq fun K hK => ?_
  refine vwp_seq_region rfl fun K hK => ?_
  simp (dsimp := false) only [push_cast, hP, hnt, hgw, hgb, sevalprocAttr, arr429, zero429]
  refine hK _ ?_; clear hK
  refine vwp_cond (b := _) (by simp (dsimp := false) only [push_cast, hP, hnt, hgw, hgb, sevalprocAttr, arr429, zero429]; rfl) (fun rb0 => ?_) (fun rb0 => ?_)
  · have hb0 := rb0
    try simp only [nrmB] at hb0
    refine vwp_seq_region rfl fun K hK => ?_
    simp (dsimp := false) only [push_cast, hP, hnt, hgw, hgb, sevalprocAttr, arr429, zero429]
    refine hK _ ?_; clear hK
    refine vwp_ret ?_
    refine ret_free (by simp (dsimp := false) only [push_cast, hP, hnt, hgw, hgb, sevalprocAttr, arr429, zero429]; rfl) (by simp (dsimp := false) only [push_cast, hP, hnt, hgw, hgb, sevalprocAttr, arr429, zero429]) ?_
    simp only [pack, heapF]; rw [if_pos (by omega)]
  · have hb0 := rb0
    try simp only [nrmB] at hb0
    refine vwp_skip ?_
    apply_assumption
    refine vwp_seq_region rfl fun K hK => ?_
    simp (dsimp := false) only [push_cast, hP, hnt, hgw, hgb, sevalprocAttr, arr429, zero429]
    refine hK _ ?_; clear hK
    refine vwp_seq fun K hK => ?_
    refine vwp_seq_region rfl fun K hK => ?_
    simp (dsimp := false) only [push_cast, hP, hnt, hgw, hgb, sevalprocAttr, arr429, zero429]
    refine hK _ ?_; clear hK
    refine vwp_block ?_
    refine vwp_loop (fun m σ => ∃ (i : Int) (has : List Bool), m = (h.length - i).toNat ∧ ((0 ≤ i) ∧ (i ≤ h.length) ∧ (hpG h has i (h.drop i.toNat) = hpG h (List.replicate 4001 false) 0 h) ∧ (has.length = 4001)) ∧ σ = St.of [(0, .one (.sl false h.length (h.map fun n => .c (.int .i64 n)))), (3, .one (.loc (4, 0) 0)), (9, .one (.sl false h.length (h.map fun n => .c (.int .i64 n)))), (10, .one (.c (.int .i64 h.length))), (11, .one (.c (.int .i64 i)))] [((4, 0), .box 429 (has.map fun b => .c (.bool b)))] [3]) _ ⟨_, ?_, 0, List.replicate 4001 false, rfl, ?_, rfl⟩ ?_
    · refine wk_conv [] [((4, 0), (4, 0))] (by simp) (by simp) (by decide) ?_ ?_
      · refine hf_cons (by simp (dsimp := false) only [push_cast, ↓reduceIte, Nat.reduceEqDiff, Nat.reduceAdd, reduceCtorEq, arr429, zero429] <;> rfl) (by exact ConvV.self (by simp only [push_cast])) ?_
        refine hf_cons (by simp (dsimp := false) only [push_cast, ↓reduceIte, Nat.reduceEqDiff, Nat.reduceAdd, reduceCtorEq, arr429, zero429] <;> rfl) (by exact .one (.loc (by simp))) ?_
        refine hf_cons (by simp (dsimp := false) only [push_cast, ↓reduceIte, Nat.reduceEqDiff, Nat.reduceAdd, reduceCtorEq, arr429, zero429] <;> rfl) (by exact ConvV.self (by simp only [push_cast])) ?_
        refine hf_cons (by simp (dsimp := false) only [push_cast, ↓reduceIte, Nat.reduceEqDiff, Nat.reduceAdd, reduceCtorEq, arr429, zero429] <;> rfl) (by exact ConvV.self rfl) ?_
        refine hf_cons (by simp (dsimp := false) only [push_cast, ↓reduceIte, Nat.reduceEqDiff, Nat.reduceAdd, reduceCtorEq, arr429, zero429] <;> rfl) (by exact ConvV.self rfl) ?_
        exact hf_nil
      · refine hh_cons (i := (4, 0)) (by simp) (by simp) (by simp (dsimp := false) only [push_cast, ↓reduceIte, Nat.reduceEqDiff, Nat.reduceAdd, reduceCtorEq, arr429, zero429] <;> rfl) (ConvB.free (by simp only [push_cast])) ?_
        exact hh_nil
    · exact ⟨by omega, by omega, rfl, List.length_replicate⟩
    · rintro m τ ⟨i, has, hm, ⟨hi0, hi1, hi2, hxl⟩, rfl⟩ K hL0
      have hw := fun hh : i < (h.length : Int) => wrap_next hi0 hh (by omega)
      have hd := fun hh : i < (h.length : Int) => dropI_map (fun n => PC.c (Value.int .i64 n)) hi0 hh
      refine vwp_seq_region rfl fun K hK => ?_
      simp (dsimp := false) only [push_cast, hP, hnt, hgw, hgb, sevalprocAttr, arr429, zero429, hi0, two_ne]
      refine hK _ ?_; clear hK
      refine vwp_seq fun K hK => ?_
      refine vwp_cond (b := _) (by simp (dsimp := false) only [push_cast, hP, hnt, hgw, hgb, sevalprocAttr, arr429, zero429, hi0, two_ne]; rfl) (fun rb1 => ?_) (fun rb1 => ?_)
      · have hb1 := rb1
        try simp only [nrmB] at hb1
        have hbI := hb1
        have hw := hw hb1
        have hd := hd hb1
        refine vwp_skip ?_
        apply_assumption
        refine vwp_seq fun K hK => ?_
        refine vwp_block ?_
        refine vwp_seq_region rfl fun K hK => ?_
        simp (dsimp := false) only [push_cast, hP, hnt, hgw, hgb, sevalprocAttr, arr429, zero429, hi0, two_ne, hw, hd, hb1]
        refine hK _ ?_; clear hK
        refine vwp_seq fun K hK => ?_
        have hcs : atI h i < 1 ∨ (¬ atI h i < 1 ∧ 4000 < atI h i) ∨ ((¬ atI h i < 1 ∧ ¬ 4000 < atI h i) ∧ atI has (atI h i) = true) ∨ ((¬ atI h i < 1 ∧ ¬ 4000 < atI h i) ∧ atI has (atI h i) = false ∧ i = 0) ∨ ((¬ atI h i < 1 ∧ ¬ 4000 < atI h i) ∧ atI has (atI h i) = false ∧ 0 < i ∧ atI h i < atI h (upI i)) ∨ ((¬ atI h i < 1 ∧ ¬ 4000 < atI h i) ∧ atI has (atI h i) = false ∧ 0 < i ∧ ¬ atI h i < atI h (upI i)) := by cases atI has (atI h i) <;> simp <;> omega
        rcases hcs with ho | ho | ⟨ho, hh2⟩ | ⟨ho, hh2, hz⟩ | ⟨ho, hh2, hz, hle⟩ | ⟨ho, hh2, hz, hle⟩
        · have lo : decide (atI h i < 1) = true := by simp [ho]
          refine vwp_seq_regionG fun K hK => ?_
          simp (dsimp := false) only [push_cast, hP, hnt, hgw, hgb, sevalprocAttr, arr429, zero429, hi0, two_ne, hw, hd, hb1, lo]
          iterate 2 (refine guardR_skip (by simp (dsimp := false) only [push_cast, hP, hnt, hgw, hgb, sevalprocAttr, arr429, zero429, hi0, two_ne, hw, hd, hb1, lo, List.getElem?_cons_zero, List.getElem?_cons_succ] <;> rfl) (by simp) ⟨by first | trivial | (simp (dsimp := false) only [push_cast, hP, hnt, hgw, hgb, sevalprocAttr, arr429, zero429, hi0, two_ne, hw, hd, hb1, lo]; done), ?_⟩; simp (dsimp := false) only [push_cast, hP, hnt, hgw, hgb, sevalprocAttr, arr429, zero429, hi0, two_ne, hw, hd, hb1, lo])
          iterate 3 (refine guardR_skip (by simp (dsimp := false) only [push_cast, hP, hnt, hgw, hgb, sevalprocAttr, arr429, zero429, hi0, two_ne, hw, hd, hb1, lo, List.getElem?_cons_zero, List.getElem?_cons_succ] <;> rfl) (by simp) ⟨by first | trivial | (simp (dsimp := false) only [push_cast, hP, hnt, hgw, hgb, sevalprocAttr, arr429, zero429, hi0, two_ne, hw, hd, hb1, lo]; done), ?_⟩; simp (dsimp := false) only [push_cast, hP, hnt, hgw, hgb, sevalprocAttr, arr429, zero429, hi0, two_ne, hw, hd, hb1, lo])
          iterate 12 (refine guardR_skip (by simp (dsimp := false) only [push_cast, hP, hnt, hgw, hgb, sevalprocAttr, arr429, zero429, hi0, two_ne, hw, hd, hb1, lo, List.getElem?_cons_zero, List.getElem?_cons_succ] <;> rfl) (by simp) ⟨by first | trivial | (simp (dsimp := false) only [push_cast, hP, hnt, hgw, hgb, sevalprocAttr, arr429, zero429, hi0, two_ne, hw, hd, hb1, lo]; done), ?_⟩; simp (dsimp := false) only [push_cast, hP, hnt, hgw, hgb, sevalprocAttr, arr429, zero429, hi0, two_ne, hw, hd, hb1, lo])
          refine hK _ ?_; clear hK
          refine vwp_cond (b := true) (by simp (dsimp := false) only [push_cast, hP, hnt, hgw, hgb, sevalprocAttr, arr429, zero429, hi0, two_ne, hw, hd, hb1, lo] <;> rfl) (fun hx => ?_) (fun hx => by cases hx)
          refine vwp_seq_region rfl fun K hK => ?_
          simp (dsimp := false) only [push_cast, hP, hnt, hgw, hgb, sevalprocAttr, arr429, zero429, hi0, two_ne, hw, hd, hb1, lo]
          refine hK _ ?_; clear hK
          refine vwp_ret ?_
          refine ret_free (by simp (dsimp := false) only [push_cast, hP, hnt, hgw, hgb, sevalprocAttr, arr429, zero429, hi0, two_ne, hw, hd, hb1, lo]; rfl) (by simp (dsimp := false) only [push_cast, hP, hnt, hgw, hgb, sevalprocAttr, arr429, zero429, hi0, two_ne, hw, hd, hb1, lo]) ?_
          simp only [pack, heapF]; rw [if_neg (by omega), hpG_no hi0 hbI hi2 (.inl (.inl ho))]; rfl
        · have lo : decide (atI h i < 1) = false := by simp; omega
          have up : decide (4000 < atI h i) = true := by simp; omega
          refine vwp_seq_regionG fun K hK => ?_
          simp (dsimp := false) only [push_cast, hP, hnt, hgw, hgb, sevalprocAttr, arr429, zero429, hi0, two_ne, hw, hd, hb1, lo, up]
          iterate 2 (refine guardR_run (by simp (dsimp := false) only [push_cast, hP, hnt, hgw, hgb, sevalprocAttr, arr429, zero429, hi0, two_ne, hw, hd, hb1, lo, up, List.getElem?_cons_zero, List.getElem?_cons_succ] <;> rfl) ?_; simp (dsimp := false) only [push_cast, hP, hnt, hgw, hgb, sevalprocAttr, arr429, zero429, hi0, two_ne, hw, hd, hb1, lo, up])
          iterate 3 (refine guardR_skip (by simp (dsimp := false) only [push_cast, hP, hnt, hgw, hgb, sevalprocAttr, arr429, zero429, hi0, two_ne, hw, hd, hb1, lo, up, List.getElem?_cons_zero, List.getElem?_cons_succ] <;> rfl) (by simp) ⟨by first | trivial | (simp (dsimp := false) only [push_cast, hP, hnt, hgw, hgb, sevalprocAttr, arr429, zero429, hi0, two_ne, hw, hd, hb1, lo, up]; done), ?_⟩; simp (dsimp := false) only [push_cast, hP, hnt, hgw, hgb, sevalprocAttr, arr429, zero429, hi0, two_ne, hw, hd, hb1, lo, up])
          iterate 12 (refine guardR_skip (by simp (dsimp := false) only [push_cast, hP, hnt, hgw, hgb, sevalprocAttr, arr429, zero429, hi0, two_ne, hw, hd, hb1, lo, up, List.getElem?_cons_zero, List.getElem?_cons_succ] <;> rfl) (by simp) ⟨by first | trivial | (simp (dsimp := false) only [push_cast, hP, hnt, hgw, hgb, sevalprocAttr, arr429, zero429, hi0, two_ne, hw, hd, hb1, lo, up]; done), ?_⟩; simp (dsimp := false) only [push_cast, hP, hnt, hgw, hgb, sevalprocAttr, arr429, zero429, hi0, two_ne, hw, hd, hb1, lo, up])
          refine hK _ ?_; clear hK
          refine vwp_cond (b := true) (by simp (dsimp := false) only [push_cast, hP, hnt, hgw, hgb, sevalprocAttr, arr429, zero429, hi0, two_ne, hw, hd, hb1, lo, up] <;> rfl) (fun hx => ?_) (fun hx => by cases hx)
          refine vwp_seq_region rfl fun K hK => ?_
          simp (dsimp := false) only [push_cast, hP, hnt, hgw, hgb, sevalprocAttr, arr429, zero429, hi0, two_ne, hw, hd, hb1, lo, up]
          refine hK _ ?_; clear hK
          refine vwp_ret ?_
          refine ret_free (by simp (dsimp := false) only [push_cast, hP, hnt, hgw, hgb, sevalprocAttr, arr429, zero429, hi0, two_ne, hw, hd, hb1, lo, up]; rfl) (by simp (dsimp := false) only [push_cast, hP, hnt, hgw, hgb, sevalprocAttr, arr429, zero429, hi0, two_ne, hw, hd, hb1, lo, up]) ?_
          simp only [pack, heapF]; rw [if_neg (by omega), hpG_no hi0 hbI hi2 (.inl (.inr ho.2))]; rfl
        · have lo : decide (atI h i < 1) = false := by simp; omega
          have up : decide (4000 < atI h i) = false := by simp; omega
          have v0 : 0 ≤ atI h i := by omega
          have v1 : atI h i < (n4001 : Int) := by have : (n4001 : Int) = 4001 := rfl; omega
          have hdh := dropI_map (l := has) (i := atI h i) (fun b : Bool => PC.c (Value.bool b)) v0 (by omega)
          have hf1 : (atI h i).toNat * 1 + 1 ≤ (has.map (fun b : Bool => PC.c (Value.bool b))).length := by rw [List.length_map]; omega
          have hs1 := splice_setG (f := (fun b : Bool => PC.c (Value.bool b))) (xs := has) (k := (atI h i).toNat) (y := true) (by omega)
          refine vwp_seq_regionG fun K hK => ?_
          simp (dsimp := false) only [push_cast, hP, hnt, hgw, hgb, sevalprocAttr, arr429, zero429, hi0, two_ne, hw, hd, hb1, lo, up, v0, v1, hdh, hf1, hs1, hh2]
          iterate 2 (refine guardR_run (by simp (dsimp := false) only [push_cast, hP, hnt, hgw, hgb, sevalprocAttr, arr429, zero429, hi0, two_ne, hw, hd, hb1, lo, up, v0, v1, hdh, hf1, hs1, hh2, List.getElem?_cons_zero, List.getElem?_cons_succ] <;> rfl) ?_; simp (dsimp := false) only [push_cast, hP, hnt, hgw, hgb, sevalprocAttr, arr429, zero429, hi0, two_ne, hw, hd, hb1, lo, up, v0, v1, hdh, hf1, hs1, hh2])
          iterate 3 (refine guardR_run (by simp (dsimp := false) only [push_cast, hP, hnt, hgw, hgb, sevalprocAttr, arr429, zero429, hi0, two_ne, hw, hd, hb1, lo, up, v0, v1, hdh, hf1, hs1, hh2, List.getElem?_cons_zero, List.getElem?_cons_succ] <;> rfl) ?_; simp (dsimp := false) only [push_cast, hP, hnt, hgw, hgb, sevalprocAttr, arr429, zero429, hi0, two_ne, hw, hd, hb1, lo, up, v0, v1, hdh, hf1, hs1, hh2])
          iterate 12 (refine guardR_skip (by simp (dsimp := false) only [push_cast, hP, hnt, hgw, hgb, sevalprocAttr, arr429, zero429, hi0, two_ne, hw, hd, hb1, lo, up, v0, v1, hdh, hf1, hs1, hh2, List.getElem?_cons_zero, List.getElem?_cons_succ] <;> rfl) (by simp) ⟨by first | trivial | (simp (dsimp := false) only [push_cast, hP, hnt, hgw, hgb, sevalprocAttr, arr429, zero429, hi0, two_ne, hw, hd, hb1, lo, up, v0, v1, hdh, hf1, hs1, hh2]; done), ?_⟩; simp (dsimp := false) only [push_cast, hP, hnt, hgw, hgb, sevalprocAttr, arr429, zero429, hi0, two_ne, hw, hd, hb1, lo, up, v0, v1, hdh, hf1, hs1, hh2])
          refine hK _ ?_; clear hK
          refine vwp_cond (b := true) (by simp (dsimp := false) only [push_cast, hP, hnt, hgw, hgb, sevalprocAttr, arr429, zero429, hi0, two_ne, hw, hd, hb1, lo, up, v0, v1, hdh, hf1, hs1, hh2] <;> rfl) (fun hx => ?_) (fun hx => by cases hx)
          refine vwp_seq_region rfl fun K hK => ?_
          simp (dsimp := false) only [push_cast, hP, hnt, hgw, hgb, sevalprocAttr, arr429, zero429, hi0, two_ne, hw, hd, hb1, lo, up, v0, v1, hdh, hf1, hs1, hh2]
          refine hK _ ?_; clear hK
          refine vwp_ret ?_
          refine ret_free (by simp (dsimp := false) only [push_cast, hP, hnt, hgw, hgb, sevalprocAttr, arr429, zero429, hi0, two_ne, hw, hd, hb1, lo, up, v0, v1, hdh, hf1, hs1, hh2]; rfl) (by simp (dsimp := false) only [push_cast, hP, hnt, hgw, hgb, sevalprocAttr, arr429, zero429, hi0, two_ne, hw, hd, hb1, lo, up, v0, v1, hdh, hf1, hs1, hh2]) ?_
          simp only [pack, heapF]; rw [if_neg (by omega), hpG_no hi0 hbI hi2 (.inr (.inl hh2))]; rfl
        · have lo : decide (atI h i < 1) = false := by simp; omega
          have up : decide (4000 < atI h i) = false := by simp; omega
          have v0 : 0 ≤ atI h i := by omega
          have v1 : atI h i < (n4001 : Int) := by have : (n4001 : Int) = 4001 := rfl; omega
          have hdh := dropI_map (l := has) (i := atI h i) (fun b : Bool => PC.c (Value.bool b)) v0 (by omega)
          have hf1 : (atI h i).toNat * 1 + 1 ≤ (has.map (fun b : Bool => PC.c (Value.bool b))).length := by rw [List.length_map]; omega
          have hs1 := splice_setG (f := (fun b : Bool => PC.c (Value.bool b))) (xs := has) (k := (atI h i).toNat) (y := true) (by omega)
          have hgt : decide (0 < i) = false := by simp; omega
          refine vwp_seq_regionG fun K hK => ?_
          simp (dsimp := false) only [push_cast, hP, hnt, hgw, hgb, sevalprocAttr, arr429, zero429, hi0, two_ne, hw, hd, hb1, lo, up, v0, v1, hdh, hf1, hs1, hh2, hgt]
          iterate 2 (refine guardR_run (by simp (dsimp := false) only [push_cast, hP, hnt, hgw, hgb, sevalprocAttr, arr429, zero429, hi0, two_ne, hw, hd, hb1, lo, up, v0, v1, hdh, hf1, hs1, hh2, hgt, List.getElem?_cons_zero, List.getElem?_cons_succ] <;> rfl) ?_; simp (dsimp := false) only [push_cast, hP, hnt, hgw, hgb, sevalprocAttr, arr429, zero429, hi0, two_ne, hw, hd, hb1, lo, up, v0, v1, hdh, hf1, hs1, hh2, hgt])
          iterate 3 (refine guardR_run (by simp (dsimp := false) only [push_cast, hP, hnt, hgw, hgb, sevalprocAttr, arr429, zero429, hi0, two_ne, hw, hd, hb1, lo, up, v0, v1, hdh, hf1, hs1, hh2, hgt, List.getElem?_cons_zero, List.getElem?_cons_succ] <;> rfl) ?_; simp (dsimp := false) only [push_cast, hP, hnt, hgw, hgb, sevalprocAttr, arr429, zero429, hi0, two_ne, hw, hd, hb1, lo, up, v0, v1, hdh, hf1, hs1, hh2, hgt])
          iterate 3 (refine guardR_run (by simp (dsimp := false) only [push_cast, hP, hnt, hgw, hgb, sevalprocAttr, arr429, zero429, hi0, two_ne, hw, hd, hb1, lo, up, v0, v1, hdh, hf1, hs1, hh2, hgt, List.getElem?_cons_zero, List.getElem?_cons_succ] <;> rfl) ?_; simp (dsimp := false) only [push_cast, hP, hnt, hgw, hgb, sevalprocAttr, arr429, zero429, hi0, two_ne, hw, hd, hb1, lo, up, v0, v1, hdh, hf1, hs1, hh2, hgt])
          iterate 8 (refine guardR_skip (by simp (dsimp := false) only [push_cast, hP, hnt, hgw, hgb, sevalprocAttr, arr429, zero429, hi0, two_ne, hw, hd, hb1, lo, up, v0, v1, hdh, hf1, hs1, hh2, hgt, List.getElem?_cons_zero, List.getElem?_cons_succ] <;> rfl) (by simp) ⟨by first | trivial | (simp (dsimp := false) only [push_cast, hP, hnt, hgw, hgb, sevalprocAttr, arr429, zero429, hi0, two_ne, hw, hd, hb1, lo, up, v0, v1, hdh, hf1, hs1, hh2, hgt]; done), ?_⟩; simp (dsimp := false) only [push_cast, hP, hnt, hgw, hgb, sevalprocAttr, arr429, zero429, hi0, two_ne, hw, hd, hb1, lo, up, v0, v1, hdh, hf1, hs1, hh2, hgt])
          refine guardR_run (by simp (dsimp := false) only [push_cast, hP, hnt, hgw, hgb, sevalprocAttr, arr429, zero429, hi0, two_ne, hw, hd, hb1, lo, up, v0, v1, hdh, hf1, hs1, hh2, hgt, List.getElem?_cons_zero, List.getElem?_cons_succ] <;> rfl) ?_; simp (dsimp := false) only [push_cast, hP, hnt, hgw, hgb, sevalprocAttr, arr429, zero429, hi0, two_ne, hw, hd, hb1, lo, up, v0, v1, hdh, hf1, hs1, hh2, hgt]
          refine hK _ ?_; clear hK
          refine vwp_cond (b := false) (by simp (dsimp := false) only [push_cast, hP, hnt, hgw, hgb, sevalprocAttr, arr429, zero429, hi0, two_ne, hw, hd, hb1, lo, up, v0, v1, hdh, hf1, hs1, hh2, hgt] <;> rfl) (fun hx => by cases hx) (fun hx => ?_)
          refine vwp_skip ?_
          apply_assumption
          refine vwp_region rfl ?_
          simp (dsimp := false) only [push_cast, hP, hnt, hgw, hgb, sevalprocAttr, arr429, zero429, hi0, two_ne, hw, hd, hb1, lo, up, v0, v1, hdh, hf1, hs1, hh2, hgt]
          apply_assumption
          refine vwp_region rfl ?_
          simp (dsimp := false) only [push_cast, hP, hnt, hgw, hgb, sevalprocAttr, arr429, zero429, hi0, two_ne, hw, hd, hb1, lo, up, v0, v1, hdh, hf1, hs1, hh2, hgt]
          refine hL0 _ _ _ ?_ ?_ ⟨i + 1, has.set (atI h i).toNat true, rfl, ?_, rfl⟩
          · omega
          · refine wk_conv [] [((4, 0), (4, 0))] (by simp) (by simp) (by decide) ?_ ?_
            · refine hf_cons (by simp (dsimp := false) only [push_cast, ↓reduceIte, Nat.reduceEqDiff, Nat.reduceAdd, reduceCtorEq, arr429, zero429, hi0, two_ne, hw, hd, hb1, lo, up, v0, v1, hdh, hf1, hs1, hh2, hgt] <;> rfl) (by exact ConvV.self (by simp only [push_cast])) ?_
              refine hf_cons (by simp (dsimp := false) only [push_cast, ↓reduceIte, Nat.reduceEqDiff, Nat.reduceAdd, reduceCtorEq, arr429, zero429, hi0, two_ne, hw, hd, hb1, lo, up, v0, v1, hdh, hf1, hs1, hh2, hgt] <;> rfl) (by exact .one (.loc (by simp))) ?_
              refine hf_cons (by simp (dsimp := false) only [push_cast, ↓reduceIte, Nat.reduceEqDiff, Nat.reduceAdd, reduceCtorEq, arr429, zero429, hi0, two_ne, hw, hd, hb1, lo, up, v0, v1, hdh, hf1, hs1, hh2, hgt] <;> rfl) (by exact ConvV.self (by simp only [push_cast])) ?_
              refine hf_cons (by simp (dsimp := false) only [push_cast, ↓reduceIte, Nat.reduceEqDiff, Nat.reduceAdd, reduceCtorEq, arr429, zero429, hi0, two_ne, hw, hd, hb1, lo, up, v0, v1, hdh, hf1, hs1, hh2, hgt] <;> rfl) (by exact ConvV.self rfl) ?_
              refine hf_cons (by simp (dsimp := false) only [push_cast, ↓reduceIte, Nat.reduceEqDiff, Nat.reduceAdd, reduceCtorEq, arr429, zero429, hi0, two_ne, hw, hd, hb1, lo, up, v0, v1, hdh, hf1, hs1, hh2, hgt] <;> rfl) (by exact ConvV.self rfl) ?_
              exact hf_nil
            · refine hh_cons (i := (4, 0)) (by simp) (by simp) (by simp (dsimp := false) only [push_cast, ↓reduceIte, Nat.reduceEqDiff, Nat.reduceAdd, reduceCtorEq, arr429, zero429, hi0, two_ne, hw, hd, hb1, lo, up, v0, v1, hdh, hf1, hs1, hh2, hgt] <;> rfl) (ConvB.free (by simp only [push_cast])) ?_
              exact hh_nil
          · exact ⟨by omega, by omega, hpG_next hi0 hbI hi2 (by simp only [hh2, Bool.false_eq_true, false_or]; omega), by rw [List.length_set]; exact hxl⟩
        · have lo : decide (atI h i < 1) = false := by simp; omega
          have up : decide (4000 < atI h i) = false := by simp; omega
          have v0 : 0 ≤ atI h i := by omega
          have v1 : atI h i < (n4001 : Int) := by have : (n4001 : Int) = 4001 := rfl; omega
          have hdh := dropI_map (l := has) (i := atI h i) (fun b : Bool => PC.c (Value.bool b)) v0 (by omega)
          have hf1 : (atI h i).toNat * 1 + 1 ≤ (has.map (fun b : Bool => PC.c (Value.bool b))).length := by rw [List.length_map]; omega
          have hs1 := splice_setG (f := (fun b : Bool => PC.c (Value.bool b))) (xs := has) (k := (atI h i).toNat) (y := true) (by omega)
          have hgt : decide (0 < i) = true := by simp; omega
          have hwp := wrap_pred hz hbI (by omega)
          have hup : IntKind.wrap .i64 ((i - 1).tdiv 2) = upI i := rfl
          have hue := upI_eq hz (by omega)
          have hp0 : 0 ≤ upI i := by omega
          have hp1 : upI i < (h.length : Int) := by omega
          have hdp := dropI_map (fun n => PC.c (Value.int .i64 n)) hp0 hp1
          have hle2 : decide (atI h i < atI h (upI i)) = true := by simp [hle]
          refine vwp_seq_regionG fun K hK => ?_
          simp (dsimp := false) only [push_cast, hP, hnt, hgw, hgb, sevalprocAttr, arr429, zero429, hi0, two_ne, hw, hd, hb1, lo, up, v0, v1, hdh, hf1, hs1, hh2, hgt, hwp, hup, hp0, hp1, hdp, hle2]
          iterate 2 (refine guardR_run (by simp (dsimp := false) only [push_cast, hP, hnt, hgw, hgb, sevalprocAttr, arr429, zero429, hi0, two_ne, hw, hd, hb1, lo, up, v0, v1, hdh, hf1, hs1, hh2, hgt, hwp, hup, hp0, hp1, hdp, hle2, List.getElem?_cons_zero, List.getElem?_cons_succ] <;> rfl) ?_; simp (dsimp := false) only [push_cast, hP, hnt, hgw, hgb, sevalprocAttr, arr429, zero429, hi0, two_ne, hw, hd, hb1, lo, up, v0, v1, hdh, hf1, hs1, hh2, hgt, hwp, hup, hp0, hp1, hdp, hle2])
          iterate 3 (refine guardR_run (by simp (dsimp := false) only [push_cast, hP, hnt, hgw, hgb, sevalprocAttr, arr429, zero429, hi0, two_ne, hw, hd, hb1, lo, up, v0, v1, hdh, hf1, hs1, hh2, hgt, hwp, hup, hp0, hp1, hdp, hle2, List.getElem?_cons_zero, List.getElem?_cons_succ] <;> rfl) ?_; simp (dsimp := false) only [push_cast, hP, hnt, hgw, hgb, sevalprocAttr, arr429, zero429, hi0, two_ne, hw, hd, hb1, lo, up, v0, v1, hdh, hf1, hs1, hh2, hgt, hwp, hup, hp0, hp1, hdp, hle2])
          iterate 12 (refine guardR_run (by simp (dsimp := false) only [push_cast, hP, hnt, hgw, hgb, sevalprocAttr, arr429, zero429, hi0, two_ne, hw, hd, hb1, lo, up, v0, v1, hdh, hf1, hs1, hh2, hgt, hwp, hup, hp0, hp1, hdp, hle2, List.getElem?_cons_zero, List.getElem?_cons_succ] <;> rfl) ?_; simp (dsimp := false) only [push_cast, hP, hnt, hgw, hgb, sevalprocAttr, arr429, zero429, hi0, two_ne, hw, hd, hb1, lo, up, v0, v1, hdh, hf1, hs1, hh2, hgt, hwp, hup, hp0, hp1, hdp, hle2])
          refine hK _ ?_; clear hK
          refine vwp_cond (b := true) (by simp (dsimp := false) only [push_cast, hP, hnt, hgw, hgb, sevalprocAttr, arr429, zero429, hi0, two_ne, hw, hd, hb1, lo, up, v0, v1, hdh, hf1, hs1, hh2, hgt, hwp, hup, hp0, hp1, hdp, hle2] <;> rfl) (fun hx => ?_) (fun hx => by cases hx)
          refine vwp_seq_region rfl fun K hK => ?_
          simp (dsimp := false) only [push_cast, hP, hnt, hgw, hgb, sevalprocAttr, arr429, zero429, hi0, two_ne, hw, hd, hb1, lo, up, v0, v1, hdh, hf1, hs1, hh2, hgt, hwp, hup, hp0, hp1, hdp, hle2]
          refine hK _ ?_; clear hK
          refine vwp_ret ?_
          refine ret_free (by simp (dsimp := false) only [push_cast, hP, hnt, hgw, hgb, sevalprocAttr, arr429, zero429, hi0, two_ne, hw, hd, hb1, lo, up, v0, v1, hdh, hf1, hs1, hh2, hgt, hwp, hup, hp0, hp1, hdp, hle2]; rfl) (by simp (dsimp := false) only [push_cast, hP, hnt, hgw, hgb, sevalprocAttr, arr429, zero429, hi0, two_ne, hw, hd, hb1, lo, up, v0, v1, hdh, hf1, hs1, hh2, hgt, hwp, hup, hp0, hp1, hdp, hle2]) ?_
          simp only [pack, heapF]; rw [if_neg (by omega), hpG_no hi0 hbI hi2 (.inr (.inr ⟨hz, hle⟩))]; rfl
        · have lo : decide (atI h i < 1) = false := by simp; omega
          have up : decide (4000 < atI h i) = false := by simp; omega
          have v0 : 0 ≤ atI h i := by omega
          have v1 : atI h i < (n4001 : Int) := by have : (n4001 : Int) = 4001 := rfl; omega
          have hdh := dropI_map (l := has) (i := atI h i) (fun b : Bool => PC.c (Value.bool b)) v0 (by omega)
          have hf1 : (atI h i).toNat * 1 + 1 ≤ (has.map (fun b : Bool => PC.c (Value.bool b))).length := by rw [List.length_map]; omega
          have hs1 := splice_setG (f := (fun b : Bool => PC.c (Value.bool b))) (xs := has) (k := (atI h i).toNat) (y := true) (by omega)
          have hgt : decide (0 < i) = true := by simp; omega
          have hwp := wrap_pred hz hbI (by omega)
          have hup : IntKind.wrap .i64 ((i - 1).tdiv 2) = upI i := rfl
          have hue := upI_eq hz (by omega)
          have hp0 : 0 ≤ upI i := by omega
          have hp1 : upI i < (h.length : Int) := by omega
          have hdp := dropI_map (fun n => PC.c (Value.int .i64 n)) hp0 hp1
          have hle2 : decide (atI h i < atI h (upI i)) = false := by simp; omega
          refine vwp_seq_regionG fun K hK => ?_
          simp (dsimp := false) only [push_cast, hP, hnt, hgw, hgb, sevalprocAttr, arr429, zero429, hi0, two_ne, hw, hd, hb1, lo, up, v0, v1, hdh, hf1, hs1, hh2, hgt, hwp, hup, hp0, hp1, hdp, hle2]
          iterate 2 (refine guardR_run (by simp (dsimp := false) only [push_cast, hP, hnt, hgw, hgb, sevalprocAttr, arr429, zero429, hi0, two_ne, hw, hd, hb1, lo, up, v0, v1, hdh, hf1, hs1, hh2, hgt, hwp, hup, hp0, hp1, hdp, hle2, List.getElem?_cons_zero, List.getElem?_cons_succ] <;> rfl) ?_; simp (dsimp := false) only [push_cast, hP, hnt, hgw, hgb, sevalprocAttr, arr429, zero429, hi0, two_ne, hw, hd, hb1, lo, up, v0, v1, hdh, hf1, hs1, hh2, hgt, hwp, hup, hp0, hp1, hdp, hle2])
          iterate 3 (refine guardR_run (by simp (dsimp := false) only [push_cast, hP, hnt, hgw, hgb, sevalprocAttr, arr429, zero429, hi0, two_ne, hw, hd, hb1, lo, up, v0, v1, hdh, hf1, hs1, hh2, hgt, hwp, hup, hp0, hp1, hdp, hle2, List.getElem?_cons_zero, List.getElem?_cons_succ] <;> rfl) ?_; simp (dsimp := false) only [push_cast, hP, hnt, hgw, hgb, sevalprocAttr, arr429, zero429, hi0, two_ne, hw, hd, hb1, lo, up, v0, v1, hdh, hf1, hs1, hh2, hgt, hwp, hup, hp0, hp1, hdp, hle2])
          iterate 12 (refine guardR_run (by simp (dsimp := false) only [push_cast, hP, hnt, hgw, hgb, sevalprocAttr, arr429, zero429, hi0, two_ne, hw, hd, hb1, lo, up, v0, v1, hdh, hf1, hs1, hh2, hgt, hwp, hup, hp0, hp1, hdp, hle2, List.getElem?_cons_zero, List.getElem?_cons_succ] <;> rfl) ?_; simp (dsimp := false) only [push_cast, hP, hnt, hgw, hgb, sevalprocAttr, arr429, zero429, hi0, two_ne, hw, hd, hb1, lo, up, v0, v1, hdh, hf1, hs1, hh2, hgt, hwp, hup, hp0, hp1, hdp, hle2])
          refine hK _ ?_; clear hK
          refine vwp_cond (b := false) (by simp (dsimp := false) only [push_cast, hP, hnt, hgw, hgb, sevalprocAttr, arr429, zero429, hi0, two_ne, hw, hd, hb1, lo, up, v0, v1, hdh, hf1, hs1, hh2, hgt, hwp, hup, hp0, hp1, hdp, hle2] <;> rfl) (fun hx => by cases hx) (fun hx => ?_)
          refine vwp_skip ?_
          apply_assumption
          refine vwp_region rfl ?_
          simp (dsimp := false) only [push_cast, hP, hnt, hgw, hgb, sevalprocAttr, arr429, zero429, hi0, two_ne, hw, hd, hb1, lo, up, v0, v1, hdh, hf1, hs1, hh2, hgt, hwp, hup, hp0, hp1, hdp, hle2]
          apply_assumption
          refine vwp_region rfl ?_
          simp (dsimp := false) only [push_cast, hP, hnt, hgw, hgb, sevalprocAttr, arr429, zero429, hi0, two_ne, hw, hd, hb1, lo, up, v0, v1, hdh, hf1, hs1, hh2, hgt, hwp, hup, hp0, hp1, hdp, hle2]
          refine hL0 _ _ _ ?_ ?_ ⟨i + 1, has.set (atI h i).toNat true, rfl, ?_, rfl⟩
          · omega
          · refine wk_conv [] [((4, 0), (4, 0))] (by simp) (by simp) (by decide) ?_ ?_
            · refine hf_cons (by simp (dsimp := false) only [push_cast, ↓reduceIte, Nat.reduceEqDiff, Nat.reduceAdd, reduceCtorEq, arr429, zero429, hi0, two_ne, hw, hd, hb1, lo, up, v0, v1, hdh, hf1, hs1, hh2, hgt, hwp, hup, hp0, hp1, hdp, hle2] <;> rfl) (by exact ConvV.self (by simp only [push_cast])) ?_
              refine hf_cons (by simp (dsimp := false) only [push_cast, ↓reduceIte, Nat.reduceEqDiff, Nat.reduceAdd, reduceCtorEq, arr429, zero429, hi0, two_ne, hw, hd, hb1, lo, up, v0, v1, hdh, hf1, hs1, hh2, hgt, hwp, hup, hp0, hp1, hdp, hle2] <;> rfl) (by exact .one (.loc (by simp))) ?_
              refine hf_cons (by simp (dsimp := false) only [push_cast, ↓reduceIte, Nat.reduceEqDiff, Nat.reduceAdd, reduceCtorEq, arr429, zero429, hi0, two_ne, hw, hd, hb1, lo, up, v0, v1, hdh, hf1, hs1, hh2, hgt, hwp, hup, hp0, hp1, hdp, hle2] <;> rfl) (by exact ConvV.self (by simp only [push_cast])) ?_
              refine hf_cons (by simp (dsimp := false) only [push_cast, ↓reduceIte, Nat.reduceEqDiff, Nat.reduceAdd, reduceCtorEq, arr429, zero429, hi0, two_ne, hw, hd, hb1, lo, up, v0, v1, hdh, hf1, hs1, hh2, hgt, hwp, hup, hp0, hp1, hdp, hle2] <;> rfl) (by exact ConvV.self rfl) ?_
              refine hf_cons (by simp (dsimp := false) only [push_cast, ↓reduceIte, Nat.reduceEqDiff, Nat.reduceAdd, reduceCtorEq, arr429, zero429, hi0, two_ne, hw, hd, hb1, lo, up, v0, v1, hdh, hf1, hs1, hh2, hgt, hwp, hup, hp0, hp1, hdp, hle2] <;> rfl) (by exact ConvV.self rfl) ?_
              exact hf_nil
            · refine hh_cons (i := (4, 0)) (by simp) (by simp) (by simp (dsimp := false) only [push_cast, ↓reduceIte, Nat.reduceEqDiff, Nat.reduceAdd, reduceCtorEq, arr429, zero429, hi0, two_ne, hw, hd, hb1, lo, up, v0, v1, hdh, hf1, hs1, hh2, hgt, hwp, hup, hp0, hp1, hdp, hle2] <;> rfl) (ConvB.free (by simp only [push_cast])) ?_
              exact hh_nil
          · exact ⟨by omega, by omega, hpG_next hi0 hbI hi2 (by simp only [hh2, Bool.false_eq_true, false_or]; omega), by rw [List.length_set]; exact hxl⟩
      · have hb1 := rb1
        try simp only [nrmB] at hb1
        refine vwp_exit ?_
        simp only [thenQ, blockQ, Nat.reduceEqDiff, reduceIte]
        apply_assumption
        refine vwp_seq_region rfl fun K hK => ?_
        simp (dsimp := false) only [push_cast, hP, hnt, hgw, hgb, sevalprocAttr, arr429, zero429, hi0, two_ne]
        refine hK _ ?_; clear hK
        refine vwp_ret ?_
        refine ret_free (by simp (dsimp := false) only [push_cast, hP, hnt, hgw, hgb, sevalprocAttr, arr429, zero429, hi0, two_ne]; rfl) (by simp (dsimp := false) only [push_cast, hP, hnt, hgw, hgb, sevalprocAttr, arr429, zero429, hi0, two_ne]) ?_
        simp only [pack, heapF]; rw [if_neg (by omega), hpG_end hb1 hi2]; rfl
def badL (vars : Int) : List (List Int) → Bool
  | [] => false
  | c :: r => if clauseF vars c = 0 then badL vars r else true
def solveChkF (vars : Int) (l : List (List Int)) : Int := if 20000 < (l.length : Int) then 4 else if badL vars l = true then 8 else 0
theorem badL_step {vars i : Int} {l : List (List Int)} (h0 : 0 ≤ i) (h1 : i < (l.length : Int)) {r : Bool} (h : badL vars (l.drop i.toNat) = r) : (if clauseF vars (atI l i) = 0 then badL vars (l.drop (i + 1).toNat) else true) = r := by
  rw [drop_atI h0 h1] at h
  unfold badL at h
  rwa [show (i + 1).toNat = i.toNat + 1 by omega]
theorem badL_stop {vars i : Int} {l : List (List Int)} (h1 : ¬ i < (l.length : Int)) {r : Bool} (h : badL vars (l.drop i.toNat) = r) : r = false := by
  rw [List.drop_eq_nil_of_le (by omega)] at h
  exact h.symm
theorem solveChk_call (gw : World) (gb : Nat) (vars : Int) (l : List (List Int)) (hl4 : l.length ≤ 100000000) (hl3 : ∀ c ∈ l, c.length ≤ 100000000) : VCall Tryz.prog gw (gb) 210 [.one (.c (.int .i64 vars)), .one (.sl false l.length (l.map rowC))] (.one (.c (.int .i64 (solveChkF vars l)))) [] := by
  refine vcall_of [.tmp 4] Tryz.func210 rfl rfl Tryz.ntmps210 rfl (by simp) ?_
  intro C hP hnt hgw hgb hfull
  refine vwp_seq_region rfl fun K hK => ?_
  simp (dsimp := false) only [push_cast, hP, hnt, hgw, hgb, sevalprocAttr]
  refine hK _ ?_; clear hK
  refine vwp_seq fun K hK => ?_
  refine vwp_seq_region rfl fun K hK => ?_
  simp (dsimp := false) only [push_cast, hP, hnt, hgw, hgb, sevalprocAttr]
  refine hK _ ?_; clear hK
  refine vwp_cond (b := _) (by simp (dsimp := false) only [push_cast, hP, hnt, hgw, hgb, sevalprocAttr]; rfl) (fun rb0 => ?_) (fun rb0 => ?_)
  · have hb0 := rb0
    try simp only [nrmB] at hb0
    refine vwp_seq_region rfl fun K hK => ?_
    simp (dsimp := false) only [push_cast, hP, hnt, hgw, hgb, sevalprocAttr]
    refine hK _ ?_; clear hK
    refine vwp_ret ?_
    refine ret_free (by simp (dsimp := false) only [push_cast, hP, hnt, hgw, hgb, sevalprocAttr]; rfl) (by simp (dsimp := false) only [push_cast, hP, hnt, hgw, hgb, sevalprocAttr]) ?_
    simp only [pack, solveChkF]; rw [if_pos (by omega)]
  · have hb0 := rb0
    try simp only [nrmB] at hb0
    refine vwp_skip ?_
    apply_assumption
    refine vwp_seq fun K hK => ?_
    refine vwp_seq_region rfl fun K hK => ?_
    simp (dsimp := false) only [push_cast, hP, hnt, hgw, hgb, sevalprocAttr]
    refine hK _ ?_; clear hK
    refine vwp_block ?_
    refine vwp_loop (fun m σ => ∃ (i : Int), m = (l.length - i).toNat ∧ ((0 ≤ i) ∧ (i ≤ l.length) ∧ (badL vars (l.drop i.toNat) = badL vars l)) ∧ σ = St.of [(0, .one (.c (.int .i64 vars))), (10, .one (.sl false l.length (l.map rowC))), (11, .one (.c (.int .i64 l.length))), (12, .one (.c (.int .i64 i)))] [] []) _ ⟨_, ?_, 0, rfl, ?_, rfl⟩ ?_
    · refine wk_conv [] [] (by simp) (by simp) (by decide) ?_ ?_
      · refine hf_cons (by simp (dsimp := false) only [push_cast, ↓reduceIte, Nat.reduceEqDiff, Nat.reduceAdd, reduceCtorEq] <;> rfl) (by exact ConvV.self rfl) ?_
        refine hf_cons (by simp (dsimp := false) only [push_cast, ↓reduceIte, Nat.reduceEqDiff, Nat.reduceAdd, reduceCtorEq] <;> rfl) (by exact ConvV.self (by simp only [push_cast, rowC])) ?_
        refine hf_cons (by simp (dsimp := false) only [push_cast, ↓reduceIte, Nat.reduceEqDiff, Nat.reduceAdd, reduceCtorEq] <;> rfl) (by exact ConvV.self rfl) ?_
        refine hf_cons (by simp (dsimp := false) only [push_cast, ↓reduceIte, Nat.reduceEqDiff, Nat.reduceAdd, reduceCtorEq] <;> rfl) (by exact ConvV.self rfl) ?_
        exact hf_nil
      · exact hh_nil
    · exact ⟨by omega, by omega, rfl⟩
    · rintro m τ ⟨i, hm, ⟨hi0, hi1, hi2⟩, rfl⟩ K hL0
      have hw := fun h : i < (l.length : Int) => wrap_next hi0 h (by omega)
      have hd := fun h : i < (l.length : Int) => (dropI_map rowC hi0 h).trans (by rw [show rowC (atI l i) = .sl false (atI l i).length ((atI l i).map fun n => .c (.int .i64 n)) from rfl])
      refine vwp_seq_region rfl fun K hK => ?_
      simp (dsimp := false) only [push_cast, hP, hnt, hgw, hgb, sevalprocAttr, hi0]
      refine hK _ ?_; clear hK
      refine vwp_seq fun K hK => ?_
      refine vwp_cond (b := _) (by simp (dsimp := false) only [push_cast, hP, hnt, hgw, hgb, sevalprocAttr, hi0]; rfl) (fun rb1 => ?_) (fun rb1 => ?_)
      · have hb1 := rb1
        try simp only [nrmB] at hb1
        have hbI := hb1
        have hw := hw hb1
        have hd := hd hb1
        have hst := badL_step hi0 hb1 hi2
        refine vwp_skip ?_
        apply_assumption
        refine vwp_seq fun K hK => ?_
        refine vwp_block ?_
        refine vwp_seq_region rfl fun K hK => ?_
        simp (dsimp := false) only [push_cast, hP, hnt, hgw, hgb, sevalprocAttr, hi0, hw, hd, hb1]
        refine hK _ ?_; clear hK
        refine vwp_seq_region rfl fun K hK => ?_
        simp (dsimp := false) only [push_cast, hP, hnt, hgw, hgb, sevalprocAttr, hi0, hw, hd, hb1]
        refine .inl (callE_intro (cCheck_call gw gb vars (atI l i) (hl3 _ (atI_mem hi0 hbI))) (.inl ⟨rfl, rfl⟩) ?_)
        simp (dsimp := false) only [push_cast, hP, hnt, hgw, hgb, sevalprocAttr, hi0, hw, hd, hb1]
        refine hK _ ?_; clear hK
        refine vwp_cond (b := _) (by simp (dsimp := false) only [push_cast, hP, hnt, hgw, hgb, sevalprocAttr, hi0, hw, hd, hb1]; rfl) (fun rb2 => ?_) (fun rb2 => ?_)
        · have hb2 := rb2
          try simp only [nrmB] at hb2
          refine vwp_seq_region rfl fun K hK => ?_
          simp (dsimp := false) only [push_cast, hP, hnt, hgw, hgb, sevalprocAttr, hi0, hw, hd, hb1]
          refine hK _ ?_; clear hK
          refine vwp_ret ?_
          refine ret_free (by simp (dsimp := false) only [push_cast, hP, hnt, hgw, hgb, sevalprocAttr, hi0, hw, hd, hb1]; rfl) (by simp (dsimp := false) only [push_cast, hP, hnt, hgw, hgb, sevalprocAttr, hi0, hw, hd, hb1]) ?_
          simp only [pack, solveChkF]; rw [if_neg hb2] at hst; rw [if_neg (by omega), ← hst]; rfl
        · have hb2 := rb2
          try simp only [nrmB] at hb2
          refine vwp_skip ?_
          apply_assumption
          refine vwp_region rfl ?_
          simp (dsimp := false) only [push_cast, hP, hnt, hgw, hgb, sevalprocAttr, hi0, hw, hd, hb1]
          refine hL0 _ _ _ ?_ ?_ ⟨i + 1, rfl, ?_, rfl⟩
          · omega
          · refine wk_conv [] [] (by simp) (by simp) (by decide) ?_ ?_
            · refine hf_cons (by simp (dsimp := false) only [push_cast, ↓reduceIte, Nat.reduceEqDiff, Nat.reduceAdd, reduceCtorEq, hi0, hw, hd, hb1] <;> rfl) (by exact ConvV.self rfl) ?_
              refine hf_cons (by simp (dsimp := false) only [push_cast, ↓reduceIte, Nat.reduceEqDiff, Nat.reduceAdd, reduceCtorEq, hi0, hw, hd, hb1] <;> rfl) (by exact ConvV.self (by simp only [push_cast, rowC])) ?_
              refine hf_cons (by simp (dsimp := false) only [push_cast, ↓reduceIte, Nat.reduceEqDiff, Nat.reduceAdd, reduceCtorEq, hi0, hw, hd, hb1] <;> rfl) (by exact ConvV.self rfl) ?_
              refine hf_cons (by simp (dsimp := false) only [push_cast, ↓reduceIte, Nat.reduceEqDiff, Nat.reduceAdd, reduceCtorEq, hi0, hw, hd, hb1] <;> rfl) (by exact ConvV.self rfl) ?_
              exact hf_nil
            · exact hh_nil
          · exact ⟨by omega, by omega, by rw [if_pos hb2] at hst; exact hst⟩
      · have hb1 := rb1
        try simp only [nrmB] at hb1
        refine vwp_exit ?_
        simp only [thenQ, blockQ, Nat.reduceEqDiff, reduceIte]
        apply_assumption
        refine vwp_seq_region rfl fun K hK => ?_
        simp (dsimp := false) only [push_cast, hP, hnt, hgw, hgb, sevalprocAttr, hi0]
        refine hK _ ?_; clear hK
        refine vwp_ret ?_
        refine ret_free (by simp (dsimp := false) only [push_cast, hP, hnt, hgw, hgb, sevalprocAttr, hi0]; rfl) (by simp (dsimp := false) only [push_cast, hP, hnt, hgw, hgb, sevalprocAttr, hi0]) ?_
        simp only [pack, solveChkF]; rw [if_neg (by omega), badL_stop hb1 hi2]; rfl
end Go.Vm
end

section
namespace Go.Vm
open Go Go.RowKit Go.Proofs
set_option linter.unusedSimpArgs false
set_option linter.unusedVariables false

def tabHeap : List PV → Option (PV × List Blk)
  | [.one c] =>
    match rowOf c with
    | some c => if Nat.ble c.length 1000000 = true then some (.one (.c (.int .i64 (heapF c))), []) else none
    | _ => none
  | _ => none
def tabSolveChk : List PV → Option (PV × List Blk)
  | [.one v, .one (.sl false n cs)] =>
    match isI64 v, rowsOf cs with
    | some v, some L => if (Nat.beq n L.length && (Nat.ble n 1000000 && shortB 1000000 L)) = true then some (.one (.c (.int .i64 (solveChkF v L))), []) else none
    | _, _ => none
  | _ => none
def solveTab2 : Cx := fun f args =>
  if Nat.beq f 300 = true then tabHeap (nrmVs args)
  else if Nat.beq f 210 = true then tabSolveChk (nrmVs args)
  else solveTab f args
theorem solveTab2_ok (gw : World) (gb : Nat) : TabOk Tryz.prog gw gb solveTab2 := by
  intro f args r B h
  unfold solveTab2 at h
  split at h
  · rename_i hf
    rw [Nat.eq_of_beq_eq_true hf]
    refine VCall.nrm ?_
    revert h
    generalize nrmVs args = xs
    intro h
    unfold tabHeap at h
    split at h
    · split at h
      · rename_i h2
        split at h
        · rename_i hl
          cases h
          rw [rowOf_ok h2]
          exact heap_call gw gb _ (by have := Nat.le_of_ble_eq_true hl; omega)
        · cases h
      · cases h
    · cases h
  · split at h
    · rename_i hf
      rw [Nat.eq_of_beq_eq_true hf]
      refine VCall.nrm ?_
      revert h
      generalize nrmVs args = xs
      intro h
      unfold tabSolveChk at h
      split at h
      · split at h
        · rename_i h1 h2
          split at h
          · rename_i hc
            simp only [Bool.and_eq_true] at hc
            obtain ⟨c3, c4, c5⟩ := hc
            cases h
            rw [isI64_ok h1, rowsOf_ok h2, Nat.eq_of_beq_eq_true c3]
            have c4 := Nat.le_of_ble_eq_true c4
            have c3 := Nat.eq_of_beq_eq_true c3
            exact solveChk_call gw gb _ _ (by omega) (fun c hc => by have := shortB_ok c5 c hc; omega)
          · cases h
        · cases h
      · cases h
    · exact solveTab_ok gw gb f args r B h
end Go.Vm
end
