/-
  Contracts of the library, and a run that is computed (PtAQ). Conditions: each theorem's own premises. By an AI agent.
-/
import Derived.Test.YtcdbbiognijleaaGreatPtAP
section
namespace Go.Vm
open Go Go.RowKit Go.Proofs
set_option maxRecDepth 100000
set_option linter.unusedSimpArgs false
set_option linter.unusedVariables false
set_option maxHeartbeats 4000000

def stateG (v : List Int) : Int → Int → List Int → Option (Int × Int)
  | lit, free, [] => if free = 0 then some (0, 0) else if free = 1 then some (3, lit) else some (2, 0)
  | lit, free, l :: r => if 0 ≤ l ∧ l < (v.length : Int) then (if atI v l = 1 then some (1, 0) else if atI v l = 2 then stateG v l (free + 1) r else stateG v lit free r) else none
def stateF (v c : List Int) : Option (Int × Int) := stateG v 0 0 c
section
variable {v c : List Int} {lit free i : Int} {r : Int × Int}
theorem stateG_bound (h0 : 0 ≤ i) (h1 : i < (c.length : Int)) (h : stateG v lit free (c.drop i.toNat) = some r) : 0 ≤ atI c i ∧ atI c i < (v.length : Int) := by
  rw [drop_atI h0 h1] at h
  unfold stateG at h
  split at h
  · assumption
  · cases h
theorem stateG_step (h0 : 0 ≤ i) (h1 : i < (c.length : Int)) (h : stateG v lit free (c.drop i.toNat) = some r) : (if atI v (atI c i) = 1 then some (1, 0) else if atI v (atI c i) = 2 then stateG v (atI c i) (free + 1) (c.drop (i + 1).toNat) else stateG v lit free (c.drop (i + 1).toNat)) = some r := by
  have hb := stateG_bound h0 h1 h
  rw [drop_atI h0 h1] at h
  unfold stateG at h
  rw [if_pos hb] at h
  rwa [show (i + 1).toNat = i.toNat + 1 by omega]
theorem stateG_stop (h1 : ¬ i < (c.length : Int)) (h : stateG v lit free (c.drop i.toNat) = some r) : (if free = 0 then some (0, 0) else if free = 1 then some (3, lit) else some (2, 0)) = some r := by
  rw [List.drop_eq_nil_of_le (by omega)] at h
  exact h
end
theorem state_call (gw : World) (gb : Nat) (v c : List Int) (r : Int × Int) (hl : c.length ≤ 100000000) (hr : stateF v c = some r) : VCall Tryz.prog gw (gb) 293 [.one (.sl false v.length (v.map fun n => .c (.int .u8 n))), .one (.sl false c.length (c.map fun n => .c (.int .i64 n)))] (.tup [.one (.c (.int .u8 r.1)), .one (.c (.int .i64 r.2))]) [] := by
  refine vcall_of [.tmp 4, .tmp 5] Tryz.func293 rfl rfl Tryz.ntmps293 rfl (by simp) ?_
  intro C hP hnt hgw hgb hfull
  refine vwp_seq_region rfl fun K hK => ?_
  simp (dsimp := false) only [push_cast, hP, hnt, hgw, hgb, sevalprocAttr]
  refine hK _ ?_; clear hK
  refine vwp_seq_region rfl fun K hK => ?_
  simp (dsimp := false) only [push_cast, hP, hnt, hgw, hgb, sevalprocAttr]
  refine hK _ ?_; clear hK
  refine vwp_seq fun K hK => ?_
  refine vwp_seq_region rfl fun K hK => ?_
  simp (dsimp := false) only [push_cast, hP, hnt, hgw, hgb, sevalprocAttr]
  refine hK _ ?_; clear hK
  refine vwp_block ?_
  refine vwp_loop (fun m σ => ∃ (i : Int) (lit : Int) (free : Int), m = (c.length - i).toNat ∧ ((0 ≤ i) ∧ (i ≤ c.length) ∧ (stateG v lit free (c.drop i.toNat) = some r) ∧ (0 ≤ free) ∧ (free ≤ i)) ∧ σ = St.of [(0, .one (.sl false v.length (v.map fun n => .c (.int .u8 n)))), (1, .one (.sl false c.length (c.map fun n => .c (.int .i64 n)))), (6, .one (.c (.int .i64 lit))), (7, .one (.c (.int .i64 free))), (10, .one (.sl false c.length (c.map fun n => .c (.int .i64 n)))), (11, .one (.c (.int .i64 c.length))), (12, .one (.c (.int .i64 i)))] [] []) _ ⟨_, ?_, 0, 0, 0, rfl, ?_, rfl⟩ ?_
  · refine wk_conv [] [] (by simp) (by simp) (by decide) ?_ ?_
    · refine hf_cons (by simp (dsimp := false) only [push_cast, ↓reduceIte, Nat.reduceEqDiff, Nat.reduceAdd, reduceCtorEq] <;> rfl) (by exact ConvV.self (by simp only [push_cast])) ?_
      refine hf_cons (by simp (dsimp := false) only [push_cast, ↓reduceIte, Nat.reduceEqDiff, Nat.reduceAdd, reduceCtorEq] <;> rfl) (by exact ConvV.self (by simp only [push_cast])) ?_
      refine hf_cons (by simp (dsimp := false) only [push_cast, ↓reduceIte, Nat.reduceEqDiff, Nat.reduceAdd, reduceCtorEq] <;> rfl) (by exact ConvV.self rfl) ?_
      refine hf_cons (by simp (dsimp := false) only [push_cast, ↓reduceIte, Nat.reduceEqDiff, Nat.reduceAdd, reduceCtorEq] <;> rfl) (by exact ConvV.self rfl) ?_
      refine hf_cons (by simp (dsimp := false) only [push_cast, ↓reduceIte, Nat.reduceEqDiff, Nat.reduceAdd, reduceCtorEq] <;> rfl) (by exact ConvV.self (by simp only [push_cast])) ?_
      refine hf_cons (by simp (dsimp := false) only [push_cast, ↓reduceIte, Nat.reduceEqDiff, Nat.reduceAdd, reduceCtorEq] <;> rfl) (by exact ConvV.self rfl) ?_
      refine hf_cons (by simp (dsimp := false) only [push_cast, ↓reduceIte, Nat.reduceEqDiff, Nat.reduceAdd, reduceCtorEq] <;> rfl) (by exact ConvV.self rfl) ?_
      exact hf_nil
    · exact hh_nil
  · exact ⟨by omega, by omega, hr, by omega, by omega⟩
  · rintro m τ ⟨i, lit, free, hm, ⟨hi0, hi1, hi2, hf0, hf1⟩, rfl⟩ K hL0
    have hw := fun h : i < (c.length : Int) => wrap_next hi0 h (by omega)
    have hwf := fun h : i < (c.length : Int) => wrap_next (i := free) (n := i + 1) hf0 (by omega) (by omega)
    have hd := fun h : i < (c.length : Int) => dropI_map (fun n => PC.c (Value.int .i64 n)) hi0 h
    refine vwp_seq_region rfl fun K hK => ?_
    simp (dsimp := false) only [push_cast, hP, hnt, hgw, hgb, sevalprocAttr, hi0]
    refine hK _ ?_; clear hK
    refine vwp_seq fun K hK => ?_
    refine vwp_cond (b := _) (by simp (dsimp := false) only [push_cast, hP, hnt, hgw, hgb, sevalprocAttr, hi0]; rfl) (fun rb0 => ?_) (fun rb0 => ?_)
    · have hb0 := rb0
      try simp only [nrmB] at hb0
      have hw := hw hb0
      have hd := hd hb0
      have hwf := hwf hb0
      refine vwp_skip ?_
      apply_assumption
      refine vwp_seq fun K hK => ?_
      refine vwp_block ?_
      refine vwp_seq_region rfl fun K hK => ?_
      simp (dsimp := false) only [push_cast, hP, hnt, hgw, hgb, sevalprocAttr, hi0, hw, hd, hb0, hwf]
      refine hK _ ?_; clear hK
      obtain ⟨hv0, hv1⟩ := stateG_bound hi0 hb0 hi2
      have hdv := dropI_map (fun n => PC.c (Value.int .u8 n)) hv0 hv1
      have hst := stateG_step hi0 hb0 hi2
      refine vwp_seq_region rfl fun K hK => ?_
      simp (dsimp := false) only [push_cast, hP, hnt, hgw, hgb, sevalprocAttr, hi0, hw, hd, hb0, hwf, hv0, hv1, hdv]
      refine hK _ ?_; clear hK
      refine vwp_block ?_
      refine vwp_seq_region rfl fun K hK => ?_
      simp (dsimp := false) only [push_cast, hP, hnt, hgw, hgb, sevalprocAttr, hi0, hw, hd, hb0, hwf, hv0, hv1, hdv]
      refine hK _ ?_; clear hK
      refine vwp_cond (b := _) (by simp (dsimp := false) only [push_cast, hP, hnt, hgw, hgb, sevalprocAttr, hi0, hw, hd, hb0, hwf, hv0, hv1, hdv]; rfl) (fun rb1 => ?_) (fun rb1 => ?_)
      · have hb1 := rb1
        try simp only [nrmB] at hb1
        refine vwp_seq_region rfl fun K hK => ?_
        simp (dsimp := false) only [push_cast, hP, hnt, hgw, hgb, sevalprocAttr, hi0, hw, hd, hb0, hwf, hv0, hv1, hdv]
        refine hK _ ?_; clear hK
        refine vwp_ret ?_
        refine ret_free (by simp (dsimp := false) only [push_cast, hP, hnt, hgw, hgb, sevalprocAttr, hi0, hw, hd, hb0, hwf, hv0, hv1, hdv]; rfl) (by simp (dsimp := false) only [push_cast, hP, hnt, hgw, hgb, sevalprocAttr, hi0, hw, hd, hb0, hwf, hv0, hv1, hdv]) ?_
        simp only [pack]; rw [if_pos (by omega)] at hst; cases hst; rfl
      · have hb1 := rb1
        try simp only [nrmB] at hb1
        refine vwp_seq_region rfl fun K hK => ?_
        simp (dsimp := false) only [push_cast, hP, hnt, hgw, hgb, sevalprocAttr, hi0, hw, hd, hb0, hwf, hv0, hv1, hdv]
        refine hK _ ?_; clear hK
        refine vwp_cond (b := _) (by simp (dsimp := false) only [push_cast, hP, hnt, hgw, hgb, sevalprocAttr, hi0, hw, hd, hb0, hwf, hv0, hv1, hdv]; rfl) (fun rb2 => ?_) (fun rb2 => ?_)
        · have hb2 := rb2
          try simp only [nrmB] at hb2
          refine vwp_seq_region rfl fun K hK => ?_
          simp (dsimp := false) only [push_cast, hP, hnt, hgw, hgb, sevalprocAttr, hi0, hw, hd, hb0, hwf, hv0, hv1, hdv]
          refine hK _ ?_; clear hK
          refine vwp_region rfl ?_
          simp (dsimp := false) only [push_cast, hP, hnt, hgw, hgb, sevalprocAttr, hi0, hw, hd, hb0, hwf, hv0, hv1, hdv]
          apply_assumption
          refine vwp_region rfl ?_
          simp (dsimp := false) only [push_cast, hP, hnt, hgw, hgb, sevalprocAttr, hi0, hw, hd, hb0, hwf, hv0, hv1, hdv]
          refine hL0 _ _ _ ?_ ?_ ⟨i + 1, atI c i, free + 1, rfl, ?_, rfl⟩
          · omega
          · refine wk_conv [] [] (by simp) (by simp) (by decide) ?_ ?_
            · refine hf_cons (by simp (dsimp := false) only [push_cast, ↓reduceIte, Nat.reduceEqDiff, Nat.reduceAdd, reduceCtorEq, hi0, hw, hd, hb0, hwf, hv0, hv1, hdv] <;> rfl) (by exact ConvV.self (by simp only [push_cast])) ?_
              refine hf_cons (by simp (dsimp := false) only [push_cast, ↓reduceIte, Nat.reduceEqDiff, Nat.reduceAdd, reduceCtorEq, hi0, hw, hd, hb0, hwf, hv0, hv1, hdv] <;> rfl) (by exact ConvV.self (by simp only [push_cast])) ?_
              refine hf_cons (by simp (dsimp := false) only [push_cast, ↓reduceIte, Nat.reduceEqDiff, Nat.reduceAdd, reduceCtorEq, hi0, hw, hd, hb0, hwf, hv0, hv1, hdv] <;> rfl) (by exact ConvV.self rfl) ?_
              refine hf_cons (by simp (dsimp := false) only [push_cast, ↓reduceIte, Nat.reduceEqDiff, Nat.reduceAdd, reduceCtorEq, hi0, hw, hd, hb0, hwf, hv0, hv1, hdv] <;> rfl) (by exact ConvV.self rfl) ?_
              refine hf_cons (by simp (dsimp := false) only [push_cast, ↓reduceIte, Nat.reduceEqDiff, Nat.reduceAdd, reduceCtorEq, hi0, hw, hd, hb0, hwf, hv0, hv1, hdv] <;> rfl) (by exact ConvV.self (by simp only [push_cast])) ?_
              refine hf_cons (by simp (dsimp := false) only [push_cast, ↓reduceIte, Nat.reduceEqDiff, Nat.reduceAdd, reduceCtorEq, hi0, hw, hd, hb0, hwf, hv0, hv1, hdv] <;> rfl) (by exact ConvV.self rfl) ?_
              refine hf_cons (by simp (dsimp := false) only [push_cast, ↓reduceIte, Nat.reduceEqDiff, Nat.reduceAdd, reduceCtorEq, hi0, hw, hd, hb0, hwf, hv0, hv1, hdv] <;> rfl) (by exact ConvV.self rfl) ?_
              exact hf_nil
            · exact hh_nil
          · refine ⟨by omega, by omega, ?_, by omega, by omega⟩; rw [if_neg (by omega), if_pos (by omega)] at hst; exact hst
        · have hb2 := rb2
          try simp only [nrmB] at hb2
          refine vwp_skip ?_
          apply_assumption
          refine vwp_region rfl ?_
          simp (dsimp := false) only [push_cast, hP, hnt, hgw, hgb, sevalprocAttr, hi0, hw, hd, hb0, hwf, hv0, hv1, hdv]
          refine hL0 _ _ _ ?_ ?_ ⟨i + 1, lit, free, rfl, ?_, rfl⟩
          · omega
          · refine wk_conv [] [] (by simp) (by simp) (by decide) ?_ ?_
            · refine hf_cons (by simp (dsimp := false) only [push_cast, ↓reduceIte, Nat.reduceEqDiff, Nat.reduceAdd, reduceCtorEq, hi0, hw, hd, hb0, hwf, hv0, hv1, hdv] <;> rfl) (by exact ConvV.self (by simp only [push_cast])) ?_
              refine hf_cons (by simp (dsimp := false) only [push_cast, ↓reduceIte, Nat.reduceEqDiff, Nat.reduceAdd, reduceCtorEq, hi0, hw, hd, hb0, hwf, hv0, hv1, hdv] <;> rfl) (by exact ConvV.self (by simp only [push_cast])) ?_
              refine hf_cons (by simp (dsimp := false) only [push_cast, ↓reduceIte, Nat.reduceEqDiff, Nat.reduceAdd, reduceCtorEq, hi0, hw, hd, hb0, hwf, hv0, hv1, hdv] <;> rfl) (by exact ConvV.self rfl) ?_
              refine hf_cons (by simp (dsimp := false) only [push_cast, ↓reduceIte, Nat.reduceEqDiff, Nat.reduceAdd, reduceCtorEq, hi0, hw, hd, hb0, hwf, hv0, hv1, hdv] <;> rfl) (by exact ConvV.self rfl) ?_
              refine hf_cons (by simp (dsimp := false) only [push_cast, ↓reduceIte, Nat.reduceEqDiff, Nat.reduceAdd, reduceCtorEq, hi0, hw, hd, hb0, hwf, hv0, hv1, hdv] <;> rfl) (by exact ConvV.self (by simp only [push_cast])) ?_
              refine hf_cons (by simp (dsimp := false) only [push_cast, ↓reduceIte, Nat.reduceEqDiff, Nat.reduceAdd, reduceCtorEq, hi0, hw, hd, hb0, hwf, hv0, hv1, hdv] <;> rfl) (by exact ConvV.self rfl) ?_
              refine hf_cons (by simp (dsimp := false) only [push_cast, ↓reduceIte, Nat.reduceEqDiff, Nat.reduceAdd, reduceCtorEq, hi0, hw, hd, hb0, hwf, hv0, hv1, hdv] <;> rfl) (by exact ConvV.self rfl) ?_
              exact hf_nil
            · exact hh_nil
          · refine ⟨by omega, by omega, ?_, by omega, by omega⟩; rw [if_neg (by omega), if_neg (by omega)] at hst; exact hst
    · have hb0 := rb0
      try simp only [nrmB] at hb0
      have hst := stateG_stop hb0 hi2
      refine vwp_exit ?_
      simp only [thenQ, blockQ, Nat.reduceEqDiff, reduceIte]
      apply_assumption
      refine vwp_seq fun K hK => ?_
      refine vwp_seq_region rfl fun K hK => ?_
      simp (dsimp := false) only [push_cast, hP, hnt, hgw, hgb, sevalprocAttr, hi0]
      refine hK _ ?_; clear hK
      refine vwp_block ?_
      refine vwp_seq_region rfl fun K hK => ?_
      simp (dsimp := false) only [push_cast, hP, hnt, hgw, hgb, sevalprocAttr, hi0]
      refine hK _ ?_; clear hK
      refine vwp_cond (b := _) (by simp (dsimp := false) only [push_cast, hP, hnt, hgw, hgb, sevalprocAttr, hi0]; rfl) (fun rb3 => ?_) (fun rb3 => ?_)
      · have hb3 := rb3
        try simp only [nrmB] at hb3
        refine vwp_seq_region rfl fun K hK => ?_
        simp (dsimp := false) only [push_cast, hP, hnt, hgw, hgb, sevalprocAttr, hi0]
        refine hK _ ?_; clear hK
        refine vwp_ret ?_
        refine ret_free (by simp (dsimp := false) only [push_cast, hP, hnt, hgw, hgb, sevalprocAttr, hi0]; rfl) (by simp (dsimp := false) only [push_cast, hP, hnt, hgw, hgb, sevalprocAttr, hi0]) ?_
        simp only [pack]; rw [if_pos (by omega)] at hst; cases hst; rfl
      · have hb3 := rb3
        try simp only [nrmB] at hb3
        refine vwp_seq_region rfl fun K hK => ?_
        simp (dsimp := false) only [push_cast, hP, hnt, hgw, hgb, sevalprocAttr, hi0]
        refine hK _ ?_; clear hK
        refine vwp_cond (b := _) (by simp (dsimp := false) only [push_cast, hP, hnt, hgw, hgb, sevalprocAttr, hi0]; rfl) (fun rb4 => ?_) (fun rb4 => ?_)
        · have hb4 := rb4
          try simp only [nrmB] at hb4
          refine vwp_seq_region rfl fun K hK => ?_
          simp (dsimp := false) only [push_cast, hP, hnt, hgw, hgb, sevalprocAttr, hi0]
          refine hK _ ?_; clear hK
          refine vwp_ret ?_
          refine ret_free (by simp (dsimp := false) only [push_cast, hP, hnt, hgw, hgb, sevalprocAttr, hi0]; rfl) (by simp (dsimp := false) only [push_cast, hP, hnt, hgw, hgb, sevalprocAttr, hi0]) ?_
          simp only [pack]; rw [if_neg (by omega), if_pos (by omega)] at hst; cases hst; rfl
        · have hb4 := rb4
          try simp only [nrmB] at hb4
          refine vwp_skip ?_
          apply_assumption
          refine vwp_seq_region rfl fun K hK => ?_
          simp (dsimp := false) only [push_cast, hP, hnt, hgw, hgb, sevalprocAttr, hi0]
          refine hK _ ?_; clear hK
          refine vwp_ret ?_
          refine ret_free (by simp (dsimp := false) only [push_cast, hP, hnt, hgw, hgb, sevalprocAttr, hi0]; rfl) (by simp (dsimp := false) only [push_cast, hP, hnt, hgw, hgb, sevalprocAttr, hi0]) ?_
          simp only [pack]; rw [if_neg (by omega), if_neg (by omega)] at hst; cases hst; rfl
def nextG (v : List Int) : Int → Int → List (List Int) → Option (Int × Int)
  | _, lit, [] => some (-1, lit)
  | i, lit, c :: r =>
    match stateF v c with
    | some (s, own) => if s = 0 then some (i, 0) else nextG v (i + 1) (if s = 3 ∧ lit = 0 then own else lit) r
    | none => none
def nextF (v : List Int) (l : List (List Int)) : Option (Int × Int) := nextG v 0 0 l
def rowC (c : List Int) : PC := .sl false c.length (c.map fun n => .c (.int .i64 n))
section
variable {v : List Int} {l : List (List Int)} {lit i : Int} {r : Int × Int}
theorem nextG_step (h0 : 0 ≤ i) (h1 : i < (l.length : Int)) (h : nextG v i lit (l.drop i.toNat) = some r) : ∃ q : Int × Int, stateF v (atI l i) = some q ∧ (if q.1 = 0 then some (i, 0) else nextG v (i + 1) (if q.1 = 3 ∧ lit = 0 then q.2 else lit) (l.drop (i + 1).toNat)) = some r := by
  rw [drop_atI h0 h1] at h
  unfold nextG at h
  split at h
  · rename_i s own hs
    refine ⟨(s, own), hs, ?_⟩
    rwa [show (i + 1).toNat = i.toNat + 1 by omega]
  · cases h
theorem nextG_stop (h1 : ¬ i < (l.length : Int)) (h : nextG v i lit (l.drop i.toNat) = some r) : r = (-1, lit) := by
  rw [List.drop_eq_nil_of_le (by omega)] at h
  cases h; rfl
end
theorem next_call (gw : World) (gb : Nat) (v : List Int) (l : List (List Int)) (r : Int × Int) (N : Nat) (hN : v.length = N) (hl : l.length ≤ 100000000) (hl2 : ∀ c ∈ l, c.length ≤ 100000000) (hr : nextF v l = some r) : VCall Tryz.prog gw (gb) 255 [.one (.sl false N (v.map fun n => .c (.int .u8 n))), .one (.sl false l.length (l.map rowC))] (.tup [.one (.c (.int .i64 r.1)), .one (.c (.int .i64 r.2))]) [] := by
  subst hN
  refine vcall_of [.tmp 4, .tmp 5] Tryz.func255 rfl rfl Tryz.ntmps255 rfl (by simp) ?_
  intro C hP hnt hgw hgb hfull
  refine vwp_seq_region rfl fun K hK => ?_
  simp (dsimp := false) only [push_cast, hP, hnt, hgw, hgb, sevalprocAttr]
  refine hK _ ?_; clear hK
  refine vwp_seq_region rfl fun K hK => ?_
  simp (dsimp := false) only [push_cast, hP, hnt, hgw, hgb, sevalprocAttr]
  refine hK _ ?_; clear hK
  refine vwp_seq fun K hK => ?_
  refine vwp_seq_region rfl fun K hK => ?_
  simp (dsimp := false) only [push_cast, hP, hnt, hgw, hgb, sevalprocAttr]
  refine hK _ ?_; clear hK
  refine vwp_block ?_
  refine vwp_loop (fun m σ => ∃ (i : Int) (lit : Int), m = (l.length - i).toNat ∧ ((0 ≤ i) ∧ (i ≤ l.length) ∧ (nextG v i lit (l.drop i.toNat) = some r)) ∧ σ = St.of [(0, .one (.sl false v.length (v.map fun n => .c (.int .u8 n)))), (1, .one (.sl false l.length (l.map rowC))), (6, .one (.c (.int .i64 lit))), (11, .one (.sl false l.length (l.map rowC))), (12, .one (.c (.int .i64 l.length))), (13, .one (.c (.int .i64 i)))] [] []) _ ⟨_, ?_, 0, 0, rfl, ?_, rfl⟩ ?_
  · refine wk_conv [] [] (by simp) (by simp) (by decide) ?_ ?_
    · refine hf_cons (by simp (dsimp := false) only [push_cast, ↓reduceIte, Nat.reduceEqDiff, Nat.reduceAdd, reduceCtorEq] <;> rfl) (by exact ConvV.self (by simp only [push_cast, rowC])) ?_
      refine hf_cons (by simp (dsimp := false) only [push_cast, ↓reduceIte, Nat.reduceEqDiff, Nat.reduceAdd, reduceCtorEq] <;> rfl) (by exact ConvV.self (by simp only [push_cast, rowC])) ?_
      refine hf_cons (by simp (dsimp := false) only [push_cast, ↓reduceIte, Nat.reduceEqDiff, Nat.reduceAdd, reduceCtorEq] <;> rfl) (by exact ConvV.self rfl) ?_
      refine hf_cons (by simp (dsimp := false) only [push_cast, ↓reduceIte, Nat.reduceEqDiff, Nat.reduceAdd, reduceCtorEq] <;> rfl) (by exact ConvV.self (by simp only [push_cast, rowC])) ?_
      refine hf_cons (by simp (dsimp := false) only [push_cast, ↓reduceIte, Nat.reduceEqDiff, Nat.reduceAdd, reduceCtorEq] <;> rfl) (by exact ConvV.self rfl) ?_
      refine hf_cons (by simp (dsimp := false) only [push_cast, ↓reduceIte, Nat.reduceEqDiff, Nat.reduceAdd, reduceCtorEq] <;> rfl) (by exact ConvV.self rfl) ?_
      exact hf_nil
    · exact hh_nil
  · exact ⟨by omega, by omega, hr⟩
  · rintro m τ ⟨i, lit, hm, ⟨hi0, hi1, hi2⟩, rfl⟩ K hL0
    have hw := fun h : i < (l.length : Int) => wrap_next hi0 h (by omega)
    have hd := fun h : i < (l.length : Int) => (dropI_map rowC hi0 h).trans (by rw [show rowC (atI l i) = .sl false (atI l i).length ((atI l i).map fun n => .c (.int .i64 n)) from rfl])
    refine vwp_seq_region rfl fun K hK => ?_
    simp (dsimp := false) only [push_cast, hP, hnt, hgw, hgb, sevalprocAttr, hi0]
    refine hK _ ?_; clear hK
    refine vwp_seq fun K hK => ?_
    refine vwp_cond (b := _) (by simp (dsimp := false) only [push_cast, hP, hnt, hgw, hgb, sevalprocAttr, hi0]; rfl) (fun rb0 => ?_) (fun rb0 => ?_)
    · have hb0 := rb0
      try simp only [nrmB] at hb0
      have hw := hw hb0
      have hd := hd hb0
      refine vwp_skip ?_
      apply_assumption
      refine vwp_seq fun K hK => ?_
      refine vwp_block ?_
      refine vwp_seq_region rfl fun K hK => ?_
      simp (dsimp := false) only [push_cast, hP, hnt, hgw, hgb, sevalprocAttr, hi0, hw, hd, hb0]
      refine hK _ ?_; clear hK
      obtain ⟨q, hq, hst⟩ := nextG_step hi0 hb0 hi2
      refine vwp_seq_region rfl fun K hK => ?_
      simp (dsimp := false) only [push_cast, hP, hnt, hgw, hgb, sevalprocAttr, hi0, hw, hd, hb0]
      refine .inl (callE_intro (state_call gw gb v (atI l i) q (hl2 _ (atI_mem hi0 hb0)) hq) (.inl ⟨rfl, rfl⟩) ?_)
      simp (dsimp := false) only [push_cast, hP, hnt, hgw, hgb, sevalprocAttr, hi0, hw, hd, hb0]
      refine hK _ ?_; clear hK
      refine vwp_seq fun K hK => ?_
      refine vwp_seq_region rfl fun K hK => ?_
      simp (dsimp := false) only [push_cast, hP, hnt, hgw, hgb, sevalprocAttr, hi0, hw, hd, hb0]
      refine hK _ ?_; clear hK
      refine vwp_cond (b := _) (by simp (dsimp := false) only [push_cast, hP, hnt, hgw, hgb, sevalprocAttr, hi0, hw, hd, hb0]; rfl) (fun rb1 => ?_) (fun rb1 => ?_)
      · have hb1 := rb1
        try simp only [nrmB] at hb1
        refine vwp_seq_region rfl fun K hK => ?_
        simp (dsimp := false) only [push_cast, hP, hnt, hgw, hgb, sevalprocAttr, hi0, hw, hd, hb0]
        refine hK _ ?_; clear hK
        refine vwp_ret ?_
        refine ret_free (by simp (dsimp := false) only [push_cast, hP, hnt, hgw, hgb, sevalprocAttr, hi0, hw, hd, hb0]; rfl) (by simp (dsimp := false) only [push_cast, hP, hnt, hgw, hgb, sevalprocAttr, hi0, hw, hd, hb0]) ?_
        simp only [pack]; rw [if_pos (by omega)] at hst; cases hst; rfl
      · have hb1 := rb1
        try simp only [nrmB] at hb1
        refine vwp_skip ?_
        apply_assumption
        refine vwp_seq_regionG fun K hK => ?_
        simp (dsimp := false) only [push_cast, hP, hnt, hgw, hgb, sevalprocAttr, hi0, hw, hd, hb0]
        refine guardR_may (by simp (dsimp := false) only [push_cast, hP, hnt, hgw, hgb, sevalprocAttr, hi0, hw, hd, hb0, List.getElem?_cons_zero, List.getElem?_cons_succ]; rfl) ?_
        simp (dsimp := false) only [push_cast, hP, hnt, hgw, hgb, sevalprocAttr, hi0, hw, hd, hb0]
        refine guardR_may (by simp (dsimp := false) only [push_cast, hP, hnt, hgw, hgb, sevalprocAttr, hi0, hw, hd, hb0, List.getElem?_cons_zero, List.getElem?_cons_succ]; rfl) ?_
        simp (dsimp := false) only [push_cast, hP, hnt, hgw, hgb, sevalprocAttr, hi0, hw, hd, hb0]
        refine hK _ ?_; clear hK
        refine vwp_cond (b := _) (by simp (dsimp := false) only [push_cast, hP, hnt, hgw, hgb, sevalprocAttr, hi0, hw, hd, hb0]; rfl) (fun rb2 => ?_) (fun rb2 => ?_)
        · have hb2 := rb2
          try simp only [nrmB] at hb2
          refine vwp_region rfl ?_
          simp (dsimp := false) only [push_cast, hP, hnt, hgw, hgb, sevalprocAttr, hi0, hw, hd, hb0]
          apply_assumption
          refine vwp_region rfl ?_
          simp (dsimp := false) only [push_cast, hP, hnt, hgw, hgb, sevalprocAttr, hi0, hw, hd, hb0]
          refine hL0 _ _ _ ?_ ?_ ⟨i + 1, q.2, rfl, ?_, rfl⟩
          · omega
          · refine wk_conv [] [] (by simp) (by simp) (by decide) ?_ ?_
            · refine hf_cons (by simp (dsimp := false) only [push_cast, ↓reduceIte, Nat.reduceEqDiff, Nat.reduceAdd, reduceCtorEq, hi0, hw, hd, hb0] <;> rfl) (by exact ConvV.self (by simp only [push_cast, rowC])) ?_
              refine hf_cons (by simp (dsimp := false) only [push_cast, ↓reduceIte, Nat.reduceEqDiff, Nat.reduceAdd, reduceCtorEq, hi0, hw, hd, hb0] <;> rfl) (by exact ConvV.self (by simp only [push_cast, rowC])) ?_
              refine hf_cons (by simp (dsimp := false) only [push_cast, ↓reduceIte, Nat.reduceEqDiff, Nat.reduceAdd, reduceCtorEq, hi0, hw, hd, hb0] <;> rfl) (by exact ConvV.self rfl) ?_
              refine hf_cons (by simp (dsimp := false) only [push_cast, ↓reduceIte, Nat.reduceEqDiff, Nat.reduceAdd, reduceCtorEq, hi0, hw, hd, hb0] <;> rfl) (by exact ConvV.self (by simp only [push_cast, rowC])) ?_
              refine hf_cons (by simp (dsimp := false) only [push_cast, ↓reduceIte, Nat.reduceEqDiff, Nat.reduceAdd, reduceCtorEq, hi0, hw, hd, hb0] <;> rfl) (by exact ConvV.self rfl) ?_
              refine hf_cons (by simp (dsimp := false) only [push_cast, ↓reduceIte, Nat.reduceEqDiff, Nat.reduceAdd, reduceCtorEq, hi0, hw, hd, hb0] <;> rfl) (by exact ConvV.self rfl) ?_
              exact hf_nil
            · exact hh_nil
          · refine ⟨by omega, by omega, ?_⟩; rw [if_neg (by omega), if_pos (by omega)] at hst; exact hst
        · have hb2 := rb2
          try simp only [nrmB] at hb2
          refine vwp_skip ?_
          apply_assumption
          refine vwp_region rfl ?_
          simp (dsimp := false) only [push_cast, hP, hnt, hgw, hgb, sevalprocAttr, hi0, hw, hd, hb0]
          refine hL0 _ _ _ ?_ ?_ ⟨i + 1, lit, rfl, ?_, rfl⟩
          · omega
          · refine wk_conv [] [] (by simp) (by simp) (by decide) ?_ ?_
            · refine hf_cons (by simp (dsimp := false) only [push_cast, ↓reduceIte, Nat.reduceEqDiff, Nat.reduceAdd, reduceCtorEq, hi0, hw, hd, hb0] <;> rfl) (by exact ConvV.self (by simp only [push_cast, rowC])) ?_
              refine hf_cons (by simp (dsimp := false) only [push_cast, ↓reduceIte, Nat.reduceEqDiff, Nat.reduceAdd, reduceCtorEq, hi0, hw, hd, hb0] <;> rfl) (by exact ConvV.self (by simp only [push_cast, rowC])) ?_
              refine hf_cons (by simp (dsimp := false) only [push_cast, ↓reduceIte, Nat.reduceEqDiff, Nat.reduceAdd, reduceCtorEq, hi0, hw, hd, hb0] <;> rfl) (by exact ConvV.self rfl) ?_
              refine hf_cons (by simp (dsimp := false) only [push_cast, ↓reduceIte, Nat.reduceEqDiff, Nat.reduceAdd, reduceCtorEq, hi0, hw, hd, hb0] <;> rfl) (by exact ConvV.self (by simp only [push_cast, rowC])) ?_
              refine hf_cons (by simp (dsimp := false) only [push_cast, ↓reduceIte, Nat.reduceEqDiff, Nat.reduceAdd, reduceCtorEq, hi0, hw, hd, hb0] <;> rfl) (by exact ConvV.self rfl) ?_
              refine hf_cons (by simp (dsimp := false) only [push_cast, ↓reduceIte, Nat.reduceEqDiff, Nat.reduceAdd, reduceCtorEq, hi0, hw, hd, hb0] <;> rfl) (by exact ConvV.self rfl) ?_
              exact hf_nil
            · exact hh_nil
          · refine ⟨by omega, by omega, ?_⟩; rw [if_neg (by omega), if_neg (by omega)] at hst; exact hst
    · have hb0 := rb0
      try simp only [nrmB] at hb0
      have hst := nextG_stop hb0 hi2
      refine vwp_exit ?_
      simp only [thenQ, blockQ, Nat.reduceEqDiff, reduceIte]
      apply_assumption
      refine vwp_seq_region rfl fun K hK => ?_
      simp (dsimp := false) only [push_cast, hP, hnt, hgw, hgb, sevalprocAttr, hi0]
      refine hK _ ?_; clear hK
      refine vwp_ret ?_
      refine ret_free (by simp (dsimp := false) only [push_cast, hP, hnt, hgw, hgb, sevalprocAttr, hi0]; rfl) (by simp (dsimp := false) only [push_cast, hP, hnt, hgw, hgb, sevalprocAttr, hi0]) ?_
      simp only [pack]; rw [hst]
end Go.Vm
end

section
namespace Go.Vm
open Go Go.RowKit Go.Proofs
set_option maxRecDepth 100000
set_option linter.unusedSimpArgs false
set_option linter.unusedVariables false
set_option maxHeartbeats 4000000

/-- The literal that is the other one of a variable. -/
def negI (l : Int) : Int := bits .xor .i64 l 1
theorem splice_set {f : Int → PC} {xs : List Int} {k : Nat} {y : Int} (h : k < xs.length) : splice (xs.map f) (k * 1) [f y] = (xs.set k y).map f := by
  rw [Nat.mul_one]
  unfold splice
  apply List.ext_getElem?
  intro j
  rw [List.getElem?_map, List.getElem?_set, List.getElem?_append, List.getElem?_append]
  simp only [List.length_append, List.length_take, List.length_map, List.length_cons, List.length_nil, Nat.zero_add, List.getElem?_take, List.getElem?_drop, List.getElem?_map]
  rw [Nat.min_eq_left (by omega)]
  by_cases h1 : j < k
  · rw [if_pos (by omega), if_pos h1, if_pos h1, if_neg (by omega)]
  · by_cases h2 : j = k
    · subst h2
      rw [if_pos (by omega), if_neg (by omega), if_pos rfl, if_pos h]
      simp
    · rw [if_neg (by omega), if_neg (by omega), show k + 1 + (j - (k + 1)) = j by omega]
def valG (n : Nat) : List Int → List Int → Option (List Int)
  | xs, [] => some xs
  | xs, l :: r => if (0 ≤ l ∧ l < (n : Int)) ∧ 0 ≤ negI l ∧ negI l < (n : Int) then valG n ((xs.set l.toNat 1).set (negI l).toNat 0) r else none
def valuesF (vars : Int) (trail : List Int) : Option (List Int) := valG (2 * vars + 2).toNat (List.replicate (2 * vars + 2).toNat 2) trail
section
variable {n : Nat} {xs l R : List Int} {i : Int}
theorem valG_step (h0 : 0 ≤ i) (h1 : i < (l.length : Int)) (h : valG n xs (l.drop i.toNat) = some R) : (0 ≤ atI l i ∧ atI l i < (n : Int)) ∧ (0 ≤ negI (atI l i) ∧ negI (atI l i) < (n : Int)) ∧ valG n ((xs.set (atI l i).toNat 1).set (negI (atI l i)).toNat 0) (l.drop (i + 1).toNat) = some R := by
  rw [drop_atI h0 h1] at h
  unfold valG at h
  split at h
  · rename_i hc
    refine ⟨hc.1, hc.2, ?_⟩
    rwa [show (i + 1).toNat = i.toNat + 1 by omega]
  · cases h
theorem valG_stop (h1 : ¬ i < (l.length : Int)) (h : valG n xs (l.drop i.toNat) = some R) : xs = R := by
  rw [List.drop_eq_nil_of_le (by omega)] at h
  cases h; rfl
theorem fill_next {N : Nat} (h0 : 0 ≤ i) (h1 : i < (N : Int)) (hl : xs.length = N) (h : ∀ j, j < i.toNat → xs[j]? = some 2) : ∀ j, j < (i + 1).toNat → (xs.set i.toNat 2)[j]? = some 2 := by
  intro j hj
  rw [List.getElem?_set]
  by_cases hji : i.toNat = j
  · rw [if_pos hji, if_pos (by omega)]
  · rw [if_neg hji]; exact h j (by omega)
theorem fill_end {N : Nat} (h1 : ¬ i < (N : Int)) (hl : xs.length = N) (h : ∀ j, j < i.toNat → xs[j]? = some 2) : xs = List.replicate N 2 := by
  apply List.ext_getElem?
  intro j
  rw [List.getElem?_replicate]
  by_cases hj : j < N
  · rw [if_pos hj]; exact h j (by omega)
  · rw [if_neg hj]; exact List.getElem?_eq_none (by omega)
end
theorem values_call (gw : World) (gb : Nat) (vars : Int) (trail starts R : List Int) (hv0 : 0 ≤ vars) (hv1 : vars ≤ 4000) (hl : trail.length ≤ 100000000) (hr : valuesF vars trail = some R) : VCall Tryz.prog gw (gb) 254 [.agg [.c (.int .i64 vars), .sl false trail.length (trail.map fun n => .c (.int .i64 n)), .sl false starts.length (starts.map fun n => .c (.int .i64 n))]] (.one (.own (0, 0))) [.arr 5 1 (2 * vars + 2).toNat (R.map fun n => .c (.int .u8 n))] := by
  obtain ⟨N, hN⟩ : ∃ N : Nat, 2 * vars + 2 = (N : Int) := ⟨(2 * vars + 2).toNat, by omega⟩
  have hw1 : IntKind.wrap .i64 (2 * vars) = 2 * vars := by rw [IntKind.wrap_i64]; omega
  have hw2 : IntKind.wrap .i64 (N : Int) = (N : Int) := by rw [IntKind.wrap_i64]; omega
  have hm1 : 1 * (N : Int) ≤ 140737488355328 := by omega
  have hm2 : (N : Int) ≤ 140737488355328 := by omega
  have hm3 : (0 : Int) ≤ (N : Int) := by omega
  have hm4 : ((N : Int) ≤ (N : Int)) = True := by simp
  have hz : rowZ [PC.c (Value.int .u8 0)] N = (List.replicate N (0 : Int)).map fun n => PC.c (Value.int .u8 n) := by rw [rowZ_one, List.map_replicate]
  unfold valuesF at hr
  rw [hN, Int.toNat_natCast] at hr ⊢
  refine vcall_of [.tmp 2] Tryz.func254 rfl rfl Tryz.ntmps254 rfl (by simp) ?_
  intro C hP hnt hgw hgb hfull
  refine vwp_seq_region rfl fun K hK => ?_
  simp (dsimp := false) only [push_cast, hP, hnt, hgw, hgb, sevalprocAttr, Int.toNat_natCast, hN, hw1, hw2, hm1, hm2, hm3, hm4]
  refine hK _ ?_; clear hK
  refine vwp_seq_region rfl fun K hK => ?_
  simp (dsimp := false) only [push_cast, hP, hnt, hgw, hgb, sevalprocAttr, Int.toNat_natCast, hN, hw1, hw2, hm1, hm2, hm3, hm4]
  refine hK _ ?_; clear hK
  refine vwp_seq fun K hK => ?_
  refine vwp_seq_region rfl fun K hK => ?_
  simp (dsimp := false) only [push_cast, hP, hnt, hgw, hgb, sevalprocAttr, Int.toNat_natCast, hN, hw1, hw2, hm1, hm2, hm3, hm4]
  refine hK _ ?_; clear hK
  refine vwp_block ?_
  refine vwp_loop (fun m σ => ∃ (i : Int) (xs : List Int), m = (N - i).toNat ∧ ((0 ≤ i) ∧ (i ≤ N) ∧ (xs.length = N) ∧ (∀ j, j < i.toNat → xs[j]? = some 2)) ∧ σ = St.of [(1, .one (.loc (2, 0) 0)), (3, .one (.own (12, 0))), (13, .one (.c (.int .i64 N))), (14, .one (.c (.int .i64 i)))] [((2, 0), .box 300 [.c (.int .i64 vars), .sl false trail.length (trail.map fun n => .c (.int .i64 n)), .sl false starts.length (starts.map fun n => .c (.int .i64 n))]), ((12, 0), .arr 5 1 N (xs.map fun n => .c (.int .u8 n)))] [1, 11]) _ ⟨_, ?_, 0, List.replicate N 0, rfl, ?_, rfl⟩ ?_
  · refine wk_conv [] [((2, 0), (2, 0)), ((12, 0), (12, 0))] (by simp) (by simp) (by decide) ?_ ?_
    · refine hf_cons (by simp (dsimp := false) only [push_cast, ↓reduceIte, Nat.reduceEqDiff, Nat.reduceAdd, reduceCtorEq, Int.toNat_natCast, hN, hw1, hw2, hm1, hm2, hm3, hm4, hz] <;> rfl) (by exact .one (.loc (by simp))) ?_
      refine hf_cons (by simp (dsimp := false) only [push_cast, ↓reduceIte, Nat.reduceEqDiff, Nat.reduceAdd, reduceCtorEq, Int.toNat_natCast, hN, hw1, hw2, hm1, hm2, hm3, hm4, hz] <;> rfl) (by exact .one (.own (by simp))) ?_
      refine hf_cons (by simp (dsimp := false) only [push_cast, ↓reduceIte, Nat.reduceEqDiff, Nat.reduceAdd, reduceCtorEq, Int.toNat_natCast, hN, hw1, hw2, hm1, hm2, hm3, hm4, hz] <;> rfl) (by exact ConvV.self rfl) ?_
      refine hf_cons (by simp (dsimp := false) only [push_cast, ↓reduceIte, Nat.reduceEqDiff, Nat.reduceAdd, reduceCtorEq, Int.toNat_natCast, hN, hw1, hw2, hm1, hm2, hm3, hm4, hz] <;> rfl) (by exact ConvV.self rfl) ?_
      exact hf_nil
    · refine hh_cons (i := (2, 0)) (by simp) (by simp) (by simp (dsimp := false) only [push_cast, ↓reduceIte, Nat.reduceEqDiff, Nat.reduceAdd, reduceCtorEq, Int.toNat_natCast, hN, hw1, hw2, hm1, hm2, hm3, hm4, hz] <;> rfl) (ConvB.free (by simp only [push_cast])) ?_
      refine hh_cons (i := (12, 0)) (by simp) (by simp) (by simp (dsimp := false) only [push_cast, ↓reduceIte, Nat.reduceEqDiff, Nat.reduceAdd, reduceCtorEq, Int.toNat_natCast, hN, hw1, hw2, hm1, hm2, hm3, hm4, hz] <;> rfl) (ConvB.free (by simp only [push_cast])) ?_
      exact hh_nil
  · exact ⟨by omega, by omega, by simp, fun j hj => absurd hj (by simp)⟩
  · rintro m τ ⟨i, xs, hm, ⟨hi0, hi1, hxl, hx⟩, rfl⟩ K hL0
    have hw := fun h : i < (N : Int) => wrap_next hi0 h (by omega)
    refine vwp_seq_region rfl fun K hK => ?_
    simp (dsimp := false) only [push_cast, hP, hnt, hgw, hgb, sevalprocAttr, Int.toNat_natCast, hN, hw1, hw2, hm1, hm2, hm3, hm4, hi0]
    refine hK _ ?_; clear hK
    refine vwp_seq fun K hK => ?_
    refine vwp_cond (b := _) (by simp (dsimp := false) only [push_cast, hP, hnt, hgw, hgb, sevalprocAttr, Int.toNat_natCast, hN, hw1, hw2, hm1, hm2, hm3, hm4, hi0]; rfl) (fun rb0 => ?_) (fun rb0 => ?_)
    · have hb0 := rb0
      try simp only [nrmB] at hb0
      have hw := hw hb0
      have hk : i.toNat < xs.length := by omega
      have hf1 : i.toNat * 1 + 1 ≤ (xs.map (fun n : Int => PC.c (Value.int .u8 n))).length := by rw [List.length_map]; omega
      have hs1 := splice_set (f := (fun n : Int => PC.c (Value.int .u8 n))) (y := 2) hk
      refine vwp_skip ?_
      apply_assumption
      refine vwp_seq fun K hK => ?_
      refine vwp_block ?_
      refine vwp_seq_region rfl fun K hK => ?_
      simp (dsimp := false) only [push_cast, hP, hnt, hgw, hgb, sevalprocAttr, Int.toNat_natCast, hN, hw1, hw2, hm1, hm2, hm3, hm4, hi0, hw, hb0, hf1, hs1]
      refine hK _ ?_; clear hK
      refine vwp_region rfl ?_
      simp (dsimp := false) only [push_cast, hP, hnt, hgw, hgb, sevalprocAttr, Int.toNat_natCast, hN, hw1, hw2, hm1, hm2, hm3, hm4, hi0, hw, hb0, hf1, hs1]
      apply_assumption
      refine vwp_region rfl ?_
      simp (dsimp := false) only [push_cast, hP, hnt, hgw, hgb, sevalprocAttr, Int.toNat_natCast, hN, hw1, hw2, hm1, hm2, hm3, hm4, hi0, hw, hb0, hf1, hs1]
      have hk : i.toNat < xs.length := by omega
      refine hL0 _ _ _ ?_ ?_ ⟨i + 1, xs.set i.toNat 2, rfl, ?_, rfl⟩
      · omega
      · refine wk_conv [] [((2, 0), (2, 0)), ((12, 0), (12, 0))] (by simp) (by simp) (by decide) ?_ ?_
        · refine hf_cons (by simp (dsimp := false) only [push_cast, ↓reduceIte, Nat.reduceEqDiff, Nat.reduceAdd, reduceCtorEq, Int.toNat_natCast, hN, hw1, hw2, hm1, hm2, hm3, hm4, hi0, hw, hb0, hf1, hs1] <;> rfl) (by exact .one (.loc (by simp))) ?_
          refine hf_cons (by simp (dsimp := false) only [push_cast, ↓reduceIte, Nat.reduceEqDiff, Nat.reduceAdd, reduceCtorEq, Int.toNat_natCast, hN, hw1, hw2, hm1, hm2, hm3, hm4, hi0, hw, hb0, hf1, hs1] <;> rfl) (by exact .one (.own (by simp))) ?_
          refine hf_cons (by simp (dsimp := false) only [push_cast, ↓reduceIte, Nat.reduceEqDiff, Nat.reduceAdd, reduceCtorEq, Int.toNat_natCast, hN, hw1, hw2, hm1, hm2, hm3, hm4, hi0, hw, hb0, hf1, hs1] <;> rfl) (by exact ConvV.self rfl) ?_
          refine hf_cons (by simp (dsimp := false) only [push_cast, ↓reduceIte, Nat.reduceEqDiff, Nat.reduceAdd, reduceCtorEq, Int.toNat_natCast, hN, hw1, hw2, hm1, hm2, hm3, hm4, hi0, hw, hb0, hf1, hs1] <;> rfl) (by exact ConvV.self rfl) ?_
          exact hf_nil
        · refine hh_cons (i := (2, 0)) (by simp) (by simp) (by simp (dsimp := false) only [push_cast, ↓reduceIte, Nat.reduceEqDiff, Nat.reduceAdd, reduceCtorEq, Int.toNat_natCast, hN, hw1, hw2, hm1, hm2, hm3, hm4, hi0, hw, hb0, hf1, hs1] <;> rfl) (ConvB.free (by simp only [push_cast])) ?_
          refine hh_cons (i := (12, 0)) (by simp) (by simp) (by simp (dsimp := false) only [push_cast, ↓reduceIte, Nat.reduceEqDiff, Nat.reduceAdd, reduceCtorEq, Int.toNat_natCast, hN, hw1, hw2, hm1, hm2, hm3, hm4, hi0, hw, hb0, hf1, hs1] <;> rfl) (ConvB.free (by simp only [push_cast])) ?_
          exact hh_nil
      · exact ⟨by omega, by omega, by rw [List.length_set]; exact hxl, fill_next hi0 hb0 hxl hx⟩
    · have hb0 := rb0
      try simp only [nrmB] at hb0
      have hend : xs = List.replicate N 2 := fill_end hb0 hxl hx
      refine vwp_exit ?_
      simp only [thenQ, blockQ, Nat.reduceEqDiff, reduceIte]
      apply_assumption
      refine vwp_seq fun K hK => ?_
      refine vwp_seq_region rfl fun K hK => ?_
      simp (dsimp := false) only [push_cast, hP, hnt, hgw, hgb, sevalprocAttr, Int.toNat_natCast, hN, hw1, hw2, hm1, hm2, hm3, hm4, hi0, hend]
      refine hK _ ?_; clear hK
      refine vwp_block ?_
      refine vwp_loop (fun m σ => ∃ (i : Int) (xs : List Int), m = (trail.length - i).toNat ∧ ((0 ≤ i) ∧ (i ≤ trail.length) ∧ (valG N xs (trail.drop i.toNat) = some R) ∧ (xs.length = N)) ∧ σ = St.of [(3, .one (.own (12, 0))), (22, .one (.sl false trail.length (trail.map fun n => .c (.int .i64 n)))), (23, .one (.c (.int .i64 trail.length))), (24, .one (.c (.int .i64 i)))] [((12, 0), .arr 5 1 N (xs.map fun n => .c (.int .u8 n)))] [11]) _ ⟨_, ?_, 0, List.replicate N 2, rfl, ?_, rfl⟩ ?_
      · refine wk_conv [(2, 0)] [((12, 0), (12, 0))] (by simp) (by simp) (by decide) ?_ ?_
        · refine hf_cons (by simp (dsimp := false) only [push_cast, ↓reduceIte, Nat.reduceEqDiff, Nat.reduceAdd, reduceCtorEq, Int.toNat_natCast, hN, hw1, hw2, hm1, hm2, hm3, hm4, hi0, hend, hend] <;> rfl) (by exact .one (.own (by simp))) ?_
          refine hf_cons (by simp (dsimp := false) only [push_cast, ↓reduceIte, Nat.reduceEqDiff, Nat.reduceAdd, reduceCtorEq, Int.toNat_natCast, hN, hw1, hw2, hm1, hm2, hm3, hm4, hi0, hend, hend] <;> rfl) (by exact ConvV.self (by simp only [push_cast])) ?_
          refine hf_cons (by simp (dsimp := false) only [push_cast, ↓reduceIte, Nat.reduceEqDiff, Nat.reduceAdd, reduceCtorEq, Int.toNat_natCast, hN, hw1, hw2, hm1, hm2, hm3, hm4, hi0, hend, hend] <;> rfl) (by exact ConvV.self rfl) ?_
          refine hf_cons (by simp (dsimp := false) only [push_cast, ↓reduceIte, Nat.reduceEqDiff, Nat.reduceAdd, reduceCtorEq, Int.toNat_natCast, hN, hw1, hw2, hm1, hm2, hm3, hm4, hi0, hend, hend] <;> rfl) (by exact ConvV.self rfl) ?_
          exact hf_nil
        · refine hh_cons (i := (12, 0)) (by simp) (by simp) (by simp (dsimp := false) only [push_cast, ↓reduceIte, Nat.reduceEqDiff, Nat.reduceAdd, reduceCtorEq, Int.toNat_natCast, hN, hw1, hw2, hm1, hm2, hm3, hm4, hi0, hend, hend] <;> rfl) (ConvB.free (by simp only [push_cast])) ?_
          exact hh_nil
      · exact ⟨by omega, by omega, hr, by simp⟩
      · rintro m τ ⟨i, xs, hm, ⟨hi0, hi1, hi2, hxl⟩, rfl⟩ K hL2
        have hw := fun h : i < (trail.length : Int) => wrap_next hi0 h (by omega)
        have hd := fun h : i < (trail.length : Int) => dropI_map (fun n => PC.c (Value.int .i64 n)) hi0 h
        refine vwp_seq_region rfl fun K hK => ?_
        simp (dsimp := false) only [push_cast, hP, hnt, hgw, hgb, sevalprocAttr, Int.toNat_natCast, hN, hw1, hw2, hm1, hm2, hm3, hm4, hi0, hend, hi0]
        refine hK _ ?_; clear hK
        refine vwp_seq fun K hK => ?_
        refine vwp_cond (b := _) (by simp (dsimp := false) only [push_cast, hP, hnt, hgw, hgb, sevalprocAttr, Int.toNat_natCast, hN, hw1, hw2, hm1, hm2, hm3, hm4, hi0, hend, hi0]; rfl) (fun rb1 => ?_) (fun rb1 => ?_)
        · have hb1 := rb1
          try simp only [nrmB] at hb1
          have hw := hw hb1
          have hd := hd hb1
          obtain ⟨⟨a0, a1⟩, ⟨c0, c1⟩, hst⟩ := valG_step hi0 hb1 hi2
          have hng : bits .xor .i64 (atI trail i) 1 = negI (atI trail i) := rfl
          have hf1 : (atI trail i).toNat * 1 + 1 ≤ (xs.map (fun n : Int => PC.c (Value.int .u8 n))).length := by rw [List.length_map]; omega
          have hs1 := splice_set (f := (fun n : Int => PC.c (Value.int .u8 n))) (xs := xs) (k := (atI trail i).toNat) (y := 1) (by omega)
          have hf2 : (negI (atI trail i)).toNat * 1 + 1 ≤ ((xs.set (atI trail i).toNat 1).map (fun n : Int => PC.c (Value.int .u8 n))).length := by rw [List.length_map, List.length_set]; omega
          have hs2 := splice_set (f := (fun n : Int => PC.c (Value.int .u8 n))) (xs := xs.set (atI trail i).toNat 1) (k := (negI (atI trail i)).toNat) (y := 0) (by rw [List.length_set]; omega)
          refine vwp_skip ?_
          apply_assumption
          refine vwp_seq fun K hK => ?_
          refine vwp_block ?_
          refine vwp_seq_region rfl fun K hK => ?_
          simp (dsimp := false) only [push_cast, hP, hnt, hgw, hgb, sevalprocAttr, Int.toNat_natCast, hN, hw1, hw2, hm1, hm2, hm3, hm4, hi0, hend, hi0, hw, hd, hb1, hng, a0, a1, c0, c1, hf1, hs1, hf2, hs2]
          refine hK _ ?_; clear hK
          refine vwp_region rfl ?_
          simp (dsimp := false) only [push_cast, hP, hnt, hgw, hgb, sevalprocAttr, Int.toNat_natCast, hN, hw1, hw2, hm1, hm2, hm3, hm4, hi0, hend, hi0, hw, hd, hb1, hng, a0, a1, c0, c1, hf1, hs1, hf2, hs2]
          apply_assumption
          refine vwp_region rfl ?_
          simp (dsimp := false) only [push_cast, hP, hnt, hgw, hgb, sevalprocAttr, Int.toNat_natCast, hN, hw1, hw2, hm1, hm2, hm3, hm4, hi0, hend, hi0, hw, hd, hb1, hng, a0, a1, c0, c1, hf1, hs1, hf2, hs2]
          refine hL2 _ _ _ ?_ ?_ ⟨i + 1, (xs.set (atI trail i).toNat 1).set (negI (atI trail i)).toNat 0, rfl, ?_, rfl⟩
          · omega
          · refine wk_conv [] [((12, 0), (12, 0))] (by simp) (by simp) (by decide) ?_ ?_
            · refine hf_cons (by simp (dsimp := false) only [push_cast, ↓reduceIte, Nat.reduceEqDiff, Nat.reduceAdd, reduceCtorEq, Int.toNat_natCast, hN, hw1, hw2, hm1, hm2, hm3, hm4, hi0, hend, hi0, hw, hd, hb1, hng, a0, a1, c0, c1, hf1, hs1, hf2, hs2] <;> rfl) (by exact .one (.own (by simp))) ?_
              refine hf_cons (by simp (dsimp := false) only [push_cast, ↓reduceIte, Nat.reduceEqDiff, Nat.reduceAdd, reduceCtorEq, Int.toNat_natCast, hN, hw1, hw2, hm1, hm2, hm3, hm4, hi0, hend, hi0, hw, hd, hb1, hng, a0, a1, c0, c1, hf1, hs1, hf2, hs2] <;> rfl) (by exact ConvV.self (by simp only [push_cast])) ?_
              refine hf_cons (by simp (dsimp := false) only [push_cast, ↓reduceIte, Nat.reduceEqDiff, Nat.reduceAdd, reduceCtorEq, Int.toNat_natCast, hN, hw1, hw2, hm1, hm2, hm3, hm4, hi0, hend, hi0, hw, hd, hb1, hng, a0, a1, c0, c1, hf1, hs1, hf2, hs2] <;> rfl) (by exact ConvV.self rfl) ?_
              refine hf_cons (by simp (dsimp := false) only [push_cast, ↓reduceIte, Nat.reduceEqDiff, Nat.reduceAdd, reduceCtorEq, Int.toNat_natCast, hN, hw1, hw2, hm1, hm2, hm3, hm4, hi0, hend, hi0, hw, hd, hb1, hng, a0, a1, c0, c1, hf1, hs1, hf2, hs2] <;> rfl) (by exact ConvV.self rfl) ?_
              exact hf_nil
            · refine hh_cons (i := (12, 0)) (by simp) (by simp) (by simp (dsimp := false) only [push_cast, ↓reduceIte, Nat.reduceEqDiff, Nat.reduceAdd, reduceCtorEq, Int.toNat_natCast, hN, hw1, hw2, hm1, hm2, hm3, hm4, hi0, hend, hi0, hw, hd, hb1, hng, a0, a1, c0, c1, hf1, hs1, hf2, hs2] <;> rfl) (ConvB.free (by simp only [push_cast])) ?_
              exact hh_nil
          · exact ⟨by omega, by omega, hst, by rw [List.length_set, List.length_set]; exact hxl⟩
        · have hb1 := rb1
          try simp only [nrmB] at hb1
          have hst := valG_stop hb1 hi2
          refine vwp_exit ?_
          simp only [thenQ, blockQ, Nat.reduceEqDiff, reduceIte]
          apply_assumption
          refine vwp_seq_region rfl fun K hK => ?_
          simp (dsimp := false) only [push_cast, hP, hnt, hgw, hgb, sevalprocAttr, Int.toNat_natCast, hN, hw1, hw2, hm1, hm2, hm3, hm4, hi0, hend, hi0, hst]
          refine hK _ ?_; clear hK
          refine vwp_ret ?_
          refine ret_conv [] [((12, 0), (0, 0))] (by simp (dsimp := false) only [push_cast, hP, hnt, hgw, hgb, sevalprocAttr, Int.toNat_natCast, hN, hw1, hw2, hm1, hm2, hm3, hm4, hi0, hend, hi0, hst]; rfl) (by simp) (by simp) (by first | decide | simp) ?_ ?_
          · simp only [pack]
            repeat' (first | exact ConvVs.nil | exact ConvL.nil | refine ConvV.tup ?_ | refine ConvVs.cons ?_ ?_ | (refine ConvV.self ?_; simp only [push_cast]; done) | refine ConvV.one ?_ | refine ConvV.agg ?_ | (refine ConvL.free ?_; simp only [push_cast]; done) | refine ConvL.append ?_ ?_ | refine ConvL.cons ?_ ?_ | exact Conv.free rfl | exact Conv.nil | (refine Conv.own ?_; simp; done) | (refine Conv.loc ?_; simp; done) | refine Conv.frz (by simp) (by simp (dsimp := false) only [push_cast, ↓reduceIte, Nat.reduceEqDiff, Nat.reduceAdd, reduceCtorEq, Int.toNat_natCast, hN, hw1, hw2, hm1, hm2, hm3, hm4, hi0, hend, hi0, hst] <;> rfl) ?_ | refine Conv.sl (by simp) ?_ | refine Conv.fn ?_)
          · refine rb_cons ⟨(12, 0), _, by simp, by simp, by simp (dsimp := false) only [push_cast, ↓reduceIte, Nat.reduceEqDiff, Nat.reduceAdd, reduceCtorEq, Int.toNat_natCast, hN, hw1, hw2, hm1, hm2, hm3, hm4, hi0, hend, hi0, hst] <;> rfl, by first | (refine ConvB.free ?_; simp only [push_cast]; done) | ((first | refine ConvB.arr ?_ | refine ConvB.box ?_); repeat' (first | exact ConvVs.nil | exact ConvL.nil | refine ConvV.tup ?_ | refine ConvVs.cons ?_ ?_ | (refine ConvV.self ?_; simp only [push_cast]; done) | refine ConvV.one ?_ | refine ConvV.agg ?_ | (refine ConvL.free ?_; simp only [push_cast]; done) | refine ConvL.append ?_ ?_ | refine ConvL.cons ?_ ?_ | exact Conv.free rfl | exact Conv.nil | (refine Conv.own ?_; simp; done) | (refine Conv.loc ?_; simp; done) | refine Conv.frz (by simp) (by simp (dsimp := false) only [push_cast, ↓reduceIte, Nat.reduceEqDiff, Nat.reduceAdd, reduceCtorEq, Int.toNat_natCast, hN, hw1, hw2, hm1, hm2, hm3, hm4, hi0, hend, hi0, hst] <;> rfl) ?_ | refine Conv.sl (by simp) ?_ | refine Conv.fn ?_))⟩ ?_
            exact rb_nil
end Go.Vm
end
