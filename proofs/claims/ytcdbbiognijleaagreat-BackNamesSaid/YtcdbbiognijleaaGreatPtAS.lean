/-
  Contracts of the library, and a run that is computed (PtAS). Conditions: each theorem's own premises. By an AI agent.
-/
import Derived.Test.YtcdbbiognijleaaGreatPtAR
section
namespace Go.Vm
open Go Go.RowKit Go.Proofs
set_option maxRecDepth 100000
set_option linter.unusedSimpArgs false
set_option linter.unusedVariables false
set_option maxHeartbeats 4000000

theorem i64s_free (l : List Int) : PC.frees (l.map fun n => PC.c (Value.int .i64 n)) = true := by rw [frees_map, List.all_eq_true]; intro x _; rfl
theorem i64B_strict (l : List Int) (n : Nat) : strictB [Blk.arr 3 1 n (l.map fun k => PC.c (Value.int .i64 k))] = true := by simp only [push_cast]
theorem u8B_strict (l : List Int) (n : Nat) : strictB [Blk.arr 5 1 n (l.map fun k => PC.c (Value.int .u8 k))] = true := by simp only [push_cast]
theorem rowC_weak (c : List Int) : (rowC c).weak = rowC c := by simp only [rowC, push_cast]
theorem rowC_free (c : List Int) : (rowC c).free = true := by simp only [rowC, push_cast]
theorem cloneInt_call (gw : World) (gb : Nat) (l : List Int) (hl : l.length ≤ 100000000) : VCall Tryz.prog gw gb 21 [.one (.sl false l.length (l.map fun n => .c (.int .i64 n)))] (.one (.own (0, 0))) [.arr 3 1 l.length (l.map fun n => .c (.int .i64 n))] := by
  obtain ⟨nm, tg, t, tb, h1, h2, h3, h4, h5, h6, h8⟩ := clones_ok ⟨21, 3, 1, 8⟩ (by simp [clones])
  obtain ⟨zv, h6, h7⟩ := Option.map_eq_some_iff.1 h6
  exact clone_call h1 h2 mixed h3 h4 h5 h6 h7 h8 (by simp) (by unfold maxLen; omega) (by simp only; omega) (i64s_free l)
inductive RunQ where
  | err (e : Int)
  | ok (at_ : Int) (tr : List Int)
def rRun (vars : Int) : RunQ → PV
  | .err e => .tup [.agg [.c (.int .i64 0), .c (.slice none 0 0), .c (.slice none 0 0)], .one (.c (.int .i64 0)), .one (.c (.int .i64 e))]
  | .ok a _ => .tup [.agg [.c (.int .i64 vars), .own (0, 0), .own (0, 1)], .one (.c (.int .i64 a)), .one (.c (.int .i64 0))]
def bRun (starts : List Int) : RunQ → List Blk
  | .err _ => []
  | .ok _ tr => [.arr 3 1 tr.length (tr.map fun n => .c (.int .i64 n)), .arr 3 1 starts.length (starts.map fun n => .c (.int .i64 n))]
def runG (l : List (List Int)) : Nat → List Int → List Int → Option (Int × List Int)
  | 0, _, _ => none
  | k + 1, xs, tr =>
    match nextF xs l with
    | none => none
    | some p =>
      if 0 ≤ p.1 ∨ p.2 = 0 then some (p.1, tr)
      else if (0 ≤ p.2 ∧ p.2 < (xs.length : Int)) ∧ 0 ≤ negI p.2 ∧ negI p.2 < (xs.length : Int) then runG l k ((xs.set p.2.toNat 1).set (negI p.2).toNat 0) (tr ++ [p.2])
      else none
def chkL (vars : Int) : List (List Int) → Int
  | [] => 0
  | c :: r => if clauseF vars c = 0 then chkL vars r else clauseF vars c
def runF (fuel : Nat) (vars : Int) (trail starts : List Int) (l : List (List Int)) : Option RunQ :=
  match assignF vars trail starts with
  | none => none
  | some e =>
    if e = 0 then
      if 20000 < (l.length : Int) then some (.err 4)
      else if chkL vars l = 0 then
        match valuesF vars trail with
        | none => none
        | some xs =>
          match runG l fuel xs trail with
          | none => none
          | some p => some (.ok p.1 p.2)
      else some (.err (chkL vars l))
    else some (.err e)
theorem valG_len {n : Nat} : ∀ {l xs R : List Int}, valG n xs l = some R → R.length = xs.length
  | [], xs, R, h => by cases h; rfl
  | a :: l, xs, R, h => by
    unfold valG at h
    split at h
    · rw [valG_len h]; simp
    · cases h
theorem assignF_zero {vars : Int} {trail starts : List Int} (h : assignF vars trail starts = some 0) : 0 ≤ vars ∧ vars ≤ 4000 := by
  unfold assignF at h
  split at h
  · cases h
  · omega
theorem chkL_step {vars i : Int} {l : List (List Int)} (h0 : 0 ≤ i) (h1 : i < (l.length : Int)) {r : Int} (h : chkL vars (l.drop i.toNat) = r) : (if clauseF vars (atI l i) = 0 then chkL vars (l.drop (i + 1).toNat) else clauseF vars (atI l i)) = r := by
  rw [drop_atI h0 h1] at h
  unfold chkL at h
  rwa [show (i + 1).toNat = i.toNat + 1 by omega]
theorem chkL_stop {vars i : Int} {l : List (List Int)} (h1 : ¬ i < (l.length : Int)) {r : Int} (h : chkL vars (l.drop i.toNat) = r) : r = 0 := by
  rw [List.drop_eq_nil_of_le (by omega)] at h
  exact h.symm
theorem runG_step {l : List (List Int)} {k : Nat} {xs tr : List Int} {r : Int × List Int} (h : runG l k xs tr = some r) : ∃ j p, k = j + 1 ∧ nextF xs l = some p ∧ (if 0 ≤ p.1 ∨ p.2 = 0 then some (p.1, tr) else if (0 ≤ p.2 ∧ p.2 < (xs.length : Int)) ∧ 0 ≤ negI p.2 ∧ negI p.2 < (xs.length : Int) then runG l j ((xs.set p.2.toNat 1).set (negI p.2).toNat 0) (tr ++ [p.2]) else none) = some r := by
  cases k with
  | zero => cases h
  | succ j =>
    unfold runG at h
    split at h
    · cases h
    · rename_i p hp
      exact ⟨j, p, rfl, hp, h⟩
theorem run_call (gw : World) (gb : Nat) (fuel : Nat) (vars : Int) (trail starts : List Int) (l : List (List Int)) (q : RunQ) (hl : trail.length + fuel ≤ 100000000) (hl2 : starts.length ≤ 100000000) (hl3 : ∀ c ∈ l, c.length ≤ 100000000) (hl4 : l.length ≤ 100000000) (hr : runF fuel vars trail starts l = some q) : VCall Tryz.prog gw (gb) 211 [.agg [.c (.int .i64 vars), .sl false trail.length (trail.map fun n => .c (.int .i64 n)), .sl false starts.length (starts.map fun n => .c (.int .i64 n))], .one (.sl false l.length (l.map rowC))] (rRun vars q) (bRun starts q) := by
  obtain ⟨R, hR⟩ : ∃ R, assignF vars trail starts = some R := by
    cases h : assignF vars trail starts with
    | none => unfold runF at hr; rw [h] at hr; cases hr
    | some R => exact ⟨R, rfl⟩
  unfold runF at hr
  rw [hR] at hr
  simp only at hr
  refine vcall_of [.cell 4 300, .tmp 5, .tmp 6] Tryz.func211 rfl rfl Tryz.ntmps211 rfl (by simp) ?_
  intro C hP hnt hgw hgb hfull
  refine vwp_seq_region rfl fun K hK => ?_
  simp (dsimp := false) only [push_cast, hP, hnt, hgw, hgb, sevalprocAttr]
  refine hK _ ?_; clear hK
  refine vwp_seq fun K hK => ?_
  refine vwp_seq_region rfl fun K hK => ?_
  simp (dsimp := false) only [push_cast, hP, hnt, hgw, hgb, sevalprocAttr]
  refine .inl (callE_intro (aCheck_call gw gb vars trail starts R (by omega) hl2 hR) (.inl ⟨rfl, rfl⟩) ?_)
  simp (dsimp := false) only [push_cast, hP, hnt, hgw, hgb, sevalprocAttr]
  refine hK _ ?_; clear hK
  refine vwp_seq_region rfl fun K hK => ?_
  simp (dsimp := false) only [push_cast, hP, hnt, hgw, hgb, sevalprocAttr]
  refine hK _ ?_; clear hK
  refine vwp_cond (b := _) (by simp (dsimp := false) only [push_cast, hP, hnt, hgw, hgb, sevalprocAttr]; rfl) (fun rb0 => ?_) (fun rb0 => ?_)
  · have hb0 := rb0
    try simp only [nrmB] at hb0
    have hq : q = .err R := by rw [if_neg hb0] at hr; cases hr; rfl
    subst hq
    refine vwp_seq_region rfl fun K hK => ?_
    simp (dsimp := false) only [push_cast, hP, hnt, hgw, hgb, sevalprocAttr]
    refine hK _ ?_; clear hK
    refine vwp_ret ?_
    simp only [rRun, bRun]
    refine ret_conv [] [] (by simp (dsimp := false) only [push_cast, hP, hnt, hgw, hgb, sevalprocAttr]; rfl) (by simp) (by simp) (by first | decide | simp) ?_ ?_
    · simp only [pack]
      repeat' (first | exact ConvVs.nil | exact ConvL.nil | refine ConvV.tup ?_ | refine ConvVs.cons ?_ ?_ | (refine ConvV.self ?_; simp only [push_cast, rowC]; done) | refine ConvV.one ?_ | refine ConvV.agg ?_ | (refine ConvL.free ?_; simp only [push_cast, rowC]; done) | refine ConvL.append ?_ ?_ | refine ConvL.cons ?_ ?_ | exact Conv.free rfl | exact Conv.nil | (refine Conv.own ?_; simp; done) | (refine Conv.loc ?_; simp; done) | refine Conv.frz (by simp) (by simp (dsimp := false) only [push_cast, ↓reduceIte, Nat.reduceEqDiff, Nat.reduceAdd, reduceCtorEq] <;> rfl) ?_ | refine Conv.sl (by simp) ?_ | refine Conv.fn ?_)
    · exact rb_nil
  · have hb0 := rb0
    try simp only [nrmB] at hb0
    subst hb0
    obtain ⟨hv0, hv1⟩ := assignF_zero hR
    rw [if_pos rfl] at hr
    refine vwp_skip ?_
    apply_assumption
    refine vwp_seq fun K hK => ?_
    refine vwp_seq_region rfl fun K hK => ?_
    simp (dsimp := false) only [push_cast, hP, hnt, hgw, hgb, sevalprocAttr]
    refine hK _ ?_; clear hK
    refine vwp_cond (b := _) (by simp (dsimp := false) only [push_cast, hP, hnt, hgw, hgb, sevalprocAttr]; rfl) (fun rb1 => ?_) (fun rb1 => ?_)
    · have hb1 := rb1
      try simp only [nrmB] at hb1
      have hq : q = .err 4 := by rw [if_pos (by omega)] at hr; cases hr; rfl
      subst hq
      refine vwp_seq_region rfl fun K hK => ?_
      simp (dsimp := false) only [push_cast, hP, hnt, hgw, hgb, sevalprocAttr]
      refine hK _ ?_; clear hK
      refine vwp_ret ?_
      simp only [rRun, bRun]
      refine ret_conv [] [] (by simp (dsimp := false) only [push_cast, hP, hnt, hgw, hgb, sevalprocAttr]; rfl) (by simp) (by simp) (by first | decide | simp) ?_ ?_
      · simp only [pack]
        repeat' (first | exact ConvVs.nil | exact ConvL.nil | refine ConvV.tup ?_ | refine ConvVs.cons ?_ ?_ | (refine ConvV.self ?_; simp only [push_cast, rowC]; done) | refine ConvV.one ?_ | refine ConvV.agg ?_ | (refine ConvL.free ?_; simp only [push_cast, rowC]; done) | refine ConvL.append ?_ ?_ | refine ConvL.cons ?_ ?_ | exact Conv.free rfl | exact Conv.nil | (refine Conv.own ?_; simp; done) | (refine Conv.loc ?_; simp; done) | refine Conv.frz (by simp) (by simp (dsimp := false) only [push_cast, ↓reduceIte, Nat.reduceEqDiff, Nat.reduceAdd, reduceCtorEq] <;> rfl) ?_ | refine Conv.sl (by simp) ?_ | refine Conv.fn ?_)
      · exact rb_nil
    · have hb1 := rb1
      try simp only [nrmB] at hb1
      rw [if_neg (by omega)] at hr
      refine vwp_skip ?_
      apply_assumption
      refine vwp_seq fun K hK => ?_
      refine vwp_seq_region rfl fun K hK => ?_
      simp (dsimp := false) only [push_cast, hP, hnt, hgw, hgb, sevalprocAttr]
      refine hK _ ?_; clear hK
      refine vwp_block ?_
      refine vwp_loop (fun m σ => ∃ (i : Int), m = (l.length - i).toNat ∧ ((0 ≤ i) ∧ (i ≤ l.length) ∧ (chkL vars (l.drop i.toNat) = chkL vars l)) ∧ σ = St.of [(1, .one (.sl false l.length (l.map rowC))), (2, .one (.loc (3, 0) 0)), (4, .one (.loc (5, 0) 0)), (25, .one (.sl false l.length (l.map rowC))), (26, .one (.c (.int .i64 l.length))), (27, .one (.c (.int .i64 i)))] [((3, 0), .box 300 [.c (.int .i64 vars), .sl false trail.length (trail.map fun n => .c (.int .i64 n)), .sl false starts.length (starts.map fun n => .c (.int .i64 n))]), ((5, 0), .box 300 [.c (.int .i64 0), .c (.slice none 0 0), .c (.slice none 0 0)])] [2, 4]) _ ⟨_, ?_, 0, rfl, ?_, rfl⟩ ?_
      · refine wk_conv [] [((3, 0), (3, 0)), ((5, 0), (5, 0))] (by simp) (by simp) (by decide) ?_ ?_
        · refine hf_cons (by simp (dsimp := false) only [push_cast, ↓reduceIte, Nat.reduceEqDiff, Nat.reduceAdd, reduceCtorEq] <;> rfl) (by exact ConvV.self (by simp only [push_cast, rowC])) ?_
          refine hf_cons (by simp (dsimp := false) only [push_cast, ↓reduceIte, Nat.reduceEqDiff, Nat.reduceAdd, reduceCtorEq] <;> rfl) (by exact .one (.loc (by simp))) ?_
          refine hf_cons (by simp (dsimp := false) only [push_cast, ↓reduceIte, Nat.reduceEqDiff, Nat.reduceAdd, reduceCtorEq] <;> rfl) (by exact .one (.loc (by simp))) ?_
          refine hf_cons (by simp (dsimp := false) only [push_cast, ↓reduceIte, Nat.reduceEqDiff, Nat.reduceAdd, reduceCtorEq] <;> rfl) (by exact ConvV.self (by simp only [push_cast, rowC])) ?_
          refine hf_cons (by simp (dsimp := false) only [push_cast, ↓reduceIte, Nat.reduceEqDiff, Nat.reduceAdd, reduceCtorEq] <;> rfl) (by exact ConvV.self rfl) ?_
          refine hf_cons (by simp (dsimp := false) only [push_cast, ↓reduceIte, Nat.reduceEqDiff, Nat.reduceAdd, reduceCtorEq] <;> rfl) (by exact ConvV.self rfl) ?_
          exact hf_nil
        · refine hh_cons (i := (3, 0)) (by simp) (by simp) (by simp (dsimp := false) only [push_cast, ↓reduceIte, Nat.reduceEqDiff, Nat.reduceAdd, reduceCtorEq] <;> rfl) (ConvB.free (by simp only [push_cast, rowC])) ?_
          refine hh_cons (i := (5, 0)) (by simp) (by simp) (by simp (dsimp := false) only [push_cast, ↓reduceIte, Nat.reduceEqDiff, Nat.reduceAdd, reduceCtorEq] <;> rfl) (ConvB.free (by simp only [push_cast, rowC])) ?_
          exact hh_nil
      · exact ⟨by omega, by omega, rfl⟩
      · rintro m τ ⟨i, hm, ⟨hi0, hi1, hi2⟩, rfl⟩ K hL0
        have hw := fun h : i < (l.length : Int) => wrap_next hi0 h (by omega)
        have hd := fun h : i < (l.length : Int) => (dropI_map rowC hi0 h).trans (by rw [show rowC (atI l i) = .sl false (atI l i).length ((atI l i).map fun n => .c (.int .i64 n)) from rfl])
        refine vwp_seq_region rfl fun K hK => ?_
        simp (dsimp := false) only [push_cast, hP, hnt, hgw, hgb, sevalprocAttr, hi0]
        refine hK _ ?_; clear hK
        refine vwp_seq fun K hK => ?_
        refine vwp_cond (b := _) (by simp (dsimp := false) only [push_cast, hP, hnt, hgw, hgb, sevalprocAttr, hi0]; rfl) (fun rb2 => ?_) (fun rb2 => ?_)
        · have hb2 := rb2
          try simp only [nrmB] at hb2
          have hbI := hb2
          have hw := hw hb2
          have hd := hd hb2
          have hst := chkL_step hi0 hb2 hi2
          refine vwp_skip ?_
          apply_assumption
          refine vwp_seq fun K hK => ?_
          refine vwp_block ?_
          refine vwp_seq_region rfl fun K hK => ?_
          simp (dsimp := false) only [push_cast, hP, hnt, hgw, hgb, sevalprocAttr, hi0, hw, hd, hb2]
          refine hK _ ?_; clear hK
          refine vwp_seq_region rfl fun K hK => ?_
          simp (dsimp := false) only [push_cast, hP, hnt, hgw, hgb, sevalprocAttr, hi0, hw, hd, hb2]
          refine .inl (callE_intro (cCheck_call gw gb vars (atI l i) (hl3 _ (atI_mem hi0 hbI))) (.inl ⟨rfl, rfl⟩) ?_)
          simp (dsimp := false) only [push_cast, hP, hnt, hgw, hgb, sevalprocAttr, hi0, hw, hd, hb2]
          refine hK _ ?_; clear hK
          refine vwp_seq_region rfl fun K hK => ?_
          simp (dsimp := false) only [push_cast, hP, hnt, hgw, hgb, sevalprocAttr, hi0, hw, hd, hb2]
          refine hK _ ?_; clear hK
          refine vwp_cond (b := _) (by simp (dsimp := false) only [push_cast, hP, hnt, hgw, hgb, sevalprocAttr, hi0, hw, hd, hb2]; rfl) (fun rb3 => ?_) (fun rb3 => ?_)
          · have hb3 := rb3
            try simp only [nrmB] at hb3
            have hq : q = .err (clauseF vars (atI l i)) := by rw [if_neg hb3] at hst; rw [if_neg (by rw [← hst]; exact hb3), ← hst] at hr; cases hr; rfl
            subst hq
            refine vwp_seq_region rfl fun K hK => ?_
            simp (dsimp := false) only [push_cast, hP, hnt, hgw, hgb, sevalprocAttr, hi0, hw, hd, hb2]
            refine hK _ ?_; clear hK
            refine vwp_ret ?_
            simp only [rRun, bRun]
            refine ret_conv [] [] (by simp (dsimp := false) only [push_cast, hP, hnt, hgw, hgb, sevalprocAttr, hi0, hw, hd, hb2]; rfl) (by simp) (by simp) (by first | decide | simp) ?_ ?_
            · simp only [pack]
              repeat' (first | exact ConvVs.nil | exact ConvL.nil | refine ConvV.tup ?_ | refine ConvVs.cons ?_ ?_ | (refine ConvV.self ?_; simp only [push_cast, rowC]; done) | refine ConvV.one ?_ | refine ConvV.agg ?_ | (refine ConvL.free ?_; simp only [push_cast, rowC]; done) | refine ConvL.append ?_ ?_ | refine ConvL.cons ?_ ?_ | exact Conv.free rfl | exact Conv.nil | (refine Conv.own ?_; simp; done) | (refine Conv.loc ?_; simp; done) | refine Conv.frz (by simp) (by simp (dsimp := false) only [push_cast, ↓reduceIte, Nat.reduceEqDiff, Nat.reduceAdd, reduceCtorEq, hi0, hw, hd, hb2] <;> rfl) ?_ | refine Conv.sl (by simp) ?_ | refine Conv.fn ?_)
            · exact rb_nil
          · have hb3 := rb3
            try simp only [nrmB] at hb3
            rw [if_pos hb3] at hst
            refine vwp_skip ?_
            apply_assumption
            refine vwp_region rfl ?_
            simp (dsimp := false) only [push_cast, hP, hnt, hgw, hgb, sevalprocAttr, hi0, hw, hd, hb2]
            refine hL0 _ _ _ ?_ ?_ ⟨i + 1, rfl, ?_, rfl⟩
            · omega
            · refine wk_conv [] [((3, 0), (3, 0)), ((5, 0), (5, 0))] (by simp) (by simp) (by decide) ?_ ?_
              · refine hf_cons (by simp (dsimp := false) only [push_cast, ↓reduceIte, Nat.reduceEqDiff, Nat.reduceAdd, reduceCtorEq, hi0, hw, hd, hb2] <;> rfl) (by exact ConvV.self (by simp only [push_cast, rowC])) ?_
                refine hf_cons (by simp (dsimp := false) only [push_cast, ↓reduceIte, Nat.reduceEqDiff, Nat.reduceAdd, reduceCtorEq, hi0, hw, hd, hb2] <;> rfl) (by exact .one (.loc (by simp))) ?_
                refine hf_cons (by simp (dsimp := false) only [push_cast, ↓reduceIte, Nat.reduceEqDiff, Nat.reduceAdd, reduceCtorEq, hi0, hw, hd, hb2] <;> rfl) (by exact .one (.loc (by simp))) ?_
                refine hf_cons (by simp (dsimp := false) only [push_cast, ↓reduceIte, Nat.reduceEqDiff, Nat.reduceAdd, reduceCtorEq, hi0, hw, hd, hb2] <;> rfl) (by exact ConvV.self (by simp only [push_cast, rowC])) ?_
                refine hf_cons (by simp (dsimp := false) only [push_cast, ↓reduceIte, Nat.reduceEqDiff, Nat.reduceAdd, reduceCtorEq, hi0, hw, hd, hb2] <;> rfl) (by exact ConvV.self rfl) ?_
                refine hf_cons (by simp (dsimp := false) only [push_cast, ↓reduceIte, Nat.reduceEqDiff, Nat.reduceAdd, reduceCtorEq, hi0, hw, hd, hb2] <;> rfl) (by exact ConvV.self rfl) ?_
                exact hf_nil
              · refine hh_cons (i := (3, 0)) (by simp) (by simp) (by simp (dsimp := false) only [push_cast, ↓reduceIte, Nat.reduceEqDiff, Nat.reduceAdd, reduceCtorEq, hi0, hw, hd, hb2] <;> rfl) (ConvB.free (by simp only [push_cast, rowC])) ?_
                refine hh_cons (i := (5, 0)) (by simp) (by simp) (by simp (dsimp := false) only [push_cast, ↓reduceIte, Nat.reduceEqDiff, Nat.reduceAdd, reduceCtorEq, hi0, hw, hd, hb2] <;> rfl) (ConvB.free (by simp only [push_cast, rowC])) ?_
                exact hh_nil
            · exact ⟨by omega, by omega, hst⟩
        · have hb2 := rb2
          try simp only [nrmB] at hb2
          have hck := chkL_stop hb2 hi2
          rw [if_pos hck] at hr
          obtain ⟨V, hV⟩ : ∃ V, valuesF vars trail = some V := by cases h : valuesF vars trail with | none => rw [h] at hr; cases hr | some V => exact ⟨V, rfl⟩
          rw [hV] at hr
          simp only at hr
          obtain ⟨p0, hp0⟩ : ∃ p, runG l fuel V trail = some p := by cases h : runG l fuel V trail with | none => rw [h] at hr; cases hr | some p => exact ⟨p, rfl⟩
          rw [hp0] at hr
          have hq : q = .ok p0.1 p0.2 := by cases hr; rfl
          subst hq
          obtain ⟨N, hN⟩ : ∃ N : Nat, (2 * vars + 2).toNat = N := ⟨_, rfl⟩
          have hVl : V.length = N := by rw [valG_len hV]; simp [hN]
          refine vwp_exit ?_
          simp only [thenQ, blockQ, Nat.reduceEqDiff, reduceIte]
          apply_assumption
          refine vwp_seq_anyF [[], [0], [], [2], [2, 3], [], [5], [2, 3, 4, 5, 6], [0, 1, 2, 3, 4, 5, 6, 7], [], [0, 1, 2, 3, 4, 5, 6, 7, 8, 9]] [([(40, .dead), (41, .old), (42, .dead), (43, .dead), (44, .dead), (45, .dead), (46, .dead), (47, .dead), (48, .old), (11, .dead)], [41, 42, 43, 44, 45, 46, 47, 48, 11], []), ([(40, .dep 0), (41, .dead), (42, .dead), (43, .dead), (44, .dead), (45, .dead), (46, .dead), (47, .dead), (48, .old), (11, .dead)], [42, 43, 44, 45, 46, 47, 48, 11], [0]), ([(40, .dead), (41, .dead), (42, .dead), (43, .old), (44, .old), (45, .dead), (46, .dead), (47, .old), (48, .old), (11, .dead)], [40, 41, 43, 44, 45, 46, 47, 48, 11], []), ([(40, .dead), (41, .dead), (42, .dep 0), (43, .dead), (44, .old), (45, .dead), (46, .dead), (47, .old), (48, .old), (11, .dead)], [40, 41, 44, 45, 46, 47, 48, 11], [0]), ([(40, .dead), (41, .dead), (42, .dep 1), (43, .dep 0), (44, .dead), (45, .dead), (46, .dead), (47, .old), (48, .old), (11, .dead)], [40, 41, 45, 46, 47, 48, 11], [1, 0]), ([(40, .dead), (41, .dead), (42, .dead), (43, .dead), (44, .dead), (45, .dead), (46, .old), (47, .old), (48, .old), (11, .dead)], [40, 41, 42, 43, 44, 46, 47, 48, 11], []), ([(40, .dead), (41, .dead), (42, .dead), (43, .dead), (44, .dead), (45, .dep 0), (46, .dead), (47, .old), (48, .old), (11, .dead)], [40, 41, 42, 43, 44, 47, 48, 11], [0]), ([(40, .dead), (41, .dead), (42, .dep 4), (43, .dep 3), (44, .dep 2), (45, .dep 1), (46, .dep 0), (47, .dead), (48, .old), (11, .dead)], [40, 41, 48, 11], [4, 3, 2, 1, 0]), ([(40, .dep 7), (41, .dep 6), (42, .dep 5), (43, .dep 4), (44, .dep 3), (45, .dep 2), (46, .dep 1), (47, .dep 0), (48, .dead), (11, .dead)], [11], [7, 6, 5, 4, 3, 2, 1, 0]), ([(40, .dead), (41, .dead), (42, .dead), (43, .dead), (44, .dead), (45, .dead), (46, .dead), (47, .dead), (48, .dead), (11, .dead)], [40, 41, 42, 43, 44, 45, 46, 47, 48], []), ([(40, .dep 9), (41, .dep 8), (42, .dep 7), (43, .dep 6), (44, .dep 5), (45, .dep 4), (46, .dep 3), (47, .dep 2), (48, .dep 1), (11, .dep 0)], [], [9, 8, 7, 6, 5, 4, 3, 2, 1, 0])] (by rw [hP]; exact mixed) rfl rfl rfl fun K hK => ?_
          simp (dsimp := false) only [push_cast, hP, hnt, hgw, hgb, sevalprocAttr, hi0, hN, Nat.reduceBNe, Nat.reduceBEq]
          refine .inl (callE_intro (cloneInt_call gw gb trail (by omega)) (.inl ⟨rfl, i64B_strict _ _⟩) ?_)
          simp (dsimp := false) only [push_cast, hP, hnt, hgw, hgb, sevalprocAttr, hi0, hN, Nat.reduceBNe, Nat.reduceBEq]
          refine .inl (callE_intro (cloneInt_call gw gb starts (by omega)) (.inl ⟨rfl, i64B_strict _ _⟩) ?_)
          simp (dsimp := false) only [push_cast, hP, hnt, hgw, hgb, sevalprocAttr, hi0, hN, Nat.reduceBNe, Nat.reduceBEq]
          refine ⟨rfl, ?_⟩
          refine hK _ ?_; clear hK
          refine vwp_seq_region rfl fun K hK => ?_
          simp (dsimp := false) only [push_cast, hP, hnt, hgw, hgb, sevalprocAttr, hi0, hN]
          refine .inl (callE_intro (values_call gw gb vars trail starts V hv0 hv1 (by omega) hV) (.inl ⟨rfl, u8B_strict _ _⟩) ?_)
          simp (dsimp := false) only [push_cast, hP, hnt, hgw, hgb, sevalprocAttr, hi0, hN]
          refine hK _ ?_; clear hK
          refine vwp_block ?_
          refine vwp_loop (fun m σ => ∃ (k : Nat) (xs : List Int) (tr : List Int), m = k ∧ ((runG l k xs tr = some p0) ∧ (xs.length = N) ∧ (tr.length + k ≤ 100000000)) ∧ σ = St.of [(1, .one (.sl false l.length (l.map rowC))), (4, .one (.loc (5, 0) 0)), (11, .one (.loc (12, 0) 0)), (12, .one (.own (51, 0)))] [((5, 0), .box 300 [.c (.int .i64 0), .c (.slice none 0 0), .c (.slice none 0 0)]), ((12, 0), .box 300 [.c (.int .i64 vars), .own (45, 0), .own (48, 0)]), ((45, 0), .arr 3 1 tr.length (tr.map fun n => .c (.int .i64 n))), ((48, 0), .arr 3 1 starts.length (starts.map fun n => .c (.int .i64 n))), ((51, 0), .arr 5 1 N (xs.map fun n => .c (.int .u8 n)))] [4, 11, 44, 47, 50]) _ ⟨_, ?_, fuel, V, trail, rfl, ?_, rfl⟩ ?_
          · refine wk_conv [(3, 0)] [((5, 0), (5, 0)), ((12, 0), (12, 0)), ((45, 0), (45, 0)), ((48, 0), (48, 0)), ((51, 0), (51, 0))] (by simp) (by simp) (by decide) ?_ ?_
            · refine hf_cons (by simp (dsimp := false) only [push_cast, ↓reduceIte, Nat.reduceEqDiff, Nat.reduceAdd, reduceCtorEq, hi0, hN] <;> rfl) (by exact ConvV.self (by simp only [push_cast, rowC])) ?_
              refine hf_cons (by simp (dsimp := false) only [push_cast, ↓reduceIte, Nat.reduceEqDiff, Nat.reduceAdd, reduceCtorEq, hi0, hN] <;> rfl) (by exact .one (.loc (by simp))) ?_
              refine hf_cons (by simp (dsimp := false) only [push_cast, ↓reduceIte, Nat.reduceEqDiff, Nat.reduceAdd, reduceCtorEq, hi0, hN] <;> rfl) (by exact .one (.loc (by simp))) ?_
              refine hf_cons (by simp (dsimp := false) only [push_cast, ↓reduceIte, Nat.reduceEqDiff, Nat.reduceAdd, reduceCtorEq, hi0, hN] <;> rfl) (by exact .one (.own (by simp))) ?_
              exact hf_nil
            · refine hh_cons (i := (5, 0)) (by simp) (by simp) (by simp (dsimp := false) only [push_cast, ↓reduceIte, Nat.reduceEqDiff, Nat.reduceAdd, reduceCtorEq, hi0, hN] <;> rfl) (ConvB.free (by simp only [push_cast, rowC])) ?_
              refine hh_cons (i := (12, 0)) (by simp) (by simp) (by simp (dsimp := false) only [push_cast, ↓reduceIte, Nat.reduceEqDiff, Nat.reduceAdd, reduceCtorEq, hi0, hN] <;> rfl) (by first | (refine ConvB.free ?_; simp only [push_cast, rowC]; done) | (refine ConvB.box ?_; repeat' (first | exact ConvVs.nil | exact ConvL.nil | refine ConvV.tup ?_ | refine ConvVs.cons ?_ ?_ | (refine ConvV.self ?_; simp only [push_cast, rowC]; done) | refine ConvV.one ?_ | refine ConvV.agg ?_ | (refine ConvL.free ?_; simp only [push_cast, rowC]; done) | refine ConvL.append ?_ ?_ | refine ConvL.cons ?_ ?_ | exact Conv.free rfl | exact Conv.nil | (refine Conv.own ?_; simp; done) | (refine Conv.loc ?_; simp; done) | refine Conv.frz (by simp) (by simp (dsimp := false) only [push_cast, ↓reduceIte, Nat.reduceEqDiff, Nat.reduceAdd, reduceCtorEq, hi0, hN] <;> rfl) ?_ | refine Conv.sl (by simp) ?_ | refine Conv.fn ?_))) ?_
              refine hh_cons (i := (45, 0)) (by simp) (by simp) (by simp (dsimp := false) only [push_cast, ↓reduceIte, Nat.reduceEqDiff, Nat.reduceAdd, reduceCtorEq, hi0, hN] <;> rfl) (by exact ConvB.arr (ConvL.free (i64s_free _))) ?_
              refine hh_cons (i := (48, 0)) (by simp) (by simp) (by simp (dsimp := false) only [push_cast, ↓reduceIte, Nat.reduceEqDiff, Nat.reduceAdd, reduceCtorEq, hi0, hN] <;> rfl) (ConvB.free (by simp only [push_cast, rowC])) ?_
              refine hh_cons (i := (51, 0)) (by simp) (by simp) (by simp (dsimp := false) only [push_cast, ↓reduceIte, Nat.reduceEqDiff, Nat.reduceAdd, reduceCtorEq, hi0, hN] <;> rfl) (ConvB.free (by simp only [push_cast, rowC])) ?_
              exact hh_nil
          · exact ⟨hp0, hVl, hl⟩
          · rintro m τ ⟨k, xs, tr, hm, ⟨hi2, hxl, htl⟩, rfl⟩ K hL2
            obtain ⟨k, p, rfl, hp, hst⟩ := runG_step hi2
            refine vwp_block ?_
            refine vwp_seq_region rfl fun K hK => ?_
            simp (dsimp := false) only [push_cast, hP, hnt, hgw, hgb, sevalprocAttr, hi0, hN, rowC_weak, rowC_free]
            refine .inl (callE_intro (next_call gw gb xs l p N hxl hl4 hl3 hp) (.inl ⟨rfl, rfl⟩) ?_)
            simp (dsimp := false) only [push_cast, hP, hnt, hgw, hgb, sevalprocAttr, hi0, hN, rowC_weak, rowC_free]
            refine hK _ ?_; clear hK
            refine vwp_seq fun K hK => ?_
            refine vwp_seq_regionG fun K hK => ?_
            simp (dsimp := false) only [push_cast, hP, hnt, hgw, hgb, sevalprocAttr, hi0, hN, rowC_weak, rowC_free]
            refine guardR_may (by simp (dsimp := false) only [push_cast, hP, hnt, hgw, hgb, sevalprocAttr, hi0, hN, rowC_weak, rowC_free, List.getElem?_cons_zero, List.getElem?_cons_succ]; rfl) ?_
            simp (dsimp := false) only [push_cast, hP, hnt, hgw, hgb, sevalprocAttr, hi0, hN, rowC_weak, rowC_free]
            refine guardR_may (by simp (dsimp := false) only [push_cast, hP, hnt, hgw, hgb, sevalprocAttr, hi0, hN, rowC_weak, rowC_free, List.getElem?_cons_zero, List.getElem?_cons_succ]; rfl) ?_
            simp (dsimp := false) only [push_cast, hP, hnt, hgw, hgb, sevalprocAttr, hi0, hN, rowC_weak, rowC_free]
            refine hK _ ?_; clear hK
            refine vwp_cond (b := _) (by simp (dsimp := false) only [push_cast, hP, hnt, hgw, hgb, sevalprocAttr, hi0, hN, rowC_weak, rowC_free]; rfl) (fun rb4 => ?_) (fun rb4 => ?_)
            · have hb4 := rb4
              try simp only [nrmB] at hb4
              rw [if_pos hb4] at hst
              refine vwp_seq_region rfl fun K hK => ?_
              simp (dsimp := false) only [push_cast, hP, hnt, hgw, hgb, sevalprocAttr, hi0, hN, rowC_weak, rowC_free]
              refine hK _ ?_; clear hK
              refine vwp_ret ?_
              have hpe : p0 = (p.1, tr) := by cases hst; rfl
              subst hpe
              simp only [rRun, bRun]
              refine ret_conv [] [((45, 0), (0, 0)), ((48, 0), (0, 1))] (by simp (dsimp := false) only [push_cast, hP, hnt, hgw, hgb, sevalprocAttr, hi0, hN, rowC_weak, rowC_free]; rfl) (by simp) (by simp) (by first | decide | simp) ?_ ?_
              · simp only [pack]
                repeat' (first | exact ConvVs.nil | exact ConvL.nil | refine ConvV.tup ?_ | refine ConvVs.cons ?_ ?_ | (refine ConvV.self ?_; simp only [push_cast, rowC]; done) | refine ConvV.one ?_ | refine ConvV.agg ?_ | (refine ConvL.free ?_; simp only [push_cast, rowC]; done) | refine ConvL.append ?_ ?_ | refine ConvL.cons ?_ ?_ | exact Conv.free rfl | exact Conv.nil | (refine Conv.own ?_; simp; done) | (refine Conv.loc ?_; simp; done) | refine Conv.frz (by simp) (by simp (dsimp := false) only [push_cast, ↓reduceIte, Nat.reduceEqDiff, Nat.reduceAdd, reduceCtorEq, hi0, hN, rowC_weak, rowC_free] <;> rfl) ?_ | refine Conv.sl (by simp) ?_ | refine Conv.fn ?_)
              · refine rb_cons ⟨(45, 0), _, by simp, by simp, by simp (dsimp := false) only [push_cast, ↓reduceIte, Nat.reduceEqDiff, Nat.reduceAdd, reduceCtorEq, hi0, hN, rowC_weak, rowC_free] <;> rfl, by first | (refine ConvB.free ?_; simp only [push_cast]; done) | ((first | refine ConvB.arr ?_ | refine ConvB.box ?_); repeat' (first | exact ConvVs.nil | exact ConvL.nil | refine ConvV.tup ?_ | refine ConvVs.cons ?_ ?_ | (refine ConvV.self ?_; simp only [push_cast, rowC]; done) | refine ConvV.one ?_ | refine ConvV.agg ?_ | (refine ConvL.free ?_; simp only [push_cast, rowC]; done) | refine ConvL.append ?_ ?_ | refine ConvL.cons ?_ ?_ | exact Conv.free rfl | exact Conv.nil | (refine Conv.own ?_; simp; done) | (refine Conv.loc ?_; simp; done) | refine Conv.frz (by simp) (by simp (dsimp := false) only [push_cast, ↓reduceIte, Nat.reduceEqDiff, Nat.reduceAdd, reduceCtorEq, hi0, hN, rowC_weak, rowC_free] <;> rfl) ?_ | refine Conv.sl (by simp) ?_ | refine Conv.fn ?_))⟩ ?_
                refine rb_cons ⟨(48, 0), _, by simp, by simp, by simp (dsimp := false) only [push_cast, ↓reduceIte, Nat.reduceEqDiff, Nat.reduceAdd, reduceCtorEq, hi0, hN, rowC_weak, rowC_free] <;> rfl, by first | (refine ConvB.free ?_; simp only [push_cast]; done) | ((first | refine ConvB.arr ?_ | refine ConvB.box ?_); repeat' (first | exact ConvVs.nil | exact ConvL.nil | refine ConvV.tup ?_ | refine ConvVs.cons ?_ ?_ | (refine ConvV.self ?_; simp only [push_cast, rowC]; done) | refine ConvV.one ?_ | refine ConvV.agg ?_ | (refine ConvL.free ?_; simp only [push_cast, rowC]; done) | refine ConvL.append ?_ ?_ | refine ConvL.cons ?_ ?_ | exact Conv.free rfl | exact Conv.nil | (refine Conv.own ?_; simp; done) | (refine Conv.loc ?_; simp; done) | refine Conv.frz (by simp) (by simp (dsimp := false) only [push_cast, ↓reduceIte, Nat.reduceEqDiff, Nat.reduceAdd, reduceCtorEq, hi0, hN, rowC_weak, rowC_free] <;> rfl) ?_ | refine Conv.sl (by simp) ?_ | refine Conv.fn ?_))⟩ ?_
                exact rb_nil
            · have hb4 := rb4
              try simp only [nrmB] at hb4
              rw [if_neg (by omega)] at hst
              obtain ⟨⟨⟨a0, a1⟩, c0, c1⟩, hst⟩ : ((0 ≤ p.2 ∧ p.2 < (xs.length : Int)) ∧ 0 ≤ negI p.2 ∧ negI p.2 < (xs.length : Int)) ∧ runG l k ((xs.set p.2.toNat 1).set (negI p.2).toNat 0) (tr ++ [p.2]) = some p0 := by by_cases h : (0 ≤ p.2 ∧ p.2 < (xs.length : Int)) ∧ 0 ≤ negI p.2 ∧ negI p.2 < (xs.length : Int); exact ⟨h, by rw [if_pos h] at hst; exact hst⟩; rw [if_neg h] at hst; cases hst
              have hng : bits .xor .i64 p.2 1 = negI p.2 := rfl
              rw [hxl] at a1 c1
              have hf1 : p.2.toNat * 1 + 1 ≤ (xs.map (fun n : Int => PC.c (Value.int .u8 n))).length := by rw [List.length_map]; omega
              have hs1 := splice_set (f := (fun n : Int => PC.c (Value.int .u8 n))) (xs := xs) (k := p.2.toNat) (y := 1) (by omega)
              have hf2 : (negI p.2).toNat * 1 + 1 ≤ ((xs.set p.2.toNat 1).map (fun n : Int => PC.c (Value.int .u8 n))).length := by rw [List.length_map, List.length_set]; omega
              have hs2 := splice_set (f := (fun n : Int => PC.c (Value.int .u8 n))) (xs := xs.set p.2.toNat 1) (k := (negI p.2).toNat) (y := 0) (by rw [List.length_set]; omega)
              have hz1 : (tr.length + 1) * 8 ≤ 140737488355328 := by omega
              have hz2 : tr.length + 1 ≤ 140737488355328 := by omega
              refine vwp_skip ?_
              apply_assumption
              refine vwp_seq_region rfl fun K hK => ?_
              simp (dsimp := false) only [push_cast, hP, hnt, hgw, hgb, sevalprocAttr, hi0, hN, rowC_weak, rowC_free, hng, a0, a1, c0, c1, hf1, hs1, hf2, hs2, hz1, hz2]
              refine hK _ ?_; clear hK
              refine vwp_region rfl ?_
              simp (dsimp := false) only [push_cast, hP, hnt, hgw, hgb, sevalprocAttr, hi0, hN, rowC_weak, rowC_free, hng, a0, a1, c0, c1, hf1, hs1, hf2, hs2, hz1, hz2]
              refine hL2 _ _ _ ?_ ?_ ⟨k, (xs.set p.2.toNat 1).set (negI p.2).toNat 0, tr ++ [p.2], rfl, ?_, rfl⟩
              · omega
              · refine wk_conv [] [((5, 0), (5, 0)), ((12, 0), (12, 0)), ((77, 0), (45, 0)), ((48, 0), (48, 0)), ((51, 0), (51, 0))] (by simp) (by simp) (by decide) ?_ ?_
                · refine hf_cons (by simp (dsimp := false) only [push_cast, ↓reduceIte, Nat.reduceEqDiff, Nat.reduceAdd, reduceCtorEq, hi0, hN, rowC_weak, rowC_free, hng, a0, a1, c0, c1, hf1, hs1, hf2, hs2, hz1, hz2] <;> rfl) (by exact ConvV.self (by simp only [push_cast, rowC])) ?_
                  refine hf_cons (by simp (dsimp := false) only [push_cast, ↓reduceIte, Nat.reduceEqDiff, Nat.reduceAdd, reduceCtorEq, hi0, hN, rowC_weak, rowC_free, hng, a0, a1, c0, c1, hf1, hs1, hf2, hs2, hz1, hz2] <;> rfl) (by exact .one (.loc (by simp))) ?_
                  refine hf_cons (by simp (dsimp := false) only [push_cast, ↓reduceIte, Nat.reduceEqDiff, Nat.reduceAdd, reduceCtorEq, hi0, hN, rowC_weak, rowC_free, hng, a0, a1, c0, c1, hf1, hs1, hf2, hs2, hz1, hz2] <;> rfl) (by exact .one (.loc (by simp))) ?_
                  refine hf_cons (by simp (dsimp := false) only [push_cast, ↓reduceIte, Nat.reduceEqDiff, Nat.reduceAdd, reduceCtorEq, hi0, hN, rowC_weak, rowC_free, hng, a0, a1, c0, c1, hf1, hs1, hf2, hs2, hz1, hz2] <;> rfl) (by exact .one (.own (by simp))) ?_
                  exact hf_nil
                · refine hh_cons (i := (5, 0)) (by simp) (by simp) (by simp (dsimp := false) only [push_cast, ↓reduceIte, Nat.reduceEqDiff, Nat.reduceAdd, reduceCtorEq, hi0, hN, rowC_weak, rowC_free, hng, a0, a1, c0, c1, hf1, hs1, hf2, hs2, hz1, hz2] <;> rfl) (ConvB.free (by simp only [push_cast, rowC])) ?_
                  refine hh_cons (i := (12, 0)) (by simp) (by simp) (by simp (dsimp := false) only [push_cast, ↓reduceIte, Nat.reduceEqDiff, Nat.reduceAdd, reduceCtorEq, hi0, hN, rowC_weak, rowC_free, hng, a0, a1, c0, c1, hf1, hs1, hf2, hs2, hz1, hz2] <;> rfl) (by first | (refine ConvB.free ?_; simp only [push_cast, rowC]; done) | (refine ConvB.box ?_; repeat' (first | exact ConvVs.nil | exact ConvL.nil | refine ConvV.tup ?_ | refine ConvVs.cons ?_ ?_ | (refine ConvV.self ?_; simp only [push_cast, rowC]; done) | refine ConvV.one ?_ | refine ConvV.agg ?_ | (refine ConvL.free ?_; simp only [push_cast, rowC]; done) | refine ConvL.append ?_ ?_ | refine ConvL.cons ?_ ?_ | exact Conv.free rfl | exact Conv.nil | (refine Conv.own ?_; simp; done) | (refine Conv.loc ?_; simp; done) | refine Conv.frz (by simp) (by simp (dsimp := false) only [push_cast, ↓reduceIte, Nat.reduceEqDiff, Nat.reduceAdd, reduceCtorEq, hi0, hN, rowC_weak, rowC_free, hng, a0, a1, c0, c1, hf1, hs1, hf2, hs2, hz1, hz2] <;> rfl) ?_ | refine Conv.sl (by simp) ?_ | refine Conv.fn ?_))) ?_
                  refine hh_cons (i := (77, 0)) (by simp) (by simp) (by simp (dsimp := false) only [push_cast, ↓reduceIte, Nat.reduceEqDiff, Nat.reduceAdd, reduceCtorEq, hi0, hN, rowC_weak, rowC_free, hng, a0, a1, c0, c1, hf1, hs1, hf2, hs2, hz1, hz2] <;> rfl) (by simp only [List.map_append, List.length_append]; exact ConvB.arr (ConvL.free (by rw [frees_append, i64s_free]; rfl))) ?_
                  refine hh_cons (i := (48, 0)) (by simp) (by simp) (by simp (dsimp := false) only [push_cast, ↓reduceIte, Nat.reduceEqDiff, Nat.reduceAdd, reduceCtorEq, hi0, hN, rowC_weak, rowC_free, hng, a0, a1, c0, c1, hf1, hs1, hf2, hs2, hz1, hz2] <;> rfl) (ConvB.free (by simp only [push_cast, rowC])) ?_
                  refine hh_cons (i := (51, 0)) (by simp) (by simp) (by simp (dsimp := false) only [push_cast, ↓reduceIte, Nat.reduceEqDiff, Nat.reduceAdd, reduceCtorEq, hi0, hN, rowC_weak, rowC_free, hng, a0, a1, c0, c1, hf1, hs1, hf2, hs2, hz1, hz2] <;> rfl) (ConvB.free (by simp only [push_cast, rowC])) ?_
                  exact hh_nil
              · exact ⟨hst, by rw [List.length_set, List.length_set]; exact hxl, by rw [List.length_append]; simp only [List.length_cons, List.length_nil]; omega⟩
end Go.Vm
end

section
namespace Go.Vm
open Go Go.RowKit Go.Proofs
set_option linter.unusedSimpArgs false
set_option linter.unusedVariables false

/-! ### What a call is handed, brought into one form -/
mutual
def nrm : PC → PC
  | .c (.slice none 0 0) => .sl false 0 []
  | .emp => .sl false 0 []
  | .sl t n xs => .sl t n (nrms xs)
  | p => p
def nrms : List PC → List PC
  | [] => []
  | p :: ps => nrm p :: nrms ps
end
section
variable {φ : Id → Option Value} {w : World} {F : Bool → Nat → Prop}
mutual
theorem rep_nrm : ∀ (p : PC) (x : Value), rep φ w F p x → rep φ w F (nrm p) x
  | .c v, x, h => by
    unfold nrm
    split
    · rename_i heq
      cases heq
      simp only [rep] at h ⊢
      obtain ⟨rfl, _⟩ := h
      exact ⟨none, 0, rfl, Nat.le_refl _, .inl ⟨trivial, trivial⟩⟩
    · rename_i heq; cases heq
    · rename_i heq; cases heq
    · exact h
  | .emp, x, h => by
    unfold nrm
    simp only [rep] at h ⊢
    obtain ⟨A, rfl⟩ := h
    exact ⟨A, 0, rfl, Nat.le_refl _, .inl ⟨trivial, trivial⟩⟩
  | .sl t n xs, x, h => by
    unfold nrm
    simp only [rep] at h ⊢
    obtain ⟨A, cap, hx, hn, h⟩ := h
    refine ⟨A, cap, hx, hn, ?_⟩
    rcases h with ⟨h1, h2⟩ | ⟨ad, ha, hf, h⟩
    · exact .inl ⟨h1, by rw [h2]; rfl⟩
    · exact .inr ⟨ad, ha, hf, repAt_nrm xs ad h⟩
  | .ifc, x, h => by unfold nrm; exact h
  | .any, x, h => by unfold nrm; exact h
  | .at t ys, x, h => by unfold nrm; exact h
  | .loc i o, x, h => by unfold nrm; exact h
  | .vw i o n, x, h => by unfold nrm; exact h
  | .cut i n, x, h => by unfold nrm; exact h
  | .rmp t ks ps, x, h => by unfold nrm; exact h
  | .own i, x, h => by unfold nrm; exact h
  | .fn f cs, x, h => by unfold nrm; exact h
  | .mth f cs, x, h => by unfold nrm; exact h
theorem repAt_nrm : ∀ (ps : List PC) (ad : Addr), repAt φ w F ad ps → repAt φ w F ad (nrms ps)
  | [], ad, h => by unfold nrms; exact h
  | p :: ps, ad, h => by
    unfold nrms
    simp only [repAt] at h ⊢
    obtain ⟨⟨v, hv, hr⟩, h⟩ := h
    exact ⟨⟨v, hv, rep_nrm p v hr⟩, repAt_nrm ps (ad.add 1) h⟩
end
theorem reps_nrm : ∀ (ps : List PC) (vs : List Value), reps φ w F ps vs → reps φ w F (nrms ps) vs
  | [], vs, h => by unfold nrms; exact h
  | p :: ps, vs, h => by
    unfold nrms
    simp only [reps] at h ⊢
    obtain ⟨v, vs', he, hr, h⟩ := h
    exact ⟨v, vs', he, rep_nrm p v hr, reps_nrm ps vs' h⟩
def nrmV : PV → PV
  | .one p => .one (nrm p)
  | .agg ps => .agg (nrms ps)
  | p => p
def nrmVs : List PV → List PV
  | [] => []
  | p :: ps => nrmV p :: nrmVs ps
theorem repVs_nrm : ∀ (ps : List PV) (vs : List Value), repVs φ w F ps vs → repVs φ w F (nrmVs ps) vs
  | [], vs, h => by unfold nrmVs; exact h
  | p :: ps, vs, h => by
    unfold nrmVs
    simp only [repVs] at h ⊢
    obtain ⟨v, vs', he, hr, h⟩ := h
    refine ⟨v, vs', he, ?_, repVs_nrm ps vs' h⟩
    cases p with
    | one p => simp only [nrmV, repV] at hr ⊢; exact rep_nrm p v hr
    | agg ps =>
      simp only [nrmV, repV] at hr ⊢
      obtain ⟨us, hu, hr⟩ := hr
      exact ⟨us, hu, reps_nrm ps _ hr⟩
    | tup vs => exact hr
    | may b p => exact hr
    | full p => exact hr
end
theorem VCall.nrm {P : Program} {gw : World} {gb : Nat} {f : FuncId} {args : List PV} {r : PV} {B : List Blk} (h : VCall P gw gb f (nrmVs args) r B) : VCall P gw gb f args r B :=
  ⟨h.callable, fun w xs F h1 h2 h3 h4 => h.run w xs F h1 h2 h3 (repVs_nrm _ _ h4)⟩

/-! ### Read as lists of integers -/
def intsOf : List PC → Option (List Int)
  | [] => some []
  | .c (.int .i64 n) :: ps =>
    match intsOf ps with
    | some l => some (n :: l)
    | none => none
  | _ => none
theorem intsOf_ok : ∀ {xs : List PC} {l : List Int}, intsOf xs = some l → xs = l.map fun n => .c (.int .i64 n)
  | [], l, h => by cases h; rfl
  | p :: ps, l, h => by
    unfold intsOf at h
    split at h
    · rename_i heq; cases heq
    · rename_i n qs heq
      cases heq
      split at h
      · rename_i l' hl; cases h; rw [intsOf_ok hl]; rfl
      · cases h
    · cases h
def rowOf : PC → Option (List Int)
  | .sl false n xs =>
    match intsOf xs with
    | some l => if Nat.beq n l.length = true then some l else none
    | none => none
  | _ => none
theorem rowOf_ok {p : PC} {l : List Int} (h : rowOf p = some l) : p = rowC l := by
  unfold rowOf at h
  split at h
  · split at h
    · rename_i l' hl
      split at h
      · rename_i hn
        cases h
        rw [Nat.eq_of_beq_eq_true hn, intsOf_ok hl]; rfl
      · cases h
    · cases h
  · cases h
def rowsOf : List PC → Option (List (List Int))
  | [] => some []
  | p :: ps =>
    match rowOf p, rowsOf ps with
    | some l, some L => some (l :: L)
    | _, _ => none
theorem rowsOf_ok : ∀ {xs : List PC} {L : List (List Int)}, rowsOf xs = some L → xs = L.map rowC
  | [], L, h => by cases h; rfl
  | p :: ps, L, h => by
    unfold rowsOf at h
    split at h
    · rename_i l L' hl hL; cases h; rw [rowOf_ok hl, rowsOf_ok hL]; rfl
    · cases h
def shortB (n : Nat) : List (List Int) → Bool
  | [] => true
  | c :: r => Nat.ble c.length n && shortB n r
theorem shortB_ok {n : Nat} : ∀ {L : List (List Int)}, shortB n L = true → ∀ c ∈ L, c.length ≤ n
  | [], _, c, h => by cases h
  | a :: L, h, c, hc => by
    simp only [shortB, Bool.and_eq_true] at h
    rcases List.mem_cons.1 hc with rfl | hc
    · exact Nat.le_of_ble_eq_true h.1
    · exact shortB_ok h.2 c hc
def isI64 : PC → Option Int
  | .c (.int .i64 n) => some n
  | _ => none
theorem isI64_ok {p : PC} {n : Int} (h : isI64 p = some n) : p = .c (.int .i64 n) := by
  unfold isI64 at h
  split at h
  · cases h; rfl
  · cases h
structure Asg where
  vars : Int
  trail : List Int
  starts : List Int
def asgOf : List PC → Option Asg
  | [v, t, s] =>
    match isI64 v, rowOf t, rowOf s with
    | some v, some t, some s => some ⟨v, t, s⟩
    | _, _, _ => none
  | _ => none
def Asg.pcs (a : Asg) : List PC := [.c (.int .i64 a.vars), rowC a.trail, rowC a.starts]
theorem asgOf_ok {xs : List PC} {a : Asg} (h : asgOf xs = some a) : xs = a.pcs := by
  unfold asgOf at h
  split at h
  · split at h
    · rename_i h1 h2 h3; cases h; rw [isI64_ok h1, rowOf_ok h2, rowOf_ok h3]; rfl
    · cases h
  · cases h
def Asg.short (a : Asg) : Bool := Nat.ble a.trail.length 1000000 && Nat.ble a.starts.length 1000000

def tabClause : List PV → Option (PV × List Blk)
  | [.one v, .one c] =>
    match isI64 v, rowOf c with
    | some v, some c => if Nat.ble c.length 1000000 = true then some (.one (.c (.int .i64 (clauseF v c))), []) else none
    | _, _ => none
  | _ => none
def tabAssign : List PV → Option (PV × List Blk)
  | [.agg a] =>
    match asgOf a with
    | some a =>
      if a.short = true then
        match assignF a.vars a.trail a.starts with
        | some R => some (.one (.c (.int .i64 R)), [])
        | none => none
      else none
    | none => none
  | _ => none
def tabRun : List PV → Option (PV × List Blk)
  | [.agg a, .one (.sl false n cs)] =>
    match asgOf a, rowsOf cs with
    | some a, some L =>
      if (a.short && (Nat.beq n L.length && (Nat.ble n 1000000 && shortB 1000000 L))) = true then
        match runF 5000 a.vars a.trail a.starts L with
        | some q => some (rRun a.vars q, bRun a.starts q)
        | none => none
      else none
    | _, _ => none
  | _ => none
def solveTab : Cx := fun f args =>
  if Nat.beq f 233 = true then tabClause (nrmVs args)
  else if Nat.beq f 211 = true then tabRun (nrmVs args)
  else if Nat.beq f 253 = true then tabAssign (nrmVs args)
  else none
theorem solveTab_ok (gw : World) (gb : Nat) : TabOk Tryz.prog gw gb solveTab := by
  intro f args r B h
  unfold solveTab at h
  split at h
  · rename_i hf
    rw [Nat.eq_of_beq_eq_true hf]
    refine VCall.nrm ?_
    revert h
    generalize nrmVs args = xs
    intro h
    unfold tabClause at h
    split at h
    · split at h
      · rename_i h1 h2
        split at h
        · rename_i hl
          cases h
          rw [isI64_ok h1, rowOf_ok h2]
          exact cCheck_call gw gb _ _ (by have := Nat.le_of_ble_eq_true hl; omega)
        · cases h
      · cases h
    · cases h
  · split at h
    · rename_i hf
      rw [Nat.eq_of_beq_eq_true hf]
      refine VCall.nrm ?_
      revert h
      generalize nrmVs args = xs
      intro h
      unfold tabRun at h
      split at h
      · split at h
        · rename_i h1 h2
          split at h
          · rename_i hc
            simp only [Asg.short, Bool.and_eq_true] at hc
            obtain ⟨⟨c1, c2⟩, c3, c4, c5⟩ := hc
            split at h
            · rename_i q hq
              cases h
              rw [asgOf_ok h1, rowsOf_ok h2, Nat.eq_of_beq_eq_true c3]
              have c1 := Nat.le_of_ble_eq_true c1
              have c2 := Nat.le_of_ble_eq_true c2
              have c4 := Nat.le_of_ble_eq_true c4
              have c3 := Nat.eq_of_beq_eq_true c3
              exact run_call gw gb 5000 _ _ _ _ q (by omega) (by omega) (fun c hc => by have := shortB_ok c5 c hc; omega) (by omega) hq
            · cases h
          · cases h
        · cases h
      · cases h
    · split at h
      · rename_i hf
        rw [Nat.eq_of_beq_eq_true hf]
        refine VCall.nrm ?_
        revert h
        generalize nrmVs args = xs
        intro h
        unfold tabAssign at h
        split at h
        · split at h
          · rename_i h1
            split at h
            · rename_i hc
              simp only [Asg.short, Bool.and_eq_true] at hc
              split at h
              · rename_i R hR
                cases h
                rw [asgOf_ok h1]
                have c1 := Nat.le_of_ble_eq_true hc.1
                have c2 := Nat.le_of_ble_eq_true hc.2
                exact aCheck_call gw gb _ _ _ _ (by omega) (by omega) hR
              · cases h
            · cases h
          · cases h
        · cases h
      · cases h
end Go.Vm
end
