/-
  Contracts of the library, and a run that is computed (PtAR). Conditions: each theorem's own premises. By an AI agent.
-/
import Derived.Test.YtcdbbiognijleaaGreatPtAQ
namespace Go.Vm
open Go Go.RowKit Go.Proofs
set_option maxRecDepth 100000
set_option linter.unusedSimpArgs false
set_option linter.unusedVariables false
set_option maxHeartbeats 4000000

theorem splice_setG {α : Type} {f : α → PC} {xs : List α} {k : Nat} {y : α} (h : k < xs.length) : splice (xs.map f) (k * 1) [f y] = (xs.set k y).map f := by
  rw [Nat.mul_one]
  unfold splice
  apply List.ext_getElem?
  intro j
  rw [List.getElem?_map, List.getElem?_set, List.getElem?_append, List.getElem?_append]
  simp only [List.length_append, List.length_take, List.length_map, List.length_cons, List.length_nil, Nat.zero_add, List.getElem?_take, List.getElem?_drop, List.getElem?_map]
  rw [Nat.min_eq_left (by omega)]
  by_cases h1 : j < k
  · rw [if_pos (by omega), if_pos h1, if_pos h1, if_neg (by omega)]
  · by_cases h2 : j = k
    · subst h2
      rw [if_pos (by omega), if_neg (by omega), if_pos rfl, if_pos h]
      simp
    · rw [if_neg (by omega), if_neg (by omega), show k + 1 + (j - (k + 1)) = j by omega]
theorem two_ne : ((2 : Int) = 0) = False := by simp
def halfI (l : Int) : Int := IntKind.wrap .i64 (l.tdiv 2)
def asG (vars : Int) : List Bool → List Int → Option Bool
  | _, [] => some true
  | has, l :: r =>
    if knownF vars l = true then
      if 0 ≤ halfI l ∧ halfI l < (has.length : Int) then
        if atI has (halfI l) = true then some false else asG vars (has.set (halfI l).toNat true) r
      else none
    else some false
def leO (s : Int) : Option Int → Bool
  | some q => decide (s ≤ q)
  | none => false
def stG (n : Nat) : Option Int → List Int → Bool
  | _, [] => true
  | p, s :: r => if (s < 0 ∨ (n : Int) ≤ s) ∨ leO s p = true then false else stG n (some s) r
def assignF (vars : Int) (trail starts : List Int) : Option Int :=
  if vars < 0 ∨ 4000 < vars then some 8
  else match asG vars (List.replicate (vars + 1).toNat false) trail with
    | some true => if stG trail.length none starts = true then some 0 else some 8
    | some false => some 8
    | none => none
section
variable {n : Nat} {vars i : Int} {has : List Bool} {l : List Int} {R : Bool}
theorem asG_step (h0 : 0 ≤ i) (h1 : i < (l.length : Int)) (h : asG vars has (l.drop i.toNat) = some R) (hk : knownF vars (atI l i) = true) : (0 ≤ halfI (atI l i) ∧ halfI (atI l i) < (has.length : Int)) ∧ (if atI has (halfI (atI l i)) = true then some false else asG vars (has.set (halfI (atI l i)).toNat true) (l.drop (i + 1).toNat)) = some R := by
  rw [drop_atI h0 h1] at h
  unfold asG at h
  rw [if_pos hk] at h
  split at h
  · rename_i hc
    refine ⟨hc, ?_⟩
    rwa [show (i + 1).toNat = i.toNat + 1 by omega]
  · cases h
theorem asG_no (h0 : 0 ≤ i) (h1 : i < (l.length : Int)) (h : asG vars has (l.drop i.toNat) = some R) (hk : knownF vars (atI l i) = false) : R = false := by
  rw [drop_atI h0 h1] at h
  unfold asG at h
  rw [hk] at h
  simpa using h.symm
theorem asG_stop (h1 : ¬ i < (l.length : Int)) (h : asG vars has (l.drop i.toNat) = some R) : R = true := by
  rw [List.drop_eq_nil_of_le (by omega)] at h
  cases h; rfl
theorem stG_next {r : Bool} (h0 : 0 ≤ i) (h1 : i < (l.length : Int)) (h : stG n (prevI l i) (l.drop i.toNat) = r) (h2 : ¬ (atI l i < 0 ∨ (n : Int) ≤ atI l i)) (h3 : i = 0 ∨ ¬ atI l i ≤ atI l (i - 1)) : stG n (prevI l (i + 1)) (l.drop (i + 1).toNat) = r := by
  rw [drop_atI h0 h1] at h
  unfold stG at h
  have e : prevI l (i + 1) = some (atI l i) := by unfold prevI; rw [if_neg (by omega)]; congr 2; omega
  rw [e, show (i + 1).toNat = i.toNat + 1 by omega]
  rw [if_neg] at h
  · exact h
  · rintro (h4 | h4)
    · exact h2 h4
    · unfold prevI at h4
      rcases h3 with h3 | h3
      · rw [if_pos h3] at h4; cases h4
      · split at h4
        · cases h4
        · exact h3 (by simpa [leO] using h4)
theorem stG_stop {r : Bool} (h0 : 0 ≤ i) (h1 : i < (l.length : Int)) (h : stG n (prevI l i) (l.drop i.toNat) = r) (h2 : (atI l i < 0 ∨ (n : Int) ≤ atI l i) ∨ (0 < i ∧ atI l i ≤ atI l (i - 1))) : r = false := by
  rw [drop_atI h0 h1] at h
  unfold stG at h
  rw [if_pos] at h
  · exact h.symm
  · refine h2.imp id fun h3 => ?_
    unfold prevI
    rw [if_neg (by omega)]
    simp [leO, h3.2]
theorem stG_end {r : Bool} (h1 : ¬ i < (l.length : Int)) (h : stG n (prevI l i) (l.drop i.toNat) = r) : r = true := by
  rw [List.drop_eq_nil_of_le (by omega)] at h
  exact h.symm
end
theorem aknown_call (gw : World) (gb : Nat) (v l : Int) : VCall Tryz.prog gw (gb) 292 [.one (.c (.int .i64 v)), .one (.c (.int .i64 l))] (.one (.c (.bool (knownF v l)))) [] := by
  refine vcall_of [.tmp 4] Tryz.func292 rfl rfl Tryz.ntmps292 rfl (by simp) ?_
  intro C hP hnt hgw hgb hfull
  refine vwp_seq_region rfl fun K hK => ?_
  simp (dsimp := false) only [push_cast, hP, hnt, hgw, hgb, sevalprocAttr]
  refine hK _ ?_; clear hK
  refine vwp_seq_regionG fun K hK => ?_
  simp (dsimp := false) only [push_cast, hP, hnt, hgw, hgb, sevalprocAttr]
  refine guardR_may (by simp (dsimp := false) only [push_cast, hP, hnt, hgw, hgb, sevalprocAttr, List.getElem?_cons_zero, List.getElem?_cons_succ]; rfl) ?_
  simp (dsimp := false) only [push_cast, hP, hnt, hgw, hgb, sevalprocAttr]
  refine guardR_may (by simp (dsimp := false) only [push_cast, hP, hnt, hgw, hgb, sevalprocAttr, List.getElem?_cons_zero, List.getElem?_cons_succ]; rfl) ?_
  simp (dsimp := false) only [push_cast, hP, hnt, hgw, hgb, sevalprocAttr]
  refine guardR_may (by simp (dsimp := false) only [push_cast, hP, hnt, hgw, hgb, sevalprocAttr, List.getElem?_cons_zero, List.getElem?_cons_succ]; rfl) ?_
  simp (dsimp := false) only [push_cast, hP, hnt, hgw, hgb, sevalprocAttr]
  refine guardR_may (by simp (dsimp := false) only [push_cast, hP, hnt, hgw, hgb, sevalprocAttr, List.getElem?_cons_zero, List.getElem?_cons_succ]; rfl) ?_
  simp (dsimp := false) only [push_cast, hP, hnt, hgw, hgb, sevalprocAttr]
  refine hK _ ?_; clear hK
  refine vwp_ret ?_
  refine ret_free (by simp (dsimp := false) only [push_cast, hP, hnt, hgw, hgb, sevalprocAttr]; rfl) (by simp (dsimp := false) only [push_cast, hP, hnt, hgw, hgb, sevalprocAttr]) ?_
  first | (simp only [pack, knownF, if_true, if_false, Bool.false_eq_true, reduceIte]; done) | (simp only [pack, knownF, if_true, if_false, ne_eq, not_true_eq_false, not_false_eq_true, true_or, or_true, or_self, ite_self, Bool.true_eq_false, Bool.false_eq_true, or_false, false_or]; done) | (subst_vars; simp only [pack, knownF, *, if_true, if_false, ne_eq, not_true_eq_false, not_false_eq_true, true_or, or_true, or_self, ite_self, Bool.true_eq_false, Bool.false_eq_true, or_false, false_or]; done) | (simp [pack, knownF] <;> omega)
theorem aCheck_call (gw : World) (gb : Nat) (vars : Int) (trail starts : List Int) (R : Int) (hl : trail.length ≤ 100000000) (hl2 : starts.length ≤ 100000000) (hr : assignF vars trail starts = some R) : VCall Tryz.prog gw (gb) 253 [.agg [.c (.int .i64 vars), .sl false trail.length (trail.map fun n => .c (.int .i64 n)), .sl false starts.length (starts.map fun n => .c (.int .i64 n))]] (.one (.c (.int .i64 R))) [] := by
  refine vcall_of [.tmp 2] Tryz.func253 rfl rfl Tryz.ntmps253 rfl (by simp) ?_
  intro C hP hnt hgw hgb hfull
  refine vwp_seq_region rfl fun K hK => ?_
  simp (dsimp := false) only [push_cast, hP, hnt, hgw, hgb, sevalprocAttr]
  refine hK _ ?_; clear hK
  refine vwp_seq fun K hK => ?_
  refine vwp_seq_regionG fun K hK => ?_
  simp (dsimp := false) only [push_cast, hP, hnt, hgw, hgb, sevalprocAttr]
  refine guardR_may (by simp (dsimp := false) only [push_cast, hP, hnt, hgw, hgb, sevalprocAttr, List.getElem?_cons_zero, List.getElem?_cons_succ]; rfl) ?_
  simp (dsimp := false) only [push_cast, hP, hnt, hgw, hgb, sevalprocAttr]
  refine guardR_may (by simp (dsimp := false) only [push_cast, hP, hnt, hgw, hgb, sevalprocAttr, List.getElem?_cons_zero, List.getElem?_cons_succ]; rfl) ?_
  simp (dsimp := false) only [push_cast, hP, hnt, hgw, hgb, sevalprocAttr]
  refine guardR_may (by simp (dsimp := false) only [push_cast, hP, hnt, hgw, hgb, sevalprocAttr, List.getElem?_cons_zero, List.getElem?_cons_succ]; rfl) ?_
  simp (dsimp := false) only [push_cast, hP, hnt, hgw, hgb, sevalprocAttr]
  refine hK _ ?_; clear hK
  refine vwp_cond (b := _) (by simp (dsimp := false) only [push_cast, hP, hnt, hgw, hgb, sevalprocAttr]; rfl) (fun rb0 => ?_) (fun rb0 => ?_)
  · have hb0 := rb0
    try simp only [nrmB] at hb0
    have hR : R = 8 := by unfold assignF at hr; rw [if_pos (by omega)] at hr; cases hr; rfl
    refine vwp_seq_region rfl fun K hK => ?_
    simp (dsimp := false) only [push_cast, hP, hnt, hgw, hgb, sevalprocAttr, hR]
    refine hK _ ?_; clear hK
    refine vwp_ret ?_
    refine ret_free (by simp (dsimp := false) only [push_cast, hP, hnt, hgw, hgb, sevalprocAttr, hR]; rfl) (by simp (dsimp := false) only [push_cast, hP, hnt, hgw, hgb, sevalprocAttr, hR]) ?_
    simp only [pack, hR]
  · have hb0 := rb0
    try simp only [nrmB] at hb0
    obtain ⟨N, hN⟩ : ∃ N : Nat, vars + 1 = (N : Int) := ⟨(vars + 1).toNat, by omega⟩
    have hw2 : IntKind.wrap .i64 (N : Int) = (N : Int) := by rw [IntKind.wrap_i64]; omega
    have hm1 : 1 * (N : Int) ≤ 140737488355328 := by omega
    have hm2 : (N : Int) ≤ 140737488355328 := by omega
    have hm3 : (0 : Int) ≤ (N : Int) := by omega
    have hm4 : ((N : Int) ≤ (N : Int)) = True := by simp
    have hz : rowZ [PC.c (Value.bool false)] N = (List.replicate N false).map fun b => PC.c (Value.bool b) := by rw [rowZ_one, List.map_replicate]
    have hr2 : (match asG vars (List.replicate N false) trail with | some true => if stG trail.length none starts = true then some 0 else some 8 | some false => some 8 | none => none) = some R := by unfold assignF at hr; rw [if_neg (by omega), hN, Int.toNat_natCast] at hr; exact hr
    obtain ⟨A, hA⟩ : ∃ A, asG vars (List.replicate N false) trail = some A := by cases hq : asG vars (List.replicate N false) trail with | none => rw [hq] at hr2; cases hr2 | some A => exact ⟨A, rfl⟩
    rw [hA] at hr2
    refine vwp_skip ?_
    apply_assumption
    refine vwp_seq_region rfl fun K hK => ?_
    simp (dsimp := false) only [push_cast, hP, hnt, hgw, hgb, sevalprocAttr, Int.toNat_natCast, hN, hw2, hm1, hm2, hm3, hm4]
    refine hK _ ?_; clear hK
    refine vwp_seq fun K hK => ?_
    refine vwp_seq_region rfl fun K hK => ?_
    simp (dsimp := false) only [push_cast, hP, hnt, hgw, hgb, sevalprocAttr, Int.toNat_natCast, hN, hw2, hm1, hm2, hm3, hm4]
    refine hK _ ?_; clear hK
    refine vwp_block ?_
    refine vwp_loop (fun m σ => ∃ (i : Int) (has : List Bool), m = (trail.length - i).toNat ∧ ((0 ≤ i) ∧ (i ≤ trail.length) ∧ (asG vars has (trail.drop i.toNat) = some A) ∧ (has.length = N)) ∧ σ = St.of [(1, .one (.loc (2, 0) 0)), (3, .one (.own (20, 0))), (21, .one (.sl false trail.length (trail.map fun n => .c (.int .i64 n)))), (22, .one (.c (.int .i64 trail.length))), (23, .one (.c (.int .i64 i)))] [((2, 0), .box 300 [.c (.int .i64 vars), .sl false trail.length (trail.map fun n => .c (.int .i64 n)), .sl false starts.length (starts.map fun n => .c (.int .i64 n))]), ((20, 0), .arr 4 1 N (has.map fun b => .c (.bool b)))] [1, 19]) _ ⟨_, ?_, 0, List.replicate N false, rfl, ?_, rfl⟩ ?_
    · refine wk_conv [] [((2, 0), (2, 0)), ((20, 0), (20, 0))] (by simp) (by simp) (by decide) ?_ ?_
      · refine hf_cons (by simp (dsimp := false) only [push_cast, ↓reduceIte, Nat.reduceEqDiff, Nat.reduceAdd, reduceCtorEq, Int.toNat_natCast, hN, hw2, hm1, hm2, hm3, hm4, hz] <;> rfl) (by exact .one (.loc (by simp))) ?_
        refine hf_cons (by simp (dsimp := false) only [push_cast, ↓reduceIte, Nat.reduceEqDiff, Nat.reduceAdd, reduceCtorEq, Int.toNat_natCast, hN, hw2, hm1, hm2, hm3, hm4, hz] <;> rfl) (by exact .one (.own (by simp))) ?_
        refine hf_cons (by simp (dsimp := false) only [push_cast, ↓reduceIte, Nat.reduceEqDiff, Nat.reduceAdd, reduceCtorEq, Int.toNat_natCast, hN, hw2, hm1, hm2, hm3, hm4, hz] <;> rfl) (by exact ConvV.self (by simp only [push_cast])) ?_
        refine hf_cons (by simp (dsimp := false) only [push_cast, ↓reduceIte, Nat.reduceEqDiff, Nat.reduceAdd, reduceCtorEq, Int.toNat_natCast, hN, hw2, hm1, hm2, hm3, hm4, hz] <;> rfl) (by exact ConvV.self rfl) ?_
        refine hf_cons (by simp (dsimp := false) only [push_cast, ↓reduceIte, Nat.reduceEqDiff, Nat.reduceAdd, reduceCtorEq, Int.toNat_natCast, hN, hw2, hm1, hm2, hm3, hm4, hz] <;> rfl) (by exact ConvV.self rfl) ?_
        exact hf_nil
      · refine hh_cons (i := (2, 0)) (by simp) (by simp) (by simp (dsimp := false) only [push_cast, ↓reduceIte, Nat.reduceEqDiff, Nat.reduceAdd, reduceCtorEq, Int.toNat_natCast, hN, hw2, hm1, hm2, hm3, hm4, hz] <;> rfl) (ConvB.free (by simp only [push_cast])) ?_
        refine hh_cons (i := (20, 0)) (by simp) (by simp) (by simp (dsimp := false) only [push_cast, ↓reduceIte, Nat.reduceEqDiff, Nat.reduceAdd, reduceCtorEq, Int.toNat_natCast, hN, hw2, hm1, hm2, hm3, hm4, hz] <;> rfl) (ConvB.free (by simp only [push_cast])) ?_
        exact hh_nil
    · exact ⟨by omega, by omega, hA, by simp⟩
    · rintro m τ ⟨i, has, hm, ⟨hi0, hi1, hi2, hxl⟩, rfl⟩ K hL0
      have hw := fun h : i < (trail.length : Int) => wrap_next hi0 h (by omega)
      have hd := fun h : i < (trail.length : Int) => dropI_map (fun n => PC.c (Value.int .i64 n)) hi0 h
      refine vwp_seq_region rfl fun K hK => ?_
      simp (dsimp := false) only [push_cast, hP, hnt, hgw, hgb, sevalprocAttr, Int.toNat_natCast, hN, hw2, hm1, hm2, hm3, hm4, hi0, two_ne]
      refine hK _ ?_; clear hK
      refine vwp_seq fun K hK => ?_
      refine vwp_cond (b := _) (by simp (dsimp := false) only [push_cast, hP, hnt, hgw, hgb, sevalprocAttr, Int.toNat_natCast, hN, hw2, hm1, hm2, hm3, hm4, hi0, two_ne]; rfl) (fun rb1 => ?_) (fun rb1 => ?_)
      · have hb1 := rb1
        try simp only [nrmB] at hb1
        have hw := hw hb1
        have hd := hd hb1
        refine vwp_skip ?_
        apply_assumption
        refine vwp_seq fun K hK => ?_
        refine vwp_block ?_
        refine vwp_seq_region rfl fun K hK => ?_
        simp (dsimp := false) only [push_cast, hP, hnt, hgw, hgb, sevalprocAttr, Int.toNat_natCast, hN, hw2, hm1, hm2, hm3, hm4, hi0, two_ne, hw, hd, hb1]
        refine hK _ ?_; clear hK
        refine vwp_seq fun K hK => ?_
        rcases hk : knownF vars (atI trail i) with _ | _
        · skip
          refine vwp_seq_regionG fun K hK => ?_
          simp (dsimp := false) only [push_cast, hP, hnt, hgw, hgb, sevalprocAttr, Int.toNat_natCast, hN, hw2, hm1, hm2, hm3, hm4, hi0, two_ne, hw, hd, hb1, hk]
          refine .inl (callE_intro (aknown_call gw gb _ _) (.inl ⟨rfl, rfl⟩) ?_)
          simp (dsimp := false) only [push_cast, hP, hnt, hgw, hgb, sevalprocAttr, Int.toNat_natCast, hN, hw2, hm1, hm2, hm3, hm4, hi0, two_ne, hw, hd, hb1, hk]
          iterate 5 (refine guardR_skip (by simp (dsimp := false) only [push_cast, hP, hnt, hgw, hgb, sevalprocAttr, Int.toNat_natCast, hN, hw2, hm1, hm2, hm3, hm4, hi0, two_ne, hw, hd, hb1, hk, List.getElem?_cons_zero, List.getElem?_cons_succ] <;> rfl) (by simp) ⟨by first | trivial | (simp (dsimp := false) only [push_cast, hP, hnt, hgw, hgb, sevalprocAttr, Int.toNat_natCast, hN, hw2, hm1, hm2, hm3, hm4, hi0, two_ne, hw, hd, hb1, hk]; done), ?_⟩; simp (dsimp := false) only [push_cast, hP, hnt, hgw, hgb, sevalprocAttr, Int.toNat_natCast, hN, hw2, hm1, hm2, hm3, hm4, hi0, two_ne, hw, hd, hb1, hk])
          refine hK _ ?_; clear hK
          refine vwp_cond (b := true) (by simp (dsimp := false) only [push_cast, hP, hnt, hgw, hgb, sevalprocAttr, Int.toNat_natCast, hN, hw2, hm1, hm2, hm3, hm4, hi0, two_ne, hw, hd, hb1, hk] <;> rfl) (fun hx => ?_) (fun hx => by cases hx)
          refine vwp_seq_region rfl fun K hK => ?_
          simp (dsimp := false) only [push_cast, hP, hnt, hgw, hgb, sevalprocAttr, Int.toNat_natCast, hN, hw2, hm1, hm2, hm3, hm4, hi0, two_ne, hw, hd, hb1, hk]
          refine hK _ ?_; clear hK
          refine vwp_ret ?_
          refine ret_free (by simp (dsimp := false) only [push_cast, hP, hnt, hgw, hgb, sevalprocAttr, Int.toNat_natCast, hN, hw2, hm1, hm2, hm3, hm4, hi0, two_ne, hw, hd, hb1, hk]; rfl) (by simp (dsimp := false) only [push_cast, hP, hnt, hgw, hgb, sevalprocAttr, Int.toNat_natCast, hN, hw2, hm1, hm2, hm3, hm4, hi0, two_ne, hw, hd, hb1, hk]) ?_
          simp only [pack]; rw [asG_no hi0 hb1 hi2 hk] at hr2; cases hr2; rfl
        · obtain ⟨⟨a0, a1⟩, hst⟩ := asG_step hi0 hb1 hi2 hk
          have hhf : IntKind.wrap .i64 ((atI trail i).tdiv 2) = halfI (atI trail i) := rfl
          have a2 : halfI (atI trail i) < (N : Int) := by omega
          have hdh := dropI_map (fun b : Bool => PC.c (Value.bool b)) a0 a1
          have hf1 : (halfI (atI trail i)).toNat * 1 + 1 ≤ (has.map (fun b : Bool => PC.c (Value.bool b))).length := by rw [List.length_map]; omega
          have hs1 := splice_setG (f := (fun b : Bool => PC.c (Value.bool b))) (xs := has) (k := (halfI (atI trail i)).toNat) (y := true) (by omega)
          refine vwp_seq_regionG fun K hK => ?_
          simp (dsimp := false) only [push_cast, hP, hnt, hgw, hgb, sevalprocAttr, Int.toNat_natCast, hN, hw2, hm1, hm2, hm3, hm4, hi0, two_ne, hw, hd, hb1, hk, hhf, a0, a1, a2, hdh, hf1, hs1]
          refine .inl (callE_intro (aknown_call gw gb _ _) (.inl ⟨rfl, rfl⟩) ?_)
          simp (dsimp := false) only [push_cast, hP, hnt, hgw, hgb, sevalprocAttr, Int.toNat_natCast, hN, hw2, hm1, hm2, hm3, hm4, hi0, two_ne, hw, hd, hb1, hk, hhf, a0, a1, a2, hdh, hf1, hs1]
          iterate 5 (refine guardR_run (by simp (dsimp := false) only [push_cast, hP, hnt, hgw, hgb, sevalprocAttr, Int.toNat_natCast, hN, hw2, hm1, hm2, hm3, hm4, hi0, two_ne, hw, hd, hb1, hk, hhf, a0, a1, a2, hdh, hf1, hs1, List.getElem?_cons_zero, List.getElem?_cons_succ] <;> rfl) ?_; simp (dsimp := false) only [push_cast, hP, hnt, hgw, hgb, sevalprocAttr, Int.toNat_natCast, hN, hw2, hm1, hm2, hm3, hm4, hi0, two_ne, hw, hd, hb1, hk, hhf, a0, a1, a2, hdh, hf1, hs1])
          refine hK _ ?_; clear hK
          refine vwp_cond (b := _) (by simp (dsimp := false) only [push_cast, hP, hnt, hgw, hgb, sevalprocAttr, Int.toNat_natCast, hN, hw2, hm1, hm2, hm3, hm4, hi0, two_ne, hw, hd, hb1, hk, hhf, a0, a1, a2, hdh, hf1, hs1]; rfl) (fun rb2 => ?_) (fun rb2 => ?_)
          · have hb2 := rb2
            try simp only [nrmB] at hb2
            refine vwp_seq_region rfl fun K hK => ?_
            simp (dsimp := false) only [push_cast, hP, hnt, hgw, hgb, sevalprocAttr, Int.toNat_natCast, hN, hw2, hm1, hm2, hm3, hm4, hi0, two_ne, hw, hd, hb1, hk, hhf, a0, a1, a2, hdh, hf1, hs1]
            refine hK _ ?_; clear hK
            refine vwp_ret ?_
            refine ret_free (by simp (dsimp := false) only [push_cast, hP, hnt, hgw, hgb, sevalprocAttr, Int.toNat_natCast, hN, hw2, hm1, hm2, hm3, hm4, hi0, two_ne, hw, hd, hb1, hk, hhf, a0, a1, a2, hdh, hf1, hs1]; rfl) (by simp (dsimp := false) only [push_cast, hP, hnt, hgw, hgb, sevalprocAttr, Int.toNat_natCast, hN, hw2, hm1, hm2, hm3, hm4, hi0, two_ne, hw, hd, hb1, hk, hhf, a0, a1, a2, hdh, hf1, hs1]) ?_
            simp only [pack]; rw [if_pos (by simp [hb2])] at hst; cases hst; cases hr2; rfl
          · have hb2 := rb2
            try simp only [nrmB] at hb2
            refine vwp_skip ?_
            apply_assumption
            refine vwp_region rfl ?_
            simp (dsimp := false) only [push_cast, hP, hnt, hgw, hgb, sevalprocAttr, Int.toNat_natCast, hN, hw2, hm1, hm2, hm3, hm4, hi0, two_ne, hw, hd, hb1, hk, hhf, a0, a1, a2, hdh, hf1, hs1]
            apply_assumption
            refine vwp_region rfl ?_
            simp (dsimp := false) only [push_cast, hP, hnt, hgw, hgb, sevalprocAttr, Int.toNat_natCast, hN, hw2, hm1, hm2, hm3, hm4, hi0, two_ne, hw, hd, hb1, hk, hhf, a0, a1, a2, hdh, hf1, hs1]
            refine hL0 _ _ _ ?_ ?_ ⟨i + 1, has.set (halfI (atI trail i)).toNat true, rfl, ?_, rfl⟩
            · omega
            · refine wk_conv [] [((2, 0), (2, 0)), ((20, 0), (20, 0))] (by simp) (by simp) (by decide) ?_ ?_
              · refine hf_cons (by simp (dsimp := false) only [push_cast, ↓reduceIte, Nat.reduceEqDiff, Nat.reduceAdd, reduceCtorEq, Int.toNat_natCast, hN, hw2, hm1, hm2, hm3, hm4, hi0, two_ne, hw, hd, hb1, hk, hhf, a0, a1, a2, hdh, hf1, hs1] <;> rfl) (by exact .one (.loc (by simp))) ?_
                refine hf_cons (by simp (dsimp := false) only [push_cast, ↓reduceIte, Nat.reduceEqDiff, Nat.reduceAdd, reduceCtorEq, Int.toNat_natCast, hN, hw2, hm1, hm2, hm3, hm4, hi0, two_ne, hw, hd, hb1, hk, hhf, a0, a1, a2, hdh, hf1, hs1] <;> rfl) (by exact .one (.own (by simp))) ?_
                refine hf_cons (by simp (dsimp := false) only [push_cast, ↓reduceIte, Nat.reduceEqDiff, Nat.reduceAdd, reduceCtorEq, Int.toNat_natCast, hN, hw2, hm1, hm2, hm3, hm4, hi0, two_ne, hw, hd, hb1, hk, hhf, a0, a1, a2, hdh, hf1, hs1] <;> rfl) (by exact ConvV.self (by simp only [push_cast])) ?_
                refine hf_cons (by simp (dsimp := false) only [push_cast, ↓reduceIte, Nat.reduceEqDiff, Nat.reduceAdd, reduceCtorEq, Int.toNat_natCast, hN, hw2, hm1, hm2, hm3, hm4, hi0, two_ne, hw, hd, hb1, hk, hhf, a0, a1, a2, hdh, hf1, hs1] <;> rfl) (by exact ConvV.self rfl) ?_
                refine hf_cons (by simp (dsimp := false) only [push_cast, ↓reduceIte, Nat.reduceEqDiff, Nat.reduceAdd, reduceCtorEq, Int.toNat_natCast, hN, hw2, hm1, hm2, hm3, hm4, hi0, two_ne, hw, hd, hb1, hk, hhf, a0, a1, a2, hdh, hf1, hs1] <;> rfl) (by exact ConvV.self rfl) ?_
                exact hf_nil
              · refine hh_cons (i := (2, 0)) (by simp) (by simp) (by simp (dsimp := false) only [push_cast, ↓reduceIte, Nat.reduceEqDiff, Nat.reduceAdd, reduceCtorEq, Int.toNat_natCast, hN, hw2, hm1, hm2, hm3, hm4, hi0, two_ne, hw, hd, hb1, hk, hhf, a0, a1, a2, hdh, hf1, hs1] <;> rfl) (ConvB.free (by simp only [push_cast])) ?_
                refine hh_cons (i := (20, 0)) (by simp) (by simp) (by simp (dsimp := false) only [push_cast, ↓reduceIte, Nat.reduceEqDiff, Nat.reduceAdd, reduceCtorEq, Int.toNat_natCast, hN, hw2, hm1, hm2, hm3, hm4, hi0, two_ne, hw, hd, hb1, hk, hhf, a0, a1, a2, hdh, hf1, hs1] <;> rfl) (ConvB.free (by simp only [push_cast])) ?_
                exact hh_nil
            · exact ⟨by omega, by omega, by rw [if_neg (by simp [hb2])] at hst; exact hst, by rw [List.length_set]; exact hxl⟩
      · have hb1 := rb1
        try simp only [nrmB] at hb1
        have hA1 := asG_stop hb1 hi2
        subst hA1
        refine vwp_exit ?_
        simp only [thenQ, blockQ, Nat.reduceEqDiff, reduceIte]
        apply_assumption
        refine vwp_seq fun K hK => ?_
        refine vwp_seq_region rfl fun K hK => ?_
        simp (dsimp := false) only [push_cast, hP, hnt, hgw, hgb, sevalprocAttr, Int.toNat_natCast, hN, hw2, hm1, hm2, hm3, hm4, hi0, two_ne]
        refine hK _ ?_; clear hK
        refine vwp_block ?_
        refine vwp_loop (fun m σ => ∃ (i : Int), m = (starts.length - i).toNat ∧ ((0 ≤ i) ∧ (i ≤ starts.length) ∧ (stG trail.length (prevI starts i) (starts.drop i.toNat) = stG trail.length none starts)) ∧ σ = St.of [(1, .one (.loc (2, 0) 0)), (45, .one (.sl false starts.length (starts.map fun n => .c (.int .i64 n)))), (46, .one (.c (.int .i64 starts.length))), (47, .one (.c (.int .i64 i)))] [((2, 0), .box 300 [.c (.int .i64 vars), .sl false trail.length (trail.map fun n => .c (.int .i64 n)), .sl false starts.length (starts.map fun n => .c (.int .i64 n))])] [1]) _ ⟨_, ?_, 0, rfl, ?_, rfl⟩ ?_
        · refine wk_conv [(20, 0)] [((2, 0), (2, 0))] (by simp) (by simp) (by decide) ?_ ?_
          · refine hf_cons (by simp (dsimp := false) only [push_cast, ↓reduceIte, Nat.reduceEqDiff, Nat.reduceAdd, reduceCtorEq, Int.toNat_natCast, hN, hw2, hm1, hm2, hm3, hm4, hi0, two_ne] <;> rfl) (by exact .one (.loc (by simp))) ?_
            refine hf_cons (by simp (dsimp := false) only [push_cast, ↓reduceIte, Nat.reduceEqDiff, Nat.reduceAdd, reduceCtorEq, Int.toNat_natCast, hN, hw2, hm1, hm2, hm3, hm4, hi0, two_ne] <;> rfl) (by exact ConvV.self (by simp only [push_cast])) ?_
            refine hf_cons (by simp (dsimp := false) only [push_cast, ↓reduceIte, Nat.reduceEqDiff, Nat.reduceAdd, reduceCtorEq, Int.toNat_natCast, hN, hw2, hm1, hm2, hm3, hm4, hi0, two_ne] <;> rfl) (by exact ConvV.self rfl) ?_
            refine hf_cons (by simp (dsimp := false) only [push_cast, ↓reduceIte, Nat.reduceEqDiff, Nat.reduceAdd, reduceCtorEq, Int.toNat_natCast, hN, hw2, hm1, hm2, hm3, hm4, hi0, two_ne] <;> rfl) (by exact ConvV.self rfl) ?_
            exact hf_nil
          · refine hh_cons (i := (2, 0)) (by simp) (by simp) (by simp (dsimp := false) only [push_cast, ↓reduceIte, Nat.reduceEqDiff, Nat.reduceAdd, reduceCtorEq, Int.toNat_natCast, hN, hw2, hm1, hm2, hm3, hm4, hi0, two_ne] <;> rfl) (ConvB.free (by simp only [push_cast])) ?_
            exact hh_nil
        · exact ⟨by omega, by omega, rfl⟩
        · rintro m τ ⟨i, hm, ⟨hi0, hi1, hi2⟩, rfl⟩ K hL2
          have hw := fun h : i < (starts.length : Int) => wrap_next hi0 h (by omega)
          have hd := fun h : i < (starts.length : Int) => dropI_map (fun n => PC.c (Value.int .i64 n)) hi0 h
          refine vwp_seq_region rfl fun K hK => ?_
          simp (dsimp := false) only [push_cast, hP, hnt, hgw, hgb, sevalprocAttr, Int.toNat_natCast, hN, hw2, hm1, hm2, hm3, hm4, hi0, two_ne, hi0]
          refine hK _ ?_; clear hK
          refine vwp_seq fun K hK => ?_
          refine vwp_cond (b := _) (by simp (dsimp := false) only [push_cast, hP, hnt, hgw, hgb, sevalprocAttr, Int.toNat_natCast, hN, hw2, hm1, hm2, hm3, hm4, hi0, two_ne, hi0]; rfl) (fun rb3 => ?_) (fun rb3 => ?_)
          · have hb3 := rb3
            try simp only [nrmB] at hb3
            have hbS := hb3
            have hw := hw hb3
            have hd := hd hb3
            refine vwp_skip ?_
            apply_assumption
            refine vwp_seq fun K hK => ?_
            refine vwp_block ?_
            refine vwp_seq_region rfl fun K hK => ?_
            simp (dsimp := false) only [push_cast, hP, hnt, hgw, hgb, sevalprocAttr, Int.toNat_natCast, hN, hw2, hm1, hm2, hm3, hm4, hi0, two_ne, hi0, hw, hd, hb3]
            refine hK _ ?_; clear hK
            have hcs : (atI starts i < 0) ∨ (¬ atI starts i < 0 ∧ (trail.length : Int) ≤ atI starts i) ∨ ((¬ atI starts i < 0 ∧ ¬ (trail.length : Int) ≤ atI starts i) ∧ i = 0) ∨ ((¬ atI starts i < 0 ∧ ¬ (trail.length : Int) ≤ atI starts i) ∧ 0 < i ∧ atI starts i ≤ atI starts (i - 1)) ∨ ((¬ atI starts i < 0 ∧ ¬ (trail.length : Int) ≤ atI starts i) ∧ 0 < i ∧ ¬ atI starts i ≤ atI starts (i - 1)) := by omega
            rcases hcs with ho | ho | ⟨ho, hz⟩ | ⟨ho, hz, hle⟩ | ⟨ho, hz, hle⟩
            · have hlt : decide (atI starts i < 0) = true := by simp [ho]
              refine vwp_seq_regionG fun K hK => ?_
              simp (dsimp := false) only [push_cast, hP, hnt, hgw, hgb, sevalprocAttr, Int.toNat_natCast, hN, hw2, hm1, hm2, hm3, hm4, hi0, two_ne, hi0, hw, hd, hb3, hlt]
              iterate 5 (refine guardR_skip (by simp (dsimp := false) only [push_cast, hP, hnt, hgw, hgb, sevalprocAttr, Int.toNat_natCast, hN, hw2, hm1, hm2, hm3, hm4, hi0, two_ne, hi0, hw, hd, hb3, hlt, List.getElem?_cons_zero, List.getElem?_cons_succ] <;> rfl) (by simp) ⟨by first | trivial | (simp (dsimp := false) only [push_cast, hP, hnt, hgw, hgb, sevalprocAttr, Int.toNat_natCast, hN, hw2, hm1, hm2, hm3, hm4, hi0, two_ne, hi0, hw, hd, hb3, hlt]; done), ?_⟩; simp (dsimp := false) only [push_cast, hP, hnt, hgw, hgb, sevalprocAttr, Int.toNat_natCast, hN, hw2, hm1, hm2, hm3, hm4, hi0, two_ne, hi0, hw, hd, hb3, hlt])
              iterate 12 (refine guardR_skip (by simp (dsimp := false) only [push_cast, hP, hnt, hgw, hgb, sevalprocAttr, Int.toNat_natCast, hN, hw2, hm1, hm2, hm3, hm4, hi0, two_ne, hi0, hw, hd, hb3, hlt, List.getElem?_cons_zero, List.getElem?_cons_succ] <;> rfl) (by simp) ⟨by first | trivial | (simp (dsimp := false) only [push_cast, hP, hnt, hgw, hgb, sevalprocAttr, Int.toNat_natCast, hN, hw2, hm1, hm2, hm3, hm4, hi0, two_ne, hi0, hw, hd, hb3, hlt]; done), ?_⟩; simp (dsimp := false) only [push_cast, hP, hnt, hgw, hgb, sevalprocAttr, Int.toNat_natCast, hN, hw2, hm1, hm2, hm3, hm4, hi0, two_ne, hi0, hw, hd, hb3, hlt])
              refine hK _ ?_; clear hK
              refine vwp_cond (b := true) (by simp (dsimp := false) only [push_cast, hP, hnt, hgw, hgb, sevalprocAttr, Int.toNat_natCast, hN, hw2, hm1, hm2, hm3, hm4, hi0, two_ne, hi0, hw, hd, hb3, hlt] <;> rfl) (fun hx => ?_) (fun hx => by cases hx)
              refine vwp_seq_region rfl fun K hK => ?_
              simp (dsimp := false) only [push_cast, hP, hnt, hgw, hgb, sevalprocAttr, Int.toNat_natCast, hN, hw2, hm1, hm2, hm3, hm4, hi0, two_ne, hi0, hw, hd, hb3, hlt]
              refine hK _ ?_; clear hK
              refine vwp_ret ?_
              refine ret_free (by simp (dsimp := false) only [push_cast, hP, hnt, hgw, hgb, sevalprocAttr, Int.toNat_natCast, hN, hw2, hm1, hm2, hm3, hm4, hi0, two_ne, hi0, hw, hd, hb3, hlt]; rfl) (by simp (dsimp := false) only [push_cast, hP, hnt, hgw, hgb, sevalprocAttr, Int.toNat_natCast, hN, hw2, hm1, hm2, hm3, hm4, hi0, two_ne, hi0, hw, hd, hb3, hlt]) ?_
              simp only [pack]; simp only [stG_stop hi0 hbS hi2 (.inl (.inl ho)), Bool.false_eq_true, if_false] at hr2; cases hr2; rfl
            · have hlt : decide (atI starts i < 0) = false := by simp; omega
              have hge : decide ((trail.length : Int) ≤ atI starts i) = true := by simp; omega
              refine vwp_seq_regionG fun K hK => ?_
              simp (dsimp := false) only [push_cast, hP, hnt, hgw, hgb, sevalprocAttr, Int.toNat_natCast, hN, hw2, hm1, hm2, hm3, hm4, hi0, two_ne, hi0, hw, hd, hb3, hlt, hge]
              iterate 5 (refine guardR_run (by simp (dsimp := false) only [push_cast, hP, hnt, hgw, hgb, sevalprocAttr, Int.toNat_natCast, hN, hw2, hm1, hm2, hm3, hm4, hi0, two_ne, hi0, hw, hd, hb3, hlt, hge, List.getElem?_cons_zero, List.getElem?_cons_succ] <;> rfl) ?_; simp (dsimp := false) only [push_cast, hP, hnt, hgw, hgb, sevalprocAttr, Int.toNat_natCast, hN, hw2, hm1, hm2, hm3, hm4, hi0, two_ne, hi0, hw, hd, hb3, hlt, hge])
              iterate 12 (refine guardR_skip (by simp (dsimp := false) only [push_cast, hP, hnt, hgw, hgb, sevalprocAttr, Int.toNat_natCast, hN, hw2, hm1, hm2, hm3, hm4, hi0, two_ne, hi0, hw, hd, hb3, hlt, hge, List.getElem?_cons_zero, List.getElem?_cons_succ] <;> rfl) (by simp) ⟨by first | trivial | (simp (dsimp := false) only [push_cast, hP, hnt, hgw, hgb, sevalprocAttr, Int.toNat_natCast, hN, hw2, hm1, hm2, hm3, hm4, hi0, two_ne, hi0, hw, hd, hb3, hlt, hge]; done), ?_⟩; simp (dsimp := false) only [push_cast, hP, hnt, hgw, hgb, sevalprocAttr, Int.toNat_natCast, hN, hw2, hm1, hm2, hm3, hm4, hi0, two_ne, hi0, hw, hd, hb3, hlt, hge])
              refine hK _ ?_; clear hK
              refine vwp_cond (b := true) (by simp (dsimp := false) only [push_cast, hP, hnt, hgw, hgb, sevalprocAttr, Int.toNat_natCast, hN, hw2, hm1, hm2, hm3, hm4, hi0, two_ne, hi0, hw, hd, hb3, hlt, hge] <;> rfl) (fun hx => ?_) (fun hx => by cases hx)
              refine vwp_seq_region rfl fun K hK => ?_
              simp (dsimp := false) only [push_cast, hP, hnt, hgw, hgb, sevalprocAttr, Int.toNat_natCast, hN, hw2, hm1, hm2, hm3, hm4, hi0, two_ne, hi0, hw, hd, hb3, hlt, hge]
              refine hK _ ?_; clear hK
              refine vwp_ret ?_
              refine ret_free (by simp (dsimp := false) only [push_cast, hP, hnt, hgw, hgb, sevalprocAttr, Int.toNat_natCast, hN, hw2, hm1, hm2, hm3, hm4, hi0, two_ne, hi0, hw, hd, hb3, hlt, hge]; rfl) (by simp (dsimp := false) only [push_cast, hP, hnt, hgw, hgb, sevalprocAttr, Int.toNat_natCast, hN, hw2, hm1, hm2, hm3, hm4, hi0, two_ne, hi0, hw, hd, hb3, hlt, hge]) ?_
              simp only [pack]; simp only [stG_stop hi0 hbS hi2 (.inl (.inr ho.2)), Bool.false_eq_true, if_false] at hr2; cases hr2; rfl
            · have hlt : decide (atI starts i < 0) = false := by simp; omega
              have hge : decide ((trail.length : Int) ≤ atI starts i) = false := by simp; omega
              have hgt : decide (0 < i) = false := by simp; omega
              refine vwp_seq_regionG fun K hK => ?_
              simp (dsimp := false) only [push_cast, hP, hnt, hgw, hgb, sevalprocAttr, Int.toNat_natCast, hN, hw2, hm1, hm2, hm3, hm4, hi0, two_ne, hi0, hw, hd, hb3, hlt, hge, hgt]
              iterate 5 (refine guardR_run (by simp (dsimp := false) only [push_cast, hP, hnt, hgw, hgb, sevalprocAttr, Int.toNat_natCast, hN, hw2, hm1, hm2, hm3, hm4, hi0, two_ne, hi0, hw, hd, hb3, hlt, hge, hgt, List.getElem?_cons_zero, List.getElem?_cons_succ] <;> rfl) ?_; simp (dsimp := false) only [push_cast, hP, hnt, hgw, hgb, sevalprocAttr, Int.toNat_natCast, hN, hw2, hm1, hm2, hm3, hm4, hi0, two_ne, hi0, hw, hd, hb3, hlt, hge, hgt])
              iterate 3 (refine guardR_run (by simp (dsimp := false) only [push_cast, hP, hnt, hgw, hgb, sevalprocAttr, Int.toNat_natCast, hN, hw2, hm1, hm2, hm3, hm4, hi0, two_ne, hi0, hw, hd, hb3, hlt, hge, hgt, List.getElem?_cons_zero, List.getElem?_cons_succ] <;> rfl) ?_; simp (dsimp := false) only [push_cast, hP, hnt, hgw, hgb, sevalprocAttr, Int.toNat_natCast, hN, hw2, hm1, hm2, hm3, hm4, hi0, two_ne, hi0, hw, hd, hb3, hlt, hge, hgt])
              iterate 8 (refine guardR_skip (by simp (dsimp := false) only [push_cast, hP, hnt, hgw, hgb, sevalprocAttr, Int.toNat_natCast, hN, hw2, hm1, hm2, hm3, hm4, hi0, two_ne, hi0, hw, hd, hb3, hlt, hge, hgt, List.getElem?_cons_zero, List.getElem?_cons_succ] <;> rfl) (by simp) ⟨by first | trivial | (simp (dsimp := false) only [push_cast, hP, hnt, hgw, hgb, sevalprocAttr, Int.toNat_natCast, hN, hw2, hm1, hm2, hm3, hm4, hi0, two_ne, hi0, hw, hd, hb3, hlt, hge, hgt]; done), ?_⟩; simp (dsimp := false) only [push_cast, hP, hnt, hgw, hgb, sevalprocAttr, Int.toNat_natCast, hN, hw2, hm1, hm2, hm3, hm4, hi0, two_ne, hi0, hw, hd, hb3, hlt, hge, hgt])
              refine guardR_run (by simp (dsimp := false) only [push_cast, hP, hnt, hgw, hgb, sevalprocAttr, Int.toNat_natCast, hN, hw2, hm1, hm2, hm3, hm4, hi0, two_ne, hi0, hw, hd, hb3, hlt, hge, hgt, List.getElem?_cons_zero, List.getElem?_cons_succ] <;> rfl) ?_; simp (dsimp := false) only [push_cast, hP, hnt, hgw, hgb, sevalprocAttr, Int.toNat_natCast, hN, hw2, hm1, hm2, hm3, hm4, hi0, two_ne, hi0, hw, hd, hb3, hlt, hge, hgt]
              refine hK _ ?_; clear hK
              refine vwp_cond (b := false) (by simp (dsimp := false) only [push_cast, hP, hnt, hgw, hgb, sevalprocAttr, Int.toNat_natCast, hN, hw2, hm1, hm2, hm3, hm4, hi0, two_ne, hi0, hw, hd, hb3, hlt, hge, hgt] <;> rfl) (fun hx => by cases hx) (fun hx => ?_)
              refine vwp_skip ?_
              apply_assumption
              refine vwp_region rfl ?_
              simp (dsimp := false) only [push_cast, hP, hnt, hgw, hgb, sevalprocAttr, Int.toNat_natCast, hN, hw2, hm1, hm2, hm3, hm4, hi0, two_ne, hi0, hw, hd, hb3, hlt, hge, hgt]
              refine hL2 _ _ _ ?_ ?_ ⟨i + 1, rfl, ?_, rfl⟩
              · omega
              · refine wk_conv [] [((2, 0), (2, 0))] (by simp) (by simp) (by decide) ?_ ?_
                · refine hf_cons (by simp (dsimp := false) only [push_cast, ↓reduceIte, Nat.reduceEqDiff, Nat.reduceAdd, reduceCtorEq, Int.toNat_natCast, hN, hw2, hm1, hm2, hm3, hm4, hi0, two_ne, hi0, hw, hd, hb3, hlt, hge, hgt] <;> rfl) (by exact .one (.loc (by simp))) ?_
                  refine hf_cons (by simp (dsimp := false) only [push_cast, ↓reduceIte, Nat.reduceEqDiff, Nat.reduceAdd, reduceCtorEq, Int.toNat_natCast, hN, hw2, hm1, hm2, hm3, hm4, hi0, two_ne, hi0, hw, hd, hb3, hlt, hge, hgt] <;> rfl) (by exact ConvV.self (by simp only [push_cast])) ?_
                  refine hf_cons (by simp (dsimp := false) only [push_cast, ↓reduceIte, Nat.reduceEqDiff, Nat.reduceAdd, reduceCtorEq, Int.toNat_natCast, hN, hw2, hm1, hm2, hm3, hm4, hi0, two_ne, hi0, hw, hd, hb3, hlt, hge, hgt] <;> rfl) (by exact ConvV.self rfl) ?_
                  refine hf_cons (by simp (dsimp := false) only [push_cast, ↓reduceIte, Nat.reduceEqDiff, Nat.reduceAdd, reduceCtorEq, Int.toNat_natCast, hN, hw2, hm1, hm2, hm3, hm4, hi0, two_ne, hi0, hw, hd, hb3, hlt, hge, hgt] <;> rfl) (by exact ConvV.self rfl) ?_
                  exact hf_nil
                · refine hh_cons (i := (2, 0)) (by simp) (by simp) (by simp (dsimp := false) only [push_cast, ↓reduceIte, Nat.reduceEqDiff, Nat.reduceAdd, reduceCtorEq, Int.toNat_natCast, hN, hw2, hm1, hm2, hm3, hm4, hi0, two_ne, hi0, hw, hd, hb3, hlt, hge, hgt] <;> rfl) (ConvB.free (by simp only [push_cast])) ?_
                  exact hh_nil
              · exact ⟨by omega, by omega, stG_next hi0 hbS hi2 (by omega) (.inl hz)⟩
            · have hlt : decide (atI starts i < 0) = false := by simp; omega
              have hge : decide ((trail.length : Int) ≤ atI starts i) = false := by simp; omega
              have hgt : decide (0 < i) = true := by simp; omega
              have hwp := wrap_pred hz hbS (by omega)
              have hp0 : 0 ≤ i - 1 := by omega
              have hp1 : i - 1 < (starts.length : Int) := by omega
              have hdp := dropI_map (fun n => PC.c (Value.int .i64 n)) hp0 hp1
              have hle2 : decide (atI starts i ≤ atI starts (i - 1)) = true := by simp [hle]
              refine vwp_seq_regionG fun K hK => ?_
              simp (dsimp := false) only [push_cast, hP, hnt, hgw, hgb, sevalprocAttr, Int.toNat_natCast, hN, hw2, hm1, hm2, hm3, hm4, hi0, two_ne, hi0, hw, hd, hb3, hlt, hge, hgt, hwp, hp0, hp1, hdp, hle2]
              iterate 5 (refine guardR_run (by simp (dsimp := false) only [push_cast, hP, hnt, hgw, hgb, sevalprocAttr, Int.toNat_natCast, hN, hw2, hm1, hm2, hm3, hm4, hi0, two_ne, hi0, hw, hd, hb3, hlt, hge, hgt, hwp, hp0, hp1, hdp, hle2, List.getElem?_cons_zero, List.getElem?_cons_succ] <;> rfl) ?_; simp (dsimp := false) only [push_cast, hP, hnt, hgw, hgb, sevalprocAttr, Int.toNat_natCast, hN, hw2, hm1, hm2, hm3, hm4, hi0, two_ne, hi0, hw, hd, hb3, hlt, hge, hgt, hwp, hp0, hp1, hdp, hle2])
              iterate 12 (refine guardR_run (by simp (dsimp := false) only [push_cast, hP, hnt, hgw, hgb, sevalprocAttr, Int.toNat_natCast, hN, hw2, hm1, hm2, hm3, hm4, hi0, two_ne, hi0, hw, hd, hb3, hlt, hge, hgt, hwp, hp0, hp1, hdp, hle2, List.getElem?_cons_zero, List.getElem?_cons_succ] <;> rfl) ?_; simp (dsimp := false) only [push_cast, hP, hnt, hgw, hgb, sevalprocAttr, Int.toNat_natCast, hN, hw2, hm1, hm2, hm3, hm4, hi0, two_ne, hi0, hw, hd, hb3, hlt, hge, hgt, hwp, hp0, hp1, hdp, hle2])
              refine hK _ ?_; clear hK
              refine vwp_cond (b := true) (by simp (dsimp := false) only [push_cast, hP, hnt, hgw, hgb, sevalprocAttr, Int.toNat_natCast, hN, hw2, hm1, hm2, hm3, hm4, hi0, two_ne, hi0, hw, hd, hb3, hlt, hge, hgt, hwp, hp0, hp1, hdp, hle2] <;> rfl) (fun hx => ?_) (fun hx => by cases hx)
              refine vwp_seq_region rfl fun K hK => ?_
              simp (dsimp := false) only [push_cast, hP, hnt, hgw, hgb, sevalprocAttr, Int.toNat_natCast, hN, hw2, hm1, hm2, hm3, hm4, hi0, two_ne, hi0, hw, hd, hb3, hlt, hge, hgt, hwp, hp0, hp1, hdp, hle2]
              refine hK _ ?_; clear hK
              refine vwp_ret ?_
              refine ret_free (by simp (dsimp := false) only [push_cast, hP, hnt, hgw, hgb, sevalprocAttr, Int.toNat_natCast, hN, hw2, hm1, hm2, hm3, hm4, hi0, two_ne, hi0, hw, hd, hb3, hlt, hge, hgt, hwp, hp0, hp1, hdp, hle2]; rfl) (by simp (dsimp := false) only [push_cast, hP, hnt, hgw, hgb, sevalprocAttr, Int.toNat_natCast, hN, hw2, hm1, hm2, hm3, hm4, hi0, two_ne, hi0, hw, hd, hb3, hlt, hge, hgt, hwp, hp0, hp1, hdp, hle2]) ?_
              simp only [pack]; simp only [stG_stop hi0 hbS hi2 (.inr ⟨hz, hle⟩), Bool.false_eq_true, if_false] at hr2; cases hr2; rfl
            · have hlt : decide (atI starts i < 0) = false := by simp; omega
              have hge : decide ((trail.length : Int) ≤ atI starts i) = false := by simp; omega
              have hgt : decide (0 < i) = true := by simp; omega
              have hwp := wrap_pred hz hbS (by omega)
              have hp0 : 0 ≤ i - 1 := by omega
              have hp1 : i - 1 < (starts.length : Int) := by omega
              have hdp := dropI_map (fun n => PC.c (Value.int .i64 n)) hp0 hp1
              have hle2 : decide (atI starts i ≤ atI starts (i - 1)) = false := by simp; omega
              refine vwp_seq_regionG fun K hK => ?_
              simp (dsimp := false) only [push_cast, hP, hnt, hgw, hgb, sevalprocAttr, Int.toNat_natCast, hN, hw2, hm1, hm2, hm3, hm4, hi0, two_ne, hi0, hw, hd, hb3, hlt, hge, hgt, hwp, hp0, hp1, hdp, hle2]
              iterate 5 (refine guardR_run (by simp (dsimp := false) only [push_cast, hP, hnt, hgw, hgb, sevalprocAttr, Int.toNat_natCast, hN, hw2, hm1, hm2, hm3, hm4, hi0, two_ne, hi0, hw, hd, hb3, hlt, hge, hgt, hwp, hp0, hp1, hdp, hle2, List.getElem?_cons_zero, List.getElem?_cons_succ] <;> rfl) ?_; simp (dsimp := false) only [push_cast, hP, hnt, hgw, hgb, sevalprocAttr, Int.toNat_natCast, hN, hw2, hm1, hm2, hm3, hm4, hi0, two_ne, hi0, hw, hd, hb3, hlt, hge, hgt, hwp, hp0, hp1, hdp, hle2])
              iterate 12 (refine guardR_run (by simp (dsimp := false) only [push_cast, hP, hnt, hgw, hgb, sevalprocAttr, Int.toNat_natCast, hN, hw2, hm1, hm2, hm3, hm4, hi0, two_ne, hi0, hw, hd, hb3, hlt, hge, hgt, hwp, hp0, hp1, hdp, hle2, List.getElem?_cons_zero, List.getElem?_cons_succ] <;> rfl) ?_; simp (dsimp := false) only [push_cast, hP, hnt, hgw, hgb, sevalprocAttr, Int.toNat_natCast, hN, hw2, hm1, hm2, hm3, hm4, hi0, two_ne, hi0, hw, hd, hb3, hlt, hge, hgt, hwp, hp0, hp1, hdp, hle2])
              refine hK _ ?_; clear hK
              refine vwp_cond (b := false) (by simp (dsimp := false) only [push_cast, hP, hnt, hgw, hgb, sevalprocAttr, Int.toNat_natCast, hN, hw2, hm1, hm2, hm3, hm4, hi0, two_ne, hi0, hw, hd, hb3, hlt, hge, hgt, hwp, hp0, hp1, hdp, hle2] <;> rfl) (fun hx => by cases hx) (fun hx => ?_)
              refine vwp_skip ?_
              apply_assumption
              refine vwp_region rfl ?_
              simp (dsimp := false) only [push_cast, hP, hnt, hgw, hgb, sevalprocAttr, Int.toNat_natCast, hN, hw2, hm1, hm2, hm3, hm4, hi0, two_ne, hi0, hw, hd, hb3, hlt, hge, hgt, hwp, hp0, hp1, hdp, hle2]
              refine hL2 _ _ _ ?_ ?_ ⟨i + 1, rfl, ?_, rfl⟩
              · omega
              · refine wk_conv [] [((2, 0), (2, 0))] (by simp) (by simp) (by decide) ?_ ?_
                · refine hf_cons (by simp (dsimp := false) only [push_cast, ↓reduceIte, Nat.reduceEqDiff, Nat.reduceAdd, reduceCtorEq, Int.toNat_natCast, hN, hw2, hm1, hm2, hm3, hm4, hi0, two_ne, hi0, hw, hd, hb3, hlt, hge, hgt, hwp, hp0, hp1, hdp, hle2] <;> rfl) (by exact .one (.loc (by simp))) ?_
                  refine hf_cons (by simp (dsimp := false) only [push_cast, ↓reduceIte, Nat.reduceEqDiff, Nat.reduceAdd, reduceCtorEq, Int.toNat_natCast, hN, hw2, hm1, hm2, hm3, hm4, hi0, two_ne, hi0, hw, hd, hb3, hlt, hge, hgt, hwp, hp0, hp1, hdp, hle2] <;> rfl) (by exact ConvV.self (by simp only [push_cast])) ?_
                  refine hf_cons (by simp (dsimp := false) only [push_cast, ↓reduceIte, Nat.reduceEqDiff, Nat.reduceAdd, reduceCtorEq, Int.toNat_natCast, hN, hw2, hm1, hm2, hm3, hm4, hi0, two_ne, hi0, hw, hd, hb3, hlt, hge, hgt, hwp, hp0, hp1, hdp, hle2] <;> rfl) (by exact ConvV.self rfl) ?_
                  refine hf_cons (by simp (dsimp := false) only [push_cast, ↓reduceIte, Nat.reduceEqDiff, Nat.reduceAdd, reduceCtorEq, Int.toNat_natCast, hN, hw2, hm1, hm2, hm3, hm4, hi0, two_ne, hi0, hw, hd, hb3, hlt, hge, hgt, hwp, hp0, hp1, hdp, hle2] <;> rfl) (by exact ConvV.self rfl) ?_
                  exact hf_nil
                · refine hh_cons (i := (2, 0)) (by simp) (by simp) (by simp (dsimp := false) only [push_cast, ↓reduceIte, Nat.reduceEqDiff, Nat.reduceAdd, reduceCtorEq, Int.toNat_natCast, hN, hw2, hm1, hm2, hm3, hm4, hi0, two_ne, hi0, hw, hd, hb3, hlt, hge, hgt, hwp, hp0, hp1, hdp, hle2] <;> rfl) (ConvB.free (by simp only [push_cast])) ?_
                  exact hh_nil
              · exact ⟨by omega, by omega, stG_next hi0 hbS hi2 (by omega) (.inr hle)⟩
          · have hb3 := rb3
            try simp only [nrmB] at hb3
            have hS := stG_end hb3 hi2
            refine vwp_exit ?_
            simp only [thenQ, blockQ, Nat.reduceEqDiff, reduceIte]
            apply_assumption
            refine vwp_seq_region rfl fun K hK => ?_
            simp (dsimp := false) only [push_cast, hP, hnt, hgw, hgb, sevalprocAttr, Int.toNat_natCast, hN, hw2, hm1, hm2, hm3, hm4, hi0, two_ne, hi0]
            refine hK _ ?_; clear hK
            refine vwp_ret ?_
            refine ret_free (by simp (dsimp := false) only [push_cast, hP, hnt, hgw, hgb, sevalprocAttr, Int.toNat_natCast, hN, hw2, hm1, hm2, hm3, hm4, hi0, two_ne, hi0]; rfl) (by simp (dsimp := false) only [push_cast, hP, hnt, hgw, hgb, sevalprocAttr, Int.toNat_natCast, hN, hw2, hm1, hm2, hm3, hm4, hi0, two_ne, hi0]) ?_
            simp only [pack]; simp only [hS, if_true] at hr2; cases hr2; rfl
end Go.Vm
