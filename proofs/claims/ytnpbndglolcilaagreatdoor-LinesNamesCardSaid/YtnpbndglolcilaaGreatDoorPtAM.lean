/-
  Walks of the program's functions by the framework, and what they compute (PtAM). Conditions: each theorem's own premises. By an AI agent.
-/
import Derived.Test.YtnpbndglolcilaaGreatDoorPtAL
section
namespace Go.Vm
open Go Go.RowKit Go.Proofs
set_option maxRecDepth 100000
set_option linter.unusedSimpArgs false
set_option linter.unusedVariables false
set_option maxHeartbeats 4000000

def digB (n : Int) : ByteArray := bOf (Lib.decDigits n.toNat)
theorem digB_eq {n : Int} (h : 0 ≤ n) : itoaB n = digB n := by
  unfold itoaB digB
  obtain ⟨k, rfl⟩ := Int.eq_ofNat_of_zero_le h
  rw [Lib.itoa_nonneg]; rfl
def nlL (w : ByteArray) : List UInt8 := w.data.toList ++ [10]
def joinedL (ws : List ByteArray) : List UInt8 := ws.flatMap nlL
end Go.Vm
end

section
namespace Go.Vm
open Go Go.RowKit Go.Proofs
set_option maxRecDepth 100000
set_option linter.unusedSimpArgs false
set_option linter.unusedVariables false
set_option maxHeartbeats 4000000

def sFirst (l : List Bool) : ByteArray := ⟨#[102, 105, 114, 115, 116, 32]⟩ ++ bitsS l
def sIn (l : List Bool) : ByteArray := ⟨#[105, 110, 32]⟩ ++ bitsS l
def sSkip (n : Int) : ByteArray := ⟨#[115, 107, 105, 112, 32]⟩ ++ digB n
def sPhases (n : Int) : ByteArray := ⟨#[112, 104, 97, 115, 101, 115, 32]⟩ ++ digB n
def sLit (n : Int) : ByteArray := ⟨#[108, 105, 116, 32]⟩ ++ digB n
def sAnd (g : Int × Int) : ByteArray := ⟨#[97, 110, 100, 32]⟩ ++ digB g.1 ++ ⟨#[32]⟩ ++ digB g.2
def toldU (v : Ver) (k : Nat) : List ByteArray := [wUNSAFE, sFirst v.first] ++ (v.inputs.take k).map sIn
def toldS (v : Ver) (k : Nat) : List ByteArray := [wSAFE, sSkip v.skip, sPhases v.phases] ++ (v.ands.take k).map sAnd
def toldF (v : Ver) : List ByteArray := if v.kind = 2 then toldU v v.inputs.length else if v.kind = 1 then toldS v v.ands.length ++ [sLit v.lit] else [wUNKNOWN]
end Go.Vm
end

section
namespace Go.Vm
open Go Go.RowKit Go.Proofs
set_option maxRecDepth 100000
set_option linter.unusedSimpArgs false
set_option linter.unusedVariables false
set_option maxHeartbeats 4000000

theorem data_app (a b : ByteArray) : (a ++ b).data.toList = a.data.toList ++ b.data.toList := by rw [ByteArray.data_append, Array.toList_append]
theorem lineL_one (a : ByteArray) : lineL [a] = nlL a := by unfold lineL nlL; rw [joinS_one, data_app]
theorem bOf_data (l : List UInt8) : (bOf l).data.toList = l := rfl
theorem lineL_two (a b : ByteArray) : lineL [a, b] = nlL (a ++ spB ++ b) := by
  unfold lineL nlL; rw [joinS_two, data_app, data_app, data_app, bOf_data]; simp
theorem lineL_three (a b c : ByteArray) : lineL [a, b, c] = nlL (a ++ spB ++ b ++ spB ++ c) := by
  unfold lineL nlL; rw [joinS_three, data_app, data_app, data_app, data_app, data_app, bOf_data]; simp
theorem joined_app (a b : List ByteArray) : joinedL (a ++ b) = joinedL a ++ joinedL b := by unfold joinedL; rw [List.flatMap_append]
theorem flatMap_congr' {α β : Type} {l : List α} {f g : α → List β} (h : ∀ a ∈ l, f a = g a) : l.flatMap f = l.flatMap g := by
  induction l with
  | nil => rfl
  | cons a l ih => rw [List.flatMap_cons, List.flatMap_cons, h a (by simp), ih fun b hb => h b (List.mem_cons_of_mem _ hb)]
theorem joined_map {α : Type} (l : List α) (f : α → ByteArray) : joinedL (l.map f) = l.flatMap fun a => nlL (f a) := by unfold joinedL; rw [List.flatMap_map]
theorem joined_two (a b : ByteArray) : joinedL [a, b] = nlL a ++ nlL b := by simp [joinedL]
theorem joined_three (a b c : ByteArray) : joinedL [a, b, c] = nlL a ++ nlL b ++ nlL c := by simp [joinedL]
theorem joined_one (a : ByteArray) : joinedL [a] = nlL a := by simp [joinedL]
theorem lineAnd_eq {g : Int × Int} (h : gateF g = true) : lineAnd g = nlL (sAnd g) := by
  unfold gateF at h
  rw [Bool.and_eq_true] at h
  unfold lineAnd sAnd
  rw [lineL_three, digB_eq (inTo_spec h.1).1, digB_eq (inTo_spec h.2).1]
  rfl
theorem joined_told {v : Ver} (hm : mayF v = true) : joinedL (toldF v) = verdictL v := by
  rcases may_kind hm with h | h | h
  · unfold toldF verdictL
    rw [if_neg (by omega), if_neg (by omega), if_pos h, joined_one, lineL_one]
  · unfold toldF verdictL toldU preUnsafe
    rw [if_pos h, if_neg (by omega), if_pos h, joined_app, joined_two, lineL_one, lineL_two, List.take_length, joined_map]
    congr 1
    exact flatMap_congr' fun l _ => by unfold lineIn; rw [lineL_two]; rfl
  · have hs := may_safe hm h
    unfold toldF verdictL toldS preSafe
    rw [if_neg (by omega), if_pos h, if_neg (by omega), if_neg (by omega), joined_app, joined_app, joined_three, lineL_one, lineL_two, lineL_two, lineL_two, List.take_length, joined_map, joined_one, digB_eq hs.skip.1, digB_eq hs.phases.1, digB_eq hs.lit.1]
    congr 1
    congr 1
    exact flatMap_congr' fun g hg => (lineAnd_eq (hs.each g hg)).symm
end Go.Vm
end

section
namespace Go.Vm
open Go Go.RowKit Go.Proofs
set_option maxRecDepth 100000
set_option linter.unusedSimpArgs false
set_option linter.unusedVariables false
set_option maxHeartbeats 4000000

def atoiOk (t : ByteArray) : Bool := match Lib.atoiAll t.data.toList with | .ok _ => true | _ => false
theorem atoiE_ok {t : ByteArray} (h : atoiOk t = true) : atoiE t = .c .nilIface := by unfold atoiE; unfold atoiOk at h; split at h <;> simp_all
theorem atoiE_bad {t : ByteArray} (h : atoiOk t = false) : atoiE t = .ifc := by unfold atoiE; unfold atoiOk at h; split at h <;> simp_all
theorem atoiV_range (t : ByteArray) : -9223372036854775808 ≤ atoiV t ∧ atoiV t ≤ 9223372036854775807 := by
  unfold atoiV
  split
  · rename_i v h
    unfold Lib.atoiAll at h
    split at h
    · cases h
    · simp only at h
      split at h
      · cases h
      · cases h
      · split at h
        · cases h
        · split at h
          · cases h
          · rename_i u _ h1 h2
            cases h
            split <;> omega
  · unfold Lib.atoiSat; split <;> omega
  · omega
def numF (t : ByteArray) : Int := if atoiOk t = true ∧ 0 ≤ atoiV t ∧ (itoaB (atoiV t)).toList = t.toList then atoiV t else -1

theorem number_ok (gw : World) (hg : Glob gw) (t : ByteArray) (ht : t.size ≤ 1000000) (ho : atoiOk t = true) : VCall Tryz.prog gw (gw.heap.size) 44 [.one (.c (.string t))] (.one (.c (.int .i64 (numF t)))) [] := by
  have he := atoiE_ok ho
  refine vcall_of [.tmp 2] Tryz.func44 rfl rfl Tryz.ntmps44 rfl (by simp) ?_
  intro C hP hnt hgw hgb hfull
  refine vwp_seq_region rfl fun K hK => ?_
  simp (dsimp := false) only [push_cast, hP, hnt, hgw, hgb, sevalprocAttr, he]
  refine hK _ ?_; clear hK
  refine vwp_seq_region rfl fun K hK => ?_
  simp (dsimp := false) only [push_cast, hP, hnt, hgw, hgb, sevalprocAttr, he]
  refine .inl (callE_intro (atoi_call gw hg t ht) (.inl ⟨atoiE_strict t, rfl⟩) ?_)
  simp (dsimp := false) only [push_cast, hP, hnt, hgw, hgb, sevalprocAttr, he]
  refine hK _ ?_; clear hK
  refine vwp_seq fun K hK => ?_
  refine vwp_seq_regionG fun K hK => ?_
  simp (dsimp := false) only [push_cast, hP, hnt, hgw, hgb, sevalprocAttr, he]
  refine guardR_may (by simp (dsimp := false) only [push_cast, hP, hnt, hgw, hgb, sevalprocAttr, he, List.getElem?_cons_zero, List.getElem?_cons_succ]; rfl) ?_
  simp (dsimp := false) only [push_cast, hP, hnt, hgw, hgb, sevalprocAttr, he]
  refine guardR_may (by simp (dsimp := false) only [push_cast, hP, hnt, hgw, hgb, sevalprocAttr, he, List.getElem?_cons_zero, List.getElem?_cons_succ]; rfl) ?_
  simp (dsimp := false) only [push_cast, hP, hnt, hgw, hgb, sevalprocAttr, he]
  refine guardR_may (by simp (dsimp := false) only [push_cast, hP, hnt, hgw, hgb, sevalprocAttr, he, List.getElem?_cons_zero, List.getElem?_cons_succ]; rfl) ?_
  simp (dsimp := false) only [push_cast, hP, hnt, hgw, hgb, sevalprocAttr, he]
  refine guardR_may (by simp (dsimp := false) only [push_cast, hP, hnt, hgw, hgb, sevalprocAttr, he, List.getElem?_cons_zero, List.getElem?_cons_succ]; rfl) ?_
  simp (dsimp := false) only [push_cast, hP, hnt, hgw, hgb, sevalprocAttr, he]
  refine callE_intro (itoaG_call gw hg _ (atoiV_range t).1 (atoiV_range t).2) (.inl ⟨rfl, rfl⟩) ?_
  refine ⟨rfl, ?_⟩
  simp (dsimp := false) only [push_cast, hP, hnt, hgw, hgb, sevalprocAttr, he]
  refine guardR_may (by simp (dsimp := false) only [push_cast, hP, hnt, hgw, hgb, sevalprocAttr, he, List.getElem?_cons_zero, List.getElem?_cons_succ]; rfl) ?_
  simp (dsimp := false) only [push_cast, hP, hnt, hgw, hgb, sevalprocAttr, he]
  refine guardR_may (by simp (dsimp := false) only [push_cast, hP, hnt, hgw, hgb, sevalprocAttr, he, List.getElem?_cons_zero, List.getElem?_cons_succ]; rfl) ?_
  simp (dsimp := false) only [push_cast, hP, hnt, hgw, hgb, sevalprocAttr, he]
  refine hK _ ?_; clear hK
  refine vwp_cond (b := _) (by simp (dsimp := false) only [push_cast, hP, hnt, hgw, hgb, sevalprocAttr, he]; rfl) (fun rb0 => ?_) (fun rb0 => ?_)
  · have hb0 := rb0
    try simp only [beq_iff_eq, bne_iff_ne, ne_eq, bne_eq_false_iff_eq, beq_eq_false_iff_ne, decide_eq_true_eq, decide_eq_false_iff_not, Bool.not_eq_true', Bool.not_eq_false', Bool.or_eq_true, Bool.and_eq_true, Bool.or_eq_false_iff, Bool.and_eq_false_iff] at hb0
    refine vwp_seq_region rfl fun K hK => ?_
    simp (dsimp := false) only [push_cast, hP, hnt, hgw, hgb, sevalprocAttr, he]
    refine hK _ ?_; clear hK
    refine vwp_ret ?_
    refine ret_free (by simp (dsimp := false) only [push_cast, hP, hnt, hgw, hgb, sevalprocAttr, he]; rfl) (by simp (dsimp := false) only [push_cast, hP, hnt, hgw, hgb, sevalprocAttr, he]) ?_
    rw [show numF t = -1 from if_neg (fun h => by rcases hb0 with g | g
                                                  · omega
                                                  · exact g h.2.2)]; rfl
  · have hb0 := rb0
    try simp only [beq_iff_eq, bne_iff_ne, ne_eq, bne_eq_false_iff_eq, beq_eq_false_iff_ne, decide_eq_true_eq, decide_eq_false_iff_not, Bool.not_eq_true', Bool.not_eq_false', Bool.or_eq_true, Bool.and_eq_true, Bool.or_eq_false_iff, Bool.and_eq_false_iff] at hb0
    refine vwp_skip ?_
    apply_assumption
    refine vwp_seq_region rfl fun K hK => ?_
    simp (dsimp := false) only [push_cast, hP, hnt, hgw, hgb, sevalprocAttr, he]
    refine hK _ ?_; clear hK
    refine vwp_ret ?_
    refine ret_free (by simp (dsimp := false) only [push_cast, hP, hnt, hgw, hgb, sevalprocAttr, he]; rfl) (by simp (dsimp := false) only [push_cast, hP, hnt, hgw, hgb, sevalprocAttr, he]) ?_
    rw [show numF t = atoiV t from if_pos ⟨ho, by omega, hb0.2⟩]; rfl
theorem number_bad (gw : World) (hg : Glob gw) (t : ByteArray) (ht : t.size ≤ 1000000) (ho : atoiOk t = false) : VCall Tryz.prog gw (gw.heap.size) 44 [.one (.c (.string t))] (.one (.c (.int .i64 (numF t)))) [] := by
  have he := atoiE_bad ho
  refine vcall_of [.tmp 2] Tryz.func44 rfl rfl Tryz.ntmps44 rfl (by simp) ?_
  intro C hP hnt hgw hgb hfull
  refine vwp_seq_region rfl fun K hK => ?_
  simp (dsimp := false) only [push_cast, hP, hnt, hgw, hgb, sevalprocAttr, he]
  refine hK _ ?_; clear hK
  refine vwp_seq_region rfl fun K hK => ?_
  simp (dsimp := false) only [push_cast, hP, hnt, hgw, hgb, sevalprocAttr, he]
  refine .inl (callE_intro (atoi_call gw hg t ht) (.inl ⟨atoiE_strict t, rfl⟩) ?_)
  simp (dsimp := false) only [push_cast, hP, hnt, hgw, hgb, sevalprocAttr, he]
  refine hK _ ?_; clear hK
  refine vwp_seq fun K hK => ?_
  refine vwp_seq_regionG fun K hK => ?_
  simp (dsimp := false) only [push_cast, hP, hnt, hgw, hgb, sevalprocAttr, he]
  refine guardR_may (by simp (dsimp := false) only [push_cast, hP, hnt, hgw, hgb, sevalprocAttr, he, List.getElem?_cons_zero, List.getElem?_cons_succ]; rfl) ?_
  simp (dsimp := false) only [push_cast, hP, hnt, hgw, hgb, sevalprocAttr, he]
  refine guardR_may (by simp (dsimp := false) only [push_cast, hP, hnt, hgw, hgb, sevalprocAttr, he, List.getElem?_cons_zero, List.getElem?_cons_succ]; rfl) ?_
  simp (dsimp := false) only [push_cast, hP, hnt, hgw, hgb, sevalprocAttr, he]
  refine guardR_may (by simp (dsimp := false) only [push_cast, hP, hnt, hgw, hgb, sevalprocAttr, he, List.getElem?_cons_zero, List.getElem?_cons_succ]; rfl) ?_
  simp (dsimp := false) only [push_cast, hP, hnt, hgw, hgb, sevalprocAttr, he]
  refine guardR_may (by simp (dsimp := false) only [push_cast, hP, hnt, hgw, hgb, sevalprocAttr, he, List.getElem?_cons_zero, List.getElem?_cons_succ]; rfl) ?_
  simp (dsimp := false) only [push_cast, hP, hnt, hgw, hgb, sevalprocAttr, he]
  refine callE_intro (itoaG_call gw hg _ (atoiV_range t).1 (atoiV_range t).2) (.inl ⟨rfl, rfl⟩) ?_
  refine ⟨rfl, ?_⟩
  simp (dsimp := false) only [push_cast, hP, hnt, hgw, hgb, sevalprocAttr, he]
  refine guardR_may (by simp (dsimp := false) only [push_cast, hP, hnt, hgw, hgb, sevalprocAttr, he, List.getElem?_cons_zero, List.getElem?_cons_succ]; rfl) ?_
  simp (dsimp := false) only [push_cast, hP, hnt, hgw, hgb, sevalprocAttr, he]
  refine guardR_may (by simp (dsimp := false) only [push_cast, hP, hnt, hgw, hgb, sevalprocAttr, he, List.getElem?_cons_zero, List.getElem?_cons_succ]; rfl) ?_
  simp (dsimp := false) only [push_cast, hP, hnt, hgw, hgb, sevalprocAttr, he]
  refine hK _ ?_; clear hK
  refine vwp_cond (b := _) (by simp (dsimp := false) only [push_cast, hP, hnt, hgw, hgb, sevalprocAttr, he]; rfl) (fun rb0 => ?_) (fun rb0 => ?_)
  · have hb0 := rb0
    try simp only [beq_iff_eq, bne_iff_ne, ne_eq, bne_eq_false_iff_eq, beq_eq_false_iff_ne, decide_eq_true_eq, decide_eq_false_iff_not, Bool.not_eq_true', Bool.not_eq_false', Bool.or_eq_true, Bool.and_eq_true, Bool.or_eq_false_iff, Bool.and_eq_false_iff] at hb0
    refine vwp_seq_region rfl fun K hK => ?_
    simp (dsimp := false) only [push_cast, hP, hnt, hgw, hgb, sevalprocAttr, he]
    refine hK _ ?_; clear hK
    refine vwp_ret ?_
    refine ret_free (by simp (dsimp := false) only [push_cast, hP, hnt, hgw, hgb, sevalprocAttr, he]; rfl) (by simp (dsimp := false) only [push_cast, hP, hnt, hgw, hgb, sevalprocAttr, he]) ?_
    rw [show numF t = -1 from if_neg (fun h => by rw [ho] at h; cases h.1)]; rfl
  · have hb0 := rb0
    try simp only [beq_iff_eq, bne_iff_ne, ne_eq, bne_eq_false_iff_eq, beq_eq_false_iff_ne, decide_eq_true_eq, decide_eq_false_iff_not, Bool.not_eq_true', Bool.not_eq_false', Bool.or_eq_true, Bool.and_eq_true, Bool.or_eq_false_iff, Bool.and_eq_false_iff] at hb0
    refine vwp_skip ?_
    apply_assumption
    refine vwp_seq_region rfl fun K hK => ?_
    simp (dsimp := false) only [push_cast, hP, hnt, hgw, hgb, sevalprocAttr, he]
    refine hK _ ?_; clear hK
    refine vwp_ret ?_
    refine ret_free (by simp (dsimp := false) only [push_cast, hP, hnt, hgw, hgb, sevalprocAttr, he]; rfl) (by simp (dsimp := false) only [push_cast, hP, hnt, hgw, hgb, sevalprocAttr, he]) ?_
    cases rb0
theorem number_call (gw : World) (hg : Glob gw) (t : ByteArray) (ht : t.size ≤ 1000000) : VCall Tryz.prog gw gw.heap.size 44 [.one (.c (.string t))] (.one (.c (.int .i64 (numF t)))) [] := by
  cases ho : atoiOk t with
  | true => exact number_ok gw hg t ht ho
  | false => exact number_bad gw hg t ht ho

end Go.Vm
end

section
namespace Go.Vm
open Go Go.RowKit Go.Proofs
set_option maxRecDepth 100000
set_option linter.unusedSimpArgs false
set_option linter.unusedVariables false
set_option maxHeartbeats 4000000

def bit1 (b : UInt8) : Bool := ((b.toNat : Int) == 49)
def unbitsF (s : ByteArray) : List Bool := if s.toList = (⟨#[45]⟩ : ByteArray).toList then [] else s.data.toList.map bit1
theorem boolP_free (l : List Bool) : PC.frees (l.map (fun b => PC.c (Value.bool b))) = true := by rw [frees_map]; simp [PC.free]
def rowB (l : List Bool) : Blk := .arr 4 1 l.length (l.map (fun b => PC.c (Value.bool b)))
theorem bits_next {s : ByteArray} {i : Int} (h0 : 0 ≤ i) (h1 : i < (s.size : Int)) : (s.data.toList.take (i + 1).toNat).map bit1 = (s.data.toList.take i.toNat).map bit1 ++ [((byteAt s i.toNat).toNat : Int) == 49] := by
  rw [take_next h0 (by rw [← size_list]; exact h1), List.map_append]; rfl
theorem bits_len {s : ByteArray} {i : Int} (h0 : 0 ≤ i) (h1 : i ≤ (s.size : Int)) : ((s.data.toList.take i.toNat).map bit1).length = i.toNat := by
  rw [List.length_map, len_take h0 (by rw [← size_list]; exact h1)]

theorem unbits_call (gw : World) (gb : Nat) (s : ByteArray) (hs : s.size ≤ 100000) : VCall Tryz.prog gw (gb) 43 [.one (.c (.string s))] (.one (.sl true (unbitsF s).length ((unbitsF s).map (fun b => PC.c (Value.bool b))))) [] := by
  refine vcall_of [.tmp 2] Tryz.func43 rfl rfl Tryz.ntmps43 rfl (by simp) ?_
  intro C hP hnt hgw hgb hfull
  refine vwp_seq_region rfl fun K hK => ?_
  simp (dsimp := false) only [push_cast, hP, hnt, hgw, hgb, sevalprocAttr]
  refine hK _ ?_; clear hK
  refine vwp_seq fun K hK => ?_
  refine vwp_seq_region rfl fun K hK => ?_
  simp (dsimp := false) only [push_cast, hP, hnt, hgw, hgb, sevalprocAttr]
  refine hK _ ?_; clear hK
  refine vwp_cond (b := _) (by simp (dsimp := false) only [push_cast, hP, hnt, hgw, hgb, sevalprocAttr]; rfl) (fun rb0 => ?_) (fun rb0 => ?_)
  · have hb0 := rb0
    try simp only [beq_iff_eq, bne_iff_ne, ne_eq, bne_eq_false_iff_eq, beq_eq_false_iff_ne, decide_eq_true_eq, decide_eq_false_iff_not, Bool.not_eq_true', Bool.not_eq_false', Bool.or_eq_true, Bool.and_eq_true, Bool.or_eq_false_iff, Bool.and_eq_false_iff] at hb0
    refine vwp_seq_region rfl fun K hK => ?_
    simp (dsimp := false) only [push_cast, hP, hnt, hgw, hgb, sevalprocAttr]
    refine hK _ ?_; clear hK
    refine vwp_ret ?_
    refine ret_conv [] [] (by simp (dsimp := false) only [push_cast, hP, hnt, hgw, hgb, sevalprocAttr]; rfl) (by simp) (by simp) (by first | decide | simp) ?_ ?_
    · simp only [pack]
      rw [show unbitsF s = [] from if_pos hb0]
      repeat' (first | exact ConvVs.nil | exact ConvL.nil | refine ConvV.tup ?_ | refine ConvVs.cons ?_ ?_ | (refine ConvV.self ?_; simp only [push_cast, boolP_free]; done) | refine ConvV.one ?_ | refine ConvV.agg ?_ | (refine ConvL.free ?_; simp only [push_cast, boolP_free]; done) | refine ConvL.append ?_ ?_ | refine ConvL.cons ?_ ?_ | exact Conv.free rfl | exact Conv.nil | (refine Conv.own ?_; simp; done) | (refine Conv.loc ?_; simp; done) | refine Conv.frz (by simp) (by simp (dsimp := false) only [push_cast, ↓reduceIte, Nat.reduceEqDiff, Nat.reduceAdd, reduceCtorEq] <;> rfl) ?_ | refine Conv.sl (by simp) ?_ | refine Conv.fn ?_)
    · exact rb_nil
  · have hb0 := rb0
    try simp only [beq_iff_eq, bne_iff_ne, ne_eq, bne_eq_false_iff_eq, beq_eq_false_iff_ne, decide_eq_true_eq, decide_eq_false_iff_not, Bool.not_eq_true', Bool.not_eq_false', Bool.or_eq_true, Bool.and_eq_true, Bool.or_eq_false_iff, Bool.and_eq_false_iff] at hb0
    refine vwp_skip ?_
    apply_assumption
    refine vwp_seq_region rfl fun K hK => ?_
    simp (dsimp := false) only [push_cast, hP, hnt, hgw, hgb, sevalprocAttr]
    refine hK _ ?_; clear hK
    refine vwp_seq fun K hK => ?_
    refine vwp_seq_region rfl fun K hK => ?_
    simp (dsimp := false) only [push_cast, hP, hnt, hgw, hgb, sevalprocAttr]
    refine hK _ ?_; clear hK
    refine vwp_wk (wk_nil_slot (t := 3) (d := 3) 4 1 (by first | (simp (dsimp := false) only [push_cast, hP, hnt, hgw, hgb, sevalprocAttr]; rfl) | (simp (dsimp := false) only [push_cast, hP, hnt, hgw, hgb, sevalprocAttr]; done)) (by first | (simp (dsimp := false) only [push_cast, hP, hnt, hgw, hgb, sevalprocAttr]; done) | (simp (dsimp := false) only [push_cast, hP, hnt, hgw, hgb, sevalprocAttr]; rfl))) ?_
    simp (dsimp := false) only [push_cast, hP, hnt, hgw, hgb, sevalprocAttr]
    refine vwp_block ?_
    refine vwp_loop (fun m σ => ∃ (i : Int), m = (s.size - i).toNat ∧ ((0 ≤ i) ∧ (i ≤ s.size)) ∧ σ = St.of [(0, .one (.c (.string s))), (3, .one (.own (4, 0))), (8, .one (.c (.int .i64 s.size))), (9, .one (.c (.int .i64 i)))] [((4, 0), rowB ((s.data.toList.take i.toNat).map bit1))] [3]) _ ⟨_, ?_, 0, rfl, ?_, rfl⟩ ?_
    · refine wk_conv [] [((4, 0), (4, 0))] (by simp) (by simp) (by decide) ?_ ?_
      · refine hf_cons (by simp (dsimp := false) only [push_cast, ↓reduceIte, Nat.reduceEqDiff, Nat.reduceAdd, reduceCtorEq] <;> rfl) (by exact ConvV.self rfl) ?_
        refine hf_cons (by simp (dsimp := false) only [push_cast, ↓reduceIte, Nat.reduceEqDiff, Nat.reduceAdd, reduceCtorEq] <;> rfl) (by exact .one (.own (by simp))) ?_
        refine hf_cons (by simp (dsimp := false) only [push_cast, ↓reduceIte, Nat.reduceEqDiff, Nat.reduceAdd, reduceCtorEq] <;> rfl) (by exact ConvV.self rfl) ?_
        refine hf_cons (by simp (dsimp := false) only [push_cast, ↓reduceIte, Nat.reduceEqDiff, Nat.reduceAdd, reduceCtorEq] <;> rfl) (by exact ConvV.self rfl) ?_
        exact hf_nil
      · refine hh_cons (i := (4, 0)) (by simp) (by simp) (by simp (dsimp := false) only [push_cast, ↓reduceIte, Nat.reduceEqDiff, Nat.reduceAdd, reduceCtorEq] <;> rfl) (by exact ConvB.arr (ConvL.free (boolP_free []))) ?_
        exact hh_nil
    · exact ⟨by omega, by omega⟩
    · rintro m τ ⟨i, hm, ⟨hi0, hi1⟩, rfl⟩ K hL0
      have hw := fun h : i < (s.size : Int) => wrap_next hi0 h (by omega)
      have hlen := bits_len (s := s) hi0 hi1
      have hz3 : ((s.data.toList.take i.toNat).map bit1).length + 1 ≤ 140737488355328 := by omega
      have hz4 : (((s.data.toList.take i.toNat).map bit1).length + 1) * 1 ≤ 140737488355328 := by omega
      refine vwp_seq_region rfl fun K hK => ?_
      simp (dsimp := false) only [push_cast, hP, hnt, hgw, hgb, sevalprocAttr, hi0, rowB, hz3, hz4]
      refine hK _ ?_; clear hK
      refine vwp_seq fun K hK => ?_
      refine vwp_cond (b := _) (by simp (dsimp := false) only [push_cast, hP, hnt, hgw, hgb, sevalprocAttr, hi0, rowB, hz3, hz4]; rfl) (fun rb1 => ?_) (fun rb1 => ?_)
      · have hb1 := rb1
        try simp only [beq_iff_eq, bne_iff_ne, ne_eq, bne_eq_false_iff_eq, beq_eq_false_iff_ne, decide_eq_true_eq, decide_eq_false_iff_not, Bool.not_eq_true', Bool.not_eq_false', Bool.or_eq_true, Bool.and_eq_true, Bool.or_eq_false_iff, Bool.and_eq_false_iff] at hb1
        have hw := hw hb1
        have hbx := hb1
        refine vwp_skip ?_
        apply_assumption
        refine vwp_seq fun K hK => ?_
        refine vwp_block ?_
        refine vwp_seq_region rfl fun K hK => ?_
        simp (dsimp := false) only [push_cast, hP, hnt, hgw, hgb, sevalprocAttr, hi0, rowB, hz3, hz4, hw, hb1]
        refine hK _ ?_; clear hK
        refine vwp_region rfl ?_
        simp (dsimp := false) only [push_cast, hP, hnt, hgw, hgb, sevalprocAttr, hi0, rowB, hz3, hz4, hw, hb1]
        apply_assumption
        refine vwp_region rfl ?_
        simp (dsimp := false) only [push_cast, hP, hnt, hgw, hgb, sevalprocAttr, hi0, rowB, hz3, hz4, hw, hb1]
        refine hL0 _ _ _ ?_ ?_ ⟨i + 1, rfl, ?_, rfl⟩
        · omega
        · refine wk_conv [] [((19, 0), (4, 0))] (by simp) (by simp) (by decide) ?_ ?_
          · refine hf_cons (by simp (dsimp := false) only [push_cast, ↓reduceIte, Nat.reduceEqDiff, Nat.reduceAdd, reduceCtorEq, hi0, rowB, hz3, hz4, hw, hb1] <;> rfl) (by exact ConvV.self rfl) ?_
            refine hf_cons (by simp (dsimp := false) only [push_cast, ↓reduceIte, Nat.reduceEqDiff, Nat.reduceAdd, reduceCtorEq, hi0, rowB, hz3, hz4, hw, hb1] <;> rfl) (by exact .one (.own (by simp))) ?_
            refine hf_cons (by simp (dsimp := false) only [push_cast, ↓reduceIte, Nat.reduceEqDiff, Nat.reduceAdd, reduceCtorEq, hi0, rowB, hz3, hz4, hw, hb1] <;> rfl) (by exact ConvV.self rfl) ?_
            refine hf_cons (by simp (dsimp := false) only [push_cast, ↓reduceIte, Nat.reduceEqDiff, Nat.reduceAdd, reduceCtorEq, hi0, rowB, hz3, hz4, hw, hb1] <;> rfl) (by exact ConvV.self rfl) ?_
            exact hf_nil
          · refine hh_cons (i := (19, 0)) (by simp) (by simp) (by simp (dsimp := false) only [push_cast, ↓reduceIte, Nat.reduceEqDiff, Nat.reduceAdd, reduceCtorEq, hi0, rowB, hz3, hz4, hw, hb1] <;> rfl) (by rw [bits_next hi0 hbx]; simp only [rowB, List.map_append (f := fun b => PC.c (Value.bool b)), List.length_append]; exact ConvB.arr (ConvL.free (by rw [frees_append, boolP_free]; rfl))) ?_
            exact hh_nil
        · exact ⟨by omega, by omega⟩
      · have hb1 := rb1
        try simp only [beq_iff_eq, bne_iff_ne, ne_eq, bne_eq_false_iff_eq, beq_eq_false_iff_ne, decide_eq_true_eq, decide_eq_false_iff_not, Bool.not_eq_true', Bool.not_eq_false', Bool.or_eq_true, Bool.and_eq_true, Bool.or_eq_false_iff, Bool.and_eq_false_iff] at hb1
        have hend : s.data.toList.take i.toNat = s.data.toList := take_all (by rw [← size_list]; exact hb1)
        refine vwp_exit ?_
        simp only [thenQ, blockQ, Nat.reduceEqDiff, reduceIte]
        apply_assumption
        refine vwp_seq_region rfl fun K hK => ?_
        simp (dsimp := false) only [push_cast, hP, hnt, hgw, hgb, sevalprocAttr, hi0, rowB, hz3, hz4, hend]
        refine hK _ ?_; clear hK
        refine vwp_ret ?_
        refine ret_conv [(4, 0)] [] (by simp (dsimp := false) only [push_cast, hP, hnt, hgw, hgb, sevalprocAttr, hi0, rowB, hz3, hz4, hend]; rfl) (by simp) (by simp) (by first | decide | simp) ?_ ?_
        · simp only [pack]
          rw [show unbitsF s = s.data.toList.map bit1 from if_neg hb0]
          repeat' (first | exact ConvVs.nil | exact ConvL.nil | refine ConvV.tup ?_ | refine ConvVs.cons ?_ ?_ | (refine ConvV.self ?_; simp only [push_cast, boolP_free]; done) | refine ConvV.one ?_ | refine ConvV.agg ?_ | (refine ConvL.free ?_; simp only [push_cast, boolP_free]; done) | refine ConvL.append ?_ ?_ | refine ConvL.cons ?_ ?_ | exact Conv.free rfl | exact Conv.nil | (refine Conv.own ?_; simp; done) | (refine Conv.loc ?_; simp; done) | refine Conv.frz (by simp) (by simp (dsimp := false) only [push_cast, ↓reduceIte, Nat.reduceEqDiff, Nat.reduceAdd, reduceCtorEq, hi0, rowB, hz3, hz4, hend] <;> rfl) ?_ | refine Conv.sl (by simp) ?_ | refine Conv.fn ?_)
        · exact rb_nil
end Go.Vm
end

section
namespace Go.Vm
open Go Go.RowKit Go.Proofs
set_option maxRecDepth 100000
set_option linter.unusedSimpArgs false
set_option linter.unusedVariables false
set_option maxHeartbeats 4000000

def digA (n : Int) : ByteArray := if 0 ≤ n then digB n else ofBytes [IntKind.wrap .u8 (IntKind.wrap .i64 (48 + n.tmod 10))]
def numStep (n : Int) (b : UInt8) : Int := 10 * n + b.toNat - 48
def numGo (l : List UInt8) : Int := l.foldl numStep 0
def numR (t : ByteArray) : Int := if 0 ≤ numGo (t.data.toList.take 8) ∧ (digB (numGo (t.data.toList.take 8))).toList = t.toList then numGo (t.data.toList.take 8) else -1
end Go.Vm
end

section
namespace Go.Vm
open Go Go.RowKit Go.Proofs
set_option maxRecDepth 100000
set_option linter.unusedSimpArgs false
set_option linter.unusedVariables false
set_option maxHeartbeats 4000000

def restF (line word : ByteArray) : ByteArray := if line.size < word.size + 1 ∨ (line.extract 0 (word.size + 1)).toList ≠ (word ++ spB).toList then ⟨#[]⟩ else line.extract (word.size + 1) line.size
def splitGo (c : UInt8) : List UInt8 → List UInt8 → List (List UInt8)
  | [], _ => []
  | b :: r, acc => if b = c then acc :: splitGo c r [] else splitGo c r (acc ++ [b])
def splitR (s : ByteArray) (c : UInt8) : List ByteArray := (splitGo c s.data.toList []).map bOf
theorem ext_data (s : ByteArray) (a b : Nat) : (s.extract a b).data.toList = (s.data.toList.drop a).take (b - a) := by
  have := Lib.extract_toList s a b
  rwa [ByteArray.toList_eq] at this
structure SplitAt (s : ByteArray) (c : UInt8) (i fr : Int) (out : List ByteArray) : Prop where
  fr0 : 0 ≤ fr
  fr1 : fr ≤ i
  len : (out.length : Int) ≤ i
  eq : (out.map fun s => s.data.toList) ++ splitGo c (s.data.toList.drop i.toNat) ((s.data.toList.drop fr.toNat).take (i.toNat - fr.toNat)) = splitGo c s.data.toList []
theorem splitGo_size (c : UInt8) : ∀ (l acc : List UInt8), ∀ x ∈ splitGo c l acc, x.length ≤ acc.length + l.length
  | [], acc, x, h => by simp [splitGo] at h
  | b :: r, acc, x, h => by
    unfold splitGo at h
    split at h
    · rcases List.mem_cons.1 h with rfl | h
      · simp
      · have := splitGo_size c r [] x h; simp at this ⊢; omega
    · have := splitGo_size c r (acc ++ [b]) x h; simp at this ⊢; omega
theorem splitR_size {s : ByteArray} {c : UInt8} {n : Nat} (h : s.size ≤ n) : ∀ x ∈ splitR s c, x.size ≤ n := by
  intro x hx
  unfold splitR at hx
  obtain ⟨y, hy, rfl⟩ := List.mem_map.1 hx
  have := splitGo_size c s.data.toList [] y hy
  rw [bOf_size]
  rw [size_list] at h
  simp only [List.length_nil] at this; omega
end Go.Vm
end

section
namespace Go.Vm
open Go Go.RowKit Go.Proofs
set_option maxRecDepth 100000
set_option linter.unusedSimpArgs false
set_option linter.unusedVariables false
set_option maxHeartbeats 4000000

def ver0 : Ver := ⟨0, [], [], 0, 0, [], 0⟩
theorem extract_size_le (s : ByteArray) (a b : Nat) : (s.extract a b).size ≤ s.size := by
  rw [size_list, ext_data, size_list, List.length_take, List.length_drop]; omega
def prfStep (n i : Nat) (p : Ver) (line : ByteArray) : Ver :=
  if i = 0 then { p with skip := numR (restF line wskip) }
  else if i = 1 then { p with phases := numR (restF line wphases) }
  else if i + 1 < n then
    (if (splitR (restF line wand ++ spB) 32).length < 2 then { p with skip := -1 } else { p with ands := p.ands ++ [(numR (atI (splitR (restF line wand ++ spB) 32) 0), numR (atI (splitR (restF line wand ++ spB) 32) 1))] })
  else { p with lit := numR (restF line wlit) }
def prfGo (n : Nat) : Nat → List ByteArray → Ver → Ver
  | _, [], p => p
  | i, x :: r, p => prfGo n (i + 1) r (prfStep n i p x)
def prfF (l : List ByteArray) : Ver := prfGo l.length 0 l ver0
def rowA (l : List (Int × Int)) : Blk := .arr 23 2 l.length (l.flatMap fun g => [.c (.int .i64 g.1), .c (.int .i64 g.2)])
theorem ands_free (l : List (Int × Int)) : PC.frees (l.flatMap fun g => [.c (.int .i64 g.1), .c (.int .i64 g.2)]) = true := by
  rw [frees_flatMap]; simp [PC.frees, PC.free]
structure PrfAt (l : List ByteArray) (i : Int) (p : Ver) : Prop where
  eq : prfGo l.length i.toNat (l.drop i.toNat) p = prfF l
  len : (p.ands.length : Int) ≤ i
end Go.Vm
end
