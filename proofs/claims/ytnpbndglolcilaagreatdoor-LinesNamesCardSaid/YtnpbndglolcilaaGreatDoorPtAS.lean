/-
  Walks of the program's functions by the framework, and what they compute (PtAS). Conditions: each theorem's own premises. By an AI agent.
-/
import Derived.Test.YtnpbndglolcilaaGreatDoorPtAR
import Derived.Test.YtnpbndglolcilaaGreatDoorPtAP
section
namespace Go.Vm
open Go Go.RowKit Go.Proofs
set_option maxRecDepth 100000
set_option linter.unusedVariables false

theorem toList_inj {a b : ByteArray} : a.toList = b.toList ↔ a = b := ⟨bytes_ext, fun h => by rw [h]⟩

def refCheckG (n : ByteArray) (k : Int) : Int :=
  if n = nm0 ∨ n = nm1 ∨ n = nm2 ∨ n = nm3 ∨ n = nm4 ∨ n = nm5 then (if k < 0 ∨ 0 < k then 2 else 0)
  else if n = nPrefix then (if k < 1 ∨ 8 < k then 2 else 0)
  else if n = nPhases then (if k < 2 ∨ 4 < k then 2 else 0)
  else 12
theorem refCheckG_eq (n : ByteArray) (k : Int) : refCheckF n k = refCheckG n k := by simp only [refCheckF, refCheckG, toList_inj]

theorem check_eq (n : ByteArray) (k : Int) : checkF n k = refCheckF n k := by
  rw [refCheckG_eq]
  unfold checkF refCheckG
  simp only [toList_inj]
  by_cases h : Lib.containsS names8 n = true
  · have h' := (Lib.containsS_iff _ _).1 h
    simp only [names8, List.mem_cons, List.not_mem_nil, or_false] at h'
    have hne : ¬ Lib.containsS names8 n = false := by rw [h]; decide
    rw [if_neg hne]
    have e1 : ∀ m : ByteArray, (m = nm0 ∨ m = nm1 ∨ m = nm2 ∨ m = nm3 ∨ m = nm4 ∨ m = nm5) → ¬ m = nPrefix ∧ ¬ m = nPhases := by
      rintro m (rfl | rfl | rfl | rfl | rfl | rfl) <;> decide
    by_cases h6 : n = nm0 ∨ n = nm1 ∨ n = nm2 ∨ n = nm3 ∨ n = nm4 ∨ n = nm5
    · rw [if_pos h6, if_neg (e1 n h6).1, if_neg (e1 n h6).2]
    · rw [if_neg h6]
      have : n = nPrefix ∨ n = nPhases := by
        rcases h' with h' | h' | h' | h' | h' | h' | h' | h'
        · exact absurd (.inl h') h6
        · exact absurd (.inr (.inl h')) h6
        · exact absurd (.inr (.inr (.inl h'))) h6
        · exact absurd (.inr (.inr (.inr (.inl h')))) h6
        · exact absurd (.inr (.inr (.inr (.inr (.inl h'))))) h6
        · exact absurd (.inr (.inr (.inr (.inr (.inr h'))))) h6
        · exact .inl h'
        · exact .inr h'
      rcases this with rfl | rfl
      · rw [if_pos rfl, if_pos rfl]
      · have hpp : ¬ nPhases = nPrefix := by decide
        simp only [hpp, if_false, if_true]
  · have hno : ∀ m, m ∈ names8 → ¬ n = m := by
      rintro m hm rfl
      exact h ((Lib.containsS_iff _ _).2 hm)
    rw [if_pos (by simpa using h), if_neg, if_neg (hno nPrefix (by simp [names8, nPrefix])), if_neg (hno nPhases (by simp [names8, nPhases]))]
    rintro (h | h | h | h | h | h)
    · exact hno nm0 (by simp [names8, nm0]) h
    · exact hno nm1 (by simp [names8, nm1]) h
    · exact hno nm2 (by simp [names8, nm2]) h
    · exact hno nm3 (by simp [names8, nm3]) h
    · exact hno nm4 (by simp [names8, nm4]) h
    · exact hno nm5 (by simp [names8, nm5]) h

theorem digit_eq (k : Int) (h0 : 0 ≤ k) (h8 : k ≤ 8) : digitsB k = ofBytes [IntKind.wrap .u8 (IntKind.wrap .i64 (48 + k))] := by
  unfold digitsB
  rw [Lib.decDigits_one (by omega)]
  have : k = 0 ∨ k = 1 ∨ k = 2 ∨ k = 3 ∨ k = 4 ∨ k = 5 ∨ k = 6 ∨ k = 7 ∨ k = 8 := by omega
  rcases this with rfl | rfl | rfl | rfl | rfl | rfl | rfl | rfl | rfl <;> decide

theorem text_eq (n : ByteArray) (k : Int) : textF n k = refTextF n k := by
  unfold textF refTextF
  rw [check_eq]
  split
  · rfl
  · rename_i h
    have h0 : refCheckF n k = 0 := by simpa using h
    have hk := checkF_ok (n := n) (k := k) (by rw [check_eq]; exact h0)
    unfold writtenF
    by_cases hk0 : k = 0
    · rw [if_pos hk0, if_neg (by omega)]
    · rw [if_neg hk0, if_pos (by omega), digit_eq k hk.1 hk.2.1]

theorem back17 : ∀ p ∈ refPairs, refCheckG p.1 p.2 = 0 → cutN (writtenF p.1 p.2) = p.1 ∧ atoiV (cutR (writtenF p.1 p.2)) = p.2 := by
  decide +kernel

theorem mem_pairs {n : ByteArray} {k : Int} (h : checkF n k = 0) : (n, k) ∈ refPairs := by
  have hk := checkF_ok h
  have hn : n ∈ names8 := by
    unfold checkF at h
    split at h
    · cases h
    · rename_i hc
      exact (Lib.containsS_iff _ _).1 (by simpa using hc)
  unfold refPairs
  rw [List.mem_flatMap]
  refine ⟨n, hn, ?_⟩
  have : k = 0 ∨ k = 1 ∨ k = 2 ∨ k = 3 ∨ k = 4 ∨ k = 5 ∨ k = 6 ∨ k = 7 ∨ k = 8 := by omega
  rcases this with rfl | rfl | rfl | rfl | rfl | rfl | rfl | rfl | rfl <;> simp

theorem textP_written (p : ByteArray × Int) (h : checkF p.1 p.2 = 0) : textP p = writtenP p := by
  unfold textP
  rw [text_eq, refTextF, if_neg (by rw [← check_eq]; simp [h])]; rfl
theorem first_eq : ∀ l : List (ByteArray × Int), firstE l = firstR l
  | [] => rfl
  | p :: l => by unfold firstE firstR; rw [check_eq, first_eq l]
theorem checks_eq (l : List (ByteArray × Int)) : checksF l = checksR l := by unfold checksF checksR; rw [first_eq]
theorem passes_eq (l : List (ByteArray × Int)) : passesR l = passesF l := by
  unfold passesR passesF
  rw [← checks_eq]
  split
  · rfl
  · rename_i h
    have h : checksF l = 0 := by simpa using h
    unfold lstF
    rw [List.map_congr_left fun p hp => (textP_written p (firstE_mem (checksF_zero h).2 p hp)).symm]
theorem splitC_hit {c : UInt8} {s : ByteArray} {x r : List UInt8} (hs : s.data.toList = x ++ c :: r) (h : c ∉ x) : splitS s ⟨#[c]⟩ = bOf x :: splitS (bOf r) ⟨#[c]⟩ := by
  have hi : Lib.indexB s ⟨#[c]⟩ = (x.length : Int) := by
    show Lib.index s.data.toList [c] = _
    rw [hs]; exact index_hit c x r h
  have hsz : s.size = x.length + (r.length + 1) := by rw [size_list, hs]; simp
  have h1 : (⟨#[c]⟩ : ByteArray).size = 1 := rfl
  have e1 : s.extract 0 (x.length + 0) = bOf x := bOf_ext (by rw [ext_data, hs]; simp)
  have e2 : s.extract (x.length + (⟨#[c]⟩ : ByteArray).size) s.size = bOf r := bOf_ext (by
    rw [ext_data, hs, hsz, h1]
    have h3 : (x ++ c :: r).drop (x.length + 1) = r := by simp
    rw [h3, List.take_of_length_le (by omega)])
  unfold splitS
  rw [Lib.countB_hit s ⟨#[c]⟩ x.length (by rw [h1]; omega) hi, Nat.add_comm, Lib.splitB_hit ⟨#[c]⟩ 0 _ s x.length hi, e1, e2]
theorem splitC_miss {c : UInt8} {s : ByteArray} (h : c ∉ s.data.toList) : splitS s ⟨#[c]⟩ = [s] := by
  have hi : Lib.indexB s ⟨#[c]⟩ = -1 := index_miss c _ h
  unfold splitS
  exact Lib.splitB_miss ⟨#[c]⟩ 0 _ s hi
theorem dec_len_k : ∀ k u, u < 10 ^ (k + 1) → (Lib.decDigits u).length ≤ k + 1
  | 0, u, h => by rw [Lib.decDigits_one (by simpa using h)]; simp
  | k + 1, u, h => by
    by_cases h1 : u < 10
    · rw [Lib.decDigits_one h1]; simp
    · rw [Lib.decDigits, dif_neg h1, List.length_append]
      have := dec_len_k k (u / 10) (by rw [Nat.pow_succ] at h; omega)
      simp; omega
theorem numF_digL {n : Int} (h0 : 0 ≤ n) (h1 : n ≤ 1000000) : numF (digB n) = n := by
  have hp := parse_dec n.toNat (by omega)
  have ha : Lib.atoiAll (Lib.decDigits n.toNat) = .ok n := by
    have hd := dec_digits n.toNat
    have hne := dec_ne n.toNat
    unfold Lib.atoiAll
    split
    · rename_i h; exact absurd h hne
    · rename_i c r h
      have hc := hd c (by rw [h]; simp)
      simp only
      rw [if_neg (by omega), Lib.parseMag, if_neg hne, hp]
      simp only
      rw [if_neg (by omega), if_neg (by omega), if_neg (by omega)]
      congr 1; omega
  have hv : atoiV (digB n) = n := by unfold atoiV; rw [digB_data, ha]
  have ho : atoiOk (digB n) = true := by unfold atoiOk; rw [digB_data, ha]
  unfold numF
  rw [if_pos ⟨ho, by rw [hv]; exact h0, by rw [hv, digB_eq h0]⟩, hv]
theorem numR_digL {n : Int} (h0 : 0 ≤ n) (h1 : n ≤ 1000000) : numR (digB n) = n := by
  have ht : (digB n).data.toList.take 8 = Lib.decDigits n.toNat := by
    rw [digB_data, List.take_of_length_le]
    have := dec_len_k 6 n.toNat (by omega); omega
  have hn : numGo ((digB n).data.toList.take 8) = n := by rw [ht, numGo_dec]; omega
  unfold numR
  rw [hn, if_pos ⟨h0, rfl⟩]
theorem eng_data {x : Eng} (h : engP x) : (engT x).data.toList = (engW x).data.toList ++ 32 :: ((digB x.num).data.toList ++ 32 :: (digB x.bud).data.toList) := by
  unfold engT
  rw [digB_eq h.1, digB_eq (eng_num h).1, data_app, data_app, data_app, data_app, sp_data]
  simp
theorem engW_no (x : Eng) : (32 : UInt8) ∉ (engW x).data.toList := by unfold engW; split <;> decide
theorem bOf_self (s : ByteArray) : bOf s.data.toList = s := (bOf_ext rfl).symm
theorem PE_eng {x : Eng} (h : engP x) : PE (engT x) = [engW x, digB x.num, digB x.bud] := by
  unfold PE
  rw [splitC_hit (eng_data h) (engW_no x), bOf_self, splitC_hit (s := bOf _) rfl (no_dig (by decide) x.num), bOf_self, splitC_miss (c := 32) (s := bOf (digB x.bud).data.toList) (no_dig (by decide) x.bud), bOf_self]
theorem PR_eng {x : Eng} (h : engP x) : PR (engT x) = [engW x, digB x.num, digB x.bud] := by
  unfold PR
  rw [pieces_hit (eng_data h) (engW_no x), bOf_self, pieces_hit (s := bOf _) rfl (no_dig (by decide) x.num), bOf_self]
  have hm : Lib.indexByte (bOf (digB x.bud).data.toList).data.toList 32 < 0 := by
    apply Int.not_le.1
    intro hge
    obtain ⟨y, r, e, _⟩ := indexByte_hit 32 _ hge
    exact no_dig (c := 32) (by decide) x.bud (by rw [show (digB x.bud).data.toList = (bOf (digB x.bud).data.toList).data.toList from rfl, e]; simp)
  rw [pieces_miss hm, bOf_self]
theorem engW_back (x : Eng) : ((engW x).toList == (⟨#[112, 100, 114]⟩ : ByteArray).toList) = x.pdr := by
  unfold engW
  cases x.pdr
  · show ((bOf [98, 109, 99]).toList == (bOf [112, 100, 114]).toList) = false
    rw [bOf_toList, bOf_toList]; decide
  · show ((bOf [112, 100, 114]).toList == (bOf [112, 100, 114]).toList) = true
    rw [bOf_toList]; decide
theorem engF_back {x : Eng} (h : engP x) : engOf numF (PE (engT x)) = x := by
  have h1 := eng_num h
  rw [PE_eng h]
  show Eng.mk ((engW x).toList == (⟨#[112, 100, 114]⟩ : ByteArray).toList) (numF (digB x.num)) (numF (digB x.bud)) = x
  rw [engW_back, numF_digL h1.1 (by omega), numF_digL h.1 (by have := h.2.1; omega)]
theorem engR_back {x : Eng} (h : engP x) : engOf numR (PR (engT x)) = x := by
  have h1 := eng_num h
  rw [PR_eng h]
  show Eng.mk ((engW x).toList == (⟨#[112, 100, 114]⟩ : ByteArray).toList) (numR (digB x.num)) (numR (digB x.bud)) = x
  rw [engW_back, numR_digL h1.1 (by omega), numR_digL h.1 (by have := h.2.1; omega)]
theorem readEng_of {x : Eng} (h : engP x) : readEngF (engT x) = (x, 0) ∧ readEngR (engT x) = (x, 0) := by
  constructor
  · rw [readEng_ok (by rw [PE_eng h]; rfl) (by rw [engF_back h, engineF_ok (engE_ok h)]; simp), engF_back h]
  · rw [readEngR_ok (by rw [PR_eng h]; rfl) (by rw [engR_back h, engE_ok h, engSA_eq h]; simp), engR_back h]
theorem readEng_cases (s : ByteArray) : readEngF s = (engZ, 12) ∨ ∃ x, engP x ∧ s = engT x ∧ readEngF s = (x, 0) := by
  unfold readEngF
  split
  · exact .inl rfl
  · split
    · exact .inl rfl
    · rename_i h
      simp only [not_or, ne_eq, Classical.not_not] at h
      have hz : engE (engOf numF (PE s)) = 0 := by
        apply Classical.byContradiction
        intro hz
        rw [engineF_bad hz] at h
        exact hz h.1
      rw [engineF_ok hz] at h
      exact .inr ⟨_, engE_zero hz, toList_eq h.2.symm, rfl⟩
end Go.Vm
end

section
namespace Go.Vm
open Go Go.RowKit Go.Proofs
set_option maxRecDepth 100000
set_option linter.unusedSimpArgs false
set_option linter.unusedVariables false
set_option maxHeartbeats 4000000

def runV : Ver := ⟨2, [true, false], [[]], 0, 0, [], 0⟩
theorem fit_run : Fit runV := fit_of (by decide)
def saysVF (v : Ver) (s : ByteArray) : Bool :=
  ((verdictF v).2 == 0) && ((verdictF v).1.toList == s.toList) && ((readVF s).2 == 0) && sameV v (readVF s).1
def saysPF (l : List (ByteArray × Int)) (s : ByteArray) : Bool :=
  ((passesF l).2 == 0) && ((passesF l).1.toList == s.toList) && ((readPassF s).2 == 0) && decide (l = (readPassF s).1)
theorem run_call (gw : World) (gb : Nat) : VCall Tryz.prog gw (gb) 35 [] (.agg (runV.pcs true)) [] := by
  refine vcall_of [.cell 0 34] Tryz.func35 rfl rfl Tryz.ntmps35 rfl (by simp) ?_
  intro C hP hnt hgw hgb hfull
  refine vwp_seq_region rfl fun K hK => ?_
  simp (dsimp := false) only [push_cast, hP, hnt, hgw, hgb, Nat.reduceLT, Nat.reduceEqDiff, Nat.reduceAdd, Nat.reduceSub, Nat.reduceMul, Nat.reduceLeDiff, ↓reduceIte, reduceCtorEq, runV]
  refine hK _ ?_; clear hK
  refine vwp_seq_region rfl fun K hK => ?_
  simp (dsimp := false) only [push_cast, hP, hnt, hgw, hgb, Nat.reduceLT, Nat.reduceEqDiff, Nat.reduceAdd, Nat.reduceSub, Nat.reduceMul, Nat.reduceLeDiff, ↓reduceIte, reduceCtorEq, runV]
  refine hK _ ?_; clear hK
  refine vwp_ret ?_
  refine ret_conv [(2, 0), (3, 0)] [] (by simp (dsimp := false) only [push_cast, hP, hnt, hgw, hgb, Nat.reduceLT, Nat.reduceEqDiff, Nat.reduceAdd, Nat.reduceSub, Nat.reduceMul, Nat.reduceLeDiff, ↓reduceIte, reduceCtorEq, runV]; rfl) (by simp) (by simp) (by first | decide | simp) ?_ ?_
  · simp only [pack]
    repeat' (first | exact ConvVs.nil | exact ConvL.nil | refine ConvV.tup ?_ | refine ConvVs.cons ?_ ?_ | (refine ConvV.self ?_; simp only [push_cast, bbP_free, boolP_free]; done) | refine ConvV.one ?_ | refine ConvV.agg ?_ | (refine ConvL.free ?_; simp only [push_cast, bbP_free, boolP_free]; done) | refine ConvL.append ?_ ?_ | refine ConvL.cons ?_ ?_ | exact Conv.free rfl | exact Conv.nil | (refine Conv.own ?_; simp; done) | (refine Conv.loc ?_; simp; done) | refine Conv.frz (by simp) (by simp (dsimp := false) only [push_cast, ↓reduceIte, Nat.reduceEqDiff, Nat.reduceAdd, reduceCtorEq, runV] <;> rfl) ?_ | refine Conv.sl (by simp) ?_ | refine Conv.fn ?_)
  · exact rb_nil
theorem saysV_call (gw : World) (hg : Glob gw) (v : Ver) (hf : Fit v) (s : ByteArray) (hs : s.size ≤ 90000) : VCall Tryz.prog gw (gw.heap.size) 5 [.agg (v.pcs false), .one (.c (.string s))] (.one (.c (.bool (saysVF v s)))) [] := by
  refine vcall_of [.tmp 4] Tryz.func5 rfl rfl Tryz.ntmps5 rfl (by simp) ?_
  intro C hP hnt hgw hgb hfull
  refine vwp_seq_region rfl fun K hK => ?_
  simp (dsimp := false) only [push_cast, hP, hnt, hgw, hgb, Nat.reduceLT, Nat.reduceEqDiff, Nat.reduceAdd, Nat.reduceSub, Nat.reduceMul, Nat.reduceLeDiff, ↓reduceIte, reduceCtorEq]
  refine hK _ ?_; clear hK
  refine vwp_seq_region rfl fun K hK => ?_
  simp (dsimp := false) only [push_cast, hP, hnt, hgw, hgb, Nat.reduceLT, Nat.reduceEqDiff, Nat.reduceAdd, Nat.reduceSub, Nat.reduceMul, Nat.reduceLeDiff, ↓reduceIte, reduceCtorEq]
  refine .inl (callE_intro (verdict_call gw hg v hf) (.inl ⟨rfl, rfl⟩) ?_)
  simp (dsimp := false) only [push_cast, hP, hnt, hgw, hgb, Nat.reduceLT, Nat.reduceEqDiff, Nat.reduceAdd, Nat.reduceSub, Nat.reduceMul, Nat.reduceLeDiff, ↓reduceIte, reduceCtorEq]
  refine hK _ ?_; clear hK
  refine vwp_seq_region rfl fun K hK => ?_
  simp (dsimp := false) only [push_cast, hP, hnt, hgw, hgb, Nat.reduceLT, Nat.reduceEqDiff, Nat.reduceAdd, Nat.reduceSub, Nat.reduceMul, Nat.reduceLeDiff, ↓reduceIte, reduceCtorEq]
  refine .inl (callE_intro (readVerdict_call gw hg s hs) (.inl ⟨by simp only [push_cast], rfl⟩) ?_)
  simp (dsimp := false) only [push_cast, hP, hnt, hgw, hgb, Nat.reduceLT, Nat.reduceEqDiff, Nat.reduceAdd, Nat.reduceSub, Nat.reduceMul, Nat.reduceLeDiff, ↓reduceIte, reduceCtorEq]
  refine hK _ ?_; clear hK
  refine vwp_seq_regionG fun K hK => ?_
  simp (dsimp := false) only [push_cast, hP, hnt, hgw, hgb, Nat.reduceLT, Nat.reduceEqDiff, Nat.reduceAdd, Nat.reduceSub, Nat.reduceMul, Nat.reduceLeDiff, ↓reduceIte, reduceCtorEq]
  refine guardR_may (by simp (dsimp := false) only [push_cast, hP, hnt, hgw, hgb, Nat.reduceLT, Nat.reduceEqDiff, Nat.reduceAdd, Nat.reduceSub, Nat.reduceMul, Nat.reduceLeDiff, ↓reduceIte, reduceCtorEq, List.getElem?_cons_zero, List.getElem?_cons_succ]; rfl) ?_
  simp (dsimp := false) only [push_cast, hP, hnt, hgw, hgb, Nat.reduceLT, Nat.reduceEqDiff, Nat.reduceAdd, Nat.reduceSub, Nat.reduceMul, Nat.reduceLeDiff, ↓reduceIte, reduceCtorEq]
  refine guardR_may (by simp (dsimp := false) only [push_cast, hP, hnt, hgw, hgb, Nat.reduceLT, Nat.reduceEqDiff, Nat.reduceAdd, Nat.reduceSub, Nat.reduceMul, Nat.reduceLeDiff, ↓reduceIte, reduceCtorEq, List.getElem?_cons_zero, List.getElem?_cons_succ]; rfl) ?_
  simp (dsimp := false) only [push_cast, hP, hnt, hgw, hgb, Nat.reduceLT, Nat.reduceEqDiff, Nat.reduceAdd, Nat.reduceSub, Nat.reduceMul, Nat.reduceLeDiff, ↓reduceIte, reduceCtorEq]
  refine guardR_may (by simp (dsimp := false) only [push_cast, hP, hnt, hgw, hgb, Nat.reduceLT, Nat.reduceEqDiff, Nat.reduceAdd, Nat.reduceSub, Nat.reduceMul, Nat.reduceLeDiff, ↓reduceIte, reduceCtorEq, List.getElem?_cons_zero, List.getElem?_cons_succ]; rfl) ?_
  simp (dsimp := false) only [push_cast, hP, hnt, hgw, hgb, Nat.reduceLT, Nat.reduceEqDiff, Nat.reduceAdd, Nat.reduceSub, Nat.reduceMul, Nat.reduceLeDiff, ↓reduceIte, reduceCtorEq]
  refine guardR_may (by simp (dsimp := false) only [push_cast, hP, hnt, hgw, hgb, Nat.reduceLT, Nat.reduceEqDiff, Nat.reduceAdd, Nat.reduceSub, Nat.reduceMul, Nat.reduceLeDiff, ↓reduceIte, reduceCtorEq, List.getElem?_cons_zero, List.getElem?_cons_succ]; rfl) ?_
  simp (dsimp := false) only [push_cast, hP, hnt, hgw, hgb, Nat.reduceLT, Nat.reduceEqDiff, Nat.reduceAdd, Nat.reduceSub, Nat.reduceMul, Nat.reduceLeDiff, ↓reduceIte, reduceCtorEq]
  refine guardR_may (by simp (dsimp := false) only [push_cast, hP, hnt, hgw, hgb, Nat.reduceLT, Nat.reduceEqDiff, Nat.reduceAdd, Nat.reduceSub, Nat.reduceMul, Nat.reduceLeDiff, ↓reduceIte, reduceCtorEq, List.getElem?_cons_zero, List.getElem?_cons_succ]; rfl) ?_
  simp (dsimp := false) only [push_cast, hP, hnt, hgw, hgb, Nat.reduceLT, Nat.reduceEqDiff, Nat.reduceAdd, Nat.reduceSub, Nat.reduceMul, Nat.reduceLeDiff, ↓reduceIte, reduceCtorEq]
  refine guardR_may (by simp (dsimp := false) only [push_cast, hP, hnt, hgw, hgb, Nat.reduceLT, Nat.reduceEqDiff, Nat.reduceAdd, Nat.reduceSub, Nat.reduceMul, Nat.reduceLeDiff, ↓reduceIte, reduceCtorEq, List.getElem?_cons_zero, List.getElem?_cons_succ]; rfl) ?_
  simp (dsimp := false) only [push_cast, hP, hnt, hgw, hgb, Nat.reduceLT, Nat.reduceEqDiff, Nat.reduceAdd, Nat.reduceSub, Nat.reduceMul, Nat.reduceLeDiff, ↓reduceIte, reduceCtorEq]
  refine guardR_may (by simp (dsimp := false) only [push_cast, hP, hnt, hgw, hgb, Nat.reduceLT, Nat.reduceEqDiff, Nat.reduceAdd, Nat.reduceSub, Nat.reduceMul, Nat.reduceLeDiff, ↓reduceIte, reduceCtorEq, List.getElem?_cons_zero, List.getElem?_cons_succ]; rfl) ?_
  simp (dsimp := false) only [push_cast, hP, hnt, hgw, hgb, Nat.reduceLT, Nat.reduceEqDiff, Nat.reduceAdd, Nat.reduceSub, Nat.reduceMul, Nat.reduceLeDiff, ↓reduceIte, reduceCtorEq]
  refine guardR_may (by simp (dsimp := false) only [push_cast, hP, hnt, hgw, hgb, Nat.reduceLT, Nat.reduceEqDiff, Nat.reduceAdd, Nat.reduceSub, Nat.reduceMul, Nat.reduceLeDiff, ↓reduceIte, reduceCtorEq, List.getElem?_cons_zero, List.getElem?_cons_succ]; rfl) ?_
  simp (dsimp := false) only [push_cast, hP, hnt, hgw, hgb, Nat.reduceLT, Nat.reduceEqDiff, Nat.reduceAdd, Nat.reduceSub, Nat.reduceMul, Nat.reduceLeDiff, ↓reduceIte, reduceCtorEq]
  refine callE_intro (same42_call gw gw.heap.size v (readVF s).1 hf) (.inl ⟨rfl, rfl⟩) ?_
  refine ⟨rfl, ?_⟩
  simp (dsimp := false) only [push_cast, hP, hnt, hgw, hgb, Nat.reduceLT, Nat.reduceEqDiff, Nat.reduceAdd, Nat.reduceSub, Nat.reduceMul, Nat.reduceLeDiff, ↓reduceIte, reduceCtorEq]
  refine hK _ ?_; clear hK
  refine vwp_ret ?_
  refine ret_free (by simp (dsimp := false) only [push_cast, hP, hnt, hgw, hgb, Nat.reduceLT, Nat.reduceEqDiff, Nat.reduceAdd, Nat.reduceSub, Nat.reduceMul, Nat.reduceLeDiff, ↓reduceIte, reduceCtorEq]; rfl) (by simp (dsimp := false) only [push_cast, hP, hnt, hgw, hgb, Nat.reduceLT, Nat.reduceEqDiff, Nat.reduceAdd, Nat.reduceSub, Nat.reduceMul, Nat.reduceLeDiff, ↓reduceIte, reduceCtorEq]) ?_
  first | (simp only [pack, saysVF, if_true, if_false, Bool.false_eq_true, reduceIte]; done) | (simp only [pack, saysVF, if_true, if_false, ne_eq, not_true_eq_false, not_false_eq_true, true_or, or_true, or_self, ite_self, Bool.true_eq_false, Bool.false_eq_true, or_false, false_or]; done) | (subst_vars; simp only [pack, saysVF, *, if_true, if_false, ne_eq, not_true_eq_false, not_false_eq_true, true_or, or_true, or_self, ite_self, Bool.true_eq_false, Bool.false_eq_true, or_false, false_or]; done) | (simp [pack, saysVF] <;> omega)
theorem saysP_call (gw : World) (hg : Glob gw) (l : List (ByteArray × Int)) (hl : l.length ≤ 100000) (s : ByteArray) (hs : s.size ≤ 90000) : VCall Tryz.prog gw (gw.heap.size) 6 [.one (.sl false l.length (l.flatMap fun p => [.c (.string p.1), .c (.int .i64 p.2)])), .one (.c (.string s))] (.one (.c (.bool (saysPF l s)))) [] := by
  refine vcall_of [.tmp 4] Tryz.func6 rfl rfl Tryz.ntmps6 rfl (by simp) ?_
  intro C hP hnt hgw hgb hfull
  refine vwp_seq_region rfl fun K hK => ?_
  simp (dsimp := false) only [push_cast, hP, hnt, hgw, hgb, Nat.reduceLT, Nat.reduceEqDiff, Nat.reduceAdd, Nat.reduceSub, Nat.reduceMul, Nat.reduceLeDiff, ↓reduceIte, reduceCtorEq]
  refine hK _ ?_; clear hK
  refine vwp_seq_region rfl fun K hK => ?_
  simp (dsimp := false) only [push_cast, hP, hnt, hgw, hgb, Nat.reduceLT, Nat.reduceEqDiff, Nat.reduceAdd, Nat.reduceSub, Nat.reduceMul, Nat.reduceLeDiff, ↓reduceIte, reduceCtorEq]
  refine .inl (callE_intro (passes_call gw gw.heap.size l hl) (.inl ⟨rfl, rfl⟩) ?_)
  simp (dsimp := false) only [push_cast, hP, hnt, hgw, hgb, Nat.reduceLT, Nat.reduceEqDiff, Nat.reduceAdd, Nat.reduceSub, Nat.reduceMul, Nat.reduceLeDiff, ↓reduceIte, reduceCtorEq]
  refine hK _ ?_; clear hK
  refine vwp_seq_region rfl fun K hK => ?_
  simp (dsimp := false) only [push_cast, hP, hnt, hgw, hgb, Nat.reduceLT, Nat.reduceEqDiff, Nat.reduceAdd, Nat.reduceSub, Nat.reduceMul, Nat.reduceLeDiff, ↓reduceIte, reduceCtorEq]
  refine .inl (callE_intro (readPasses_call gw hg s (by omega)) (.inl ⟨by simp only [push_cast], rfl⟩) ?_)
  simp (dsimp := false) only [push_cast, hP, hnt, hgw, hgb, Nat.reduceLT, Nat.reduceEqDiff, Nat.reduceAdd, Nat.reduceSub, Nat.reduceMul, Nat.reduceLeDiff, ↓reduceIte, reduceCtorEq]
  refine hK _ ?_; clear hK
  refine vwp_seq_regionG fun K hK => ?_
  simp (dsimp := false) only [push_cast, hP, hnt, hgw, hgb, Nat.reduceLT, Nat.reduceEqDiff, Nat.reduceAdd, Nat.reduceSub, Nat.reduceMul, Nat.reduceLeDiff, ↓reduceIte, reduceCtorEq]
  refine guardR_may (by simp (dsimp := false) only [push_cast, hP, hnt, hgw, hgb, Nat.reduceLT, Nat.reduceEqDiff, Nat.reduceAdd, Nat.reduceSub, Nat.reduceMul, Nat.reduceLeDiff, ↓reduceIte, reduceCtorEq, List.getElem?_cons_zero, List.getElem?_cons_succ]; rfl) ?_
  simp (dsimp := false) only [push_cast, hP, hnt, hgw, hgb, Nat.reduceLT, Nat.reduceEqDiff, Nat.reduceAdd, Nat.reduceSub, Nat.reduceMul, Nat.reduceLeDiff, ↓reduceIte, reduceCtorEq]
  refine guardR_may (by simp (dsimp := false) only [push_cast, hP, hnt, hgw, hgb, Nat.reduceLT, Nat.reduceEqDiff, Nat.reduceAdd, Nat.reduceSub, Nat.reduceMul, Nat.reduceLeDiff, ↓reduceIte, reduceCtorEq, List.getElem?_cons_zero, List.getElem?_cons_succ]; rfl) ?_
  simp (dsimp := false) only [push_cast, hP, hnt, hgw, hgb, Nat.reduceLT, Nat.reduceEqDiff, Nat.reduceAdd, Nat.reduceSub, Nat.reduceMul, Nat.reduceLeDiff, ↓reduceIte, reduceCtorEq]
  refine guardR_may (by simp (dsimp := false) only [push_cast, hP, hnt, hgw, hgb, Nat.reduceLT, Nat.reduceEqDiff, Nat.reduceAdd, Nat.reduceSub, Nat.reduceMul, Nat.reduceLeDiff, ↓reduceIte, reduceCtorEq, List.getElem?_cons_zero, List.getElem?_cons_succ]; rfl) ?_
  simp (dsimp := false) only [push_cast, hP, hnt, hgw, hgb, Nat.reduceLT, Nat.reduceEqDiff, Nat.reduceAdd, Nat.reduceSub, Nat.reduceMul, Nat.reduceLeDiff, ↓reduceIte, reduceCtorEq]
  refine guardR_may (by simp (dsimp := false) only [push_cast, hP, hnt, hgw, hgb, Nat.reduceLT, Nat.reduceEqDiff, Nat.reduceAdd, Nat.reduceSub, Nat.reduceMul, Nat.reduceLeDiff, ↓reduceIte, reduceCtorEq, List.getElem?_cons_zero, List.getElem?_cons_succ]; rfl) ?_
  simp (dsimp := false) only [push_cast, hP, hnt, hgw, hgb, Nat.reduceLT, Nat.reduceEqDiff, Nat.reduceAdd, Nat.reduceSub, Nat.reduceMul, Nat.reduceLeDiff, ↓reduceIte, reduceCtorEq]
  refine guardR_may (by simp (dsimp := false) only [push_cast, hP, hnt, hgw, hgb, Nat.reduceLT, Nat.reduceEqDiff, Nat.reduceAdd, Nat.reduceSub, Nat.reduceMul, Nat.reduceLeDiff, ↓reduceIte, reduceCtorEq, List.getElem?_cons_zero, List.getElem?_cons_succ]; rfl) ?_
  simp (dsimp := false) only [push_cast, hP, hnt, hgw, hgb, Nat.reduceLT, Nat.reduceEqDiff, Nat.reduceAdd, Nat.reduceSub, Nat.reduceMul, Nat.reduceLeDiff, ↓reduceIte, reduceCtorEq]
  refine guardR_may (by simp (dsimp := false) only [push_cast, hP, hnt, hgw, hgb, Nat.reduceLT, Nat.reduceEqDiff, Nat.reduceAdd, Nat.reduceSub, Nat.reduceMul, Nat.reduceLeDiff, ↓reduceIte, reduceCtorEq, List.getElem?_cons_zero, List.getElem?_cons_succ]; rfl) ?_
  simp (dsimp := false) only [push_cast, hP, hnt, hgw, hgb, Nat.reduceLT, Nat.reduceEqDiff, Nat.reduceAdd, Nat.reduceSub, Nat.reduceMul, Nat.reduceLeDiff, ↓reduceIte, reduceCtorEq]
  refine guardR_may (by simp (dsimp := false) only [push_cast, hP, hnt, hgw, hgb, Nat.reduceLT, Nat.reduceEqDiff, Nat.reduceAdd, Nat.reduceSub, Nat.reduceMul, Nat.reduceLeDiff, ↓reduceIte, reduceCtorEq, List.getElem?_cons_zero, List.getElem?_cons_succ]; rfl) ?_
  simp (dsimp := false) only [push_cast, hP, hnt, hgw, hgb, Nat.reduceLT, Nat.reduceEqDiff, Nat.reduceAdd, Nat.reduceSub, Nat.reduceMul, Nat.reduceLeDiff, ↓reduceIte, reduceCtorEq]
  refine guardR_may (by simp (dsimp := false) only [push_cast, hP, hnt, hgw, hgb, Nat.reduceLT, Nat.reduceEqDiff, Nat.reduceAdd, Nat.reduceSub, Nat.reduceMul, Nat.reduceLeDiff, ↓reduceIte, reduceCtorEq, List.getElem?_cons_zero, List.getElem?_cons_succ]; rfl) ?_
  simp (dsimp := false) only [push_cast, hP, hnt, hgw, hgb, Nat.reduceLT, Nat.reduceEqDiff, Nat.reduceAdd, Nat.reduceSub, Nat.reduceMul, Nat.reduceLeDiff, ↓reduceIte, reduceCtorEq]
  refine callE_intro (samePasses_call gw gw.heap.size l (readPassF s).1 (by omega)) (.inl ⟨rfl, rfl⟩) ?_
  refine ⟨rfl, ?_⟩
  simp (dsimp := false) only [push_cast, hP, hnt, hgw, hgb, Nat.reduceLT, Nat.reduceEqDiff, Nat.reduceAdd, Nat.reduceSub, Nat.reduceMul, Nat.reduceLeDiff, ↓reduceIte, reduceCtorEq]
  refine hK _ ?_; clear hK
  refine vwp_ret ?_
  refine ret_free (by simp (dsimp := false) only [push_cast, hP, hnt, hgw, hgb, Nat.reduceLT, Nat.reduceEqDiff, Nat.reduceAdd, Nat.reduceSub, Nat.reduceMul, Nat.reduceLeDiff, ↓reduceIte, reduceCtorEq]; rfl) (by simp (dsimp := false) only [push_cast, hP, hnt, hgw, hgb, Nat.reduceLT, Nat.reduceEqDiff, Nat.reduceAdd, Nat.reduceSub, Nat.reduceMul, Nat.reduceLeDiff, ↓reduceIte, reduceCtorEq]) ?_
  first | (simp only [pack, saysPF, if_true, if_false, Bool.false_eq_true, reduceIte]; done) | (simp only [pack, saysPF, if_true, if_false, ne_eq, not_true_eq_false, not_false_eq_true, true_or, or_true, or_self, ite_self, Bool.true_eq_false, Bool.false_eq_true, or_false, false_or]; done) | (subst_vars; simp only [pack, saysPF, *, if_true, if_false, ne_eq, not_true_eq_false, not_false_eq_true, true_or, or_true, or_self, ite_self, Bool.true_eq_false, Bool.false_eq_true, or_false, false_or]; done) | (simp [pack, saysPF] <;> omega)
end Go.Vm
end

section
namespace Go.Vm
open Go Go.RowKit Go.Proofs
set_option maxRecDepth 100000
set_option linter.unusedSimpArgs false
set_option linter.unusedVariables false
set_option maxHeartbeats 4000000

def listV : List (ByteArray × Int) := [(⟨#[104, 97, 115, 104]⟩, 0), (⟨#[112, 114, 101, 102, 105, 120]⟩, 2)]
def aliveLF : Bool := saysVF runV ⟨#[85, 78, 83, 65, 70, 69, 10, 102, 105, 114, 115, 116, 32, 49, 48, 10, 105, 110, 32, 45, 10]⟩ && saysPF listV ⟨#[104, 97, 115, 104, 44, 112, 114, 101, 102, 105, 120, 58, 50]⟩
theorem aliveL_call (gw : World) (hg : Glob gw) : VCall Tryz.prog gw (gw.heap.size) 14 [] (.one (.c (.bool aliveLF))) [] := by
  refine vcall_of [.tmp 0] Tryz.func14 rfl rfl Tryz.ntmps14 rfl (by simp) ?_
  intro C hP hnt hgw hgb hfull
  refine vwp_seq_region rfl fun K hK => ?_
  simp (dsimp := false) only [push_cast, hP, hnt, hgw, hgb, sevalprocAttr]
  refine hK _ ?_; clear hK
  refine vwp_seq_regionG fun K hK => ?_
  simp (dsimp := false) only [push_cast, hP, hnt, hgw, hgb, sevalprocAttr]
  refine .inl (callE_intro (run_call gw gw.heap.size) (.inl ⟨rfl, rfl⟩) ?_)
  simp (dsimp := false) only [push_cast, hP, hnt, hgw, hgb, sevalprocAttr]
  refine .inl (callE_intro (saysV_call gw hg runV fit_run ⟨#[85, 78, 83, 65, 70, 69, 10, 102, 105, 114, 115, 116, 32, 49, 48, 10, 105, 110, 32, 45, 10]⟩ (by decide)) (.inl ⟨by simp only [push_cast], rfl⟩) ?_)
  simp (dsimp := false) only [push_cast, hP, hnt, hgw, hgb, sevalprocAttr]
  refine guardR_may (by simp (dsimp := false) only [push_cast, hP, hnt, hgw, hgb, sevalprocAttr, List.getElem?_cons_zero, List.getElem?_cons_succ]; rfl) ?_
  simp (dsimp := false) only [push_cast, hP, hnt, hgw, hgb, sevalprocAttr]
  refine guardR_may (by simp (dsimp := false) only [push_cast, hP, hnt, hgw, hgb, sevalprocAttr, List.getElem?_cons_zero, List.getElem?_cons_succ]; rfl) ?_
  simp (dsimp := false) only [push_cast, hP, hnt, hgw, hgb, sevalprocAttr]
  refine guardR_may (by simp (dsimp := false) only [push_cast, hP, hnt, hgw, hgb, sevalprocAttr, List.getElem?_cons_zero, List.getElem?_cons_succ]; rfl) ?_
  simp (dsimp := false) only [push_cast, hP, hnt, hgw, hgb, sevalprocAttr]
  refine guardR_may (by simp (dsimp := false) only [push_cast, hP, hnt, hgw, hgb, sevalprocAttr, List.getElem?_cons_zero, List.getElem?_cons_succ]; rfl) ?_
  simp (dsimp := false) only [push_cast, hP, hnt, hgw, hgb, sevalprocAttr]
  refine callE_intro (saysP_call gw hg listV (by decide) ⟨#[104, 97, 115, 104, 44, 112, 114, 101, 102, 105, 120, 58, 50]⟩ (by decide)) (.inl ⟨rfl, rfl⟩) ?_
  refine ⟨rfl, ?_⟩
  simp (dsimp := false) only [push_cast, hP, hnt, hgw, hgb, sevalprocAttr]
  refine hK _ ?_; clear hK
  refine vwp_ret ?_
  refine ret_free (by simp (dsimp := false) only [push_cast, hP, hnt, hgw, hgb, sevalprocAttr]; rfl) (by simp (dsimp := false) only [push_cast, hP, hnt, hgw, hgb, sevalprocAttr]) ?_
  first | (simp only [pack, aliveLF, if_true, if_false, Bool.false_eq_true, reduceIte]; done) | (simp only [pack, aliveLF, if_true, if_false, ne_eq, not_true_eq_false, not_false_eq_true, true_or, or_true, or_self, ite_self, Bool.true_eq_false, Bool.false_eq_true, or_false, false_or]; done) | (subst_vars; simp only [pack, aliveLF, *, if_true, if_false, ne_eq, not_true_eq_false, not_false_eq_true, true_or, or_true, or_self, ite_self, Bool.true_eq_false, Bool.false_eq_true, or_false, false_or]; done) | (simp [pack, aliveLF] <;> omega)
end Go.Vm
end

section
namespace Go.Vm
open Go Go.RowKit Go.Proofs
set_option maxRecDepth 100000
set_option linter.unusedVariables false

theorem text17 : ∀ p ∈ refPairs, refCheckG p.1 p.2 = 0 → (44 : UInt8) ∉ (writtenF p.1 p.2).data.toList ∧ (writtenF p.1 p.2).data.toList ≠ [] := by
  decide +kernel
theorem textP_no {p : ByteArray × Int} (h : checkF p.1 p.2 = 0) : (44 : UInt8) ∉ (textP p).data.toList ∧ (textP p).data.toList ≠ [] := by
  have := text17 p (mem_pairs h) (by rw [← refCheckG_eq, ← check_eq]; exact h)
  rw [textP_written p h]
  exact this
theorem pass_back {p : ByteArray × Int} (h : checkF p.1 p.2 = 0) : readF (textP p) = (p.1, p.2, 0) := by
  have hb := back17 p (mem_pairs h) (by rw [← refCheckG_eq, ← check_eq]; exact h)
  have e : textP p = writtenF p.1 p.2 := textP_written p h
  unfold readF
  rw [e, hb.1, hb.2, if_neg]
  rintro (h1 | h1)
  · exact h1 (by rw [textF_snd]; exact h)
  · exact h1 (by rw [show (textF p.1 p.2).1 = writtenF p.1 p.2 from e])
theorem idx_neg {c : UInt8} {l : List UInt8} (h : c ∉ l) : Lib.indexByte l c < 0 := by
  apply Int.not_le.1
  intro hge
  obtain ⟨y, r, e, _⟩ := indexByte_hit c _ hge
  exact h (by rw [e]; simp)
theorem pieces_join : ∀ (w : ByteArray) (ws : List ByteArray), (∀ x ∈ w :: ws, (44 : UInt8) ∉ x.data.toList) → piecesB (joinS commaB (w :: ws)) 44 = w :: ws
  | w, [], h => by
    have e : joinS commaB [w] = w := joinS_one _ _
    rw [e, pieces_miss (idx_neg (h w (by simp)))]
  | w, v :: vs, h => by
    have e : (joinS commaB (w :: v :: vs)).data.toList = w.data.toList ++ 44 :: (joinS commaB (v :: vs)).data.toList := by
      show Lib.join ((w :: v :: vs).map (·.data.toList)) [44] = w.data.toList ++ 44 :: Lib.join ((v :: vs).map (·.data.toList)) [44]
      rw [List.map_cons, List.map_cons, Lib.join_cons, Lib.join_cons]
      simp [Lib.joinTail]
    rw [pieces_hit e (h w (by simp)), bOf_self, bOf_self, pieces_join v vs (fun x hx => h x (by simp [hx]))]
theorem reads_texts : ∀ l : List (ByteArray × Int), (∀ p ∈ l, checkF p.1 p.2 = 0) → readsG readF (l.map textP) = some l
  | [], _ => rfl
  | p :: l, h => by
    have hp := pass_back (h p (by simp))
    rw [List.map_cons, readsG, hp, reads_texts l (fun q hq => h q (by simp [hq]))]
    simp
theorem passesF_zero {l : List (ByteArray × Int)} (h : (passesF l).2 = 0) : checksF l = 0 ∧ passesF l = (joinS commaB (l.map textP), 0) := by
  unfold passesF at h ⊢
  split at h
  · rename_i h1; exact absurd h h1
  · rename_i h1
    exact ⟨by simpa using h1, if_neg h1⟩
theorem passes_back {l : List (ByteArray × Int)} (h : (passesF l).2 = 0) : readPassF (passesF l).1 = (l, 0) := by
  obtain ⟨hc, he⟩ := passesF_zero h
  have hm := firstE_mem (checksF_zero hc).2
  rw [he]
  show readPassF (joinS commaB (l.map textP)) = (l, 0)
  match l, hc, hm with
  | [], _, _ => exact readPass_nil rfl
  | p :: l, hc, hm =>
    have hp := pieces_join (textP p) (l.map textP) (fun x hx => by
      rw [← List.map_cons] at hx
      obtain ⟨q, hq, rfl⟩ := List.mem_map.1 hx
      exact (textP_no (hm q hq)).1)
    have hne : ¬ (joinS commaB ((p :: l).map textP)).toList = (⟨#[]⟩ : ByteArray).toList := by
      intro hh
      have := bytes_ext hh
      have h2 : (joinS commaB ((p :: l).map textP)).data.toList = [] := by rw [this]
      have h3 : (joinS commaB ((p :: l).map textP)).data.toList = (textP p).data.toList ++ Lib.joinTail [44] ((l.map textP).map (·.data.toList)) := by
        show Lib.join (((p :: l).map textP).map (·.data.toList)) [44] = _
        rw [List.map_cons, List.map_cons, Lib.join_cons]
      rw [h3, List.append_eq_nil_iff] at h2
      exact (textP_no (hm p (by simp))).2 h2.1
    exact readPass_ok hne (by rw [List.map_cons, hp, ← List.map_cons]; exact reads_texts (p :: l) hm) hc
theorem engineF_zero {x : Eng} (h : (engineF x).2 = 0) : engP x ∧ engineF x = (engT x, 0) := by
  by_cases hz : engE x = 0
  · exact ⟨engE_zero hz, engineF_ok hz⟩
  · rw [engineF_bad hz] at h; exact absurd h hz
theorem alive_ok : aliveLF = true := by
  have hm : mayF runV = true := by decide
  have hl : verdictL runV = [85, 78, 83, 65, 70, 69, 10, 102, 105, 114, 115, 116, 32, 49, 48, 10, 105, 110, 32, 45, 10] := by decide +kernel
  have hv : verdictF runV = (⟨#[85, 78, 83, 65, 70, 69, 10, 102, 105, 114, 115, 116, 32, 49, 48, 10, 105, 110, 32, 45, 10]⟩, 0) := by
    unfold verdictF
    rw [if_neg (by rw [hm]; simp), hl, if_neg (by decide)]
    rfl
  have hr := (readV_of (v := runV) (s := ⟨#[85, 78, 83, 65, 70, 69, 10, 102, 105, 114, 115, 116, 32, 49, 48, 10, 105, 110, 32, 45, 10]⟩) ⟨by rw [hv], by rw [hv]⟩).1
  have hc : checksF listV = 0 := by
    have h0 : checkF nm0 0 = 0 := by rw [check_eq, refCheckG_eq]; decide
    have h1 : checkF nPrefix 2 = 0 := by rw [check_eq, refCheckG_eq]; decide
    rw [checks_eq]
    show checksR [(nm0, 0), (nPrefix, 2)] = 0
    rw [← checks_eq]
    unfold checksF firstE firstE firstE
    rw [h0, h1]; rfl
  have hp : passesF listV = (⟨#[104, 97, 115, 104, 44, 112, 114, 101, 102, 105, 120, 58, 50]⟩, 0) := by
    rw [← passes_eq]
    unfold passesR
    rw [if_neg (by rw [← checks_eq, hc]; simp)]
    decide +kernel
  have hq := passes_back (l := listV) (by rw [hp])
  rw [hp] at hq
  unfold aliveLF saysVF saysPF
  rw [hv, hr, hp, hq, sameV_refl]
  simp
theorem alive_true_call (gw : World) (hg : Glob gw) : VCall Tryz.prog gw gw.heap.size 14 [] (.one (.c (.bool true))) [] := by
  have := aliveL_call gw hg
  rwa [alive_ok] at this
end Go.Vm
end

section
namespace Go.Vm
open Go Go.RowKit Go.Proofs
set_option maxRecDepth 100000
set_option linter.unusedVariables false

theorem read_text {s : ByteArray} (h : (readF s).2.2 = 0) : textP ((readF s).1, (readF s).2.1) = s := by
  unfold readF at h ⊢
  split at h
  · simp at h
  · rename_i hc
    simp only [not_or, ne_eq, Classical.not_not] at hc
    rw [if_neg (by simp only [not_or, ne_eq, Classical.not_not]; exact hc)]
    exact bytes_ext hc.2
theorem joinS_two' (w v : ByteArray) (vs : List ByteArray) : (joinS commaB (w :: v :: vs)).data.toList = w.data.toList ++ 44 :: (joinS commaB (v :: vs)).data.toList := by
  show Lib.join ((w :: v :: vs).map (·.data.toList)) [44] = w.data.toList ++ 44 :: Lib.join ((v :: vs).map (·.data.toList)) [44]
  rw [List.map_cons, List.map_cons, Lib.join_cons, Lib.join_cons]
  simp [Lib.joinTail]
theorem pieces_back : ∀ (n : Nat) (s : ByteArray), s.data.toList.length ≤ n → ∃ v vs, piecesB s 44 = v :: vs ∧ joinS commaB (v :: vs) = s
  | n, s, hn => by
    by_cases hi : Lib.indexByte s.data.toList 44 < 0
    · exact ⟨s, [], pieces_miss hi, joinS_one _ _⟩
    · obtain ⟨x, r, hs, hx, _⟩ := indexByte_hit 44 s.data.toList (Int.not_lt.1 hi)
      match n with
      | 0 => rw [hs] at hn; simp at hn
      | n + 1 =>
        obtain ⟨v, vs, hp, hj⟩ := pieces_back n (bOf r) (by
          rw [hs] at hn
          simp only [List.length_append, List.length_cons] at hn
          show r.length ≤ n
          omega)
        refine ⟨bOf x, v :: vs, by rw [pieces_hit hs hx, hp], ?_⟩
        rw [bOf_ext (joinS_two' (bOf x) v vs), hj]
        show bOf (x ++ 44 :: r) = s
        rw [← hs, bOf_self]
theorem reads_map : ∀ (L : List ByteArray) (l : List (ByteArray × Int)), readsG readF L = some l → l.map textP = L
  | [], l, h => by simp [readsG] at h; subst h; rfl
  | w :: ws, l, h => by
    unfold readsG at h
    split at h
    · rename_i hw
      obtain ⟨k, hk, rfl⟩ := Option.map_eq_some_iff.1 h
      rw [List.map_cons, read_text hw, reads_map ws k hk]
    · cases h
theorem readPass_cases (s : ByteArray) : readPassF s = ([], 12) ∨ ∃ l, l.length ≤ 10 ∧ readPassF s = (l, 0) ∧ passesF l = (s, 0) := by
  by_cases h0 : s.toList = (⟨#[]⟩ : ByteArray).toList
  · refine .inr ⟨[], by simp, readPass_nil h0, ?_⟩
    rw [bytes_ext h0]; rfl
  · cases h1 : readsG readF (piecesB s 44) with
    | none => exact .inl (readPass_stop h0 h1)
    | some l =>
      by_cases h2 : checksF l = 0
      · refine .inr ⟨l, (checksF_zero h2).1, readPass_ok h0 h1 h2, ?_⟩
        have hm := reads_map _ l h1
        obtain ⟨v, vs, hp, hj⟩ := pieces_back _ s (Nat.le_refl _)
        unfold passesF
        rw [if_neg (by simpa using h2), hm, hp, hj]
      · exact .inl (readPass_bad h0 h1 h2)
theorem saysP_of {l : List (ByteArray × Int)} {s : ByteArray} (h : passesF l = (s, 0)) : saysPF l s = true := by
  have hb := passes_back (l := l) (by rw [h])
  rw [h] at hb
  unfold saysPF
  rw [h, hb]
  simp
theorem saysV_of {v : Ver} {s : ByteArray} (h : verdictF v = (s, 0)) : saysVF v s = true := by
  have hb := (readV_of (v := v) (s := s) ⟨by rw [h], by rw [h]⟩).1
  unfold saysVF
  rw [h, hb, sameV_refl]
  simp
theorem readV_cases (s : ByteArray) : readVF s = (ver0, 12) ∨ ∃ v, Fit v ∧ readVF s = (v, 0) ∧ verdictF v = (s, 0) := by
  have h1 : readVF s = (ver0, 12) ∨ ∃ v, (verdictF v).2 = 0 ∧ (verdictF v).1.toList = s.toList := by
    unfold readVF
    split
    · exact .inl rfl
    · split
      · exact .inl rfl
      · rename_i h; exact .inr ⟨_, by simpa [not_or] using h⟩
  rcases h1 with h1 | ⟨v, h1⟩
  · exact .inl h1
  · have h2 := verdict_say h1
    exact .inr ⟨v, fit_may h2.1, (readV_of h1).1, h2.2.2.2⟩
def saysEF (x : Eng) (s : ByteArray) : Bool :=
  ((engineF x).2 == 0) && ((engineF x).1.toList == s.toList) && ((readEngF s).2 == 0) && (x.pdr == (readEngF s).1.pdr && (x.num == (readEngF s).1.num && x.bud == (readEngF s).1.bud))
theorem saysE_of {x : Eng} {s : ByteArray} (h : engineF x = (s, 0)) : saysEF x s = true := by
  obtain ⟨hp, he⟩ := engineF_zero (x := x) (by rw [h])
  rw [h] at he
  have hs : s = engT x := (Prod.mk.inj he).1
  have hb := (readEng_of hp).1
  rw [← hs] at hb
  unfold saysEF
  rw [h, hb]
  simp
end Go.Vm
end

section
namespace Go.Vm
open Go Go.RowKit Go.Proofs
set_option maxRecDepth 100000
set_option linter.unusedSimpArgs false
set_option linter.unusedVariables false
set_option maxHeartbeats 4000000

theorem readV_fit' (s : ByteArray) : Fit (readVF s).1 := by
  rcases readV_cases s with h | ⟨v, hf, h, _⟩
  · rw [h]; exact ⟨by simp [ver0], by simp [ver0], by simp [ver0], by simp [ver0]⟩
  · rw [h]; exact hf
theorem saysE_call (gw : World) (hg : Glob gw) (x : Eng) (s : ByteArray) (hs : s.size ≤ 90000) : VCall Tryz.prog gw (gw.heap.size) 7 [.agg (x.pcs), .one (.c (.string s))] (.one (.c (.bool (saysEF x s)))) [] := by
  refine vcall_of [.tmp 4] Tryz.func7 rfl rfl Tryz.ntmps7 rfl (by simp) ?_
  intro C hP hnt hgw hgb hfull
  refine vwp_seq_region rfl fun K hK => ?_
  simp (dsimp := false) only [push_cast, hP, hnt, hgw, hgb, sevalprocAttr, String.reduceEq]
  refine hK _ ?_; clear hK
  refine vwp_seq_region rfl fun K hK => ?_
  simp (dsimp := false) only [push_cast, hP, hnt, hgw, hgb, sevalprocAttr, String.reduceEq]
  refine .inl (callE_intro (engineText_call gw hg x) (.inl ⟨rfl, rfl⟩) ?_)
  simp (dsimp := false) only [push_cast, hP, hnt, hgw, hgb, sevalprocAttr, String.reduceEq]
  refine hK _ ?_; clear hK
  refine vwp_seq_region rfl fun K hK => ?_
  simp (dsimp := false) only [push_cast, hP, hnt, hgw, hgb, sevalprocAttr, String.reduceEq]
  refine .inl (callE_intro (readEngine_call gw hg s hs) (.inl ⟨rfl, rfl⟩) ?_)
  simp (dsimp := false) only [push_cast, hP, hnt, hgw, hgb, sevalprocAttr, String.reduceEq]
  refine hK _ ?_; clear hK
  refine vwp_seq_regionG fun K hK => ?_
  simp (dsimp := false) only [push_cast, hP, hnt, hgw, hgb, sevalprocAttr, String.reduceEq]
  refine guardR_may (by simp (dsimp := false) only [push_cast, hP, hnt, hgw, hgb, sevalprocAttr, String.reduceEq, List.getElem?_cons_zero, List.getElem?_cons_succ]; rfl) ?_
  simp (dsimp := false) only [push_cast, hP, hnt, hgw, hgb, sevalprocAttr, String.reduceEq]
  refine guardR_may (by simp (dsimp := false) only [push_cast, hP, hnt, hgw, hgb, sevalprocAttr, String.reduceEq, List.getElem?_cons_zero, List.getElem?_cons_succ]; rfl) ?_
  simp (dsimp := false) only [push_cast, hP, hnt, hgw, hgb, sevalprocAttr, String.reduceEq]
  refine guardR_may (by simp (dsimp := false) only [push_cast, hP, hnt, hgw, hgb, sevalprocAttr, String.reduceEq, List.getElem?_cons_zero, List.getElem?_cons_succ]; rfl) ?_
  simp (dsimp := false) only [push_cast, hP, hnt, hgw, hgb, sevalprocAttr, String.reduceEq]
  refine guardR_may (by simp (dsimp := false) only [push_cast, hP, hnt, hgw, hgb, sevalprocAttr, String.reduceEq, List.getElem?_cons_zero, List.getElem?_cons_succ]; rfl) ?_
  simp (dsimp := false) only [push_cast, hP, hnt, hgw, hgb, sevalprocAttr, String.reduceEq]
  refine guardR_may (by simp (dsimp := false) only [push_cast, hP, hnt, hgw, hgb, sevalprocAttr, String.reduceEq, List.getElem?_cons_zero, List.getElem?_cons_succ]; rfl) ?_
  simp (dsimp := false) only [push_cast, hP, hnt, hgw, hgb, sevalprocAttr, String.reduceEq]
  refine guardR_may (by simp (dsimp := false) only [push_cast, hP, hnt, hgw, hgb, sevalprocAttr, String.reduceEq, List.getElem?_cons_zero, List.getElem?_cons_succ]; rfl) ?_
  simp (dsimp := false) only [push_cast, hP, hnt, hgw, hgb, sevalprocAttr, String.reduceEq]
  refine guardR_may (by simp (dsimp := false) only [push_cast, hP, hnt, hgw, hgb, sevalprocAttr, String.reduceEq, List.getElem?_cons_zero, List.getElem?_cons_succ]; rfl) ?_
  simp (dsimp := false) only [push_cast, hP, hnt, hgw, hgb, sevalprocAttr, String.reduceEq]
  refine guardR_may (by simp (dsimp := false) only [push_cast, hP, hnt, hgw, hgb, sevalprocAttr, String.reduceEq, List.getElem?_cons_zero, List.getElem?_cons_succ]; rfl) ?_
  simp (dsimp := false) only [push_cast, hP, hnt, hgw, hgb, sevalprocAttr, String.reduceEq]
  refine hK _ ?_; clear hK
  refine vwp_ret ?_
  refine ret_free (by simp (dsimp := false) only [push_cast, hP, hnt, hgw, hgb, sevalprocAttr, String.reduceEq]; rfl) (by simp (dsimp := false) only [push_cast, hP, hnt, hgw, hgb, sevalprocAttr, String.reduceEq]) ?_
  first | (simp only [pack, saysEF, if_true, if_false, Bool.false_eq_true, reduceIte]; done) | (simp only [pack, saysEF, if_true, if_false, ne_eq, not_true_eq_false, not_false_eq_true, true_or, or_true, or_self, ite_self, Bool.true_eq_false, Bool.false_eq_true, or_false, false_or]; done) | (subst_vars; simp only [pack, saysEF, *, if_true, if_false, ne_eq, not_true_eq_false, not_false_eq_true, true_or, or_true, or_self, ite_self, Bool.true_eq_false, Bool.false_eq_true, or_false, false_or]; done) | (simp [pack, saysEF] <;> omega)
end Go.Vm
end

section
namespace Go.Vm
open Go Go.RowKit Go.Proofs
set_option maxRecDepth 100000
set_option linter.unusedSimpArgs false
set_option linter.unusedVariables false
set_option maxHeartbeats 4000000

def noneF (s : ByteArray) : Bool := ((readVF s).2 == 12) && sameV (readVF s).1 ver0
def unlistF (s : ByteArray) : Bool := ((readPassF s).2 == 12) && (((readPassF s).1.length : Int) == 0)
def unreadF (s : ByteArray) : Bool := ((readEngF s).2 == 12) && ((readEngF s).1.pdr == false && ((readEngF s).1.num == 0 && (readEngF s).1.bud == 0))
theorem noneF_of {s : ByteArray} (h : (readVF s).2 = 12) : noneF s = true := by
  unfold noneF
  rcases readV_cases s with h1 | ⟨_, _, h1, _⟩
  · rw [h1, sameV_refl]; rfl
  · rw [h1] at h; cases h
theorem unlistF_of {s : ByteArray} (h : (readPassF s).2 = 12) : unlistF s = true := by
  unfold unlistF
  rcases readPass_cases s with h1 | ⟨_, _, h1, _⟩
  · rw [h1]; rfl
  · rw [h1] at h; cases h
theorem unreadF_of {s : ByteArray} (h : (readEngF s).2 = 12) : unreadF s = true := by
  unfold unreadF
  rcases readEng_cases s with h1 | ⟨_, _, _, h1⟩
  · rw [h1]; rfl
  · rw [h1] at h; cases h
theorem none_call (gw : World) (hg : Glob gw) (s : ByteArray) (hs : s.size ≤ 90000) : VCall Tryz.prog gw (gw.heap.size) 8 [.one (.c (.string s))] (.one (.c (.bool (noneF s)))) [] := by
  refine vcall_of [.tmp 2] Tryz.func8 rfl rfl Tryz.ntmps8 rfl (by simp) ?_
  intro C hP hnt hgw hgb hfull
  refine vwp_seq_region rfl fun K hK => ?_
  simp (dsimp := false) only [push_cast, hP, hnt, hgw, hgb, Nat.reduceLT, Nat.reduceEqDiff, Nat.reduceAdd, Nat.reduceSub, Nat.reduceMul, Nat.reduceLeDiff, ↓reduceIte, reduceCtorEq]
  refine hK _ ?_; clear hK
  refine vwp_seq_region rfl fun K hK => ?_
  simp (dsimp := false) only [push_cast, hP, hnt, hgw, hgb, Nat.reduceLT, Nat.reduceEqDiff, Nat.reduceAdd, Nat.reduceSub, Nat.reduceMul, Nat.reduceLeDiff, ↓reduceIte, reduceCtorEq]
  refine .inl (callE_intro (readVerdict_call gw hg s (by omega)) (.inl ⟨by simp only [push_cast], rfl⟩) ?_)
  simp (dsimp := false) only [push_cast, hP, hnt, hgw, hgb, Nat.reduceLT, Nat.reduceEqDiff, Nat.reduceAdd, Nat.reduceSub, Nat.reduceMul, Nat.reduceLeDiff, ↓reduceIte, reduceCtorEq]
  refine hK _ ?_; clear hK
  refine vwp_seq_regionG fun K hK => ?_
  simp (dsimp := false) only [push_cast, hP, hnt, hgw, hgb, Nat.reduceLT, Nat.reduceEqDiff, Nat.reduceAdd, Nat.reduceSub, Nat.reduceMul, Nat.reduceLeDiff, ↓reduceIte, reduceCtorEq]
  refine guardR_may (by simp (dsimp := false) only [push_cast, hP, hnt, hgw, hgb, Nat.reduceLT, Nat.reduceEqDiff, Nat.reduceAdd, Nat.reduceSub, Nat.reduceMul, Nat.reduceLeDiff, ↓reduceIte, reduceCtorEq, List.getElem?_cons_zero, List.getElem?_cons_succ]; rfl) ?_
  simp (dsimp := false) only [push_cast, hP, hnt, hgw, hgb, Nat.reduceLT, Nat.reduceEqDiff, Nat.reduceAdd, Nat.reduceSub, Nat.reduceMul, Nat.reduceLeDiff, ↓reduceIte, reduceCtorEq]
  refine guardR_may (by simp (dsimp := false) only [push_cast, hP, hnt, hgw, hgb, Nat.reduceLT, Nat.reduceEqDiff, Nat.reduceAdd, Nat.reduceSub, Nat.reduceMul, Nat.reduceLeDiff, ↓reduceIte, reduceCtorEq, List.getElem?_cons_zero, List.getElem?_cons_succ]; rfl) ?_
  simp (dsimp := false) only [push_cast, hP, hnt, hgw, hgb, Nat.reduceLT, Nat.reduceEqDiff, Nat.reduceAdd, Nat.reduceSub, Nat.reduceMul, Nat.reduceLeDiff, ↓reduceIte, reduceCtorEq]
  refine guardR_may (by simp (dsimp := false) only [push_cast, hP, hnt, hgw, hgb, Nat.reduceLT, Nat.reduceEqDiff, Nat.reduceAdd, Nat.reduceSub, Nat.reduceMul, Nat.reduceLeDiff, ↓reduceIte, reduceCtorEq, List.getElem?_cons_zero, List.getElem?_cons_succ]; rfl) ?_
  simp (dsimp := false) only [push_cast, hP, hnt, hgw, hgb, Nat.reduceLT, Nat.reduceEqDiff, Nat.reduceAdd, Nat.reduceSub, Nat.reduceMul, Nat.reduceLeDiff, ↓reduceIte, reduceCtorEq]
  refine callE_intro (same42_call gw gw.heap.size (readVF s).1 ver0 (readV_fit' s)) (.inl ⟨rfl, rfl⟩) ?_
  refine ⟨rfl, ?_⟩
  simp (dsimp := false) only [push_cast, hP, hnt, hgw, hgb, Nat.reduceLT, Nat.reduceEqDiff, Nat.reduceAdd, Nat.reduceSub, Nat.reduceMul, Nat.reduceLeDiff, ↓reduceIte, reduceCtorEq]
  refine hK _ ?_; clear hK
  refine vwp_ret ?_
  refine ret_free (by simp (dsimp := false) only [push_cast, hP, hnt, hgw, hgb, Nat.reduceLT, Nat.reduceEqDiff, Nat.reduceAdd, Nat.reduceSub, Nat.reduceMul, Nat.reduceLeDiff, ↓reduceIte, reduceCtorEq]; rfl) (by simp (dsimp := false) only [push_cast, hP, hnt, hgw, hgb, Nat.reduceLT, Nat.reduceEqDiff, Nat.reduceAdd, Nat.reduceSub, Nat.reduceMul, Nat.reduceLeDiff, ↓reduceIte, reduceCtorEq]) ?_
  first | (simp only [pack, noneF, if_true, if_false, Bool.false_eq_true, reduceIte]; done) | (simp only [pack, noneF, if_true, if_false, ne_eq, not_true_eq_false, not_false_eq_true, true_or, or_true, or_self, ite_self, Bool.true_eq_false, Bool.false_eq_true, or_false, false_or]; done) | (subst_vars; simp only [pack, noneF, *, if_true, if_false, ne_eq, not_true_eq_false, not_false_eq_true, true_or, or_true, or_self, ite_self, Bool.true_eq_false, Bool.false_eq_true, or_false, false_or]; done) | (simp [pack, noneF] <;> omega)
theorem unlisted_call (gw : World) (hg : Glob gw) (s : ByteArray) (hs : s.size ≤ 90000) : VCall Tryz.prog gw (gw.heap.size) 9 [.one (.c (.string s))] (.one (.c (.bool (unlistF s)))) [] := by
  refine vcall_of [.tmp 2] Tryz.func9 rfl rfl Tryz.ntmps9 rfl (by simp) ?_
  intro C hP hnt hgw hgb hfull
  refine vwp_seq_region rfl fun K hK => ?_
  simp (dsimp := false) only [push_cast, hP, hnt, hgw, hgb, Nat.reduceLT, Nat.reduceEqDiff, Nat.reduceAdd, Nat.reduceSub, Nat.reduceMul, Nat.reduceLeDiff, ↓reduceIte, reduceCtorEq]
  refine hK _ ?_; clear hK
  refine vwp_seq_region rfl fun K hK => ?_
  simp (dsimp := false) only [push_cast, hP, hnt, hgw, hgb, Nat.reduceLT, Nat.reduceEqDiff, Nat.reduceAdd, Nat.reduceSub, Nat.reduceMul, Nat.reduceLeDiff, ↓reduceIte, reduceCtorEq]
  refine .inl (callE_intro (readPasses_call gw hg s (by omega)) (.inl ⟨by simp only [push_cast], rfl⟩) ?_)
  simp (dsimp := false) only [push_cast, hP, hnt, hgw, hgb, Nat.reduceLT, Nat.reduceEqDiff, Nat.reduceAdd, Nat.reduceSub, Nat.reduceMul, Nat.reduceLeDiff, ↓reduceIte, reduceCtorEq]
  refine hK _ ?_; clear hK
  refine vwp_seq_regionG fun K hK => ?_
  simp (dsimp := false) only [push_cast, hP, hnt, hgw, hgb, Nat.reduceLT, Nat.reduceEqDiff, Nat.reduceAdd, Nat.reduceSub, Nat.reduceMul, Nat.reduceLeDiff, ↓reduceIte, reduceCtorEq]
  refine guardR_may (by simp (dsimp := false) only [push_cast, hP, hnt, hgw, hgb, Nat.reduceLT, Nat.reduceEqDiff, Nat.reduceAdd, Nat.reduceSub, Nat.reduceMul, Nat.reduceLeDiff, ↓reduceIte, reduceCtorEq, List.getElem?_cons_zero, List.getElem?_cons_succ]; rfl) ?_
  simp (dsimp := false) only [push_cast, hP, hnt, hgw, hgb, Nat.reduceLT, Nat.reduceEqDiff, Nat.reduceAdd, Nat.reduceSub, Nat.reduceMul, Nat.reduceLeDiff, ↓reduceIte, reduceCtorEq]
  refine guardR_may (by simp (dsimp := false) only [push_cast, hP, hnt, hgw, hgb, Nat.reduceLT, Nat.reduceEqDiff, Nat.reduceAdd, Nat.reduceSub, Nat.reduceMul, Nat.reduceLeDiff, ↓reduceIte, reduceCtorEq, List.getElem?_cons_zero, List.getElem?_cons_succ]; rfl) ?_
  simp (dsimp := false) only [push_cast, hP, hnt, hgw, hgb, Nat.reduceLT, Nat.reduceEqDiff, Nat.reduceAdd, Nat.reduceSub, Nat.reduceMul, Nat.reduceLeDiff, ↓reduceIte, reduceCtorEq]
  refine guardR_may (by simp (dsimp := false) only [push_cast, hP, hnt, hgw, hgb, Nat.reduceLT, Nat.reduceEqDiff, Nat.reduceAdd, Nat.reduceSub, Nat.reduceMul, Nat.reduceLeDiff, ↓reduceIte, reduceCtorEq, List.getElem?_cons_zero, List.getElem?_cons_succ]; rfl) ?_
  simp (dsimp := false) only [push_cast, hP, hnt, hgw, hgb, Nat.reduceLT, Nat.reduceEqDiff, Nat.reduceAdd, Nat.reduceSub, Nat.reduceMul, Nat.reduceLeDiff, ↓reduceIte, reduceCtorEq]
  refine hK _ ?_; clear hK
  refine vwp_ret ?_
  refine ret_free (by simp (dsimp := false) only [push_cast, hP, hnt, hgw, hgb, Nat.reduceLT, Nat.reduceEqDiff, Nat.reduceAdd, Nat.reduceSub, Nat.reduceMul, Nat.reduceLeDiff, ↓reduceIte, reduceCtorEq]; rfl) (by simp (dsimp := false) only [push_cast, hP, hnt, hgw, hgb, Nat.reduceLT, Nat.reduceEqDiff, Nat.reduceAdd, Nat.reduceSub, Nat.reduceMul, Nat.reduceLeDiff, ↓reduceIte, reduceCtorEq]) ?_
  first | (simp only [pack, unlistF, if_true, if_false, Bool.false_eq_true, reduceIte]; done) | (simp only [pack, unlistF, if_true, if_false, ne_eq, not_true_eq_false, not_false_eq_true, true_or, or_true, or_self, ite_self, Bool.true_eq_false, Bool.false_eq_true, or_false, false_or]; done) | (subst_vars; simp only [pack, unlistF, *, if_true, if_false, ne_eq, not_true_eq_false, not_false_eq_true, true_or, or_true, or_self, ite_self, Bool.true_eq_false, Bool.false_eq_true, or_false, false_or]; done) | (simp [pack, unlistF] <;> omega)
theorem unread_call (gw : World) (hg : Glob gw) (s : ByteArray) (hs : s.size ≤ 90000) : VCall Tryz.prog gw (gw.heap.size) 10 [.one (.c (.string s))] (.one (.c (.bool (unreadF s)))) [] := by
  refine vcall_of [.tmp 2] Tryz.func10 rfl rfl Tryz.ntmps10 rfl (by simp) ?_
  intro C hP hnt hgw hgb hfull
  refine vwp_seq_region rfl fun K hK => ?_
  simp (dsimp := false) only [push_cast, hP, hnt, hgw, hgb, Nat.reduceLT, Nat.reduceEqDiff, Nat.reduceAdd, Nat.reduceSub, Nat.reduceMul, Nat.reduceLeDiff, ↓reduceIte, reduceCtorEq, String.reduceEq]
  refine hK _ ?_; clear hK
  refine vwp_seq_region rfl fun K hK => ?_
  simp (dsimp := false) only [push_cast, hP, hnt, hgw, hgb, Nat.reduceLT, Nat.reduceEqDiff, Nat.reduceAdd, Nat.reduceSub, Nat.reduceMul, Nat.reduceLeDiff, ↓reduceIte, reduceCtorEq, String.reduceEq]
  refine .inl (callE_intro (readEngine_call gw hg s (by omega)) (.inl ⟨rfl, rfl⟩) ?_)
  simp (dsimp := false) only [push_cast, hP, hnt, hgw, hgb, Nat.reduceLT, Nat.reduceEqDiff, Nat.reduceAdd, Nat.reduceSub, Nat.reduceMul, Nat.reduceLeDiff, ↓reduceIte, reduceCtorEq, String.reduceEq]
  refine hK _ ?_; clear hK
  refine vwp_seq_regionG fun K hK => ?_
  simp (dsimp := false) only [push_cast, hP, hnt, hgw, hgb, Nat.reduceLT, Nat.reduceEqDiff, Nat.reduceAdd, Nat.reduceSub, Nat.reduceMul, Nat.reduceLeDiff, ↓reduceIte, reduceCtorEq, String.reduceEq]
  refine guardR_may (by simp (dsimp := false) only [push_cast, hP, hnt, hgw, hgb, Nat.reduceLT, Nat.reduceEqDiff, Nat.reduceAdd, Nat.reduceSub, Nat.reduceMul, Nat.reduceLeDiff, ↓reduceIte, reduceCtorEq, String.reduceEq, List.getElem?_cons_zero, List.getElem?_cons_succ]; rfl) ?_
  simp (dsimp := false) only [push_cast, hP, hnt, hgw, hgb, Nat.reduceLT, Nat.reduceEqDiff, Nat.reduceAdd, Nat.reduceSub, Nat.reduceMul, Nat.reduceLeDiff, ↓reduceIte, reduceCtorEq, String.reduceEq]
  refine guardR_may (by simp (dsimp := false) only [push_cast, hP, hnt, hgw, hgb, Nat.reduceLT, Nat.reduceEqDiff, Nat.reduceAdd, Nat.reduceSub, Nat.reduceMul, Nat.reduceLeDiff, ↓reduceIte, reduceCtorEq, String.reduceEq, List.getElem?_cons_zero, List.getElem?_cons_succ]; rfl) ?_
  simp (dsimp := false) only [push_cast, hP, hnt, hgw, hgb, Nat.reduceLT, Nat.reduceEqDiff, Nat.reduceAdd, Nat.reduceSub, Nat.reduceMul, Nat.reduceLeDiff, ↓reduceIte, reduceCtorEq, String.reduceEq]
  refine guardR_may (by simp (dsimp := false) only [push_cast, hP, hnt, hgw, hgb, Nat.reduceLT, Nat.reduceEqDiff, Nat.reduceAdd, Nat.reduceSub, Nat.reduceMul, Nat.reduceLeDiff, ↓reduceIte, reduceCtorEq, String.reduceEq, List.getElem?_cons_zero, List.getElem?_cons_succ]; rfl) ?_
  simp (dsimp := false) only [push_cast, hP, hnt, hgw, hgb, Nat.reduceLT, Nat.reduceEqDiff, Nat.reduceAdd, Nat.reduceSub, Nat.reduceMul, Nat.reduceLeDiff, ↓reduceIte, reduceCtorEq, String.reduceEq]
  refine hK _ ?_; clear hK
  refine vwp_ret ?_
  refine ret_free (by simp (dsimp := false) only [push_cast, hP, hnt, hgw, hgb, Nat.reduceLT, Nat.reduceEqDiff, Nat.reduceAdd, Nat.reduceSub, Nat.reduceMul, Nat.reduceLeDiff, ↓reduceIte, reduceCtorEq, String.reduceEq]; rfl) (by simp (dsimp := false) only [push_cast, hP, hnt, hgw, hgb, Nat.reduceLT, Nat.reduceEqDiff, Nat.reduceAdd, Nat.reduceSub, Nat.reduceMul, Nat.reduceLeDiff, ↓reduceIte, reduceCtorEq, String.reduceEq]) ?_
  first | (simp only [pack, unreadF, if_true, if_false, Bool.false_eq_true, reduceIte]; done) | (simp only [pack, unreadF, if_true, if_false, ne_eq, not_true_eq_false, not_false_eq_true, true_or, or_true, or_self, ite_self, Bool.true_eq_false, Bool.false_eq_true, or_false, false_or]; done) | (subst_vars; simp only [pack, unreadF, *, if_true, if_false, ne_eq, not_true_eq_false, not_false_eq_true, true_or, or_true, or_self, ite_self, Bool.true_eq_false, Bool.false_eq_true, or_false, false_or]; done) | (simp [pack, unreadF] <;> omega)
theorem none_ok (gw : World) (hg : Glob gw) (s : ByteArray) (h : s.size ≤ 90000 ∧ (readVF s).2 = 12) : VCall Tryz.prog gw gw.heap.size 8 [.one (.c (.string s))] (.one (.c (.bool true))) [] := by
  have := none_call gw hg s h.1
  rwa [noneF_of h.2] at this
theorem unlisted_ok (gw : World) (hg : Glob gw) (s : ByteArray) (h : s.size ≤ 90000 ∧ (readPassF s).2 = 12) : VCall Tryz.prog gw gw.heap.size 9 [.one (.c (.string s))] (.one (.c (.bool true))) [] := by
  have := unlisted_call gw hg s h.1
  rwa [unlistF_of h.2] at this
theorem unread_ok (gw : World) (hg : Glob gw) (s : ByteArray) (h : s.size ≤ 90000 ∧ (readEngF s).2 = 12) : VCall Tryz.prog gw gw.heap.size 10 [.one (.c (.string s))] (.one (.c (.bool true))) [] := by
  have := unread_call gw hg s h.1
  rwa [unreadF_of h.2] at this
theorem saysV_ok (gw : World) (hg : Glob gw) (v : Ver) (s : ByteArray) (h : s.size ≤ 90000 ∧ verdictF v = (s, 0)) : VCall Tryz.prog gw gw.heap.size 5 [.agg (v.pcs false), .one (.c (.string s))] (.one (.c (.bool true))) [] := by
  have hm := (verdict_say (v := v) (s := s) ⟨by rw [h.2], by rw [h.2]⟩).1
  have := saysV_call gw hg v (fit_may hm) s h.1
  rwa [saysV_of h.2] at this
theorem saysP_ok (gw : World) (hg : Glob gw) (l : List (ByteArray × Int)) (s : ByteArray) (hl : l.length ≤ 100000) (h : s.size ≤ 90000 ∧ passesF l = (s, 0)) : VCall Tryz.prog gw gw.heap.size 6 [.one (.sl false l.length (l.flatMap fun p => [.c (.string p.1), .c (.int .i64 p.2)])), .one (.c (.string s))] (.one (.c (.bool true))) [] := by
  have := saysP_call gw hg l hl s h.1
  rwa [saysP_of h.2] at this
theorem saysE_ok (gw : World) (hg : Glob gw) (x : Eng) (s : ByteArray) (h : s.size ≤ 90000 ∧ engineF x = (s, 0)) : VCall Tryz.prog gw gw.heap.size 7 [.agg x.pcs, .one (.c (.string s))] (.one (.c (.bool true))) [] := by
  have := saysE_call gw hg x s h.1
  rwa [saysE_of h.2] at this
def w37 : Ver := ⟨3, [], [], 0, 0, [], 0⟩
theorem z37 : (⟨#[85, 78, 75, 78, 79, 87, 78, 10]⟩ : ByteArray).size ≤ 90000 ∧ verdictF w37 = (⟨#[85, 78, 75, 78, 79, 87, 78, 10]⟩, 0) := by decide +kernel
def w40 : Ver := ⟨1, [], [], 0, 0, [], 0⟩
theorem z40 : (⟨#[83, 65, 70, 69, 10, 115, 107, 105, 112, 32, 48, 10, 112, 104, 97, 115, 101, 115, 32, 48, 10, 108, 105, 116, 32, 48, 10]⟩ : ByteArray).size ≤ 90000 ∧ verdictF w40 = (⟨#[83, 65, 70, 69, 10, 115, 107, 105, 112, 32, 48, 10, 112, 104, 97, 115, 101, 115, 32, 48, 10, 108, 105, 116, 32, 48, 10]⟩, 0) := by decide +kernel
def w45 : Ver := ⟨1, [], [], 100, 4, [(4, 2), (2001, 0)], 7⟩
theorem z45 : (⟨#[83, 65, 70, 69, 10, 115, 107, 105, 112, 32, 49, 48, 48, 10, 112, 104, 97, 115, 101, 115, 32, 52, 10, 97, 110, 100, 32, 52, 32, 50, 10, 97, 110, 100, 32, 50, 48, 48, 49, 32, 48, 10, 108, 105, 116, 32, 55, 10]⟩ : ByteArray).size ≤ 90000 ∧ verdictF w45 = (⟨#[83, 65, 70, 69, 10, 115, 107, 105, 112, 32, 49, 48, 48, 10, 112, 104, 97, 115, 101, 115, 32, 52, 10, 97, 110, 100, 32, 52, 32, 50, 10, 97, 110, 100, 32, 50, 48, 48, 49, 32, 48, 10, 108, 105, 116, 32, 55, 10]⟩, 0) := by decide +kernel
def w49 : Ver := ⟨2, [], [[true], [false, true]], 0, 0, [], 0⟩
theorem z49 : (⟨#[85, 78, 83, 65, 70, 69, 10, 102, 105, 114, 115, 116, 32, 45, 10, 105, 110, 32, 49, 10, 105, 110, 32, 48, 49, 10]⟩ : ByteArray).size ≤ 90000 ∧ verdictF w49 = (⟨#[85, 78, 83, 65, 70, 69, 10, 102, 105, 114, 115, 116, 32, 45, 10, 105, 110, 32, 49, 10, 105, 110, 32, 48, 49, 10]⟩, 0) := by decide +kernel
def w52 : List (ByteArray × Int) := []
theorem z52 : (⟨#[]⟩ : ByteArray).size ≤ 90000 ∧ passesF w52 = (⟨#[]⟩, 0) := by decide +kernel
def w59 : List (ByteArray × Int) := [(⟨#[112, 104, 97, 115, 101, 115]⟩, 4), (⟨#[115, 119, 101, 101, 112]⟩, 0), (⟨#[112, 114, 101, 102, 105, 120]⟩, 8)]
theorem z59 : (⟨#[112, 104, 97, 115, 101, 115, 58, 52, 44, 115, 119, 101, 101, 112, 44, 112, 114, 101, 102, 105, 120, 58, 56]⟩ : ByteArray).size ≤ 90000 ∧ passesF w59 = (⟨#[112, 104, 97, 115, 101, 115, 58, 52, 44, 115, 119, 101, 101, 112, 44, 112, 114, 101, 102, 105, 120, 58, 56]⟩, 0) := by decide +kernel
def w63 : Eng := ⟨false, 0, 5⟩
theorem z63 : (⟨#[98, 109, 99, 32, 48, 32, 53]⟩ : ByteArray).size ≤ 90000 ∧ engineF w63 = (⟨#[98, 109, 99, 32, 48, 32, 53]⟩, 0) := by decide +kernel
def w67 : Eng := ⟨true, 60, 100000⟩
theorem z67 : (⟨#[112, 100, 114, 32, 54, 48, 32, 49, 48, 48, 48, 48, 48]⟩ : ByteArray).size ≤ 90000 ∧ engineF w67 = (⟨#[112, 100, 114, 32, 54, 48, 32, 49, 48, 48, 48, 48, 48]⟩, 0) := by decide +kernel
theorem z69 : (⟨#[]⟩ : ByteArray).size ≤ 90000 ∧ (readVF ⟨#[]⟩).2 = 12 := by decide +kernel
theorem z71 : (⟨#[83, 65, 70, 69]⟩ : ByteArray).size ≤ 90000 ∧ (readVF ⟨#[83, 65, 70, 69]⟩).2 = 12 := by decide +kernel
theorem z74 : (⟨#[85, 78, 75, 78, 79, 87, 78]⟩ : ByteArray).size ≤ 90000 ∧ (readVF ⟨#[85, 78, 75, 78, 79, 87, 78]⟩).2 = 12 := by decide +kernel
theorem z77 : (⟨#[85, 78, 75, 78, 79, 87, 78, 10, 10]⟩ : ByteArray).size ≤ 90000 ∧ (readVF ⟨#[85, 78, 75, 78, 79, 87, 78, 10, 10]⟩).2 = 12 := by decide +kernel
theorem z80 : (⟨#[115, 97, 102, 101, 10]⟩ : ByteArray).size ≤ 90000 ∧ (readVF ⟨#[115, 97, 102, 101, 10]⟩).2 = 12 := by decide +kernel
theorem z83 : (⟨#[85, 78, 83, 65, 70, 69, 10]⟩ : ByteArray).size ≤ 90000 ∧ (readVF ⟨#[85, 78, 83, 65, 70, 69, 10]⟩).2 = 12 := by decide +kernel
theorem z86 : (⟨#[85, 78, 83, 65, 70, 69, 10, 102, 105, 114, 115, 116, 32, 48, 10]⟩ : ByteArray).size ≤ 90000 ∧ (readVF ⟨#[85, 78, 83, 65, 70, 69, 10, 102, 105, 114, 115, 116, 32, 48, 10]⟩).2 = 12 := by decide +kernel
theorem z89 : (⟨#[85, 78, 83, 65, 70, 69, 10, 102, 105, 114, 115, 116, 32, 10, 105, 110, 32, 45, 10]⟩ : ByteArray).size ≤ 90000 ∧ (readVF ⟨#[85, 78, 83, 65, 70, 69, 10, 102, 105, 114, 115, 116, 32, 10, 105, 110, 32, 45, 10]⟩).2 = 12 := by decide +kernel
theorem z92 : (⟨#[85, 78, 83, 65, 70, 69, 10, 102, 105, 114, 115, 116, 32, 50, 10, 105, 110, 32, 45, 10]⟩ : ByteArray).size ≤ 90000 ∧ (readVF ⟨#[85, 78, 83, 65, 70, 69, 10, 102, 105, 114, 115, 116, 32, 50, 10, 105, 110, 32, 45, 10]⟩).2 = 12 := by decide +kernel
theorem z95 : (⟨#[85, 78, 83, 65, 70, 69, 10, 105, 110, 32, 45, 10, 102, 105, 114, 115, 116, 32, 45, 10]⟩ : ByteArray).size ≤ 90000 ∧ (readVF ⟨#[85, 78, 83, 65, 70, 69, 10, 105, 110, 32, 45, 10, 102, 105, 114, 115, 116, 32, 45, 10]⟩).2 = 12 := by decide +kernel
theorem z98 : (⟨#[85, 78, 83, 65, 70, 69, 10, 102, 105, 114, 115, 116, 32, 45, 10, 105, 110, 32, 45, 45, 10]⟩ : ByteArray).size ≤ 90000 ∧ (readVF ⟨#[85, 78, 83, 65, 70, 69, 10, 102, 105, 114, 115, 116, 32, 45, 10, 105, 110, 32, 45, 45, 10]⟩).2 = 12 := by decide +kernel
theorem z101 : (⟨#[83, 65, 70, 69, 10, 115, 107, 105, 112, 32, 48, 10, 112, 104, 97, 115, 101, 115, 32, 49, 10]⟩ : ByteArray).size ≤ 90000 ∧ (readVF ⟨#[83, 65, 70, 69, 10, 115, 107, 105, 112, 32, 48, 10, 112, 104, 97, 115, 101, 115, 32, 49, 10]⟩).2 = 12 := by decide +kernel
theorem z104 : (⟨#[83, 65, 70, 69, 10, 115, 107, 105, 112, 32, 48, 48, 10, 112, 104, 97, 115, 101, 115, 32, 49, 10, 108, 105, 116, 32, 49, 10]⟩ : ByteArray).size ≤ 90000 ∧ (readVF ⟨#[83, 65, 70, 69, 10, 115, 107, 105, 112, 32, 48, 48, 10, 112, 104, 97, 115, 101, 115, 32, 49, 10, 108, 105, 116, 32, 49, 10]⟩).2 = 12 := by decide +kernel
theorem z107 : (⟨#[83, 65, 70, 69, 10, 115, 107, 105, 112, 32, 49, 48, 49, 10, 112, 104, 97, 115, 101, 115, 32, 49, 10, 108, 105, 116, 32, 49, 10]⟩ : ByteArray).size ≤ 90000 ∧ (readVF ⟨#[83, 65, 70, 69, 10, 115, 107, 105, 112, 32, 49, 48, 49, 10, 112, 104, 97, 115, 101, 115, 32, 49, 10, 108, 105, 116, 32, 49, 10]⟩).2 = 12 := by decide +kernel
theorem z110 : (⟨#[83, 65, 70, 69, 10, 115, 107, 105, 112, 32, 48, 10, 112, 104, 97, 115, 101, 115, 32, 49, 10, 108, 105, 116, 32, 50, 48, 48, 50, 10]⟩ : ByteArray).size ≤ 90000 ∧ (readVF ⟨#[83, 65, 70, 69, 10, 115, 107, 105, 112, 32, 48, 10, 112, 104, 97, 115, 101, 115, 32, 49, 10, 108, 105, 116, 32, 50, 48, 48, 50, 10]⟩).2 = 12 := by decide +kernel
theorem z113 : (⟨#[83, 65, 70, 69, 10, 115, 107, 105, 112, 32, 48, 10, 112, 104, 97, 115, 101, 115, 32, 49, 10, 97, 110, 100, 32, 49, 10, 108, 105, 116, 32, 49, 10]⟩ : ByteArray).size ≤ 90000 ∧ (readVF ⟨#[83, 65, 70, 69, 10, 115, 107, 105, 112, 32, 48, 10, 112, 104, 97, 115, 101, 115, 32, 49, 10, 97, 110, 100, 32, 49, 10, 108, 105, 116, 32, 49, 10]⟩).2 = 12 := by decide +kernel
theorem z116 : (⟨#[83, 65, 70, 69, 10, 115, 107, 105, 112, 32, 48, 10, 112, 104, 97, 115, 101, 115, 32, 49, 10, 97, 110, 100, 32, 49, 32, 50, 32, 51, 10, 108, 105, 116, 32, 49, 10]⟩ : ByteArray).size ≤ 90000 ∧ (readVF ⟨#[83, 65, 70, 69, 10, 115, 107, 105, 112, 32, 48, 10, 112, 104, 97, 115, 101, 115, 32, 49, 10, 97, 110, 100, 32, 49, 32, 50, 32, 51, 10, 108, 105, 116, 32, 49, 10]⟩).2 = 12 := by decide +kernel
theorem z119 : (⟨#[83, 65, 70, 69, 10, 112, 104, 97, 115, 101, 115, 32, 49, 10, 115, 107, 105, 112, 32, 48, 10, 108, 105, 116, 32, 49, 10]⟩ : ByteArray).size ≤ 90000 ∧ (readVF ⟨#[83, 65, 70, 69, 10, 112, 104, 97, 115, 101, 115, 32, 49, 10, 115, 107, 105, 112, 32, 48, 10, 108, 105, 116, 32, 49, 10]⟩).2 = 12 := by decide +kernel
theorem z122 : (⟨#[83, 65, 70, 69, 10, 115, 107, 105, 112, 32, 45, 49, 10, 112, 104, 97, 115, 101, 115, 32, 49, 10, 108, 105, 116, 32, 49, 10]⟩ : ByteArray).size ≤ 90000 ∧ (readVF ⟨#[83, 65, 70, 69, 10, 115, 107, 105, 112, 32, 45, 49, 10, 112, 104, 97, 115, 101, 115, 32, 49, 10, 108, 105, 116, 32, 49, 10]⟩).2 = 12 := by decide +kernel
theorem z125 : (⟨#[83, 65, 70, 69, 10, 115, 107, 105, 112, 32, 48, 10, 112, 104, 97, 115, 101, 115, 32, 49, 10, 108, 105, 116, 32, 49, 10, 108, 105, 116, 32, 49, 10]⟩ : ByteArray).size ≤ 90000 ∧ (readVF ⟨#[83, 65, 70, 69, 10, 115, 107, 105, 112, 32, 48, 10, 112, 104, 97, 115, 101, 115, 32, 49, 10, 108, 105, 116, 32, 49, 10, 108, 105, 116, 32, 49, 10]⟩).2 = 12 := by decide +kernel
theorem z127 : (⟨#[44]⟩ : ByteArray).size ≤ 90000 ∧ (readPassF ⟨#[44]⟩).2 = 12 := by decide +kernel
theorem z129 : (⟨#[104, 97, 115, 104, 44]⟩ : ByteArray).size ≤ 90000 ∧ (readPassF ⟨#[104, 97, 115, 104, 44]⟩).2 = 12 := by decide +kernel
theorem z132 : (⟨#[44, 104, 97, 115, 104]⟩ : ByteArray).size ≤ 90000 ∧ (readPassF ⟨#[44, 104, 97, 115, 104]⟩).2 = 12 := by decide +kernel
theorem z135 : (⟨#[104, 97, 115, 104, 44, 44, 99, 111, 110, 101]⟩ : ByteArray).size ≤ 90000 ∧ (readPassF ⟨#[104, 97, 115, 104, 44, 44, 99, 111, 110, 101]⟩).2 = 12 := by decide +kernel
theorem z138 : (⟨#[112, 114, 101, 102, 105, 120]⟩ : ByteArray).size ≤ 90000 ∧ (readPassF ⟨#[112, 114, 101, 102, 105, 120]⟩).2 = 12 := by decide +kernel
theorem z141 : (⟨#[112, 114, 101, 102, 105, 120, 58, 57]⟩ : ByteArray).size ≤ 90000 ∧ (readPassF ⟨#[112, 114, 101, 102, 105, 120, 58, 57]⟩).2 = 12 := by decide +kernel
theorem z144 : (⟨#[104, 97, 115, 104, 58, 48]⟩ : ByteArray).size ≤ 90000 ∧ (readPassF ⟨#[104, 97, 115, 104, 58, 48]⟩).2 = 12 := by decide +kernel
theorem z147 : (⟨#[72, 97, 115, 104]⟩ : ByteArray).size ≤ 90000 ∧ (readPassF ⟨#[72, 97, 115, 104]⟩).2 = 12 := by decide +kernel
theorem z150 : (⟨#[112, 104, 97, 115, 101, 115, 58, 49]⟩ : ByteArray).size ≤ 90000 ∧ (readPassF ⟨#[112, 104, 97, 115, 101, 115, 58, 49]⟩).2 = 12 := by decide +kernel
theorem z153 : (⟨#[32, 104, 97, 115, 104]⟩ : ByteArray).size ≤ 90000 ∧ (readPassF ⟨#[32, 104, 97, 115, 104]⟩).2 = 12 := by decide +kernel
theorem z156 : (⟨#[104, 97, 115, 104, 44, 104, 97, 115, 104, 44, 104, 97, 115, 104, 44, 104, 97, 115, 104, 44, 104, 97, 115, 104, 44, 104, 97, 115, 104, 44, 104, 97, 115, 104, 44, 104, 97, 115, 104, 44, 104, 97, 115, 104, 44, 104, 97, 115, 104, 44, 104, 97, 115, 104]⟩ : ByteArray).size ≤ 90000 ∧ (readPassF ⟨#[104, 97, 115, 104, 44, 104, 97, 115, 104, 44, 104, 97, 115, 104, 44, 104, 97, 115, 104, 44, 104, 97, 115, 104, 44, 104, 97, 115, 104, 44, 104, 97, 115, 104, 44, 104, 97, 115, 104, 44, 104, 97, 115, 104, 44, 104, 97, 115, 104, 44, 104, 97, 115, 104]⟩).2 = 12 := by decide +kernel
theorem z158 : (⟨#[]⟩ : ByteArray).size ≤ 90000 ∧ (readEngF ⟨#[]⟩).2 = 12 := by decide +kernel
theorem z160 : (⟨#[98, 109, 99]⟩ : ByteArray).size ≤ 90000 ∧ (readEngF ⟨#[98, 109, 99]⟩).2 = 12 := by decide +kernel
theorem z163 : (⟨#[98, 109, 99, 32, 49]⟩ : ByteArray).size ≤ 90000 ∧ (readEngF ⟨#[98, 109, 99, 32, 49]⟩).2 = 12 := by decide +kernel
theorem z166 : (⟨#[98, 109, 99, 32, 49, 32, 50, 32, 51]⟩ : ByteArray).size ≤ 90000 ∧ (readEngF ⟨#[98, 109, 99, 32, 49, 32, 50, 32, 51]⟩).2 = 12 := by decide +kernel
theorem z169 : (⟨#[98, 109, 99, 32, 48, 49, 32, 50]⟩ : ByteArray).size ≤ 90000 ∧ (readEngF ⟨#[98, 109, 99, 32, 48, 49, 32, 50]⟩).2 = 12 := by decide +kernel
theorem z172 : (⟨#[98, 109, 99, 32, 49, 48, 48, 32, 48]⟩ : ByteArray).size ≤ 90000 ∧ (readEngF ⟨#[98, 109, 99, 32, 49, 48, 48, 32, 48]⟩).2 = 12 := by decide +kernel
theorem z175 : (⟨#[112, 100, 114, 32, 48, 32, 48]⟩ : ByteArray).size ≤ 90000 ∧ (readEngF ⟨#[112, 100, 114, 32, 48, 32, 48]⟩).2 = 12 := by decide +kernel
theorem z178 : (⟨#[112, 100, 114, 32, 54, 49, 32, 48]⟩ : ByteArray).size ≤ 90000 ∧ (readEngF ⟨#[112, 100, 114, 32, 54, 49, 32, 48]⟩).2 = 12 := by decide +kernel
theorem z181 : (⟨#[112, 100, 114, 32, 49, 32, 49, 48, 48, 48, 48, 49]⟩ : ByteArray).size ≤ 90000 ∧ (readEngF ⟨#[112, 100, 114, 32, 49, 32, 49, 48, 48, 48, 48, 49]⟩).2 = 12 := by decide +kernel
theorem z184 : (⟨#[115, 97, 116, 32, 49, 32, 49]⟩ : ByteArray).size ≤ 90000 ∧ (readEngF ⟨#[115, 97, 116, 32, 49, 32, 49]⟩).2 = 12 := by decide +kernel
theorem z187 : (⟨#[98, 109, 99, 32, 45, 49, 32, 48]⟩ : ByteArray).size ≤ 90000 ∧ (readEngF ⟨#[98, 109, 99, 32, 45, 49, 32, 48]⟩).2 = 12 := by decide +kernel
theorem z190 : (⟨#[98, 109, 99, 32, 32, 49, 32, 48]⟩ : ByteArray).size ≤ 90000 ∧ (readEngF ⟨#[98, 109, 99, 32, 32, 49, 32, 48]⟩).2 = 12 := by decide +kernel
theorem z193 : (⟨#[98, 109, 99, 32, 49, 32, 48, 32]⟩ : ByteArray).size ≤ 90000 ∧ (readEngF ⟨#[98, 109, 99, 32, 49, 32, 48, 32]⟩).2 = 12 := by decide +kernel

end Go.Vm
end
