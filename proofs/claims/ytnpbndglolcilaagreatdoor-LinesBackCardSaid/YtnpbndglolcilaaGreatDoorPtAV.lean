/-
  Walks of the program's functions by the framework, and what they compute (PtAV). Conditions: each theorem's own premises. By an AI agent.
-/
import Derived.Test.YtnpbndglolcilaaGreatDoorPtAU
import Derived.Test.YtnpbndglolcilaaGreatDoorCards
import Derived.Test.YtnpbndglolcilaaGreatDoorTie
import Derived.WalkKit
import Derived.ProofKit
import Derived.OpenShut
import Derived.Deep.DeepHandedRow
import Derived.Deep.SlicePairs
import Derived.Deep.Strs
import Derived.Lib.LaidTab
import Derived.Lib.SmallJoins
import Derived.Carry
import Derived.Stop.LaidErr
import Derived.MakeChecks
import Derived.ChangeSame
section
namespace Go.Vm
open Go Go.RowKit Go.Proofs
set_option maxRecDepth 100000
set_option linter.unusedVariables false

theorem text17 : ∀ p ∈ refPairs, refCheckG p.1 p.2 = 0 → (44 : UInt8) ∉ (writtenF p.1 p.2).data.toList ∧ (writtenF p.1 p.2).data.toList ≠ [] := by
  decide +kernel
theorem textP_no {p : ByteArray × Int} (h : checkF p.1 p.2 = 0) : (44 : UInt8) ∉ (textP p).data.toList ∧ (textP p).data.toList ≠ [] := by
  have := text17 p (mem_pairs h) (by rw [← refCheckG_eq, ← check_eq]; exact h)
  rw [textP_written p h]
  exact this
theorem pass_back {p : ByteArray × Int} (h : checkF p.1 p.2 = 0) : readF (textP p) = (p.1, p.2, 0) := by
  have hb := back17 p (mem_pairs h) (by rw [← refCheckG_eq, ← check_eq]; exact h)
  have e : textP p = writtenF p.1 p.2 := textP_written p h
  unfold readF
  rw [e, hb.1, hb.2, if_neg]
  rintro (h1 | h1)
  · exact h1 (by rw [textF_snd]; exact h)
  · exact h1 (by rw [show (textF p.1 p.2).1 = writtenF p.1 p.2 from e])
theorem idx_neg {c : UInt8} {l : List UInt8} (h : c ∉ l) : Lib.indexByte l c < 0 := by
  apply Int.not_le.1
  intro hge
  obtain ⟨y, r, e, _⟩ := indexByte_hit c _ hge
  exact h (by rw [e]; simp)
theorem pieces_join : ∀ (w : ByteArray) (ws : List ByteArray), (∀ x ∈ w :: ws, (44 : UInt8) ∉ x.data.toList) → piecesB (joinS commaB (w :: ws)) 44 = w :: ws
  | w, [], h => by
    have e : joinS commaB [w] = w := joinS_one _ _
    rw [e, pieces_miss (idx_neg (h w (by simp)))]
  | w, v :: vs, h => by
    have e : (joinS commaB (w :: v :: vs)).data.toList = w.data.toList ++ 44 :: (joinS commaB (v :: vs)).data.toList := by
      show Lib.join ((w :: v :: vs).map (·.data.toList)) [44] = w.data.toList ++ 44 :: Lib.join ((v :: vs).map (·.data.toList)) [44]
      rw [List.map_cons, List.map_cons, Lib.join_cons, Lib.join_cons]
      simp [Lib.joinTail]
    rw [pieces_hit e (h w (by simp)), bOf_self, bOf_self, pieces_join v vs (fun x hx => h x (by simp [hx]))]
theorem reads_texts : ∀ l : List (ByteArray × Int), (∀ p ∈ l, checkF p.1 p.2 = 0) → readsG readF (l.map textP) = some l
  | [], _ => rfl
  | p :: l, h => by
    have hp := pass_back (h p (by simp))
    rw [List.map_cons, readsG, hp, reads_texts l (fun q hq => h q (by simp [hq]))]
    simp
theorem passesF_zero {l : List (ByteArray × Int)} (h : (passesF l).2 = 0) : checksF l = 0 ∧ passesF l = (joinS commaB (l.map textP), 0) := by
  unfold passesF at h ⊢
  split at h
  · rename_i h1; exact absurd h h1
  · rename_i h1
    exact ⟨by simpa using h1, if_neg h1⟩
theorem passes_back {l : List (ByteArray × Int)} (h : (passesF l).2 = 0) : readPassF (passesF l).1 = (l, 0) := by
  obtain ⟨hc, he⟩ := passesF_zero h
  have hm := firstE_mem (checksF_zero hc).2
  rw [he]
  show readPassF (joinS commaB (l.map textP)) = (l, 0)
  match l, hc, hm with
  | [], _, _ => exact readPass_nil rfl
  | p :: l, hc, hm =>
    have hp := pieces_join (textP p) (l.map textP) (fun x hx => by
      rw [← List.map_cons] at hx
      obtain ⟨q, hq, rfl⟩ := List.mem_map.1 hx
      exact (textP_no (hm q hq)).1)
    have hne : ¬ (joinS commaB ((p :: l).map textP)).toList = (⟨#[]⟩ : ByteArray).toList := by
      intro hh
      have := bytes_ext hh
      have h2 : (joinS commaB ((p :: l).map textP)).data.toList = [] := by rw [this]
      have h3 : (joinS commaB ((p :: l).map textP)).data.toList = (textP p).data.toList ++ Lib.joinTail [44] ((l.map textP).map (·.data.toList)) := by
        show Lib.join (((p :: l).map textP).map (·.data.toList)) [44] = _
        rw [List.map_cons, List.map_cons, Lib.join_cons]
      rw [h3, List.append_eq_nil_iff] at h2
      exact (textP_no (hm p (by simp))).2 h2.1
    exact readPass_ok hne (by rw [List.map_cons, hp, ← List.map_cons]; exact reads_texts (p :: l) hm) hc
theorem engineF_zero {x : Eng} (h : (engineF x).2 = 0) : engP x ∧ engineF x = (engT x, 0) := by
  by_cases hz : engE x = 0
  · exact ⟨engE_zero hz, engineF_ok hz⟩
  · rw [engineF_bad hz] at h; exact absurd h hz
theorem verdictF_size (v : Ver) : (verdictF v).1.size ≤ 40000 := by
  unfold verdictF
  split
  · show 0 ≤ 40000; omega
  · split
    · show 0 ≤ 40000; omega
    · rw [bOf_size]; omega
theorem alive_ok : aliveLF = true := by
  have hm : mayF runV = true := by decide
  have hl : verdictL runV = [85, 78, 83, 65, 70, 69, 10, 102, 105, 114, 115, 116, 32, 49, 48, 10, 105, 110, 32, 45, 10] := by decide +kernel
  have hv : verdictF runV = (⟨#[85, 78, 83, 65, 70, 69, 10, 102, 105, 114, 115, 116, 32, 49, 48, 10, 105, 110, 32, 45, 10]⟩, 0) := by
    unfold verdictF
    rw [if_neg (by rw [hm]; simp), hl, if_neg (by decide)]
    rfl
  have hr := (readV_of (v := runV) (s := ⟨#[85, 78, 83, 65, 70, 69, 10, 102, 105, 114, 115, 116, 32, 49, 48, 10, 105, 110, 32, 45, 10]⟩) ⟨by rw [hv], by rw [hv]⟩).1
  have hc : checksF listV = 0 := by
    have h0 : checkF nm0 0 = 0 := by rw [check_eq, refCheckG_eq]; decide
    have h1 : checkF nPrefix 2 = 0 := by rw [check_eq, refCheckG_eq]; decide
    rw [checks_eq]
    show checksR [(nm0, 0), (nPrefix, 2)] = 0
    rw [← checks_eq]
    unfold checksF firstE firstE firstE
    rw [h0, h1]; rfl
  have hp : passesF listV = (⟨#[104, 97, 115, 104, 44, 112, 114, 101, 102, 105, 120, 58, 50]⟩, 0) := by
    rw [← passes_eq]
    unfold passesR
    rw [if_neg (by rw [← checks_eq, hc]; simp)]
    decide +kernel
  have hq := passes_back (l := listV) (by rw [hp])
  rw [hp] at hq
  unfold aliveLF saysVF saysPF
  rw [hv, hr, hp, hq, sameV_refl]
  simp
theorem alive_true_call (gw : World) (hg : Glob gw) : VCall Tryz.prog gw gw.heap.size 14 [] (.one (.c (.bool true))) [] := by
  have := aliveL_call gw hg
  rwa [alive_ok] at this
end Go.Vm
end

section
namespace Go.Vm
open Go Go.RowKit Go.Proofs
set_option maxRecDepth 100000
set_option linter.unusedVariables false

theorem read_text {s : ByteArray} (h : (readF s).2.2 = 0) : textP ((readF s).1, (readF s).2.1) = s := by
  unfold readF at h ⊢
  split at h
  · simp at h
  · rename_i hc
    simp only [not_or, ne_eq, Classical.not_not] at hc
    rw [if_neg (by simp only [not_or, ne_eq, Classical.not_not]; exact hc)]
    exact bytes_ext hc.2
theorem joinS_two' (w v : ByteArray) (vs : List ByteArray) : (joinS commaB (w :: v :: vs)).data.toList = w.data.toList ++ 44 :: (joinS commaB (v :: vs)).data.toList := by
  show Lib.join ((w :: v :: vs).map (·.data.toList)) [44] = w.data.toList ++ 44 :: Lib.join ((v :: vs).map (·.data.toList)) [44]
  rw [List.map_cons, List.map_cons, Lib.join_cons, Lib.join_cons]
  simp [Lib.joinTail]
theorem pieces_back : ∀ (n : Nat) (s : ByteArray), s.data.toList.length ≤ n → ∃ v vs, piecesB s 44 = v :: vs ∧ joinS commaB (v :: vs) = s
  | n, s, hn => by
    by_cases hi : Lib.indexByte s.data.toList 44 < 0
    · exact ⟨s, [], pieces_miss hi, joinS_one _ _⟩
    · obtain ⟨x, r, hs, hx, _⟩ := indexByte_hit 44 s.data.toList (Int.not_lt.1 hi)
      match n with
      | 0 => rw [hs] at hn; simp at hn
      | n + 1 =>
        obtain ⟨v, vs, hp, hj⟩ := pieces_back n (bOf r) (by
          rw [hs] at hn
          simp only [List.length_append, List.length_cons] at hn
          show r.length ≤ n
          omega)
        refine ⟨bOf x, v :: vs, by rw [pieces_hit hs hx, hp], ?_⟩
        rw [bOf_ext (joinS_two' (bOf x) v vs), hj]
        show bOf (x ++ 44 :: r) = s
        rw [← hs, bOf_self]
theorem reads_map : ∀ (L : List ByteArray) (l : List (ByteArray × Int)), readsG readF L = some l → l.map textP = L
  | [], l, h => by simp [readsG] at h; subst h; rfl
  | w :: ws, l, h => by
    unfold readsG at h
    split at h
    · rename_i hw
      obtain ⟨k, hk, rfl⟩ := Option.map_eq_some_iff.1 h
      rw [List.map_cons, read_text hw, reads_map ws k hk]
    · cases h
theorem readPass_cases (s : ByteArray) : readPassF s = ([], 12) ∨ ∃ l, l.length ≤ 10 ∧ readPassF s = (l, 0) ∧ passesF l = (s, 0) := by
  by_cases h0 : s.toList = (⟨#[]⟩ : ByteArray).toList
  · refine .inr ⟨[], by simp, readPass_nil h0, ?_⟩
    rw [bytes_ext h0]; rfl
  · cases h1 : readsG readF (piecesB s 44) with
    | none => exact .inl (readPass_stop h0 h1)
    | some l =>
      by_cases h2 : checksF l = 0
      · refine .inr ⟨l, (checksF_zero h2).1, readPass_ok h0 h1 h2, ?_⟩
        have hm := reads_map _ l h1
        obtain ⟨v, vs, hp, hj⟩ := pieces_back _ s (Nat.le_refl _)
        unfold passesF
        rw [if_neg (by simpa using h2), hm, hp, hj]
      · exact .inl (readPass_bad h0 h1 h2)
theorem saysP_of {l : List (ByteArray × Int)} {s : ByteArray} (h : passesF l = (s, 0)) : saysPF l s = true := by
  have hb := passes_back (l := l) (by rw [h])
  rw [h] at hb
  unfold saysPF
  rw [h, hb]
  simp
theorem saysV_of {v : Ver} {s : ByteArray} (h : verdictF v = (s, 0)) : saysVF v s = true := by
  have hb := (readV_of (v := v) (s := s) ⟨by rw [h], by rw [h]⟩).1
  unfold saysVF
  rw [h, hb, sameV_refl]
  simp
theorem readV_cases (s : ByteArray) : readVF s = (ver0, 12) ∨ ∃ v, Fit v ∧ readVF s = (v, 0) ∧ verdictF v = (s, 0) := by
  have h1 : readVF s = (ver0, 12) ∨ ∃ v, (verdictF v).2 = 0 ∧ (verdictF v).1.toList = s.toList := by
    unfold readVF
    split
    · exact .inl rfl
    · split
      · exact .inl rfl
      · rename_i h; exact .inr ⟨_, by simpa [not_or] using h⟩
  rcases h1 with h1 | ⟨v, h1⟩
  · exact .inl h1
  · have h2 := verdict_say h1
    exact .inr ⟨v, fit_may h2.1, (readV_of h1).1, h2.2.2.2⟩
def saysEF (x : Eng) (s : ByteArray) : Bool :=
  ((engineF x).2 == 0) && ((engineF x).1.toList == s.toList) && ((readEngF s).2 == 0) && (x.pdr == (readEngF s).1.pdr && (x.num == (readEngF s).1.num && x.bud == (readEngF s).1.bud))
theorem saysE_of {x : Eng} {s : ByteArray} (h : engineF x = (s, 0)) : saysEF x s = true := by
  obtain ⟨hp, he⟩ := engineF_zero (x := x) (by rw [h])
  rw [h] at he
  have hs : s = engT x := (Prod.mk.inj he).1
  have hb := (readEng_of hp).1
  rw [← hs] at hb
  unfold saysEF
  rw [h, hb]
  simp
theorem verdict_cases (v : Ver) : (verdictF v = (⟨#[]⟩, 8) ∧ mayF v = false) ∨ verdictF v = (⟨#[]⟩, 18) ∨ ((verdictF v).2 = 0 ∧ mayF v = true) := by
  unfold verdictF
  split
  · rename_i h; exact .inl ⟨rfl, h⟩
  · rename_i h
    split
    · exact .inr (.inl rfl)
    · exact .inr (.inr ⟨rfl, by simpa using h⟩)
end Go.Vm
end

section
namespace Go.Vm
open Go Go.RowKit Go.Proofs
set_option maxRecDepth 100000
set_option linter.unusedSimpArgs false
set_option linter.unusedVariables false
set_option maxHeartbeats 4000000

theorem readPass_few (s : ByteArray) : (readPassF s).1.length ≤ 100000 := by
  rcases readPass_cases s with h | ⟨l, hl, h, _⟩
  · rw [h]; simp
  · rw [h]; show l.length ≤ 100000; omega
theorem passesF_size (l : List (ByteArray × Int)) : (passesF l).1.size ≤ 90000 := by
  by_cases h : (passesF l).2 = 0
  · obtain ⟨hc, he⟩ := passesF_zero h
    rw [he]
    have := joinP_size hc
    show (joinS commaB (l.map textP)).size ≤ 90000
    omega
  · have : passesF l = (⟨#[]⟩, checksF l) := by
      unfold passesF at h ⊢
      split
      · rfl
      · rename_i h1; rw [if_neg h1] at h; exact absurd rfl h
    rw [this]
    show 0 ≤ 90000
    omega
theorem engineF_size (x : Eng) : (engineF x).1.size ≤ 90000 := by
  by_cases h : (engineF x).2 = 0
  · obtain ⟨hp, he⟩ := engineF_zero h
    rw [he]
    have := engT_size hp
    show (engT x).size ≤ 90000
    omega
  · have hz : ¬ engE x = 0 := fun hz => by rw [engineF_ok hz] at h; exact h rfl
    rw [engineF_bad hz]
    show 0 ≤ 90000
    omega
theorem readV_fit' (s : ByteArray) : Fit (readVF s).1 := by
  rcases readV_cases s with h | ⟨v, hf, h, _⟩
  · rw [h]; exact ⟨by simp [ver0], by simp [ver0], by simp [ver0], by simp [ver0]⟩
  · rw [h]; exact hf
theorem verdictF_size' (v : Ver) : (verdictF v).1.size ≤ 90000 := by have := verdictF_size v; omega
theorem saysE_call (gw : World) (hg : Glob gw) (x : Eng) (s : ByteArray) (hs : s.size ≤ 90000) : VCall Tryz.prog gw (gw.heap.size) 7 [.agg (x.pcs), .one (.c (.string s))] (.one (.c (.bool (saysEF x s)))) [] := by
  refine vcall_of [.tmp 4] Tryz.func7 rfl rfl Tryz.ntmps7 rfl (by simp) ?_
  intro C hP hnt hgw hgb hfull
  refine vwp_seq_region rfl fun K hK => ?_
  simp (dsimp := false) only [push_cast, hP, hnt, hgw, hgb, sevalprocAttr, String.reduceEq]
  refine hK _ ?_; clear hK
  refine vwp_seq_region rfl fun K hK => ?_
  simp (dsimp := false) only [push_cast, hP, hnt, hgw, hgb, sevalprocAttr, String.reduceEq]
  refine .inl (callE_intro (engineText_call gw hg x) (.inl ⟨rfl, rfl⟩) ?_)
  simp (dsimp := false) only [push_cast, hP, hnt, hgw, hgb, sevalprocAttr, String.reduceEq]
  refine hK _ ?_; clear hK
  refine vwp_seq_region rfl fun K hK => ?_
  simp (dsimp := false) only [push_cast, hP, hnt, hgw, hgb, sevalprocAttr, String.reduceEq]
  refine .inl (callE_intro (readEngine_call gw hg s hs) (.inl ⟨rfl, rfl⟩) ?_)
  simp (dsimp := false) only [push_cast, hP, hnt, hgw, hgb, sevalprocAttr, String.reduceEq]
  refine hK _ ?_; clear hK
  refine vwp_seq_regionG fun K hK => ?_
  simp (dsimp := false) only [push_cast, hP, hnt, hgw, hgb, sevalprocAttr, String.reduceEq]
  refine guardR_may (by simp (dsimp := false) only [push_cast, hP, hnt, hgw, hgb, sevalprocAttr, String.reduceEq, List.getElem?_cons_zero, List.getElem?_cons_succ]; rfl) ?_
  simp (dsimp := false) only [push_cast, hP, hnt, hgw, hgb, sevalprocAttr, String.reduceEq]
  refine guardR_may (by simp (dsimp := false) only [push_cast, hP, hnt, hgw, hgb, sevalprocAttr, String.reduceEq, List.getElem?_cons_zero, List.getElem?_cons_succ]; rfl) ?_
  simp (dsimp := false) only [push_cast, hP, hnt, hgw, hgb, sevalprocAttr, String.reduceEq]
  refine guardR_may (by simp (dsimp := false) only [push_cast, hP, hnt, hgw, hgb, sevalprocAttr, String.reduceEq, List.getElem?_cons_zero, List.getElem?_cons_succ]; rfl) ?_
  simp (dsimp := false) only [push_cast, hP, hnt, hgw, hgb, sevalprocAttr, String.reduceEq]
  refine guardR_may (by simp (dsimp := false) only [push_cast, hP, hnt, hgw, hgb, sevalprocAttr, String.reduceEq, List.getElem?_cons_zero, List.getElem?_cons_succ]; rfl) ?_
  simp (dsimp := false) only [push_cast, hP, hnt, hgw, hgb, sevalprocAttr, String.reduceEq]
  refine guardR_may (by simp (dsimp := false) only [push_cast, hP, hnt, hgw, hgb, sevalprocAttr, String.reduceEq, List.getElem?_cons_zero, List.getElem?_cons_succ]; rfl) ?_
  simp (dsimp := false) only [push_cast, hP, hnt, hgw, hgb, sevalprocAttr, String.reduceEq]
  refine guardR_may (by simp (dsimp := false) only [push_cast, hP, hnt, hgw, hgb, sevalprocAttr, String.reduceEq, List.getElem?_cons_zero, List.getElem?_cons_succ]; rfl) ?_
  simp (dsimp := false) only [push_cast, hP, hnt, hgw, hgb, sevalprocAttr, String.reduceEq]
  refine guardR_may (by simp (dsimp := false) only [push_cast, hP, hnt, hgw, hgb, sevalprocAttr, String.reduceEq, List.getElem?_cons_zero, List.getElem?_cons_succ]; rfl) ?_
  simp (dsimp := false) only [push_cast, hP, hnt, hgw, hgb, sevalprocAttr, String.reduceEq]
  refine guardR_may (by simp (dsimp := false) only [push_cast, hP, hnt, hgw, hgb, sevalprocAttr, String.reduceEq, List.getElem?_cons_zero, List.getElem?_cons_succ]; rfl) ?_
  simp (dsimp := false) only [push_cast, hP, hnt, hgw, hgb, sevalprocAttr, String.reduceEq]
  refine hK _ ?_; clear hK
  refine vwp_ret ?_
  refine ret_free (by simp (dsimp := false) only [push_cast, hP, hnt, hgw, hgb, sevalprocAttr, String.reduceEq]; rfl) (by simp (dsimp := false) only [push_cast, hP, hnt, hgw, hgb, sevalprocAttr, String.reduceEq]) ?_
  first | (simp only [pack, saysEF, if_true, if_false, Bool.false_eq_true, reduceIte]; done) | (simp only [pack, saysEF, if_true, if_false, ne_eq, not_true_eq_false, not_false_eq_true, true_or, or_true, or_self, ite_self, Bool.true_eq_false, Bool.false_eq_true, or_false, false_or]; done) | (subst_vars; simp only [pack, saysEF, *, if_true, if_false, ne_eq, not_true_eq_false, not_false_eq_true, true_or, or_true, or_self, ite_self, Bool.true_eq_false, Bool.false_eq_true, or_false, false_or]; done) | (simp [pack, saysEF] <;> omega)
end Go.Vm
end

section
namespace Go.Vm
open Go Go.RowKit Go.Proofs
set_option maxRecDepth 100000
set_option linter.unusedSimpArgs false
set_option linter.unusedVariables false
set_option maxHeartbeats 4000000

theorem back1 (v : Ver) (l : List (ByteArray × Int)) (x : Eng) : (!((verdictF v).2 == 0) == mayF v && (verdictF v).2 != 18 || !((passesF l).2 == 0) == (checksR l == 0) || !((engineF x).2 == 0) == (engE x == 0)) = false := by
  have h1 : (!((verdictF v).2 == 0) == mayF v && (verdictF v).2 != 18) = false := by
    rcases verdict_cases v with ⟨h, hm⟩ | h | ⟨h, hm⟩
    · rw [h, hm]; rfl
    · rw [h]; simp
    · rw [h, hm]; rfl
  have h2 : (!((passesF l).2 == 0) == (checksR l == 0)) = false := by
    rw [← checks_eq]
    unfold passesF
    split
    · simp
    · rename_i h
      have h : checksF l = 0 := by simpa using h
      rw [h]; rfl
  have h3 : (!((engineF x).2 == 0) == (engE x == 0)) = false := by
    unfold engineF
    split
    · simp
    · rename_i h
      have h : engE x = 0 := by simpa using h
      rw [h]; rfl
  rw [h1, h2, h3]; rfl
theorem back2 (v : Ver) (l : List (ByteArray × Int)) (x : Eng) : ((verdictF v).2 == 0 && !saysVF v (verdictF v).1 || (passesF l).2 == 0 && !saysPF l (passesF l).1 || (engineF x).2 == 0 && !saysEF x (engineF x).1) = false := by
  have h1 : ((verdictF v).2 == 0 && !saysVF v (verdictF v).1) = false := by
    by_cases h : (verdictF v).2 = 0
    · rw [saysV_of (v := v) (s := (verdictF v).1) (Prod.ext rfl h)]; simp
    · simp [h]
  have h2 : ((passesF l).2 == 0 && !saysPF l (passesF l).1) = false := by
    by_cases h : (passesF l).2 = 0
    · rw [saysP_of (l := l) (s := (passesF l).1) (Prod.ext rfl h)]; simp
    · simp [h]
  have h3 : ((engineF x).2 == 0 && !saysEF x (engineF x).1) = false := by
    by_cases h : (engineF x).2 = 0
    · rw [saysE_of (x := x) (s := (engineF x).1) (Prod.ext rfl h)]; simp
    · simp [h]
  rw [h1, h2, h3]; rfl
theorem back3 (s : ByteArray) : ((readVF s).2 != 0 && (readVF s).2 != 12 || (readPassF s).2 != 0 && (readPassF s).2 != 12 || (readEngF s).2 != 0 && (readEngF s).2 != 12) = false := by
  have h1 : ((readVF s).2 != 0 && (readVF s).2 != 12) = false := by
    rcases readV_cases s with h | ⟨_, _, h, _⟩ <;> rw [h] <;> rfl
  have h2 : ((readPassF s).2 != 0 && (readPassF s).2 != 12) = false := by
    rcases readPass_cases s with h | ⟨_, _, h, _⟩ <;> rw [h] <;> rfl
  have h3 : ((readEngF s).2 != 0 && (readEngF s).2 != 12) = false := by
    rcases readEng_cases s with h | ⟨_, _, _, h⟩ <;> rw [h] <;> rfl
  rw [h1, h2, h3]; rfl
theorem back4 (s : ByteArray) : ((readVF s).2 != 0 || saysVF (readVF s).1 s) = true ∧ ((readPassF s).2 != 0 || saysPF (readPassF s).1 s) = true ∧ ((readEngF s).2 != 0 || saysEF (readEngF s).1 s) = true := by
  refine ⟨?_, ?_, ?_⟩
  · rcases readV_cases s with h | ⟨v, _, h, hv⟩
    · rw [h]; rfl
    · rw [h]; show (_ || saysVF v s) = true; rw [saysV_of hv]; simp
  · rcases readPass_cases s with h | ⟨l, _, h, hl⟩
    · rw [h]; rfl
    · rw [h]; show (_ || saysPF l s) = true; rw [saysP_of hl]; simp
  · rcases readEng_cases s with h | ⟨x, hp, hs, h⟩
    · rw [h]; rfl
    · rw [h]; show (_ || saysEF x s) = true; rw [saysE_of (x := x) (s := s) (by rw [engineF_ok (engE_ok hp), hs])]; simp
theorem linesBack_call (gw : World) (hg : Glob gw) (v : Ver) (l : List (ByteArray × Int)) (x : Eng) (s : ByteArray) : VCall Tryz.prog gw (gw.heap.size) 4 [.agg (v.pcs false), .one (.sl false l.length (l.flatMap fun p => [.c (.string p.1), .c (.int .i64 p.2)])), .agg (x.pcs), .one (.c (.string s))] (.one (.c (.bool true))) [] := by
  refine vcall_of [.tmp 8] Tryz.func4 rfl rfl Tryz.ntmps4 rfl (by simp) ?_
  intro C hP hnt hgw hgb hfull
  refine vwp_seq_region rfl fun K hK => ?_
  simp (dsimp := false) only [push_cast, hP, hnt, hgw, hgb, sevalprocAttr, String.reduceEq]
  refine hK _ ?_; clear hK
  refine vwp_seq_region rfl fun K hK => ?_
  simp (dsimp := false) only [push_cast, hP, hnt, hgw, hgb, sevalprocAttr, String.reduceEq]
  refine .inl (callE_intro (alive_true_call gw hg) (.inl ⟨rfl, rfl⟩) ?_)
  simp (dsimp := false) only [push_cast, hP, hnt, hgw, hgb, sevalprocAttr, String.reduceEq]
  refine hK _ ?_; clear hK
  refine vwp_seq fun K hK => ?_
  refine vwp_seq_regionG fun K hK => ?_
  simp (dsimp := false) only [push_cast, hP, hnt, hgw, hgb, sevalprocAttr, String.reduceEq]
  refine .inl (callE_intro (great_call gw gw.heap.size v) (.inl ⟨rfl, rfl⟩) ?_)
  simp (dsimp := false) only [push_cast, hP, hnt, hgw, hgb, sevalprocAttr, String.reduceEq]
  refine guardR_may (by simp (dsimp := false) only [push_cast, hP, hnt, hgw, hgb, sevalprocAttr, String.reduceEq, List.getElem?_cons_zero, List.getElem?_cons_succ]; rfl) ?_
  simp (dsimp := false) only [push_cast, hP, hnt, hgw, hgb, sevalprocAttr, String.reduceEq]
  refine guardR_may (by simp (dsimp := false) only [push_cast, hP, hnt, hgw, hgb, sevalprocAttr, String.reduceEq, List.getElem?_cons_zero, List.getElem?_cons_succ]; rfl) ?_
  simp (dsimp := false) only [push_cast, hP, hnt, hgw, hgb, sevalprocAttr, String.reduceEq]
  refine guardR_may (by simp (dsimp := false) only [push_cast, hP, hnt, hgw, hgb, sevalprocAttr, String.reduceEq, List.getElem?_cons_zero, List.getElem?_cons_succ]; rfl) ?_
  simp (dsimp := false) only [push_cast, hP, hnt, hgw, hgb, sevalprocAttr, String.reduceEq]
  refine guardR_may (by simp (dsimp := false) only [push_cast, hP, hnt, hgw, hgb, sevalprocAttr, String.reduceEq, List.getElem?_cons_zero, List.getElem?_cons_succ]; rfl) ?_
  simp (dsimp := false) only [push_cast, hP, hnt, hgw, hgb, sevalprocAttr, String.reduceEq]
  refine guardR_may (by simp (dsimp := false) only [push_cast, hP, hnt, hgw, hgb, sevalprocAttr, String.reduceEq, List.getElem?_cons_zero, List.getElem?_cons_succ]; rfl) ?_
  simp (dsimp := false) only [push_cast, hP, hnt, hgw, hgb, sevalprocAttr, String.reduceEq]
  refine guardR_may (by simp (dsimp := false) only [push_cast, hP, hnt, hgw, hgb, sevalprocAttr, String.reduceEq, List.getElem?_cons_zero, List.getElem?_cons_succ]; rfl) ?_
  simp (dsimp := false) only [push_cast, hP, hnt, hgw, hgb, sevalprocAttr, String.reduceEq]
  refine guardR_may (by simp (dsimp := false) only [push_cast, hP, hnt, hgw, hgb, sevalprocAttr, String.reduceEq, List.getElem?_cons_zero, List.getElem?_cons_succ]; rfl) ?_
  simp (dsimp := false) only [push_cast, hP, hnt, hgw, hgb, sevalprocAttr, String.reduceEq]
  refine guardR_may (by simp (dsimp := false) only [push_cast, hP, hnt, hgw, hgb, sevalprocAttr, String.reduceEq, List.getElem?_cons_zero, List.getElem?_cons_succ]; rfl) ?_
  simp (dsimp := false) only [push_cast, hP, hnt, hgw, hgb, sevalprocAttr, String.reduceEq]
  refine hK _ ?_; clear hK
  refine vwp_cond (b := _) (by simp (dsimp := false) only [push_cast, hP, hnt, hgw, hgb, sevalprocAttr, String.reduceEq]; rfl) (fun rb0 => ?_) (fun rb0 => ?_)
  · have hb0 := rb0
    try simp only [beq_iff_eq, bne_iff_ne, ne_eq, bne_eq_false_iff_eq, beq_eq_false_iff_ne, decide_eq_true_eq, decide_eq_false_iff_not, Bool.not_eq_true', Bool.not_eq_false', Bool.or_eq_true, Bool.and_eq_true, Bool.or_eq_false_iff, Bool.and_eq_false_iff] at hb0
    refine vwp_seq_region rfl fun K hK => ?_
    simp (dsimp := false) only [push_cast, hP, hnt, hgw, hgb, sevalprocAttr, String.reduceEq]
    refine hK _ ?_; clear hK
    refine vwp_ret ?_
    refine ret_free (by simp (dsimp := false) only [push_cast, hP, hnt, hgw, hgb, sevalprocAttr, String.reduceEq]; rfl) (by simp (dsimp := false) only [push_cast, hP, hnt, hgw, hgb, sevalprocAttr, String.reduceEq]) ?_
    rfl
  · have hb0 := rb0
    try simp only [beq_iff_eq, bne_iff_ne, ne_eq, bne_eq_false_iff_eq, beq_eq_false_iff_ne, decide_eq_true_eq, decide_eq_false_iff_not, Bool.not_eq_true', Bool.not_eq_false', Bool.or_eq_true, Bool.and_eq_true, Bool.or_eq_false_iff, Bool.and_eq_false_iff] at hb0
    have hfv : Fit v := fit_of (by simp_all)
    have hll : (l.length : Int) ≤ 12 := by omega
    have hls : (s.size : Int) ≤ 2000 := by omega
    refine vwp_skip ?_
    apply_assumption
    refine vwp_seq_region rfl fun K hK => ?_
    simp (dsimp := false) only [push_cast, hP, hnt, hgw, hgb, sevalprocAttr, String.reduceEq]
    refine .inl (callE_intro (verdict_call gw hg v hfv) (.inl ⟨rfl, rfl⟩) ?_)
    simp (dsimp := false) only [push_cast, hP, hnt, hgw, hgb, sevalprocAttr, String.reduceEq]
    refine hK _ ?_; clear hK
    refine vwp_seq_region rfl fun K hK => ?_
    simp (dsimp := false) only [push_cast, hP, hnt, hgw, hgb, sevalprocAttr, String.reduceEq]
    refine .inl (callE_intro (passes_call gw gw.heap.size l (by omega)) (.inl ⟨rfl, rfl⟩) ?_)
    simp (dsimp := false) only [push_cast, hP, hnt, hgw, hgb, sevalprocAttr, String.reduceEq]
    refine hK _ ?_; clear hK
    refine vwp_seq_region rfl fun K hK => ?_
    simp (dsimp := false) only [push_cast, hP, hnt, hgw, hgb, sevalprocAttr, String.reduceEq]
    refine .inl (callE_intro (engineText_call gw hg x) (.inl ⟨rfl, rfl⟩) ?_)
    simp (dsimp := false) only [push_cast, hP, hnt, hgw, hgb, sevalprocAttr, String.reduceEq]
    refine hK _ ?_; clear hK
    refine vwp_seq fun K hK => ?_
    refine vwp_seq_regionG fun K hK => ?_
    simp (dsimp := false) only [push_cast, hP, hnt, hgw, hgb, sevalprocAttr, String.reduceEq]
    refine .inl (callE_intro (refMay_call gw gw.heap.size v hfv) (.inl ⟨rfl, rfl⟩) ?_)
    simp (dsimp := false) only [push_cast, hP, hnt, hgw, hgb, sevalprocAttr, String.reduceEq]
    refine guardR_may (by simp (dsimp := false) only [push_cast, hP, hnt, hgw, hgb, sevalprocAttr, String.reduceEq, List.getElem?_cons_zero, List.getElem?_cons_succ]; rfl) ?_
    simp (dsimp := false) only [push_cast, hP, hnt, hgw, hgb, sevalprocAttr, String.reduceEq]
    refine guardR_may (by simp (dsimp := false) only [push_cast, hP, hnt, hgw, hgb, sevalprocAttr, String.reduceEq, List.getElem?_cons_zero, List.getElem?_cons_succ]; rfl) ?_
    simp (dsimp := false) only [push_cast, hP, hnt, hgw, hgb, sevalprocAttr, String.reduceEq]
    refine guardR_may (by simp (dsimp := false) only [push_cast, hP, hnt, hgw, hgb, sevalprocAttr, String.reduceEq, List.getElem?_cons_zero, List.getElem?_cons_succ]; rfl) ?_
    simp (dsimp := false) only [push_cast, hP, hnt, hgw, hgb, sevalprocAttr, String.reduceEq]
    refine guardR_may (by simp (dsimp := false) only [push_cast, hP, hnt, hgw, hgb, sevalprocAttr, String.reduceEq, List.getElem?_cons_zero, List.getElem?_cons_succ]; rfl) ?_
    simp (dsimp := false) only [push_cast, hP, hnt, hgw, hgb, sevalprocAttr, String.reduceEq]
    refine guardR_may (by simp (dsimp := false) only [push_cast, hP, hnt, hgw, hgb, sevalprocAttr, String.reduceEq, List.getElem?_cons_zero, List.getElem?_cons_succ]; rfl) ?_
    simp (dsimp := false) only [push_cast, hP, hnt, hgw, hgb, sevalprocAttr, String.reduceEq]
    refine guardR_may (by simp (dsimp := false) only [push_cast, hP, hnt, hgw, hgb, sevalprocAttr, String.reduceEq, List.getElem?_cons_zero, List.getElem?_cons_succ]; rfl) ?_
    simp (dsimp := false) only [push_cast, hP, hnt, hgw, hgb, sevalprocAttr, String.reduceEq]
    refine callE_intro (refChecks_call gw gw.heap.size l) (.inl ⟨rfl, rfl⟩) ?_
    refine ⟨rfl, ?_⟩
    simp (dsimp := false) only [push_cast, hP, hnt, hgw, hgb, sevalprocAttr, String.reduceEq]
    refine guardR_may (by simp (dsimp := false) only [push_cast, hP, hnt, hgw, hgb, sevalprocAttr, String.reduceEq, List.getElem?_cons_zero, List.getElem?_cons_succ]; rfl) ?_
    simp (dsimp := false) only [push_cast, hP, hnt, hgw, hgb, sevalprocAttr, String.reduceEq]
    refine guardR_may (by simp (dsimp := false) only [push_cast, hP, hnt, hgw, hgb, sevalprocAttr, String.reduceEq, List.getElem?_cons_zero, List.getElem?_cons_succ]; rfl) ?_
    simp (dsimp := false) only [push_cast, hP, hnt, hgw, hgb, sevalprocAttr, String.reduceEq]
    refine guardR_may (by simp (dsimp := false) only [push_cast, hP, hnt, hgw, hgb, sevalprocAttr, String.reduceEq, List.getElem?_cons_zero, List.getElem?_cons_succ]; rfl) ?_
    simp (dsimp := false) only [push_cast, hP, hnt, hgw, hgb, sevalprocAttr, String.reduceEq]
    refine guardR_may (by simp (dsimp := false) only [push_cast, hP, hnt, hgw, hgb, sevalprocAttr, String.reduceEq, List.getElem?_cons_zero, List.getElem?_cons_succ]; rfl) ?_
    simp (dsimp := false) only [push_cast, hP, hnt, hgw, hgb, sevalprocAttr, String.reduceEq]
    refine guardR_may (by simp (dsimp := false) only [push_cast, hP, hnt, hgw, hgb, sevalprocAttr, String.reduceEq, List.getElem?_cons_zero, List.getElem?_cons_succ]; rfl) ?_
    simp (dsimp := false) only [push_cast, hP, hnt, hgw, hgb, sevalprocAttr, String.reduceEq]
    refine guardR_may (by simp (dsimp := false) only [push_cast, hP, hnt, hgw, hgb, sevalprocAttr, String.reduceEq, List.getElem?_cons_zero, List.getElem?_cons_succ]; rfl) ?_
    simp (dsimp := false) only [push_cast, hP, hnt, hgw, hgb, sevalprocAttr, String.reduceEq]
    refine callE_intro (refEngine0_call gw gw.heap.size x) (.inl ⟨rfl, rfl⟩) ?_
    refine ⟨rfl, ?_⟩
    simp (dsimp := false) only [push_cast, hP, hnt, hgw, hgb, sevalprocAttr, String.reduceEq]
    refine guardR_may (by simp (dsimp := false) only [push_cast, hP, hnt, hgw, hgb, sevalprocAttr, String.reduceEq, List.getElem?_cons_zero, List.getElem?_cons_succ]; rfl) ?_
    simp (dsimp := false) only [push_cast, hP, hnt, hgw, hgb, sevalprocAttr, String.reduceEq]
    refine guardR_may (by simp (dsimp := false) only [push_cast, hP, hnt, hgw, hgb, sevalprocAttr, String.reduceEq, List.getElem?_cons_zero, List.getElem?_cons_succ]; rfl) ?_
    simp (dsimp := false) only [push_cast, hP, hnt, hgw, hgb, sevalprocAttr, String.reduceEq]
    refine hK _ ?_; clear hK
    refine vwp_cond (b := _) (by simp (dsimp := false) only [push_cast, hP, hnt, hgw, hgb, sevalprocAttr, String.reduceEq]; rfl) (fun rb1 => ?_) (fun rb1 => ?_)
    · have hb1 := rb1
      try simp only [beq_iff_eq, bne_iff_ne, ne_eq, bne_eq_false_iff_eq, beq_eq_false_iff_ne, decide_eq_true_eq, decide_eq_false_iff_not, Bool.not_eq_true', Bool.not_eq_false', Bool.or_eq_true, Bool.and_eq_true, Bool.or_eq_false_iff, Bool.and_eq_false_iff] at hb1
      refine vwp_seq_region rfl fun K hK => ?_
      simp (dsimp := false) only [push_cast, hP, hnt, hgw, hgb, sevalprocAttr, String.reduceEq]
      refine hK _ ?_; clear hK
      refine vwp_ret ?_
      refine ret_free (by simp (dsimp := false) only [push_cast, hP, hnt, hgw, hgb, sevalprocAttr, String.reduceEq]; rfl) (by simp (dsimp := false) only [push_cast, hP, hnt, hgw, hgb, sevalprocAttr, String.reduceEq]) ?_
      exact absurd (rb1.symm.trans (back1 v l x)) (by simp)
    · have hb1 := rb1
      try simp only [beq_iff_eq, bne_iff_ne, ne_eq, bne_eq_false_iff_eq, beq_eq_false_iff_ne, decide_eq_true_eq, decide_eq_false_iff_not, Bool.not_eq_true', Bool.not_eq_false', Bool.or_eq_true, Bool.and_eq_true, Bool.or_eq_false_iff, Bool.and_eq_false_iff] at hb1
      refine vwp_skip ?_
      apply_assumption
      refine vwp_seq fun K hK => ?_
      refine vwp_seq_regionG fun K hK => ?_
      simp (dsimp := false) only [push_cast, hP, hnt, hgw, hgb, sevalprocAttr, String.reduceEq]
      refine guardR_may (by simp (dsimp := false) only [push_cast, hP, hnt, hgw, hgb, sevalprocAttr, String.reduceEq, List.getElem?_cons_zero, List.getElem?_cons_succ]; rfl) ?_
      simp (dsimp := false) only [push_cast, hP, hnt, hgw, hgb, sevalprocAttr, String.reduceEq]
      refine guardR_may (by simp (dsimp := false) only [push_cast, hP, hnt, hgw, hgb, sevalprocAttr, String.reduceEq, List.getElem?_cons_zero, List.getElem?_cons_succ]; rfl) ?_
      simp (dsimp := false) only [push_cast, hP, hnt, hgw, hgb, sevalprocAttr, String.reduceEq]
      refine guardR_may (by simp (dsimp := false) only [push_cast, hP, hnt, hgw, hgb, sevalprocAttr, String.reduceEq, List.getElem?_cons_zero, List.getElem?_cons_succ]; rfl) ?_
      simp (dsimp := false) only [push_cast, hP, hnt, hgw, hgb, sevalprocAttr, String.reduceEq]
      refine callE_intro (saysV_call gw hg v hfv (verdictF v).1 (verdictF_size' v)) (.inl ⟨rfl, rfl⟩) ?_
      refine ⟨rfl, ?_⟩
      simp (dsimp := false) only [push_cast, hP, hnt, hgw, hgb, sevalprocAttr, String.reduceEq]
      refine guardR_may (by simp (dsimp := false) only [push_cast, hP, hnt, hgw, hgb, sevalprocAttr, String.reduceEq, List.getElem?_cons_zero, List.getElem?_cons_succ]; rfl) ?_
      simp (dsimp := false) only [push_cast, hP, hnt, hgw, hgb, sevalprocAttr, String.reduceEq]
      refine guardR_may (by simp (dsimp := false) only [push_cast, hP, hnt, hgw, hgb, sevalprocAttr, String.reduceEq, List.getElem?_cons_zero, List.getElem?_cons_succ]; rfl) ?_
      simp (dsimp := false) only [push_cast, hP, hnt, hgw, hgb, sevalprocAttr, String.reduceEq]
      refine guardR_may (by simp (dsimp := false) only [push_cast, hP, hnt, hgw, hgb, sevalprocAttr, String.reduceEq, List.getElem?_cons_zero, List.getElem?_cons_succ]; rfl) ?_
      simp (dsimp := false) only [push_cast, hP, hnt, hgw, hgb, sevalprocAttr, String.reduceEq]
      refine guardR_may (by simp (dsimp := false) only [push_cast, hP, hnt, hgw, hgb, sevalprocAttr, String.reduceEq, List.getElem?_cons_zero, List.getElem?_cons_succ]; rfl) ?_
      simp (dsimp := false) only [push_cast, hP, hnt, hgw, hgb, sevalprocAttr, String.reduceEq]
      refine guardR_may (by simp (dsimp := false) only [push_cast, hP, hnt, hgw, hgb, sevalprocAttr, String.reduceEq, List.getElem?_cons_zero, List.getElem?_cons_succ]; rfl) ?_
      simp (dsimp := false) only [push_cast, hP, hnt, hgw, hgb, sevalprocAttr, String.reduceEq]
      refine guardR_may (by simp (dsimp := false) only [push_cast, hP, hnt, hgw, hgb, sevalprocAttr, String.reduceEq, List.getElem?_cons_zero, List.getElem?_cons_succ]; rfl) ?_
      simp (dsimp := false) only [push_cast, hP, hnt, hgw, hgb, sevalprocAttr, String.reduceEq]
      refine guardR_may (by simp (dsimp := false) only [push_cast, hP, hnt, hgw, hgb, sevalprocAttr, String.reduceEq, List.getElem?_cons_zero, List.getElem?_cons_succ]; rfl) ?_
      simp (dsimp := false) only [push_cast, hP, hnt, hgw, hgb, sevalprocAttr, String.reduceEq]
      refine callE_intro (saysP_call gw hg l (by omega) (passesF l).1 (passesF_size l)) (.inl ⟨rfl, rfl⟩) ?_
      refine ⟨rfl, ?_⟩
      simp (dsimp := false) only [push_cast, hP, hnt, hgw, hgb, sevalprocAttr, String.reduceEq]
      refine guardR_may (by simp (dsimp := false) only [push_cast, hP, hnt, hgw, hgb, sevalprocAttr, String.reduceEq, List.getElem?_cons_zero, List.getElem?_cons_succ]; rfl) ?_
      simp (dsimp := false) only [push_cast, hP, hnt, hgw, hgb, sevalprocAttr, String.reduceEq]
      refine guardR_may (by simp (dsimp := false) only [push_cast, hP, hnt, hgw, hgb, sevalprocAttr, String.reduceEq, List.getElem?_cons_zero, List.getElem?_cons_succ]; rfl) ?_
      simp (dsimp := false) only [push_cast, hP, hnt, hgw, hgb, sevalprocAttr, String.reduceEq]
      refine guardR_may (by simp (dsimp := false) only [push_cast, hP, hnt, hgw, hgb, sevalprocAttr, String.reduceEq, List.getElem?_cons_zero, List.getElem?_cons_succ]; rfl) ?_
      simp (dsimp := false) only [push_cast, hP, hnt, hgw, hgb, sevalprocAttr, String.reduceEq]
      refine guardR_may (by simp (dsimp := false) only [push_cast, hP, hnt, hgw, hgb, sevalprocAttr, String.reduceEq, List.getElem?_cons_zero, List.getElem?_cons_succ]; rfl) ?_
      simp (dsimp := false) only [push_cast, hP, hnt, hgw, hgb, sevalprocAttr, String.reduceEq]
      refine guardR_may (by simp (dsimp := false) only [push_cast, hP, hnt, hgw, hgb, sevalprocAttr, String.reduceEq, List.getElem?_cons_zero, List.getElem?_cons_succ]; rfl) ?_
      simp (dsimp := false) only [push_cast, hP, hnt, hgw, hgb, sevalprocAttr, String.reduceEq]
      refine guardR_may (by simp (dsimp := false) only [push_cast, hP, hnt, hgw, hgb, sevalprocAttr, String.reduceEq, List.getElem?_cons_zero, List.getElem?_cons_succ]; rfl) ?_
      simp (dsimp := false) only [push_cast, hP, hnt, hgw, hgb, sevalprocAttr, String.reduceEq]
      refine guardR_may (by simp (dsimp := false) only [push_cast, hP, hnt, hgw, hgb, sevalprocAttr, String.reduceEq, List.getElem?_cons_zero, List.getElem?_cons_succ]; rfl) ?_
      simp (dsimp := false) only [push_cast, hP, hnt, hgw, hgb, sevalprocAttr, String.reduceEq]
      refine guardR_may (by simp (dsimp := false) only [push_cast, hP, hnt, hgw, hgb, sevalprocAttr, String.reduceEq, List.getElem?_cons_zero, List.getElem?_cons_succ]; rfl) ?_
      simp (dsimp := false) only [push_cast, hP, hnt, hgw, hgb, sevalprocAttr, String.reduceEq]
      refine callE_intro (saysE_call gw hg x (engineF x).1 (engineF_size x)) (.inl ⟨rfl, rfl⟩) ?_
      refine ⟨rfl, ?_⟩
      simp (dsimp := false) only [push_cast, hP, hnt, hgw, hgb, sevalprocAttr, String.reduceEq]
      refine guardR_may (by simp (dsimp := false) only [push_cast, hP, hnt, hgw, hgb, sevalprocAttr, String.reduceEq, List.getElem?_cons_zero, List.getElem?_cons_succ]; rfl) ?_
      simp (dsimp := false) only [push_cast, hP, hnt, hgw, hgb, sevalprocAttr, String.reduceEq]
      refine guardR_may (by simp (dsimp := false) only [push_cast, hP, hnt, hgw, hgb, sevalprocAttr, String.reduceEq, List.getElem?_cons_zero, List.getElem?_cons_succ]; rfl) ?_
      simp (dsimp := false) only [push_cast, hP, hnt, hgw, hgb, sevalprocAttr, String.reduceEq]
      refine hK _ ?_; clear hK
      refine vwp_cond (b := _) (by simp (dsimp := false) only [push_cast, hP, hnt, hgw, hgb, sevalprocAttr, String.reduceEq]; rfl) (fun rb2 => ?_) (fun rb2 => ?_)
      · have hb2 := rb2
        try simp only [beq_iff_eq, bne_iff_ne, ne_eq, bne_eq_false_iff_eq, beq_eq_false_iff_ne, decide_eq_true_eq, decide_eq_false_iff_not, Bool.not_eq_true', Bool.not_eq_false', Bool.or_eq_true, Bool.and_eq_true, Bool.or_eq_false_iff, Bool.and_eq_false_iff] at hb2
        refine vwp_seq_region rfl fun K hK => ?_
        simp (dsimp := false) only [push_cast, hP, hnt, hgw, hgb, sevalprocAttr, String.reduceEq]
        refine hK _ ?_; clear hK
        refine vwp_ret ?_
        refine ret_free (by simp (dsimp := false) only [push_cast, hP, hnt, hgw, hgb, sevalprocAttr, String.reduceEq]; rfl) (by simp (dsimp := false) only [push_cast, hP, hnt, hgw, hgb, sevalprocAttr, String.reduceEq]) ?_
        exact absurd (rb2.symm.trans (back2 v l x)) (by simp)
      · have hb2 := rb2
        try simp only [beq_iff_eq, bne_iff_ne, ne_eq, bne_eq_false_iff_eq, beq_eq_false_iff_ne, decide_eq_true_eq, decide_eq_false_iff_not, Bool.not_eq_true', Bool.not_eq_false', Bool.or_eq_true, Bool.and_eq_true, Bool.or_eq_false_iff, Bool.and_eq_false_iff] at hb2
        refine vwp_skip ?_
        apply_assumption
        refine vwp_seq_region rfl fun K hK => ?_
        simp (dsimp := false) only [push_cast, hP, hnt, hgw, hgb, sevalprocAttr, String.reduceEq]
        refine .inl (callE_intro (readVerdict_call gw hg s (by omega)) (.inl ⟨by simp only [push_cast], rfl⟩) ?_)
        simp (dsimp := false) only [push_cast, hP, hnt, hgw, hgb, sevalprocAttr, String.reduceEq]
        refine hK _ ?_; clear hK
        refine vwp_seq_region rfl fun K hK => ?_
        simp (dsimp := false) only [push_cast, hP, hnt, hgw, hgb, sevalprocAttr, String.reduceEq]
        refine .inl (callE_intro (readPasses_call gw hg s (by omega)) (.inl ⟨by simp only [push_cast], rfl⟩) ?_)
        simp (dsimp := false) only [push_cast, hP, hnt, hgw, hgb, sevalprocAttr, String.reduceEq]
        refine hK _ ?_; clear hK
        refine vwp_seq_region rfl fun K hK => ?_
        simp (dsimp := false) only [push_cast, hP, hnt, hgw, hgb, sevalprocAttr, String.reduceEq]
        refine .inl (callE_intro (readEngine_call gw hg s (by omega)) (.inl ⟨rfl, rfl⟩) ?_)
        simp (dsimp := false) only [push_cast, hP, hnt, hgw, hgb, sevalprocAttr, String.reduceEq]
        refine hK _ ?_; clear hK
        refine vwp_seq fun K hK => ?_
        refine vwp_seq_regionG fun K hK => ?_
        simp (dsimp := false) only [push_cast, hP, hnt, hgw, hgb, sevalprocAttr, String.reduceEq]
        refine guardR_may (by simp (dsimp := false) only [push_cast, hP, hnt, hgw, hgb, sevalprocAttr, String.reduceEq, List.getElem?_cons_zero, List.getElem?_cons_succ]; rfl) ?_
        simp (dsimp := false) only [push_cast, hP, hnt, hgw, hgb, sevalprocAttr, String.reduceEq]
        refine guardR_may (by simp (dsimp := false) only [push_cast, hP, hnt, hgw, hgb, sevalprocAttr, String.reduceEq, List.getElem?_cons_zero, List.getElem?_cons_succ]; rfl) ?_
        simp (dsimp := false) only [push_cast, hP, hnt, hgw, hgb, sevalprocAttr, String.reduceEq]
        refine guardR_may (by simp (dsimp := false) only [push_cast, hP, hnt, hgw, hgb, sevalprocAttr, String.reduceEq, List.getElem?_cons_zero, List.getElem?_cons_succ]; rfl) ?_
        simp (dsimp := false) only [push_cast, hP, hnt, hgw, hgb, sevalprocAttr, String.reduceEq]
        refine guardR_may (by simp (dsimp := false) only [push_cast, hP, hnt, hgw, hgb, sevalprocAttr, String.reduceEq, List.getElem?_cons_zero, List.getElem?_cons_succ]; rfl) ?_
        simp (dsimp := false) only [push_cast, hP, hnt, hgw, hgb, sevalprocAttr, String.reduceEq]
        refine guardR_may (by simp (dsimp := false) only [push_cast, hP, hnt, hgw, hgb, sevalprocAttr, String.reduceEq, List.getElem?_cons_zero, List.getElem?_cons_succ]; rfl) ?_
        simp (dsimp := false) only [push_cast, hP, hnt, hgw, hgb, sevalprocAttr, String.reduceEq]
        refine guardR_may (by simp (dsimp := false) only [push_cast, hP, hnt, hgw, hgb, sevalprocAttr, String.reduceEq, List.getElem?_cons_zero, List.getElem?_cons_succ]; rfl) ?_
        simp (dsimp := false) only [push_cast, hP, hnt, hgw, hgb, sevalprocAttr, String.reduceEq]
        refine guardR_may (by simp (dsimp := false) only [push_cast, hP, hnt, hgw, hgb, sevalprocAttr, String.reduceEq, List.getElem?_cons_zero, List.getElem?_cons_succ]; rfl) ?_
        simp (dsimp := false) only [push_cast, hP, hnt, hgw, hgb, sevalprocAttr, String.reduceEq]
        refine guardR_may (by simp (dsimp := false) only [push_cast, hP, hnt, hgw, hgb, sevalprocAttr, String.reduceEq, List.getElem?_cons_zero, List.getElem?_cons_succ]; rfl) ?_
        simp (dsimp := false) only [push_cast, hP, hnt, hgw, hgb, sevalprocAttr, String.reduceEq]
        refine guardR_may (by simp (dsimp := false) only [push_cast, hP, hnt, hgw, hgb, sevalprocAttr, String.reduceEq, List.getElem?_cons_zero, List.getElem?_cons_succ]; rfl) ?_
        simp (dsimp := false) only [push_cast, hP, hnt, hgw, hgb, sevalprocAttr, String.reduceEq]
        refine guardR_may (by simp (dsimp := false) only [push_cast, hP, hnt, hgw, hgb, sevalprocAttr, String.reduceEq, List.getElem?_cons_zero, List.getElem?_cons_succ]; rfl) ?_
        simp (dsimp := false) only [push_cast, hP, hnt, hgw, hgb, sevalprocAttr, String.reduceEq]
        refine guardR_may (by simp (dsimp := false) only [push_cast, hP, hnt, hgw, hgb, sevalprocAttr, String.reduceEq, List.getElem?_cons_zero, List.getElem?_cons_succ]; rfl) ?_
        simp (dsimp := false) only [push_cast, hP, hnt, hgw, hgb, sevalprocAttr, String.reduceEq]
        refine guardR_may (by simp (dsimp := false) only [push_cast, hP, hnt, hgw, hgb, sevalprocAttr, String.reduceEq, List.getElem?_cons_zero, List.getElem?_cons_succ]; rfl) ?_
        simp (dsimp := false) only [push_cast, hP, hnt, hgw, hgb, sevalprocAttr, String.reduceEq]
        refine guardR_may (by simp (dsimp := false) only [push_cast, hP, hnt, hgw, hgb, sevalprocAttr, String.reduceEq, List.getElem?_cons_zero, List.getElem?_cons_succ]; rfl) ?_
        simp (dsimp := false) only [push_cast, hP, hnt, hgw, hgb, sevalprocAttr, String.reduceEq]
        refine guardR_may (by simp (dsimp := false) only [push_cast, hP, hnt, hgw, hgb, sevalprocAttr, String.reduceEq, List.getElem?_cons_zero, List.getElem?_cons_succ]; rfl) ?_
        simp (dsimp := false) only [push_cast, hP, hnt, hgw, hgb, sevalprocAttr, String.reduceEq]
        refine hK _ ?_; clear hK
        refine vwp_cond (b := _) (by simp (dsimp := false) only [push_cast, hP, hnt, hgw, hgb, sevalprocAttr, String.reduceEq]; rfl) (fun rb3 => ?_) (fun rb3 => ?_)
        · have hb3 := rb3
          try simp only [beq_iff_eq, bne_iff_ne, ne_eq, bne_eq_false_iff_eq, beq_eq_false_iff_ne, decide_eq_true_eq, decide_eq_false_iff_not, Bool.not_eq_true', Bool.not_eq_false', Bool.or_eq_true, Bool.and_eq_true, Bool.or_eq_false_iff, Bool.and_eq_false_iff] at hb3
          refine vwp_seq_region rfl fun K hK => ?_
          simp (dsimp := false) only [push_cast, hP, hnt, hgw, hgb, sevalprocAttr, String.reduceEq]
          refine hK _ ?_; clear hK
          refine vwp_ret ?_
          refine ret_free (by simp (dsimp := false) only [push_cast, hP, hnt, hgw, hgb, sevalprocAttr, String.reduceEq]; rfl) (by simp (dsimp := false) only [push_cast, hP, hnt, hgw, hgb, sevalprocAttr, String.reduceEq]) ?_
          exact absurd (rb3.symm.trans (back3 s)) (by simp)
        · have hb3 := rb3
          try simp only [beq_iff_eq, bne_iff_ne, ne_eq, bne_eq_false_iff_eq, beq_eq_false_iff_ne, decide_eq_true_eq, decide_eq_false_iff_not, Bool.not_eq_true', Bool.not_eq_false', Bool.or_eq_true, Bool.and_eq_true, Bool.or_eq_false_iff, Bool.and_eq_false_iff] at hb3
          refine vwp_skip ?_
          apply_assumption
          refine vwp_seq_regionG fun K hK => ?_
          simp (dsimp := false) only [push_cast, hP, hnt, hgw, hgb, sevalprocAttr, String.reduceEq]
          refine guardR_may (by simp (dsimp := false) only [push_cast, hP, hnt, hgw, hgb, sevalprocAttr, String.reduceEq, List.getElem?_cons_zero, List.getElem?_cons_succ]; rfl) ?_
          simp (dsimp := false) only [push_cast, hP, hnt, hgw, hgb, sevalprocAttr, String.reduceEq]
          refine guardR_may (by simp (dsimp := false) only [push_cast, hP, hnt, hgw, hgb, sevalprocAttr, String.reduceEq, List.getElem?_cons_zero, List.getElem?_cons_succ]; rfl) ?_
          simp (dsimp := false) only [push_cast, hP, hnt, hgw, hgb, sevalprocAttr, String.reduceEq]
          refine guardR_may (by simp (dsimp := false) only [push_cast, hP, hnt, hgw, hgb, sevalprocAttr, String.reduceEq, List.getElem?_cons_zero, List.getElem?_cons_succ]; rfl) ?_
          simp (dsimp := false) only [push_cast, hP, hnt, hgw, hgb, sevalprocAttr, String.reduceEq]
          refine guardR_may (by simp (dsimp := false) only [push_cast, hP, hnt, hgw, hgb, sevalprocAttr, String.reduceEq, List.getElem?_cons_zero, List.getElem?_cons_succ]; rfl) ?_
          simp (dsimp := false) only [push_cast, hP, hnt, hgw, hgb, sevalprocAttr, String.reduceEq]
          refine guardR_may (by simp (dsimp := false) only [push_cast, hP, hnt, hgw, hgb, sevalprocAttr, String.reduceEq, List.getElem?_cons_zero, List.getElem?_cons_succ]; rfl) ?_
          simp (dsimp := false) only [push_cast, hP, hnt, hgw, hgb, sevalprocAttr, String.reduceEq]
          refine guardR_may (by simp (dsimp := false) only [push_cast, hP, hnt, hgw, hgb, sevalprocAttr, String.reduceEq, List.getElem?_cons_zero, List.getElem?_cons_succ]; rfl) ?_
          simp (dsimp := false) only [push_cast, hP, hnt, hgw, hgb, sevalprocAttr, String.reduceEq]
          refine callE_intro (saysV_call gw hg (readVF s).1 (readV_fit' s) s (by omega)) (.inl ⟨rfl, rfl⟩) ?_
          refine ⟨rfl, ?_⟩
          simp (dsimp := false) only [push_cast, hP, hnt, hgw, hgb, sevalprocAttr, String.reduceEq]
          refine guardR_may (by simp (dsimp := false) only [push_cast, hP, hnt, hgw, hgb, sevalprocAttr, String.reduceEq, List.getElem?_cons_zero, List.getElem?_cons_succ]; rfl) ?_
          simp (dsimp := false) only [push_cast, hP, hnt, hgw, hgb, sevalprocAttr, String.reduceEq]
          refine guardR_may (by simp (dsimp := false) only [push_cast, hP, hnt, hgw, hgb, sevalprocAttr, String.reduceEq, List.getElem?_cons_zero, List.getElem?_cons_succ]; rfl) ?_
          simp (dsimp := false) only [push_cast, hP, hnt, hgw, hgb, sevalprocAttr, String.reduceEq]
          refine guardR_may (by simp (dsimp := false) only [push_cast, hP, hnt, hgw, hgb, sevalprocAttr, String.reduceEq, List.getElem?_cons_zero, List.getElem?_cons_succ]; rfl) ?_
          simp (dsimp := false) only [push_cast, hP, hnt, hgw, hgb, sevalprocAttr, String.reduceEq]
          refine guardR_may (by simp (dsimp := false) only [push_cast, hP, hnt, hgw, hgb, sevalprocAttr, String.reduceEq, List.getElem?_cons_zero, List.getElem?_cons_succ]; rfl) ?_
          simp (dsimp := false) only [push_cast, hP, hnt, hgw, hgb, sevalprocAttr, String.reduceEq]
          refine guardR_may (by simp (dsimp := false) only [push_cast, hP, hnt, hgw, hgb, sevalprocAttr, String.reduceEq, List.getElem?_cons_zero, List.getElem?_cons_succ]; rfl) ?_
          simp (dsimp := false) only [push_cast, hP, hnt, hgw, hgb, sevalprocAttr, String.reduceEq]
          refine guardR_may (by simp (dsimp := false) only [push_cast, hP, hnt, hgw, hgb, sevalprocAttr, String.reduceEq, List.getElem?_cons_zero, List.getElem?_cons_succ]; rfl) ?_
          simp (dsimp := false) only [push_cast, hP, hnt, hgw, hgb, sevalprocAttr, String.reduceEq]
          refine guardR_may (by simp (dsimp := false) only [push_cast, hP, hnt, hgw, hgb, sevalprocAttr, String.reduceEq, List.getElem?_cons_zero, List.getElem?_cons_succ]; rfl) ?_
          simp (dsimp := false) only [push_cast, hP, hnt, hgw, hgb, sevalprocAttr, String.reduceEq]
          refine callE_intro (saysP_call gw hg (readPassF s).1 (readPass_few s) s (by omega)) (.inl ⟨rfl, rfl⟩) ?_
          refine ⟨rfl, ?_⟩
          simp (dsimp := false) only [push_cast, hP, hnt, hgw, hgb, sevalprocAttr, String.reduceEq]
          refine guardR_may (by simp (dsimp := false) only [push_cast, hP, hnt, hgw, hgb, sevalprocAttr, String.reduceEq, List.getElem?_cons_zero, List.getElem?_cons_succ]; rfl) ?_
          simp (dsimp := false) only [push_cast, hP, hnt, hgw, hgb, sevalprocAttr, String.reduceEq]
          refine guardR_may (by simp (dsimp := false) only [push_cast, hP, hnt, hgw, hgb, sevalprocAttr, String.reduceEq, List.getElem?_cons_zero, List.getElem?_cons_succ]; rfl) ?_
          simp (dsimp := false) only [push_cast, hP, hnt, hgw, hgb, sevalprocAttr, String.reduceEq]
          refine guardR_may (by simp (dsimp := false) only [push_cast, hP, hnt, hgw, hgb, sevalprocAttr, String.reduceEq, List.getElem?_cons_zero, List.getElem?_cons_succ]; rfl) ?_
          simp (dsimp := false) only [push_cast, hP, hnt, hgw, hgb, sevalprocAttr, String.reduceEq]
          refine guardR_may (by simp (dsimp := false) only [push_cast, hP, hnt, hgw, hgb, sevalprocAttr, String.reduceEq, List.getElem?_cons_zero, List.getElem?_cons_succ]; rfl) ?_
          simp (dsimp := false) only [push_cast, hP, hnt, hgw, hgb, sevalprocAttr, String.reduceEq]
          refine guardR_may (by simp (dsimp := false) only [push_cast, hP, hnt, hgw, hgb, sevalprocAttr, String.reduceEq, List.getElem?_cons_zero, List.getElem?_cons_succ]; rfl) ?_
          simp (dsimp := false) only [push_cast, hP, hnt, hgw, hgb, sevalprocAttr, String.reduceEq]
          refine guardR_may (by simp (dsimp := false) only [push_cast, hP, hnt, hgw, hgb, sevalprocAttr, String.reduceEq, List.getElem?_cons_zero, List.getElem?_cons_succ]; rfl) ?_
          simp (dsimp := false) only [push_cast, hP, hnt, hgw, hgb, sevalprocAttr, String.reduceEq]
          refine guardR_may (by simp (dsimp := false) only [push_cast, hP, hnt, hgw, hgb, sevalprocAttr, String.reduceEq, List.getElem?_cons_zero, List.getElem?_cons_succ]; rfl) ?_
          simp (dsimp := false) only [push_cast, hP, hnt, hgw, hgb, sevalprocAttr, String.reduceEq]
          refine callE_intro (saysE_call gw hg (readEngF s).1 s (by omega)) (.inl ⟨rfl, rfl⟩) ?_
          refine ⟨rfl, ?_⟩
          simp (dsimp := false) only [push_cast, hP, hnt, hgw, hgb, sevalprocAttr, String.reduceEq]
          refine guardR_may (by simp (dsimp := false) only [push_cast, hP, hnt, hgw, hgb, sevalprocAttr, String.reduceEq, List.getElem?_cons_zero, List.getElem?_cons_succ]; rfl) ?_
          simp (dsimp := false) only [push_cast, hP, hnt, hgw, hgb, sevalprocAttr, String.reduceEq]
          refine hK _ ?_; clear hK
          refine vwp_ret ?_
          refine ret_free (by simp (dsimp := false) only [push_cast, hP, hnt, hgw, hgb, sevalprocAttr, String.reduceEq]; rfl) (by simp (dsimp := false) only [push_cast, hP, hnt, hgw, hgb, sevalprocAttr, String.reduceEq]) ?_
          have h := back4 s; rw [h.1, h.2.1, h.2.2]; rfl
end Go.Vm
end

section
namespace Go.Proofs.YtnpbndglolcilaaGreatDoor.rowsW
open Go.ChangeShapes Go.WideShapes Go.ChangeAt Go.RowKit Go.Vm Go.Shelf
open Go.ChangeMaps (open_string shut_string)
open Go.Joins
open Go.MakeChecks (laidMetH_plain)
open Go.Deep (oneCellFields open_slice1 open_slice_pairs choose_lt)
open Go.WideElems (Trod_stays)
set_option maxRecDepth 100000

section
variable {W : World} {φ : Vm.Id → Option Value} {F : Bool → Nat → Prop}
theorem cell_lt {a : Addr} {v : Value} (h : W.cell? a = some v) : a.block < W.heap.size := by
  apply Classical.byContradiction
  intro hge
  unfold World.cell? at h
  rw [Array.getElem?_eq_none (by omega)] at h
  cases h
theorem row_rep {a : Addr} {len cap z : Nat} {ps : List PC} (hz : 0 < z) (hl : len ≤ cap) (hps : ps.length = len * z) (hr : ∀ j p, ps[j]? = some p → ∃ v, W.cell? (a.add j) = some v ∧ rep φ W F p v) (hF : ∀ g, g < W.heap.size → F false g) : rep φ W F (.sl false len ps) (.slice (some a) len cap) := by
  simp only [rep]
  refine ⟨some a, cap, rfl, hl, ?_⟩
  by_cases h0 : len = 0
  · subst h0
    exact .inl ⟨rfl, List.length_eq_zero_iff.1 (by simpa using hps)⟩
  · have hpos : 0 < ps.length := by rw [hps]; exact Nat.mul_pos (by omega) hz
    obtain ⟨v, hv, _⟩ := hr 0 ps[0] (List.getElem?_eq_getElem hpos)
    have := cell_lt hv
    rw [add_block] at this
    exact .inr ⟨a, rfl, hF _ this, repAt_of_get _ _ hr⟩
theorem nil_rep : rep φ W F (.sl false 0 []) (.slice none 0 0) := by
  simp only [rep]
  exact ⟨none, 0, rfl, Nat.le_refl _, .inl (by simp)⟩
end

theorem cells23 : Tryz.prog.cellsOf 38 = 2 := by kernel_rfl
theorem cells59 : Tryz.prog.cellsOf 42 = 3 := by kernel_rfl
theorem cells9' : Tryz.prog.cellsOf 9 = 1 := by kernel_rfl
theorem cells4 : Tryz.prog.cellsOf 4 = 1 := by kernel_rfl
theorem cells37 : Tryz.prog.cellsOf 29 = 1 := by kernel_rfl
theorem cells97 : Tryz.prog.cellsOf 23 = 2 := by kernel_rfl
theorem cells3 : Tryz.prog.cellsOf 3 = 1 := by kernel_rfl
theorem cells5 : Tryz.prog.cellsOf 5 = 1 := by kernel_rfl
theorem cells38 : Tryz.prog.cellsOf 30 = 1 := by kernel_rfl
theorem cells41 : Tryz.prog.cellsOf 24 = 1 := by kernel_rfl
theorem cells40 : Tryz.prog.cellsOf 32 = 2 := by kernel_rfl
theorem cells43 : Tryz.prog.cellsOf 26 = 2 := by kernel_rfl
theorem cells45 : Tryz.prog.cellsOf 28 = 4 := by kernel_rfl
theorem cells47 : Tryz.prog.cellsOf 34 = 7 := by kernel_rfl

section
variable {H : Type} {enc : TypeId × Value → H} {W : World} {sp : Nat → Bool} {held : Bool} {n : Nat} {v : Value} {x : DataW H × List MemPlace}
def Bools (W : World) (v : Value) (l : List Bool) : Prop := ∀ (φ : Vm.Id → Option Value) (F : Bool → Nat → Prop), (∀ g, g < W.heap.size → F false g) → rep φ W F (.sl false l.length (l.map fun b => .c (.bool b))) v
theorem open_bools (h : DataW.trod enc Tryz.prog W 0 sp held n 29 [v] = some x) : ∃ l : List Bool, Bools W v l := by
  rcases open_slice1 ty_u29 cells4 h with ⟨hc, _⟩ | ⟨a, len, cap, m, n', V, D, Pl, hc, _, hl, _, hmm, _, hx⟩
  · cases hc
    exact ⟨[], fun φ F hF => nil_rep⟩
  · cases hc
    have hlm : len ≤ m := by rw [hmm]; split <;> omega
    obtain ⟨B, hB⟩ := choose_lt (n := len) (p := fun i b => V i = .bool b) (fun i hi => by
      obtain ⟨b, hb, _⟩ := DataW.trod_bool ty_u4 (hx i (by omega)).2
      exact ⟨b, by simpa using hb⟩)
    refine ⟨(List.range len).map B, fun φ F hF => ?_⟩
    have hlen : ((List.range len).map B).length = len := by simp
    rw [hlen]
    refine row_rep (z := 1) (by decide) hl (by simp) (fun j p hp => ?_) hF
    rw [List.map_map, List.getElem?_map] at hp
    obtain ⟨i, hi, rfl⟩ := Option.map_eq_some_iff.1 hp
    obtain ⟨hi1, hi2⟩ := List.getElem?_eq_some_iff.1 hi
    rw [List.getElem_range] at hi2
    subst hi2
    have hj : j < len := by simpa using hi1
    refine ⟨V j, (hx j (by omega)).1, ?_⟩
    simp only [Function.comp, rep]
    exact ⟨hB j hj, rfl⟩
theorem open_rows (h : DataW.trod enc Tryz.prog W 0 sp held n 30 [v] = some x) : ∃ l : List (List Bool), ∀ (φ : Vm.Id → Option Value) (F : Bool → Nat → Prop), (∀ g, g < W.heap.size → F false g) → rep φ W F (.sl false l.length (l.map fun l => .sl false l.length (l.map fun b => .c (.bool b)))) v := by
  rcases open_slice1 ty_u30 cells37 h with ⟨hc, _⟩ | ⟨a, len, cap, m, n', V, D, Pl, hc, _, hl, _, hmm, _, hx⟩
  · cases hc
    exact ⟨[], fun φ F hF => nil_rep⟩
  · cases hc
    have hlm : len ≤ m := by rw [hmm]; split <;> omega
    obtain ⟨B, hB⟩ := choose_lt (n := len) (p := fun i l => Bools W (V i) l) (fun i hi => open_bools (hx i (by omega)).2)
    refine ⟨(List.range len).map B, fun φ F hF => ?_⟩
    have hlen : ((List.range len).map B).length = len := by simp
    rw [hlen]
    refine row_rep (z := 1) (by decide) hl (by simp) (fun j p hp => ?_) hF
    rw [List.map_map, List.getElem?_map] at hp
    obtain ⟨i, hi, rfl⟩ := Option.map_eq_some_iff.1 hp
    obtain ⟨hi1, hi2⟩ := List.getElem?_eq_some_iff.1 hi
    rw [List.getElem_range] at hi2
    subst hi2
    have hj : j < len := by simpa using hi1
    exact ⟨V j, (hx j (by omega)).1, hB j hj φ F hF⟩
theorem two_get {α : Type} (f g : α → PC) : ∀ (l : List α) (j : Nat) (p : PC), (l.flatMap fun a => [f a, g a])[j]? = some p → ∃ a, l[j / 2]? = some a ∧ p = if j % 2 = 0 then f a else g a
  | [], j, p, h => by simp at h
  | a :: l, 0, p, h => by simp at h; exact ⟨a, rfl, by simp [h]⟩
  | a :: l, 1, p, h => by simp at h; exact ⟨a, rfl, by simp [h]⟩
  | a :: l, j + 2, p, h => by
    simp only [List.flatMap_cons, List.cons_append, List.nil_append, List.getElem?_cons_succ] at h
    obtain ⟨b, hb, hp⟩ := two_get f g l j p h
    refine ⟨b, ?_, ?_⟩
    · rw [show (j + 2) / 2 = j / 2 + 1 by omega]; simpa using hb
    · rw [show (j + 2) % 2 = j % 2 by omega]; exact hp
theorem open_pairs (h : DataW.trod enc Tryz.prog W 0 sp held n 24 [v] = some x) : ∃ l : List (Int × Int), ∀ (φ : Vm.Id → Option Value) (F : Bool → Nat → Prop), (∀ g, g < W.heap.size → F false g) → rep φ W F (.sl false l.length (l.flatMap fun g => [.c (.int .i64 g.1), .c (.int .i64 g.2)])) v := by
  rcases open_slice_pairs ty_u24 ty_u23 cells97 rfl rfl cells3 cells3 h with ⟨hc, _⟩ | ⟨a, len, cap, m, n', V0, V1, D0, D1, P0, P1, hc, _, hl, _, hmm, _, hx⟩
  · cases hc
    exact ⟨[], fun φ F hF => nil_rep⟩
  · cases hc
    have hlm : len ≤ m := by rw [hmm]; split <;> omega
    obtain ⟨B, hB⟩ := choose_lt (n := len) (p := fun i (g : Int × Int) => V0 i = .int .i64 g.1 ∧ V1 i = .int .i64 g.2) (fun i hi => by
      obtain ⟨_, _, h0, h1⟩ := hx i (by omega)
      obtain ⟨b0, hb0, _⟩ := DataW.trod_int ty_u3 h0
      obtain ⟨b1, hb1, _⟩ := DataW.trod_int ty_u3 h1
      exact ⟨(b0, b1), by simpa using hb0, by simpa using hb1⟩)
    refine ⟨(List.range len).map B, fun φ F hF => ?_⟩
    have hlen : ((List.range len).map B).length = len := by simp
    rw [hlen]
    have hfl : ∀ l : List (Int × Int), (l.flatMap fun g => [PC.c (.int .i64 g.1), PC.c (.int .i64 g.2)]).length = l.length * 2 := by
      intro l
      induction l with
      | nil => rfl
      | cons a l ih => rw [List.flatMap_cons, List.length_append, ih]; simp; omega
    refine row_rep (z := 2) (by decide) hl (by rw [hfl, hlen]) (fun j p hp => ?_) hF
    obtain ⟨g, hg, rfl⟩ := two_get _ _ _ j p hp
    rw [List.getElem?_map] at hg
    obtain ⟨i, hi, rfl⟩ := Option.map_eq_some_iff.1 hg
    obtain ⟨hi1, hi2⟩ := List.getElem?_eq_some_iff.1 hi
    rw [List.getElem_range] at hi2
    subst hi2
    have hj : j / 2 < len := by simpa using hi1
    obtain ⟨e0, e1, _⟩ := hx (j / 2) (by omega)
    obtain ⟨b0, b1⟩ := hB (j / 2) hj
    by_cases hm2 : j % 2 = 0
    · rw [if_pos hm2]
      refine ⟨V0 (j / 2), ?_, by simp only [rep]; exact ⟨b0, rfl⟩⟩
      rwa [show j / 2 * 2 = j by omega] at e0
    · rw [if_neg hm2]
      refine ⟨V1 (j / 2), ?_, by simp only [rep]; exact ⟨b1, rfl⟩⟩
      rwa [show j / 2 * 2 + 1 = j by omega] at e1
theorem open_passes (h : DataW.trod enc Tryz.prog W 0 sp held n 39 [v] = some x) : ∃ l : List (ByteArray × Int), ∀ (φ : Vm.Id → Option Value) (F : Bool → Nat → Prop), (∀ g, g < W.heap.size → F false g) → rep φ W F (.sl false l.length (l.flatMap fun p => [.c (.string p.1), .c (.int .i64 p.2)])) v := by
  rcases open_slice_pairs ty_u39 ty_u38 cells23 rfl rfl cells9' cells3 h with ⟨hc, _⟩ | ⟨a, len, cap, m, n', V0, V1, D0, D1, P0, P1, hc, _, hl, _, hmm, _, hx⟩
  · cases hc
    exact ⟨[], fun φ F hF => nil_rep⟩
  · cases hc
    have hlm : len ≤ m := by rw [hmm]; split <;> omega
    obtain ⟨B, hB⟩ := choose_lt (n := len) (p := fun i (g : ByteArray × Int) => V0 i = .string g.1 ∧ V1 i = .int .i64 g.2) (fun i hi => by
      obtain ⟨_, _, h0, h1⟩ := hx i (by omega)
      obtain ⟨b0, hb0, _⟩ := DataW.trod_string ty_u9 h0
      obtain ⟨b1, hb1, _⟩ := DataW.trod_int ty_u3 h1
      exact ⟨(b0, b1), by simpa using hb0, by simpa using hb1⟩)
    refine ⟨(List.range len).map B, fun φ F hF => ?_⟩
    have hlen : ((List.range len).map B).length = len := by simp
    rw [hlen]
    have hfl : ∀ l : List (ByteArray × Int), (l.flatMap fun p => [PC.c (.string p.1), PC.c (.int .i64 p.2)]).length = l.length * 2 := by
      intro l
      induction l with
      | nil => rfl
      | cons a l ih => rw [List.flatMap_cons, List.length_append, ih]; simp; omega
    refine row_rep (z := 2) (by decide) hl (by rw [hfl, hlen]) (fun j p hp => ?_) hF
    obtain ⟨g, hg, rfl⟩ := two_get _ _ _ j p hp
    rw [List.getElem?_map] at hg
    obtain ⟨i, hi, rfl⟩ := Option.map_eq_some_iff.1 hg
    obtain ⟨hi1, hi2⟩ := List.getElem?_eq_some_iff.1 hi
    rw [List.getElem_range] at hi2
    subst hi2
    have hj : j / 2 < len := by simpa using hi1
    obtain ⟨e0, e1, _⟩ := hx (j / 2) (by omega)
    obtain ⟨b0, b1⟩ := hB (j / 2) hj
    by_cases hm2 : j % 2 = 0
    · rw [if_pos hm2]
      refine ⟨V0 (j / 2), ?_, by simp only [rep]; exact ⟨b0, rfl⟩⟩
      rwa [show j / 2 * 2 = j by omega] at e0
    · rw [if_neg hm2]
      refine ⟨V1 (j / 2), ?_, by simp only [rep]; exact ⟨b1, rfl⟩⟩
      rwa [show j / 2 * 2 + 1 = j by omega] at e1
theorem open_list {d : DataW H} {p : List MemPlace} {base : Nat} (hv : Value.okWide Tryz.prog W .any base 39 v) (h : DataW.Trod enc Tryz.prog W 0 sp held 39 v d p) :
    ∃ l : List (ByteArray × Int), ∀ (φ : Vm.Id → Option Value) (F : Bool → Nat → Prop), (∀ g, g < W.heap.size → F false g) → repV φ W F (.one (.sl false l.length (l.flatMap fun p => [.c (.string p.1), .c (.int .i64 p.2)]))) v := by
  obtain ⟨fuel, hf⟩ := h
  obtain ⟨a, len, cap, rfl⟩ := okWide_slice ty_u39 hv
  exact open_passes (v := .slice a len cap) hf
theorem open_eng {d : DataW H} {p : List MemPlace} {base : Nat} (hv : Value.okWide Tryz.prog W .any base 42 v) (h : DataW.Trod enc Tryz.prog W 0 sp held 42 v d p) :
    ∃ x : Eng, ∀ (φ : Vm.Id → Option Value) (F : Bool → Nat → Prop), (∀ g, g < W.heap.size → F false g) → repV φ W F (.agg x.pcs) v := by
  obtain ⟨cs, rfl, hsz⟩ := okWide_struct ty_u42 hv
  rw [cells59] at hsz
  obtain ⟨fuel, hf⟩ := h
  obtain ⟨l, rfl⟩ : ∃ l : List Value, cs = l.toArray := ⟨cs.toList, by simp⟩
  have hl : l.length = 3 := by simpa using hsz
  obtain ⟨y0, y1, y2, m, _, _, h0, h1, h2⟩ := Go.Deep.trod_struct3 ty_u42 hf
  match l, hl with
  | [c0, c1, c2], _ =>
    simp only [Value.cells, cells4, cells3] at h0 h1 h2
    obtain ⟨b, hb, _⟩ := DataW.trod_bool ty_u4 h0
    obtain ⟨k, hk, _⟩ := DataW.trod_int ty_u3 h1
    obtain ⟨j, hj, _⟩ := DataW.trod_int ty_u3 h2
    have e0 : c0 = .bool b := by simpa using hb
    have e1 : c1 = .int .i64 k := by simpa using hk
    have e2 : c2 = .int .i64 j := by simpa using hj
    refine ⟨⟨b, k, j⟩, fun φ F hF => ?_⟩
    simp only [repV, Eng.pcs]
    refine ⟨_, rfl, ?_⟩
    simp only [reps]
    refine ⟨_, _, rfl, ?_, _, _, rfl, ?_, _, _, rfl, ?_, rfl⟩
    all_goals simp only [rep]
    · exact ⟨e0, rfl⟩
    · exact ⟨e1, rfl⟩
    · exact ⟨e2, rfl⟩
theorem open_str {d : DataW H} {p : List MemPlace} {base : Nat} (hv : Value.okWide Tryz.prog W .any base 9 v) (h : DataW.Trod enc Tryz.prog W 0 sp held 9 v d p) :
    ∃ s : ByteArray, ∀ (φ : Vm.Id → Option Value) (F : Bool → Nat → Prop), (∀ g, g < W.heap.size → F false g) → repV φ W F (.one (.c (.string s))) v := by
  obtain ⟨s, rfl, _⟩ := open_string ty_u9 hv h
  exact ⟨s, fun φ F _ => by simp only [repV, rep]; exact ⟨trivial, rfl⟩⟩
theorem open_ver {d : DataW H} {p : List MemPlace} {base : Nat} (hv : Value.okWide Tryz.prog W .any base 34 v) (h : DataW.Trod enc Tryz.prog W 0 sp held 34 v d p) :
    ∃ u : Ver, ∀ (φ : Vm.Id → Option Value) (F : Bool → Nat → Prop), (∀ g, g < W.heap.size → F false g) → repV φ W F (.agg (u.pcs false)) v := by
  obtain ⟨cs, rfl, hsz⟩ := okWide_struct ty_u34 hv
  rw [cells47] at hsz
  obtain ⟨fuel, hf⟩ := h
  obtain ⟨l, rfl⟩ : ∃ l : List Value, cs = l.toArray := ⟨cs.toList, by simp⟩
  have hl : l.length = 7 := by simpa using hsz
  obtain ⟨y0, y1, y2, m, _, _, h0, h1, h2⟩ := Go.Deep.trod_struct3 ty_u34 hf
  match l, hl with
  | [c0, c1, c2, c3, c4, c5, c6], _ =>
    simp only [Value.cells, cells5, cells40, cells45] at h0 h1 h2
    obtain ⟨z0, z1, m1, _, _, t0, t1⟩ := trod_struct2 ty_u32 h1
    obtain ⟨q0, q1, q2, m2, _, _, s0, s1, s2⟩ := Go.Deep.trod_struct3 ty_u28 h2
    simp only [cells3, cells43] at s0 s1 s2
    obtain ⟨r0, r1, m3, _, _, u0, u1⟩ := trod_struct2 ty_u26 s2
    simp only [cells37, cells38] at t0 t1
    simp only [cells41, cells3] at u0 u1
    obtain ⟨k, hk, _⟩ := DataW.trod_int ty_u5 h0
    obtain ⟨fi, hfi⟩ := open_bools (v := c1) t0
    obtain ⟨ins, hins⟩ := open_rows (v := c2) t1
    obtain ⟨sk, hsk, _⟩ := DataW.trod_int ty_u3 s0
    obtain ⟨ph, hph, _⟩ := DataW.trod_int ty_u3 s1
    obtain ⟨an, han⟩ := open_pairs (v := c5) u0
    obtain ⟨li, hli, _⟩ := DataW.trod_int ty_u3 u1
    have e0 : c0 = .int .u8 k := by simpa using hk
    have e3 : c3 = .int .i64 sk := by simpa using hsk
    have e4 : c4 = .int .i64 ph := by simpa using hph
    have e6 : c6 = .int .i64 li := by simpa using hli
    refine ⟨⟨k, fi, ins, sk, ph, an, li⟩, fun φ F hF => ?_⟩
    simp only [repV, Ver.pcs, Ver.prf]
    refine ⟨_, rfl, ?_⟩
    simp only [reps]
    refine ⟨_, _, rfl, ?_, _, _, rfl, hfi φ F hF, _, _, rfl, hins φ F hF, _, _, rfl, ?_, _, _, rfl, ?_, _, _, rfl, han φ F hF, _, _, rfl, ?_, rfl⟩
    all_goals simp only [rep]
    · exact ⟨e0, rfl⟩
    · exact ⟨e3, rfl⟩
    · exact ⟨e4, rfl⟩
    · exact ⟨e6, rfl⟩
end
section
variable {H : Type} {enc : TypeId × Value → H} {P : Program}
theorem post_of_below {f : Func} {s : ChangeSpec} {apart fresh handsOn again : Bool} {W W' : World} {args : Array Value} {v : Value} {ds gs : List (DataW H)} {before pa pv : List MemPlace}
    (hW : DataW.Whole enc P f.params.toList s.vars apart W args.toList ds gs before)
    (hres : ∀ (b : Nat) (sp : Nat → Bool) (hd : Bool), DataW.TrodAll enc P W' b sp hd f.resultTypes.toList (v.resultList f.resultTypes.size) (s.fn H (ds ++ gs)).results [])
    (hargs : ∀ sp : Nat → Bool, (∀ p ∈ before, sp p.block = true) → DataW.TrodAll enc P W' 0 sp true f.params.toList args.toList (s.fn H (ds ++ gs)).args pa)
    (hvars : ∀ sp : Nat → Bool, (∀ p ∈ before, sp p.block = true) → DataW.TrodVars enc P W' sp s.vars (s.fn H (ds ++ gs)).vars pv)
    (hps : before = pa ++ pv) (hb : Below W.heap.size W W')
    (hok : ∀ (j : Nat) (t : TypeId) (r : Value), f.resultTypes[j]? = some t → (v.resultList f.resultTypes.size)[j]? = some r → Value.okWide P W' .any 0 t r) :
    s.post enc P f apart fresh handsOn again W args v W' := by
  have hlt : ∀ p ∈ before, p.block < W.heap.size := fun p hp => hW.lt p hp
  have hold : ∀ p ∈ before, (fun b => decide (b < W.heap.size)) p.block = true := fun p hp => by simpa using hlt p hp
  refine ⟨ds, gs, before, [], pa, pv, hW, hres _ _ _, hargs _ hold, hvars _ hold, World.keptBut_mono (fun p hp => ⟨hp, ?_⟩) (hb.frame (· ∈ before)), fun _ => ?_⟩
  · rw [hps, List.mem_append] at hp
    exact Or.inr hp
  · obtain ⟨_, _, _, _, _, hz, hn⟩ := hW
    refine ⟨hok, _, _, ([] ++ pa) ++ pv, ⟨[] ++ pa, pv, trodAll_append (hargs _ (fun _ _ => rfl)) (hres _ _ _), hvars _ (fun _ _ => rfl), rfl, ?_, ?_⟩, ?_⟩
    · intro b off hp
      have hin : MemPlace.cell b off ∈ before := by rw [hps]; simpa using hp
      rw [hb.frozen (hlt _ hin)]
      exact hz b off hin
    · intro ha
      have := hn ha
      rw [hps] at this
      simpa using this
    · intro p hp _
      rw [hps]
      simpa using hp
end

theorem own : ownKnob Tryz.prog.godebug = none := by kernel_rfl
theorem laidOut : laidOutB Tryz.prog = true := by kernel_rfl
theorem gPow : Tryz.prog.globalNamed "internal/strconv.uint64pow10" = some 1 := by kernel_rfl
theorem gPowType : (Tryz.prog.globals[1]?).map (·.type) = some 137 := by kernel_rfl
theorem gES : Tryz.prog.globalNamed "strconv.ErrSyntax" = some 2 := by kernel_rfl
theorem gESType : (Tryz.prog.globals[2]?).map (·.type) = some 69 := by kernel_rfl
theorem gER : Tryz.prog.globalNamed "strconv.ErrRange" = some 3 := by kernel_rfl
theorem gERType : (Tryz.prog.globals[3]?).map (·.type) = some 69 := by kernel_rfl
theorem cells165 : Tryz.prog.cellsOf 137 = 20 := by kernel_rfl
theorem cells149 : Tryz.prog.cellsOf 121 = 1 := by kernel_rfl
theorem cells175 : Tryz.prog.cellsOf 158 = 1 := by kernel_rfl
theorem cells9 : Tryz.prog.cellsOf 9 = 1 := by kernel_rfl
theorem star : "*" ++ "errors.errorString" = "*errors.errorString" := by decide
theorem row173 (u : TypeId) (h : Tryz.prog.typeName? 3 u = some "*errors.errorString") : u = 156 :=
  typeName_ptr_named (nm := "errors.errorString") (by rw [star]; kernel_rfl) (by kernel_rfl) (by decide) u (by rw [star]; exact h)

theorem glob {W : World} (hL : laidMetH Tryz.prog Rows.linesBackRow.laid W) (hS : W.ShapedOpen Tryz.prog) : Glob W := by
  have hL' : laidMet Tryz.prog Rows.linesBackRow.laid W := by
    rw [← laidMetH_plain Tryz.prog Rows.linesBackRow.laid W (by rfl)]; exact hL
  have h2 := hL'.tail.tail
  have h4 := h2.tail.tail
  have h5 := h4.tail
  refine ⟨Lib.tabIs_of_head gPow gPowType Tryz.underlying137 Tryz.underlying121 cells149 cells165 h2, Tryz.laysM145.s1_3 W hS, ?_, ?_⟩
  · obtain ⟨a, s, hv, _⟩ := laid_sentinel h5 gES gESType Tryz.underlying69 row173 Tryz.underlying156 Tryz.underlying158 rfl rfl Tryz.underlying9 cells175 cells9
    exact ⟨_, _, hv⟩
  · obtain ⟨a, s, hv, _⟩ := laid_sentinel h4 gER gERType Tryz.underlying69 row173 Tryz.underlying156 Tryz.underlying158 rfl rfl Tryz.underlying9 cells175 cells9
    exact ⟨_, _, hv⟩

/-- A WORLD FOR THE WITNESS: the settled one, with the tables and the two sentinels as their initialisers lay them. -/
noncomputable def low : Nat := (World.holding Tryz.prog default ⟨#[], #[], []⟩).heap.size
abbrev synS : ByteArray := { data := #[105, 110, 118, 97, 108, 105, 100, 32, 115, 121, 110, 116, 97, 120] }
abbrev rngS : ByteArray := { data := #[118, 97, 108, 117, 101, 32, 111, 117, 116, 32, 111, 102, 32, 114, 97, 110, 103, 101] }
def tabCells (k : IntKind) : List (DataW Unit) → List Value
  | .lit (.int _ n) :: l => .int k n :: tabCells k l
  | .agg [.lit (.int _ m), .lit (.int _ n)] :: l => .int k m :: .int k n :: tabCells k l
  | _ => []
def cellsOfTab (k : IntKind) : DataW Unit → Array Value
  | .agg l => (tabCells k l).toArray
  | _ => #[]
noncomputable def laidWorld (os : Os) : World :=
  let w0 := World.holding Tryz.prog os ⟨#[.cells #[.string synS] 158, .cells #[.string rngS] 158], #[], []⟩
  { w0 with heap := ((((((w0.heap.modify 2 fun
      | .cells _ t frozen => .cells #[.iface 156 (.pointer (some ⟨low, 0, none⟩))] t frozen
      | o => o).modify 3 fun
      | .cells _ t frozen => .cells #[.iface 156 (.pointer (some ⟨low + 1, 0, none⟩))] t frozen
      | o => o).modify 1 fun
      | .cells _ t frozen => .cells (cellsOfTab .u64 Rows.laid_internal_strconv_uint64pow10) t frozen
      | o => o).modify 6 fun
      | .cells _ t frozen => .cells (cellsOfTab .u8 Rows.laid_math_bits_deBruijn32tab) t frozen
      | o => o).modify 7 fun
      | .cells _ t frozen => .cells (cellsOfTab .u8 Rows.laid_math_bits_deBruijn64tab) t frozen
      | o => o).modify 4 fun
      | .cells _ t frozen => .cells (cellsOfTab .u8 Rows.laid_unicode_utf8_first) t frozen
      | o => o).modify 5 fun
      | .cells _ t frozen => .cells (cellsOfTab .u8 Rows.laid_unicode_utf8_acceptRanges) t frozen
      | o => o }
end Go.Proofs.YtnpbndglolcilaaGreatDoor.rowsW
end
