/-
  Walks of the program's functions by the framework, and what they compute. Conditions: each theorem's own premises. By an AI agent.
-/
import Derived.Test.YtnpbndglolcilaaDoorPtE
namespace Go.Vm
open Go Go.RowKit Go.Proofs
set_option maxRecDepth 100000

theorem toList_inj {a b : ByteArray} : a.toList = b.toList ↔ a = b := ⟨bytes_ext, fun h => by rw [h]⟩

def refCheckG (n : ByteArray) (k : Int) : Int :=
  if n = nm0 ∨ n = nm1 ∨ n = nm2 ∨ n = nm3 ∨ n = nm4 ∨ n = nm5 then (if k < 0 ∨ 0 < k then 2 else 0)
  else if n = nPrefix then (if k < 1 ∨ 8 < k then 2 else 0)
  else if n = nPhases then (if k < 2 ∨ 4 < k then 2 else 0)
  else 12
theorem refCheckG_eq (n : ByteArray) (k : Int) : refCheckF n k = refCheckG n k := by simp only [refCheckF, refCheckG, toList_inj]

theorem check_eq (n : ByteArray) (k : Int) : checkF n k = refCheckF n k := by
  rw [refCheckG_eq]
  unfold checkF refCheckG
  simp only [toList_inj]
  by_cases h : Lib.containsS names8 n = true
  · have h' := (Lib.containsS_iff _ _).1 h
    simp only [names8, List.mem_cons, List.not_mem_nil, or_false] at h'
    have hne : ¬ Lib.containsS names8 n = false := by rw [h]; decide
    rw [if_neg hne]
    have e1 : ∀ m : ByteArray, (m = nm0 ∨ m = nm1 ∨ m = nm2 ∨ m = nm3 ∨ m = nm4 ∨ m = nm5) → ¬ m = nPrefix ∧ ¬ m = nPhases := by
      rintro m (rfl | rfl | rfl | rfl | rfl | rfl) <;> decide
    by_cases h6 : n = nm0 ∨ n = nm1 ∨ n = nm2 ∨ n = nm3 ∨ n = nm4 ∨ n = nm5
    · rw [if_pos h6, if_neg (e1 n h6).1, if_neg (e1 n h6).2]
    · rw [if_neg h6]
      have : n = nPrefix ∨ n = nPhases := by
        rcases h' with h' | h' | h' | h' | h' | h' | h' | h'
        · exact absurd (.inl h') h6
        · exact absurd (.inr (.inl h')) h6
        · exact absurd (.inr (.inr (.inl h'))) h6
        · exact absurd (.inr (.inr (.inr (.inl h')))) h6
        · exact absurd (.inr (.inr (.inr (.inr (.inl h'))))) h6
        · exact absurd (.inr (.inr (.inr (.inr (.inr h'))))) h6
        · exact .inl h'
        · exact .inr h'
      rcases this with rfl | rfl
      · rw [if_pos rfl, if_pos rfl]
      · have hpp : ¬ nPhases = nPrefix := by decide
        simp only [hpp, if_false, if_true]
  · have hno : ∀ m, m ∈ names8 → ¬ n = m := by
      rintro m hm rfl
      exact h ((Lib.containsS_iff _ _).2 hm)
    rw [if_pos (by simpa using h), if_neg, if_neg (hno nPrefix (by simp [names8, nPrefix])), if_neg (hno nPhases (by simp [names8, nPhases]))]
    rintro (h | h | h | h | h | h)
    · exact hno nm0 (by simp [names8, nm0]) h
    · exact hno nm1 (by simp [names8, nm1]) h
    · exact hno nm2 (by simp [names8, nm2]) h
    · exact hno nm3 (by simp [names8, nm3]) h
    · exact hno nm4 (by simp [names8, nm4]) h
    · exact hno nm5 (by simp [names8, nm5]) h

theorem digit_eq (k : Int) (h0 : 0 ≤ k) (h8 : k ≤ 8) : digitsB k = ofBytes [IntKind.wrap .u8 (IntKind.wrap .i64 (48 + k))] := by
  unfold digitsB
  rw [Lib.decDigits_one (by omega)]
  have : k = 0 ∨ k = 1 ∨ k = 2 ∨ k = 3 ∨ k = 4 ∨ k = 5 ∨ k = 6 ∨ k = 7 ∨ k = 8 := by omega
  rcases this with rfl | rfl | rfl | rfl | rfl | rfl | rfl | rfl | rfl <;> decide

theorem text_eq (n : ByteArray) (k : Int) : textF n k = refTextF n k := by
  unfold textF refTextF
  rw [check_eq]
  split
  · rfl
  · rename_i h
    have h0 : refCheckF n k = 0 := by simpa using h
    have hk := checkF_ok (n := n) (k := k) (by rw [check_eq]; exact h0)
    unfold writtenF
    by_cases hk0 : k = 0
    · rw [if_pos hk0, if_neg (by omega)]
    · rw [if_neg hk0, if_pos (by omega), digit_eq k hk.1 hk.2.1]

theorem back17 : ∀ p ∈ refPairs, refCheckG p.1 p.2 = 0 → cutN (writtenF p.1 p.2) = p.1 ∧ atoiV (cutR (writtenF p.1 p.2)) = p.2 := by
  decide +kernel

theorem mem_pairs {n : ByteArray} {k : Int} (h : checkF n k = 0) : (n, k) ∈ refPairs := by
  have hk := checkF_ok h
  have hn : n ∈ names8 := by
    unfold checkF at h
    split at h
    · cases h
    · rename_i hc
      exact (Lib.containsS_iff _ _).1 (by simpa using hc)
  unfold refPairs
  rw [List.mem_flatMap]
  refine ⟨n, hn, ?_⟩
  have : k = 0 ∨ k = 1 ∨ k = 2 ∨ k = 3 ∨ k = 4 ∨ k = 5 ∨ k = 6 ∨ k = 7 ∨ k = 8 := by omega
  rcases this with rfl | rfl | rfl | rfl | rfl | rfl | rfl | rfl | rfl <;> simp

theorem hit_iff {s : ByteArray} {p : ByteArray × Int} (hp : p ∈ refPairs) : refHit s p = true ↔ p = (cutN s, atoiV (cutR s)) ∧ textF (cutN s) (atoiV (cutR s)) = (s, 0) := by
  unfold refHit
  simp only [Bool.and_eq_true, beq_iff_eq]
  constructor
  · rintro ⟨h0, h1⟩
    obtain ⟨hb1, hb2⟩ := back17 p hp (by rw [← refCheckG_eq]; exact h0)
    have hs : writtenF p.1 p.2 = s := bytes_ext h1
    rw [hs] at hb1 hb2
    refine ⟨by rw [hb1, hb2], ?_⟩
    rw [hb1, hb2, text_eq, refTextF, if_neg (by simp [h0]), hs]
  · rintro ⟨rfl, ht⟩
    rw [text_eq, refTextF] at ht
    split at ht
    · rename_i hne
      simp only [Prod.mk.injEq] at ht
      exact absurd ht.2 hne
    · rename_i h0
      simp only [Prod.mk.injEq] at ht
      exact ⟨by simpa using h0, by rw [ht.1]⟩

theorem read_eq (s : ByteArray) : readF s = refReadF s := by
  unfold readF refReadF
  by_cases ht : textF (cutN s) (atoiV (cutR s)) = (s, 0)
  · rw [if_neg (by rw [ht]; simp)]
    have hc : checkF (cutN s) (atoiV (cutR s)) = 0 := by
      unfold textF at ht
      split at ht
      · rename_i hne
        simp only [Prod.mk.injEq] at ht
        exact absurd ht.2 hne
      · rename_i h0; simpa using h0
    have hm := mem_pairs hc
    cases hf : refPairs.find? (refHit s) with
    | none =>
      have := List.find?_eq_none.1 hf _ hm
      exact absurd ((hit_iff hm).2 ⟨rfl, ht⟩) this
    | some p =>
      have hp := List.mem_of_find?_eq_some hf
      have hh := List.find?_some hf
      rw [((hit_iff hp).1 hh).1]
  · have hn : refPairs.find? (refHit s) = none := by
      rw [List.find?_eq_none]
      intro p hp hh
      exact ht ((hit_iff hp).1 hh).2
    rw [hn, if_pos]
    apply Classical.byContradiction
    intro hcon
    simp only [not_or, ne_eq, Classical.not_not] at hcon
    exact ht (Prod.ext (bytes_ext hcon.2) hcon.1)

/-- THE PLAIN LAW. -/
theorem passesTexts_true (n : ByteArray) (k : Int) (s : ByteArray) : passesTextsF n k s = true := by
  unfold passesTextsF
  split
  · rfl
  · rw [text_eq, read_eq]; simp
end Go.Vm
