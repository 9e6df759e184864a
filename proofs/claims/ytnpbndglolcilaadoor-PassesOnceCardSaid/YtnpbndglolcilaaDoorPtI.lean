/-
  Walks of the program's functions by the framework, and what they compute. Conditions: each theorem's own premises. By an AI agent.
-/
import Derived.Test.YtnpbndglolcilaaDoorPtH
namespace Go.Vm
open Go Go.RowKit Go.Proofs
set_option maxRecDepth 100000

theorem textF_snd (n : ByteArray) (k : Int) : (textF n k).2 = checkF n k := by
  unfold textF
  split
  · rfl
  · rename_i h
    have : checkF n k = 0 := by simpa using h
    split <;> simp [this]

/-- A pass that is none amiss: its text reads back. -/
theorem text_back {n : ByteArray} {k : Int} (h : (textF n k).2 = 0) : cutN (textF n k).1 = n ∧ atoiV (cutR (textF n k).1) = k := by
  rw [textF_snd] at h
  have hb := back17 (n, k) (mem_pairs h) (by rw [← refCheckG_eq, ← check_eq]; exact h)
  have : (textF n k).1 = writtenF n k := by
    rw [text_eq, refTextF, if_neg (by rw [← check_eq]; simp [h])]
  rw [this]
  exact hb

theorem read_back {n : ByteArray} {k : Int} (h : (textF n k).2 = 0) : readF (textF n k).1 = (n, k, 0) := by
  obtain ⟨h1, h2⟩ := text_back h
  unfold readF
  rw [h1, h2, if_neg (by simp [h])]

theorem read_cases (s : ByteArray) : readF s = (⟨#[]⟩, 0, 12) ∨ (readF s = (cutN s, atoiV (cutR s), 0) ∧ textF (cutN s) (atoiV (cutR s)) = (s, 0)) := by
  unfold readF
  split
  · exact .inl rfl
  · rename_i h
    simp only [not_or, ne_eq, Classical.not_not] at h
    exact .inr ⟨rfl, Prod.ext (bytes_ext h.2) h.1⟩

theorem says_of {n : ByteArray} {k : Int} {s : ByteArray} (h : (textF n k).2 = 0) (hs : (textF n k).1 = s) : saysF n k s = true := by
  subst hs
  unfold saysF
  rw [read_back h, h]
  simp

theorem alive_true : aliveF = true := by
  have h1 : checkF nPrefix 3 = 0 := by rw [check_eq, refCheckG_eq]; decide
  have h2 : checkF nm0 0 = 0 := by rw [check_eq, refCheckG_eq]; decide
  unfold aliveF
  rw [says_of (n := nPrefix) (k := 3) (by rw [textF_snd, h1]) (by unfold textF; rw [if_neg (by simp [h1]), if_neg (by decide)]),
    says_of (n := nm0) (k := 0) (by rw [textF_snd, h2]) (by unfold textF; rw [if_neg (by simp [h2]), if_pos rfl])]
  rfl

theorem onceBad_false (n : ByteArray) (k : Int) (m : ByteArray) (j : Int) : onceBad n k m j = false := by
  unfold onceBad
  rw [textF_snd, textF_snd]
  have e1 : ∀ x : Int, (x != x) = false := by intro x; simp
  rw [e1, e1]
  simp only [Bool.false_or]
  by_cases h1 : checkF n k = 0
  · by_cases h2 : checkF m j = 0
    · have b1 := text_back (n := n) (k := k) (by rw [textF_snd, h1])
      have b2 := text_back (n := m) (k := j) (by rw [textF_snd, h2])
      by_cases h : n = m ∧ k = j
      · obtain ⟨rfl, rfl⟩ := h
        simp
      · have hne : ¬ (textF n k).1.toList = (textF m j).1.toList := by
          intro he
          have he := bytes_ext he
          rw [he] at b1
          exact h ⟨b1.1.symm.trans b2.1, b1.2.symm.trans b2.2⟩
        have hr : (n.toList == m.toList && k == j) = false := by
          cases hb : (n.toList == m.toList && k == j) with
          | false => rfl
          | true =>
            simp only [Bool.and_eq_true, beq_iff_eq] at hb
            exact absurd ⟨bytes_ext hb.1, hb.2⟩ h
        rw [hr, beq_eq_false_iff_ne.2 hne]
        simp
    · rw [beq_eq_false_iff_ne.2 h2]; simp
  · rw [beq_eq_false_iff_ne.2 h1]; simp

/-- THE PLAIN LAW. -/
theorem passesOnce_true (n : ByteArray) (k : Int) (m : ByteArray) (j : Int) (s : ByteArray) : passesOnceF n k m j s = true := by
  have ht : onceTail s = true := by
    unfold onceTail
    rw [alive_true]
    rcases read_cases s with h | ⟨h, h'⟩
    · rw [h]; simp
    · rw [h]
      simp only
      rw [h']
      simp
  unfold passesOnceF
  rw [alive_true, onceBad_false, ht]
  have hr : (textF n k).2 = 0 → onceRead n k = false := by
    intro h
    unfold onceRead
    rw [read_back h]
    simp
  by_cases h : (textF n k).2 = 0
  · rw [hr h]; simp
  · simp [h]
end Go.Vm
