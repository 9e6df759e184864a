/-
  Abstract states over the model's worlds, and that a step of them is a step of the program: part E of a framework. Conditions: each theorem's own premises. By an AI agent.
-/
import Derived.Test.YtnpbndglolcilaaDoorVmD
namespace Go.Vm
open Go Go.RowKit

def splice {α : Type} (xs : List α) (off : Nat) (ys : List α) : List α := xs.take off ++ ys ++ xs.drop (off + ys.length)

theorem splice_length {α : Type} (xs : List α) (off : Nat) (ys : List α) (h : off + ys.length ≤ xs.length) : (splice xs off ys).length = xs.length := by
  simp [splice]; omega

theorem splice_nil {α : Type} (xs : List α) (off : Nat) : splice xs off [] = xs := by simp [splice]

theorem splice_cons {α : Type} (xs : List α) (off : Nat) (y : α) (ys : List α) (h : off + (y :: ys).length ≤ xs.length) :
    splice xs off (y :: ys) = splice (xs.set off y) (off + 1) ys := by
  simp only [splice, List.length_cons] at h ⊢
  apply List.ext_getElem?
  intro j
  simp only [List.getElem?_append, List.length_append, List.length_take, List.length_cons, List.length_set, List.getElem?_take, List.getElem?_drop, List.getElem?_set]
  have h1 : min off xs.length = off := by omega
  have h2 : min (off + 1) xs.length = off + 1 := by omega
  rw [h1, h2]
  by_cases c1 : j < off
  · rw [if_pos (by omega), if_pos c1, if_pos c1, if_pos (by omega), if_pos (by omega), if_pos (by omega), if_neg (by omega)]
  · by_cases c2 : j = off
    · subst c2
      rw [if_pos (by omega), if_neg (by omega), if_pos (by omega), if_pos (by omega), if_pos (by omega), if_pos rfl, if_pos (by omega)]
      simp
    · by_cases c3 : j < off + (ys.length + 1)
      · rw [if_pos (by omega), if_neg (by omega), if_pos (by omega), if_neg (by omega)]
        obtain ⟨q, hq⟩ : ∃ q, j - off = q + 1 := ⟨j - off - 1, by omega⟩
        rw [hq, List.getElem?_cons_succ]
        congr 1
        omega
      · rw [if_neg (by omega), if_neg (by omega), if_neg (by omega)]
        congr 1
        omega

theorem fold_splice {α : Type} (off : Nat) : ∀ (ys : List α) (k : Nat) (xs : Array α), off + k + ys.length ≤ xs.size →
    ((ys.zipIdx k).foldl (fun cs (c, j) => cs.setIfInBounds (off + j) c) xs).toList = splice xs.toList (off + k) ys
  | [], k, xs, _ => by simp [splice]
  | y :: ys, k, xs, h => by
    simp only [List.zipIdx_cons, List.foldl_cons, List.length_cons] at h ⊢
    rw [fold_splice off ys (k + 1) _ (by simp; omega)]
    rw [splice_cons _ _ _ _ (by simp; omega)]
    simp [Nat.add_assoc]

theorem reps_splice {φ : Id → Option Value} {w : World} {F : Bool → Nat → Prop} {ps qs : List PC} {vs us : List Value} {off : Nat} (h : reps φ w F ps vs) (h' : reps φ w F qs us) :
    reps φ w F (splice ps off qs) (splice vs off us) := by
  unfold splice
  rw [reps_length _ _ h']
  exact reps_append (reps_append (reps_take h _) h') (reps_drop h _)

def vfill (place : Nat → Option (Nat × Nat)) (cells : List PC) : List (Nat × PV) → Option (List PC)
  | [] => some cells
  | (k, p) :: rest =>
    match place k, p.cells with
    | some (off, size), some ps => if ps.length = size ∧ off + ps.length ≤ cells.length then vfill place (splice cells off ps) rest else none
    | _, _ => none

section
variable {φ : Id → Option Value} {w : World} {F : Bool → Nat → Prop}
theorem vfill_rep (place : Nat → Option (Nat × Nat)) : ∀ (parts : List (Nat × PV)) (vals : List (Nat × Value)) (cells cells' : List PC) (vs : Array Value),
    parts.map (·.1) = vals.map (·.1) → (∀ (j : Nat) (p : Nat × PV) (v : Nat × Value), parts[j]? = some p → vals[j]? = some v → repV φ w F p.2 v.2) →
    reps φ w F cells vs.toList → vfill place cells parts = some cells' → ∃ us, Instr.fill place vs vals = some us ∧ reps φ w F cells' us.toList
  | [], vals, cells, cells', vs, hm, _, hr, h => by
    obtain rfl : vals = [] := by simpa using hm.symm
    simp only [vfill] at h
    cases h
    exact ⟨vs, by simp [Instr.fill], hr⟩
  | (k, p) :: parts, vals, cells, cells', vs, hm, hp, hr, h => by
    cases vals with
    | nil => simp at hm
    | cons v vals =>
      obtain ⟨k', v⟩ := v
      simp only [List.map_cons, List.cons.injEq] at hm
      obtain ⟨rfl, hm⟩ := hm
      simp only [vfill] at h
      split at h
      · rename_i off size ps hpl hps
        split at h
        · rename_i hc
          have hv := cells_rep (hp 0 _ _ rfl rfl) hps
          have hlv : v.cells.size = ps.length := by rw [← Array.length_toList, reps_length _ _ hv]
          have hlc : vs.size = cells.length := by rw [← Array.length_toList, reps_length _ _ hr]
          have hfold := fold_splice off v.cells.toList 0 vs (by rw [Array.length_toList]; omega)
          simp only [Nat.add_zero] at hfold
          have e2 : v.cells.zipIdx.foldl (fun cs (x : Value × Nat) => match x with | (c, j) => cs.setIfInBounds (off + j) c) vs = (v.cells.toList.zipIdx 0).foldl (fun cs (x : Value × Nat) => match x with | (c, j) => cs.setIfInBounds (off + j) c) vs := by
            rw [← Array.foldl_toList]
            simp
          obtain ⟨us, hu, hr'⟩ := vfill_rep place parts vals _ cells' (v.cells.zipIdx.foldl (fun cs (x : Value × Nat) => match x with | (c, j) => cs.setIfInBounds (off + j) c) vs) hm
            (fun j q u hq hu => hp (j + 1) q u hq hu) (by rw [e2, hfold]; exact reps_splice hr hv) h
          refine ⟨us, ?_, hr'⟩
          simp only [Instr.fill, hpl]
          rw [if_neg (by simp; omega)]
          exact hu
        · cases h
      · cases h
end
end Go.Vm
