/-
  Abstract states over the model's worlds, and that a step of them is a step of the program: part N of a framework. Conditions: each theorem's own premises. By an AI agent.
-/
import Derived.Test.YtnpbndglolcilaaDoorVmM
import Derived.Laws.CopyRow
namespace Go.Vm
open Go Go.RowKit
section
variable {C : Ctx} {φ φ' : Id → Option Value} {F : Bool → Nat → Prop} {F0 F1 : Nat → Prop} {σ : St} {a : Act} {w w' : World} {P : Program}

/-- One block of the call's own is written. -/
theorem RelX.write (h : RelX C φ F0 F1 σ a w) {i : Id} {b : Blk} {u : Value} {g : Nat} (hi : σ.H i ≠ none) (hu : φ i = some u) (hg : blkOf u = some g)
    (hos : w'.os = w.os) (htp : w'.tape = w.tape) (hout : w'.output = w.output) (hsz : w'.heap.size = w.heap.size)
    (hw : ∀ k, k ≠ g → w'.heap[k]? = w.heap[k]?) (hh : holds φ w' (Fs F0 F1) i b) : RelX C φ F0 F1 { σ with H := upd σ.H i (some b) } a w' := by
  obtain ⟨hg0, hgk, hgb⟩ := h.apart i u g hi hu hg
  have hwF : ∀ t k, Fs F0 F1 t k → w'.heap[k]? = w.heap[k]? := by
    intro t k hk
    refine hw k ?_
    rintro rfl
    exact hg0 (Fs_f0 h.sub t k hk)
  have hne : ∀ j, upd σ.H i (some b) j ≠ none → σ.H j ≠ none := by
    intro j hj
    by_cases hji : j = i
    · subst hji; exact hi
    · rwa [upd_ne _ _ hji] at hj
  refine ⟨h.size, h.defs, fun t p hp => ?_, fun j c hj => ?_, fun j k u v g' hj hk => h.inj j k u v g' (hne j hj) (hne k hk), fun j v g' hj => h.apart j v g' (hne j hj), h.sub, h.ini, h.new1, fun k hk => by rw [hsz]; exact h.lt0 k hk,
    hos.trans h.os, htp.trans h.tape, hout.trans h.output, by rw [hsz]; exact h.big, fun k hk => ?_, h.k0lt, h.gbig, fun k hk => ?_, h.ids⟩
  · obtain ⟨x, hx, hr⟩ := h.frame t p hp
    exact ⟨x, hx, repV_mono (fun _ _ e => e) hwF (fun _ _ e => e) p x hr⟩
  · by_cases hji : j = i
    · subst hji
      simp only [upd_self] at hj
      cases hj
      exact hh
    · simp only [upd_ne _ _ hji] at hj
      refine holds_mono (h.heap j c hj) (fun _ _ e => e) (fun _ _ e => e) hwF fun v k hv hk => hw k ?_
      rintro rfl
      exact hji (h.inj j i v u k (by rw [hj]; simp) hi hv hu hk hg)
  · refine (hw k ?_).trans (h.kept k hk)
    rintro rfl
    exact hgk hk
  · refine (hw k ?_).trans (h.glob k hk)
    rintro rfl
    omega

theorem storeVar_run {t : TypeId} {g off : Nat} {ty : TypeId} {cur : Array Value} {v : Value} {s : Nat} (hg : w.heap[g]? = some (.cells cur ty (0, 0))) (hs : szT P t = some s) (hv : v.cells.size = s)
    (hl : off + s ≤ cur.size) (h1 : ∀ u ∈ v.cells.toList, u.oneCell' = true) :
    (storeVar t ⟨g, off, none⟩ v).run P w = .ok () (w.setRow g (splice cur.toList off v.cells.toList).toArray) := by
  have hst := run_storeCells_at P g off ty v.cells.toList 0 cur w hg (by simp [hv]; omega) h1
  simp only [Nat.add_zero] at hst
  simp [storeVar, run_sizeOf' hs, hv, hst, splice]

theorem splice_take {α : Type} (xs ys : List α) (off n : Nat) (h : off + ys.length ≤ n) (hn : n ≤ xs.length) : (splice xs off ys).take n = splice (xs.take n) off ys := by
  apply List.ext_getElem?
  intro j
  simp only [splice, List.getElem?_take, List.getElem?_append, List.length_append, List.length_take, List.getElem?_drop]
  have h1 : min off xs.length = off := by omega
  have h2 : min off (min n xs.length) = off := by omega
  rw [h1, h2]
  by_cases hj : j < n
  · rw [if_pos hj]
    by_cases c1 : j < off + ys.length
    · rw [if_pos c1, if_pos c1]
      by_cases c2 : j < off
      · rw [if_pos c2, if_pos c2, if_pos c2, if_pos c2, if_pos hj]
      · rw [if_neg c2, if_neg c2]
    · rw [if_neg c1, if_neg c1, if_pos (by omega)]
  · rw [if_neg hj, if_neg (by omega), if_neg (by omega)]

/-- A store into a block of the call's own. -/
theorem store_run (h : RelX C φ F0 F1 σ a w) {i : Id} {off : Nat} {b : Blk} {t : TypeId} {x : Value} {p : PV} {y : Value} {ps : List PC} {s : Nat}
    (hx : repV φ w (Fs F0 F1) (.one (.loc i off)) x) (hb : σ.H i = some b) (hp : repV φ w (Fs F0 F1) p y) (hps : p.cells = some ps) (hs : szT C.P t = some s) (hl : ps.length = s) (hfit : off + s ≤ b.cells.length) :
    ∃ w', (Instr.storeAt t x y).run C.P w = .ok () w' ∧ ∀ b', (match b with | .box ty cs => Blk.box ty (splice cs off ps) | .arr ty z n cs => Blk.arr ty z n (splice cs off ps)) = b' →
      RelX C φ F0 F1 { σ with H := upd σ.H i (some b') } a w' := by
  simp only [repV, rep] at hx
  obtain ⟨u, g, hu, hg, rfl⟩ := hx
  have hcr := cells_rep hp hps
  have hcl := reps_length _ _ hcr
  have hys : y.cells.size = y.cells.toList.length := Array.length_toList.symm
  have h1 := reps_one _ _ hcr
  have hh := h.heap i b hb
  obtain ⟨hg0, _, _⟩ := h.apart i u g (by rw [hb]; simp) hu hg
  have hne : ∀ t' k, Fs F0 F1 t' k → k ≠ g := by
    rintro t' k hk rfl
    exact hg0 (Fs_f0 h.sub t' k hk)
  cases b with
  | box ty cs =>
    obtain ⟨g', vs, hp', hheap, hr⟩ := hh
    rw [hu] at hp'; cases hp'
    simp [blkOf] at hg
    subst hg
    have hvl := reps_length _ _ hr
    simp only [Blk.cells] at hfit
    have hrun := storeVar_run (P := C.P) (t := t) (off := off) (v := y) hheap hs (by rw [← Array.length_toList, hcl, hl]) (by simp; omega) h1
    refine ⟨_, by simpa [Instr.storeAt, Instr.sureAddr] using hrun, ?_⟩
    rintro b' rfl
    refine h.write (by rw [hb]; simp) hu rfl rfl rfl rfl (by simp) (fun k hk => setRow_other w g' k _ hk) ⟨g', splice vs off y.cells.toList, hu, ?_, ?_⟩
    · exact setRow_heap w g' vs.toArray _ ty (0, 0) hheap
    · refine reps_mono (fun _ _ e => e) (fun t' k hk => setRow_other w g' k _ (hne t' k hk)) (fun _ _ e => e) _ _ (reps_splice hr hcr)
  | arr ty z n cs =>
    obtain ⟨v, vs, hp', ⟨hlen, ho⟩, hr⟩ := hh
    rw [hu] at hp'; cases hp'
    rcases ho with ⟨rfl, _⟩ | ⟨g', cap, cur, rfl, h0, hheap, hnc, hcm, hcs, htake⟩
    · simp [blkOf] at hg
    · simp [blkOf] at hg
      subst hg
      have hvl := reps_length _ _ hr
      simp only [Blk.cells] at hfit
      have hcap : n * z ≤ cap * z := Nat.mul_le_mul_right _ hnc
      have hrun := storeVar_run (P := C.P) (t := t) (off := off) (v := y) hheap hs (by rw [← Array.length_toList, hcl, hl]) (by omega) h1
      refine ⟨_, by simpa [Instr.storeAt, Instr.sureAddr] using hrun, ?_⟩
      rintro b' rfl
      refine h.write (by rw [hb]; simp) hu rfl rfl rfl rfl (by simp) (fun k hk => setRow_other w g' k _ hk) ⟨_, splice vs off y.cells.toList, hu, ⟨?_, .inr ⟨g', cap, _, rfl, h0, setRow_heap w g' cur _ ty (0, 0) hheap, hnc, hcm, ?_, ?_⟩⟩, ?_⟩
      · rw [splice_length _ _ _ (by omega), hlen]
      · simp only [List.size_toArray]
        rw [splice_length _ _ _ (by have := Array.length_toList (xs := cur); omega)]
        simpa using hcs
      · simp only []
        rw [splice_take _ _ _ _ (by omega) (by have := Array.length_toList (xs := cur); omega), htake]
      · refine reps_mono (fun _ _ e => e) (fun t' k hk => setRow_other w g' k _ (hne t' k hk)) (fun _ _ e => e) _ _ (reps_splice hr hcr)
end
end Go.Vm
