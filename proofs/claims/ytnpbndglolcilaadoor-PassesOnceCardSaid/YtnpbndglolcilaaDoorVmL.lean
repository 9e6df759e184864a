/-
  Abstract states over the model's worlds, and that a step of them is a step of the program: part L of a framework. Conditions: each theorem's own premises. By an AI agent.
-/
import Derived.Test.YtnpbndglolcilaaDoorVmK
namespace Go.Vm
open Go Go.RowKit
section
variable {ρ : Operand → Option PV} {H : Id → Option Blk} {C : Ctx} {φ φ' : Id → Option Value} {F : Bool → Nat → Prop} {F0 F1 : Nat → Prop} {σ : St} {a : Act} {w w' : World} {P : Program}

/-- What a callee may read: what is only read, and the call's own blocks, borrowed. -/
def Lent (φ : Id → Option Value) (σ : St) (F0 : Nat → Prop) (g : Nat) : Prop := F0 g ∨ ∃ i u, σ.H i ≠ none ∧ φ i = some u ∧ blkOf u = some g

theorem lent_lt (h : RelX C φ F0 F1 σ a w) (g : Nat) (hg : Lent φ σ F0 g) : g < w.heap.size := by
  rcases hg with hg | ⟨i, u, hi, hu, hg⟩
  · exact h.lt0 g hg
  · obtain ⟨b, hb⟩ := Option.ne_none_iff_exists'.1 hi
    exact holds_lt (h.heap i b hb) hu hg

theorem clo_rep (h : RelX C φ F0 F1 σ a w) (hle : ∀ {i b}, H i = some b → σ.H i = some b) : ∀ (k : Nat) (p : PC) (x : Value), rep φ w (Fs F0 F1) p x → rep φ w (Fs (Lent φ σ F0) fun _ => False) (clo H k p) x := by
  have hF : ∀ t g, Fs F0 F1 t g → Lent φ σ F0 g := fun t g hg => .inl (Fs_f0 h.sub t g hg)
  intro k
  induction k with
  | zero =>
    intro p x hr
    have := weak_rep (F' := Fs (Lent φ σ F0) fun _ => False) hF p x hr
    simpa [clo] using this
  | succ k ih =>
    intro p x hr
    unfold clo
    split
    · simp only [rep] at hr ⊢
      obtain ⟨rfl, _⟩ := hr
      exact ⟨none, 0, rfl, Nat.le_refl _, .inl (by simp)⟩
    · rename_i k' i hk
      cases hk
      split
      · rename_i e s n cs hH
        simp only [rep] at hr
        obtain ⟨hφ, _⟩ := hr
        have hh := h.heap i _ (hle hH)
        have hh' := hh
        obtain ⟨v, vs, hv, ⟨hl, ho⟩, hrs⟩ := hh
        rw [hφ] at hv
        cases hv
        simp only [rep]
        rcases ho with ⟨rfl, rfl⟩ | ⟨g, cap, cur, rfl, _, hc, hn, _⟩
        · refine ⟨none, 0, rfl, Nat.le_refl _, .inl ⟨rfl, ?_⟩⟩
          have : cs.length = 0 := by rw [← reps_length _ _ hrs, hl]; simp
          simp [List.length_eq_zero_iff.1 this]
        · refine ⟨_, cap, rfl, hn, .inr ⟨_, rfl, .inr ⟨i, _, by rw [hle hH]; simp, hφ, rfl⟩, ?_⟩⟩
          refine repAt_of_get _ _ fun j p hp => ?_
          rw [List.getElem?_map] at hp
          obtain ⟨q, hq, rfl⟩ := Option.map_eq_some_iff.1 hp
          obtain ⟨y, hy, hry⟩ := repAt_get _ _ (holds_repAt hh' hφ rfl) j q hq
          exact ⟨y, hy, ih q y hry⟩
      · have := weak_rep (F' := Fs (Lent φ σ F0) fun _ => False) hF _ x hr
        simpa [PC.weak] using this
    · exact weak_rep (F' := Fs (Lent φ σ F0) fun _ => False) hF _ x hr

theorem cloV_rep (h : RelX C φ F0 F1 σ a w) (hle : ∀ {i b}, H i = some b → σ.H i = some b) {k : Nat} {p : PV} {x : Value} (hr : repV φ w (Fs F0 F1) p x) (hf : (cloV H k p).free = true) :
    repV (fun _ => none) w (Fs (Lent φ σ F0) fun _ => False) (cloV H k p) x := by
  cases p with
  | one p =>
    simp only [cloV, PV.free] at hf ⊢
    simp only [repV] at hr ⊢
    exact free_rep (fun _ _ e => e) _ _ hf (clo_rep h hle k p x hr)
  | agg ps =>
    simp only [cloV, PV.free] at hf ⊢
    simp only [repV] at hr ⊢
    obtain ⟨vs, hx, hr⟩ := hr
    refine ⟨vs, hx, free_reps (φ := φ) (fun _ _ e => e) _ _ hf (reps_of_get _ _ (by simpa using reps_length _ _ hr) fun j q v hq hv => ?_)⟩
    rw [List.getElem?_map] at hq
    obtain ⟨q', hq', rfl⟩ := Option.map_eq_some_iff.1 hq
    obtain ⟨u, hu, hr'⟩ := reps_get _ _ hr j q' hq'
    rw [hv] at hu; cases hu
    exact clo_rep h hle k q' v hr'
  | tup vs =>
    simp [cloV, PV.free] at hf
  | may b p =>
    simp [cloV, PV.free] at hf

/-- Several new blocks take their names at once. -/
def bindB (s : Nat) (B : List Blk) (H : Id → Option Blk) : Id → Option Blk := fun i => if i.1 = s then (match B[i.2]? with | some b => some (b.ren s) | none => H i) else H i
def bindφ (s : Nat) (ψ φ : Id → Option Value) : Id → Option Value := fun i => if i.1 = s then ψ (0, i.2) else φ i

theorem RelX.binds (h : RelX C φ F0 F1 σ a w) {d : Nat} {B : List Blk} {ψ : Id → Option Value} (hd : σ.us d = false)
    (h0 : ∀ i, ψ i ≠ none → i.1 = 0) (hb : ∀ j b, B[j]? = some b → holds ψ w (Fs F0 F1) (0, j) b)
    (hv : ∀ j u g, ψ (0, j) = some u → blkOf u = some g → ¬ F0 g ∧ ¬ C.K0 g ∧ C.gb ≤ g ∧ ∀ k v, σ.H k ≠ none → φ k = some v → blkOf v ≠ some g)
    (hi : ∀ j k u v g, ψ (0, j) = some u → ψ (0, k) = some v → blkOf u = some g → blkOf v = some g → j = k) :
    RelX C (bindφ (σ.nx + d) ψ φ) F0 F1 { σ with H := bindB (σ.nx + d) B σ.H, us := upd σ.us d true } a w := by
  have hfr : ∀ j, φ (σ.nx + d, j) = none := fun j => h.fresh hd
  have hφ : ∀ j u, φ j = some u → bindφ (σ.nx + d) ψ φ j = some u := by
    intro j u hu
    unfold bindφ
    split
    · rename_i hj
      obtain ⟨j1, j2⟩ := j
      simp at hj
      subst hj
      rw [hfr] at hu; cases hu
    · exact hu
  have hψ : ∀ j u, ψ (0, j) = some u → bindφ (σ.nx + d) ψ φ (σ.nx + d, j) = some u := by
    intro j u hu
    simp [bindφ, hu]
  have hid : ∀ t g, Fs F0 F1 t g → w.heap[g]? = w.heap[g]? := fun _ _ _ => rfl
  have hHd : ∀ j, σ.H (σ.nx + d, j) = none := by
    intro j
    apply Classical.byContradiction
    intro hne
    obtain ⟨b, hb'⟩ := Option.ne_none_iff_exists'.1 hne
    have := h.heap _ b hb'
    cases b with
    | box ty cells => obtain ⟨g, vs, hp, _⟩ := this; rw [hfr] at hp; cases hp
    | arr ty size n cells => obtain ⟨v, vs, hp, _⟩ := this; rw [hfr] at hp; cases hp
  have hcase : ∀ (i : Id) (b : Blk), bindB (σ.nx + d) B σ.H i = some b → (∃ j c, i = (σ.nx + d, j) ∧ B[j]? = some c ∧ b = c.ren (σ.nx + d)) ∨ (i.1 ≠ σ.nx + d ∧ σ.H i = some b) := by
    intro i b hb'
    unfold bindB at hb'
    split at hb'
    · rename_i hi1
      obtain ⟨i1, i2⟩ := i
      simp at hi1
      subst hi1
      split at hb'
      · rename_i c hc
        cases hb'
        exact .inl ⟨i2, c, rfl, hc, rfl⟩
      · rw [hHd] at hb'; cases hb'
    · exact .inr ⟨by assumption, hb'⟩
  have hval : ∀ j u, bindφ (σ.nx + d) ψ φ (σ.nx + d, j) = some u → ψ (0, j) = some u := by
    intro j u hu
    simpa [bindφ] using hu
  have hvalo : ∀ (i : Id) u, i.1 ≠ σ.nx + d → bindφ (σ.nx + d) ψ φ i = some u → φ i = some u := by
    intro i u hi1 hu
    simpa [bindφ, hi1] using hu
  refine ⟨h.size, h.defs, fun t p hp => ?_, fun i b hi' => ?_, fun i j u v g hi' hj' hu hv' hg hg' => ?_, fun i u g hi' hu hg => ?_, h.sub, h.ini, h.new1, h.lt0, h.os, h.tape, h.output, h.big, h.kept, h.k0lt, h.gbig, h.glob, fun i hi' => ?_⟩
  · obtain ⟨x, hx, hr⟩ := h.frame t p hp
    exact ⟨x, hx, repV_mono hφ hid (fun _ _ e => e) p x hr⟩
  · rcases hcase i b hi' with ⟨j, c, rfl, hc, rfl⟩ | ⟨_, hi'⟩
    · exact ren_holds hψ h0 (hb j c hc)
    · exact holds_mono (h.heap i b hi') hφ (fun _ _ e => e) hid fun _ _ _ _ => rfl
  · obtain ⟨b, hb1⟩ := Option.ne_none_iff_exists'.1 hi'
    obtain ⟨c, hc1⟩ := Option.ne_none_iff_exists'.1 hj'
    rcases hcase i b hb1 with ⟨j1, _, rfl, _, _⟩ | ⟨hi1, hi2⟩ <;> rcases hcase j c hc1 with ⟨j2, _, rfl, _, _⟩ | ⟨hj1, hj2⟩
    · rw [hi j1 j2 u v g (hval _ _ hu) (hval _ _ hv') hg hg']
    · exact absurd hg' ((hv j1 u g (hval _ _ hu) hg).2.2.2 j v (by rw [hj2]; simp) (hvalo _ _ hj1 hv'))
    · exact absurd hg ((hv j2 v g (hval _ _ hv') hg').2.2.2 i u (by rw [hi2]; simp) (hvalo _ _ hi1 hu))
    · exact h.inj i j u v g (by rw [hi2]; simp) (by rw [hj2]; simp) (hvalo _ _ hi1 hu) (hvalo _ _ hj1 hv') hg hg'
  · obtain ⟨b, hb1⟩ := Option.ne_none_iff_exists'.1 hi'
    rcases hcase i b hb1 with ⟨j1, _, rfl, _, _⟩ | ⟨hi1, hi2⟩
    · obtain ⟨h1, h2, h3, _⟩ := hv j1 u g (hval _ _ hu) hg
      exact ⟨h1, h2, h3⟩
    · exact h.apart i u g (by rw [hi2]; simp) (hvalo _ _ hi1 hu) hg
  · by_cases hi1 : i.1 = σ.nx + d
    · exact .inr ⟨d, by simp [upd], hi1⟩
    · have : φ i ≠ none := by simpa [bindφ, hi1] using hi'
      rcases h.ids i this with h1 | ⟨e, he, h1⟩
      · exact .inl h1
      · refine .inr ⟨e, ?_, h1⟩
        by_cases hed : e = d
        · subst hed; simp [upd]
        · show upd σ.us d true e = true
          rw [upd_ne _ _ hed]; exact he

/-! ### Contracts -/
def Callable (P : Program) (f : FuncId) : Prop := ∃ fn, P.funcs[f]? = some fn ∧ (fn.name == "runtime.NumGoroutine") = false ∧ fn.body.isNone = false

/-- WHAT A CALL OF f WITH args GIVES: r, with the new blocks B; in every world whose globals are as in gw. -/
structure VCall (P : Program) (gw : World) (gb : Nat) (f : FuncId) (args : List PV) (r : PV) (B : List Blk) : Prop where
  callable : Callable P f
  run : ∀ (w : World) (xs : Array Value) (F : Nat → Prop), gb ≤ w.heap.size → (∀ g, g < gb → w.heap[g]? = gw.heap[g]?) → (∀ g, F g → g < w.heap.size) →
    repVs (fun _ => none) w (Fs F fun _ => False) args xs.toList →
    Calls P f xs w fun e w' => ∃ (x : Value) (ψ : Id → Option Value) (X : Nat → Prop), e = .returned x ∧ Below w.heap.size w w' ∧ (∀ g, X g → w.heap.size ≤ g ∧ g < w'.heap.size) ∧
      repV ψ w' (Fs (fun g => F g ∨ X g) X) r x ∧ (∀ j b, B[j]? = some b → holds ψ w' (Fs (fun g => F g ∨ X g) X) (0, j) b) ∧ (∀ i, ψ i ≠ none → i.1 = 0) ∧
      (∀ j u g, ψ (0, j) = some u → blkOf u = some g → w.heap.size ≤ g ∧ ¬ X g) ∧
      (∀ j k u v g, ψ (0, j) = some u → ψ (0, k) = some v → blkOf u = some g → blkOf v = some g → j = k)

/-- The state behind a call. -/
def St.called (σ : St) (d : Nat) (r : PV) (B : List Blk) : St :=
  { σ with fr := upd σ.fr d (some (r.ren (σ.nx + d))), H := bindB (σ.nx + d) B σ.H, us := upd σ.us d true }
end
end Go.Vm
