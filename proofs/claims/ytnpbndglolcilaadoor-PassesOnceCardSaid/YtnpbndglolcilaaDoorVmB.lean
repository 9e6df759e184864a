/-
  Abstract states over the model's worlds, and that a step of them is a step of the program: part B of a framework. Conditions: each theorem's own premises. By an AI agent.
-/
import Derived.Test.YtnpbndglolcilaaDoorVmA
namespace Go.Vm
open Go Go.RowKit

structure St where
  fr : Nat → Option PV
  H : Id → Option Blk
  us : Nat → Bool
  nx : Nat

def upd {α β : Type} [DecidableEq α] (f : α → β) (i : α) (b : β) : α → β := fun j => if j = i then b else f j

theorem upd_self {α β : Type} [DecidableEq α] (f : α → β) (i : α) (b : β) : upd f i b i = b := by simp [upd]
theorem upd_ne {α β : Type} [DecidableEq α] (f : α → β) {i j : α} (b : β) (h : j ≠ i) : upd f i b j = f j := by simp [upd, h]

/-- What is fixed while a body runs. -/
structure Ctx where
  P : Program
  nt : Nat
  w0 : World
  K0 : Nat → Prop
  gw : World
  gb : Nat
  Fi : Nat → Prop

def Fs (F0 F1 : Nat → Prop) : Bool → Nat → Prop
  | true => F1
  | false => F0

def holds (φ : Id → Option Value) (w : World) (F : Bool → Nat → Prop) (i : Id) : Blk → Prop
  | .box ty cells => ∃ g vs, φ i = some (.pointer (some ⟨g, 0, none⟩)) ∧ w.heap[g]? = some (.cells vs.toArray ty (0, 0)) ∧ reps φ w F cells vs
  | .arr ty size n cells => ∃ v vs, φ i = some v ∧ w.ownsRow 0 ty size v n vs ∧ reps φ w F cells vs

structure RelX (C : Ctx) (φ : Id → Option Value) (F0 F1 : Nat → Prop) (σ : St) (a : Act) (w : World) : Prop where
  size : a.tmps.size = C.nt
  defs : a.defers = []
  frame : ∀ t p, σ.fr t = some p → ∃ x, a.tmps[t]? = some x ∧ repV φ w (Fs F0 F1) p x
  heap : ∀ i b, σ.H i = some b → holds φ w (Fs F0 F1) i b
  inj : ∀ i j u v g, σ.H i ≠ none → σ.H j ≠ none → φ i = some u → φ j = some v → blkOf u = some g → blkOf v = some g → i = j
  apart : ∀ i u g, σ.H i ≠ none → φ i = some u → blkOf u = some g → ¬ F0 g ∧ ¬ C.K0 g ∧ C.gb ≤ g
  sub : ∀ g, F1 g → F0 g
  ini : ∀ g, F0 g → C.Fi g ∨ F1 g
  new1 : ∀ g, F1 g → C.w0.heap.size ≤ g
  lt0 : ∀ g, F0 g → g < w.heap.size
  os : w.os = C.w0.os
  tape : w.tape = C.w0.tape
  output : w.output = C.w0.output
  big : C.w0.heap.size ≤ w.heap.size
  kept : ∀ g, C.K0 g → w.heap[g]? = C.w0.heap[g]?
  k0lt : ∀ g, C.K0 g → g < C.w0.heap.size
  gbig : C.gb ≤ C.w0.heap.size
  glob : ∀ g, g < C.gb → w.heap[g]? = C.gw.heap[g]?
  ids : ∀ i, φ i ≠ none → i.1 < σ.nx ∨ ∃ d, σ.us d = true ∧ i.1 = σ.nx + d

def Rel (C : Ctx) (σ : St) (a : Act) (w : World) : Prop := ∃ φ F0 F1, RelX C φ F0 F1 σ a w

section
variable {C : Ctx} {φ φ' : Id → Option Value} {F0 F1 : Nat → Prop} {σ : St} {a : Act} {w w' : World}

theorem Fs_f0 (h : ∀ g, F1 g → F0 g) (t : Bool) (g : Nat) (hg : Fs F0 F1 t g) : F0 g := by
  cases t
  · exact hg
  · exact h g hg

theorem blkOf_own {v : Value} {n size : Nat} {e : TypeId} {xs : List Value} (h : w.ownsRow 0 e size v n xs) {g : Nat} (hg : blkOf v = some g) : g < w.heap.size := by
  obtain ⟨_, ⟨rfl, _⟩ | ⟨g', cap, cur, rfl, _, hc, _⟩⟩ := h
  · simp [blkOf] at hg
  · simp [blkOf] at hg
    subst hg
    exact (Array.getElem?_eq_some_iff.1 hc).1

theorem holds_lt {F : Bool → Nat → Prop} {i : Id} {b : Blk} (h : holds φ w F i b) {u : Value} {g : Nat} (hu : φ i = some u) (hg : blkOf u = some g) : g < w.heap.size := by
  cases b with
  | box ty cells =>
    obtain ⟨g', vs, hp, hh, _⟩ := h
    rw [hu] at hp; cases hp
    simp [blkOf] at hg
    subst hg
    exact (Array.getElem?_eq_some_iff.1 hh).1
  | arr ty size n cells =>
    obtain ⟨v, vs, hp, hh, _⟩ := h
    rw [hu] at hp; cases hp
    exact blkOf_own hh hg

theorem ownsRow_block {e : TypeId} {size n : Nat} {v : Value} {xs : List Value} (h : w.ownsRow 0 e size v n xs) (hw : ∀ g, blkOf v = some g → w'.heap[g]? = w.heap[g]?) : w'.ownsRow 0 e size v n xs := by
  obtain ⟨hl, h⟩ := h
  refine ⟨hl, ?_⟩
  rcases h with h | ⟨g, cap, cur, rfl, h0, hc, h1⟩
  · exact .inl h
  · exact .inr ⟨g, cap, cur, rfl, h0, (hw g rfl).trans hc, h1⟩

/-- A block of the call's own holds what it held, in a world that has this block as it was, and all that is only read. -/
theorem holds_mono {F F' : Bool → Nat → Prop} {i : Id} {b : Blk} (h : holds φ w F i b) (hφ : ∀ i u, φ i = some u → φ' i = some u) (hF : ∀ t g, F t g → F' t g)
    (hw : ∀ t g, F t g → w'.heap[g]? = w.heap[g]?) (hb : ∀ u g, φ i = some u → blkOf u = some g → w'.heap[g]? = w.heap[g]?) : holds φ' w' F' i b := by
  cases b with
  | box ty cells =>
    obtain ⟨g, vs, hp, hh, hr⟩ := h
    exact ⟨g, vs, hφ _ _ hp, (hb _ g hp rfl).trans hh, reps_mono hφ hw hF _ _ hr⟩
  | arr ty size n cells =>
    obtain ⟨v, vs, hp, hh, hr⟩ := h
    exact ⟨v, vs, hφ _ _ hp, ownsRow_block hh (fun g hg => hb v g hp hg), reps_mono hφ hw hF _ _ hr⟩

/-- New blocks, all else as it was; some of the new ones are only read from now on. -/
theorem RelX.grow (h : RelX C φ F0 F1 σ a w) (hb : Below w.heap.size w w') (X : Nat → Prop) (hX : ∀ g, X g → w.heap.size ≤ g ∧ g < w'.heap.size) :
    RelX C φ (fun g => F0 g ∨ X g) (fun g => F1 g ∨ X g) σ a w' := by
  have hF : ∀ t g, Fs F0 F1 t g → Fs (fun g => F0 g ∨ X g) (fun g => F1 g ∨ X g) t g := by
    intro t g hg; cases t <;> exact .inl hg
  have hold : ∀ g, g < w.heap.size → w'.heap[g]? = w.heap[g]? := hb.block
  have hw : ∀ t g, Fs F0 F1 t g → w'.heap[g]? = w.heap[g]? := fun t g hg => hold g (h.lt0 g (Fs_f0 h.sub t g hg))
  refine ⟨h.size, h.defs, fun t p hp => ?_, fun i b hi => ?_, h.inj, fun i u g hi hu hg => ?_, ?_, ?_, ?_, ?_, hb.os.trans h.os, hb.tape.trans h.tape, hb.output.trans h.output, Nat.le_trans h.big hb.size, ?_, h.k0lt, h.gbig, ?_, h.ids⟩
  · obtain ⟨x, hx, hr⟩ := h.frame t p hp
    exact ⟨x, hx, repV_mono (fun _ _ e => e) hw hF p x hr⟩
  · have hh := h.heap i b hi
    exact holds_mono hh (fun _ _ e => e) hF hw fun u g hu hg => hold g (holds_lt hh hu hg)
  · obtain ⟨h0, h1, h2⟩ := h.apart i u g hi hu hg
    refine ⟨?_, h1, h2⟩
    rintro (h3 | h3)
    · exact h0 h3
    · obtain ⟨b, hb'⟩ := Option.ne_none_iff_exists'.1 hi
      have := holds_lt (h.heap i b hb') hu hg
      have := (hX g h3).1
      omega
  · rintro g (h0 | h0)
    · exact .inl (h.sub g h0)
    · exact .inr h0
  · rintro g (h0 | h0)
    · exact (h.ini g h0).imp id .inl
    · exact .inr (.inr h0)
  · rintro g (h0 | h0)
    · exact h.new1 g h0
    · exact Nat.le_trans h.big (hX g h0).1
  · rintro g (h0 | h0)
    · exact Nat.lt_of_lt_of_le (h.lt0 g h0) hb.size
    · exact (hX g h0).2
  · intro g hg
    exact (hold g (Nat.lt_of_lt_of_le (h.k0lt g hg) h.big)).trans (h.kept g hg)
  · intro g hg
    exact (hold g (Nat.lt_of_lt_of_le hg (Nat.le_trans h.gbig h.big))).trans (h.glob g hg)

theorem RelX.below (h : RelX C φ F0 F1 σ a w) (hb : Below w.heap.size w w') : RelX C φ F0 F1 σ a w' := by
  have := h.grow hb (fun _ => False) (fun g hg => hg.elim)
  simpa using this

/-- A slot is written. -/
theorem RelX.put (h : RelX C φ F0 F1 σ a w) {d : Nat} {p : PV} {x : Value} (hd : d < C.nt) (hr : repV φ w (Fs F0 F1) p x) :
    RelX C φ F0 F1 { σ with fr := upd σ.fr d (some p) } (a.put (some d) x) w := by
  refine ⟨by simp [Act.put, h.size], h.defs, fun t q hq => ?_, h.heap, h.inj, h.apart, h.sub, h.ini, h.new1, h.lt0, h.os, h.tape, h.output, h.big, h.kept, h.k0lt, h.gbig, h.glob, h.ids⟩
  simp only [Act.put]
  by_cases ht : t = d
  · subst ht
    simp only [upd, if_pos] at hq
    cases hq
    exact ⟨x, by rw [Array.getElem?_setIfInBounds_self_of_lt (by rw [h.size]; exact hd)], hr⟩
  · simp only [upd, if_neg ht] at hq
    obtain ⟨y, hy, hr'⟩ := h.frame t q hq
    exact ⟨y, by rw [Array.getElem?_setIfInBounds_ne (by omega)]; exact hy, hr'⟩

/-- A slot is forgotten. -/
theorem RelX.drop (h : RelX C φ F0 F1 σ a w) (d : Nat) (x : Value) : RelX C φ F0 F1 { σ with fr := upd σ.fr d none } (a.put (some d) x) w := by
  refine ⟨by simp [Act.put, h.size], h.defs, fun t q hq => ?_, h.heap, h.inj, h.apart, h.sub, h.ini, h.new1, h.lt0, h.os, h.tape, h.output, h.big, h.kept, h.k0lt, h.gbig, h.glob, h.ids⟩
  simp only [Act.put]
  by_cases ht : t = d
  · subst ht
    simp [upd] at hq
  · simp only [upd, if_neg ht] at hq
    obtain ⟨y, hy, hr'⟩ := h.frame t q hq
    exact ⟨y, by rw [Array.getElem?_setIfInBounds_ne (by omega)]; exact hy, hr'⟩

/-- A new block takes its name. -/
theorem RelX.bind (h : RelX C φ F0 F1 σ a w) {i : Id} {d : Nat} {v : Value} {b : Blk} (hi : i.1 = σ.nx + d) (hn : φ i = none)
    (hh : holds (upd φ i (some v)) w (Fs F0 F1) i b)
    (hv : ∀ g, blkOf v = some g → ¬ F0 g ∧ ¬ C.K0 g ∧ C.gb ≤ g ∧ ∀ j u, σ.H j ≠ none → φ j = some u → blkOf u ≠ some g) :
    RelX C (upd φ i (some v)) F0 F1 { σ with H := upd σ.H i (some b), us := upd σ.us d true } a w := by
  have hφ : ∀ j u, φ j = some u → upd φ i (some v) j = some u := by
    intro j u hu
    by_cases hj : j = i
    · subst hj; rw [hn] at hu; cases hu
    · rw [upd_ne _ _ hj]; exact hu
  have hid : ∀ t g, Fs F0 F1 t g → w.heap[g]? = w.heap[g]? := fun _ _ _ => rfl
  refine ⟨h.size, h.defs, fun t p hp => ?_, fun j c hj => ?_, fun j k u v' g hj hk hu hv' hg hg' => ?_, fun j u g hj hu hg => ?_, h.sub, h.ini, h.new1, h.lt0, h.os, h.tape, h.output, h.big, h.kept, h.k0lt, h.gbig, h.glob, fun j hj => ?_⟩
  · obtain ⟨x, hx, hr⟩ := h.frame t p hp
    exact ⟨x, hx, repV_mono hφ hid (fun _ _ e => e) p x hr⟩
  · by_cases hji : j = i
    · subst hji
      simp only [upd_self] at hj
      cases hj
      exact hh
    · simp only [upd_ne _ _ hji] at hj
      exact holds_mono (h.heap j c hj) hφ (fun _ _ e => e) hid fun _ _ _ _ => rfl
  · by_cases hji : j = i <;> by_cases hki : k = i
    · rw [hji, hki]
    · subst hji
      simp only [upd_self] at hu; cases hu
      simp only [upd_ne _ _ hki] at hk hv'
      exact absurd hg' ((hv g hg).2.2.2 k v' hk hv')
    · subst hki
      simp only [upd_self] at hv'; cases hv'
      simp only [upd_ne _ _ hji] at hj hu
      exact absurd hg ((hv g hg').2.2.2 j u hj hu)
    · simp only [upd_ne _ _ hji] at hj hu
      simp only [upd_ne _ _ hki] at hk hv'
      exact h.inj j k u v' g hj hk hu hv' hg hg'
  · by_cases hji : j = i
    · subst hji
      simp only [upd_self] at hu; cases hu
      exact ⟨(hv g hg).1, (hv g hg).2.1, (hv g hg).2.2.1⟩
    · simp only [upd_ne _ _ hji] at hj hu
      exact h.apart j u g hj hu hg
  · by_cases hji : j = i
    · subst hji
      exact .inr ⟨d, by simp [upd], hi⟩
    · rw [upd_ne _ _ hji] at hj
      rcases h.ids j hj with h0 | ⟨e, he, h0⟩
      · exact .inl h0
      · refine .inr ⟨e, ?_, h0⟩
        by_cases hed : e = d
        · subst hed; simp [upd]
        · show upd σ.us d true e = true
          rw [upd_ne _ _ hed]; exact he

theorem RelX.fresh (h : RelX C φ F0 F1 σ a w) {d j : Nat} (hd : σ.us d = false) : φ (σ.nx + d, j) = none := by
  apply Classical.byContradiction
  intro hne
  rcases h.ids _ hne with h0 | ⟨e, he, h0⟩
  · simp at h0; omega
  · simp at h0
    subst h0
    rw [hd] at he; cases he

/-- Between two regions the names are told anew. -/
theorem RelX.next (h : RelX C φ F0 F1 σ a w) (hus : ∀ d, σ.us d = true → d < C.nt) : RelX C φ F0 F1 { σ with us := fun _ => false, nx := σ.nx + C.nt } a w := by
  refine ⟨h.size, h.defs, h.frame, h.heap, h.inj, h.apart, h.sub, h.ini, h.new1, h.lt0, h.os, h.tape, h.output, h.big, h.kept, h.k0lt, h.gbig, h.glob, fun i hi => ?_⟩
  left
  rcases h.ids i hi with h0 | ⟨d, hd, h0⟩
  · simp; omega
  · have := hus d hd
    simp; omega

/-- Less is known. -/
structure St.le (σ τ : St) : Prop where
  fr : ∀ t p, τ.fr t = some p → σ.fr t = some p
  H : ∀ i b, τ.H i = some b → σ.H i = some b
  us : ∀ d, σ.us d = true → τ.us d = true
  nx : σ.nx = τ.nx

theorem RelX.weaken {τ : St} (h : RelX C φ F0 F1 σ a w) (hl : St.le σ τ) : RelX C φ F0 F1 τ a w := by
  have hH : ∀ i, τ.H i ≠ none → σ.H i ≠ none := by
    intro i hi
    obtain ⟨b, hb⟩ := Option.ne_none_iff_exists'.1 hi
    rw [hl.H i b hb]; simp
  exact ⟨h.size, h.defs, fun t p hp => h.frame t p (hl.fr t p hp), fun i b hb => h.heap i b (hl.H i b hb), fun i j u v g hi hj => h.inj i j u v g (hH i hi) (hH j hj),
    fun i u g hi => h.apart i u g (hH i hi), h.sub, h.ini, h.new1, h.lt0, h.os, h.tape, h.output, h.big, h.kept, h.k0lt, h.gbig, h.glob, fun i hi => by
      rw [← hl.nx]
      exact (h.ids i hi).imp id fun ⟨d, hd, e⟩ => ⟨d, hl.us d hd, e⟩⟩
end
end Go.Vm
