/-
  Abstract states over the model's worlds, and that a step of them is a step of the program: part VmAK of a framework. Conditions: each theorem's own premises. By an AI agent.
-/
import Derived.Test.YtcdbbiognijleaaGreatVmAJ
section
namespace Go.Vm
open Go Go.RowKit
set_option linter.unusedVariables false
set_option linter.unusedSimpArgs false

/-! ### Ranges over functions: the loop's side -/
def putFr (fr : Nat → Option PV) : List (Tmp × PV) → Nat → Option PV
  | [] => fr
  | (t, p) :: l => putFr (upd fr t (some p)) l

def JumpOk (Q : Post) (c : Code) (τ : St) : Prop := (c = .ret ∧ Q .ret τ) ∨ ∃ id, c = .exit id ∧ Q (.exit id) τ

/-- The loop's state, as it is told in a round. -/
structure RenG (τ ρ : St) (G : Id → Id → Prop) : Prop where
  g1 : ∀ i i' j, G i j → G i' j → i = i'
  g2 : ∀ i j j', G i j → G i j' → j = j'
  g0 : ∀ i j, G i j → j.1 = 0
  gy : ∀ i, G i yid → i = yid
  fr : ∀ t p', ρ.fr t = some p' → ∃ p, τ.fr t = some p ∧ ConvV τ.H (fun _ => False) G p p'
  H : ∀ j b', ρ.H j = some b' → ∃ i b, G i j ∧ τ.H i = some b ∧ ConvB τ.H (fun _ => False) G b b'
  gh : ∀ t p', ρ.gh t = some p' → ∃ p, τ.gh t = some p ∧ ConvV τ.H (fun _ => False) G p p'
  nx : 1 ≤ ρ.nx
/-- Behind a round: the loop's state again. -/
structure BackG (τ : St) (G : Id → Id → Prop) (σ υ : St) (G' : Id → Id → Prop) : Prop where
  g1 : ∀ i i' j, G' i j → G' i' j → i = i'
  g2 : ∀ i j j', G' i j → G' i j' → j = j'
  src : ∀ i j, G' i j → (i.1 = 0 ∧ G j i) ∨ j.1 = τ.nx
  lt : ∀ i j, G' i j → j.1 ≤ τ.nx
  H : ∀ j b', υ.H j = some b' → ∃ i b, G' i j ∧ σ.H i = some b ∧ ConvB σ.H (fun _ => False) G' b b'
  gh : ∀ t p', υ.gh t = some p' → ∃ p, σ.gh t = some p ∧ ConvV σ.H (fun _ => False) G' p p'
  fr : υ.fr = τ.fr
  us : υ.us = fun _ => false
  nx : υ.nx = τ.nx + 1
def roundQ (τ : St) (G : Id → Id → Prop) (Q : Post) (N : St → Prop) : Post
  | .normal, σ => ∃ υ G', BackG τ G σ υ G' ∧ N υ
  | .ret, σ => ∃ υ G', BackG τ G σ υ G' ∧ Q .ret υ
  | .exit id, σ => ∃ υ G', BackG τ G σ υ G' ∧ Q (.exit id) υ
  | _, _ => False
def CoreEq (C' C : Ctx) : Prop := C'.toCore = C.toCore ∧ C'.pr = C.pr ∧ C'.φi yid = C.φi yid

section
variable {C : Ctx} {φ : Id → Option Value} {F0 F1 : Nat → Prop} {σ τ : St} {a : Act} {w w' : World} {l r : Nat} {Y Z : Nat → Prop} {W W' : World}

def Own (φ : Id → Option Value) (τ : St) (g : Nat) : Prop := ∃ i u, τ.H i ≠ none ∧ φ i = some u ∧ blkOf u = some g

theorem putAll : ∀ (ps : List Tmp) (x : List PV) (vs : List Value) (σ : St) (a : Act), RelX C φ F0 F1 σ a w → (∀ t ∈ ps, t < C.nt) → repVs φ w (Fs F0 F1) x vs →
    RelX C φ F0 F1 { σ with fr := putFr σ.fr (ps.zip x) } { a with tmps := (ps.zip vs).foldl (fun t (p : Tmp × Value) => t.setIfInBounds p.1 p.2) a.tmps } w
  | [], x, vs, σ, a, h, _, _ => by simpa [putFr] using h
  | t :: ps, [], vs, σ, a, h, _, hr => by
    simp only [repVs] at hr
    subst hr
    simpa [putFr] using h
  | t :: ps, p :: x, vs, σ, a, h, hp, hr => by
    simp only [repVs] at hr
    obtain ⟨v, vs', rfl, hv, hr⟩ := hr
    have h1 := h.put (hp t (by simp)) hv
    have := putAll ps x vs' _ _ h1 (fun q hq => hp q (by simp [hq])) hr
    simpa [putFr, Act.put] using this

theorem zip_fold (ps : Array Tmp) (x : Array Value) (t : Array Value) : (ps.zip x).foldl (fun tmps (p : Tmp × Value) => match p with | (t, a) => tmps.setIfInBounds t a) t = (ps.toList.zip x.toList).foldl (fun t (p : Tmp × Value) => t.setIfInBounds p.1 p.2) t := by
  rw [← Array.foldl_toList]
  simp

/-- What the loop's side holds between two rounds. -/
structure HeldG (C₁ : Ctx) (a : Act) (l r : Nat) (w1 : World) (hd F : Nat → Prop) (C' : Ctx) (φ : Id → Option Value) (F0 F1 : Nat → Prop) (τ : St) (Y Z : Nat → Prop) (W : World) : Prop where
  later : Later C₁ C'
  rel : RelX C' φ F0 F1 τ a W
  df : C'.df = C₁.df
  own : ∀ g, Own φ τ g → Y g
  f1 : ∀ g, F1 g → (hd g ∨ w1.heap.size ≤ g) → Y g ∨ Z g
  eb : ∀ g, C'.Eb g → Y g
  y : ∀ g, Y g → g < W.heap.size ∧ ¬ hd g ∧ C₁.gb ≤ g ∧ ¬ Z g ∧ ¬ F g ∧ g ≠ l ∧ g ≠ r
  z : ∀ g, Z g → F1 g ∧ (hd g ∨ w1.heap.size ≤ g)
  kk : ∀ g, C'.K0 g → (hd g ∨ w1.heap.size ≤ g) → Y g ∨ Z g
  ky : ∀ g, C'.K0 g → Y g → F1 g ∨ C'.Eb g
  fF : ∀ g, F g → F0 g
  kl : ¬ C'.K0 l
  kr : ¬ C'.K0 r
  fl : ¬ F0 l
  fr : ¬ F0 r
  big : w1.heap.size ≤ W.heap.size

/-- What is fixed of a loop. -/
structure LoopG (C₁ : Ctx) (l r : Nat) (w1 : World) (hd F : Nat → Prop) : Prop where
  ll : l < w1.heap.size
  rr : r < w1.heap.size
  lr : l ≠ r
  hl : ¬ hd l
  hr : ¬ hd r
  fl : ¬ F l
  fr : ¬ F r
  gl : C₁.gb ≤ l
  gr : C₁.gb ≤ r
  hg : ∀ g, hd g → C₁.gb ≤ g
  hlt : ∀ g, hd g → g < w1.heap.size
  flt : ∀ g, F g → g < w1.heap.size
  gb1 : C₁.gb ≤ w1.heap.size
  lw : C₁.w0.heap.size ≤ l

variable {C₁ C' : Ctx} {w1 : World} {hd F : Nat → Prop}

theorem HeldG.turn (L : LoopG C₁ l r w1 hd F) (h : HeldG C₁ a l r w1 hd F C' φ F0 F1 τ Y Z W) (hT : Turned (fun g => (hd g ∨ w1.heap.size ≤ g) ∧ ¬ Y g ∧ ¬ Z g) W W') : HeldG C₁ a l r w1 hd F C' φ F0 F1 τ Y Z W' := by
  have egb : C'.gb = C₁.gb := core_gb h.later.core
  have hkS : ∀ g, C'.K0 g → ¬ ((hd g ∨ w1.heap.size ≤ g) ∧ ¬ Y g ∧ ¬ Z g) := fun g hg hs => (h.kk g hg hs.1).elim hs.2.1 hs.2.2
  have hnS : ∀ g, ((hd g ∨ w1.heap.size ≤ g) ∧ ¬ Y g ∧ ¬ Z g) → ¬ F0 g := fun g hs h0 => (h.rel.ini g h0).elim (fun h1 => hkS g (C'.fik g h1) hs) fun h1 => (h.f1 g h1 hs.1).elim hs.2.1 hs.2.2
  have := h.rel.re (C' := C') hT rfl h.rel.keep h.rel.ini (fun g hs hlt => ⟨hnS g hs, ?_, fun i u hi hu hg => hs.2.1 (h.own g ⟨i, u, hi, hu, hg⟩)⟩) (hT.os.trans h.rel.os) (hT.tape.trans h.rel.tape) (hT.output.trans h.rel.output) (Nat.le_trans h.rel.big hT.size)
    (fun g hg => (hT.heap g (Nat.lt_of_lt_of_le (h.rel.k0lt g hg) h.rel.big) (hkS g hg)).trans (h.rel.kept g hg)) h.rel.k0lt h.rel.gbig (fun i u g hi hu hg => (h.rel.apart i u g hi hu hg).2.1) h.rel.new1 τ.gh (fun t p hp => ?_)
  · have ed : ({ a with defers := C'.df } : Act) = a := by rw [← h.rel.defs]
    rw [ed] at this
    exact ⟨h.later, this, h.df, h.own, h.f1, h.eb, fun g hg => ⟨Nat.lt_of_lt_of_le (h.y g hg).1 hT.size, (h.y g hg).2⟩, h.z, h.kk, h.ky, h.fF, h.kl, h.kr, h.fl, h.fr, Nat.le_trans h.big hT.size⟩
  · rw [egb]
    rcases hs.1 with h1 | h1
    · exact L.hg g h1
    · exact Nat.le_trans L.gb1 h1
  · obtain ⟨x, hx, hr⟩ := h.rel.ghost t p hp
    exact ⟨x, hx, repV_mono (fun _ _ e => e) (fun t g hg => hT.heap g (h.rel.lt0 g (Fs_f0 h.rel.sub t g hg)) fun hs => hnS g hs (Fs_f0 h.rel.sub t g hg)) (fun _ _ e => e) p x hr⟩

/-- The context of a round. -/
def roundCtx (C : Ctx) (l : Nat) (K Fi Zr : Nat → Prop) (χ : Id → Option Value) (W : World) (p1 : ∀ g, Fi g → K g) (p2 : ∀ g, g < C.gb → K g) (p3 : ∀ g, Zr g → K g) (p4 : ∀ g, C.Eb g → K g) (p5 : ∀ g, Zr g → ¬ C.Eb g) (p6 : ∀ g, Fi g → ¬ C.Eb g)
    (p7 : ∀ T, C.pr = some T → PInv T C.ex C.Eb Zr K Fi W) : Ctx :=
  { toCore := C.toCore, w0 := W, K0 := K, Fi := Fi, φi := χ, ro := some l, df := [], ex := C.ex, fik := p1, gbk := p2, Zr := Zr, Eb := C.Eb, pr := C.pr, zrk := p3, ebk := p4, zeb := p5, fie := p6, geb := C.geb, jok := p7 }

/-- A context in a world where a block that is not watched has turned. -/
theorem RelX.rebase (h : RelX C φ F0 F1 σ a w) {l : Nat} (hk : C.K0 l) (hlg : C.gb ≤ l) (hF : ¬ F0 l) (o : Obj) (hp : ∀ T, C.pr = some T → PInv T C.ex C.Eb C.Zr C.K0 C.Fi (w.putObj l o)) : RelX { C with w0 := w.putObj l o, jok := hp } φ F0 F1 σ a (w.putObj l o) := by
  have hT : Turned (fun g => g = l) w (w.putObj l o) := ⟨rfl, rfl, rfl, by simp, fun g _ hg => World.putObj_heap_other hg⟩
  have := h.re (C' := { C with w0 := w.putObj l o, jok := hp }) hT rfl h.keep h.ini (fun g hs _ => ?_) rfl rfl rfl (Nat.le_refl _) (fun _ _ => rfl) (fun g hg => ?_) ?_ (fun i u g hi hu hg => (h.apart i u g hi hu hg).2.1) h.new1 σ.gh (fun t p hp => ?_)
  · have ed : ({ a with defers := C.df } : Act) = a := by rw [← h.defs]
    have this : RelX { C with w0 := w.putObj l o, jok := hp } φ F0 F1 { σ with gh := σ.gh } { a with defers := C.df } (w.putObj l o) := this
    rw [ed] at this
    exact this
  · subst hs
    exact ⟨hF, hlg, fun i u hi hu hg => (h.apart i u _ hi hu hg).2.1 hk⟩
  · have := h.k0lt g hg; have := h.big
    simp only [World.putObj_size]; omega
  · have := h.gbig; have := h.big
    simp only [World.putObj_size]; omega
  · obtain ⟨x, hx, hr⟩ := h.ghost t p hp
    exact ⟨x, hx, repV_mono (fun _ _ e => e) (fun t g hg => World.putObj_heap_other (by rintro rfl; exact hF (Fs_f0 h.sub t _ hg))) (fun _ _ e => e) p x hr⟩

/-- At the head of a round. -/
theorem HeldG.start (L : LoopG C₁ l r w1 hd F) (h : HeldG C₁ a l r w1 hd F C' φ F0 F1 τ Y Z W) {Z' : Nat → Prop} (hZ1 : ∀ g, Z g → Z' g) (hZ2 : ∀ g, Z' g → Z g ∨ ((hd g ∨ w1.heap.size ≤ g) ∧ g < W.heap.size ∧ ¬ Y g))
    {ps : List Tmp} {x : List PV} {vs : List Value} (hps : ∀ p ∈ ps, p < C'.nt) (hx : repVs (fun _ => none) W (Fs (fun g => F g ∨ Z' g) Z') x vs) {G : Id → Id → Prop} {ρ : St} (hG : RenG τ ρ G) :
    ∃ (χ : Id → Option Value) (p1 : ∀ g, (F0 g ∨ Z' g) → g < W.heap.size ∧ (Y g → F1 g ∨ C'.Eb g)) (p2 : ∀ g, g < C'.gb → g < W.heap.size ∧ (Y g → F1 g ∨ C'.Eb g)) (p3 : ∀ g, ((F1 g ∨ Z' g) ∨ C'.Zr g) → g < W.heap.size ∧ (Y g → F1 g ∨ C'.Eb g)) (p4 : ∀ g, C'.Eb g → g < W.heap.size ∧ (Y g → F1 g ∨ C'.Eb g))
      (p5 : ∀ g, ((F1 g ∨ Z' g) ∨ C'.Zr g) → ¬ C'.Eb g) (p6 : ∀ g, (F0 g ∨ Z' g) → ¬ C'.Eb g) (p7 : ∀ T, C'.pr = some T → PInv T C'.ex C'.Eb (fun g => (F1 g ∨ Z' g) ∨ C'.Zr g) (fun g => g < W.heap.size ∧ (Y g → F1 g ∨ C'.Eb g)) (fun g => F0 g ∨ Z' g) W) (φ2 : Id → Option Value),
      RelX (roundCtx C' l (fun g => g < W.heap.size ∧ (Y g → F1 g ∨ C'.Eb g)) (fun g => F0 g ∨ Z' g) (fun g => (F1 g ∨ Z' g) ∨ C'.Zr g) χ W p1 p2 p3 p4 p5 p6 p7) φ2 (fun g => F0 g ∨ Z' g) (fun g => F1 g ∨ Z' g) { ρ with fr := putFr ρ.fr (ps.zip x) }
        { tmps := (ps.zip vs).foldl (fun t (p : Tmp × Value) => t.setIfInBounds p.1 p.2) a.tmps, defers := [] } W ∧ χ yid = C'.φi yid ∧ (∀ j u, φ2 j = some u ↔ ∃ i, G i j ∧ φ i = some u) ∧ ∀ j, j ≠ yid → χ j = φ2 j := by
  have egb : C'.gb = C₁.gb := core_gb h.later.core
  have hZF : ∀ g, Z' g → F1 g ∨ ((hd g ∨ w1.heap.size ≤ g) ∧ g < W.heap.size ∧ ¬ Y g ∧ ¬ C'.K0 g) := by
    intro g hg
    rcases hZ2 g hg with h1 | ⟨h1, h2, h3⟩
    · exact .inl (h.z g h1).1
    · by_cases hk : C'.K0 g
      · exact .inl ((h.kk g hk h1).elim (fun h4 => absurd h4 h3) fun h4 => (h.z g h4).1)
      · exact .inr ⟨h1, h2, h3, hk⟩
  have hown : ∀ i u g, τ.H i ≠ none → φ i = some u → blkOf u = some g → ¬ Z' g := by
    intro i u g hi hu hg hz
    rcases hZF g hz with h1 | h1
    · exact (h.rel.apart i u g hi hu hg).1 (h.rel.sub g h1)
    · exact h1.2.2.1 (h.own g ⟨i, u, hi, hu, hg⟩)
  have R1 := h.rel.addF Z' (fun g hg => (hZF g hg).elim (fun h1 => h.rel.lt0 g (h.rel.sub g h1)) fun h1 => h1.2.1) (fun g hg hk => (hZF g hg).elim (fun h1 => h.rel.new1 g h1 hk) fun h1 => absurd hk h1.2.2.2) hown
  -- names
  obtain ⟨φ2', hφ2'⟩ := exists_names G hG.g1 φ
  let χ : Id → Option Value := fun j => open Classical in if j = yid then C'.φi yid else φ2' j
  have hχ : ∀ i j u, G i j → j.1 = 0 → φ i = some u → χ j = some u := by
    intro i j u hg _ hu
    simp only [χ]
    split
    · rename_i e
      subst e
      have := hG.gy i hg
      subst this
      exact h.rel.keep _ u hu
    · exact (hφ2' j u).2 ⟨i, hg, hu⟩
  obtain ⟨φ2, R2, _, hφ2⟩ := R1.convX (τ := ρ) (fun _ => False) G hG.g1 hG.g2 hG.fr hG.gh (fun j b' hj => by
    obtain ⟨i, b, h1, h2, h3⟩ := hG.H j b' hj
    exact ⟨i, b, h1, fun h => h, h2, h3⟩) (fun i j hg => .inl (by have := hG.g0 i j hg; have := hG.nx; omega)) hG.nx χ hχ
  have e2 : φ2 = φ2' := by
    funext j
    cases e : φ2' j with
    | some u => exact (hφ2 j u).2 ((hφ2' j u).1 e)
    | none =>
      cases e' : φ2 j with
      | none => rfl
      | some u =>
        have := (hφ2' j u).2 ((hφ2 j u).1 e')
        rw [e] at this; cases this
  have ef0 : (fun g => (F0 g ∨ Z' g) ∨ Frozen φ τ (fun _ => False) g) = fun g => F0 g ∨ Z' g := by
    funext g
    exact propext ⟨fun h => h.elim id fun ⟨_, _, hf, _⟩ => hf.elim, .inl⟩
  have ef1 : (fun g => (F1 g ∨ Z' g) ∨ Frozen φ τ (fun _ => False) g) = fun g => F1 g ∨ Z' g := by
    funext g
    exact propext ⟨fun h => h.elim id fun ⟨_, _, hf, _⟩ => hf.elim, .inl⟩
  rw [ef0, ef1] at R2
  have hb := h.rel.big
  have hkY : ∀ g, C'.K0 g → g < W.heap.size ∧ (Y g → F1 g ∨ C'.Eb g) := fun g hg => ⟨Nat.lt_of_lt_of_le (h.rel.k0lt g hg) hb, h.ky g hg⟩
  have hF1Y : ∀ g, F1 g ∨ Z' g → g < W.heap.size ∧ (Y g → F1 g ∨ C'.Eb g) := fun g hg => ⟨R1.lt0 g (R1.sub g hg), fun hy => .inl (hg.elim id fun hz => (hZF g hz).elim id fun h1 => absurd hy h1.2.2.1)⟩
  have p1 : ∀ g, (F0 g ∨ Z' g) → g < W.heap.size ∧ (Y g → F1 g ∨ C'.Eb g) := fun g hg => (R1.ini g hg).elim (fun h1 => hkY g (C'.fik g h1)) (hF1Y g)
  have p3 : ∀ g, ((F1 g ∨ Z' g) ∨ C'.Zr g) → g < W.heap.size ∧ (Y g → F1 g ∨ C'.Eb g) := fun g hg => hg.elim (hF1Y g) fun h1 => hkY g (C'.zrk g h1)
  have p5 : ∀ g, ((F1 g ∨ Z' g) ∨ C'.Zr g) → ¬ C'.Eb g := fun g hg => hg.elim (fun h1 => F1_eb R1 h1) (C'.zeb g)
  have p7 : ∀ T, C'.pr = some T → PInv T C'.ex C'.Eb (fun g => (F1 g ∨ Z' g) ∨ C'.Zr g) (fun g => g < W.heap.size ∧ (Y g → F1 g ∨ C'.Eb g)) (fun g => F0 g ∨ Z' g) W := by
    intro T hT
    have hi := R1.pinv hT
    obtain ⟨o, Yo, Zo, q1, q2, q3, q4⟩ := hi.at_
    refine ⟨fun g h1 h2 => hkY g (hi.low g h1 h2), fun g hg => hg.elim (fun h1 => ?_) (hi.zn g), fun g hg => (R1.ini g hg).elim (fun h1 => (hi.fz g h1).imp id .inr) fun h1 => .inr (.inl h1), hi.size, hi.os, hi.tape, hi.output, hi.lE, o, Yo, Zo, q1, q2, fun g hg => .inr (q3 g hg), q4⟩
    apply Classical.byContradiction
    intro hn
    have hn' := hn
    simp only [not_or, Nat.not_le] at hn
    exact hn' (hi.zn g (R1.new1 g h1 (hi.low g hn.2 hn.1)))
  refine ⟨χ, p1, fun g hg => hkY g (C'.gbk g hg), p3, fun g hg => hkY g (C'.ebk g hg), p5, fun g hg => F0_eb R1 hg, p7, φ2, ?_, by simp [χ], hφ2, fun j hj => by simp only [χ, if_neg hj, e2]⟩
  have R3 := R2.re (C' := roundCtx C' l (fun g => g < W.heap.size ∧ (Y g → F1 g ∨ C'.Eb g)) (fun g => F0 g ∨ Z' g) (fun g => (F1 g ∨ Z' g) ∨ C'.Zr g) χ W p1 (fun g hg => hkY g (C'.gbk g hg)) p3 (fun g hg => hkY g (C'.ebk g hg)) p5 (fun g hg => F0_eb R1 hg) p7)
    (Turned.refl (fun _ => False) W) rfl R2.keep (fun g hg => .inl hg) (fun g hs _ => hs.elim) rfl rfl rfl (Nat.le_refl _) (fun _ _ => rfl) (fun g hg => hg.1) (Nat.le_trans h.rel.gbig hb) (fun i u g hi hu hg hk => ?_) (fun g hg _ => .inl hg) ρ.gh (fun t p hp => R2.ghost t p hp)
  · have R4 := putAll ps x vs _ _ R3 hps (repVs_mono (fun _ _ e => by cases e) (fun _ _ _ => rfl) (fun t g hg => by
      cases t
      · exact hg.imp (h.fF g) id
      · exact .inr hg) _ _ hx)
    exact R4
  · obtain ⟨h1, h2, h3⟩ := R2.apart i u g hi hu hg
    obtain ⟨b', hb'⟩ := Option.ne_none_iff_exists'.1 hi
    obtain ⟨i0, b0, g1, g2, _⟩ := hG.H i b' hb'
    obtain ⟨i1, g3, g4⟩ := (hφ2 i u).1 hu
    have := hG.g1 _ _ _ g1 g3
    subst this
    have hY : Y g := h.own g ⟨i0, u, by rw [g2]; simp, g4, hg⟩
    exact (hk.2 hY).elim (fun h4 => h1 (.inl (h.rel.sub g h4))) fun h4 => h2 (C'.ebk g h4)

/-- Behind a round. -/
theorem HeldG.behind (L : LoopG C₁ l r w1 hd F) (h : HeldG C₁ a l r w1 hd F C' φ F0 F1 τ Y Z W) (hus : τ.us = fun _ => false) {Z' : Nat → Prop} (hZ1 : ∀ g, Z g → Z' g) (hZ2 : ∀ g, Z' g → Z g ∨ ((hd g ∨ w1.heap.size ≤ g) ∧ g < W.heap.size ∧ ¬ Y g))
    {G : Id → Id → Prop} {ρ : St} (hG : RenG τ ρ G) {χ φ2 : Id → Option Value} (hχ : ∀ j, j ≠ yid → χ j = φ2 j) (hχy : χ yid = C'.φi yid) (hφ2 : ∀ j u, φ2 j = some u ↔ ∃ i, G i j ∧ φ i = some u)
    {R₄ : Ctx} {φ3 : Id → Option Value} {F03 F13 : Nat → Prop} {σ3 : St} {a3 : Act} {w3 : World} (R : RelX R₄ φ3 F03 F13 σ3 a3 w3) (e1 : R₄.toCore = C'.toCore) (e2 : R₄.pr = C'.pr) (e3 : ∀ g, R₄.Fi g → F0 g ∨ Z' g) (e4 : R₄.φi = χ)
    (k1 : ∀ g, (g < W.heap.size ∧ (Y g → F1 g ∨ C'.Eb g)) → R₄.K0 g) (k2 : ∀ g, (g < W.heap.size ∧ (Y g → F1 g ∨ C'.Eb g)) → ¬ C'.Eb g → ¬ R₄.Eb g ∧ (g ≠ l → w3.heap[g]? = W.heap[g]?)) (k3 : ∀ g, C'.Eb g → R₄.Eb g)
    (k4 : ∀ g, ((F1 g ∨ Z' g) ∨ C'.Zr g) → R₄.Zr g) (k5 : ∀ g, R₄.Zr g → (g < W.heap.size ∧ (Y g → F1 g ∨ C'.Eb g)) → (F1 g ∨ Z' g) ∨ C'.Zr g)
    (k6 : W.heap.size ≤ w3.heap.size) (kos : w3.os = W.os) (ktp : w3.tape = W.tape) (kout : w3.output = W.output) {υ : St} {G' : Id → Id → Prop} (hB : BackG τ G σ3 υ G') (o : Obj) :
    ∃ (C'' : Ctx) (φ' : Id → Option Value) (F0' F1' Y' : Nat → Prop), (∀ g, Y' g → Y g ∨ W.heap.size ≤ g) ∧ HeldG C₁ a l r w1 hd F C'' φ' F0' F1' υ Y' Z' (w3.putObj l o) ∧ Turned (fun g => Y g ∨ g = l) W (w3.putObj l o) := by
  have egb : C'.gb = C₁.gb := core_gb h.later.core
  have hb := h.rel.big
  have hkK : ∀ g, C'.K0 g → g < W.heap.size ∧ (Y g → F1 g ∨ C'.Eb g) := fun g hg => ⟨Nat.lt_of_lt_of_le (h.rel.k0lt g hg) hb, h.ky g hg⟩
  have hf1K : ∀ g, F1 g → g < W.heap.size ∧ (Y g → F1 g ∨ C'.Eb g) := fun g hg => ⟨h.rel.lt0 g (h.rel.sub g hg), fun _ => .inl hg⟩
  have hf0K : ∀ g, F0 g → g < W.heap.size ∧ (Y g → F1 g ∨ C'.Eb g) := fun g hg => (h.rel.ini g hg).elim (fun h1 => hkK g (C'.fik g h1)) (hf1K g)
  have hlW : l < W.heap.size := Nat.lt_of_lt_of_le L.ll h.big
  have hrW : r < W.heap.size := Nat.lt_of_lt_of_le L.rr h.big
  have hlY : ¬ Y l := fun hy => (h.y l hy).2.2.2.2.2.1 rfl
  have hrY : ¬ Y r := fun hy => (h.y r hy).2.2.2.2.2.2 rfl
  have hlK : l < W.heap.size ∧ (Y l → F1 l ∨ C'.Eb l) := ⟨hlW, fun hy => absurd hy hlY⟩
  have hrK : r < W.heap.size ∧ (Y r → F1 r ∨ C'.Eb r) := ⟨hrW, fun hy => absurd hy hrY⟩
  have hZlow : ∀ g, Z' g → hd g ∨ w1.heap.size ≤ g := fun g hg => (hZ2 g hg).elim (fun h1 => (h.z g h1).2) fun h1 => h1.1
  have hZY : ∀ g, Z' g → ¬ Y g := fun g hg hy => (hZ2 g hg).elim (fun h1 => (h.y g hy).2.2.2.1 h1) fun h1 => h1.2.2 hy
  have hZl : ¬ Z' l := fun hz => (hZlow l hz).elim L.hl fun h1 => by have := L.ll; omega
  have hZr : ¬ Z' r := fun hz => (hZlow r hz).elim L.hr fun h1 => by have := L.rr; omega
  have hEl : ¬ R₄.Eb l := (k2 l hlK fun he => h.kl (C'.ebk l he)).1
  have hEr : ¬ R₄.Eb r := (k2 r hrK fun he => h.kr (C'.ebk r he)).1
  have hRZl : ¬ R₄.Zr l := fun hz => (k5 l hz hlK).elim (fun h1 => h1.elim (fun h2 => h.fl (h.rel.sub l h2)) hZl) fun h1 => h.kl (C'.zrk l h1)
  have hRZr : ¬ R₄.Zr r := fun hz => (k5 r hz hrK).elim (fun h1 => h1.elim (fun h2 => h.fr (h.rel.sub r h2)) hZr) fun h1 => h.kr (C'.zrk r h1)
  have hF13l : ¬ F13 l := fun hf => hRZl (R.new1 l hf (k1 l hlK))
  have hF13r : ¬ F13 r := fun hf => hRZr (R.new1 r hf (k1 r hrK))
  have hF03l : ¬ F03 l := fun hf => (R.ini l hf).elim (fun h1 => (e3 l h1).elim h.fl hZl) hF13l
  have hF03r : ¬ F03 r := fun hf => (R.ini r hf).elim (fun h1 => (e3 r h1).elim h.fr hZr) hF13r
  have hput : ∀ g, g ≠ l → (w3.putObj l o).heap[g]? = w3.heap[g]? := fun g hg => World.putObj_heap_other hg
  have hw4 : ∀ g, (g < W.heap.size ∧ (Y g → F1 g ∨ C'.Eb g)) → ¬ C'.Eb g → g ≠ l → (w3.putObj l o).heap[g]? = W.heap[g]? := fun g hg he hl => (hput g hl).trans ((k2 g hg he).2 hl)
  have hzlt : ∀ g, R₄.Zr g → g < w3.heap.size := fun g hg => Nat.lt_of_lt_of_le (R.k0lt g (R₄.zrk g hg)) R.big
  have helt : ∀ g, R₄.Eb g → g < w3.heap.size := fun g hg => Nat.lt_of_lt_of_le (R.k0lt g (R₄.ebk g hg)) R.big
  -- names
  obtain ⟨φ4', hφ4'⟩ := exists_names G' hB.g1 φ3
  obtain ⟨φ4, R4, _, hφ4⟩ := R.convX (τ := ⟨fun _ => none, υ.H, fun _ => false, τ.nx + 1, υ.gh⟩) (fun _ => False) G' hB.g1 hB.g2 (fun t p' hp => by cases hp) hB.gh (fun j b' hj => by
    obtain ⟨i, b, h1, h2, h3⟩ := hB.H j b' hj
    exact ⟨i, b, h1, fun h => h, h2, h3⟩) (fun i j hg => .inl (by have := hB.lt i j hg; show j.1 < τ.nx + 1; omega)) (by show 1 ≤ τ.nx + 1; omega) φ4' (fun i j u hg _ hu => (hφ4' j u).2 ⟨i, hg, hu⟩)
  have hφn : ∀ j, φ j ≠ none → j.1 < τ.nx := by
    intro j hj
    rcases h.rel.ids j hj with h1 | ⟨d, hd, _⟩
    · exact h1
    · rw [hus] at hd; cases hd
  have hcons : ∀ j u, φ4 j = some u → (φ j = none ∨ φ j = some u) ∧ (j.1 = 0 → C'.φi j = some u) := by
    intro j u hu
    obtain ⟨i, hg, hi⟩ := (hφ4 j u).1 hu
    rcases hB.src i j hg with ⟨hi0, hgj⟩ | hj
    · obtain ⟨i1, i2⟩ := i
      simp only at hi0
      subst hi0
      have hk := R.keep i2 u hi
      rw [e4] at hk
      by_cases hy : ((0, i2) : Id) = yid
      · rw [hy] at hk hgj
        have := hG.gy j hgj
        subst this
        rw [hχy] at hk
        refine ⟨?_, fun _ => hk⟩
        cases e : φ yid with
        | none => exact .inl rfl
        | some v =>
          have := h.rel.keep _ v e
          exact .inr (by rw [← hk]; exact this.symm)
      · rw [hχ _ hy] at hk
        obtain ⟨i', hg', hu'⟩ := (hφ2 _ u).1 hk
        have := hG.g1 _ _ _ hg' hgj
        subst this
        refine ⟨.inr hu', fun h0 => ?_⟩
        obtain ⟨j1, j2⟩ := i'
        simp only at h0
        subst h0
        exact h.rel.keep j2 u hu'
    · refine ⟨.inl ?_, fun h0 => ?_⟩
      · apply Classical.byContradiction
        intro hne
        have := hφn j hne
        omega
      · have := h.rel.nx1
        omega
  let φ'' : Id → Option Value := fun i => match φ i with
    | some u => some u
    | none => φ4 i
  have hφa : ∀ i u, φ i = some u → φ'' i = some u := by
    intro i u hu
    simp only [φ'', hu]
  have hφb : ∀ i u, φ4 i = some u → φ'' i = some u := by
    intro i u hu
    rcases (hcons i u hu).1 with h1 | h1
    · simp only [φ'', h1, hu]
    · exact hφa i u h1
  have hφc : ∀ i u, φ'' i = some u → φ i = some u ∨ (φ i = none ∧ φ4 i = some u) := by
    intro i u hu
    simp only [φ''] at hu
    cases e : φ i with
    | some v => rw [e] at hu; exact .inl hu
    | none => rw [e] at hu; exact .inr ⟨rfl, hu⟩
  have hval : ∀ i u, υ.H i ≠ none → φ'' i = some u → φ4 i = some u := by
    intro i u hi hu
    obtain ⟨b, hb'⟩ := Option.ne_none_iff_exists'.1 hi
    have hh := R4.heap i b hb'
    have hex : ∃ u', φ4 i = some u' := by
      cases b with
      | box ty cells => obtain ⟨g, vs, hp, _⟩ := hh; exact ⟨_, hp⟩
      | arr ty size n cells => obtain ⟨v, vs, hp, _⟩ := hh; exact ⟨_, hp⟩
      | mp ty es => obtain ⟨g, ents, clock, hp, _⟩ := hh; exact ⟨_, hp⟩
    obtain ⟨u', hu'⟩ := hex
    rw [hφb i u' hu'] at hu
    rw [hu', hu]
  have hown : ∀ i u g, υ.H i ≠ none → φ'' i = some u → blkOf u = some g → ¬ F03 g ∧ ¬ R₄.K0 g ∧ C₁.gb ≤ g ∧ g < w3.heap.size := by
    intro i u g hi hu hg
    obtain ⟨b, hb'⟩ := Option.ne_none_iff_exists'.1 hi
    obtain ⟨h1, h2, h3⟩ := R4.apart i u g hi (hval i u hi hu) hg
    refine ⟨fun hf => h1 (.inl hf), h2, ?_, holds_lt (R4.heap i b hb') (hval i u hi hu) hg⟩
    rw [← egb, ← core_gb e1]; exact h3
  let K0'' : Nat → Prop := fun g => g < w3.heap.size ∧ (C'.K0 g ∨ R₄.Eb g ∨ R₄.Zr g)
  have hK : ∀ g, K0'' g → R₄.K0 g := by
    rintro g ⟨_, hg | hg | hg⟩
    · exact k1 g (hkK g hg)
    · exact R₄.ebk g hg
    · exact R₄.zrk g hg
  let C'' : Ctx := { C' with
      w0 := w3.putObj l o
      K0 := K0''
      Zr := R₄.Zr
      Eb := R₄.Eb
      ex := R₄.ex
      fik := fun g hg => ⟨Nat.lt_of_lt_of_le (hkK g (C'.fik g hg)).1 k6, .inl (C'.fik g hg)⟩
      gbk := fun g hg => ⟨Nat.lt_of_lt_of_le (hkK g (C'.gbk g hg)).1 k6, .inl (C'.gbk g hg)⟩
      zrk := fun g hg => ⟨hzlt g hg, .inr (.inr hg)⟩
      ebk := fun g hg => ⟨helt g hg, .inr (.inl hg)⟩
      zeb := R₄.zeb
      fie := fun g hg => (k2 g (hkK g (C'.fik g hg)) (C'.fie g hg)).1
      geb := fun g hg => R₄.geb g (by rw [core_gb e1]; exact hg)
      jok := fun T hT => by
          have hi := R.pinv (e2.trans hT)
          have h0 := C'.jok T hT
          have h1 := C₁.jok T (h.later.pr ▸ hT)
          have hi2 := hi.turnW (w1 := w3.putObj l o) (S := fun g => g = l) ⟨rfl, rfl, rfl, by simp, fun g _ hg => hput g hg⟩ (fun g _ hg => by
            subst hg
            exact ⟨.inr (Nat.le_trans h1.size L.lw), hEl, hRZl⟩)
          exact ⟨fun g g1 g2 => ⟨Nat.lt_of_lt_of_le (hkK g (h0.low g g1 g2)).1 k6, .inl (h0.low g g1 g2)⟩, hi2.zn, fun g hg => (h0.fz g hg).imp id fun hz => k4 g (.inr hz), hi2.size, hi2.os, hi2.tape, hi2.output, hi2.lE, hi2.at_⟩ }
  have hF0w : ∀ t g, Fs F0 F1 t g → (w3.putObj l o).heap[g]? = W.heap[g]? := by
    intro t g hg
    have h0 := Fs_f0 h.rel.sub t g hg
    exact hw4 g (hf0K g h0) (F0_eb h.rel h0) (by rintro rfl; exact h.fl h0)
  have hF4 : ∀ t g, Fs (fun g => F03 g ∨ Frozen φ3 σ3 (fun _ => False) g) (fun g => F13 g ∨ Frozen φ3 σ3 (fun _ => False) g) t g → Fs F03 F13 t g := by
    intro t g hg
    cases t <;> exact hg.elim id fun ⟨_, _, hf, _⟩ => hf.elim
  have hF4w : ∀ t g, Fs (fun g => F03 g ∨ Frozen φ3 σ3 (fun _ => False) g) (fun g => F13 g ∨ Frozen φ3 σ3 (fun _ => False) g) t g → (w3.putObj l o).heap[g]? = w3.heap[g]? := by
    intro t g hg
    refine hput g ?_
    rintro rfl
    exact hF03l (Fs_f0 R.sub t _ (hF4 t _ hg))
  have hFa : ∀ t g, Fs F0 F1 t g → Fs (fun g => (F03 g ∨ F0 g) ∨ R₄.Zr g) (fun g => F13 g ∨ R₄.Zr g) t g := by
    intro t g hg
    cases t
    · exact .inl (.inr hg)
    · exact .inr (k4 g (.inl (.inl hg)))
  have hFb : ∀ t g, Fs (fun g => F03 g ∨ Frozen φ3 σ3 (fun _ => False) g) (fun g => F13 g ∨ Frozen φ3 σ3 (fun _ => False) g) t g → Fs (fun g => (F03 g ∨ F0 g) ∨ R₄.Zr g) (fun g => F13 g ∨ R₄.Zr g) t g := by
    intro t g hg
    have := hF4 t g hg
    cases t
    · exact .inl (.inl this)
    · exact .inl this
  have hsz : (w3.putObj l o).heap.size = w3.heap.size := by simp
  have hrel : RelX C'' φ'' (fun g => (F03 g ∨ F0 g) ∨ R₄.Zr g) (fun g => F13 g ∨ R₄.Zr g) υ a (w3.putObj l o) := by
    refine ⟨h.rel.size, h.rel.defs, fun t p hp => ?_, fun i b hi => ?_, fun i j u v g hi hj hu hv hg hg' => R4.inj i j u v g hi hj (hval i u hi hu) (hval j v hj hv) hg hg', fun i u g hi hu hg => ?_, ?_, ?_, ?_, ?_, rfl, rfl, rfl, Nat.le_refl _, fun _ _ => rfl, fun g hg => ?_, ?_, fun g hg => ?_, fun j u hu => ?_, ?_, fun i hi => ?_, fun t p hp => ?_⟩
    · rw [hB.fr] at hp
      exact (h.rel.frame t p hp).imp fun x hx => ⟨hx.1, repV_mono hφa hF0w hFa p x hx.2⟩
    · have hh := R4.heap i b hi
      refine holds_mono hh hφb hFb hF4w fun u g hu hg => hput g ?_
      rintro rfl
      exact (hown i u _ (by rw [hi]; simp) (hφb i u hu) hg).2.1 (k1 _ hlK)
    · obtain ⟨h1, h2, h3, _⟩ := hown i u g hi hu hg
      refine ⟨?_, fun hk => h2 (hK g hk), ?_⟩
      · rintro ((h4 | h4) | h4)
        · exact h1 h4
        · exact h2 (k1 g (hf0K g h4))
        · exact h2 (R₄.zrk g h4)
      · show C'.gb ≤ g
        rw [egb]; exact h3
    · rintro g (hg | hg)
      · exact .inl (.inl (R.sub g hg))
      · exact .inr hg
    · rintro g ((hg | hg) | hg)
      · rcases R.ini g hg with h1 | h1
        · rcases e3 g h1 with h2 | h2
          · exact (h.rel.ini g h2).imp id fun h3 => .inr (k4 g (.inl (.inl h3)))
          · exact .inr (.inr (k4 g (.inl (.inr h2))))
        · exact .inr (.inl h1)
      · exact (h.rel.ini g hg).imp id fun h3 => .inr (k4 g (.inl (.inl h3)))
      · exact .inr (.inr hg)
    · rintro g (hg | hg) hk
      · exact R.new1 g hg (hK g hk)
      · exact hg
    · rintro g ((hg | hg) | hg)
      · rw [hsz]; exact R.lt0 g hg
      · rw [hsz]; exact Nat.lt_of_lt_of_le (h.rel.lt0 g hg) k6
      · rw [hsz]; exact hzlt g hg
    · show g < (w3.putObj l o).heap.size
      rw [hsz]; exact hg.1
    · show C'.gb ≤ (w3.putObj l o).heap.size
      rw [hsz]; have := h.rel.gbig; omega
    · have hg : g < C'.gb := hg
      have h1 : g < R₄.gb := by rw [core_gb e1]; exact hg
      refine (hput g (by have := L.gl; omega)).trans ((R.glob g h1).trans ?_)
      rw [core_gw e1]
    · rcases hφc _ u hu with h1 | ⟨_, h1⟩
      · exact h.rel.keep j u h1
      · exact (hcons _ u h1).2 rfl
    · rw [hB.nx]; omega
    · left
      rw [hB.nx]
      obtain ⟨u, hu⟩ := Option.ne_none_iff_exists'.1 hi
      rcases hφc i u hu with h1 | ⟨_, h1⟩
      · have := hφn i (by rw [h1]; simp)
        omega
      · obtain ⟨i', hg, _⟩ := (hφ4 i u).1 h1
        have := hB.lt i' i hg
        omega
    · obtain ⟨x, hx, hr⟩ := R4.ghost t p hp
      exact ⟨x, hx, repV_mono hφb hF4w hFb p x hr⟩
  have hRK : ∀ g, ¬ R₄.K0 g → Y g ∨ W.heap.size ≤ g := by
    intro g hg
    by_cases h1 : Y g
    · exact .inl h1
    · by_cases h2 : g < W.heap.size
      · exact absurd (k1 g ⟨h2, fun hy => absurd hy h1⟩) hg
      · exact .inr (by omega)
  have hZrY : ∀ g, R₄.Zr g → (hd g ∨ w1.heap.size ≤ g) → ¬ Z' g → Y g ∨ W.heap.size ≤ g := by
    intro g hz hlow hnz
    by_cases h1 : Y g
    · exact .inl h1
    · by_cases h2 : g < W.heap.size
      · rcases k5 g hz ⟨h2, fun hy => absurd hy h1⟩ with (h3 | h3) | h3
        · exact (h.f1 g h3 hlow).elim .inl fun h4 => absurd (hZ1 g h4) hnz
        · exact absurd h3 hnz
        · exact (h.kk g (C'.zrk g h3) hlow).elim .inl fun h4 => absurd (hZ1 g h4) hnz
      · exact .inr (by omega)
  have hEY : ∀ g, R₄.Eb g → Y g ∨ W.heap.size ≤ g := by
    intro g he
    by_cases h1 : Y g
    · exact .inl h1
    · by_cases h2 : g < W.heap.size
      · by_cases h3 : C'.Eb g
        · exact .inl (h.eb g h3)
        · exact absurd he (k2 g ⟨h2, fun hy => absurd hy h1⟩ h3).1
      · exact .inr (by omega)
  have hF13Y : ∀ g, F13 g → (hd g ∨ w1.heap.size ≤ g) → ¬ Z' g → Y g ∨ W.heap.size ≤ g := by
    intro g hf hlow hnz
    by_cases hk : R₄.K0 g
    · exact hZrY g (R.new1 g hf hk) hlow hnz
    · exact hRK g hk
  have hF1Y : ∀ g, (F13 g ∨ R₄.Zr g) → (hd g ∨ w1.heap.size ≤ g) → ¬ Z' g → Y g ∨ W.heap.size ≤ g := fun g hf => hf.elim (hF13Y g) (hZrY g)
  have hhdY : ∀ g, hd g → (Y g ∨ W.heap.size ≤ g) → False := by
    rintro g hg (h1 | h1)
    · exact (h.y g h1).2.1 hg
    · have := L.hlt g hg; have := h.big; omega
  have hlater : Later C' C'' := by
    refine ⟨rfl, rfl, rfl, rfl, rfl, ?_, kos.trans h.rel.os, ktp.trans h.rel.tape, kout.trans h.rel.output, fun g hg => ⟨Nat.lt_of_lt_of_le (hkK g hg).1 k6, .inl hg⟩, fun g hg he => ⟨?_, (k2 g (hkK g hg) he).1⟩, k3, fun g hg => k4 g (.inr hg), fun g hz hk => ?_, [], rfl, List.nodup_nil, fun r hr => by cases hr⟩
    · show C'.w0.heap.size ≤ (w3.putObj l o).heap.size
      rw [hsz]; omega
    · exact (hw4 g (hkK g hg) he (by rintro rfl; exact h.kl hg)).trans (h.rel.kept g hg)
    · rcases k5 g hz (hkK g hk) with (h3 | h3) | h3
      · exact h.rel.new1 g h3 hk
      · rcases hZ2 g h3 with h4 | ⟨h4, h5, h6⟩
        · exact h.rel.new1 g (h.z g h4).1 hk
        · exact (h.kk g hk h4).elim (fun h7 => absurd h7 h6) fun h7 => h.rel.new1 g (h.z g h7).1 hk
      · exact h3
  refine ⟨C'', φ'', _, _, fun g => Own φ'' υ g ∨ ((F13 g ∨ R₄.Zr g) ∧ ¬ Z' g ∧ w1.heap.size ≤ g) ∨ R₄.Eb g, ?_, ⟨h.later.trans hlater, hrel, h.df, fun g hg => .inl hg, fun g hf hlow => ?_, fun g hg => .inr (.inr hg), fun g hg => ?_, fun g hg => ⟨.inr (k4 g (.inl (.inr hg))), hZlow g hg⟩, fun g hk hlow => ?_, fun g hk hy => ?_, fun g hg => .inl (.inr (h.fF g hg)), ?_, ?_, ?_, ?_, ?_⟩, ?_⟩
  · rintro g (⟨i, u, hi, hu, hg⟩ | ⟨hf, hnz, hlow⟩ | he)
    · exact hRK g (hown i u g hi hu hg).2.1
    · exact hF1Y g hf (.inr hlow) hnz
    · exact hEY g he
  · by_cases hz : Z' g
    · exact .inr hz
    · rcases hlow with h1 | h1
      · exact (hhdY g h1 (hF1Y g hf (.inl h1) hz)).elim
      · exact .inl (.inr (.inl ⟨hf, hz, h1⟩))
  · rcases hg with ⟨i, u, hi, hu, hg⟩ | ⟨hf, hnz, hlow⟩ | he
    · obtain ⟨h1, h2, h3, h4⟩ := hown i u g hi hu hg
      refine ⟨by rw [hsz]; exact h4, fun hh => hhdY g hh (hRK g h2), h3, fun hz => h2 (R₄.zrk g (k4 g (.inl (.inr hz)))), fun hf => h2 (k1 g (hf0K g (h.fF g hf))), ?_, ?_⟩
      · rintro rfl; exact h2 (k1 _ hlK)
      · rintro rfl; exact h2 (k1 _ hrK)
    · have hlt : g < w3.heap.size := hf.elim (fun h1 => R.lt0 g (R.sub g h1)) (hzlt g)
      refine ⟨by rw [hsz]; exact hlt, fun hh => by have := L.hlt g hh; omega, Nat.le_trans L.gb1 hlow, hnz, fun hF => by have := L.flt g hF; omega, ?_, ?_⟩
      · have := L.ll; omega
      · have := L.rr; omega
    · refine ⟨by rw [hsz]; exact helt g he, fun hh => hhdY g hh (hEY g he), Nat.le_of_not_lt fun h1 => R₄.geb g (by rw [core_gb e1, egb]; exact h1) he, fun hz => R₄.zeb g (k4 g (.inl (.inr hz))) he, fun hF => ?_, ?_, ?_⟩
      · have h0 := h.fF g hF
        exact (k2 g (hf0K g h0) (F0_eb h.rel h0)).1 he
      · rintro rfl; exact hEl he
      · rintro rfl; exact hEr he
  · by_cases hz : Z' g
    · exact .inr hz
    · rcases hk with ⟨hk0, hk | hk | hk⟩
      · rcases h.kk g hk hlow with h1 | h1
        · rcases h.ky g hk h1 with h2 | h2
          · rcases hlow with h3 | h3
            · exact ((h.y g h1).2.1 h3).elim
            · exact .inl (.inr (.inl ⟨.inr (k4 g (.inl (.inl h2))), hz, h3⟩))
          · exact .inl (.inr (.inr (k3 g h2)))
        · exact absurd (hZ1 g h1) hz
      · exact .inl (.inr (.inr hk))
      · rcases hlow with h3 | h3
        · exact (hhdY g h3 (hZrY g hk (.inl h3) hz)).elim
        · exact .inl (.inr (.inl ⟨.inr hk, hz, h3⟩))
  · rcases hy with ⟨i, u, hi, hu, hg⟩ | ⟨hf, _⟩ | he
    · exact absurd (hK g hk) (hown i u g hi hu hg).2.1
    · exact .inl hf
    · exact .inr he
  · rintro ⟨_, h1 | h1 | h1⟩
    · exact h.kl h1
    · exact hEl h1
    · exact hRZl h1
  · rintro ⟨_, h1 | h1 | h1⟩
    · exact h.kr h1
    · exact hEr h1
    · exact hRZr h1
  · rintro ((h1 | h1) | h1)
    · exact hF03l h1
    · exact h.fl h1
    · exact hRZl h1
  · rintro ((h1 | h1) | h1)
    · exact hF03r h1
    · exact h.fr h1
    · exact hRZr h1
  · rw [hsz]; exact Nat.le_trans h.big k6
  · refine ⟨kos, ktp, kout, by rw [hsz]; exact k6, fun g hg hn => ?_⟩
    have h1 : ¬ Y g := fun hy => hn (.inl hy)
    exact hw4 g ⟨hg, fun hy => absurd hy h1⟩ (fun he => h1 (h.eb g he)) fun e => hn (.inr e)

/-- Behind the loop. -/
theorem HeldG.close (L : LoopG C₁ l r w1 hd F) (h : HeldG C₁ a l r w1 hd F C' φ F0 F1 τ Y Z W) (hrw : C₁.w0.heap.size ≤ r) (hr : W.heap[r]? = some (.deferred (some []))) (o : Obj) :
    ∃ C₂, Later C₁ C₂ ∧ Rel C₂ τ { a with defers := markOf r :: a.defers } (W.putObj l o) := by
  have hT : Turned (fun g => g = l) W (W.putObj l o) := ⟨rfl, rfl, rfl, by simp, fun g _ hg => World.putObj_heap_other hg⟩
  have hsz : (W.putObj l o).heap.size = W.heap.size := by simp
  have hb := h.rel.big
  have hrW : r < W.heap.size := Nat.lt_of_lt_of_le L.rr h.big
  let C₂ : Ctx := { C' with
      w0 := W.putObj l o
      K0 := fun g => C'.K0 g ∨ g = r
      df := markOf r :: C'.df
      fik := fun g hg => .inl (C'.fik g hg)
      gbk := fun g hg => .inl (C'.gbk g hg)
      zrk := fun g hg => .inl (C'.zrk g hg)
      ebk := fun g hg => .inl (C'.ebk g hg)
      jok := fun T hT' => by
          have hi := (h.rel.pinv hT').turnW (S := fun g => g = l) hT (fun g _ hg => by
            subst hg
            exact ⟨.inr (Nat.le_trans (C₁.jok T (h.later.pr ▸ hT')).size L.lw), fun he => h.kl (C'.ebk _ he), fun hz => h.kl (C'.zrk _ hz)⟩)
          exact ⟨fun g h1 h2 => .inl (hi.low g h1 h2), hi.zn, hi.fz, hi.size, hi.os, hi.tape, hi.output, hi.lE, hi.at_⟩ }
  have lt := h.later
  refine ⟨C₂, ⟨lt.core, lt.Fi, lt.φi, lt.ro, lt.pr, ?_, h.rel.os.trans lt.os, h.rel.tape.trans lt.tape, h.rel.output.trans lt.output, fun g hg => .inl (lt.K0 g hg), fun g hg he => ⟨?_, (lt.kept g hg he).2⟩, lt.eb, lt.Zr, lt.zr0, [r], ?_, by simp, fun q hq => ?_⟩, φ, F0, F1, ?_⟩
  · show C₁.w0.heap.size ≤ (W.putObj l o).heap.size
    rw [hsz]; exact Nat.le_trans lt.big hb
  · have hk := lt.K0 g hg
    exact (World.putObj_heap_other (by rintro rfl; exact h.kl hk)).trans ((h.rel.kept g hk).trans (lt.kept g hg he).1)
  · show markOf r :: C'.df = _
    rw [h.df]; rfl
  · simp only [List.mem_singleton] at hq
    subst hq
    exact ⟨hrw, by show q < (W.putObj l o).heap.size; rw [hsz]; exact hrW, .inr rfl, (World.putObj_heap_other (Ne.symm L.lr)).trans hr, fun he => h.kr (C'.ebk _ he), fun hz => h.kr (C'.zrk _ hz)⟩
  · have := h.rel.re (C' := C₂) hT rfl h.rel.keep h.rel.ini (fun g hs _ => ?_) rfl rfl rfl (Nat.le_refl _) (fun _ _ => rfl) (fun g hg => ?_) ?_ (fun i u g hi hu hg => ?_) (fun g hf hk => ?_) τ.gh (fun t p hp => ?_)
    · have ed : ({ a with defers := C₂.df } : Act) = { a with defers := markOf r :: a.defers } := by
        rw [h.rel.defs]
      rw [ed] at this
      exact this
    · subst hs
      refine ⟨h.fl, by rw [core_gb lt.core]; exact L.gl, fun i u hi hu hg => (h.y _ (h.own _ ⟨i, u, hi, hu, hg⟩)).2.2.2.2.2.1 rfl⟩
    · show g < (W.putObj l o).heap.size
      rw [hsz]
      rcases hg with hg | rfl
      · exact Nat.lt_of_lt_of_le (h.rel.k0lt g hg) hb
      · exact hrW
    · show C'.gb ≤ (W.putObj l o).heap.size
      rw [hsz]; exact Nat.le_trans h.rel.gbig hb
    · rintro (hk | rfl)
      · exact (h.rel.apart i u g hi hu hg).2.1 hk
      · exact (h.y _ (h.own _ ⟨i, u, hi, hu, hg⟩)).2.2.2.2.2.2 rfl
    · rcases hk with hk | rfl
      · exact h.rel.new1 g hf hk
      · exact absurd (h.rel.sub _ hf) h.fr
    · obtain ⟨x, hx, hr'⟩ := h.rel.ghost t p hp
      exact ⟨x, hx, repV_mono (fun _ _ e => e) (fun t g hg => World.putObj_heap_other (by rintro rfl; exact h.fl (Fs_f0 h.rel.sub t _ hg))) (fun _ _ e => e) p x hr'⟩
end
end Go.Vm
end

section
namespace Go.Vm
open Go Go.RowKit
set_option linter.unusedVariables false
set_option linter.unusedSimpArgs false

section
variable {C : Ctx} {φ : Id → Option Value} {F0 F1 : Nat → Prop} {σ τ : St} {a : Act} {w w' : World} {P : Program}

/-- What holds at a yield (its number), or behind the loop's end. -/
def loopAt (Q : Post) (I : Nat → St → Prop) (rec : LoopState → Option Code → Loop) (l : Nat) (τ : St) (W : World) : Option Nat → Prop
  | some k => I k τ ∧ W.heap[l]? = some (.loop (rec .ready none))
  | none => ∃ c, JumpOk Q c τ ∧ W.heap[l]? = some (.loop (rec .done (some c)))

theorem loopAt_turn {Q : Post} {I : Nat → St → Prop} {rec : LoopState → Option Code → Loop} {l : Nat} {τ : St} {W W' : World} (h : W'.heap[l]? = W.heap[l]?) : ∀ {o : Option Nat}, loopAt Q I rec l τ W o → loopAt Q I rec l τ W' o
  | some k, ⟨h1, h2⟩ => ⟨h1, h.trans h2⟩
  | none, ⟨c, h1, h2⟩ => ⟨c, h1, h.trans h2⟩

/-- A RANGE OVER A FUNCTION. -/
theorem vwp_range {Q : Post} {g : Operand} {ps : Array Tmp} {assign body : Code} {f : FuncId} {caps : List PC} {M : List Id} {bs Hin : List Blk} {xs : List (List PV)} (hro : C.ro = none)
    (hg : ev σ.fr g = some (.one (.fn f caps))) (hM : gets σ.H M = some bs) (hHin : bs.map (Blk.ioc M) = Hin) (ht : (PC.tag0s (PC.iocs M caps) && tag0B Hin && nodup M) = true)
    (hit : VIterG C.P C.gw C.gb f ((PC.iocs M caps).map PV.one) Hin xs) (hps : ∀ p ∈ ps.toList, p < C.nt) (hxs : ∀ x ∈ xs, x.length = ps.size) (I : Nat → St → Prop) (hus : ∀ k τ, I k τ → τ.us = fun _ => false) (h0 : I 0 { σ with H := hide M σ.H })
    (hr : ∀ k τ x, I k τ → xs[k]? = some x → ∃ G ρ, RenG τ ρ G ∧ ∀ C', CoreEq C' C → ∀ K : St → Prop, (∀ σ', (∀ C'', CoreEq C'' C → vwp C'' body (roundQ τ G Q (I (k + 1))) σ') → K σ') → vwp C' assign (thenQ K fun _ _ => False) { ρ with fr := putFr ρ.fr (ps.toList.zip x) })
    (hend : ∀ τ, I xs.length τ → Q .normal τ) : vwp C (.rangeFunc g ps assign body) Q σ := by
  intro C₁ l₁ a w ⟨φ, F0, F1, R⟩
  have hro₁ : C₁.ro = none := l₁.ro.trans hro
  have hfz : fz C₁ = Fence.wide := by unfold fz; rw [hro₁]; rfl
  have eP : C₁.P = C.P := l₁.P
  have ent : C₁.nt = C.nt := core_nt l₁.core
  have egw : C₁.gw = C.gw := core_gw l₁.core
  have egb : C₁.gb = C.gb := core_gb l₁.core
  have hgv := ev_rep R hg
  simp only [repV, rep] at hgv
  obtain ⟨vs, hgv, hcaps⟩ := hgv
  subst hHin
  rw [Bool.and_eq_true, Bool.and_eq_true] at ht
  obtain ⟨⟨ht1, ht2⟩, ht3⟩ := ht
  obtain ⟨hbl, hbg⟩ := gets_get hM
  have hφ : ∀ (j : Nat) (i : Id) (u : Value), M[j]? = some i → φ i = some u → io0 M φ (0, j) = some u := by
    intro j i u hj hu
    simp [io0, hj, hu]
  have hφ' : ∀ j u, io0 M φ (0, j) = some u → ∃ i, M[j]? = some i ∧ φ i = some u := by
    intro j u hu
    simp only [io0, if_true] at hu
    exact Option.bind_eq_some_iff.1 hu
  have hMn : ∀ (j : Nat) (i : Id), M[j]? = some i → σ.H i ≠ none := by
    intro j i hj
    obtain ⟨b, _, hb⟩ := hbg j i hj
    rw [hb]; simp
  have hhand : ∀ g, Handed (io0 M φ) g → ∃ (j : Nat) (i : Id) (u : Value), M[j]? = some i ∧ φ i = some u ∧ blkOf u = some g ∧ σ.H i ≠ none := by
    rintro g ⟨j, u, hu, hg⟩
    obtain ⟨i, hi, hu'⟩ := hφ' j u hu
    exact ⟨j, i, u, hi, hu', hg, hMn j i hi⟩
  have hhap : ∀ g, Handed (io0 M φ) g → ¬ F0 g ∧ ¬ C₁.K0 g ∧ C₁.gb ≤ g ∧ g < w.heap.size := by
    intro g hg
    obtain ⟨j, i, u, _, hu, hg, hn⟩ := hhand g hg
    obtain ⟨b, hb⟩ := Option.ne_none_iff_exists'.1 hn
    obtain ⟨h1, h2, h3⟩ := R.apart i u g hn hu hg
    exact ⟨h1, h2, h3, holds_lt (R.heap i b hb) hu hg⟩
  refine hfz ▸ wpIn_rangeFunc (F := Fence.wide) fun fn _ => ?_
  generalize hrec : (fun (s : LoopState) (p : Option Code) => ({ state := s, pending := p, fn := fn, tmps := a.tmps, params := ps, assign := assign, body := body, defers := w.heap.size } : Loop)) = rec
  have hw1 : ∃ w1, (w.alloc (.deferred (some []))).alloc (.loop (rec .ready none)) = w1 := ⟨_, rfl⟩
  obtain ⟨w1, hw1⟩ := hw1
  have hsz1 : w1.heap.size = w.heap.size + 2 := by rw [← hw1]; simp
  have hold1 : ∀ g, g < w.heap.size → w1.heap[g]? = w.heap[g]? := by
    intro g hg
    rw [← hw1, heap_alloc_old _ _ (by simp; omega), heap_alloc_old _ _ hg]
  have hr1 : w1.heap[w.heap.size]? = some (.deferred (some [])) := by rw [← hw1, heap_alloc_old _ _ (by simp), World.alloc_heap_new]
  have hl1 : w1.heap[w.heap.size + 1]? = some (.loop (rec .ready none)) := by
    rw [← hw1]
    have := World.alloc_heap_new (w.alloc (.deferred (some []))) (.loop (rec .ready none))
    simpa using this
  have hbel : Below w.heap.size w w1 := by
    rw [← hw1]
    exact ((Below.refl _ _).alloc (Nat.le_refl _) _).alloc (by simp) _
  have R3 := R.below hbel
  obtain ⟨fnc, hfn, hname, hbody⟩ := hit.callable
  refine ⟨w.heap.size + 1, [markOf w.heap.size], w1, ⟨.fn (.func f) vs, #[.func (.yield (w.heap.size + 1)) #[] #[]]⟩, w1, f, #[.func (.yield (w.heap.size + 1)) #[] #[]] ++ vs, w1, ?_, ?_, fun _ _ => trivial, ?_, fun e => (by cases e), ?_⟩
  · have := run_enterLoop_outer (P := C₁.P) (w := w) fn a.tmps ps assign body
    rw [show Fence.wide.round = none from rfl, this, ← hw1, ← hrec]
    rfl
  · show (resolve a.eval (rangeCall g (w.heap.size + 1)) 0).run C₁.P w1 = .ok ⟨.fn (.func f) vs, #[.func (.yield (w.heap.size + 1)) #[] #[]]⟩ w1
    have hc : ∀ v, a.eval (.const v) = v := fun _ => rfl
    simp [resolve, hgv, Deferred.ofValue, hc]
  · have h1 : ¬ fnc.name = "runtime.NumGoroutine" := by simpa using hname
    have h2 : ¬ fnc.body = none := by
      intro e; rw [e] at hbody; simp at hbody
    have hfn' : C₁.P.funcs[f]? = some fnc := by rw [eP]; exact hfn
    simp [invoke, callFunc, hfn', h1, h2]
  rw [← eP, ← egw, ← egb] at hit
  have hbw := R.big
  have hgbw := R.gbig
  have L : LoopG C₁ (w.heap.size + 1) w.heap.size w1 (Handed (io0 M φ)) F0 := by
    refine ⟨by omega, by omega, by omega, fun h => ?_, fun h => ?_, fun h => ?_, fun h => ?_, by omega, by omega, fun g h => (hhap g h).2.2.1, fun g h => ?_, fun g h => ?_, by omega, by omega⟩
    · have := (hhap _ h).2.2.2; omega
    · have := (hhap _ h).2.2.2; omega
    · have := R.lt0 _ h; omega
    · have := R.lt0 _ h; omega
    · have := (hhap _ h).2.2.2; omega
    · have := R.lt0 _ h; omega
  let T : Proto := { 
      J := fun o Y Z W => ∃ C' φ' F0' F1' τ, HeldG C₁ a (w.heap.size + 1) w.heap.size w1 (Handed (io0 M φ)) F0 C' φ' F0' F1' τ Y Z W ∧ W.heap[w.heap.size]? = some (.deferred (some [])) ∧ loopAt Q I rec (w.heap.size + 1) τ W o
      l := w.heap.size + 1
      w := w1
      hd := Handed (io0 M φ)
      F := F0
      turn := by
          rintro o Y Z W W' ⟨C', φ', F0', F1', τ, hH, h1, h2⟩ hT
          have hb := hH.big
          refine ⟨C', φ', F0', F1', τ, hH.turn L hT, (hT.heap _ (by omega) ?_).trans h1, loopAt_turn (hT.heap _ (by omega) ?_) h2⟩
          · rintro ⟨h3 | h3, _⟩
            · exact L.hr h3
            · omega
          · rintro ⟨h3 | h3, _⟩
            · exact L.hl h3
            · omega }
  have hHeld : HeldG C₁ a (w.heap.size + 1) w.heap.size w1 (Handed (io0 M φ)) F0 C₁ φ F0 F1 { σ with H := hide M σ.H } (fun g => Own φ { σ with H := hide M σ.H } g ∨ C₁.Eb g) (fun _ => False) w1 := by
    have hhle : ∀ i b, hide M σ.H i = some b → σ.H i = some b ∧ ∀ j : Nat, M[j]? ≠ some i := by
      intro i b hb
      unfold hide at hb
      split at hb
      · cases hb
      · rename_i hp; exact ⟨hb, pos_none hp⟩
    have hown : ∀ g, Own φ { σ with H := hide M σ.H } g → ¬ F0 g ∧ ¬ C₁.K0 g ∧ C₁.gb ≤ g ∧ g < w.heap.size ∧ ¬ Handed (io0 M φ) g := by
      rintro g ⟨i, u, hi, hu, hg⟩
      obtain ⟨b, hb⟩ := Option.ne_none_iff_exists'.1 hi
      obtain ⟨hb1, hb2⟩ := hhle i b hb
      have hn : σ.H i ≠ none := by rw [hb1]; simp
      obtain ⟨h1, h2, h3⟩ := R.apart i u g hn hu hg
      refine ⟨h1, h2, h3, holds_lt (R.heap i b hb1) hu hg, fun hh => ?_⟩
      obtain ⟨j, i', u', hj, hu', hg', hn'⟩ := hhand g hh
      have := R.inj i i' u u' g hn hn' hu hu' hg hg'
      subst this
      exact hb2 j hj
    refine ⟨.refl _, R3.weaken ⟨fun _ _ e => e, fun i b hb => (hhle i b hb).1, fun _ e => e, rfl, fun _ _ e => e⟩, rfl, fun g hg => .inl hg, fun g hf hlow => ?_, fun g hg => .inr hg, fun g hg => ?_, fun g hg => hg.elim, fun g hk hlow => ?_, fun g hk hy => ?_, fun g hg => hg, fun hk => ?_, fun hk => ?_, fun hf => ?_, fun hf => ?_, Nat.le_refl _⟩
    · have h0 := R.sub g hf
      rcases hlow with h1 | h1
      · exact absurd h0 (hhap g h1).1
      · have := R.lt0 g h0; omega
    · rcases hg with hg | hg
      · obtain ⟨h1, h2, h3, h4, h5⟩ := hown g hg
        exact ⟨by omega, h5, h3, fun h => h, h1, by omega, by omega⟩
      · have hk := C₁.ebk g hg
        have := R.k0lt g hk
        exact ⟨by omega, fun hh => (hhap g hh).2.1 hk, Nat.le_of_not_lt fun h1 => C₁.geb g h1 hg, fun h => h, fun hf => F0_eb R hf hg, by omega, by omega⟩
    · rcases hlow with h1 | h1
      · exact absurd hk (hhap g h1).2.1
      · have := R.k0lt g hk; omega
    · rcases hy with hy | hy
      · exact absurd hk (hown g hy).2.1
      · exact .inr hy
    · have := R.k0lt _ hk; omega
    · have := R.k0lt _ hk; omega
    · have := R.lt0 _ hf; omega
    · have := R.lt0 _ hf; omega
  have hcore : ∀ {C' C'' : Ctx}, Later C₁ C' → C''.toCore = C'.toCore → C''.pr = C'.pr → C''.φi yid = C'.φi yid → CoreEq C'' C := by
    intro C' C'' h h1 h2 h3
    exact ⟨h1.trans (h.core.trans l₁.core), h2.trans (h.pr.trans l₁.pr), h3.trans (by rw [h.φi, l₁.φi])⟩
  have hok : ProtoOk C₁.P C₁.gb T xs := by
    refine ⟨?_, ?_⟩
    · rintro o Y Z W ⟨C', φ', F0', F1', τ, hH, _⟩ g hg
      obtain ⟨h1, h2, h3, h4, h5, _⟩ := hH.y g hg
      exact ⟨h1, h2, h3, h4, h5⟩
    · rintro k Y Z Z' W x xv hx ⟨C', φ', F0', F1', τ, hH, hrk, hI, hl⟩ hZ1 hZ2 hbig hrep
      obtain ⟨G, ρ, hG, hrun⟩ := hr k τ x hI hx
      have ent' : C'.nt = C.nt := (core_nt hH.later.core).trans ent
      obtain ⟨χ, p1, p2, p3, p4, p5, p6, p7, φ2, R2, hχy, hφ2, hχ⟩ := hH.start L hZ1 hZ2 (ps := ps.toList) (fun p hp => ent' ▸ hps p hp) hrep hG
      generalize hRc : roundCtx C' (w.heap.size + 1) (fun g => g < W.heap.size ∧ (Y g → F1' g ∨ C'.Eb g)) (fun g => F0' g ∨ Z' g) (fun g => (F1' g ∨ Z' g) ∨ C'.Zr g) χ W p1 p2 p3 p4 p5 p6 p7 = Rc at R2
      have c1 : Rc.toCore = C'.toCore := by rw [← hRc]; rfl
      have c2 : Rc.pr = C'.pr := by rw [← hRc]; rfl
      have c3 : Rc.φi = χ := by rw [← hRc]; rfl
      have c4 : Rc.ro = some (w.heap.size + 1) := by rw [← hRc]; rfl
      have c5 : Rc.w0 = W := by rw [← hRc]; rfl
      have c6 : ∀ g, Rc.K0 g ↔ (g < W.heap.size ∧ (Y g → F1' g ∨ C'.Eb g)) := by rw [← hRc]; exact fun g => Iff.rfl
      have c7 : ∀ g, Rc.Fi g ↔ (F0' g ∨ Z' g) := by rw [← hRc]; exact fun g => Iff.rfl
      have c8 : ∀ g, Rc.Zr g ↔ ((F1' g ∨ Z' g) ∨ C'.Zr g) := by rw [← hRc]; exact fun g => Iff.rfl
      have c9 : Rc.Eb = C'.Eb := by rw [← hRc]; rfl
      have cP : ∀ {C'' : Ctx}, C''.toCore = C'.toCore → C''.P = C₁.P := fun h => (core_P h).trans (core_P hH.later.core)
      have hlW : w.heap.size + 1 < W.heap.size := (Array.getElem?_eq_some_iff.1 hl).1
      have hlY : ¬ Y (w.heap.size + 1) := fun hy => (hH.y _ hy).2.2.2.2.2.1 rfl
      have hrY : ¬ Y w.heap.size := fun hy => (hH.y _ hy).2.2.2.2.2.2 rfl
      have hlE : ¬ C'.Eb (w.heap.size + 1) := fun he => hlY (hH.eb _ he)
      have hrE : ¬ C'.Eb w.heap.size := fun he => hrY (hH.eb _ he)
      have hZl : ¬ Z' (w.heap.size + 1) := fun hz => by
        have hlow : Handed (io0 M φ) (w.heap.size + 1) ∨ w1.heap.size ≤ w.heap.size + 1 := (hZ2 _ hz).elim (fun h1 => (hH.z _ h1).2) fun h1 => h1.1
        rcases hlow with h1 | h1
        · exact L.hl h1
        · omega
      have hlK : Rc.K0 (w.heap.size + 1) := (c6 _).2 ⟨hlW, fun hy => absurd hy hlY⟩
      have hrK : w.heap.size < W.heap.size ∧ (Y w.heap.size → F1' w.heap.size ∨ C'.Eb w.heap.size) := ⟨by omega, fun hy => absurd hy hrY⟩
      have hlZ : ¬ Rc.Zr (w.heap.size + 1) := fun hz => ((c8 _).1 hz).elim (fun h1 => h1.elim (fun h2 => hH.fl (hH.rel.sub _ h2)) hZl) fun h1 => hH.kl (C'.zrk _ h1)
      have hlF : ¬ Rc.Fi (w.heap.size + 1) := fun hf => ((c7 _).1 hf).elim hH.fl hZl
      have hA := hrun Rc (hcore hH.later c1 c2 (by rw [c3]; exact hχy)) _ (fun σ' hσ => hσ) Rc (.refl _) _ W ⟨φ2, _, _, R2⟩
      have hfA : fz Rc = Fence.wide.inRound (w.heap.size + 1) := by unfold fz; rw [c4]; rfl
      rw [hfA, cP c1] at hA
      refine ⟨fn, _, assign, body, ?_, roundIn_of_wpIn (F := Fence.wide) (tmps := (ps.toList.zip xv.toList).foldl (fun t (p : Tmp × Value) => t.setIfInBounds p.1 p.2) a.tmps) trivial (wpIn_mono hA ?_)⟩
      · have hsx : xv.size = ps.size := by
          have := repVs_len _ _ hrep
          rw [hxs x (List.mem_of_getElem? hx)] at this
          simpa using this
        have := run_yield (P := C₁.P) (args := xv) hl (by rw [← hrec]; exact hsx)
        rw [← hrec] at this
        simp only at this
        rw [zip_fold] at this
        exact this
      rintro e a2 w2 ⟨C₂, σ2, l₃, ⟨φ5, F02, F12, RA⟩, q⟩
      cases e
      case normal =>
        obtain ⟨hl3a, hl3b⟩ := l₃.kept _ hlK (by rw [c9]; exact hlE)
        have hl2 : w2.heap[w.heap.size + 1]? = some (.loop (rec .ready none)) := (RA.kept _ (l₃.K0 _ hlK)).trans (hl3a.trans (by rw [c5]; exact hl))
        have hlZ2 : ¬ C₂.Zr (w.heap.size + 1) := fun hz => hlZ (l₃.zr0 _ hz hlK)
        have hlF2 : ¬ F02 (w.heap.size + 1) := fun hf => (RA.ini _ hf).elim (fun h1 => hlF (by rw [← l₃.Fi]; exact h1)) fun h1 => hlZ2 (RA.new1 _ h1 (l₃.K0 _ hlK))
        have hpB : ∀ T', C₂.pr = some T' → PInv T' C₂.ex C₂.Eb C₂.Zr C₂.K0 C₂.Fi (w2.putObj (w.heap.size + 1) (.loop { rec .ready none with state := .busy })) := by
          intro T' hT'
          have h1 := C₁.jok T' (by rw [← hH.later.pr, ← c2, ← l₃.pr]; exact hT')
          refine (RA.pinv hT').turnW (S := fun g => g = w.heap.size + 1) ⟨rfl, rfl, rfl, by simp, fun g _ hg => World.putObj_heap_other hg⟩ fun g _ hg => ?_
          subst hg
          exact ⟨.inr (by have := h1.size; omega), hl3b, hlZ2⟩
        have hgl : C₂.gb ≤ w.heap.size + 1 := by rw [core_gb l₃.core, core_gb c1, core_gb hH.later.core]; omega
        have RB := RA.rebase (l := w.heap.size + 1) (l₃.K0 _ hlK) hgl hlF2 (.loop { rec .ready none with state := .busy }) hpB
        generalize hB : ({ C₂ with w0 := w2.putObj (w.heap.size + 1) (.loop { rec .ready none with state := .busy }), jok := hpB } : Ctx) = B at RB
        have b1 : B.toCore = C₂.toCore := by rw [← hB]
        have b2 : B.pr = C₂.pr := by rw [← hB]
        have b3 : B.φi = C₂.φi := by rw [← hB]
        have b4 : B.ro = C₂.ro := by rw [← hB]
        have b5 : B.w0 = w2.putObj (w.heap.size + 1) (.loop { rec .ready none with state := .busy }) := by rw [← hB]
        have b6 : B.K0 = C₂.K0 := by rw [← hB]
        have b7 : B.Fi = C₂.Fi := by rw [← hB]
        have b8 : B.Zr = C₂.Zr := by rw [← hB]
        have b9 : B.Eb = C₂.Eb := by rw [← hB]
        have bC : B.toCore = C'.toCore := b1.trans (l₃.core.trans c1)
        have hBv := q B (hcore hH.later bC (b2.trans (l₃.pr.trans c2)) (by rw [b3, l₃.φi, c3]; exact hχy)) B (.refl _) a2 _ ⟨φ5, F02, F12, RB⟩
        have hfb : fz B = Fence.wide.inRound (w.heap.size + 1) := by
          unfold fz
          rw [b4, l₃.ro, c4]
          rfl
        rw [hfb, cP bC] at hBv
        refine ⟨_, run_beginRound hl2 (by rw [← hrec]), wpIn_mono hBv ?_⟩
        have post : ∀ (C₄ : Ctx) (σ3 υ : St) (G' : Id → Id → Prop) (a3 : Act) (w3 : World) (st : LoopState) (jump : Option Code), Later B C₄ → Rel C₄ σ3 a3 w3 → BackG τ G σ3 υ G' →
            w3.heap[w.heap.size + 1]? = some (.loop { rec .ready none with state := .busy }) ∧ Turned (fun g => Y g ∨ g = w.heap.size + 1) W (w3.putObj (w.heap.size + 1) (.loop (rec st jump))) ∧
            ∃ Y', (∀ g, Y' g → Y g ∨ W.heap.size ≤ g) ∧ ∃ C'' φ' F0'' F1'', HeldG C₁ a (w.heap.size + 1) w.heap.size w1 (Handed (io0 M φ)) F0 C'' φ' F0'' F1'' υ Y' Z' (w3.putObj (w.heap.size + 1) (.loop (rec st jump))) ∧
              (w3.putObj (w.heap.size + 1) (.loop (rec st jump))).heap[w.heap.size + 1]? = some (.loop (rec st jump)) ∧ (w3.putObj (w.heap.size + 1) (.loop (rec st jump))).heap[w.heap.size]? = some (.deferred (some [])) := by
          rintro C₄ σ3 υ G' a3 w3 st jump l₄ ⟨φ4, F04, F14, R4⟩ hbk
          have k1 : ∀ g, (g < W.heap.size ∧ (Y g → F1' g ∨ C'.Eb g)) → C₄.K0 g := fun g hg => l₄.K0 g (by rw [b6]; exact l₃.K0 g ((c6 g).2 hg))
          have k2 : ∀ g, (g < W.heap.size ∧ (Y g → F1' g ∨ C'.Eb g)) → ¬ C'.Eb g → ¬ C₄.Eb g ∧ (g ≠ w.heap.size + 1 → w3.heap[g]? = W.heap[g]?) := by
            intro g hg he
            have g1 := (c6 g).2 hg
            obtain ⟨g2, g3⟩ := l₃.kept g g1 (by rw [c9]; exact he)
            have g4 := l₃.K0 g g1
            obtain ⟨g5, g6⟩ := l₄.kept g (by rw [b6]; exact g4) (by rw [b9]; exact g3)
            refine ⟨g6, fun hne => (R4.kept g (k1 g hg)).trans (g5.trans ?_)⟩
            rw [b5, World.putObj_heap_other hne, RA.kept g g4, g2, c5]
          have hl3 : w3.heap[w.heap.size + 1]? = some (.loop { rec .ready none with state := .busy }) := by
            refine (R4.kept _ (k1 _ ((c6 _).1 hlK))).trans ((l₄.kept _ (by rw [b6]; exact l₃.K0 _ hlK) (by rw [b9]; exact hl3b)).1.trans ?_)
            rw [b5]
            exact World.putObj_heap_same (Array.getElem?_eq_some_iff.1 hl2).1
          have z1 := l₃.big
          have z2 := RA.big
          have z3 := l₄.big
          have z4 := R4.big
          rw [c5] at z1
          rw [b5, World.putObj_size] at z3
          have hbh := hH.behind L (hus k τ hI) hZ1 hZ2 hG hχ hχy hφ2 R4 (l₄.core.trans bC) (l₄.pr.trans (b2.trans (l₃.pr.trans c2))) (fun g hg => (c7 g).1 (by rw [l₄.Fi, b7, l₃.Fi] at hg; exact hg)) (by rw [l₄.φi, b3, l₃.φi, c3]) k1 k2
            (fun g hg => l₄.eb g (by rw [b9]; exact l₃.eb g (by rw [c9]; exact hg))) (fun g hg => l₄.Zr g (by rw [b8]; exact l₃.Zr g ((c8 g).2 hg))) (fun g hz hg => (c8 g).1 (l₃.zr0 g (by rw [← b8]; exact l₄.zr0 g hz (by rw [b6]; exact l₃.K0 g ((c6 g).2 hg))) ((c6 g).2 hg)))
            (by omega) (by rw [R4.os, l₄.os, b5]; exact RA.os.trans (l₃.os.trans (by rw [c5]))) (by rw [R4.tape, l₄.tape, b5]; exact RA.tape.trans (l₃.tape.trans (by rw [c5]))) (by rw [R4.output, l₄.output, b5]; exact RA.output.trans (l₃.output.trans (by rw [c5]))) hbk (.loop (rec st jump))
          obtain ⟨C'', φ', F0'', F1'', Y', hY', hH', hT'⟩ := hbh
          refine ⟨hl3, hT', Y', hY', C'', φ', F0'', F1'', hH', World.putObj_heap_same (Array.getElem?_eq_some_iff.1 hl3).1, ?_⟩
          rw [World.putObj_heap_other (by omega)]
          exact ((k2 _ hrK hrE).2 (by omega)).trans hrk
        rintro e a3 w3 ⟨C₄, σ3, l₄, RC, q3⟩
        cases e
        case normal =>
          obtain ⟨υ, G', hbk, hI'⟩ := q3
          obtain ⟨q1, q2, Y', q3, C'', φ', F0'', F1'', q4, q5, q6⟩ := post C₄ σ3 υ G' a3 w3 .ready (none) l₄ RC hbk
          have hE : (Instr.endRound (w.heap.size + 1) (none)).run C₁.P w3 = .ok (.bool true) (w3.putObj (w.heap.size + 1) (.loop (rec .ready (none)))) := by
            have := run_endRound (P := C₁.P) (none) q1
            rw [← hrec] at this ⊢
            exact this
          exact ⟨_, _, hE, q2, Y', q3, .inl ⟨rfl, C'', φ', F0'', F1'', υ, q4, q6, hI', q5⟩⟩
        case ret =>
          obtain ⟨υ, G', hbk, hI'⟩ := q3
          obtain ⟨q1, q2, Y', q3, C'', φ', F0'', F1'', q4, q5, q6⟩ := post C₄ σ3 υ G' a3 w3 .done (some .ret) l₄ RC hbk
          have hE : (Instr.endRound (w.heap.size + 1) (some .ret)).run C₁.P w3 = .ok (.bool false) (w3.putObj (w.heap.size + 1) (.loop (rec .done (some .ret)))) := by
            have := run_endRound (P := C₁.P) (some .ret) q1
            rw [← hrec] at this ⊢
            exact this
          exact ⟨_, _, hE, q2, Y', q3, .inr ⟨rfl, C'', φ', F0'', F1'', υ, q4, q6, .ret, .inl ⟨rfl, hI'⟩, q5⟩⟩
        case exit id =>
          obtain ⟨υ, G', hbk, hI'⟩ := q3
          obtain ⟨q1, q2, Y', q3, C'', φ', F0'', F1'', q4, q5, q6⟩ := post C₄ σ3 υ G' a3 w3 .done (some (.exit id)) l₄ RC hbk
          have hE : (Instr.endRound (w.heap.size + 1) (some (.exit id))).run C₁.P w3 = .ok (.bool false) (w3.putObj (w.heap.size + 1) (.loop (rec .done (some (.exit id))))) := by
            have := run_endRound (P := C₁.P) (some (.exit id)) q1
            rw [← hrec] at this ⊢
            exact this
          exact ⟨_, _, hE, q2, Y', q3, .inr ⟨rfl, C'', φ', F0'', F1'', υ, q4, q6, .exit id, .inr ⟨id, rfl, hI'⟩, q5⟩⟩
        all_goals exact q3.elim
      all_goals exact q.elim
  have hF : ∀ t g, Fs F0 F1 t g → Fs F0 (fun _ => False) false g := fun t g hg => Fs_f0 R.sub t g hg
  have hrun := hit.run vs (io0 M φ) T _ rfl (Nat.le_trans R3.gbig R3.big) R3.glob (fun g hg => by have := R.lt0 g hg; show g < w1.heap.size; omega) ?_ ?_ ?_ ?_ ?_ (by show w.heap.size + 1 < w1.heap.size; omega) (by show C₁.gb ≤ w.heap.size + 1; omega) L.fl ?_ hok ⟨C₁, φ, F0, F1, _, hHeld, hr1, h0, hl1⟩
  · refine CallsIn.mono hrun ?_
    rintro e w3 ⟨⟨v, rfl⟩, hJ | hJ⟩
    · obtain ⟨Y, Z, C', φ', F0', F1', τ, hH, hr', hI, hl⟩ := hJ
      have hend' := run_endLoop (P := C₁.P) hl (by rw [← hrec]; simp)
      refine ⟨none, _, by have e := hend'; rw [← hrec] at e; exact e, ?_⟩
      obtain ⟨C₂, l₃, R4⟩ := hH.close L (by omega) hr' _
      exact ⟨C₂, τ, l₃, R4, hend τ hI⟩
    · obtain ⟨Y, Z, C', φ', F0', F1', τ, hH, hr', c, hc, hl⟩ := hJ
      have hend' := run_endLoop (P := C₁.P) hl (by rw [← hrec]; simp)
      refine ⟨some c, _, by have e := hend'; rw [← hrec] at e; exact e, ?_⟩
      rcases hc with ⟨rfl, hq⟩ | ⟨id, rfl, hq⟩
      · obtain ⟨C₂, l₃, R4⟩ := hH.close L (by omega) hr' _
        exact wpIn_ret ⟨C₂, τ, l₃, R4, hq⟩
      · obtain ⟨C₂, l₃, R4⟩ := hH.close L (by omega) hr' _
        exact wpIn_exit ⟨C₂, τ, l₃, R4, hq⟩
  · rintro ⟨i1, i2⟩ hi
    apply Classical.byContradiction
    intro hne
    exact hi (by simp only [io0]; rw [if_neg hne])
  · intro j b hj
    rw [List.getElem?_map] at hj
    obtain ⟨b0, hb0, rfl⟩ := Option.map_eq_some_iff.1 hj
    have hj' : j < M.length := by rw [← hbl]; exact (List.getElem?_eq_some_iff.1 hb0).1
    have hm := List.getElem?_eq_getElem hj'
    obtain ⟨b, hb, hHb⟩ := hbg j _ hm
    rw [hb0] at hb; cases hb
    exact ioc_holds hF hφ hm (tag0B_get ht2 (by rw [List.getElem?_map, hb0]; rfl)) (R3.heap _ _ hHb)
  · intro j u g hu hg
    obtain ⟨i, hi, hu'⟩ := hφ' j u hu
    obtain ⟨h1, h2, h3, h4⟩ := hhap g ⟨j, u, hu, hg⟩
    exact ⟨h1, h3, by show g ≠ w.heap.size + 1; omega⟩
  · intro j u hu
    obtain ⟨i, hi, hu'⟩ := hφ' j u hu
    have := (List.getElem?_eq_some_iff.1 hi).1
    rw [List.length_map, hbl]; exact this
  · intro j k u v g hu hv hg hg'
    obtain ⟨i, hi, hu'⟩ := hφ' j u hu
    obtain ⟨i', hi', hv'⟩ := hφ' k v hv
    have := R.inj i i' u v g (hMn j i hi) (hMn k i' hi') hu' hv' hg hg'
    subst this
    exact nodup_get ht3 j k i hi hi'
  · have key : ∀ (l : List PC) (us : List Value), reps (io0 M φ) w1 (Fs F0 fun _ => False) l us → repVs (io0 M φ) w1 (Fs F0 fun _ => False) (l.map PV.one) us := by
      intro l
      induction l with
      | nil => intro us h; simpa only [List.map_nil, repVs, reps] using h
      | cons p l ih =>
        intro us h
        simp only [reps] at h
        obtain ⟨v, us', rfl, h1, h2⟩ := h
        simp only [List.map_cons, repVs, repV]
        exact ⟨v, us', rfl, h1, ih us' h2⟩
    refine key _ _ (ioc_reps hF hφ caps _ ht1 ?_)
    exact reps_mono (fun _ _ e => e) (fun t g hg => hold1 g (R.lt0 g (Fs_f0 R.sub t g hg))) (fun _ _ e => e) _ _ hcaps

/-! ### An iterator's contract, out of its body -/
def St.enterI (args : List PV) (Hin : List Blk) : St := ⟨fun t => (PV.one (.own yid) :: args)[t]?, fun i => if i.1 = 0 then Hin[i.2]? else none, fun _ => false, 1, ghk (some 0)⟩
def IterEnd (n : Nat) (σ : St) : Prop := σ.gh 0 = some (.one (.c (kval (some n)))) ∨ σ.gh 0 = some (.one (.c (kval none)))
def iterQ (n : Nat) : Post
  | .normal, σ => IterEnd n σ
  | .ret, σ => IterEnd n σ
  | _, _ => False

theorem vIter_of (cu : Bool) {gw : World} {gb : Nat} {f : FuncId} {fn : Func} {c : Code} {args : List PV} {Hin : List Blk} {xs : List (List PV)} {n : Nat} (hf : P.funcs[f]? = some fn) (hb : fn.body = some c) (hname : (fn.name == "runtime.NumGoroutine") = false) (hnt : fn.ntmps = n)
    (hrs : fn.results.toList = []) (hn : args.length + 1 ≤ n) (hlen : Hin.length ≤ 1000000)
    (h : ∀ (C : Ctx) (T : Proto), C.P = P → C.nt = n → C.gw = gw → C.gb = gb → C.cut = cu → C.ro = none → C.pr = some T → C.φi yid = some (.func (.yield T.l) #[] #[]) → ProtoOk P gb T xs → vwp C c (iterQ xs.length) (St.enterI args Hin)) : VIterG P gw gb f args Hin xs := by
  subst hnt
  refine ⟨⟨fn, hf, hname, by simp [hb]⟩, fun vs φ0 T Y0 hhd hgb hgl hlt hz hh hap hdom hinj hl1 hl2 hl3 hr hok hJ => ?_⟩
  have hY0 := hok.apart _ _ _ _ hJ
  have hz' : ∀ (i : Id) u, φ0 i = some u → ∃ j, i = (0, j) ∧ j < Hin.length := by
    rintro ⟨i1, i2⟩ u hu
    have := hz (i1, i2) (by rw [hu]; simp)
    simp only at this
    subst this
    exact ⟨i2, rfl, hdom i2 u hu⟩
  let φ : Id → Option Value := fun i => if i = yid then some (.func (.yield T.l) #[] #[]) else φ0 i
  have hφ : ∀ i u, φ0 i = some u → φ i = some u := by
    intro i u hu
    obtain ⟨j, rfl, hj⟩ := hz' i u hu
    have : ((0, j) : Id) ≠ yid := by
      intro e
      simp only [yid, Prod.mk.injEq] at e
      omega
    simp only [φ, if_neg this, hu]
  have hφb : ∀ (j : Nat) u, j < Hin.length → φ (0, j) = some u → φ0 (0, j) = some u := by
    intro j u hj hu
    have : ((0, j) : Id) ≠ yid := by
      intro e
      simp only [yid, Prod.mk.injEq] at e
      omega
    simpa only [φ, if_neg this] using hu
  have hnl : ¬ Handed φ0 T.l := fun ⟨j, u, hu, hg⟩ => (hap j u _ hu hg).2.2 rfl
  let C₀ : Ctx := { 
      P := P
      nt := fn.ntmps
      gw := gw
      gb := gb
      cut := cu
      w0 := T.w
      K0 := fun g => g < T.w.heap.size ∧ ¬ Handed φ0 g
      Fi := T.F
      φi := φ
      ro := none
      df := []
      ex := #[kval (some 0)]
      fik := fun g hg => ⟨hlt g hg, fun ⟨j, u, hu, hb⟩ => (hap j u g hu hb).1 hg⟩
      gbk := fun g hg => ⟨Nat.lt_of_lt_of_le hg hgb, fun ⟨j, u, hu, hb⟩ => Nat.not_lt.2 (hap j u g hu hb).2.1 hg⟩
      Zr := fun _ => False
      Eb := fun g => Y0 g ∨ g = T.l
      pr := some T
      zrk := fun _ h => h.elim
      ebk := fun g hg => by
          rcases hg with hg | rfl
          · obtain ⟨h1, h2, _⟩ := hY0 g hg
            exact ⟨h1, by rw [← hhd]; exact h2⟩
          · exact ⟨hl1, hnl⟩
      zeb := fun _ h => h.elim
      fie := fun g hg he => by
          rcases he with he | rfl
          · exact (hY0 g he).2.2.2.2 hg
          · exact hl3 hg
      geb := fun g hg he => by
          rcases he with he | rfl
          · have := (hY0 g he).2.2.1; have hg : g < gb := hg; omega
          · have hg : T.l < gb := hg; omega
      jok := fun T' hT' => by
          cases hT'
          exact ⟨fun g h1 h2 => ⟨h1, by rw [← hhd]; exact h2⟩, fun g hg => hg.elim, fun g hg => .inl hg, Nat.le_refl _, rfl, rfl, rfl, .inr rfl, some 0, Y0, fun _ => False, rfl, fun g hg => .inl hg, fun g hg => hg, hJ⟩ }
  have hinit : RelX C₀ φ T.F (fun _ => False) (St.enterI args Hin) { tmps := (#[.func (.yield T.l) #[] #[]] ++ vs) ++ Array.replicate (fn.ntmps - (#[.func (.yield T.l) #[] #[]] ++ vs : Array Value).size) undef, defers := [] } T.w := by
    have hl := repVs_len _ _ hr
    have hg := repVs_get _ _ hr
    have hs : vs.size = args.length := by simpa using hl
    have hsz : (#[.func (.yield T.l) #[] #[]] ++ vs : Array Value).size = vs.size + 1 := by simp [Nat.add_comm]
    have hH : ∀ (i : Id), (St.enterI args Hin).H i ≠ none → ∃ j, i = (0, j) ∧ j < Hin.length := by
      rintro ⟨i1, i2⟩ hi
      simp only [St.enterI] at hi
      split at hi
      · rename_i h1
        subst h1
        refine ⟨i2, rfl, ?_⟩
        apply Classical.byContradiction
        intro hn
        exact hi (List.getElem?_eq_none (by omega))
      · exact absurd rfl hi
    refine ⟨?_, rfl, fun t p hp => ?_, fun i b hi => ?_, fun i j u v g hi hj hu hv hg hg' => ?_, fun i u g hi hu hg => ?_, fun g hg => hg.elim, fun g hg => .inl hg, fun g hg => hg.elim, hlt, rfl, rfl, rfl, Nat.le_refl _, fun _ _ => rfl, fun _ h => h.1, hgb, hgl, fun j u hu => hu, Nat.le_refl _, fun i hi => .inl ?_, fun t p hp => ?_⟩
    · show ((#[.func (.yield T.l) #[] #[]] ++ vs : Array Value) ++ Array.replicate (fn.ntmps - (#[.func (.yield T.l) #[] #[]] ++ vs : Array Value).size) undef).size = fn.ntmps
      rw [Array.size_append, Array.size_replicate, hsz]; omega
    · have hx : ∃ x, (#[.func (.yield T.l) #[] #[]] ++ vs : Array Value)[t]? = some x ∧ repV φ T.w (Fs T.F fun _ => False) p x := by
        have hp : (PV.one (.own yid) :: args)[t]? = some p := hp
        cases t with
        | zero =>
          have hp : PV.one (.own yid) = p := Option.some.inj hp
          subst hp
          refine ⟨.func (.yield T.l) #[] #[], (Array.getElem?_append_left (by exact Nat.zero_lt_one)).trans rfl, ?_⟩
          simp only [repV, rep]
          exact ⟨by simp [φ], rfl⟩
        | succ t =>
          have hp : args[t]? = some p := hp
          obtain ⟨v, hv, hr'⟩ := hg t p hp
          have hv' : vs[t]? = some v := by simpa using hv
          refine ⟨v, ?_, repV_mono hφ (fun _ _ _ => rfl) (fun _ _ e => e) p v hr'⟩
          rw [Array.getElem?_append_right (by simp)]
          simpa using hv'
      obtain ⟨x, hx, hr'⟩ := hx
      refine ⟨x, ?_, hr'⟩
      rw [Array.getElem?_append_left (Array.getElem?_eq_some_iff.1 hx).1]
      exact hx
    · obtain ⟨j, rfl, hj⟩ := hH i (by rw [hi]; simp)
      have hi : Hin[j]? = some b := by simpa [St.enterI] using hi
      exact holds_mono (hh j b hi) hφ (fun _ _ e => e) (fun _ _ _ => rfl) (fun _ _ _ _ => rfl)
    · obtain ⟨i2, rfl, hi2⟩ := hH i hi
      obtain ⟨j2, rfl, hj2⟩ := hH j hj
      rw [hinj i2 j2 u v g (hφb i2 u hi2 hu) (hφb j2 v hj2 hv) hg hg']
    · obtain ⟨i2, rfl, hi2⟩ := hH i hi
      have hu' := hφb i2 u hi2 hu
      obtain ⟨h1, h2, _⟩ := hap i2 u g hu' hg
      exact ⟨h1, fun hk => hk.2 ⟨i2, u, hu', hg⟩, h2⟩
    · simp only [φ] at hi
      split at hi
      · rename_i e; subst e; simp [St.enterI, yid]
      · have := hz i hi
        simp only [St.enterI]; omega
    · have hp : ghk (some 0) t = some p := hp
      unfold ghk at hp
      split at hp
      · rename_i e
        subst e
        cases hp
        exact ⟨kval (some 0), rfl, by simp only [repV, rep]; exact ⟨trivial, rfl⟩⟩
      · cases hp
  refine callsIn_of_wp_marks (F := fz C₀) (n := 0) hf hb trivial (wpIn_mono (h C₀ T rfl rfl rfl rfl rfl rfl rfl (by show φ yid = _; simp [φ]) hok C₀ (.refl _) _ _ ⟨_, _, _, hinit⟩) ?_)
  rintro e a' w₁ ⟨C₂, σ', l, ⟨φ', F0, F1, hR₁⟩, hq⟩
  have main : IterEnd xs.length σ' → LeavesInM (fz C₀) 0 P fn a'.tmps (fun e w' => (∃ v, e = .returned v) ∧ ((∃ Y Z, T.J (some xs.length) Y Z w') ∨ ∃ Y Z, T.J none Y Z w')) a'.defers .returning w₁ := by
    intro hq
    obtain ⟨rs, e1, e2, e3⟩ := l.df
    rw [hR₁.defs, e1, show C₀.df = [] from rfl, List.append_nil]
    refine leaves_marks rs w₁ e2 (fun r hr => (hR₁.kept r (e3 r hr).2.2.1).trans (e3 r hr).2.2.2.1) fun w' hos htp hout hsz hw => ?_
    have hi := (hR₁.pinv l.pr).turnW (w1 := w') (S := (· ∈ rs)) ⟨hos, htp, hout, Nat.le_of_eq hsz.symm, fun g _ hg => hw g hg⟩ fun g _ hg => by
      obtain ⟨h1, h2, h3, h4, h5, h6⟩ := e3 g hg
      exact ⟨.inr h1, h5, h6⟩
    obtain ⟨o, Y, Z, q1, q2, q3, q4⟩ := hi.at_
    have ho : ∀ o', σ'.gh 0 = some (.one (.c (kval o'))) → o = o' := by
      intro o' hg
      obtain ⟨x0, hx0, hr0⟩ := hR₁.ghost 0 _ hg
      simp only [repV, rep] at hr0
      rw [q1] at hx0
      simp only [List.size_toArray, List.length_cons, List.length_nil, Nat.zero_add, Nat.lt_add_one, getElem?_pos, List.getElem_toArray, List.getElem_cons_zero, Option.some.injEq] at hx0
      exact kval_inj (hx0.trans hr0.1)
    refine ⟨.tuple #[], ?_, ⟨_, rfl⟩, ?_⟩
    · unfold results
      simp only [Array.mapM_eq_mapM_toList, hrs]
      rfl
    · rcases hq with hq | hq
      · have := ho _ hq
        subst this
        exact .inl ⟨Y, Z, q4⟩
      · have := ho _ hq
        subst this
        exact .inr ⟨Y, Z, q4⟩
  cases e
  case normal => exact main hq
  case ret => exact main hq
  all_goals exact hq.elim
end
end Go.Vm
end
