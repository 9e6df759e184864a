/-
  Abstract states over the model's worlds, and that a step of them is a step of the program: part VmAI of a framework. Conditions: each theorem's own premises. By an AI agent.
-/
import Derived.Test.YtahbpfahgggjhaaGreatVmAH
import Derived.Deep.Draws
import Derived.Shelf.Strings.Builder1
import Derived.RangeFuncSeq
import Derived.RangeFuncCalls
import Derived.RangeFuncRecord
section
namespace Go.Vm
open Go Go.RowKit
set_option linter.unusedVariables false

/-! ### Calls that are handed blocks of the caller's own -/
def St.enterIO (args : List PV) (Hin : List Blk) : St := ⟨fun t => args[t]?, fun i => if i.1 = 0 then Hin[i.2]? else none, fun _ => false, 1, fun _ => none⟩

def RetOkIO (P : Program) (rs : List ResultVar) (n : Nat) (r : PV) (B : List (Option Blk)) (σ : St) : Prop :=
  ∃ (vs : List PV) (Z : Id → Prop) (G : Id → Id → Prop), resOf P σ rs = some vs ∧ (∀ i i' j, G i j → G i' j → i = i') ∧ (∀ i j j', G i j → G i j' → j = j') ∧ (∀ i j, G i j → j.1 = 0 ∧ (∃ b, B[j.2]? = some (some b)) ∧ (j.2 < n → i = j)) ∧
    ConvV σ.H Z G (pack vs) r ∧ ∀ j b', B[j]? = some (some b') → ∃ i b, G i (0, j) ∧ ¬ Z i ∧ σ.H i = some b ∧ ConvB σ.H Z G b b'

def retIO (P : Program) (rs : List ResultVar) (n : Nat) (r : PV) (B : List (Option Blk)) : Post
  | .normal, σ => RetOkIO P rs n r B σ
  | .ret, σ => RetOkIO P rs n r B σ
  | _, _ => False

section
variable {C : Ctx} {φ φ' : Id → Option Value} {F : Bool → Nat → Prop} {F0 F1 : Nat → Prop} {σ τ : St} {a : Act} {w : World} {P : Program}

theorem vcallIO_ofC (cu : Bool) {gw : World} {gb : Nat} {f : FuncId} {fn : Func} {c : Code} {args : List PV} {Hin : List Blk} {r : PV} {B : List (Option Blk)} {n : Nat} (rs : List ResultVar) (hf : P.funcs[f]? = some fn) (hb : fn.body = some c) (hname : (fn.name == "runtime.NumGoroutine") = false) (hnt : fn.ntmps = n)
    (hrs : fn.results.toList = rs) (hn : args.length ≤ n) (hlen : Hin.length ≤ B.length)
    (h : ∀ C : Ctx, C.P = P → C.nt = n → C.gw = gw → C.gb = gb → C.cut = cu → vwp C c (retIO P rs Hin.length r B) (St.enterIO args Hin)) : VCallIO P gw gb f args Hin r B := by
  subst hnt hrs
  refine ⟨⟨fn, hf, hname, by simp [hb]⟩, hlen, fun w xs F φ0 hgb hgl hlt h0 hh hap hdom hinj hr => ?_⟩
  have hlt0 : ∀ j u g, φ0 (0, j) = some u → blkOf u = some g → g < w.heap.size := by
    intro j u g hu hg
    exact holds_lt (hh j _ (List.getElem?_eq_getElem (hdom j u hu))) hu hg
  let C₀ : Ctx := ⟨⟨P, fn.ntmps, gw, gb, cu⟩, w, fun g => g < w.heap.size ∧ ¬ Handed φ0 g, F, φ0, none, [], #[], fun g hg => ⟨hlt g hg, fun ⟨j, u, hu, hb⟩ => (hap j u g hu hb).1 hg⟩, fun g hg => ⟨Nat.lt_of_lt_of_le hg hgb, fun ⟨j, u, hu, hb⟩ => Nat.not_lt.2 (hap j u g hu hb).2 hg⟩⟩
  have hinit : RelX C₀ φ0 F (fun _ => False) (St.enterIO args Hin) { tmps := xs ++ Array.replicate (fn.ntmps - xs.size) undef, defers := [] } w := by
    have hl := repVs_len _ _ hr
    have hg := repVs_get _ _ hr
    have hs : xs.size = args.length := by simpa using hl
    have hz : ∀ (i : Id) u, φ0 i = some u → ∃ j, i = (0, j) := by
      rintro ⟨i1, i2⟩ u hu
      have := h0 (i1, i2) (by rw [hu]; simp)
      simp only at this
      subst this
      exact ⟨i2, rfl⟩
    refine ⟨?_, rfl, fun t p hp => ?_, fun i b hi => ?_, fun i j u v g _ _ hu hv hg hg' => ?_, fun i u g _ hu hg => ?_, fun g hg => hg.elim, fun g hg => .inl hg, fun g hg => hg.elim, hlt, rfl, rfl, rfl, Nat.le_refl _, fun _ _ => rfl, fun _ h => h.1, hgb, hgl, fun j u hu => hu, Nat.le_refl _, fun i hi => .inl (by simp only [St.enterIO]; have := h0 i hi; omega), fun t p hp => (by cases hp)⟩
    · show (xs ++ Array.replicate (fn.ntmps - xs.size) undef).size = fn.ntmps; simp only [Array.size_append, Array.size_replicate]; omega
    · obtain ⟨v, hv, hr'⟩ := hg t p hp
      refine ⟨v, ?_, hr'⟩
      have hv' : xs[t]? = some v := by simpa using hv
      rw [Array.getElem?_append_left (Array.getElem?_eq_some_iff.1 hv').1]
      exact hv'
    · simp only [St.enterIO] at hi
      split at hi
      · rename_i hi0
        obtain ⟨i1, i2⟩ := i
        simp only at hi0
        subst hi0
        exact hh i2 b hi
      · cases hi
    · obtain ⟨i2, rfl⟩ := hz i u hu
      obtain ⟨j2, rfl⟩ := hz j v hv
      rw [hinj i2 j2 u v g hu hv hg hg']
    · obtain ⟨i2, rfl⟩ := hz i u hu
      exact ⟨(hap i2 u g hu hg).1, fun hk => hk.2 ⟨i2, u, hu, hg⟩, (hap i2 u g hu hg).2⟩
  refine callsIn_wide.1 (callsIn_of_wp_marks (F := fz C₀) (n := 0) hf hb trivial (wpIn_mono (h C₀ rfl rfl rfl rfl rfl C₀ (.refl _) _ _ ⟨_, _, _, hinit⟩) ?_))
  rintro e a' w₁ ⟨C₂, σ', l, ⟨φ, F0, F1, hR₁⟩, hq⟩
  have back : ∀ R : Ending → World → Prop, (∀ w' df, RelX { C₀ with df := df } φ F0 F1 σ' a' w' → ∃ v, (results fn a'.tmps).run P w' = .ok v w' ∧ R (.returned v) w') → LeavesInM (fz C₀) 0 P fn a'.tmps R a'.defers .returning w₁ := by
    intro R hR
    obtain ⟨rs, e1, e2, e3⟩ := l.df
    rw [hR₁.defs, e1, show C₀.df = [] from rfl, List.append_nil]
    refine leaves_marks rs w₁ e2 (fun r hr => (hR₁.kept r (e3 r hr).2.2.1).trans (e3 r hr).2.2.2) fun w' hos htp hout hsz hw => ?_
    refine hR w' C₂.df (hR₁.turn l (· ∈ rs) (fun g hg => ?_) hos htp hout (Nat.le_of_eq hsz.symm) (fun g _ hg => hw g hg) (fun g hg hs => ?_) hgb)
    · obtain ⟨h1, h2, h3, h4⟩ := e3 g hg
      refine ⟨fun h0 => ?_, ?_, fun i u hi hu hg' => (hR₁.apart i u g hi hu hg').2.1 h3⟩
      · rcases hR₁.ini g h0 with h5 | h5
        · rw [l.Fi] at h5
          have := hlt g h5
          have h1 : w.heap.size ≤ g := h1
          omega
        · exact hR₁.new1 g h5 h3
      · rw [show C₂.gb = C₀.gb from by rw [show C₂.gb = C₂.toCore.gb from rfl, l.core]]
        exact Nat.le_trans hgb h1
    · have h1 : w.heap.size ≤ g := (e3 g hs).1
      have hg : g < w.heap.size := hg.1
      omega
  have main : ∀ w' df, RelX { C₀ with df := df } φ F0 F1 σ' a' w' → RetOkIO P fn.results.toList Hin.length r B σ' → ∃ v, (results fn a'.tmps).run P w' = .ok v w' ∧ ∃ (x : Value) (ψ : Id → Option Value) (X : Nat → Prop), Ending.returned v = .returned x ∧ w'.os = w.os ∧ w'.tape = w.tape ∧ w'.output = w.output ∧ w.heap.size ≤ w'.heap.size ∧
      (∀ g, g < w.heap.size → ¬ Handed φ0 g → w'.heap[g]? = w.heap[g]?) ∧ (∀ g, X g → (w.heap.size ≤ g ∨ Handed φ0 g) ∧ g < w'.heap.size) ∧
      repV ψ w' (Fs (fun g => F g ∨ X g) X) r x ∧ (∀ j b, B[j]? = some (some b) → holds ψ w' (Fs (fun g => F g ∨ X g) X) (0, j) b) ∧ (∀ i, ψ i ≠ none → i.1 = 0) ∧
      (∀ j u, ψ (0, j) = some u → ∃ b, B[j]? = some (some b)) ∧
      (∀ j u g, ψ (0, j) = some u → blkOf u = some g → (w.heap.size ≤ g ∨ Handed φ0 g) ∧ ¬ X g) ∧
      (∀ j k u v g, ψ (0, j) = some u → ψ (0, k) = some v → blkOf u = some g → blkOf v = some g → j = k) ∧
      (∀ j u, j < Hin.length → ψ (0, j) = some u → φ0 (0, j) = some u) := by
    rintro w' df hR ⟨vs, Z, G, hvs, hG1, hG2, hG0, hcv, hB⟩
    obtain ⟨xs', hrun, hreps⟩ := results_run hR _ vs hvs
    have hx := pack_rep hreps
    obtain ⟨χ, hχ⟩ := exists_names G hG1 φ
    obtain ⟨φ', F0', F1', hT, hV, hφ'⟩ := hR.conv (τ := ⟨fun _ => none, fun j => if j.1 = 0 then (B[j.2]?).join else none, fun _ => false, 1, fun _ => none⟩) Z G hG1 hG2 (fun t p' hp => by cases hp) (fun t p' hp => by cases hp)
      (fun j b' hj => by
        simp only at hj
        split at hj
        · rename_i h0
          obtain ⟨j1, j2⟩ := j
          simp only at h0
          subst h0
          refine hB j2 b' ?_
          simp only at hj
          cases hb' : B[j2]? with
          | none => rw [hb'] at hj; cases hj
          | some o => rw [hb'] at hj; simp at hj; rw [hj]
        · cases hj)
      (fun i j hg => .inl (by have := (hG0 i j hg).1; simp only; omega)) (Nat.le_refl _) χ (fun i j u hg _ hu => (hχ j u).2 ⟨i, hg, hu⟩)
    have hF : ∀ t g, Fs F0' F1' t g → Fs (fun g => F g ∨ F1' g) F1' t g := by
      intro t g hg
      cases t
      · exact hT.ini g hg
      · exact hg
    have hH : ∀ j u, φ' (0, j) = some u → ∃ b, B[j]? = some (some b) := by
      intro j u hu
      obtain ⟨i, hg, _⟩ := (hφ' _ u).1 hu
      exact (hG0 i _ hg).2.1
    have hk : ∀ g, ¬ (g < w.heap.size ∧ ¬ Handed φ0 g) → w.heap.size ≤ g ∨ Handed φ0 g := by
      intro g hg
      by_cases h1 : g < w.heap.size
      · right
        apply Classical.byContradiction
        intro h2
        exact hg ⟨h1, h2⟩
      · left; omega
    refine ⟨_, ?_, _, φ', F1', rfl, hR.os, hR.tape, hR.output, hR.big, fun g hg hng => hR.kept g ⟨hg, hng⟩, fun g hg => ⟨hk g (hT.new1 g hg), hT.lt0 g (hT.sub g hg)⟩,
      repV_mono (fun _ _ e => e) (fun _ _ _ => rfl) hF _ _ (hV _ _ _ hcv hx), fun j b hj => ?_, fun i hi => ?_, hH, fun j u g hu hg => ?_, fun j k u v g hu hv hg hg' => ?_, fun j u hj hu => ?_⟩
    · unfold results
      simp only [Array.mapM_eq_mapM_toList]
      simp only [map_eq_pure_bind, Sem.run_bind, Sem.run_pure]
      have key : ∀ m : Sem (List Value), m.run P w' = .ok xs' w' → ((m.run P w').andThen fun a w' => Result.ok a.toArray w').andThen (fun a w' => Result.ok (if h : a.size = 1 then a[0] else Value.tuple a) w') =
          Result.ok (if h : xs'.toArray.size = 1 then xs'.toArray[0] else Value.tuple xs'.toArray) w' := by
        intro m hm; rw [hm]; rfl
      exact key _ hrun
    · exact holds_mono (hT.heap (0, j) b (by simp [hj])) (fun _ _ e => e) hF (fun _ _ _ => rfl) (fun _ _ _ _ => rfl)
    · obtain ⟨u, hu⟩ := Option.ne_none_iff_exists'.1 hi
      obtain ⟨i', hg, _⟩ := (hφ' _ u).1 hu
      exact (hG0 i' _ hg).1
    · obtain ⟨b, hb'⟩ := hH j u hu
      obtain ⟨h1, h2, _⟩ := hT.apart (0, j) u g (by simp [hb']) hu hg
      exact ⟨hk g h2, fun hx => h1 (hT.sub g hx)⟩
    · obtain ⟨b, hb'⟩ := hH j u hu
      obtain ⟨b2, hb2'⟩ := hH k v hv
      have := hT.inj (0, j) (0, k) u v g (by simp [hb']) (by simp [hb2']) hu hv hg hg'
      simpa using this
    · obtain ⟨i, hg, hu'⟩ := (hφ' _ u).1 hu
      have := (hG0 i _ hg).2.2 hj
      subst this
      exact hR.keep j u hu'
  cases e
  case normal => exact back _ fun w' df hR => main w' df hR hq
  case ret => exact back _ fun w' df hR => main w' df hR hq
  all_goals exact hq.elim
end

section
variable {C : Ctx} {φ : Id → Option Value} {F0 F1 : Nat → Prop} {σ : St} {a : Act} {w : World} {P : Program}

end
attribute [push_cast] St.enterIO
end Go.Vm
end

section
namespace Go.Vm
open Go Go.RowKit
set_option linter.unusedVariables false
set_option linter.unusedSimpArgs false

/-! ### Ranges over functions -/

/-- The heap of W' is that of W, but for what may have turned. -/
structure Turned (S : Nat → Prop) (W W' : World) : Prop where
  os : W'.os = W.os
  tape : W'.tape = W.tape
  output : W'.output = W.output
  size : W.heap.size ≤ W'.heap.size
  heap : ∀ g, g < W.heap.size → ¬ S g → W'.heap[g]? = W.heap[g]?

theorem Turned.refl (S : Nat → Prop) (W : World) : Turned S W W := ⟨rfl, rfl, rfl, Nat.le_refl _, fun _ _ _ => rfl⟩
theorem Turned.trans {S S' S'' : Nat → Prop} {W W' W'' : World} (h : Turned S W W') (h' : Turned S' W' W'') (h1 : ∀ g, g < W.heap.size → S g → S'' g) (h2 : ∀ g, g < W.heap.size → S' g → S'' g) : Turned S'' W W'' :=
  ⟨h'.os.trans h.os, h'.tape.trans h.tape, h'.output.trans h.output, Nat.le_trans h.size h'.size, fun g hg hs =>
    (h'.heap g (Nat.lt_of_lt_of_le hg h.size) fun e => hs (h2 g hg e)).trans (h.heap g hg fun e => hs (h1 g hg e))⟩

/-- WHAT AN ITERATOR (the function f; it has captured the boxes bx) GIVES, ONE AFTER THE OTHER: xs. Y: the blocks that belong to the loop's side. -/
structure VIter (P : Program) (gw : World) (gb : Nat) (f : FuncId) (bx : List (TypeId × List Value)) (xs : List (List Value)) : Prop where
  callable : Callable P f
  one : ∀ x ∈ xs, ∀ v ∈ x, v.oneCell' = true
  run : ∀ (w : World) (bs : List Nat) (l : Nat) (J Jx : Nat → (Nat → Prop) → World → Prop) (Y0 : Nat → Prop), gb ≤ w.heap.size → (∀ g, g < gb → w.heap[g]? = gw.heap[g]?) →
    bs.length = bx.length → bs.Nodup → (∀ (j g : Nat) (b : TypeId × List Value), bs[j]? = some g → bx[j]? = some b → w.heap[g]? = some (Obj.cells b.2.toArray b.1 (0, 0))) → (∀ g ∈ bs, gb ≤ g ∧ g < w.heap.size ∧ g ≠ l) → l < w.heap.size → gb ≤ l →
    (∀ k Y W, J k Y W → ∀ g, Y g → g < W.heap.size ∧ g ∉ bs ∧ gb ≤ g) →
    (∀ k Y W W', J k Y W → Turned (fun g => g ∈ bs ∨ (w.heap.size ≤ g ∧ ¬ Y g)) W W' → J k Y W') →
    (∀ k Y W W', Jx k Y W → Turned (fun g => g ∈ bs ∨ (w.heap.size ≤ g ∧ ¬ Y g)) W W' → Jx k Y W') →
    (∀ k Y W x, xs[k]? = some x → J k Y W → w.heap.size ≤ W.heap.size → YieldAt Fence.wide 0 P l x.toArray W fun e W' => Turned (fun g => Y g ∨ g = l) W W' ∧ ∃ Y', (∀ g, Y' g → Y g ∨ W.heap.size ≤ g) ∧
      ((e = .returned (.bool true) ∧ J (k + 1) Y' W') ∨ (e = .returned (.bool false) ∧ Jx (k + 1) Y' W'))) →
    J 0 Y0 w → CallsIn Fence.wide 0 P f (#[.func (.yield l) #[] #[]] ++ (bs.map fun g => Value.pointer (some ⟨g, 0, none⟩)).toArray) w fun e w' => (∃ v, e = .returned v) ∧ ((∃ Y, J xs.length Y w') ∨ ∃ k Y, Jx k Y w')

/-- Behind a round: the ghosts are the loop's slots again. -/
def unround (τ : St) : St := { τ with fr := τ.gh, gh := fun _ => none }

section
variable {C : Ctx} {φ : Id → Option Value} {F0 F1 : Nat → Prop} {σ τ : St} {a : Act} {w w' : World} {l r w0 : Nat} {bs : List Nat} {Y : Nat → Prop} {W W' : World}

def Own (φ : Id → Option Value) (τ : St) (g : Nat) : Prop := ∃ i u, τ.H i ≠ none ∧ φ i = some u ∧ blkOf u = some g

/-- What the loop's side holds between two rounds. -/
structure Held (C : Ctx) (a : Act) (l r w0 : Nat) (bs : List Nat) (φ : Id → Option Value) (F0 F1 : Nat → Prop) (τ : St) (Y : Nat → Prop) (W : World) : Prop where
  rel : RelX C φ F0 F1 τ a W
  own : ∀ g, Own φ τ g → Y g
  f1 : ∀ g, F1 g → Y g
  y : ∀ g, Y g → g < W.heap.size ∧ g ≠ l ∧ g ≠ r ∧ ¬ C.K0 g ∧ g ∉ bs ∧ C.gb ≤ g
  big : w0 ≤ W.heap.size

/-- Behind a round. -/
theorem Held.behind (h : Held C a l r w0 bs φ F0 F1 τ Y W) {C₄ : Ctx} {φ' : Id → Option Value} {F0' F1' : Nat → Prop} {τ' : St} {a' : Act} {W₃ W₄ : World} (h' : RelX C₄ φ' F0' F1' τ' a' W₃)
    (hcore : C₄.toCore = C.toCore) (hFi : C₄.Fi = C.Fi) (hφi : C₄.φi = C.φi) (hex : C₄.ex = a.tmps) (hk : ∀ g, g < W.heap.size → ¬ Y g → C₄.K0 g) (hl : l < W.heap.size) (hr : r < W.heap.size) (hlY : ¬ Y l) (hrY : ¬ Y r) (hbs : ∀ g ∈ bs, g < W.heap.size)
    (hlk : ¬ C.K0 l) (hlg : C.gb ≤ l) (h3 : Turned (fun g => Y g ∨ g = l) W W₃) (h4 : Turned (fun g => g = l) W₃ W₄) (hsz : W₄.heap.size = W₃.heap.size) :
    ∃ Y', (∀ g, Y' g → Y g ∨ W.heap.size ≤ g) ∧ Held C a l r w0 bs φ' F0' F1' (unround τ') Y' W₄ := by
  have hKl := hk l hl hlY
  have hnl : ∀ g, ¬ C₄.K0 g → Y g ∨ W.heap.size ≤ g := by
    intro g hg
    by_cases h1 : Y g
    · exact .inl h1
    · by_cases h2 : g < W.heap.size
      · exact absurd (hk g h2 h1) hg
      · exact .inr (by omega)
  have hCK : ∀ g, C.K0 g → C₄.K0 g := fun g hg => hk g (Nat.lt_of_lt_of_le (h.rel.k0lt g hg) h.rel.big) fun hy => (h.y g hy).2.2.2.1 hg
  have hF0l : ¬ F0' l := by
    intro h0
    rcases h'.ini l h0 with h1 | h1
    · rw [hFi] at h1; exact hlk (C.fik l h1)
    · exact h'.new1 l h1 hKl
  have hwF : ∀ t g, Fs F0' F1' t g → W₄.heap[g]? = W₃.heap[g]? := fun t g hg => h4.heap g (h'.lt0 g (Fs_f0 h'.sub t g hg)) (by rintro rfl; exact hF0l (Fs_f0 h'.sub t _ hg))
  have hgb : C₄.gb = C.gb := by rw [show C₄.gb = C₄.toCore.gb from rfl, hcore]
  have hgw : C₄.gw = C.gw := by rw [show C₄.gw = C₄.toCore.gw from rfl, hcore]
  have hnt : C₄.nt = C.nt := by rw [show C₄.nt = C₄.toCore.nt from rfl, hcore]
  have hownY : ∀ g, Own φ' (unround τ') g → ¬ C₄.K0 g ∧ g < W₄.heap.size ∧ C.gb ≤ g := by
    rintro g ⟨i, u, hi, hu, hg⟩
    obtain ⟨h1, h2, h3⟩ := h'.apart i u g hi hu hg
    obtain ⟨b, hb⟩ := Option.ne_none_iff_exists'.1 hi
    exact ⟨h2, by rw [hsz]; exact holds_lt (h'.heap i b hb) hu hg, hgb ▸ h3⟩
  have hWC : ∀ g, C.K0 g → W₄.heap[g]? = C.w0.heap[g]? := by
    intro g hg
    have g1 := Nat.lt_of_lt_of_le (h.rel.k0lt g hg) h.rel.big
    have g2 : ¬ Y g := fun hy => (h.y g hy).2.2.2.1 hg
    have g3 : g ≠ l := by rintro rfl; exact hlk hg
    exact ((h4.heap g (Nat.lt_of_lt_of_le g1 h3.size) g3).trans (h3.heap g g1 (by rintro (h5 | h5); exact g2 h5; exact g3 h5))).trans (h.rel.kept g hg)
  refine ⟨fun g => Own φ' (unround τ') g ∨ F1' g, fun g hg => ?_, ⟨h.rel.size, h.rel.defs, fun t p hp => ?_, fun i b hi => ?_, h'.inj, fun i u g hi hu hg => ?_, h'.sub, fun g hg => hFi ▸ h'.ini g hg, fun g hg hk' => h'.new1 g hg (hCK g hk'), fun g hg => by rw [hsz]; exact h'.lt0 g hg,
    h4.os.trans (h3.os.trans h.rel.os), h4.tape.trans (h3.tape.trans h.rel.tape), h4.output.trans (h3.output.trans h.rel.output), Nat.le_trans h.rel.big (Nat.le_trans h3.size h4.size), hWC, h.rel.k0lt, h.rel.gbig, fun g hg => ?_, fun j u hu => hφi ▸ h'.keep j u hu, h'.nx1, h'.ids, fun t p hp => by cases hp⟩,
    fun g hg => .inl hg, fun g hg => .inr hg, fun g hg => ?_, Nat.le_trans h.big (Nat.le_trans h3.size h4.size)⟩
  · rcases hg with hg | hg
    · exact hnl g (hownY g hg).1
    · exact hnl g (h'.new1 g hg)
  · obtain ⟨x, hx, hr'⟩ := h'.ghost t p hp
    exact ⟨x, hex ▸ hx, repV_mono (fun _ _ e => e) hwF (fun _ _ e => e) p x hr'⟩
  · have hh := h'.heap i b hi
    refine holds_mono hh (fun _ _ e => e) (fun _ _ e => e) hwF fun u g hu hg => h4.heap g (holds_lt hh hu hg) ?_
    rintro rfl
    exact (h'.apart i u _ (by rw [show τ'.H i = some b from hi]; simp) hu hg).2.1 hKl
  · obtain ⟨h5, h6, h7⟩ := h'.apart i u g hi hu hg
    exact ⟨h5, fun hk' => h6 (hCK g hk'), hgb ▸ h7⟩
  · have g1 : g < C.gb := hg
    have g2 := Nat.lt_of_lt_of_le g1 (Nat.le_trans h.rel.gbig h.rel.big)
    exact (h4.heap g (Nat.lt_of_lt_of_le g2 h3.size) (by omega)).trans ((h'.glob g (hgb ▸ g1)).trans (by rw [hgw]))
  · have key : ¬ C₄.K0 g ∧ g < W₄.heap.size ∧ (Y g ∨ W.heap.size ≤ g) := by
      rcases hg with hg | hg
      · exact ⟨(hownY g hg).1, (hownY g hg).2.1, hnl g (hownY g hg).1⟩
      · exact ⟨h'.new1 g hg, by rw [hsz]; exact h'.lt0 g (h'.sub g hg), hnl g (h'.new1 g hg)⟩
    obtain ⟨k1, k2, k3⟩ := key
    refine ⟨k2, by rintro rfl; exact k1 hKl, by rintro rfl; exact k1 (hk _ hr hrY), fun hk' => k1 (hCK g hk'), fun hb => ?_, ?_⟩
    · rcases k3 with k3 | k3
      · exact (h.y g k3).2.2.2.2.1 hb
      · have := hbs g hb; omega
    · rcases k3 with k3 | k3
      · exact (h.y g k3).2.2.2.2.2
      · have := h.rel.gbig; have := h.rel.big; omega

end
end Go.Vm
end

section
namespace Go.Vm
open Go Go.RowKit
set_option linter.unusedVariables false

/-! ### What an operation comes to, computed -/
abbrev Cx := FuncId → List PV → Option (PV × List Blk)
/-- Calls that are handed blocks; which functions are handed the caller's rows too. -/
structure Io where
  run : FuncId → List PV → List Blk → Option (PV × List (Option Blk))
  md : FuncId → Nat

def valO (nt : Nat) (d : Option Nat) (p : PV) : Option Upd :=
  match d with
  | none => none
  | some d => if d < nt then some (.val (some d) p) else none
def addO (nt : Nat) (d : Option Nat) : Option (PV × Option Blk) → Option Upd
  | some (p, none) =>
    match d with
    | none => some (.val none p)
    | some d => if d < nt then some (.val (some d) p) else none
  | some (p, some b) =>
    match d with
    | none => none
    | some d => if d < nt then some (.new d p b) else none
  | none => none
def vAddO (P : Program) (nt nx : Nat) (ρ : Operand → Option PV) (H : Id → Option Blk) (d : Option Nat) (op : Op) : Option Upd :=
  addO nt d (vAll P (nx + d.getD 0, 0) ρ H op)
def heapO : Option (Id × Blk) → Option Upd
  | some (i, b) => some (.heap i b)
  | none => none
def mvO (nt : Nat) (d : Option Nat) : Option (Option Id × Blk) → Option Upd
  | some (i, b) =>
    match d with
    | none => none
    | some d => if d < nt then some (.mv d i b) else none
  | none => none

def copyO (nt : Nat) (d : Option Nat) : Option (Nat × Option (Id × Blk)) → Option Upd
  | some (k, none) => valO nt d (.one (.c (.int .i64 k)))
  | some (k, some (i, b)) =>
    match d with
    | none => none
    | some d => if d < nt then some (.io d [i] (.one (.c (.int .i64 k))) [some b]) else none
  | none => none

mutual
/-- The blocks that a cell names. -/
def PC.ids : PC → List Id
  | .loc i _ => [i]
  | .vw i _ _ => [i]
  | .cut i _ => [i]
  | .rmp _ _ ps => PC.idss ps
  | .own i => [i]
  | .fn _ cs => PC.idss cs
  | .mth _ cs => PC.idss cs
  | .sl _ _ cs => PC.idss cs
  | .at _ cs => PC.idss cs
  | .c _ => []
  | .ifc => []
  | .emp => []
def PC.idss : List PC → List Id
  | [] => []
  | p :: ps => p.ids ++ PC.idss ps
end
/-- The blocks that an argument hands on: not the rows, which are only read. -/
def PC.lent (H : Id → Option Blk) : PC → List Id
  | .own i =>
    match H i with
    | some (.mp _ _) => [i]
    | _ => []
  | p => p.ids
def PV.lent (H : Id → Option Blk) : PV → List Id
  | .one p => p.lent H
  | .agg ps => ps.flatMap (PC.lent H)
  | _ => []
def reach (H : Id → Option Blk) : Nat → List Id → List Id → List Id
  | _, [], acc => acc.reverse
  | 0, _, acc => acc.reverse
  | n + 1, i :: todo, acc =>
    if acc.contains i then reach H n todo acc
    else match H i with
      | some b => reach H n (PC.idss b.kids ++ todo) (i :: acc)
      | none => reach H n todo (i :: acc)

def PV.idAll : PV → List Id
  | .one p => p.ids
  | .agg ps => PC.idss ps
  | _ => []
def lentOf (all : Bool) (H : Id → Option Blk) (ps : List PV) : List Id :=
  match all with
  | true => ps.flatMap PV.idAll
  | false => ps.flatMap (PV.lent H)
def kdOf : Bool → Nat
  | true => 0
  | false => 4
def ioO (all : Bool) (io : Io) (f : FuncId) (d : Nat) (ps : List PV) (H : Id → Option Blk) : Option Upd :=
  let M := reach H 100000 (lentOf all H ps) []
  match gets H M with
  | none => none
  | some bs =>
    let args := ps.map fun p => (cloV (hide M H) (kdOf all) p).ioc M
    let Hin := bs.map (Blk.ioc M)
    if (args.all PV.tag0 && tag0B Hin && nodup M) = true then
      match io.run f args Hin with
      | some (r, B) => if (r.strict && strictBO B) = true ∨ (ps.map (PV.ioc M)).all PV.tag0 = true then some (.io d M r B) else none
      | none => none
    else none

/-- A call that only reads. -/
def roO (cx : Cx) (f : FuncId) (d : Nat) (ps : List PV) (H : Id → Option Blk) : Option Upd :=
  if PV.frees (ps.map (clrV H 4)) = true then
    match cx f (ps.map (clrV H 4)) with
    | some (r, B) => if (r.strict && strictB B) = true then some (.io d [] r (B.map some)) else none
    | none => none
  else none
def callO (cx : Cx) (io : Io) (nt : Nat) (H : Id → Option Blk) (d : Option Nat) : Option (FuncId × List PV) → Option Upd
  | some (f, ps) =>
    match d with
    | none => none
    | some d =>
      if d < nt then
        match io.md f with
        | 1 => ioO true io f d ps H
        | 2 => ioO false io f d ps H
        | 3 => roO cx f d ps H
        | _ =>
          if PV.frees (ps.map (cloV H 4)) = true then
            match cx f (ps.map (cloV H 4)) with
            | some (r, B) => if (r.strict && strictB B) = true ∨ PV.frees ps = true then some (.call d r B) else none
            | none => none
          else ioO true io f d ps H
      else none
  | none => none

def opO (P : Program) (nt : Nat) (cx : Cx) (io : Io) (nx : Nat) (ρ : Operand → Option PV) (H : Id → Option Blk) (d : Option Nat) (op : Op) : Option Upd :=
  match op with
  | .call c =>
    match c.callee with
    | .value _ => callO cx io nt H d (callOf ρ c)
    | .builtin .append =>
      match appE P ρ H c with
      | some none => valO nt d (.one .emp)
      | some (some b) => mvO nt d (some (none, b))
      | none => mvO nt d (vapp P ρ H c)
    | .builtin .copy => copyO nt d (vcopy P ρ H c)
    | _ => vAddO P nt nx ρ H d op
  | .store t x y =>
    match d with
    | none => heapO (vstore P ρ H t x y)
    | some _ => none
  | .mapUpdate t m k x =>
    match d with
    | none => heapO (vmapAll P ρ H t m k x)
    | some _ => none
  | .insert t m k x =>
    match d with
    | none => heapO (vmapAll P ρ H t m k x)
    | some _ => none
  | .pick c x y =>
    match vpick true ρ c x y with
    | some b => valO nt d (.one (.c (.bool b)))
    | none => none
  | .binOp bop t x y _ =>
    match isNilC y with
    | 0 => vAddO P nt nx ρ H d op
    | k + 1 =>
      match vnil P H bop t (ρ x) (k + 1) with
      | some b => valO nt d (.one (.c (.bool b)))
      | none => none
  | .convert s t x =>
    match vconv P ρ H s t x with
    | some b => valO nt d (.one (.c (.string b)))
    | none => vAddO P nt nx ρ H d op
  | .slice t x lo hi mx =>
    match ρ x, mx with
    | some (.one (.sl b n xs)), none =>
      match vrow P ρ t b n xs lo hi with
      | some p => valO nt d p
      | none => none
    | some (.one (.own _)), _ => vAddO P nt nx ρ H d op
    | _, _ => vAddO P nt nx ρ H d op
  | _ => vAddO P nt nx ρ H d op

/-- The contracts that the evaluator may use. -/
structure Knows (P : Program) (gw : World) (gb : Nat) (cx : Cx) (io : Io) : Prop where
  cx : ∀ f args r B, cx f args = some (r, B) → VCall P gw gb f args r B
  io : ∀ f args Hin r B, io.run f args Hin = some (r, B) → VCallIO P gw gb f args Hin r B

section
variable {C : Core} {cx : Cx} {io : Io} {nt nx : Nat} {ρ : Operand → Option PV} {H : Id → Option Blk} {d : Option Nat} {op : Op} {U : Upd} {K : Upd → Prop}

theorem valO_ok {p : PV} (h : valO nt d p = some U) (hK : K U) : valK nt d K p := by
  unfold valO at h
  unfold valK
  cases d with
  | none => cases h
  | some d =>
    simp only at h ⊢
    split at h
    · cases h; exact ⟨‹_›, hK⟩
    · cases h
theorem addO_ok {o : Option (PV × Option Blk)} (h : addO nt d o = some U) (hK : K U) : addK nt d K o := by
  unfold addO at h
  unfold addK
  split at h
  · split at h
    · cases h; exact hK
    · split at h
      · cases h; exact ⟨‹_›, hK⟩
      · cases h
  · split at h
    · cases h
    · split at h
      · cases h; exact ⟨‹_›, hK⟩
      · cases h
  · cases h
theorem heapO_ok {o : Option (Id × Blk)} (h : heapO o = some U) (hK : K U) : heapK K o := by
  unfold heapO at h
  unfold heapK
  split at h
  · cases h; exact hK
  · cases h
theorem mvO_ok {o : Option (Option Id × Blk)} (h : mvO nt d o = some U) (hK : K U) : mvK nt d K o := by
  unfold mvO at h
  unfold mvK
  split at h
  · split at h
    · cases h
    · split at h
      · cases h; exact ⟨‹_›, hK⟩
      · cases h
  · cases h
theorem copyO_ok {o} (h : copyO nt d o = some U) (hK : K U) : copyK nt d K o := by
  unfold copyO at h
  unfold copyK
  split at h
  · exact valO_ok h hK
  · split at h
    · cases h
    · split at h
      · cases h; exact ⟨‹_›, hK⟩
      · cases h
  · cases h
theorem ioO_ok (hk : Knows C.P C.gw C.gb cx io) {all : Bool} {f : FuncId} {ps : List PV} {d : Nat} (h : ioO all io f d ps H = some U) (hK : K U) : ioE C.P C.gw C.gb f ps H (hold (fun M r B => K (.io d M r B)) (tok _)) := by
  unfold ioO at h
  simp only at h
  split at h
  · cases h
  · rename_i bs hb
    split at h
    · rename_i ht
      split at h
      · rename_i r B hc
        split at h
        · rename_i hs
          cases h
          refine ioE_introK _ _ (hk.io _ _ _ _ _ hc) hb rfl rfl ht ?_ hK
          rcases hs with hs | hs
          · left
            rwa [Bool.and_eq_true] at hs
          · exact .inr hs
        · cases h
      · cases h
    · cases h
theorem callO_ok (hk : Knows C.P C.gw C.gb cx io) {o : Option (FuncId × List PV)} (h : callO cx io C.nt H d o = some U) (hK : K U) : callK C H d K o := by
  unfold callO at h
  unfold callK
  split at h
  · rename_i f ps
    split at h
    · cases h
    · rename_i d
      split at h
      · rename_i hd
        refine ⟨hd, ?_⟩
        split at h
        · exact .inr (ioO_ok hk h hK)
        · exact .inr (ioO_ok hk h hK)
        · right
          unfold roO at h
          split at h
          · rename_i hf
            split at h
            · rename_i r B hc
              split at h
              · rename_i hs
                cases h
                rw [Bool.and_eq_true] at hs
                exact ioE_read (hk.cx _ _ _ _ hc) hf hs hK
              · cases h
            · cases h
          · cases h
        · split at h
          · rename_i hf
            left
            refine ⟨hf, ?_⟩
            split at h
            · rename_i r B hc
              split at h
              · rename_i hs
                cases h
                refine callE_intro (hk.cx _ _ _ _ hc) ?_ hK
                rcases hs with hs | hs
                · left
                  rwa [Bool.and_eq_true] at hs
                · exact .inr hs
              · cases h
            · cases h
          · exact .inr (ioO_ok hk h hK)
      · cases h
  · cases h
theorem opO_ok (hk : Knows C.P C.gw C.gb cx io) (hcu : C.cut = true) (h : opO C.P C.nt cx io nx ρ H d op = some U) (hK : K U) : opK C nx ρ H d op K := by
  cases op
  case call c =>
    simp only [opO] at h; simp only [opK]
    split at h
    · rename_i hc; simp only [hc]; exact callO_ok hk h hK
    · rename_i hc; simp only [hc]
      split at h
      · rename_i he; simp only [he]; exact valO_ok h hK
      · rename_i b he; simp only [he]; exact mvO_ok h hK
      · rename_i he; simp only [he]; exact mvO_ok h hK
    · rename_i hc; simp only [hc]; exact copyO_ok h hK
    · rename_i h1 h2 h3
      split
      · rename_i hc; exact absurd hc (h1 _)
      · rename_i hc; exact absurd hc h2
      · rename_i hc; exact absurd hc h3
      · exact addO_ok h hK
  case store t x y =>
    simp only [opO] at h; simp only [opK]
    cases d with
    | none => exact heapO_ok h hK
    | some _ => cases h
  case mapUpdate t m k x =>
    simp only [opO] at h; simp only [opK]
    cases d with
    | none => exact heapO_ok h hK
    | some _ => cases h
  case insert t m k x =>
    simp only [opO] at h; simp only [opK]
    cases d with
    | none => exact heapO_ok h hK
    | some _ => cases h
  case pick c x y =>
    simp only [opO] at h; simp only [opK]
    cases hv : vpick true ρ c x y with
    | none => rw [hv] at h; cases h
    | some b => rw [hv] at h; exact valO_ok h hK
  case binOp bop t x y ty =>
    simp only [opO] at h; simp only [opK]
    cases hn : isNilC y with
    | zero => simp only [hn] at h; exact addO_ok h hK
    | succ k =>
      simp only [hn] at h
      cases hv : vnil C.P H bop t (ρ x) (k + 1) with
      | none => rw [hv] at h; cases h
      | some b =>
        rw [hv] at h
        show match vnil C.P H bop t (ρ x) (k + 1) with
          | some b => valK C.nt d K (.one (.c (.bool b)))
          | none => False
        rw [hv]
        exact valO_ok h hK
  case convert s t x =>
    simp only [opO] at h; simp only [opK]
    cases hv : vconv C.P ρ H s t x with
    | none => rw [hv] at h; exact addO_ok h hK
    | some b => rw [hv] at h; exact valO_ok h hK
  case slice t x lo hi mx =>
    simp only [opO] at h; simp only [opK]
    split at h
    · rename_i hx
      simp only [hx]
      split at h
      · rename_i hv; simp only [hv]; exact valO_ok h hK
      · cases h
    · rename_i hx; simp only [hx, hcu]; exact addO_ok h hK
    · rename_i h1 h2
      split
      · rename_i hx; exact (‹∀ (b : Bool) (n : Nat) (xs : List PC), ρ x = some (PV.one (PC.sl b n xs)) → _ → False› _ _ _ hx rfl).elim
      · rename_i hx; exact (‹∀ (i : Id), ρ x = some (PV.one (PC.own i)) → False› _ hx).elim
      · exact addO_ok h hK
  all_goals
    simp only [opO] at h; simp only [opK]
    exact addO_ok h hK
end
end Go.Vm
end

section
namespace Go.Vm
open Go Go.RowKit
set_option linter.unusedVariables false

/-! ### The same, faster: the operations that come most often -/
theorem wrap_i64 {m : Nat} (h : Nat.ble m 9223372036854775807 = true) : IntKind.wrap .i64 (Int.ofNat m) = Int.ofNat m := by
  have h := Nat.le_of_ble_eq_true h
  have e1 : (2 : Int) ^ IntKind.i64.bits = 18446744073709551616 := rfl
  have e2 : (2 : Int) ^ (IntKind.i64.bits - 1) = 9223372036854775808 := rfl
  have e3 : IntKind.i64.signed = true := rfl
  have e4 : (Int.ofNat m) % 18446744073709551616 = Int.ofNat m := by
    rw [Int.ofNat_eq_natCast]; omega
  unfold IntKind.wrap
  simp only [e1, e2, e3, e4, Bool.true_and]
  rw [if_neg]
  simp only [ge_iff_le, decide_eq_true_eq, Int.ofNat_eq_natCast]; omega
noncomputable def fAdd (a b : Int) : Option Value :=
  Int.casesOn (motive := fun _ => Option Value) a (fun m => Int.casesOn (motive := fun _ => Option Value) b
    (fun n => cond (Nat.ble (Nat.add m n) 9223372036854775807) (some (.int .i64 (.ofNat (Nat.add m n)))) (vbinI .add .i64 a b)) (fun _ => vbinI .add .i64 a b)) (fun _ => vbinI .add .i64 a b)
noncomputable def fSub (a b : Int) : Option Value :=
  Int.casesOn (motive := fun _ => Option Value) a (fun m => Int.casesOn (motive := fun _ => Option Value) b
    (fun n => cond (Nat.ble n m) (cond (Nat.ble m 9223372036854775807) (some (.int .i64 (.ofNat (Nat.sub m n)))) (vbinI .sub .i64 a b)) (vbinI .sub .i64 a b)) (fun _ => vbinI .sub .i64 a b)) (fun _ => vbinI .sub .i64 a b)
noncomputable def fCmp (op : BinOp) (F : Nat → Nat → Bool) (a b : Int) : Option Value :=
  Int.casesOn (motive := fun _ => Option Value) a (fun m => Int.casesOn (motive := fun _ => Option Value) b
    (fun n => some (.bool (F m n))) (fun _ => vbinI op .i64 a b)) (fun _ => vbinI op .i64 a b)
noncomputable def arI (op : BinOp) : Int → Int → Option Value :=
  BinOp.casesOn (motive := fun _ => Int → Int → Option Value) op
    fAdd fSub (vbinI .mul .i64) (vbinI .quo .i64) (vbinI .rem .i64) (vbinI .and .i64) (vbinI .or .i64) (vbinI .xor .i64) (vbinI .shl .i64) (vbinI .shr .i64) (vbinI .andNot .i64)
    (fCmp .eql Nat.beq) (fCmp .neq fun m n => not (Nat.beq m n)) (fCmp .lss Nat.blt) (fCmp .leq Nat.ble) (fCmp .gtr fun m n => Nat.blt n m) (fCmp .geq fun m n => Nat.ble n m)
theorem blt_iff (m n : Nat) : Nat.blt m n = decide (m < n) := by
  by_cases h : m < n
  · rw [decide_eq_true h]; exact Nat.ble_eq_true_of_le h
  · rw [decide_eq_false h]
    cases hb : Nat.blt m n with
    | false => rfl
    | true => exact absurd (Nat.le_of_ble_eq_true hb) h
theorem ble_iff (m n : Nat) : Nat.ble m n = decide (m ≤ n) := by
  by_cases h : m ≤ n
  · rw [decide_eq_true h]; exact Nat.ble_eq_true_of_le h
  · rw [decide_eq_false h]
    cases hb : Nat.ble m n with
    | false => rfl
    | true => exact absurd (Nat.le_of_ble_eq_true hb) h
theorem beq_iff (m n : Nat) : Nat.beq m n = decide (m = n) := by
  by_cases h : m = n
  · subst h; rw [decide_eq_true rfl]; exact Nat.beq_refl m
  · rw [decide_eq_false h]
    cases hb : Nat.beq m n with
    | false => rfl
    | true => exact absurd (Nat.eq_of_beq_eq_true hb) h
theorem arI_eq (op : BinOp) (a b : Int) : arI op a b = vbinI op .i64 a b := by
  cases op
  case add =>
    show fAdd a b = _
    unfold fAdd
    cases a <;> cases b <;> try rfl
    rename_i m n
    simp only
    cases h : Nat.ble (Nat.add m n) 9223372036854775807 with
    | false => rfl
    | true =>
      show some (Value.int .i64 (.ofNat (m + n))) = some (.int .i64 (IntKind.wrap .i64 (Int.ofNat m + Int.ofNat n)))
      rw [show Int.ofNat m + Int.ofNat n = Int.ofNat (m + n) from rfl, wrap_i64 (m := m + n) h]
  case sub =>
    show fSub a b = _
    unfold fSub
    cases a <;> cases b <;> try rfl
    rename_i m n
    simp only
    cases h : Nat.ble n m with
    | false => rfl
    | true =>
      cases h' : Nat.ble m 9223372036854775807 with
      | false => rfl
      | true =>
        have h1 := Nat.le_of_ble_eq_true h
        have h2 := Nat.le_of_ble_eq_true h'
        show some (Value.int .i64 (.ofNat (m - n))) = some (.int .i64 (IntKind.wrap .i64 (Int.ofNat m - Int.ofNat n)))
        rw [show Int.ofNat m - Int.ofNat n = Int.ofNat (m - n) from by simp only [Int.ofNat_eq_natCast]; omega, wrap_i64 (Nat.ble_eq_true_of_le (by omega))]
  case eql =>
    show fCmp .eql Nat.beq a b = _
    unfold fCmp
    cases a <;> cases b <;> try rfl
    rename_i m n
    show some (Value.bool (Nat.beq m n)) = some (.bool (Int.ofNat m == Int.ofNat n))
    rw [beq_iff]
    by_cases h : m = n
    · subst h; simp
    · rw [decide_eq_false h]
      congr 2
      symm
      rw [beq_eq_false_iff_ne]
      simp only [Int.ofNat_eq_natCast, ne_eq]; omega
  case neq =>
    show fCmp .neq _ a b = _
    unfold fCmp
    cases a <;> cases b <;> try rfl
    rename_i m n
    show some (Value.bool (!(Nat.beq m n))) = some (.bool (Int.ofNat m != Int.ofNat n))
    rw [beq_iff]
    by_cases h : m = n
    · subst h; simp
    · rw [decide_eq_false h]
      congr 2
      symm
      show (Int.ofNat m != Int.ofNat n) = true
      rw [bne_iff_ne]
      simp only [Int.ofNat_eq_natCast, ne_eq]; omega
  case lss =>
    show fCmp .lss Nat.blt a b = _
    unfold fCmp
    cases a <;> cases b <;> try rfl
    rename_i m n
    show some (Value.bool (Nat.blt m n)) = some (.bool (decide (Int.ofNat m < Int.ofNat n)))
    rw [blt_iff]
    simp only [Int.ofNat_eq_natCast, Int.ofNat_lt]
  case leq =>
    show fCmp .leq Nat.ble a b = _
    unfold fCmp
    cases a <;> cases b <;> try rfl
    rename_i m n
    show some (Value.bool (Nat.ble m n)) = some (.bool (decide (Int.ofNat m ≤ Int.ofNat n)))
    rw [ble_iff]
    simp only [Int.ofNat_eq_natCast, Int.ofNat_le]
  case gtr =>
    show fCmp .gtr _ a b = _
    unfold fCmp
    cases a <;> cases b <;> try rfl
    rename_i m n
    show some (Value.bool (Nat.blt n m)) = some (.bool (decide (Int.ofNat n < Int.ofNat m)))
    rw [blt_iff]
    simp only [Int.ofNat_eq_natCast, Int.ofNat_lt]
  case geq =>
    show fCmp .geq _ a b = _
    unfold fCmp
    cases a <;> cases b <;> try rfl
    rename_i m n
    show some (Value.bool (Nat.ble n m)) = some (.bool (decide (Int.ofNat n ≤ Int.ofNat m)))
    rw [ble_iff]
    simp only [Int.ofNat_eq_natCast, Int.ofNat_le]
  all_goals rfl

/-- The value, or else what is told otherwise. -/
noncomputable def vO (nt : Nat) (d : Option Nat) (fb : Option Upd) (o : Option PV) : Option Upd := Option.casesOn (motive := fun _ => Option Upd) o fb (fun p => valO nt d p)
noncomputable def cO (nt : Nat) (d : Option Nat) (fb : Option Upd) (o : Option Value) : Option Upd := Option.casesOn (motive := fun _ => Option Upd) o fb (fun v => valO nt d (.one (.c v)))
noncomputable def i64Of (p : Option PV) : Option Int :=
  match p with
  | some (.one (.c (.int .i64 a))) => some a
  | _ => none
noncomputable def bBin (nt : Nat) (d : Option Nat) (fb : Option Upd) (bop : BinOp) (px py : Option PV) : Option Upd :=
  Option.casesOn (motive := fun _ => Option Upd) (i64Of px) fb fun a => Option.casesOn (motive := fun _ => Option Upd) (i64Of py) fb fun b => cO nt d fb (arI bop a b)
noncomputable def bLoad (P : Program) (nt : Nat) (d : Option Nat) (fb : Option Upd) (H : Id → Option Blk) (t : TypeId) (px : Option PV) : Option Upd :=
  Option.casesOn (motive := fun _ => Option Upd) px fb fun p => Option.casesOn (motive := fun _ => Option Upd) (behind H p) fb fun ys => vO nt d fb (takeT P t ys)
noncomputable def tupG (p : Option PV) (j : Nat) : Option PV :=
  match p with
  | some (.tup vs) => vs[j]?
  | _ => none
noncomputable def bIdx (P : Program) (nt : Nat) (d : Option Nat) (fb : Option Upd) (H : Id → Option Blk) (t : TypeId) (px pj : Option PV) : Option Upd :=
  Option.casesOn (motive := fun _ => Option Upd) px fb fun p => Option.casesOn (motive := fun _ => Option Upd) (i64Of pj) fb fun k => vO nt d fb (vidx P H t k p)
noncomputable def bField (P : Program) (nt : Nat) (d : Option Nat) (fb : Option Upd) (fd : Option Field) (px : Option PV) : Option Upd :=
  match fd with
  | some fd =>
    match px with
    | some (.agg ps) => vO nt d fb (takeT P fd.type (ps.drop fd.offset))
    | _ => fb
  | none => fb
noncomputable def bStore (d : Option Nat) (o : Option (Id × Blk)) : Option Upd :=
  match d with
  | none => heapO o
  | some _ => none
noncomputable def bCall (cx : Cx) (io : Io) (nt : Nat) (ρ : Operand → Option PV) (H : Id → Option Blk) (d : Option Nat) (fb : Option Upd) (c : Call) : Option Upd :=
  match c.callee with
  | .value _ => callO cx io nt H d (callOf ρ c)
  | _ => fb
noncomputable def bNil (fb g : Option Upd) (n : Nat) : Option Upd := Nat.casesOn (motive := fun _ => Option Upd) n g (fun _ => fb)

noncomputable def opF (P : Program) (nt : Nat) (cx : Cx) (io : Io) (nx : Nat) (ρ : Operand → Option PV) (H : Id → Option Blk) (d : Option Nat) (op : Op) : Option Upd :=
  match op with
  | .move x => vO nt d (opO P nt cx io nx ρ H d op) (ρ x)
  | .assign x => vO nt d (opO P nt cx io nx ρ H d op) (ρ x)
  | .binOp bop t x y ty => bNil (opO P nt cx io nx ρ H d op) (bBin nt d (opO P nt cx io nx ρ H d op) bop (ρ x) (ρ y)) (isNilC y)
  | .load t x => bLoad P nt d (opO P nt cx io nx ρ H d op) H t (ρ x)
  | .extract x j => vO nt d (opO P nt cx io nx ρ H d op) (tupG (ρ x) j)
  | .indexAddr t x j => bIdx P nt d (opO P nt cx io nx ρ H d op) H t (ρ x) (ρ j)
  | .field t x f => bField P nt d (opO P nt cx io nx ρ H d op) (fieldT P t f) (ρ x)
  | .store t x y => bStore d (vstore P ρ H t x y)
  | .call c => bCall cx io nt ρ H d (opO P nt cx io nx ρ H d op) c
  | op => opO P nt cx io nx ρ H d op

section
variable {P : Program} {nt : Nat} {cx : Cx} {io : Io} {nx : Nat} {ρ : Operand → Option PV} {H : Id → Option Blk} {d : Option Nat} {op : Op} {U : Upd} {fb : Option Upd}
theorem addO_val {p : PV} (h : valO nt d p = some U) : addO nt d (some (p, none)) = some U := by
  unfold valO at h
  cases d with
  | none => cases h
  | some d => exact h
theorem vO_ok {o : Option PV} (hfb : fb = some U → opO P nt cx io nx ρ H d op = some U) (hv : ∀ p, o = some p → valO nt d p = some U → opO P nt cx io nx ρ H d op = some U) (h : vO nt d fb o = some U) : opO P nt cx io nx ρ H d op = some U := by
  unfold vO at h
  cases o with
  | none => exact hfb h
  | some p => exact hv p rfl h
theorem i64Of_some {p : Option PV} {a : Int} (h : i64Of p = some a) : p = some (.one (.c (.int .i64 a))) := by
  unfold i64Of at h
  split at h
  · cases h; rfl
  · cases h
theorem opF_ok (h : opF P nt cx io nx ρ H d op = some U) : opO P nt cx io nx ρ H d op = some U := by
  cases op
  case move x =>
    refine vO_ok id (fun p hp hv => ?_) h
    simp only [opO, vAddO, vAll, vAdd, hp, Option.map_some]
    exact addO_val hv
  case assign x =>
    refine vO_ok id (fun p hp hv => ?_) h
    simp only [opO, vAddO, vAll, vAdd, hp, Option.map_some]
    exact addO_val hv
  case binOp bop t x y ty =>
    simp only [opF, bNil] at h
    cases hn : isNilC y with
    | succ k => rw [hn] at h; exact h
    | zero =>
      rw [hn] at h
      simp only [bBin] at h
      cases ha : i64Of (ρ x) with
      | none => rw [ha] at h; exact h
      | some a =>
        cases hb : i64Of (ρ y) with
        | none => rw [ha, hb] at h; exact h
        | some b =>
          rw [ha, hb] at h
          simp only [cO, arI_eq] at h
          cases hv : vbinI bop .i64 a b with
          | none => rw [hv] at h; exact h
          | some v =>
            rw [hv] at h
            simp only [opO, hn, vAddO, vAll, vAdd, i64Of_some ha, i64Of_some hb, vbin, true_or, if_true, hv, Option.map_some]
            exact addO_val h
  case load t x =>
    simp only [opF, bLoad] at h
    cases hx : ρ x with
    | none => rw [hx] at h; exact h
    | some p =>
      rw [hx] at h
      simp only at h
      cases hb : behind H p with
      | none => rw [hb] at h; exact h
      | some ys =>
        rw [hb] at h
        refine vO_ok id (fun q hq hv => ?_) h
        simp only [opO, vAddO, vAll, vAdd, hx, Option.bind_some, hb, hq, Option.map_some]
        exact addO_val hv
  case extract x j =>
    refine vO_ok id (fun p hp hv => ?_) h
    unfold tupG at hp
    split at hp
    · rename_i vs hx
      simp only [opO, vAddO, vAll, vAdd, hx, hp, Option.map_some]
      exact addO_val hv
    · cases hp
  case indexAddr t x j =>
    simp only [opF, bIdx] at h
    cases hx : ρ x with
    | none => rw [hx] at h; exact h
    | some p =>
      rw [hx] at h
      simp only at h
      cases hj : i64Of (ρ j) with
      | none => rw [hj] at h; exact h
      | some k =>
        rw [hj] at h
        refine vO_ok id (fun q hq hv => ?_) h
        simp only [opO, vAddO, vAll, vAdd, hx, i64Of_some hj, Option.bind_some, asI, hq, Option.map_some]
        exact addO_val hv
  case field t x f =>
    simp only [opF, bField] at h
    cases hf : fieldT P t f with
    | none => rw [hf] at h; exact h
    | some fd =>
      rw [hf] at h
      simp only at h
      split at h
      · rename_i ps hx
        refine vO_ok id (fun q hq hv => ?_) h
        simp only [opO, vAddO, vAll, vAdd, hf, hx, hq, Option.map_some]
        exact addO_val hv
      · exact h
  case store t x y => exact h
  case call c =>
    simp only [opF, bCall] at h
    split at h
    · rename_i hc
      simp only [opO, hc]
      exact h
    · exact h
  all_goals exact h
end
end Go.Vm
end

section
namespace Go.Vm
open Go Go.RowKit
set_option linter.unusedVariables false

/-! ### States that are computed with -/
inductive Tr (α : Type) where
  | leaf
  | node (l : Tr α) (v : Option α) (r : Tr α)
namespace Tr
variable {α : Type}
noncomputable def left : Tr α → Tr α := fun t => Tr.casesOn (motive := fun _ => Tr α) t .leaf (fun l _ _ => l)
noncomputable def mid : Tr α → Option α := fun t => Tr.casesOn (motive := fun _ => Option α) t none (fun _ v _ => v)
noncomputable def right : Tr α → Tr α := fun t => Tr.casesOn (motive := fun _ => Tr α) t .leaf (fun _ _ r => r)
/-- Keys from 1 on: 1 is here, odd ones left, even ones right. -/
noncomputable def getP (t : Tr α) : Nat → Option α := Tr.rec (motive := fun _ => Nat → Option α) (fun _ => none)
  (fun _ v _ gl gr k => cond (Nat.beq k 1) v (cond (Nat.beq (Nat.mod k 2) 1) (gl (Nat.div k 2)) (gr (Nat.div k 2)))) t
/-- The tree, looked at before it is handed on. -/
noncomputable def frc (t : Tr α) (F : Tr α → Tr α) : Tr α := Tr.casesOn (motive := fun _ => Tr α) t (F .leaf) (fun l v r => F (.node l v r))
theorem frc_eq (t : Tr α) (F : Tr α → Tr α) : frc t F = F t := by cases t <;> rfl
noncomputable def setP (f : Nat) : Tr α → Nat → Option α → Tr α := Nat.rec (motive := fun _ => Tr α → Nat → Option α → Tr α) (fun t _ _ => t)
  (fun _ ih t k v => Tr.casesOn (motive := fun _ => Tr α) t
    (cond (Nat.beq k 1) (Tr.node .leaf v .leaf) (cond (Nat.beq (Nat.mod k 2) 1) (frc (ih .leaf (Nat.div k 2) v) fun l => .node l none .leaf) (frc (ih .leaf (Nat.div k 2) v) fun r => .node .leaf none r)))
    (fun l m r => cond (Nat.beq k 1) (Tr.node l v r) (cond (Nat.beq (Nat.mod k 2) 1) (frc (ih l (Nat.div k 2) v) fun l => .node l m r) (frc (ih r (Nat.div k 2) v) fun r => .node l m r)))) f
noncomputable def get (t : Tr α) (n : Nat) : Option α := getP t (Nat.succ n)
noncomputable def set (_ : Nat) (t : Tr α) (n : Nat) (v : Option α) : Option (Tr α) := some (setP (Nat.succ n) t (Nat.succ n) v)
theorem getP_leaf (k : Nat) : getP (.leaf : Tr α) k = none := rfl
theorem getP_node (l r : Tr α) (v : Option α) (k : Nat) : getP (.node l v r) k = if k = 1 then v else if k % 2 = 1 then l.getP (k / 2) else r.getP (k / 2) := by
  show cond (Nat.beq k 1) v (cond (Nat.beq (k % 2) 1) (l.getP (k / 2)) (r.getP (k / 2))) = _
  by_cases h1 : k = 1
  · subst h1; rfl
  · have e1 : Nat.beq k 1 = false := by cases h : Nat.beq k 1 with | false => rfl | true => exact absurd (Nat.eq_of_beq_eq_true h) h1
    rw [e1, if_neg h1]
    by_cases h2 : k % 2 = 1
    · rw [if_pos h2, h2]; rfl
    · have e2 : Nat.beq (k % 2) 1 = false := by cases h : Nat.beq (k % 2) 1 with | false => rfl | true => exact absurd (Nat.eq_of_beq_eq_true h) h2
      rw [e2, if_neg h2]; rfl
theorem getP_eq (t : Tr α) (k : Nat) : t.getP k = if k = 1 then t.mid else if k % 2 = 1 then t.left.getP (k / 2) else t.right.getP (k / 2) := by
  cases t with
  | leaf =>
    show none = if k = 1 then none else if k % 2 = 1 then none else none
    split <;> simp
  | node l v r => exact getP_node l r v k
theorem setP_succ (f : Nat) (t : Tr α) (k : Nat) (v : Option α) : setP (f + 1) t k v = if k = 1 then .node t.left v t.right else if k % 2 = 1 then .node (setP f t.left (k / 2) v) t.mid t.right else .node t.left t.mid (setP f t.right (k / 2) v) := by
  have hs : setP (f + 1) t k v = cond (Nat.beq k 1) (Tr.node t.left v t.right) (cond (Nat.beq (k % 2) 1) (Tr.node (setP f t.left (k / 2) v) t.mid t.right) (Tr.node t.left t.mid (setP f t.right (k / 2) v))) := by
    cases t with
    | leaf =>
      show cond (Nat.beq k 1) _ (cond (Nat.beq (k % 2) 1) (frc (setP f .leaf (k / 2) v) _) (frc (setP f .leaf (k / 2) v) _)) = _
      rw [frc_eq, frc_eq]; rfl
    | node l m r =>
      show cond (Nat.beq k 1) _ (cond (Nat.beq (k % 2) 1) (frc (setP f l (k / 2) v) _) (frc (setP f r (k / 2) v) _)) = _
      rw [frc_eq, frc_eq]; rfl
  rw [hs]
  by_cases h1 : k = 1
  · subst h1; rfl
  · have e1 : Nat.beq k 1 = false := by cases h : Nat.beq k 1 with | false => rfl | true => exact absurd (Nat.eq_of_beq_eq_true h) h1
    rw [e1, if_neg h1]
    by_cases h2 : k % 2 = 1
    · rw [if_pos h2, h2]; rfl
    · have e2 : Nat.beq (k % 2) 1 = false := by cases h : Nat.beq (k % 2) 1 with | false => rfl | true => exact absurd (Nat.eq_of_beq_eq_true h) h2
      rw [e2, if_neg h2]; rfl
theorem getP_setP : ∀ (f : Nat) (t : Tr α) (k : Nat) (v : Option α) (m : Nat), 0 < k → k ≤ f → 0 < m → (setP f t k v).getP m = if m = k then v else t.getP m
  | 0, t, k, v, m, hk, hf, hm => by omega
  | f + 1, t, k, v, m, hk, hf, hm => by
    rw [setP_succ, getP_eq t m]
    by_cases h1 : k = 1
    · subst h1
      rw [if_pos rfl, getP_node]
      by_cases hm1 : m = 1
      · rw [if_pos hm1, if_pos hm1]
      · rw [if_neg hm1, if_neg hm1, if_neg hm1]
    · rw [if_neg h1]
      by_cases h2 : k % 2 = 1
      · rw [if_pos h2, getP_node]
        by_cases hm1 : m = 1
        · rw [if_pos hm1, if_neg (by omega), if_pos hm1]
        · rw [if_neg hm1, if_neg hm1]
          by_cases hm2 : m % 2 = 1
          · rw [if_pos hm2, if_pos hm2, getP_setP f t.left (k / 2) v (m / 2) (by omega) (by omega) (by omega)]
            by_cases hmk : m = k
            · rw [if_pos hmk, if_pos (by omega)]
            · rw [if_neg hmk, if_neg (by omega)]
          · rw [if_neg hm2, if_neg hm2, if_neg (by omega)]
      · rw [if_neg h2, getP_node]
        by_cases hm1 : m = 1
        · rw [if_pos hm1, if_neg (by omega), if_pos hm1]
        · rw [if_neg hm1, if_neg hm1]
          by_cases hm2 : m % 2 = 1
          · rw [if_pos hm2, if_pos hm2, if_neg (by omega)]
          · rw [if_neg hm2, if_neg hm2, getP_setP f t.right (k / 2) v (m / 2) (by omega) (by omega) (by omega)]
            by_cases hmk : m = k
            · rw [if_pos hmk, if_pos (by omega)]
            · rw [if_neg hmk, if_neg (by omega)]
theorem get_set {f : Nat} {t t' : Tr α} {n : Nat} {v : Option α} (h : t.set f n v = some t') (m : Nat) : t'.get m = if m = n then v else t.get m := by
  cases h
  show (setP (n + 1) t (n + 1) v).getP (m + 1) = _
  rw [getP_setP _ _ _ _ _ (by omega) (by omega) (by omega)]
  by_cases hmn : m = n
  · subst hmn; rw [if_pos rfl, if_pos rfl]
  · rw [if_neg (by omega), if_neg hmn]; rfl

/-! By paths that are known beforehand -/
inductive Pth where
  | e
  | l (p : Pth)
  | r (p : Pth)
noncomputable def pathP (f : Nat) : Nat → Pth := Nat.rec (motive := fun _ => Nat → Pth) (fun _ => .e) (fun _ ih k => cond (Nat.beq k 1) .e (cond (Nat.beq (Nat.mod k 2) 1) (.l (ih (Nat.div k 2))) (.r (ih (Nat.div k 2))))) f
noncomputable def path (n : Nat) : Pth := pathP (Nat.succ n) (Nat.succ n)
def unpath : Pth → Nat
  | .e => 1
  | .l p => 2 * unpath p + 1
  | .r p => 2 * unpath p
theorem unpath_pathP : ∀ (f k : Nat), 0 < k → k ≤ f → unpath (pathP f k) = k
  | 0, k, hk, hf => by omega
  | f + 1, k, hk, hf => by
    show unpath (cond (Nat.beq k 1) .e (cond (Nat.beq (k % 2) 1) (.l (pathP f (k / 2))) (.r (pathP f (k / 2))))) = k
    by_cases h1 : k = 1
    · subst h1; rfl
    · have e1 : Nat.beq k 1 = false := by cases h : Nat.beq k 1 with | false => rfl | true => exact absurd (Nat.eq_of_beq_eq_true h) h1
      have ih := unpath_pathP f (k / 2) (by omega) (by omega)
      rw [e1]
      by_cases h2 : k % 2 = 1
      · rw [h2]
        show 2 * unpath (pathP f (k / 2)) + 1 = k
        rw [ih]; omega
      · have e2 : Nat.beq (k % 2) 1 = false := by cases h : Nat.beq (k % 2) 1 with | false => rfl | true => exact absurd (Nat.eq_of_beq_eq_true h) h2
        rw [e2]
        show 2 * unpath (pathP f (k / 2)) = k
        rw [ih]; omega
theorem path_inj {n m : Nat} (h : path n = path m) : n = m := by
  have := congrArg unpath h
  unfold path at this
  rw [unpath_pathP _ _ (by omega) (Nat.le_refl _), unpath_pathP _ _ (by omega) (Nat.le_refl _)] at this
  omega
noncomputable def getQ (p : Pth) : Tr α → Option α := Pth.rec (motive := fun _ => Tr α → Option α)
  (fun t => Tr.casesOn (motive := fun _ => Option α) t none (fun _ v _ => v))
  (fun _ ih t => Tr.casesOn (motive := fun _ => Option α) t none (fun l _ _ => ih l))
  (fun _ ih t => Tr.casesOn (motive := fun _ => Option α) t none (fun _ _ r => ih r)) p
noncomputable def setQ (v : Option α) (p : Pth) : Tr α → Tr α := Pth.rec (motive := fun _ => Tr α → Tr α)
  (fun t => Tr.casesOn (motive := fun _ => Tr α) t (.node .leaf v .leaf) (fun l _ r => .node l v r))
  (fun _ ih t => Tr.casesOn (motive := fun _ => Tr α) t (frc (ih .leaf) fun l => .node l none .leaf) (fun l m r => frc (ih l) fun l => .node l m r))
  (fun _ ih t => Tr.casesOn (motive := fun _ => Tr α) t (frc (ih .leaf) fun r => .node .leaf none r) (fun l m r => frc (ih r) fun r => .node l m r)) p
theorem getQ_leaf (p : Pth) : getQ p (.leaf : Tr α) = none := by cases p <;> rfl
theorem getQ_same {v : Option α} : ∀ (p : Pth) (t : Tr α), getQ p (setQ v p t) = v
  | .e, t => by cases t <;> rfl
  | .l p, t => by
    cases t with
    | leaf =>
      show getQ (.l p) (frc (setQ v p .leaf) fun l => .node l none .leaf) = _
      rw [frc_eq]
      exact getQ_same p .leaf
    | node l m r =>
      show getQ (.l p) (frc (setQ v p l) fun l => .node l m r) = _
      rw [frc_eq]
      exact getQ_same p l
  | .r p, t => by
    cases t with
    | leaf =>
      show getQ (.r p) (frc (setQ v p .leaf) fun r => .node .leaf none r) = _
      rw [frc_eq]
      exact getQ_same p .leaf
    | node l m r =>
      show getQ (.r p) (frc (setQ v p r) fun r => .node l m r) = _
      rw [frc_eq]
      exact getQ_same p r
theorem getQ_other {v : Option α} : ∀ (p q : Pth) (t : Tr α), q ≠ p → getQ q (setQ v p t) = getQ q t
  | .e, q, t, h => by
    cases q with
    | e => exact absurd rfl h
    | l q => cases t <;> first | exact getQ_leaf q | rfl
    | r q => cases t <;> first | exact getQ_leaf q | rfl
  | .l p, q, t, h => by
    cases t with
    | leaf =>
      show getQ q (frc (setQ v p .leaf) fun l => .node l none .leaf) = _
      rw [frc_eq]
      cases q with
      | l q => exact (getQ_other p q .leaf fun e => h (by rw [e])).trans (getQ_leaf q)
      | e => rfl
      | r q => exact getQ_leaf q
    | node l m r =>
      show getQ q (frc (setQ v p l) fun l => .node l m r) = _
      rw [frc_eq]
      cases q with
      | l q => exact getQ_other p q l fun e => h (by rw [e])
      | e => rfl
      | r q => rfl
  | .r p, q, t, h => by
    cases t with
    | leaf =>
      show getQ q (frc (setQ v p .leaf) fun r => .node .leaf none r) = _
      rw [frc_eq]
      cases q with
      | r q => exact (getQ_other p q .leaf fun e => h (by rw [e])).trans (getQ_leaf q)
      | e => rfl
      | l q => exact getQ_leaf q
    | node l m r =>
      show getQ q (frc (setQ v p r) fun r => .node l m r) = _
      rw [frc_eq]
      cases q with
      | r q => exact getQ_other p q r fun e => h (by rw [e])
      | e => rfl
      | l q => rfl
noncomputable def getF (t : Tr α) (n : Nat) : Option α := getQ (path n) t
noncomputable def setF (t : Tr α) (n : Nat) (v : Option α) : Tr α := setQ v (path n) t
theorem getF_setF (t : Tr α) (n : Nat) (v : Option α) (m : Nat) : (t.setF n v).getF m = if m = n then v else t.getF m := by
  unfold getF setF
  by_cases h : m = n
  · subst h; rw [if_pos rfl]; exact getQ_same _ _
  · rw [if_neg h]; exact getQ_other _ _ _ fun e => h (path_inj e)
end Tr

structure S where
  fr : Tr PV
  H : Tr (Tr Blk)
  us : List Nat
  nx : Nat
  al : Bool
noncomputable def getH (H : Tr (Tr Blk)) (i : Id) : Option Blk :=
  match H.get i.1 with
  | some t => t.get i.2
  | none => none
noncomputable def S.abs (s : S) : St := ⟨s.fr.getF, getH s.H, fun d => memN d s.us, s.nx, fun _ => none⟩

noncomputable def setH (H : Tr (Tr Blk)) (i : Id) (b : Option Blk) : Option (Tr (Tr Blk)) :=
  match ((H.get i.1).getD .leaf).set 64 i.2 b with
  | some t => H.set 64 i.1 (some t)
  | none => none
theorem getH_setH {H H' : Tr (Tr Blk)} {i : Id} {b : Option Blk} (h : setH H i b = some H') : getH H' = upd (getH H) i b := by
  unfold setH at h
  split at h
  · rename_i t ht
    funext j
    have h1 := Tr.get_set h j.1
    have h2 := Tr.get_set ht j.2
    show (match H'.get j.1 with | some t => t.get j.2 | none => none) = if j = i then b else (match H.get j.1 with | some t => t.get j.2 | none => none)
    rw [h1]
    by_cases hj : j.1 = i.1
    · rw [if_pos hj]
      show t.get j.2 = _
      rw [h2]
      by_cases hj2 : j.2 = i.2
      · rw [if_pos hj2, if_pos (Prod.ext hj hj2)]
      · rw [if_neg hj2, if_neg (fun e => hj2 (by rw [e])), hj]
        cases H.get i.1 <;> rfl
    · rw [if_neg hj, if_neg (fun e => hj (by rw [e]))]
  · cases h
noncomputable def chgH : Tr (Tr Blk) → List (Id × Option Blk) → Option (Tr (Tr Blk))
  | H, [] => some H
  | H, c :: L =>
    match setH H c.1 c.2 with
    | some H' => chgH H' L
    | none => none
theorem getH_chgH : ∀ {L : List (Id × Option Blk)} {H H' : Tr (Tr Blk)}, chgH H L = some H' → getH H' = applyC (getH H) L
  | [], H, H', h => by cases h; rfl
  | c :: L, H, H', h => by
    unfold chgH at h
    split at h
    · rename_i H1 h1
      rw [getH_chgH h, getH_setH h1]; rfl
    · cases h

/-- What changes: frame, blocks, names that are taken. -/
noncomputable def S.app (s : S) (U : Upd) : Option S :=
  match s with
  | ⟨fr, H, us, nx, al⟩ =>
    match U with
    | .val none _ => some ⟨fr, H, us, nx, al⟩
    | .val (some d) p => some ⟨fr.setF d (some p), H, us, nx, al⟩
    | .heap i b =>
      match setH H i (some b) with
      | some H' => some ⟨fr, H', us, nx, al⟩
      | none => none
    | .new d p b =>
      match chgH H ((Upd.new d p b).chg nx) with
      | some H' => some ⟨fr.setF d ((Upd.new d p b).v nx), H', d :: us, nx, true⟩
      | none => none
    | .call d r B =>
      match chgH H ((Upd.call d r B).chg nx) with
      | some H' => some ⟨fr.setF d ((Upd.call d r B).v nx), H', d :: us, nx, true⟩
      | none => none
    | .mv d k b =>
      match chgH H ((Upd.mv d k b).chg nx) with
      | some H' => some ⟨fr.setF d ((Upd.mv d k b).v nx), H', d :: us, nx, true⟩
      | none => none
    | .io d M r B =>
      match chgH H ((Upd.io d M r B).chg nx) with
      | some H' => some ⟨fr.setF d ((Upd.io d M r B).v nx), H', d :: us, nx, true⟩
      | none => none
theorem memN_cons (d : Nat) (us : List Nat) : (fun m => memN m (d :: us)) = upd (fun m => memN m us) d true := by
  funext m
  show cond (Nat.beq d m) true (memN m us) = if m = d then true else memN m us
  cases h : Nat.beq d m with
  | true => rw [if_pos (Nat.eq_of_beq_eq_true h).symm]; rfl
  | false => rw [if_neg (fun e => by rw [e, Nat.beq_refl] at h; cases h)]; rfl
theorem S.app_ok {s s' : S} {U : Upd} (h : s.app U = some s') : s'.abs = U.app s.abs := by
  obtain ⟨fr, H, us, nx, al⟩ := s
  have hst : ∀ (σ τ : St), σ.fr = τ.fr → σ.H = τ.H → σ.us = τ.us → σ.nx = τ.nx → σ.gh = τ.gh → σ = τ := by
    intro σ τ h1 h2 h3 h4 h5
    cases σ; cases τ
    simp only at h1 h2 h3 h4 h5
    subst h1 h2 h3 h4 h5
    rfl
  have hfr : ∀ d v, (fr.setF d v).getF = upd fr.getF d v := by intro d v; funext m; rw [Tr.getF_setF]; rfl
  unfold S.app at h
  cases U with
  | val d p =>
    cases d with
    | none => cases h; rfl
    | some d =>
      cases h
      exact hst _ _ (hfr d _) rfl rfl rfl rfl
  | heap i b =>
    simp only at h
    split at h
    · rename_i H' hH
      cases h
      exact hst _ _ rfl (getH_setH hH) rfl rfl rfl
    · cases h
  | _ =>
    simp only at h
    split at h
    · rename_i H' hH
      cases h
      refine hst _ _ (hfr _ _) ?_ (memN_cons _ _) rfl rfl
      rw [app_H]
      exact getH_chgH hH
    · cases h
noncomputable def freshB (s : S) (U : Upd) : Bool :=
  match U.tag with
  | some d => !(memN d s.us)
  | none => true
theorem freshB_ok {s : S} {U : Upd} (h : freshB s U = true) : U.fresh s.abs := by
  unfold freshB at h
  cases U <;> simp only [Upd.tag] at h <;> first | trivial | (show memN _ s.us = false; simpa using h)
end Go.Vm
end

section
namespace Go.Vm
open Go Go.RowKit
set_option linter.unusedVariables false

/-! ### Regions, computed -/
noncomputable def dOkB (nt : Nat) : Option Nat → Bool
  | none => true
  | some d => decide (d < nt)
noncomputable def S.skip (s : S) (o : Option Nat) : Option S :=
  match s with
  | ⟨fr, H, us, nx, al⟩ =>
    match o with
    | none => some ⟨fr, H, us, nx, al⟩
    | some d => some ⟨fr.setF d (some (.tup [])), H, us, nx, al⟩
theorem S.skip_ok {s s' : S} {d : Option Nat} (h : s.skip d = some s') : s'.abs = s.abs.skip d := by
  obtain ⟨fr, H, us, nx, al⟩ := s
  cases d with
  | none => cases h; rfl
  | some d =>
    cases h
    have e : (fr.setF d (some (.tup []))).getF = upd fr.getF d (some (.tup [])) := by funext m; rw [Tr.getF_setF]; rfl
    show (⟨(fr.setF d (some (.tup []))).getF, getH H, fun d => memN d us, nx, fun _ => none⟩ : St) = _
    rw [e]; rfl
theorem dOkB_ok {nt : Nat} {d : Option Nat} (h : dOkB nt d = true) : dOk nt d := by
  cases d with
  | none => trivial
  | some d =>
    have h : decide (d < nt) = true := h
    show d < nt
    exact of_decide_eq_true h

noncomputable def stepS (P : Program) (nt : Nat) (cx : Cx) (io : Io) (s : S) (d : Option Nat) (op : Op) : Option S :=
  match opF P nt cx io s.nx (ev s.fr.getF) (getH s.H) d op with
  | some U => cond (freshB s U) (s.app U) none
  | none => none
noncomputable def operS (P : Program) (nt : Nat) (cx : Cx) (io : Io) (ops : List Oper) (o : Oper) (s : S) : Option S :=
  match o.guard with
  | none => stepS P nt cx io s o.dst o.op
  | some (g, want) =>
    match gslot ops s.fr.getF g with
    | some v => if v = some want then stepS P nt cx io s o.dst o.op else if dOkB nt o.dst = true then s.skip o.dst else none
    | none => none
noncomputable def seqS (P : Program) (nt : Nat) (cx : Cx) (io : Io) (ops : List Oper) : List Oper → S → Option S
  | [], s => some s
  | o :: rest, s =>
    match operS P nt cx io ops o s with
    | some s' => seqS P nt cx io ops rest s'
    | none => none

section
variable {C : Core} {cx : Cx} {io : Io}
theorem stepS_ok (hk : Knows C.P C.gw C.gb cx io) (hcu : C.cut = true) {s s' : S} {d : Option Nat} {op : Op} {K : St → Prop} (h : stepS C.P C.nt cx io s d op = some s') (hK : K s'.abs) :
    opK C s.abs.nx (ev s.abs.fr) s.abs.H d op (fun U => U.fresh s.abs ∧ K (U.app s.abs)) := by
  unfold stepS at h
  split at h
  · rename_i U hU
    cases hf : freshB s U with
    | false => rw [hf] at h; cases h
    | true =>
      rw [hf] at h
      exact opO_ok hk hcu (opF_ok hU) ⟨freshB_ok hf, by rw [← S.app_ok h]; exact hK⟩
  · cases h
theorem seqS_ok (hk : Knows C.P C.gw C.gb cx io) (hcu : C.cut = true) {ops : List Oper} {Q : St → Prop} : ∀ {l : List Oper} {s s' : S}, seqS C.P C.nt cx io ops l s = some s' → Q s'.abs → seqRun C ops l s.abs Q
  | [], s, s', h, hQ => by cases h; exact hQ
  | o :: rest, s, s', h, hQ => by
    unfold seqS at h
    split at h
    · rename_i s1 h1
      have ih := seqS_ok hk hcu h hQ
      unfold operS at h1
      unfold seqRun
      split at h1
      · rename_i hg
        rw [hg]
        exact stepS_ok (K := fun σ => seqRun C ops rest σ Q) hk hcu h1 ih
      · rename_i g want hg
        rw [hg]
        split at h1
        · rename_i v hv
          by_cases hw : v = some want
          · subst hw
            rw [if_pos rfl] at h1
            exact guardR_run hv (stepS_ok (K := fun σ => seqRun C ops rest σ Q) hk hcu h1 ih)
          · rw [if_neg hw] at h1
            split at h1
            · rename_i hd
              exact guardR_skip hv hw ⟨dOkB_ok hd, by rw [← S.skip_ok h1]; exact ih⟩
            · cases h1
        · cases h1
    · cases h

/-- What each operation waits for. -/
noncomputable def depsO : List Oper → List (List Nat) → List (List Nat)
  | [], acc => acc
  | o :: ops, acc => depsO ops (acc ++ [(o.after.toList.flatMap fun e => if Region.binds .any e = true then e.on :: acc.getD e.on [] else []).eraseDups])

/-- The operation, or nothing if its guard says no. -/
noncomputable def gO (P : Program) (nt : Nat) (cx : Cx) (io : Io) (ops : List Oper) (nx : Nat) (fr : Nat → Option PV) (H : Id → Option Blk) (d : Option Nat) (op : Op) : Option (Nat × Bool) → Option Upd
  | none => opF P nt cx io nx (ev fr) H d op
  | some (g, want) =>
    match gslot ops fr g with
    | some (some b) => if (b == want) = true then opF P nt cx io nx (ev fr) H d op else if dOkB nt d = true then some (.val d (.tup [])) else none
    | some none => if dOkB nt d = true then some (.val d (.tup [])) else none
    | none => none
theorem gO_ok {C : Core} (hk : Knows C.P C.gw C.gb cx io) (hcu : C.cut = true) {ops : List Oper} {nx : Nat} {fr : Nat → Option PV} {H : Id → Option Blk} {d : Option Nat} {op : Op} {g : Option (Nat × Bool)} {U : Upd} {K : Upd → Prop}
    (h : gO C.P C.nt cx io ops nx fr H d op g = some U) (hK : K U) : gK C ops nx fr H g d op K := by
  cases g with
  | none => exact opO_ok hk hcu (opF_ok h) hK
  | some gw =>
    obtain ⟨g, want⟩ := gw
    simp only [gO] at h
    simp only [gK]
    split at h
    · rename_i b hb
      simp only [hb]
      split at h
      · rename_i hbw
        rw [if_pos (by rw [beq_iff_eq] at hbw; rw [hbw])]
        exact opO_ok hk hcu (opF_ok h) hK
      · rename_i hbw
        split at h
        · rename_i hd
          cases h
          rw [if_neg (by intro e; cases e; simp at hbw)]
          exact ⟨dOkB_ok hd, hK⟩
        · cases h
    · rename_i hb
      simp only [hb]
      split at h
      · rename_i hd
        cases h
        rw [if_neg (by simp)]
        exact ⟨dOkB_ok hd, hK⟩
      · cases h
    · cases h

noncomputable def anyS (P : Program) (nt : Nat) (cx : Cx) (io : Io) (ops : List Oper) (s : S) : List Info → List Oper → List Upd → Option (List Upd)
  | [], [], Us => some Us
  | (r, b, dk) :: I, o :: rest, Us =>
    match gO P nt cx io ops s.nx (frF s.nx s.fr.getF Us r) (HF s.abs Us b dk (reads o.op)) o.dst o.op o.guard with
    | some U => if freshB s U = true then anyS P nt cx io ops s I rest (U :: Us) else none
    | none => none
  | _, _, _ => none
noncomputable def appsS (s : S) : List Upd → Option S
  | [] => some s
  | U :: Us =>
    match appsS s Us with
    | some s' => s'.app U
    | none => none
theorem appsS_ok {s : S} : ∀ {Us : List Upd} {s' : S}, appsS s Us = some s' → s'.abs = finF s.abs Us
  | [], s', h => by cases h; rfl
  | U :: Us, s', h => by
    unfold appsS at h
    split at h
    · rename_i s1 h1
      rw [S.app_ok h, appsS_ok h1]; rfl
    · cases h
theorem anyS_ok (hk : Knows C.P C.gw C.gb cx io) (hcu : C.cut = true) {ops : List Oper} {D : List (List Nat)} {Q : St → Prop} {s s' : S} : ∀ {I : List Info} {l : List Oper} {Us Vs : List Upd}, anyS C.P C.nt cx io ops s I l Us = some Vs →
    orderX ops D s.nx s.fr.getF Vs.reverse = true → appsS s Vs = some s' → Q s'.abs → anyRunF C ops D s.abs I l Us Q
  | [], [], Us, Vs, h, ho, ha, hQ => by
    cases h
    exact ⟨ho, by rw [← appsS_ok ha]; exact hQ⟩
  | (r, b, dk) :: I, o :: rest, Us, Vs, h, ho, ha, hQ => by
    unfold anyS at h
    split at h
    · rename_i U hU
      split at h
      · rename_i hf
        exact gO_ok hk hcu hU ⟨freshB_ok hf, anyS_ok hk hcu h ho ha hQ⟩
      · cases h
    · cases h
  | [], _ :: _, Us, Vs, h, _, _, _ => by simp [anyS] at h
  | _ :: _, [], Us, Vs, h, _, _, _ => by simp [anyS] at h

/-! In text order, on the plain state -/
noncomputable def fastS (P : Program) (nt : Nat) (cx : Cx) (io : Io) (ops : List Oper) : List Oper → List Fast → S → Option S
  | [], _, s => some s
  | o :: rest, (rs, bs, nm) :: I, s =>
    match gO P nt cx io ops s.nx (frM rs s.fr.getF) (HM s.nx bs (reads o.op) (getH s.H)) o.dst o.op o.guard with
    | some U =>
      match freshB s U && !(nm && U.isM) with
      | true =>
        match s.app U with
        | some s' => fastS P nt cx io ops rest I s'
        | none => none
      | false => none
    | none => none
  | _ :: _, [], _ => none
theorem fastS_ok {C : Ctx} {cx : Cx} {io : Io} (hk : Knows C.P C.gw C.gb cx io) (hcu : C.cut = true) {ops : List Oper} : ∀ {l : List Oper} {I : List Fast} {s s' : S}, fastS C.P C.nt cx io ops l I s = some s' →
    ∃ Us : List Upd, Us.length = l.length ∧ s'.abs = Us.foldl (fun σ U => U.app σ) s.abs ∧ ∀ k o U, l[k]? = some o → Us[k]? = some U → ∃ rs bs nm, I[k]? = some (rs, bs, nm) ∧ (nm = true → U.isM = false) ∧
      OpG C.toCore ops s.nx (frM rs ((Us.take k).foldl (fun σ U => U.app σ) s.abs).fr) (HM s.nx bs (reads o.op) ((Us.take k).foldl (fun σ U => U.app σ) s.abs).H) o.guard o.dst o.op U ∧ U.fresh ((Us.take k).foldl (fun σ U => U.app σ) s.abs)
  | [], I, s, s', h => by
    cases h
    exact ⟨[], rfl, rfl, fun k o U ho => by simp at ho⟩
  | o :: rest, [], s, s', h => by cases h
  | o :: rest, (rs, bs, nm) :: I, s, s', h => by
    unfold fastS at h
    split at h
    · rename_i U hU
      split at h
      · rename_i hf
        rw [Bool.and_eq_true] at hf
        split at h
        · rename_i s1 h1
          obtain ⟨Us, hl, hs, hall⟩ := fastS_ok hk hcu h
          have e1 := S.app_ok h1
          have en : s1.nx = s.nx := by
            have := congrArg St.nx e1
            rw [app_nx] at this
            exact this
          refine ⟨U :: Us, by simp [hl], by rw [hs, e1]; rfl, fun k o' V ho hV => ?_⟩
          cases k with
          | zero =>
            simp only [List.getElem?_cons_zero, Option.some.injEq] at ho hV
            subst ho hV
            refine ⟨rs, bs, nm, rfl, fun hn => ?_, gO_ok hk hcu hU rfl, freshB_ok hf.1⟩
            have := hf.2
            rw [hn] at this
            simpa using this
          | succ k =>
            simp only [List.getElem?_cons_succ] at ho hV
            obtain ⟨rs', bs', nm', hi, hn, hop, hfr⟩ := hall k o' V ho hV
            rw [en, e1] at hop
            rw [e1] at hfr
            exact ⟨rs', bs', nm', by simpa using hi, hn, hop, hfr⟩
        · cases h
      · cases h
    · cases h

noncomputable def slotsOf (ops : List Oper) (o : Oper) : List Nat :=
  (o.op.operands.toList.filterMap fun x => match x with | .tmp t => some t | _ => none) ++ (match o.guard with | some (g, _) => ((ops[g]?).bind (·.dst)).toList | none => [])
noncomputable def fastL (ops : List Oper) (D : List (List Nat)) : List Oper → Nat → List Fast
  | [], _ => []
  | o :: l, k => ((slotsOf ops o).filter (slotOk ops D k), badFrom D k 0 ops, !quietOk ops D k) :: fastL ops D l (k + 1)
noncomputable def fastI (ops : List Oper) : List Fast := fastL ops (depsO ops []) ops 0
noncomputable def fastG (ops : List Oper) : Bool := depOk ops (depsO ops []) && dstsOk ops && fastOk ops (depsO ops []) (fastI ops)

noncomputable def slowS (P : Program) (nt : Nat) (cx : Cx) (io : Io) (ops : List Oper) (s : S) : Option S :=
    let D := depsO ops []
    if (depOk ops D && dstsOk ops) = true then
      match anyS P nt cx io ops s (infoFrom ops D 0 ops.length) ops [] with
      | some Us => if orderX ops D s.nx s.fr.getF Us.reverse = true then appsS s Us else none
      | none => none
    else none
noncomputable def drawS (P : Program) (nt : Nat) (cx : Cx) (io : Io) (ops : List Oper) (s : S) : Option S :=
  match fastG ops with
  | true =>
    match fastS P nt cx io ops ops (fastI ops) s with
    | some s' => some s'
    | none => slowS P nt cx io ops s
  | false => slowS P nt cx io ops s
noncomputable def regS (P : Program) (nt : Nat) (cx : Cx) (io : Io) (ops : List Oper) (draw : Bool) (s : S) : Option S :=
  match draw with
  | false => seqS P nt cx io ops ops s
  | true => drawS P nt cx io ops s
end
theorem slowS_ok {C : Ctx} {cx : Cx} {io : Io} (hk : Knows C.P C.gw C.gb cx io) (hcu : C.cut = true) (hm : C.P.follows .mixedOrders = true) {id : Nat} {ops : Array Oper} {Q : Post} {s s' : S}
    (h : slowS C.P C.nt cx io ops.toList s = some s') (hQ : Q .normal s'.abs) : vwp C (.region id ops true) Q s.abs := by
  unfold slowS at h
  simp only at h
  split at h
  · rename_i hd
    rw [Bool.and_eq_true] at hd
    split at h
    · rename_i Us hU
      split at h
      · rename_i ho
        have := vwp_anyF (C := C) (ops := ops.toList) (id := id) (Q := Q) (σ := s.abs) _ _ hm hd.1 hd.2 rfl (anyS_ok hk hcu hU ho h hQ)
        simpa using this
      · cases h
    · cases h
  · cases h
theorem drawS_ok {C : Ctx} {cx : Cx} {io : Io} (hk : Knows C.P C.gw C.gb cx io) (hcu : C.cut = true) (hm : C.P.follows .mixedOrders = true) {id : Nat} {ops : Array Oper} {Q : Post} {s s' : S}
    (h : drawS C.P C.nt cx io ops.toList s = some s') (hQ : Q .normal s'.abs) : vwp C (.region id ops true) Q s.abs := by
  unfold drawS at h
  split at h
  · rename_i hg
    split at h
    · rename_i s1 h1
      cases h
      unfold fastG at hg
      rw [Bool.and_eq_true, Bool.and_eq_true] at hg
      obtain ⟨Us, hl, hs, hall⟩ := fastS_ok hk hcu h1
      have T : Told C.toCore ops.toList (depsO ops.toList []) s.abs Us := told_seq hg.1.1 hg.1.2 hg.2 hl hall
      have := vwp_told (C := C) (id := id) (Q := Q) hm hg.1.1 hg.1.2 ⟨Us, T, by rw [hs] at hQ; exact hQ⟩
      simpa using this
    · exact slowS_ok hk hcu hm h hQ
  · exact slowS_ok hk hcu hm h hQ
theorem regS_ok {C : Ctx} {cx : Cx} {io : Io} (hk : Knows C.P C.gw C.gb cx io) (hcu : C.cut = true) (hm : C.P.follows .mixedOrders = true) {id : Nat} {ops : Array Oper} {draw : Bool} {Q : Post} {s s' : S}
    (h : regS C.P C.nt cx io ops.toList draw s = some s') (hQ : Q .normal s'.abs) : vwp C (.region id ops draw) Q s.abs := by
  unfold regS at h
  cases draw with
  | false =>
    have := vwp_regionG (C := C) (ops := ops.toList) (id := id) (Q := Q) (σ := s.abs) (seqS_ok hk hcu h hQ)
    simpa using this
  | true => exact drawS_ok hk hcu hm h hQ
end Go.Vm
end
