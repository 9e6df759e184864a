/-
  Abstract states over the model's worlds, and that a step of them is a step of the program: part Y of a framework. Conditions: each theorem's own premises. By an AI agent.
-/
import Derived.Test.YtnpbndglolcilaaDoorVmX
import Derived.Deep.Draws
namespace Go.Vm
open Go Go.RowKit
set_option linter.unusedVariables false

/-! ### Contracts that the library gives -/
theorem below_drewN' (w : World) (n : Nat) : Below w.heap.size w (w.drewN n) := ⟨rfl, rfl, rfl, Nat.le_refl _, fun _ _ => rfl⟩

def Alike (gw : World) (gb : Nat) (w : World) : Prop := gb ≤ w.heap.size ∧ ∀ g, g < gb → w.heap[g]? = gw.heap[g]?

section
variable {P : Program} {gw : World} {gb : Nat} {f : FuncId} {φ : Id → Option Value} {w : World} {F : Bool → Nat → Prop}

theorem repVs_plain : ∀ (args : List Value) (xs : List Value), repVs φ w F (args.map fun v => .one (.c v)) xs → xs = args
  | [], xs, h => by simpa only [List.map_nil, repVs] using h
  | v :: args, xs, h => by
    simp only [List.map_cons, repVs, repV, rep] at h
    obtain ⟨x, xs', rfl, ⟨rfl, _⟩, h⟩ := h
    rw [repVs_plain args xs' h]

/-- A callee that takes scalars, and hands back what bears no names. -/
theorem vcall_plain (hc : Callable P f) (args : List Value) (r : PV) (h : ∀ w, Alike gw gb w → Calls P f args.toArray w fun e w' => ∃ x, e = .returned x ∧ Below w.heap.size w w' ∧ ∀ F, repV (fun _ => none) w' F r x) :
    VCall P gw gb f (args.map fun v => .one (.c v)) r [] := by
  refine ⟨hc, fun w xs F hgb hgl hlt hr => ?_⟩
  have hx := repVs_plain _ _ hr
  have hxs : xs = args.toArray := by rw [← hx]
  subst hxs
  refine (h w ⟨hgb, hgl⟩).mono fun e w' he => ?_
  obtain ⟨x, rfl, hb, hr'⟩ := he
  exact ⟨x, fun _ => none, fun _ => False, rfl, hb, fun g hg => hg.elim, hr' _, by simp, by simp, by simp, by simp⟩

/-- A row of scalars, as a callee gets it. -/
theorem row_of {t : Bool} {vs : List Value} {x : Value} (h : rep φ w F (.sl t vs.length (vs.map .c)) x) :
    (∃ b off cap, x = .slice (some ⟨b, off, none⟩) vs.length cap ∧ vs.length ≤ cap ∧ F t b ∧ ∀ j v, vs[j]? = some v → w.cell? ⟨b, off + j, none⟩ = some v) ∨ (vs = [] ∧ ∃ A cap, x = .slice A 0 cap) := by
  simp only [rep] at h
  obtain ⟨A, cap, rfl, hn, h⟩ := h
  rcases h with ⟨h0, _⟩ | ⟨ad, rfl, hF, hr⟩
  · exact .inr ⟨List.eq_nil_of_length_eq_zero h0, A, cap, by rw [h0]⟩
  · cases vs with
    | nil => exact .inr ⟨rfl, some ad, cap, rfl⟩
    | cons v vs =>
      obtain ⟨b, off, spot⟩ := ad
      have h0 := hr
      simp only [List.map_cons, repAt] at h0
      obtain ⟨⟨u, hu, _⟩, _⟩ := h0
      cases spot with
      | some s =>
        unfold World.cell? at hu
        split at hu <;> simp at hu
      | none =>
        refine .inl ⟨b, off, cap, rfl, hn, hF, fun j u hj => ?_⟩
        obtain ⟨y, hy, hry⟩ := repAt_get _ _ hr j (.c u) (by rw [List.getElem?_map, hj]; rfl)
        simp only [rep] at hry
        rw [hry.1] at hy
        rw [Addr.add_lit] at hy
        exact hy

/-- A callee that takes a row of scalars, then scalars. -/
theorem vcall_row (hc : Callable P f) (vs args : List Value) (r : PV)
    (h : ∀ w b off cap, Alike gw gb w → b < w.heap.size → vs.length ≤ cap → (∀ j v, vs[j]? = some v → w.cell? ⟨b, off + j, none⟩ = some v) →
      Calls P f (#[.slice (some ⟨b, off, none⟩) vs.length cap] ++ args.toArray) w fun e w' => ∃ x, e = .returned x ∧ Below w.heap.size w w' ∧ ∀ F, repV (fun _ => none) w' F r x)
    (h0 : vs = [] → ∀ w A cap, Alike gw gb w → Calls P f (#[.slice A 0 cap] ++ args.toArray) w fun e w' => ∃ x, e = .returned x ∧ Below w.heap.size w w' ∧ ∀ F, repV (fun _ => none) w' F r x) :
    VCall P gw gb f (.one (.sl false vs.length (vs.map .c)) :: args.map fun v => .one (.c v)) r [] := by
  refine ⟨hc, fun w xs F hgb hgl hlt hr => ?_⟩
  simp only [repVs, repV] at hr
  obtain ⟨x, xs', hx, hrow, hr⟩ := hr
  have hx' := repVs_plain _ _ hr
  subst hx'
  have hxs : xs = #[x] ++ xs'.toArray := by
    apply Array.toList_inj.1; rw [hx]; simp
  subst hxs
  have fin : ∀ (Q : Ending → World → Prop), (∀ e w', Q e w' → ∃ x, e = .returned x ∧ Below w.heap.size w w' ∧ ∀ F, repV (fun _ => none) w' F r x) → Calls P f (#[x] ++ xs'.toArray) w Q → Calls P f (#[x] ++ xs'.toArray) w fun e w' => ∃ (x : Value) (ψ : Id → Option Value) (X : Nat → Prop), e = .returned x ∧ Below w.heap.size w w' ∧ (∀ g, X g → w.heap.size ≤ g ∧ g < w'.heap.size) ∧
      repV ψ w' (Fs (fun g => F g ∨ X g) X) r x ∧ (∀ j b, ([] : List Blk)[j]? = some b → holds ψ w' (Fs (fun g => F g ∨ X g) X) (0, j) b) ∧ (∀ i, ψ i ≠ none → i.1 = 0) ∧
      (∀ j u g, ψ (0, j) = some u → blkOf u = some g → w.heap.size ≤ g ∧ ¬ X g) ∧
      (∀ j k u v g, ψ (0, j) = some u → ψ (0, k) = some v → blkOf u = some g → blkOf v = some g → j = k) := by
    intro Q hQ hc
    refine hc.mono fun e w' he => ?_
    obtain ⟨x, rfl, hb, hr'⟩ := hQ _ _ he
    exact ⟨x, fun _ => none, fun _ => False, rfl, hb, fun g hg => hg.elim, hr' _, by simp, by simp, by simp, by simp⟩
  rcases row_of hrow with ⟨b, off, cap, rfl, hcap, hF, hcell⟩ | ⟨hv, A, cap, rfl⟩
  · exact fin _ (fun _ _ h => h) (h w b off cap ⟨hgb, hgl⟩ (hlt b hF) hcap hcell)
  · exact fin _ (fun _ _ h => h) (h0 hv w A cap ⟨hgb, hgl⟩)
end
end Go.Vm
