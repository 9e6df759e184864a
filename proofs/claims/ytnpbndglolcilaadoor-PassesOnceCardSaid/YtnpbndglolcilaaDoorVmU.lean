/-
  Abstract states over the model's worlds, and that a step of them is a step of the program: part U of a framework. Conditions: each theorem's own premises. By an AI agent.
-/
import Derived.Test.YtnpbndglolcilaaDoorVmT
namespace Go.Vm
open Go Go.RowKit
set_option linter.unusedVariables false

def St.enter (args : List PV) : St := ⟨fun t => args[t]?, fun _ => none, fun _ => false, 0⟩

def pack : List PV → PV
  | [v] => v
  | vs => .tup vs

def resOf (P : Program) (σ : St) : List ResultVar → Option (List PV)
  | [] => some []
  | .tmp t :: rs =>
    match σ.fr t, resOf P σ rs with
    | some p, some ps => some (p :: ps)
    | _, _ => none
  | .cell t ty :: rs =>
    match ((σ.fr t).bind (behind σ.H)).bind (takeT P ty), resOf P σ rs with
    | some p, some ps => some (p :: ps)
    | _, _ => none

/-- What a body leaves is what its contract says: own blocks under the contract's names, the rest of them only read from now on. -/
def RetOk (P : Program) (rs : List ResultVar) (r : PV) (B : List Blk) (σ : St) : Prop :=
  ∃ (vs : List PV) (Z : Id → Prop) (G : Id → Id → Prop), resOf P σ rs = some vs ∧ (∀ i i' j, G i j → G i' j → i = i') ∧ (∀ i j j', G i j → G i j' → j = j') ∧ (∀ i j, G i j → j.1 = 0 ∧ j.2 < B.length) ∧
    ConvV σ.H Z G (pack vs) r ∧ ∀ j b', B[j]? = some b' → ∃ i b, G i (0, j) ∧ ¬ Z i ∧ σ.H i = some b ∧ ConvB σ.H Z G b b'

def retQ (P : Program) (rs : List ResultVar) (r : PV) (B : List Blk) : Post
  | .normal, σ => RetOk P rs r B σ
  | .ret, σ => RetOk P rs r B σ
  | _, _ => False

section
variable {C : Ctx} {φ φ' : Id → Option Value} {F : Bool → Nat → Prop} {F0 F1 : Nat → Prop} {σ τ : St} {a : Act} {w : World} {P : Program}

theorem repVs_len : ∀ (ps : List PV) (vs : List Value), repVs φ w F ps vs → vs.length = ps.length
  | [], vs, h => by simp only [repVs] at h; subst h; rfl
  | p :: ps, vs, h => by
    simp only [repVs] at h
    obtain ⟨v, vs', rfl, hr, h⟩ := h
    simp [repVs_len ps vs' h]

theorem results_run (h : RelX C φ F0 F1 σ a w) : ∀ (rs : List ResultVar) (vs : List PV), resOf C.P σ rs = some vs → ∃ xs : List Value,
    (rs.mapM (fun | .tmp t => pure (a.tmps.getD t undef) | .cell t ty => do loadVar ty (← asAddr (a.tmps.getD t undef)) : ResultVar → Sem Value)).run C.P w = .ok xs w ∧ repVs φ w (Fs F0 F1) vs xs
  | [], vs, hv => by
    simp only [resOf] at hv
    cases hv
    exact ⟨[], by simp, by simp [repVs]⟩
  | .tmp t :: rs, vs, hv => by
    simp only [resOf] at hv
    split at hv
    · rename_i p ps hp hps
      cases hv
      obtain ⟨xs, hx, hr⟩ := results_run h rs ps hps
      obtain ⟨x, hx0, hr0⟩ := h.frame t p hp
      refine ⟨x :: xs, ?_, by simp only [repVs]; exact ⟨x, xs, rfl, hr0, hr⟩⟩
      have : a.tmps.getD t undef = x := by simp [Array.getD_eq_getD_getElem?, hx0]
      simp only [List.mapM_cons, Sem.run_bind, Sem.run_pure, Result.andThen_ok, this, hx]
    · cases hv
  | .cell t ty :: rs, vs, hv => by
    simp only [resOf] at hv
    split at hv
    · rename_i p ps hp hps
      cases hv
      obtain ⟨xs, hx, hr⟩ := results_run h rs ps hps
      obtain ⟨ys, hy, hp⟩ := Option.bind_eq_some_iff.1 hp
      obtain ⟨q, hq, hy⟩ := Option.bind_eq_some_iff.1 hy
      obtain ⟨x, hx0, hr0⟩ := h.frame t q hq
      obtain ⟨ad, rfl, hat⟩ := behind_rep h (fun e => e) hr0 hy
      obtain ⟨v, hl, hr1⟩ := run_takeT (P := C.P) hat hp
      refine ⟨v :: xs, ?_, by simp only [repVs]; exact ⟨v, xs, rfl, hr1, hr⟩⟩
      have : asAddr (a.tmps.getD t undef) = pure ad := by simp [Array.getD_eq_getD_getElem?, hx0, asAddr]
      simp only [List.mapM_cons, Sem.run_bind, Sem.run_pure, Result.andThen_ok, this, hl, hx]
    · cases hv

theorem pack_rep : ∀ {vs : List PV} {xs : List Value}, repVs φ w F vs xs → repV φ w F (pack vs) (if h : xs.toArray.size = 1 then xs.toArray[0] else .tuple xs.toArray)
  | [], xs, h => by
    simp only [repVs] at h
    subst h
    simp [pack, repV, repVs]
  | [v], xs, h => by
    simp only [repVs] at h
    obtain ⟨x, xs', rfl, hr, rfl⟩ := h
    simpa [pack] using hr
  | v :: v' :: vs, xs, h => by
    have hl := repVs_len _ _ h
    rw [dif_neg (by simp [hl])]
    simp only [pack, repV]
    exact ⟨xs.toArray, rfl, by simpa using h⟩

/-- A CONTRACT, OUT OF THE BODY. -/
theorem vcall_of {gw : World} {gb : Nat} {f : FuncId} {fn : Func} {c : Code} {args : List PV} {r : PV} {B : List Blk} {n : Nat} (rs : List ResultVar) (hf : P.funcs[f]? = some fn) (hb : fn.body = some c) (hname : (fn.name == "runtime.NumGoroutine") = false) (hnt : fn.ntmps = n)
    (hrs : fn.results.toList = rs) (hn : args.length ≤ n)
    (h : ∀ C : Ctx, C.P = P → C.nt = n → C.gw = gw → C.gb = gb → (∀ g, g < C.w0.heap.size → C.K0 g) → vwp C c (retQ P rs r B) (St.enter args)) : VCall P gw gb f args r B := by
  subst hnt hrs
  refine ⟨⟨fn, hf, hname, by simp [hb]⟩, fun w xs F hgb hgl hlt hr => ?_⟩
  have hinit : RelX ⟨P, fn.ntmps, w, fun g => g < w.heap.size, gw, gb, F⟩ (fun _ => none) F (fun _ => False) (St.enter args) { tmps := xs ++ Array.replicate (fn.ntmps - xs.size) undef, defers := [] } w := by
    have hl := repVs_len _ _ hr
    have hg := repVs_get _ _ hr
    have hs : xs.size = args.length := by simpa using hl
    refine ⟨?_, rfl, fun t p hp => ?_, fun i b hi => (by cases hi), fun i j u v g hi => (absurd rfl hi), fun i u g hi => (absurd rfl hi), fun g hg => hg.elim, fun g hg => .inl hg, fun g hg => hg.elim, hlt, rfl, rfl, rfl, Nat.le_refl _, fun _ _ => rfl, fun _ h => h, hgb, hgl, fun i hi => absurd rfl hi⟩
    · simp only [Array.size_append, Array.size_replicate]; omega
    · obtain ⟨v, hv, hr'⟩ := hg t p hp
      refine ⟨v, ?_, hr'⟩
      have hv' : xs[t]? = some v := by simpa using hv
      rw [Array.getElem?_append_left (Array.getElem?_eq_some_iff.1 hv').1]
      exact hv'
  refine calls_of_wp hf hb (wp_mono (h ⟨P, fn.ntmps, w, fun g => g < w.heap.size, gw, gb, F⟩ rfl rfl rfl rfl (fun _ h => h) _ _ ⟨_, _, _, hinit⟩) ?_)
  rintro e a' w' ⟨σ', ⟨φ, F0, F1, hR⟩, hq⟩
  have main : RetOk P fn.results.toList r B σ' → a'.defers = [] ∧ ∃ v, (results fn a'.tmps).run P w' = .ok v w' ∧ ∃ (x : Value) (ψ : Id → Option Value) (X : Nat → Prop), Ending.returned v = .returned x ∧ Below w.heap.size w w' ∧ (∀ g, X g → w.heap.size ≤ g ∧ g < w'.heap.size) ∧
      repV ψ w' (Fs (fun g => F g ∨ X g) X) r x ∧ (∀ j b, B[j]? = some b → holds ψ w' (Fs (fun g => F g ∨ X g) X) (0, j) b) ∧ (∀ i, ψ i ≠ none → i.1 = 0) ∧
      (∀ j u g, ψ (0, j) = some u → blkOf u = some g → w.heap.size ≤ g ∧ ¬ X g) ∧
      (∀ j k u v g, ψ (0, j) = some u → ψ (0, k) = some v → blkOf u = some g → blkOf v = some g → j = k) := by
    rintro ⟨vs, Z, G, hvs, hG1, hG2, hG0, hcv, hB⟩
    obtain ⟨xs', hrun, hreps⟩ := results_run hR _ vs hvs
    have hx := pack_rep hreps
    obtain ⟨φ', F0', F1', hT, hV, hφ'⟩ := hR.conv (τ := ⟨fun _ => none, fun j => if j.1 = 0 then B[j.2]? else none, fun _ => false, 1⟩) (fun _ h => h) Z G hG1 hG2 (fun t p' hp => by cases hp)
      (fun j b' hj => by
        simp only at hj
        split at hj
        · rename_i h0
          obtain ⟨j1, j2⟩ := j
          simp only at h0
          subst h0
          exact hB j2 b' hj
        · cases hj)
      (fun i j hg => .inl (by have := (hG0 i j hg).1; simp only; omega))
    have hF : ∀ t g, Fs F0' F1' t g → Fs (fun g => F g ∨ F1' g) F1' t g := by
      intro t g hg
      cases t
      · exact hT.ini g hg
      · exact hg
    have hH : ∀ j, φ' (0, j) ≠ none → ∃ b, B[j]? = some b := by
      intro j hj
      obtain ⟨u, hu⟩ := Option.ne_none_iff_exists'.1 hj
      obtain ⟨i, hg, _⟩ := (hφ' _ u).1 hu
      exact ⟨_, List.getElem?_eq_getElem (hG0 i _ hg).2⟩
    refine ⟨hR.defs, _, ?_, _, φ', F1', rfl, ⟨hR.os, hR.tape, hR.output, hR.big, fun g hg => hR.kept g hg⟩, fun g hg => ⟨hT.new1 g hg, hT.lt0 g (hT.sub g hg)⟩,
      repV_mono (fun _ _ e => e) (fun _ _ _ => rfl) hF _ _ (hV _ _ _ hcv hx), fun j b hj => ?_, fun i hi => ?_, fun j u g hu hg => ?_, fun j k u v g hu hv hg hg' => ?_⟩
    · unfold results
      simp only [Array.mapM_eq_mapM_toList]
      simp only [map_eq_pure_bind, Sem.run_bind, Sem.run_pure]
      have key : ∀ m : Sem (List Value), m.run P w' = .ok xs' w' → ((m.run P w').andThen fun a w' => Result.ok a.toArray w').andThen (fun a w' => Result.ok (if h : a.size = 1 then a[0] else Value.tuple a) w') =
          Result.ok (if h : xs'.toArray.size = 1 then xs'.toArray[0] else Value.tuple xs'.toArray) w' := by
        intro m hm; rw [hm]; rfl
      exact key _ hrun
    · exact holds_mono (hT.heap (0, j) b (by simpa using hj)) (fun _ _ e => e) hF (fun _ _ _ => rfl) (fun _ _ _ _ => rfl)
    · obtain ⟨u, hu⟩ := Option.ne_none_iff_exists'.1 hi
      obtain ⟨i', hg, _⟩ := (hφ' _ u).1 hu
      exact (hG0 i' _ hg).1
    · obtain ⟨b, hb'⟩ := hH j (by rw [hu]; simp)
      obtain ⟨h1, h2, _⟩ := hT.apart (0, j) u g (by simp [hb']) hu hg
      exact ⟨Nat.le_of_not_lt h2, fun hx => h1 (hT.sub g hx)⟩
    · obtain ⟨b, hb'⟩ := hH j (by rw [hu]; simp)
      obtain ⟨b2, hb2'⟩ := hH k (by rw [hv]; simp)
      have := hT.inj (0, j) (0, k) u v g (by simp [hb']) (by simp [hb2']) hu hv hg hg'
      simpa using this
  cases e
  case normal => exact main hq
  case ret => exact main hq
  all_goals exact hq.elim
end
end Go.Vm
