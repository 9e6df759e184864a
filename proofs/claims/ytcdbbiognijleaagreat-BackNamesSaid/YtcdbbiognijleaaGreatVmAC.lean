/-
  Abstract states over the model's worlds, and that a step of them is a step of the program: part VmAC of a framework. Conditions: each theorem's own premises. By an AI agent.
-/
import Derived.Test.YtcdbbiognijleaaGreatVmAB
section
namespace Go.Vm
open Go Go.RowKit
set_option linter.unusedSimpArgs false
section
variable {ρ : Operand → Option PV} {H : Id → Option Blk} {C : Ctx} {φ φ' : Id → Option Value} {F : Bool → Nat → Prop} {F0 F1 : Nat → Prop} {σ : St} {a : Act} {w w' : World} {P : Program}

/-- What a callee may read: what is only read, and the call's own blocks, borrowed. -/
def Lent (φ : Id → Option Value) (H : Id → Option Blk) (F0 : Nat → Prop) (g : Nat) : Prop := F0 g ∨ ∃ i u, H i ≠ none ∧ φ i = some u ∧ blkOf u = some g

theorem lent_lt (h : RelX C φ F0 F1 σ a w) (hle : ∀ {i b}, H i = some b → σ.H i = some b) (g : Nat) (hg : Lent φ H F0 g) : g < w.heap.size := by
  rcases hg with hg | ⟨i, u, hi, hu, hg⟩
  · exact h.lt0 g hg
  · obtain ⟨b, hb⟩ := Option.ne_none_iff_exists'.1 hi
    exact holds_lt (h.heap i b (hle hb)) hu hg

theorem clo_rep (h : RelX C φ F0 F1 σ a w) (hle : ∀ {i b}, H i = some b → σ.H i = some b) : ∀ (k : Nat) (p : PC) (x : Value), rep φ w (Fs F0 F1) p x → rep φ w (Fs (Lent φ H F0) fun _ => False) (clo H k p) x := by
  have hF : ∀ t g, Fs F0 F1 t g → Lent φ H F0 g := fun t g hg => .inl (Fs_f0 h.sub t g hg)
  intro k
  induction k with
  | zero =>
    intro p x hr
    have := weak_rep (F' := Fs (Lent φ H F0) fun _ => False) hF p x hr
    simpa [clo] using this
  | succ k ih =>
    intro p x hr
    unfold clo
    split
    · simp only [rep] at hr ⊢
      obtain ⟨rfl, _⟩ := hr
      exact ⟨none, 0, rfl, Nat.le_refl _, .inl (by simp)⟩
    · simp only [rep] at hr ⊢
      obtain ⟨A, rfl⟩ := hr
      exact ⟨A, 0, rfl, Nat.le_refl _, .inl (by simp)⟩
    · rename_i k' i hk
      cases hk
      split
      · rename_i e s n cs hH
        simp only [rep] at hr
        obtain ⟨hφ, _⟩ := hr
        have hh := h.heap i _ (hle hH)
        have hh' := hh
        obtain ⟨v, vs, hv, ⟨hl, ho⟩, hrs⟩ := hh
        rw [hφ] at hv
        cases hv
        simp only [rep]
        rcases ho with ⟨rfl, rfl⟩ | ⟨g, cap, cur, rfl, _, hc, hn, _⟩
        · refine ⟨none, 0, rfl, Nat.le_refl _, .inl ⟨rfl, ?_⟩⟩
          have : cs.length = 0 := by rw [← reps_length _ _ hrs, hl]; simp
          simp [List.length_eq_zero_iff.1 this]
        · refine ⟨_, cap, rfl, hn, .inr ⟨_, rfl, .inr ⟨i, _, by rw [hH]; simp, hφ, rfl⟩, ?_⟩⟩
          refine repAt_of_get _ _ fun j p hp => ?_
          rw [List.getElem?_map] at hp
          obtain ⟨q, hq, rfl⟩ := Option.map_eq_some_iff.1 hp
          obtain ⟨y, hy, hry⟩ := repAt_get _ _ (holds_repAt hh' hφ rfl) j q hq
          exact ⟨y, hy, ih q y hry⟩
      · have := weak_rep (F' := Fs (Lent φ H F0) fun _ => False) hF _ x hr
        simpa [PC.weak] using this
    · rename_i k' i off n hk
      cases hk
      split
      · rename_i e z n' cs hH
        simp only [rep] at hr
        obtain ⟨u, A, cap, hφ, hx, hnc, hA⟩ := hr
        split
        · rename_i hn
          obtain ⟨g, hg, rfl⟩ := hA.resolve_left (by omega)
          have hh := h.heap i _ (hle hH)
          simp only [rep]
          refine ⟨_, cap, hx, hnc, .inr ⟨_, rfl, .inr ⟨i, u, by rw [hH]; simp, hφ, hg⟩, ?_⟩⟩
          refine repAt_of_get _ _ fun j p hp => ?_
          rw [List.getElem?_map] at hp
          obtain ⟨q, hq, rfl⟩ := Option.map_eq_some_iff.1 hp
          have h1 := repAt_take (repAt_drop (holds_repAt hh hφ hg) off) (n * z)
          rw [Addr.add_lit, Nat.zero_add] at h1
          obtain ⟨y, hy, hry⟩ := repAt_get _ _ h1 j q hq
          exact ⟨y, hy, ih q y hry⟩
        · have hn0 : n = 0 := by omega
          subst hn0
          simp only [rep]
          exact ⟨A, cap, hx, hnc, .inl (by simp)⟩
      · have := weak_rep (F' := Fs (Lent φ H F0) fun _ => False) hF _ x hr
        simpa [PC.weak] using this
    · rename_i k' i n hk
      cases hk
      split
      · rename_i e z n' cs hH
        simp only [rep] at hr
        obtain ⟨A, N, cap, hφ, hnN, hx⟩ := hr
        have hh := h.heap i _ (hle hH)
        have hh' := hh
        obtain ⟨v, vs, hv, ⟨hl, ho⟩, hrs⟩ := hh
        rw [hφ] at hv
        cases hv
        simp only [rep]
        rcases ho with ⟨hv, rfl⟩ | ⟨g, cap', cur, hv, _, hc, hn, _⟩
        · cases hv
          have hn0 : n = 0 := by omega
          subst hn0
          exact ⟨none, 0, hx, Nat.le_refl _, .inl (by simp)⟩
        · cases hv
          refine ⟨_, _, hx, by omega, .inr ⟨_, rfl, .inr ⟨i, _, by rw [hH]; simp, hφ, rfl⟩, ?_⟩⟩
          refine repAt_of_get _ _ fun j p hp => ?_
          rw [List.getElem?_map] at hp
          obtain ⟨q, hq, rfl⟩ := Option.map_eq_some_iff.1 hp
          obtain ⟨y, hy, hry⟩ := repAt_get _ _ (repAt_take (holds_repAt hh' hφ rfl) (n * z)) j q hq
          exact ⟨y, hy, ih q y hry⟩
      · have := weak_rep (F' := Fs (Lent φ H F0) fun _ => False) hF _ x hr
        simpa [PC.weak] using this
    · exact weak_rep (F' := Fs (Lent φ H F0) fun _ => False) hF _ x hr

theorem cloV_rep (h : RelX C φ F0 F1 σ a w) (hle : ∀ {i b}, H i = some b → σ.H i = some b) {k : Nat} {p : PV} {x : Value} (hr : repV φ w (Fs F0 F1) p x) (hf : (cloV H k p).free = true) :
    repV (fun _ => none) w (Fs (Lent φ H F0) fun _ => False) (cloV H k p) x := by
  cases p with
  | one p =>
    simp only [cloV, PV.free] at hf ⊢
    simp only [repV] at hr ⊢
    exact free_rep (fun _ _ e => e) _ _ hf (clo_rep h hle k p x hr)
  | agg ps =>
    simp only [cloV, PV.free] at hf ⊢
    simp only [repV] at hr ⊢
    obtain ⟨vs, hx, hr⟩ := hr
    refine ⟨vs, hx, free_reps (φ := φ) (fun _ _ e => e) _ _ hf (reps_of_get _ _ (by simpa using reps_length _ _ hr) fun j q v hq hv => ?_)⟩
    rw [List.getElem?_map] at hq
    obtain ⟨q', hq', rfl⟩ := Option.map_eq_some_iff.1 hq
    obtain ⟨u, hu, hr'⟩ := reps_get _ _ hr j q' hq'
    rw [hv] at hu; cases hu
    exact clo_rep h hle k q' v hr'
  | tup vs =>
    simp [cloV, PV.free] at hf
  | may b p =>
    simp [cloV, PV.free] at hf
  | full p =>
    simp only [cloV, PV.free] at hf ⊢
    simp only [repV] at hr ⊢
    exact free_rep (fun _ _ e => e) _ _ hf (clo_rep h hle k p x hr.1)

/-- Several new blocks take their names at once. -/
def bindB (s : Nat) (B : List Blk) (H : Id → Option Blk) : Id → Option Blk := fun i => if i.1 = s then (match B[i.2]? with | some b => some (b.ren s) | none => H i) else H i
def bindφ (s : Nat) (ψ φ : Id → Option Value) : Id → Option Value := fun i => if i.1 = s then ψ (0, i.2) else φ i

theorem RelX.binds (h : RelX C φ F0 F1 σ a w) {d : Nat} {B : List Blk} {ψ : Id → Option Value} (hd : σ.us d = false)
    (h0 : ∀ i, ψ i ≠ none → i.1 = 0) (hb : ∀ j b, B[j]? = some b → holds ψ w (Fs F0 F1) (0, j) b)
    (hv : ∀ j u g, ψ (0, j) = some u → blkOf u = some g → ¬ F0 g ∧ ¬ C.K0 g ∧ C.gb ≤ g ∧ ∀ k v, σ.H k ≠ none → φ k = some v → blkOf v ≠ some g)
    (hi : ∀ j k u v g, ψ (0, j) = some u → ψ (0, k) = some v → blkOf u = some g → blkOf v = some g → j = k) :
    RelX C (bindφ (σ.nx + d) ψ φ) F0 F1 { σ with H := bindB (σ.nx + d) B σ.H, us := upd σ.us d true } a w := by
  have hfr : ∀ j, φ (σ.nx + d, j) = none := fun j => h.fresh hd
  have hφ : ∀ j u, φ j = some u → bindφ (σ.nx + d) ψ φ j = some u := by
    intro j u hu
    unfold bindφ
    split
    · rename_i hj
      obtain ⟨j1, j2⟩ := j
      simp at hj
      subst hj
      rw [hfr] at hu; cases hu
    · exact hu
  have hψ : ∀ j u, ψ (0, j) = some u → bindφ (σ.nx + d) ψ φ (σ.nx + d, j) = some u := by
    intro j u hu
    simp [bindφ, hu]
  have hid : ∀ t g, Fs F0 F1 t g → w.heap[g]? = w.heap[g]? := fun _ _ _ => rfl
  have hHd : ∀ j, σ.H (σ.nx + d, j) = none := by
    intro j
    apply Classical.byContradiction
    intro hne
    obtain ⟨b, hb'⟩ := Option.ne_none_iff_exists'.1 hne
    have := h.heap _ b hb'
    cases b with
    | box ty cells => obtain ⟨g, vs, hp, _⟩ := this; rw [hfr] at hp; cases hp
    | arr ty size n cells => obtain ⟨v, vs, hp, _⟩ := this; rw [hfr] at hp; cases hp
    | mp ty es => obtain ⟨g, ents, clock, hp, _⟩ := this; rw [hfr] at hp; cases hp
  have hcase : ∀ (i : Id) (b : Blk), bindB (σ.nx + d) B σ.H i = some b → (∃ j c, i = (σ.nx + d, j) ∧ B[j]? = some c ∧ b = c.ren (σ.nx + d)) ∨ (i.1 ≠ σ.nx + d ∧ σ.H i = some b) := by
    intro i b hb'
    unfold bindB at hb'
    split at hb'
    · rename_i hi1
      obtain ⟨i1, i2⟩ := i
      simp at hi1
      subst hi1
      split at hb'
      · rename_i c hc
        cases hb'
        exact .inl ⟨i2, c, rfl, hc, rfl⟩
      · rw [hHd] at hb'; cases hb'
    · exact .inr ⟨by assumption, hb'⟩
  have hval : ∀ j u, bindφ (σ.nx + d) ψ φ (σ.nx + d, j) = some u → ψ (0, j) = some u := by
    intro j u hu
    simpa [bindφ] using hu
  have hvalo : ∀ (i : Id) u, i.1 ≠ σ.nx + d → bindφ (σ.nx + d) ψ φ i = some u → φ i = some u := by
    intro i u hi1 hu
    simpa [bindφ, hi1] using hu
  refine ⟨h.size, h.defs, fun t p hp => ?_, fun i b hi' => ?_, fun i j u v g hi' hj' hu hv' hg hg' => ?_, fun i u g hi' hu hg => ?_, h.sub, h.ini, h.new1, h.lt0, h.os, h.tape, h.output, h.big, h.kept, h.k0lt, h.gbig, h.glob, fun j u hu => ?_, h.nx1, fun i hi' => ?_, fun t p hp => (h.ghost t p hp).imp fun x hx => ⟨hx.1, repV_mono hφ hid (fun _ _ e => e) p x hx.2⟩⟩
  · obtain ⟨x, hx, hr⟩ := h.frame t p hp
    exact ⟨x, hx, repV_mono hφ hid (fun _ _ e => e) p x hr⟩
  · rcases hcase i b hi' with ⟨j, c, rfl, hc, rfl⟩ | ⟨_, hi'⟩
    · exact ren_holds hψ h0 (hb j c hc)
    · exact holds_mono (h.heap i b hi') hφ (fun _ _ e => e) hid fun _ _ _ _ => rfl
  · obtain ⟨b, hb1⟩ := Option.ne_none_iff_exists'.1 hi'
    obtain ⟨c, hc1⟩ := Option.ne_none_iff_exists'.1 hj'
    rcases hcase i b hb1 with ⟨j1, _, rfl, _, _⟩ | ⟨hi1, hi2⟩ <;> rcases hcase j c hc1 with ⟨j2, _, rfl, _, _⟩ | ⟨hj1, hj2⟩
    · rw [hi j1 j2 u v g (hval _ _ hu) (hval _ _ hv') hg hg']
    · exact absurd hg' ((hv j1 u g (hval _ _ hu) hg).2.2.2 j v (by rw [hj2]; simp) (hvalo _ _ hj1 hv'))
    · exact absurd hg ((hv j2 v g (hval _ _ hv') hg').2.2.2 i u (by rw [hi2]; simp) (hvalo _ _ hi1 hu))
    · exact h.inj i j u v g (by rw [hi2]; simp) (by rw [hj2]; simp) (hvalo _ _ hi1 hu) (hvalo _ _ hj1 hv') hg hg'
  · obtain ⟨b, hb1⟩ := Option.ne_none_iff_exists'.1 hi'
    rcases hcase i b hb1 with ⟨j1, _, rfl, _, _⟩ | ⟨hi1, hi2⟩
    · obtain ⟨h1, h2, h3, _⟩ := hv j1 u g (hval _ _ hu) hg
      exact ⟨h1, h2, h3⟩
    · exact h.apart i u g (by rw [hi2]; simp) (hvalo _ _ hi1 hu) hg
  · refine h.keep j u (hvalo _ _ ?_ hu)
    have := h.nx1
    simp only
    omega
  · by_cases hi1 : i.1 = σ.nx + d
    · exact .inr ⟨d, by simp [upd], hi1⟩
    · have : φ i ≠ none := by simpa [bindφ, hi1] using hi'
      rcases h.ids i this with h1 | ⟨e, he, h1⟩
      · exact .inl h1
      · refine .inr ⟨e, ?_, h1⟩
        by_cases hed : e = d
        · subst hed; simp [upd]
        · show upd σ.us d true e = true
          rw [upd_ne _ _ hed]; exact he

/-! ### Contracts -/
def Callable (P : Program) (f : FuncId) : Prop := ∃ fn, P.funcs[f]? = some fn ∧ (fn.name == "runtime.NumGoroutine") = false ∧ fn.body.isNone = false

/-- WHAT A CALL OF f WITH args GIVES: r, with the new blocks B; in every world whose globals are as in gw. -/
structure VCall (P : Program) (gw : World) (gb : Nat) (f : FuncId) (args : List PV) (r : PV) (B : List Blk) : Prop where
  callable : Callable P f
  run : ∀ (w : World) (xs : Array Value) (F : Nat → Prop), gb ≤ w.heap.size → (∀ g, g < gb → w.heap[g]? = gw.heap[g]?) → (∀ g, F g → g < w.heap.size) →
    repVs (fun _ => none) w (Fs F fun _ => False) args xs.toList →
    Calls P f xs w fun e w' => ∃ (x : Value) (ψ : Id → Option Value) (X : Nat → Prop), e = .returned x ∧ Below w.heap.size w w' ∧ (∀ g, X g → w.heap.size ≤ g ∧ g < w'.heap.size) ∧
      repV ψ w' (Fs (fun g => F g ∨ X g) X) r x ∧ (∀ j b, B[j]? = some b → holds ψ w' (Fs (fun g => F g ∨ X g) X) (0, j) b) ∧ (∀ i, ψ i ≠ none → i.1 = 0) ∧
      (∀ j u g, ψ (0, j) = some u → blkOf u = some g → w.heap.size ≤ g ∧ ¬ X g) ∧
      (∀ j k u v g, ψ (0, j) = some u → ψ (0, k) = some v → blkOf u = some g → blkOf v = some g → j = k)

/-- The state behind a call. -/
def St.called (σ : St) (d : Nat) (r : PV) (B : List Blk) : St :=
  { σ with fr := upd σ.fr d (some (r.ren (σ.nx + d))), H := bindB (σ.nx + d) B σ.H, us := upd σ.us d true }
end
end Go.Vm
end

section
namespace Go.Vm
open Go Go.RowKit
set_option linter.unusedVariables false
set_option linter.unusedSimpArgs false

def argsOf (ρ : Operand → Option PV) : List Operand → Option (List PV)
  | [] => some []
  | x :: rest =>
    match ρ x, argsOf ρ rest with
    | some p, some ps => some (p :: ps)
    | _, _ => none

/-- What a call calls, and what it hands on. -/
def callOf (ρ : Operand → Option PV) (c : Call) : Option (FuncId × List PV) :=
  match c.callee with
  | .value x =>
    match ρ x, argsOf ρ c.args.toList with
    | some (.one (.fn f caps)), some ps => some (f, ps ++ caps.map .one)
    | some (.one (.mth f fs)), some ps => some (f, fs.map .one ++ ps)
    | _, _ => none
  | _ => none

section
variable {ρ : Operand → Option PV} {H : Id → Option Blk} {C : Ctx} {φ φ' : Id → Option Value} {F : Bool → Nat → Prop} {F0 F1 : Nat → Prop} {σ : St} {a : Act} {w w' : World} {P : Program}

theorem argsOf_rep (h : RelX C φ F0 F1 σ a w) (V : View φ w (Fs F0 F1) a σ ρ H) : ∀ (l : List Operand) (ps : List PV), argsOf ρ l = some ps → repVs φ w (Fs F0 F1) ps (l.map a.eval)
  | [], ps, hp => by simp only [argsOf] at hp; cases hp; simp [repVs]
  | x :: l, ps, hp => by
    simp only [argsOf] at hp
    split at hp
    · rename_i p ps' hx hl
      cases hp
      simp only [repVs, List.map_cons]
      exact ⟨_, _, rfl, V.ev hx, argsOf_rep h V l ps' hl⟩
    · cases hp

theorem repVs_append : ∀ {ps qs : List PV} {vs us : List Value}, repVs φ w F ps vs → repVs φ w F qs us → repVs φ w F (ps ++ qs) (vs ++ us)
  | [], qs, vs, us, h, h' => by
    simp only [repVs] at h
    subst h
    exact h'
  | p :: ps, qs, vs, us, h, h' => by
    simp only [repVs] at h
    obtain ⟨v, vs', rfl, hr, h⟩ := h
    simp only [List.cons_append, repVs]
    exact ⟨v, _, rfl, hr, repVs_append h h'⟩

theorem repVs_ones : ∀ {ps : List PC} {vs : List Value}, reps φ w F ps vs → repVs φ w F (ps.map .one) vs
  | [], vs, h => by simpa only [reps, repVs, List.map_nil] using h
  | p :: ps, vs, h => by
    simp only [reps] at h
    obtain ⟨v, vs', rfl, hr, h⟩ := h
    simp only [List.map_cons, repVs]
    exact ⟨v, vs', rfl, by simpa only [repV] using hr, repVs_ones h⟩

/-- The run of a call, up to the callee's entry. -/
theorem call_run (h : RelX C φ F0 F1 σ a w) (V : View φ w (Fs F0 F1) a σ ρ H) {c : Call} {f : FuncId} {ps : List PV} (hc : callOf ρ c = some (f, ps)) (hf : Callable C.P f)
    {d : Option Tmp} {ty : TypeId} {pos : String} {af : Array Edge} {gd : Option (Nat × Bool)} :
    ∃ xs : Array Value, (execOp a.eval ⟨d, .call c, ty, pos, af, gd⟩).run C.P w = .ok (.enter f xs) w ∧ repVs φ w (Fs F0 F1) ps xs.toList := by
  obtain ⟨cal, ar, at_⟩ := c
  simp only [callOf] at hc
  split at hc
  · rename_i x
    split at hc
    · rename_i f' caps qs hx hq
      cases hc
      have hxr := V.ev hx
      simp only [repV, rep] at hxr
      obtain ⟨vs, hxe, hcr⟩ := hxr
      obtain ⟨fn, hfn, hname, hbody⟩ := hf
      refine ⟨ar.map a.eval ++ vs, ?_, ?_⟩
      · simp only [execOp, resolve, hxe, Deferred.ofValue]
        simp [invoke, callFunc, hfn, hname, hbody]
        have : ¬ fn.name = "runtime.NumGoroutine" := by simpa using hname
        have h2 : ¬ fn.body = none := by
          intro e; rw [e] at hbody; simp at hbody
        simp [this, h2]
      · rw [Array.toList_append, Array.toList_map]
        exact repVs_append (argsOf_rep h V _ _ hq) (repVs_ones hcr)
    · rename_i f' caps qs hx hq
      cases hc
      have hxr := V.ev hx
      simp only [repV, rep] at hxr
      obtain ⟨vs, hxe, hcr⟩ := hxr
      obtain ⟨fn, hfn, hname, hbody⟩ := hf
      refine ⟨vs ++ ar.map a.eval, ?_, ?_⟩
      · simp only [execOp, resolve, hxe, Deferred.ofValue]
        simp [invoke, callFunc, hfn, hname, hbody]
        have : ¬ fn.name = "runtime.NumGoroutine" := by simpa using hname
        have h2 : ¬ fn.body = none := by
          intro e; rw [e] at hbody; simp at hbody
        simp [this, h2]
      · rw [Array.toList_append, Array.toList_map]
        exact repVs_append (repVs_ones hcr) (argsOf_rep h V _ _ hq)
    · cases hc
  · cases hc

theorem cloVs_rep (h : RelX C φ F0 F1 σ a w) (hle : ∀ {i b}, H i = some b → σ.H i = some b) {k : Nat} : ∀ {ps : List PV} {xs : List Value}, repVs φ w (Fs F0 F1) ps xs → PV.frees (ps.map (cloV H k)) = true →
    repVs (fun _ => none) w (Fs (Lent φ H F0) fun _ => False) (ps.map (cloV H k)) xs
  | [], xs, hr, _ => by simpa only [repVs, List.map_nil] using hr
  | p :: ps, xs, hr, hf => by
    simp only [repVs] at hr
    obtain ⟨v, vs', rfl, hr, hrs⟩ := hr
    simp only [List.map_cons, PV.frees, Bool.and_eq_true] at hf
    simp only [List.map_cons, repVs]
    exact ⟨v, vs', rfl, cloV_rep h hle hr hf.1, cloVs_rep h hle hrs hf.2⟩

def strictB : List Blk → Bool
  | [] => true
  | b :: bs => PC.stricts b.kids && strictB bs

theorem strictB_get : ∀ {B : List Blk} {j : Nat} {b : Blk}, strictB B = true → B[j]? = some b → PC.stricts b.kids = true
  | [], j, b, _, hb => by simp at hb
  | c :: B, j, b, hs, hb => by
    simp only [strictB, Bool.and_eq_true] at hs
    cases j with
    | zero => simp at hb; subst hb; exact hs.1
    | succ j => exact strictB_get hs.2 (by simpa using hb)

/-- Behind a call whose results are new. -/
theorem called_rel (h : RelX C φ F0 F1 σ a w) {L : Nat → Prop} {d : Nat} {r : PV} {B : List Blk} {x : Value} {ψ : Id → Option Value} {X : Nat → Prop} (hd : d < C.nt) (hus : σ.us d = false)
    (hb : Below w.heap.size w w') (hX : ∀ g, X g → w.heap.size ≤ g ∧ g < w'.heap.size)
    (hr : repV ψ w' (Fs (fun g => L g ∨ X g) X) r x) (hB : ∀ j b, B[j]? = some b → holds ψ w' (Fs (fun g => L g ∨ X g) X) (0, j) b) (h0 : ∀ i, ψ i ≠ none → i.1 = 0)
    (hv : ∀ j u g, ψ (0, j) = some u → blkOf u = some g → w.heap.size ≤ g ∧ ¬ X g) (hi : ∀ j k u v g, ψ (0, j) = some u → ψ (0, k) = some v → blkOf u = some g → blkOf v = some g → j = k)
    (hs : (r.strict = true ∧ strictB B = true) ∨ ∀ g, L g → F0 g) : Rel C (σ.called d r B) (a.put (some d) x) w' := by
  have hr' : repV ψ w' (Fs (fun g => F0 g ∨ X g) (fun g => F1 g ∨ X g)) r x := by
    rcases hs with ⟨hs, _⟩ | hs
    · exact strict_repV (fun g hg => .inr hg) r x hs hr
    · refine repV_mono (fun _ _ e => e) (fun _ _ _ => rfl) (fun t g hg => ?_) r x hr
      cases t
      · rcases hg with hg | hg
        · exact .inl (hs g hg)
        · exact .inr hg
      · exact .inr hg
  have hB' : ∀ j b, B[j]? = some b → holds ψ w' (Fs (fun g => F0 g ∨ X g) (fun g => F1 g ∨ X g)) (0, j) b := by
    intro j b hj
    rcases hs with ⟨_, hs⟩ | hs
    · exact strict_holds (fun g hg => .inr hg) (strictB_get hs hj) (hB j b hj)
    · refine holds_mono (hB j b hj) (fun _ _ e => e) (fun t g hg => ?_) (fun _ _ _ => rfl) (fun _ _ _ _ => rfl)
      cases t
      · rcases hg with hg | hg
        · exact .inl (hs g hg)
        · exact .inr hg
      · exact .inr hg
  have hg := h.grow hb X hX
  have hbd := hg.binds (d := d) (B := B) (ψ := ψ) hus h0 hB' (fun j u g hu hg' => by
    obtain ⟨h1, h2⟩ := hv j u g hu hg'
    refine ⟨?_, ?_, Nat.le_trans (Nat.le_trans h.gbig h.big) h1, fun k v hk hv' he => ?_⟩
    · rintro (h3 | h3)
      · have := h.lt0 g h3; omega
      · exact h2 h3
    · intro h3
      have := h.k0lt g h3
      have := h.big
      omega
    · obtain ⟨b, hb'⟩ := Option.ne_none_iff_exists'.1 hk
      have := holds_lt (h.heap k b hb') hv' he
      omega) hi
  have hφ : ∀ j u, ψ (0, j) = some u → bindφ (σ.nx + d) ψ φ (σ.nx + d, j) = some u := by
    intro j u hu; simp [bindφ, hu]
  have := hbd.put hd (ren_repV hφ h0 r x hr')
  exact ⟨_, _, _, this⟩

variable {d : Option Tmp} {ty : TypeId} {pos : String} {af : Array Edge} {gd : Option (Nat × Bool)} {K : Act → World → Prop} {Q : Exit → Act → World → Prop}

theorem call_ok (h : RelX C φ F0 F1 σ a w) (V : View φ w (Fs F0 F1) a σ ρ H) {c : Call} {f : FuncId} {ps : List PV} {k t : Nat} {r : PV} {B : List Blk} (hc : callOf ρ c = some (f, ps))
    (hv : VCall C.P C.gw C.gb f (ps.map (cloV H k)) r B) (hf : PV.frees (ps.map (cloV H k)) = true) (hs : r.strict = true ∧ strictB B = true)
    (ht : t < C.nt) (hus : σ.us t = false) (hK : ∀ a' w', Rel C (σ.called t r B) a' w' → K a' w') : Oper.wp C.P ⟨some t, .call c, ty, pos, af, gd⟩ a w K Q := by
  obtain ⟨xs, hrun, hxs⟩ := call_run h V hc hv.callable
  unfold Oper.wp
  rw [hrun, Oper.upon_enter]
  refine (hv.run w xs (Lent φ H F0) (Nat.le_trans h.gbig h.big) h.glob (lent_lt h V.heap) (cloVs_rep h V.heap hxs hf)).mono fun e w' he => ?_
  obtain ⟨x, ψ, X, rfl, hb, hX, hr, hB, h0, hv', hi⟩ := he
  exact hK _ _ (called_rel h ht hus hb hX hr hB h0 hv' hi (.inl hs))

theorem weakV_rep (h : RelX C φ F0 F1 σ a w) {k : Nat} : ∀ {p : PV} {x : Value}, repV φ w (Fs F0 F1) p x → p.free = true → (cloV H k p).free = true → repV (fun _ => none) w (Fs F0 fun _ => False) (cloV H k p) x := by
  have key : ∀ (k : Nat) (p : PC) (x : Value), rep φ w (Fs F0 F1) p x → p.free = true → rep φ w (Fs F0 fun _ => False) (clo H k p) x := by
    intro k p x hr hf
    have hw := weak_rep (F' := Fs F0 fun _ => False) (fun t g hg => Fs_f0 h.sub t g hg) p x hr
    unfold clo
    split
    · simp only [rep] at hr ⊢
      obtain ⟨rfl, _⟩ := hr
      exact ⟨none, 0, rfl, Nat.le_refl _, .inl (by simp)⟩
    · simp only [rep] at hr ⊢
      obtain ⟨A, rfl⟩ := hr
      exact ⟨A, 0, rfl, Nat.le_refl _, .inl (by simp)⟩
    · simp [PC.free] at hf
    · simp [PC.free] at hf
    · simp [PC.free] at hf
    · exact hw
  intro p x hr hf hf'
  cases p with
  | one p =>
    simp only [cloV, PV.free] at hf hf' ⊢
    simp only [repV] at hr ⊢
    exact free_rep (fun _ _ e => e) _ _ hf' (key k p x hr hf)
  | agg ps =>
    simp only [cloV, PV.free] at hf hf' ⊢
    simp only [repV] at hr ⊢
    obtain ⟨vs, hx, hr⟩ := hr
    have hfr : ∀ q ∈ ps, q.free = true := by
      have : ∀ (l : List PC), PC.frees l = true → ∀ q ∈ l, q.free = true := by
        intro l
        induction l with
        | nil => intro _ q hq; simp at hq
        | cons y l ih =>
          intro hl q hq
          simp only [PC.frees, Bool.and_eq_true] at hl
          rcases List.mem_cons.1 hq with rfl | hq
          · exact hl.1
          · exact ih hl.2 q hq
      exact this ps hf
    refine ⟨vs, hx, free_reps (φ := φ) (fun _ _ e => e) _ _ hf' (reps_of_get _ _ (by simpa using reps_length _ _ hr) fun j q v hq hv => ?_)⟩
    rw [List.getElem?_map] at hq
    obtain ⟨q', hq', rfl⟩ := Option.map_eq_some_iff.1 hq
    obtain ⟨u, hu, hr'⟩ := reps_get _ _ hr j q' hq'
    rw [hv] at hu; cases hu
    exact key k q' v hr' (hfr q' (List.mem_of_getElem? hq'))
  | tup vs =>
    simp [cloV, PV.free] at hf'
  | may b p =>
    simp [cloV, PV.free] at hf'
  | full p =>
    simp [PV.free] at hf

theorem weakVs_rep (h : RelX C φ F0 F1 σ a w) {k : Nat} : ∀ {ps : List PV} {xs : List Value}, repVs φ w (Fs F0 F1) ps xs → PV.frees ps = true → PV.frees (ps.map (cloV H k)) = true →
    repVs (fun _ => none) w (Fs F0 fun _ => False) (ps.map (cloV H k)) xs
  | [], xs, hr, _, _ => by simpa only [repVs, List.map_nil] using hr
  | p :: ps, xs, hr, hp, hf => by
    simp only [repVs] at hr
    obtain ⟨v, vs', rfl, hr, hrs⟩ := hr
    simp only [List.map_cons, PV.frees, Bool.and_eq_true] at hf hp
    simp only [List.map_cons, repVs]
    exact ⟨v, vs', rfl, weakV_rep h hr hp.1 hf.1, weakVs_rep h hrs hp.2 hf.2⟩

/-- A call that may hand back what it was given. -/
theorem call_ok_share (h : RelX C φ F0 F1 σ a w) (V : View φ w (Fs F0 F1) a σ ρ H) {c : Call} {f : FuncId} {ps : List PV} {k t : Nat} {r : PV} {B : List Blk} (hc : callOf ρ c = some (f, ps))
    (hv : VCall C.P C.gw C.gb f (ps.map (cloV H k)) r B) (hp : PV.frees ps = true) (hf : PV.frees (ps.map (cloV H k)) = true)
    (ht : t < C.nt) (hus : σ.us t = false) (hK : ∀ a' w', Rel C (σ.called t r B) a' w' → K a' w') : Oper.wp C.P ⟨some t, .call c, ty, pos, af, gd⟩ a w K Q := by
  obtain ⟨xs, hrun, hxs⟩ := call_run h V hc hv.callable
  unfold Oper.wp
  rw [hrun, Oper.upon_enter]
  refine (hv.run w xs F0 (Nat.le_trans h.gbig h.big) h.glob h.lt0 (weakVs_rep h hxs hp hf)).mono fun e w' he => ?_
  obtain ⟨x, ψ, X, rfl, hb, hX, hr, hB, h0, hv', hi⟩ := he
  exact hK _ _ (called_rel h ht hus hb hX hr hB h0 hv' hi (.inr fun _ e => e))
end
end Go.Vm
end

section
namespace Go.Vm
open Go Go.RowKit
set_option linter.unusedSimpArgs false
set_option linter.unusedVariables false

/-! ### The caller's side of a call that is handed blocks -/
def Handed (φ0 : Id → Option Value) (g : Nat) : Prop := ∃ j u, φ0 (0, j) = some u ∧ blkOf u = some g

/-- WHAT A CALL OF f WITH args GIVES THAT IS HANDED THE BLOCKS Hin (names (0, 0), (0, 1), ..): r, and the blocks B: those that were handed, as they are then (none: gone), and new ones behind them. -/
structure VCallIO (P : Program) (gw : World) (gb : Nat) (f : FuncId) (args : List PV) (Hin : List Blk) (r : PV) (B : List (Option Blk)) : Prop where
  callable : Callable P f
  len : Hin.length ≤ B.length
  run : ∀ (w : World) (xs : Array Value) (F : Nat → Prop) (φ0 : Id → Option Value), gb ≤ w.heap.size → (∀ g, g < gb → w.heap[g]? = gw.heap[g]?) → (∀ g, F g → g < w.heap.size) →
    (∀ i, φ0 i ≠ none → i.1 = 0) → (∀ j b, Hin[j]? = some b → holds φ0 w (Fs F fun _ => False) (0, j) b) →
    (∀ j u g, φ0 (0, j) = some u → blkOf u = some g → ¬ F g ∧ gb ≤ g) → (∀ j u, φ0 (0, j) = some u → j < Hin.length) →
    (∀ j k u v g, φ0 (0, j) = some u → φ0 (0, k) = some v → blkOf u = some g → blkOf v = some g → j = k) →
    repVs φ0 w (Fs F fun _ => False) args xs.toList →
    Calls P f xs w fun e w' => ∃ (x : Value) (ψ : Id → Option Value) (X : Nat → Prop), e = .returned x ∧ w'.os = w.os ∧ w'.tape = w.tape ∧ w'.output = w.output ∧ w.heap.size ≤ w'.heap.size ∧
      (∀ g, g < w.heap.size → ¬ Handed φ0 g → w'.heap[g]? = w.heap[g]?) ∧ (∀ g, X g → (w.heap.size ≤ g ∨ Handed φ0 g) ∧ g < w'.heap.size) ∧
      repV ψ w' (Fs (fun g => F g ∨ X g) X) r x ∧ (∀ j b, B[j]? = some (some b) → holds ψ w' (Fs (fun g => F g ∨ X g) X) (0, j) b) ∧ (∀ i, ψ i ≠ none → i.1 = 0) ∧
      (∀ j u, ψ (0, j) = some u → ∃ b, B[j]? = some (some b)) ∧
      (∀ j u g, ψ (0, j) = some u → blkOf u = some g → (w.heap.size ≤ g ∨ Handed φ0 g) ∧ ¬ X g) ∧
      (∀ j k u v g, ψ (0, j) = some u → ψ (0, k) = some v → blkOf u = some g → blkOf v = some g → j = k) ∧
      (∀ j u, j < Hin.length → ψ (0, j) = some u → φ0 (0, j) = some u)

def pos (M : List Id) (i : Id) : Option Nat :=
  match M with
  | [] => none
  | k :: M => if k = i then some 0 else (pos M i).map (· + 1)

def inId (M : List Id) (i : Id) : Id :=
  match pos M i with
  | some k => (0, k)
  | none => (1, 0)

/-- The caller's name of what the callee calls (0, j). -/
def outId (M : List Id) (s : Nat) (i : Id) : Id :=
  match M[i.2]? with
  | some k => k
  | none => (s, i.2 - M.length)

mutual
def PC.ioc (M : List Id) : PC → PC
  | .c v => .c v
  | .ifc => .ifc
  | .any => .any
  | .emp => .emp
  | .sl _ n xs => .sl false n (PC.iocs M xs)
  | .at _ ys => .at false (PC.iocs M ys)
  | .loc i off => .loc (inId M i) off
  | .vw i off n => .vw (inId M i) off n
  | .cut i n => .cut (inId M i) n
  | .rmp _ ks ps => .rmp false ks (PC.iocs M ps)
  | .own i => .own (inId M i)
  | .fn f caps => .fn f (PC.iocs M caps)
  | .mth f caps => .mth f (PC.iocs M caps)
def PC.iocs (M : List Id) : List PC → List PC
  | [] => []
  | p :: ps => p.ioc M :: PC.iocs M ps
end
mutual
def PC.iob (M : List Id) (s : Nat) : PC → PC
  | .c v => .c v
  | .ifc => .ifc
  | .any => .any
  | .emp => .emp
  | .sl t n xs => .sl t n (PC.iobs M s xs)
  | .at t ys => .at t (PC.iobs M s ys)
  | .loc i off => .loc (outId M s i) off
  | .vw i off n => .vw (outId M s i) off n
  | .cut i n => .cut (outId M s i) n
  | .rmp t ks ps => .rmp t ks (PC.iobs M s ps)
  | .own i => .own (outId M s i)
  | .fn f caps => .fn f (PC.iobs M s caps)
  | .mth f caps => .mth f (PC.iobs M s caps)
def PC.iobs (M : List Id) (s : Nat) : List PC → List PC
  | [] => []
  | p :: ps => p.iob M s :: PC.iobs M s ps
end
mutual
/-- Every name in it is one of those that are handed. -/
def PC.tag0 : PC → Bool
  | .c _ => true
  | .ifc => true
  | .any => true
  | .emp => true
  | .sl _ _ xs => PC.tag0s xs
  | .at _ ys => PC.tag0s ys
  | .loc i _ => i.1 == 0
  | .vw i _ _ => i.1 == 0
  | .cut i _ => i.1 == 0
  | .rmp _ _ ps => PC.tag0s ps
  | .own i => i.1 == 0
  | .fn _ caps => PC.tag0s caps
  | .mth _ caps => PC.tag0s caps
def PC.tag0s : List PC → Bool
  | [] => true
  | p :: ps => p.tag0 && PC.tag0s ps
end

def PV.ioc (M : List Id) : PV → PV
  | .one p => .one (p.ioc M)
  | .agg ps => .agg (PC.iocs M ps)
  | .tup vs => .tup vs
  | .may b p => .may b p
  | .full p => .full p
def PV.tag0 : PV → Bool
  | .one p => p.tag0
  | .agg ps => PC.tag0s ps
  | _ => false
mutual
def PV.iob (M : List Id) (s : Nat) : PV → PV
  | .one p => .one (p.iob M s)
  | .agg ps => .agg (PC.iobs M s ps)
  | .tup vs => .tup (PV.iobs M s vs)
  | .may b p => .may b (p.iob M s)
  | .full p => .full (p.iob M s)
def PV.iobs (M : List Id) (s : Nat) : List PV → List PV
  | [] => []
  | p :: ps => p.iob M s :: PV.iobs M s ps
end
def Blk.ioc (M : List Id) : Blk → Blk
  | .box ty cs => .box ty (PC.iocs M cs)
  | .arr ty z n cs => .arr ty z n (PC.iocs M cs)
  | .mp t es => .mp t (es.map fun e => (e.1, e.2.ioc M))
def Blk.iob (M : List Id) (s : Nat) : Blk → Blk
  | .box ty cs => .box ty (PC.iobs M s cs)
  | .arr ty z n cs => .arr ty z n (PC.iobs M s cs)
  | .mp t es => .mp t (es.map fun e => (e.1, e.2.iob M s))
theorem iocs_mapG (M : List Id) : ∀ l : List PC, PC.iocs M l = l.map (PC.ioc M)
  | [] => rfl
  | p :: l => by rw [PC.iocs, iocs_mapG M l]; rfl
theorem iobs_mapG (M : List Id) (s : Nat) : ∀ l : List PC, PC.iobs M s l = l.map (PC.iob M s)
  | [] => rfl
  | p :: l => by rw [PC.iobs, iobs_mapG M s l]; rfl

theorem pos_some {M : List Id} {i : Id} {k : Nat} (h : pos M i = some k) : M[k]? = some i := by
  induction M generalizing k with
  | nil => simp [pos] at h
  | cons j M ih =>
    simp only [pos] at h
    split at h
    · rename_i hj; cases h; simp [hj]
    · obtain ⟨k', hk, rfl⟩ := Option.map_eq_some_iff.1 h
      simpa using ih hk

section
variable {φ φ' ψ φ0 : Id → Option Value} {w : World} {F F' : Bool → Nat → Prop} {M : List Id} {s : Nat}
theorem inId_tag {i : Id} (h : (inId M i).1 = 0) : ∃ k, inId M i = (0, k) ∧ M[k]? = some i := by
  unfold inId at h ⊢
  split at h
  · rename_i k hk; exact ⟨k, rfl, pos_some hk⟩
  · cases h

mutual
theorem ioc_rep (hF : ∀ t g, F t g → F' false g) (hφ : ∀ j i u, M[j]? = some i → φ i = some u → φ0 (0, j) = some u) : ∀ (p : PC) (x : Value), (p.ioc M).tag0 = true → rep φ w F p x → rep φ0 w F' (p.ioc M) x
  | .c v, x, _, h => by simpa only [rep, PC.ioc] using h
  | .ifc, x, _, h => by simpa only [rep, PC.ioc] using h
  | .any, x, _, h => by simpa only [rep, PC.ioc] using h
  | .emp, x, _, h => by simpa only [rep, PC.ioc] using h
  | .sl t n xs, x, ht, h => by
    simp only [PC.ioc, PC.tag0] at ht
    simp only [rep, PC.ioc] at h ⊢
    obtain ⟨A, cap, hx, hn, h⟩ := h
    refine ⟨A, cap, hx, hn, ?_⟩
    rcases h with ⟨h1, rfl⟩ | ⟨ad, ha, hf, h⟩
    · exact .inl ⟨h1, rfl⟩
    · exact .inr ⟨ad, ha, hF _ _ hf, ioc_repAt hF hφ xs ad ht h⟩
  | .at t ys, x, ht, h => by
    simp only [PC.ioc, PC.tag0] at ht
    simp only [rep, PC.ioc] at h ⊢
    obtain ⟨ad, hx, hf, h⟩ := h
    exact ⟨ad, hx, hF _ _ hf, ioc_repAt hF hφ ys ad ht h⟩
  | .loc i off, x, ht, h => by
    simp only [PC.ioc, PC.tag0, beq_iff_eq] at ht
    simp only [rep, PC.ioc] at h ⊢
    obtain ⟨u, g, hu, hg, hx⟩ := h
    obtain ⟨k, hk, hm⟩ := inId_tag ht
    rw [hk]
    exact ⟨u, g, hφ k i u hm hu, hg, hx⟩
  | .vw i off n, x, ht, h => by
    simp only [PC.ioc, PC.tag0, beq_iff_eq] at ht
    simp only [rep, PC.ioc] at h ⊢
    obtain ⟨u, A, cap, hu, hx⟩ := h
    obtain ⟨k, hk, hm⟩ := inId_tag ht
    rw [hk]
    exact ⟨u, A, cap, hφ k i u hm hu, hx⟩
  | .cut i n, x, ht, h => by
    simp only [PC.ioc, PC.tag0, beq_iff_eq] at ht
    simp only [rep, PC.ioc] at h ⊢
    obtain ⟨A, N, cap, hu, hx⟩ := h
    obtain ⟨k, hk, hm⟩ := inId_tag ht
    rw [hk]
    exact ⟨A, N, cap, hφ k i _ hm hu, hx⟩
  | .rmp t ks ps, x, ht, h => by
    simp only [PC.ioc, PC.tag0] at ht
    simp only [rep, PC.ioc] at h ⊢
    obtain ⟨g, ents, clock, hx, hg, hh, hk, hr⟩ := h
    exact ⟨g, ents, clock, hx, hF _ _ hg, hh, hk, ioc_reps hF hφ ps _ ht hr⟩
  | .own i, x, ht, h => by
    simp only [PC.ioc, PC.tag0, beq_iff_eq] at ht
    simp only [rep, PC.ioc] at h ⊢
    obtain ⟨k, hk, hm⟩ := inId_tag ht
    rw [hk]
    exact ⟨hφ k i x hm h.1, h.2⟩
  | .fn f caps, x, ht, h => by
    simp only [PC.ioc, PC.tag0] at ht
    simp only [rep, PC.ioc] at h ⊢
    obtain ⟨vs, hx, h⟩ := h
    exact ⟨vs, hx, ioc_reps hF hφ caps _ ht h⟩
  | .mth f caps, x, ht, h => by
    simp only [PC.ioc, PC.tag0] at ht
    simp only [rep, PC.ioc] at h ⊢
    obtain ⟨vs, hx, h⟩ := h
    exact ⟨vs, hx, ioc_reps hF hφ caps _ ht h⟩
theorem ioc_repAt (hF : ∀ t g, F t g → F' false g) (hφ : ∀ j i u, M[j]? = some i → φ i = some u → φ0 (0, j) = some u) : ∀ (ps : List PC) (ad : Addr), PC.tag0s (PC.iocs M ps) = true → repAt φ w F ad ps → repAt φ0 w F' ad (PC.iocs M ps)
  | [], ad, _, h => by simp only [PC.iocs, repAt]
  | p :: ps, ad, ht, h => by
    simp only [PC.iocs, PC.tag0s, Bool.and_eq_true] at ht
    simp only [repAt, PC.iocs] at h ⊢
    obtain ⟨⟨v, hv, hr⟩, h⟩ := h
    exact ⟨⟨v, hv, ioc_rep hF hφ p v ht.1 hr⟩, ioc_repAt hF hφ ps _ ht.2 h⟩
theorem ioc_reps (hF : ∀ t g, F t g → F' false g) (hφ : ∀ j i u, M[j]? = some i → φ i = some u → φ0 (0, j) = some u) : ∀ (ps : List PC) (vs : List Value), PC.tag0s (PC.iocs M ps) = true → reps φ w F ps vs → reps φ0 w F' (PC.iocs M ps) vs
  | [], vs, _, h => by simpa only [PC.iocs, reps] using h
  | p :: ps, vs, ht, h => by
    simp only [PC.iocs, PC.tag0s, Bool.and_eq_true] at ht
    simp only [reps, PC.iocs] at h ⊢
    obtain ⟨v, vs', he, hr, h⟩ := h
    exact ⟨v, vs', he, ioc_rep hF hφ p v ht.1 hr, ioc_reps hF hφ ps vs' ht.2 h⟩
end

mutual
theorem iob_rep (hψ : ∀ j u, ψ (0, j) = some u → φ' (outId M s (0, j)) = some u) (h0 : ∀ i, ψ i ≠ none → i.1 = 0) : ∀ (p : PC) (x : Value), rep ψ w F p x → rep φ' w F (p.iob M s) x
  | .c v, x, h => by simpa only [rep, PC.iob] using h
  | .ifc, x, h => by simpa only [rep, PC.iob] using h
  | .any, x, h => by simpa only [rep, PC.iob] using h
  | .emp, x, h => by simpa only [rep, PC.iob] using h
  | .sl t n xs, x, h => by
    simp only [rep, PC.iob] at h ⊢
    obtain ⟨A, cap, hx, hn, h⟩ := h
    refine ⟨A, cap, hx, hn, ?_⟩
    rcases h with ⟨h1, rfl⟩ | ⟨ad, ha, hf, h⟩
    · exact .inl ⟨h1, rfl⟩
    · exact .inr ⟨ad, ha, hf, iob_repAt hψ h0 xs ad h⟩
  | .at t ys, x, h => by
    simp only [rep, PC.iob] at h ⊢
    obtain ⟨ad, hx, hf, h⟩ := h
    exact ⟨ad, hx, hf, iob_repAt hψ h0 ys ad h⟩
  | .loc i off, x, h => by
    simp only [rep, PC.iob] at h ⊢
    obtain ⟨u, g, hu, hg, hx⟩ := h
    have := h0 i (by rw [hu]; simp)
    obtain ⟨i1, i2⟩ := i
    simp only at this
    subst this
    exact ⟨u, g, hψ i2 u hu, hg, hx⟩
  | .vw i off n, x, h => by
    simp only [rep, PC.iob] at h ⊢
    obtain ⟨u, A, cap, hu, hx⟩ := h
    have := h0 i (by rw [hu]; simp)
    obtain ⟨i1, i2⟩ := i
    simp only at this
    subst this
    exact ⟨u, A, cap, hψ i2 u hu, hx⟩
  | .cut i n, x, h => by
    simp only [rep, PC.iob] at h ⊢
    obtain ⟨A, N, cap, hu, hx⟩ := h
    have := h0 i (by rw [hu]; simp)
    obtain ⟨i1, i2⟩ := i
    simp only at this
    subst this
    exact ⟨A, N, cap, hψ i2 _ hu, hx⟩
  | .rmp t ks ps, x, h => by
    simp only [rep, PC.iob] at h ⊢
    obtain ⟨g, ents, clock, hx, hg, hh, hk, hr⟩ := h
    exact ⟨g, ents, clock, hx, hg, hh, hk, iob_reps hψ h0 ps _ hr⟩
  | .own i, x, h => by
    simp only [rep, PC.iob] at h ⊢
    have := h0 i (by rw [h.1]; simp)
    obtain ⟨i1, i2⟩ := i
    simp only at this
    subst this
    exact ⟨hψ i2 x h.1, h.2⟩
  | .fn f caps, x, h => by
    simp only [rep, PC.iob] at h ⊢
    obtain ⟨vs, hx, h⟩ := h
    exact ⟨vs, hx, iob_reps hψ h0 caps _ h⟩
  | .mth f caps, x, h => by
    simp only [rep, PC.iob] at h ⊢
    obtain ⟨vs, hx, h⟩ := h
    exact ⟨vs, hx, iob_reps hψ h0 caps _ h⟩
theorem iob_repAt (hψ : ∀ j u, ψ (0, j) = some u → φ' (outId M s (0, j)) = some u) (h0 : ∀ i, ψ i ≠ none → i.1 = 0) : ∀ (ps : List PC) (ad : Addr), repAt ψ w F ad ps → repAt φ' w F ad (PC.iobs M s ps)
  | [], ad, h => by simp only [PC.iobs, repAt]
  | p :: ps, ad, h => by
    simp only [repAt, PC.iobs] at h ⊢
    obtain ⟨⟨v, hv, hr⟩, h⟩ := h
    exact ⟨⟨v, hv, iob_rep hψ h0 p v hr⟩, iob_repAt hψ h0 ps _ h⟩
theorem iob_reps (hψ : ∀ j u, ψ (0, j) = some u → φ' (outId M s (0, j)) = some u) (h0 : ∀ i, ψ i ≠ none → i.1 = 0) : ∀ (ps : List PC) (vs : List Value), reps ψ w F ps vs → reps φ' w F (PC.iobs M s ps) vs
  | [], vs, h => by simpa only [PC.iobs, reps] using h
  | p :: ps, vs, h => by
    simp only [reps, PC.iobs] at h ⊢
    obtain ⟨v, vs', he, hr, h⟩ := h
    exact ⟨v, vs', he, iob_rep hψ h0 p v hr, iob_reps hψ h0 ps vs' h⟩
end

mutual
theorem iob_repV (hψ : ∀ j u, ψ (0, j) = some u → φ' (outId M s (0, j)) = some u) (h0 : ∀ i, ψ i ≠ none → i.1 = 0) : ∀ (p : PV) (x : Value), repV ψ w F p x → repV φ' w F (p.iob M s) x
  | .one p, x, h => by
    simp only [repV, PV.iob] at h ⊢
    exact iob_rep hψ h0 p x h
  | .agg ps, x, h => by
    simp only [repV, PV.iob] at h ⊢
    obtain ⟨vs, hx, h⟩ := h
    exact ⟨vs, hx, iob_reps hψ h0 ps _ h⟩
  | .tup vs, x, h => by
    simp only [repV, PV.iob] at h ⊢
    obtain ⟨xs, hx, h⟩ := h
    exact ⟨xs, hx, iob_repVs hψ h0 vs _ h⟩
  | .may b p, x, h => by
    simp only [repV, PV.iob] at h ⊢
    exact ⟨fun e => iob_repV hψ h0 p x (h.1 e), h.2⟩
  | .full p, x, h => by
    simp only [repV, PV.iob] at h ⊢
    exact ⟨iob_rep hψ h0 p x h.1, h.2⟩
theorem iob_repVs (hψ : ∀ j u, ψ (0, j) = some u → φ' (outId M s (0, j)) = some u) (h0 : ∀ i, ψ i ≠ none → i.1 = 0) : ∀ (ps : List PV) (xs : List Value), repVs ψ w F ps xs → repVs φ' w F (PV.iobs M s ps) xs
  | [], xs, h => by simpa only [PV.iobs, repVs] using h
  | p :: ps, xs, h => by
    simp only [repVs, PV.iobs] at h ⊢
    obtain ⟨v, vs', he, hr, h⟩ := h
    exact ⟨v, vs', he, iob_repV hψ h0 p v hr, iob_repVs hψ h0 ps vs' h⟩
end

theorem ioc_repV (hF : ∀ t g, F t g → F' false g) (hφ : ∀ j i u, M[j]? = some i → φ i = some u → φ0 (0, j) = some u) {p : PV} {x : Value} (ht : (p.ioc M).tag0 = true) (h : repV φ w F p x) : repV φ0 w F' (p.ioc M) x := by
  cases p with
  | one p =>
    simp only [PV.ioc, PV.tag0] at ht
    simp only [repV, PV.ioc] at h ⊢
    exact ioc_rep hF hφ p x ht h
  | agg ps =>
    simp only [PV.ioc, PV.tag0] at ht
    simp only [repV, PV.ioc] at h ⊢
    obtain ⟨vs, hx, h⟩ := h
    exact ⟨vs, hx, ioc_reps hF hφ ps _ ht h⟩
  | tup vs => simp [PV.ioc, PV.tag0] at ht
  | may b p => simp [PV.ioc, PV.tag0] at ht
  | full p => simp [PV.ioc, PV.tag0] at ht

theorem ioc_repVs (hF : ∀ t g, F t g → F' false g) (hφ : ∀ j i u, M[j]? = some i → φ i = some u → φ0 (0, j) = some u) : ∀ {ps : List PV} {xs : List Value}, (ps.map (PV.ioc M)).all PV.tag0 = true → repVs φ w F ps xs → repVs φ0 w F' (ps.map (PV.ioc M)) xs
  | [], xs, _, h => by simpa only [List.map_nil, repVs] using h
  | p :: ps, xs, ht, h => by
    simp only [List.map_cons, List.all_cons, Bool.and_eq_true] at ht
    simp only [repVs, List.map_cons] at h ⊢
    obtain ⟨v, vs', he, hr, h⟩ := h
    exact ⟨v, vs', he, ioc_repV hF hφ ht.1 hr, ioc_repVs hF hφ ht.2 h⟩

theorem ioc_holds {i : Id} {j : Nat} {b : Blk} (hF : ∀ t g, F t g → F' false g) (hφ : ∀ j i u, M[j]? = some i → φ i = some u → φ0 (0, j) = some u) (hm : M[j]? = some i) (ht : PC.tag0s (b.ioc M).kids = true) (h : holds φ w F i b) : holds φ0 w F' (0, j) (b.ioc M) := by
  cases b with
  | box ty cells =>
    obtain ⟨g, vs, hp, hh, hr⟩ := h
    exact ⟨g, vs, hφ j i _ hm hp, hh, ioc_reps hF hφ _ _ ht hr⟩
  | arr ty size n cells =>
    obtain ⟨v, vs, hp, hh, hr⟩ := h
    exact ⟨v, vs, hφ j i _ hm hp, hh, ioc_reps hF hφ _ _ ht hr⟩
  | mp ty es =>
    obtain ⟨g, ents, clock, hp, hh, hk, hr⟩ := h
    have e : ((es.map fun e => (e.1, e.2.ioc M)).map (·.2) : List PC) = PC.iocs M (es.map (·.2)) := by rw [iocs_mapG, List.map_map, List.map_map]; rfl
    have ht' : PC.tag0s ((es.map fun e => (e.1, e.2.ioc M)).map (·.2) : List PC) = true := ht
    rw [e] at ht'
    refine ⟨g, ents, clock, hφ j i _ hm hp, hh, by rw [hk, List.map_map]; rfl, ?_⟩
    rw [e]
    exact ioc_reps hF hφ _ _ ht' hr

theorem iob_holds {j : Nat} {b : Blk} (hψ : ∀ j u, ψ (0, j) = some u → φ' (outId M s (0, j)) = some u) (h0 : ∀ i, ψ i ≠ none → i.1 = 0) (h : holds ψ w F (0, j) b) : holds φ' w F (outId M s (0, j)) (b.iob M s) := by
  cases b with
  | box ty cells =>
    obtain ⟨g, vs, hp, hh, hr⟩ := h
    exact ⟨g, vs, hψ j _ hp, hh, iob_reps hψ h0 _ _ hr⟩
  | arr ty size n cells =>
    obtain ⟨v, vs, hp, hh, hr⟩ := h
    exact ⟨v, vs, hψ j _ hp, hh, iob_reps hψ h0 _ _ hr⟩
  | mp ty es =>
    obtain ⟨g, ents, clock, hp, hh, hk, hr⟩ := h
    have e : ((es.map fun e => (e.1, e.2.iob M s)).map (·.2) : List PC) = PC.iobs M s (es.map (·.2)) := by rw [iobs_mapG, List.map_map, List.map_map]; rfl
    refine ⟨g, ents, clock, hψ j _ hp, hh, by rw [hk, List.map_map]; rfl, ?_⟩
    rw [e]
    exact iob_reps hψ h0 _ _ hr
end

/-- What a list of changes makes of the blocks. -/
def applyC (H : Id → Option Blk) : List (Id × Option Blk) → Id → Option Blk
  | [] => H
  | c :: L => applyC (upd H c.1 c.2) L

def ioChg (M : List Id) (s : Nat) : Nat → List (Option Blk) → List (Id × Option Blk)
  | _, [] => []
  | k, b :: B => (outId M s (0, k), b.map (Blk.iob M s)) :: ioChg M s (k + 1) B

def io0 (M : List Id) (φ : Id → Option Value) : Id → Option Value := fun i => if i.1 = 0 then (M[i.2]?).bind φ else none

/-- The state behind a call that was handed the blocks M. -/
def St.iod (σ : St) (d : Nat) (M : List Id) (r : PV) (B : List (Option Blk)) : St :=
  { σ with fr := upd σ.fr d (some (r.iob M (σ.nx + d))), H := applyC σ.H (ioChg M (σ.nx + d) 0 B), us := upd σ.us d true }

def strictBO : List (Option Blk) → Bool
  | [] => true
  | none :: bs => strictBO bs
  | some b :: bs => PC.stricts b.kids && strictBO bs

theorem strictBO_get : ∀ {B : List (Option Blk)} {j : Nat} {b : Blk}, strictBO B = true → B[j]? = some (some b) → PC.stricts b.kids = true
  | [], j, b, _, hb => by simp at hb
  | none :: B, j, b, hs, hb => by
    cases j with
    | zero => simp at hb
    | succ j => exact strictBO_get (by simpa only [strictBO] using hs) (by simpa using hb)
  | some c :: B, j, b, hs, hb => by
    simp only [strictBO, Bool.and_eq_true] at hs
    cases j with
    | zero => simp at hb; subst hb; exact hs.1
    | succ j => exact strictBO_get hs.2 (by simpa using hb)

theorem ioChg_at {M : List Id} {s : Nat} {i : Id} {b : Blk} : ∀ (B : List (Option Blk)) (k : Nat) (H : Id → Option Blk), applyC H (ioChg M s k B) i = some b →
    (∃ j c, outId M s (0, j) = i ∧ k ≤ j ∧ B[j - k]? = some (some c) ∧ b = c.iob M s) ∨ (H i = some b ∧ ∀ j, k ≤ j → j < k + B.length → outId M s (0, j) ≠ i)
  | [], k, H, h => .inr ⟨h, fun j h1 h2 => by simp at h2; omega⟩
  | v :: B, k, H, h => by
    simp only [ioChg, applyC] at h
    rcases ioChg_at B (k + 1) _ h with ⟨j, c, h1, h2, h3, h4⟩ | ⟨h1, h2⟩
    · refine .inl ⟨j, c, h1, by omega, ?_, h4⟩
      have : j - k = (j - (k + 1)) + 1 := by omega
      rw [this]
      simpa using h3
    · by_cases hi : outId M s (0, k) = i
      · rw [hi, upd_self] at h1
        obtain ⟨c, hc, rfl⟩ := Option.map_eq_some_iff.1 h1
        exact .inl ⟨k, c, hi, Nat.le_refl _, by simp [hc], rfl⟩
      · rw [upd_ne _ _ (Ne.symm hi)] at h1
        refine .inr ⟨h1, fun j h3 h4 => ?_⟩
        by_cases hj : j = k
        · subst hj; exact hi
        · exact h2 j (by omega) (by simp at h4; omega)

section
variable {C : Ctx} {φ : Id → Option Value} {F0 F1 : Nat → Prop} {σ : St} {a : Act} {w w' : World}

/-- Behind a call that was handed blocks. -/
theorem io_rel (h : RelX C φ F0 F1 σ a w) {M : List Id} {L : Nat → Prop} {d : Nat} {r : PV} {B : List (Option Blk)} {x : Value} {ψ : Id → Option Value} {X : Nat → Prop} (hd : d < C.nt) (hus : σ.us d = false)
    (hM : ∀ (j : Nat) (i : Id), M[j]? = some i → σ.H i ≠ none) (hlen : M.length ≤ B.length)
    (hos : w'.os = w.os) (htp : w'.tape = w.tape) (hout : w'.output = w.output) (hsz : w.heap.size ≤ w'.heap.size)
    (hold : ∀ g, g < w.heap.size → ¬ Handed (io0 M φ) g → w'.heap[g]? = w.heap[g]?)
    (hX : ∀ g, X g → (w.heap.size ≤ g ∨ Handed (io0 M φ) g) ∧ g < w'.heap.size)
    (hr : repV ψ w' (Fs (fun g => L g ∨ X g) X) r x) (hB : ∀ j b, B[j]? = some (some b) → holds ψ w' (Fs (fun g => L g ∨ X g) X) (0, j) b) (h0 : ∀ i, ψ i ≠ none → i.1 = 0)
    (hv : ∀ j u g, ψ (0, j) = some u → blkOf u = some g → (w.heap.size ≤ g ∨ Handed (io0 M φ) g) ∧ ¬ X g)
    (hi : ∀ j k u v g, ψ (0, j) = some u → ψ (0, k) = some v → blkOf u = some g → blkOf v = some g → j = k)
    (hk : ∀ j u, j < M.length → ψ (0, j) = some u → io0 M φ (0, j) = some u)
    (hs : (r.strict = true ∧ strictBO B = true) ∨ ∀ g, L g → F0 g) : Rel C (σ.iod d M r B) (a.put (some d) x) w' := by
  have hr' : repV ψ w' (Fs (fun g => F0 g ∨ X g) (fun g => F1 g ∨ X g)) r x := by
    rcases hs with ⟨hs, _⟩ | hs
    · exact strict_repV (fun g hg => .inr hg) r x hs hr
    · refine repV_mono (fun _ _ e => e) (fun _ _ _ => rfl) (fun t g hg => ?_) r x hr
      cases t
      · rcases hg with hg | hg
        · exact .inl (hs g hg)
        · exact .inr hg
      · exact .inr hg
  have hB' : ∀ j b, B[j]? = some (some b) → holds ψ w' (Fs (fun g => F0 g ∨ X g) (fun g => F1 g ∨ X g)) (0, j) b := by
    intro j b hj
    rcases hs with ⟨_, hs⟩ | hs
    · exact strict_holds (fun g hg => .inr hg) (strictBO_get hs hj) (hB j b hj)
    · refine holds_mono (hB j b hj) (fun _ _ e => e) (fun t g hg => ?_) (fun _ _ _ => rfl) (fun _ _ _ _ => rfl)
      cases t
      · rcases hg with hg | hg
        · exact .inl (hs g hg)
        · exact .inr hg
      · exact .inr hg
  have hfr : ∀ j, φ (σ.nx + d, j) = none := fun j => h.fresh hus
  have hHd : ∀ j, σ.H (σ.nx + d, j) = none := by
    intro j
    apply Classical.byContradiction
    intro hne
    obtain ⟨b, hb'⟩ := Option.ne_none_iff_exists'.1 hne
    have := h.heap _ b hb'
    cases b with
    | box ty cells => obtain ⟨g, vs, hp, _⟩ := this; rw [hfr] at hp; cases hp
    | arr ty size n cells => obtain ⟨v, vs, hp, _⟩ := this; rw [hfr] at hp; cases hp
    | mp ty es => obtain ⟨g, ents, clock, hp, _⟩ := this; rw [hfr] at hp; cases hp
  have hhand : ∀ g, Handed (io0 M φ) g → ∃ (j : Nat) (i : Id) (u : Value), M[j]? = some i ∧ φ i = some u ∧ blkOf u = some g ∧ σ.H i ≠ none := by
    rintro g ⟨j, u, hu, hg⟩
    simp only [io0, if_true] at hu
    obtain ⟨i, hi', hu⟩ := Option.bind_eq_some_iff.1 hu
    exact ⟨j, i, u, hi', hu, hg, hM j i hi'⟩
  have hhap : ∀ g, Handed (io0 M φ) g → ¬ F0 g ∧ ¬ C.K0 g ∧ C.gb ≤ g := by
    intro g hg
    obtain ⟨j, i, u, _, hu, hg, hn⟩ := hhand g hg
    exact h.apart i u g hn hu hg
  have hnew : ∀ g, (w.heap.size ≤ g ∨ Handed (io0 M φ) g) → ¬ F0 g ∧ ¬ C.K0 g ∧ C.gb ≤ g := by
    rintro g (hg | hg)
    · refine ⟨fun h1 => ?_, fun h1 => ?_, Nat.le_trans (Nat.le_trans h.gbig h.big) hg⟩
      · have := h.lt0 g h1; omega
      · have := h.k0lt g h1; have := h.big; omega
    · exact hhap g hg
  -- the names
  let s := σ.nx + d
  let φ' : Id → Option Value := fun i => if i.1 = s then ψ (0, i.2 + M.length) else φ i
  have hφ : ∀ j u, φ j = some u → φ' j = some u := by
    intro j u hu
    simp only [φ']
    split
    · rename_i hj
      obtain ⟨j1, j2⟩ := j
      simp at hj
      subst hj
      rw [hfr] at hu; cases hu
    · exact hu
  have hψ : ∀ j u, ψ (0, j) = some u → φ' (outId M s (0, j)) = some u := by
    intro j u hu
    simp only [outId]
    cases hm : M[j]? with
    | some k =>
      simp only
      have := hk j u (List.getElem?_eq_some_iff.1 hm).1 hu
      simp only [io0, if_true, hm, Option.bind_some] at this
      exact hφ _ _ this
    | none =>
      simp only [φ', if_true]
      have : M.length ≤ j := List.getElem?_eq_none_iff.1 hm
      rw [Nat.sub_add_cancel this]
      exact hu
  have hval : ∀ j c u, B[j]? = some (some c) → φ' (outId M s (0, j)) = some u → ψ (0, j) = some u := by
    intro j c u hb hu
    have hh := hB' j c hb
    have hex : ∃ u', ψ (0, j) = some u' := by
      cases c with
      | box ty cells => obtain ⟨g, vs, hp, _⟩ := hh; exact ⟨_, hp⟩
      | arr ty size n cells => obtain ⟨v, vs, hp, _⟩ := hh; exact ⟨_, hp⟩
      | mp ty es => obtain ⟨g, ents, clock, hp, _⟩ := hh; exact ⟨_, hp⟩
    obtain ⟨u', hu'⟩ := hex
    rw [hψ j u' hu'] at hu
    rw [hu', hu]
  have hwF : ∀ g, F0 g → w'.heap[g]? = w.heap[g]? := fun g hg => hold g (h.lt0 g hg) fun hh => (hhap g hh).1 hg
  have hF : ∀ t g, Fs F0 F1 t g → Fs (fun g => F0 g ∨ X g) (fun g => F1 g ∨ X g) t g := by
    intro t g hg; cases t <;> exact .inl hg
  have hcase : ∀ i b, applyC σ.H (ioChg M s 0 B) i = some b → (∃ j c, outId M s (0, j) = i ∧ B[j]? = some (some c) ∧ b = c.iob M s) ∨ (σ.H i = some b ∧ i.1 ≠ s ∧ ∀ j : Nat, M[j]? ≠ some i) := by
    intro i b hb
    rcases ioChg_at B 0 _ hb with ⟨j, c, h1, _, h3, h4⟩ | ⟨h1, h2⟩
    · exact .inl ⟨j, c, h1, by simpa using h3, h4⟩
    · refine .inr ⟨h1, fun he => ?_, fun j hj => ?_⟩
      · obtain ⟨i1, i2⟩ := i
        simp only at he
        rw [he, hHd] at h1
        cases h1
      · refine h2 j (Nat.zero_le _) ?_ ?_
        · have := (List.getElem?_eq_some_iff.1 hj).1
          omega
        · simp [outId, hj]
  have hvalo : ∀ (i : Id) u, i.1 ≠ s → φ' i = some u → φ i = some u := by
    intro i u hi1 hu
    simpa [φ', hi1] using hu
  have hother : ∀ (i : Id) u g, σ.H i ≠ none → (∀ j : Nat, M[j]? ≠ some i) → φ i = some u → blkOf u = some g → g < w.heap.size ∧ ¬ Handed (io0 M φ) g := by
    intro i u g hn hm hu hg
    obtain ⟨b, hb⟩ := Option.ne_none_iff_exists'.1 hn
    refine ⟨holds_lt (h.heap i b hb) hu hg, fun hh => ?_⟩
    obtain ⟨j, k, v, hj, hv', hg', hn'⟩ := hhand g hh
    have := h.inj i k u v g hn hn' hu hv' hg hg'
    subst this
    exact hm j hj
  have main : RelX C φ' (fun g => F0 g ∨ X g) (fun g => F1 g ∨ X g) { σ with H := applyC σ.H (ioChg M s 0 B), us := upd σ.us d true } a w' := by
    refine ⟨h.size, h.defs, fun t p hp => ?_, fun i b hib => ?_, fun i j u v g hi' hj' hu hv' hg hg' => ?_, fun i u g hi' hu hg => ?_, ?_, ?_, ?_, ?_, hos.trans h.os, htp.trans h.tape, hout.trans h.output, Nat.le_trans h.big hsz, fun g hg => ?_, h.k0lt, h.gbig, fun g hg => ?_, fun j u hu => ?_, h.nx1, fun i hi' => ?_, fun t p hp => (h.ghost t p hp).imp fun x hx => ⟨hx.1, repV_mono hφ (fun t g hg => hwF g (Fs_f0 h.sub t g hg)) hF p x hx.2⟩⟩
    · obtain ⟨x, hx, hr⟩ := h.frame t p hp
      exact ⟨x, hx, repV_mono hφ (fun t g hg => hwF g (Fs_f0 h.sub t g hg)) hF p x hr⟩
    · rcases hcase i b hib with ⟨j, c, rfl, hc, rfl⟩ | ⟨h1, h2, h3⟩
      · exact iob_holds hψ h0 (hB' j c hc)
      · refine holds_mono (h.heap i b h1) hφ hF (fun t g hg => hwF g (Fs_f0 h.sub t g hg)) fun u g hu hg => ?_
        obtain ⟨h4, h5⟩ := hother i u g (by rw [h1]; simp) h3 hu hg
        exact hold g h4 h5
    · obtain ⟨b, hb1⟩ := Option.ne_none_iff_exists'.1 hi'
      obtain ⟨c, hc1⟩ := Option.ne_none_iff_exists'.1 hj'
      rcases hcase i b hb1 with ⟨j1, c1, rfl, hb2, _⟩ | ⟨h1, h2, h3⟩ <;> rcases hcase j c hc1 with ⟨j2, c2, rfl, hc2, _⟩ | ⟨h4, h5, h6⟩
      · rw [hi j1 j2 u v g (hval _ _ _ hb2 hu) (hval _ _ _ hc2 hv') hg hg']
      · obtain ⟨h7, h8⟩ := hother j v g (by rw [h4]; simp) h6 (hvalo _ _ h5 hv') hg'
        rcases (hv j1 u g (hval _ _ _ hb2 hu) hg).1 with h9 | h9
        · omega
        · exact absurd h9 h8
      · obtain ⟨h7, h8⟩ := hother i u g (by rw [h1]; simp) h3 (hvalo _ _ h2 hu) hg
        rcases (hv j2 v g (hval _ _ _ hc2 hv') hg').1 with h9 | h9
        · omega
        · exact absurd h9 h8
      · exact h.inj i j u v g (by rw [h1]; simp) (by rw [h4]; simp) (hvalo _ _ h2 hu) (hvalo _ _ h5 hv') hg hg'
    · obtain ⟨b, hb1⟩ := Option.ne_none_iff_exists'.1 hi'
      rcases hcase i b hb1 with ⟨j1, c1, rfl, hb2, _⟩ | ⟨h1, h2, h3⟩
      · obtain ⟨h4, h5⟩ := hv j1 u g (hval _ _ _ hb2 hu) hg
        obtain ⟨h6, h7, h8⟩ := hnew g h4
        exact ⟨fun h9 => h9.elim h6 h5, h7, h8⟩
      · have hu' := hvalo _ _ h2 hu
        obtain ⟨h4, h5⟩ := hother i u g (by rw [h1]; simp) h3 hu' hg
        obtain ⟨h6, h7, h8⟩ := h.apart i u g (by rw [h1]; simp) hu' hg
        refine ⟨fun h9 => h9.elim h6 fun hx => ?_, h7, h8⟩
        rcases (hX g hx).1 with h10 | h10
        · omega
        · exact h5 h10
    · rintro g (hg | hg)
      · exact .inl (h.sub g hg)
      · exact .inr hg
    · rintro g (hg | hg)
      · exact (h.ini g hg).imp id .inl
      · exact .inr (.inr hg)
    · rintro g (hg | hg)
      · exact h.new1 g hg
      · exact fun hk => absurd hk (hnew g (hX g hg).1).2.1
    · rintro g (hg | hg)
      · exact Nat.lt_of_lt_of_le (h.lt0 g hg) hsz
      · exact (hX g hg).2
    · exact (hold g (Nat.lt_of_lt_of_le (h.k0lt g hg) h.big) fun hh => (hhap g hh).2.1 hg).trans (h.kept g hg)
    · refine (hold g (Nat.lt_of_lt_of_le hg (Nat.le_trans h.gbig h.big)) fun hh => ?_).trans (h.glob g hg)
      have := (hhap g hh).2.2
      omega
    · refine h.keep j u (hvalo _ _ ?_ hu)
      have := h.nx1
      simp only [s]
      omega
    · by_cases hi1 : i.1 = s
      · exact .inr ⟨d, by simp [upd], hi1⟩
      · have : φ i ≠ none := by simpa [φ', hi1] using hi'
        rcases h.ids i this with h1 | ⟨e, he, h1⟩
        · exact .inl h1
        · refine .inr ⟨e, ?_, h1⟩
          by_cases hed : e = d
          · subst hed; simp [upd]
          · show upd σ.us d true e = true
            rw [upd_ne _ _ hed]; exact he
  have := main.put hd (iob_repV (s := s) hψ h0 r x hr')
  exact ⟨_, _, _, this⟩
end

/-- The blocks that are not handed. -/
def hide (M : List Id) (H : Id → Option Blk) (i : Id) : Option Blk :=
  match pos M i with
  | some _ => none
  | none => H i

def gets (H : Id → Option Blk) : List Id → Option (List Blk)
  | [] => some []
  | i :: M =>
    match H i, gets H M with
    | some b, some bs => some (b :: bs)
    | _, _ => none

def nodup : List Id → Bool
  | [] => true
  | i :: M => (pos M i).isNone && nodup M

def tag0B : List Blk → Bool
  | [] => true
  | b :: bs => PC.tag0s b.kids && tag0B bs

theorem tag0B_get : ∀ {B : List Blk} {j : Nat} {b : Blk}, tag0B B = true → B[j]? = some b → PC.tag0s b.kids = true
  | [], j, b, _, hb => by simp at hb
  | c :: B, j, b, hs, hb => by
    simp only [tag0B, Bool.and_eq_true] at hs
    cases j with
    | zero => simp at hb; subst hb; exact hs.1
    | succ j => exact tag0B_get hs.2 (by simpa using hb)

theorem gets_get {H : Id → Option Blk} : ∀ {M : List Id} {bs : List Blk}, gets H M = some bs → bs.length = M.length ∧ ∀ (j : Nat) (i : Id), M[j]? = some i → ∃ b, bs[j]? = some b ∧ H i = some b
  | [], bs, h => by
    simp only [gets] at h
    cases h
    exact ⟨rfl, fun j i hj => by simp at hj⟩
  | k :: M, bs, h => by
    simp only [gets] at h
    split at h
    · rename_i b bs' hb hbs
      cases h
      obtain ⟨h1, h2⟩ := gets_get hbs
      refine ⟨by simp [h1], fun j i hj => ?_⟩
      cases j with
      | zero => simp at hj; subst hj; exact ⟨b, rfl, hb⟩
      | succ j => simpa using h2 j i (by simpa using hj)
    · cases h

theorem pos_none {M : List Id} {i : Id} (h : pos M i = none) : ∀ j : Nat, M[j]? ≠ some i := by
  induction M with
  | nil => intro j hj; simp at hj
  | cons k M ih =>
    simp only [pos] at h
    split at h
    · cases h
    · rename_i hk
      intro j hj
      cases j with
      | zero => simp at hj; exact hk hj
      | succ j => exact ih (by simpa using h) j (by simpa using hj)

theorem nodup_get : ∀ {M : List Id}, nodup M = true → ∀ (j k : Nat) (i : Id), M[j]? = some i → M[k]? = some i → j = k
  | [], _, j, k, i, hj, _ => by simp at hj
  | m :: M, h, j, k, i, hj, hk => by
    simp only [nodup, Bool.and_eq_true, Option.isNone_iff_eq_none] at h
    cases j with
    | zero =>
      cases k with
      | zero => rfl
      | succ k =>
        simp at hj
        subst hj
        exact absurd (by simpa using hk) (pos_none h.1 k)
    | succ j =>
      cases k with
      | zero =>
        simp at hk
        subst hk
        exact absurd (by simpa using hj) (pos_none h.1 j)
      | succ k => rw [nodup_get h.2 j k i (by simpa using hj) (by simpa using hk)]

section
variable {ρ : Operand → Option PV} {H : Id → Option Blk} {C : Ctx} {φ φ' : Id → Option Value} {F : Bool → Nat → Prop} {F0 F1 : Nat → Prop} {σ : St} {a : Act} {w w' : World} {P : Program}

theorem cloV_io (h : RelX C φ F0 F1 σ a w) (hle : ∀ {i b}, H i = some b → σ.H i = some b) {k : Nat} {M : List Id} {p : PV} {x : Value} (hr : repV φ w (Fs F0 F1) p x) (ht : ((cloV H k p).ioc M).tag0 = true) :
    repV φ w (Fs (Lent φ H F0) fun _ => False) (cloV H k p) x := by
  cases p with
  | one p =>
    simp only [cloV, repV] at hr ⊢
    exact clo_rep h hle k p x hr
  | agg ps =>
    simp only [cloV, repV] at hr ⊢
    obtain ⟨vs, hx, hr⟩ := hr
    refine ⟨vs, hx, reps_of_get _ _ (by simpa using reps_length _ _ hr) fun j q v hq hv => ?_⟩
    rw [List.getElem?_map] at hq
    obtain ⟨q', hq', rfl⟩ := Option.map_eq_some_iff.1 hq
    obtain ⟨u, hu, hr'⟩ := reps_get _ _ hr j q' hq'
    rw [hv] at hu; cases hu
    exact clo_rep h hle k q' v hr'
  | tup vs => simp [cloV, PV.ioc, PV.tag0] at ht
  | may b p => simp [cloV, PV.ioc, PV.tag0] at ht
  | full p =>
    simp only [cloV, repV] at hr ⊢
    exact clo_rep h hle k p x hr.1

theorem cloVs_io (h : RelX C φ F0 F1 σ a w) (hle : ∀ {i b}, H i = some b → σ.H i = some b) {k : Nat} {M : List Id} : ∀ {ps : List PV} {xs : List Value}, repVs φ w (Fs F0 F1) ps xs → (ps.map fun p => (cloV H k p).ioc M).all PV.tag0 = true →
    repVs φ w (Fs (Lent φ H F0) fun _ => False) (ps.map (cloV H k)) xs
  | [], xs, hr, _ => by simpa only [repVs, List.map_nil] using hr
  | p :: ps, xs, hr, hf => by
    simp only [repVs] at hr
    obtain ⟨v, vs', rfl, hr, hrs⟩ := hr
    simp only [List.map_cons, List.all_cons, Bool.and_eq_true] at hf
    simp only [List.map_cons, repVs]
    exact ⟨v, vs', rfl, cloV_io h hle hr hf.1, cloVs_io h hle hrs hf.2⟩

theorem shV_io (h : RelX C φ F0 F1 σ a w) {k : Nat} {M : List Id} {p : PV} {x : Value} (hr : repV φ w (Fs F0 F1) p x) (ht : (p.ioc M).tag0 = true) : repV φ w (Fs F0 fun _ => False) (cloV (hide M H) k p) x := by
  have key : ∀ (k : Nat) (p : PC) (x : Value), rep φ w (Fs F0 F1) p x → (p.ioc M).tag0 = true → rep φ w (Fs F0 fun _ => False) (clo (hide M H) k p) x := by
    intro k p x hr hf
    have hw := weak_rep (F' := Fs F0 fun _ => False) (fun t g hg => Fs_f0 h.sub t g hg) p x hr
    unfold clo
    split
    · simp only [rep] at hr ⊢
      obtain ⟨rfl, _⟩ := hr
      exact ⟨none, 0, rfl, Nat.le_refl _, .inl (by simp)⟩
    · simp only [rep] at hr ⊢
      obtain ⟨A, rfl⟩ := hr
      exact ⟨A, 0, rfl, Nat.le_refl _, .inl (by simp)⟩
    · rename_i i
      split
      · rename_i hH
        simp only [PC.ioc, PC.tag0, beq_iff_eq] at hf
        unfold hide at hH
        unfold inId at hf
        split at hH
        · cases hH
        · rename_i hp
          rw [hp] at hf
          cases hf
      · exact hw
    · rename_i i off n
      split
      · rename_i hH
        simp only [PC.ioc, PC.tag0, beq_iff_eq] at hf
        unfold hide at hH
        unfold inId at hf
        split at hH
        · cases hH
        · rename_i hp
          rw [hp] at hf
          cases hf
      · exact hw
    · rename_i i n
      split
      · rename_i hH
        simp only [PC.ioc, PC.tag0, beq_iff_eq] at hf
        unfold hide at hH
        unfold inId at hf
        split at hH
        · cases hH
        · rename_i hp
          rw [hp] at hf
          cases hf
      · exact hw
    · exact hw
  have hall : ∀ (l : List PC), PC.tag0s (PC.iocs M l) = true → ∀ q ∈ l, (q.ioc M).tag0 = true := by
    intro l
    induction l with
    | nil => intro _ q hq; simp at hq
    | cons y l ih =>
      intro hl q hq
      simp only [PC.iocs, PC.tag0s, Bool.and_eq_true] at hl
      rcases List.mem_cons.1 hq with rfl | hq
      · exact hl.1
      · exact ih hl.2 q hq
  cases p with
  | one p =>
    simp only [cloV, repV, PV.ioc, PV.tag0] at hr ht ⊢
    exact key k p x hr ht
  | agg ps =>
    simp only [cloV, repV, PV.ioc, PV.tag0] at hr ht ⊢
    obtain ⟨vs, hx, hr⟩ := hr
    refine ⟨vs, hx, reps_of_get _ _ (by simpa using reps_length _ _ hr) fun j q v hq hv => ?_⟩
    rw [List.getElem?_map] at hq
    obtain ⟨q', hq', rfl⟩ := Option.map_eq_some_iff.1 hq
    obtain ⟨u, hu, hr'⟩ := reps_get _ _ hr j q' hq'
    rw [hv] at hu; cases hu
    exact key k q' v hr' (hall ps ht q' (List.mem_of_getElem? hq'))
  | tup vs => simp [PV.ioc, PV.tag0] at ht
  | may b p => simp [PV.ioc, PV.tag0] at ht
  | full p => simp [PV.ioc, PV.tag0] at ht

theorem shVs_io (h : RelX C φ F0 F1 σ a w) {k : Nat} {M : List Id} : ∀ {ps : List PV} {xs : List Value}, repVs φ w (Fs F0 F1) ps xs → (ps.map (PV.ioc M)).all PV.tag0 = true →
    repVs φ w (Fs F0 fun _ => False) (ps.map (cloV (hide M H) k)) xs
  | [], xs, hr, _ => by simpa only [repVs, List.map_nil] using hr
  | p :: ps, xs, hr, hf => by
    simp only [repVs] at hr
    obtain ⟨v, vs', rfl, hr, hrs⟩ := hr
    simp only [List.map_cons, List.all_cons, Bool.and_eq_true] at hf
    simp only [List.map_cons, repVs]
    exact ⟨v, vs', rfl, shV_io h hr hf.1, shVs_io h hrs hf.2⟩

variable {d : Option Tmp} {ty : TypeId} {pos_ : String} {af : Array Edge} {gd : Option (Nat × Bool)} {K : Act → World → Prop} {Q : Exit → Act → World → Prop}

/-- A call that is handed the blocks M. -/
theorem io_ok (h : RelX C φ F0 F1 σ a w) (V : View φ w (Fs F0 F1) a σ ρ H) {c : Call} {f : FuncId} {ps args : List PV} {M : List Id} {bs : List Blk} {k t : Nat} {r : PV} {B : List (Option Blk)} (hc : callOf ρ c = some (f, ps))
    (hargs : (ps.map fun p => (cloV (hide M H) k p).ioc M) = args) (hat : args.all PV.tag0 = true) (hbs : gets H M = some bs) (hbt : tag0B (bs.map (Blk.ioc M)) = true) (hnd : nodup M = true)
    (hv : VCallIO C.P C.gw C.gb f args (bs.map (Blk.ioc M)) r B) (hs : (r.strict = true ∧ strictBO B = true) ∨ (ps.map (PV.ioc M)).all PV.tag0 = true)
    (ht : t < C.nt) (hus : σ.us t = false) (hK : ∀ a' w', Rel C (σ.iod t M r B) a' w' → K a' w') : Oper.wp C.P ⟨some t, .call c, ty, pos_, af, gd⟩ a w K Q := by
  obtain ⟨xs, hrun, hxs⟩ := call_run h V hc hv.callable
  subst hargs
  obtain ⟨hbl, hbg⟩ := gets_get hbs
  have hM : ∀ (j : Nat) (i : Id), M[j]? = some i → σ.H i ≠ none := by
    intro j i hj
    obtain ⟨b, _, hb⟩ := hbg j i hj
    rw [V.heap hb]; simp
  have hφ : ∀ (j : Nat) (i : Id) (u : Value), M[j]? = some i → φ i = some u → io0 M φ (0, j) = some u := by
    intro j i u hj hu
    simp [io0, hj, hu]
  have hφ' : ∀ j u, io0 M φ (0, j) = some u → ∃ i, M[j]? = some i ∧ φ i = some u := by
    intro j u hu
    simp only [io0, if_true] at hu
    exact Option.bind_eq_some_iff.1 hu
  have go : ∀ L : Nat → Prop, (∀ g, F0 g → L g) → (∀ g, L g → g < w.heap.size) → (∀ (j : Nat) (i : Id) (u : Value) (g : Nat), M[j]? = some i → φ i = some u → blkOf u = some g → ¬ L g) →
      repVs φ w (Fs L fun _ => False) (ps.map (cloV (hide M H) k)) xs.toList → ((r.strict = true ∧ strictBO B = true) ∨ ∀ g, L g → F0 g) → Oper.wp C.P ⟨some t, .call c, ty, pos_, af, gd⟩ a w K Q := by
    intro L hL hlt hap hxs hs
    unfold Oper.wp
    rw [hrun, Oper.upon_enter]
    have hF : ∀ t g, Fs F0 F1 t g → Fs L (fun _ => False) false g := fun t g hg => hL g (Fs_f0 h.sub t g hg)
    have hF' : ∀ t g, Fs L (fun _ => False) t g → Fs L (fun _ => False) false g := by
      intro t g hg
      cases t
      · exact hg
      · exact hg.elim
    refine (hv.run w xs L (io0 M φ) (Nat.le_trans h.gbig h.big) h.glob hlt ?_ ?_ ?_ ?_ ?_ ?_).mono fun e w' he => ?_
    · rintro ⟨i1, i2⟩ hi
      apply Classical.byContradiction
      intro hne
      exact hi (by simp only [io0]; rw [if_neg hne])
    · intro j b hj
      rw [List.getElem?_map] at hj
      obtain ⟨b0, hb0, rfl⟩ := Option.map_eq_some_iff.1 hj
      have hj' : j < M.length := by rw [← hbl]; exact (List.getElem?_eq_some_iff.1 hb0).1
      have hm := List.getElem?_eq_getElem hj'
      obtain ⟨b, hb, hHb⟩ := hbg j _ hm
      rw [hb0] at hb; cases hb
      exact ioc_holds hF hφ hm (tag0B_get hbt (by rw [List.getElem?_map, hb0]; rfl)) (h.heap _ _ (V.heap hHb))
    · intro j u g hu hg
      obtain ⟨i, hm, hu⟩ := hφ' j u hu
      exact ⟨hap j i u g hm hu hg, (h.apart i u g (hM j i hm) hu hg).2.2⟩
    · intro j u hu
      obtain ⟨i, hm, hu⟩ := hφ' j u hu
      rw [List.length_map, hbl]
      exact (List.getElem?_eq_some_iff.1 hm).1
    · intro j k u v g hu hv hg hg'
      obtain ⟨i, hm, hu⟩ := hφ' j u hu
      obtain ⟨i', hm', hv⟩ := hφ' k v hv
      have := h.inj i i' u v g (hM j i hm) (hM k i' hm') hu hv hg hg'
      subst this
      exact nodup_get hnd j k i hm hm'
    · have := ioc_repVs (φ := φ) (φ0 := io0 M φ) (M := M) (F' := Fs L fun _ => False) hF' hφ (ps := ps.map (cloV (hide M H) k)) (xs := xs.toList) (by simpa [List.map_map, Function.comp_def] using hat) hxs
      simpa [List.map_map, Function.comp_def] using this
    · obtain ⟨x, ψ, X, rfl, hos, htp, hout, hsz, hold, hX, hr, hB, h0, hdom, hv', hi, hk⟩ := he
      have hl : (bs.map (Blk.ioc M)).length = M.length := by rw [List.length_map, hbl]
      exact hK _ _ (io_rel h ht hus hM (by rw [← hl]; exact hv.len) hos htp hout hsz hold hX hr hB h0 hv' hi (fun j u hj => hk j u (by rw [hl]; exact hj)) hs)
  rcases hs with hs | hs
  · have hle : ∀ {i b}, hide M H i = some b → σ.H i = some b := by
      intro i b hb
      unfold hide at hb
      split at hb
      · cases hb
      · exact V.heap hb
    refine go (Lent φ (hide M H) F0) (fun g hg => .inl hg) (lent_lt h hle) ?_ (cloVs_io h hle hxs hat) (.inl hs)
    rintro j i u g hm hu hg (hl | ⟨i', u', hi', hu', hg'⟩)
    · exact (h.apart i u g (hM j i hm) hu hg).1 hl
    · obtain ⟨b, hb⟩ := Option.ne_none_iff_exists'.1 hi'
      have := h.inj i i' u u' g (hM j i hm) (by rw [hle hb]; simp) hu hu' hg hg'
      subst this
      unfold hide at hb
      split at hb
      · cases hb
      · rename_i hp
        exact pos_none hp j hm
  · exact go F0 (fun _ e => e) h.lt0 (fun j i u g hm hu hg => (h.apart i u g (hM j i hm) hu hg).1) (shVs_io h hxs hs) (.inr fun _ e => e)
end
end Go.Vm
end
