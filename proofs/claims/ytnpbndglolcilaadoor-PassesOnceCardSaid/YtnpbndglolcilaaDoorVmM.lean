/-
  Abstract states over the model's worlds, and that a step of them is a step of the program: part M of a framework. Conditions: each theorem's own premises. By an AI agent.
-/
import Derived.Test.YtnpbndglolcilaaDoorVmL
namespace Go.Vm
open Go Go.RowKit
set_option linter.unusedVariables false
set_option linter.unusedSimpArgs false

def argsOf (ρ : Operand → Option PV) : List Operand → Option (List PV)
  | [] => some []
  | x :: rest =>
    match ρ x, argsOf ρ rest with
    | some p, some ps => some (p :: ps)
    | _, _ => none

/-- What a call calls, and what it hands on. -/
def callOf (ρ : Operand → Option PV) (c : Call) : Option (FuncId × List PV) :=
  match c.callee with
  | .value x =>
    match ρ x, argsOf ρ c.args.toList with
    | some (.one (.fn f caps)), some ps => some (f, ps ++ caps.map .one)
    | _, _ => none
  | _ => none

section
variable {ρ : Operand → Option PV} {H : Id → Option Blk} {C : Ctx} {φ φ' : Id → Option Value} {F : Bool → Nat → Prop} {F0 F1 : Nat → Prop} {σ : St} {a : Act} {w w' : World} {P : Program}

theorem argsOf_rep (h : RelX C φ F0 F1 σ a w) (V : View φ w (Fs F0 F1) a σ ρ H) : ∀ (l : List Operand) (ps : List PV), argsOf ρ l = some ps → repVs φ w (Fs F0 F1) ps (l.map a.eval)
  | [], ps, hp => by simp only [argsOf] at hp; cases hp; simp [repVs]
  | x :: l, ps, hp => by
    simp only [argsOf] at hp
    split at hp
    · rename_i p ps' hx hl
      cases hp
      simp only [repVs, List.map_cons]
      exact ⟨_, _, rfl, V.ev hx, argsOf_rep h V l ps' hl⟩
    · cases hp

theorem repVs_append : ∀ {ps qs : List PV} {vs us : List Value}, repVs φ w F ps vs → repVs φ w F qs us → repVs φ w F (ps ++ qs) (vs ++ us)
  | [], qs, vs, us, h, h' => by
    simp only [repVs] at h
    subst h
    exact h'
  | p :: ps, qs, vs, us, h, h' => by
    simp only [repVs] at h
    obtain ⟨v, vs', rfl, hr, h⟩ := h
    simp only [List.cons_append, repVs]
    exact ⟨v, _, rfl, hr, repVs_append h h'⟩

theorem repVs_ones : ∀ {ps : List PC} {vs : List Value}, reps φ w F ps vs → repVs φ w F (ps.map .one) vs
  | [], vs, h => by simpa only [reps, repVs, List.map_nil] using h
  | p :: ps, vs, h => by
    simp only [reps] at h
    obtain ⟨v, vs', rfl, hr, h⟩ := h
    simp only [List.map_cons, repVs]
    exact ⟨v, vs', rfl, by simpa only [repV] using hr, repVs_ones h⟩

/-- The run of a call, up to the callee's entry. -/
theorem call_run (h : RelX C φ F0 F1 σ a w) (V : View φ w (Fs F0 F1) a σ ρ H) {c : Call} {f : FuncId} {ps : List PV} (hc : callOf ρ c = some (f, ps)) (hf : Callable C.P f)
    {d : Option Tmp} {ty : TypeId} {pos : String} {af : Array Edge} {gd : Option (Nat × Bool)} :
    ∃ xs : Array Value, (execOp a.eval ⟨d, .call c, ty, pos, af, gd⟩).run C.P w = .ok (.enter f xs) w ∧ repVs φ w (Fs F0 F1) ps xs.toList := by
  obtain ⟨cal, ar, at_⟩ := c
  simp only [callOf] at hc
  split at hc
  · rename_i x
    split at hc
    · rename_i f' caps qs hx hq
      cases hc
      have hxr := V.ev hx
      simp only [repV, rep] at hxr
      obtain ⟨vs, hxe, hcr⟩ := hxr
      obtain ⟨fn, hfn, hname, hbody⟩ := hf
      refine ⟨ar.map a.eval ++ vs, ?_, ?_⟩
      · simp only [execOp, resolve, hxe, Deferred.ofValue]
        simp [invoke, callFunc, hfn, hname, hbody]
        have : ¬ fn.name = "runtime.NumGoroutine" := by simpa using hname
        have h2 : ¬ fn.body = none := by
          intro e; rw [e] at hbody; simp at hbody
        simp [this, h2]
      · rw [Array.toList_append, Array.toList_map]
        exact repVs_append (argsOf_rep h V _ _ hq) (repVs_ones hcr)
    · cases hc
  · cases hc

theorem cloVs_rep (h : RelX C φ F0 F1 σ a w) (hle : ∀ {i b}, H i = some b → σ.H i = some b) {k : Nat} : ∀ {ps : List PV} {xs : List Value}, repVs φ w (Fs F0 F1) ps xs → PV.frees (ps.map (cloV H k)) = true →
    repVs (fun _ => none) w (Fs (Lent φ σ F0) fun _ => False) (ps.map (cloV H k)) xs
  | [], xs, hr, _ => by simpa only [repVs, List.map_nil] using hr
  | p :: ps, xs, hr, hf => by
    simp only [repVs] at hr
    obtain ⟨v, vs', rfl, hr, hrs⟩ := hr
    simp only [List.map_cons, PV.frees, Bool.and_eq_true] at hf
    simp only [List.map_cons, repVs]
    exact ⟨v, vs', rfl, cloV_rep h hle hr hf.1, cloVs_rep h hle hrs hf.2⟩

def strictB : List Blk → Bool
  | [] => true
  | b :: bs => PC.stricts b.cells && strictB bs

theorem strictB_get : ∀ {B : List Blk} {j : Nat} {b : Blk}, strictB B = true → B[j]? = some b → PC.stricts b.cells = true
  | [], j, b, _, hb => by simp at hb
  | c :: B, j, b, hs, hb => by
    simp only [strictB, Bool.and_eq_true] at hs
    cases j with
    | zero => simp at hb; subst hb; exact hs.1
    | succ j => exact strictB_get hs.2 (by simpa using hb)

/-- Behind a call whose results are new. -/
theorem called_rel (h : RelX C φ F0 F1 σ a w) {L : Nat → Prop} {d : Nat} {r : PV} {B : List Blk} {x : Value} {ψ : Id → Option Value} {X : Nat → Prop} (hd : d < C.nt) (hus : σ.us d = false)
    (hb : Below w.heap.size w w') (hX : ∀ g, X g → w.heap.size ≤ g ∧ g < w'.heap.size)
    (hr : repV ψ w' (Fs (fun g => L g ∨ X g) X) r x) (hB : ∀ j b, B[j]? = some b → holds ψ w' (Fs (fun g => L g ∨ X g) X) (0, j) b) (h0 : ∀ i, ψ i ≠ none → i.1 = 0)
    (hv : ∀ j u g, ψ (0, j) = some u → blkOf u = some g → w.heap.size ≤ g ∧ ¬ X g) (hi : ∀ j k u v g, ψ (0, j) = some u → ψ (0, k) = some v → blkOf u = some g → blkOf v = some g → j = k)
    (hs : (r.strict = true ∧ strictB B = true) ∨ ∀ g, L g → F0 g) : Rel C (σ.called d r B) (a.put (some d) x) w' := by
  have hr' : repV ψ w' (Fs (fun g => F0 g ∨ X g) (fun g => F1 g ∨ X g)) r x := by
    rcases hs with ⟨hs, _⟩ | hs
    · exact strict_repV (fun g hg => .inr hg) r x hs hr
    · refine repV_mono (fun _ _ e => e) (fun _ _ _ => rfl) (fun t g hg => ?_) r x hr
      cases t
      · rcases hg with hg | hg
        · exact .inl (hs g hg)
        · exact .inr hg
      · exact .inr hg
  have hB' : ∀ j b, B[j]? = some b → holds ψ w' (Fs (fun g => F0 g ∨ X g) (fun g => F1 g ∨ X g)) (0, j) b := by
    intro j b hj
    rcases hs with ⟨_, hs⟩ | hs
    · exact strict_holds (fun g hg => .inr hg) (strictB_get hs hj) (hB j b hj)
    · refine holds_mono (hB j b hj) (fun _ _ e => e) (fun t g hg => ?_) (fun _ _ _ => rfl) (fun _ _ _ _ => rfl)
      cases t
      · rcases hg with hg | hg
        · exact .inl (hs g hg)
        · exact .inr hg
      · exact .inr hg
  have hg := h.grow hb X hX
  have hbd := hg.binds (d := d) (B := B) (ψ := ψ) hus h0 hB' (fun j u g hu hg' => by
    obtain ⟨h1, h2⟩ := hv j u g hu hg'
    refine ⟨?_, ?_, Nat.le_trans (Nat.le_trans h.gbig h.big) h1, fun k v hk hv' he => ?_⟩
    · rintro (h3 | h3)
      · have := h.lt0 g h3; omega
      · exact h2 h3
    · intro h3
      have := h.k0lt g h3
      have := h.big
      omega
    · obtain ⟨b, hb'⟩ := Option.ne_none_iff_exists'.1 hk
      have := holds_lt (h.heap k b hb') hv' he
      omega) hi
  have hφ : ∀ j u, ψ (0, j) = some u → bindφ (σ.nx + d) ψ φ (σ.nx + d, j) = some u := by
    intro j u hu; simp [bindφ, hu]
  have := hbd.put hd (ren_repV hφ h0 r x hr')
  exact ⟨_, _, _, this⟩

variable {d : Option Tmp} {ty : TypeId} {pos : String} {af : Array Edge} {gd : Option (Nat × Bool)} {K : Act → World → Prop} {Q : Exit → Act → World → Prop}

theorem call_ok (h : RelX C φ F0 F1 σ a w) (V : View φ w (Fs F0 F1) a σ ρ H) {c : Call} {f : FuncId} {ps : List PV} {k t : Nat} {r : PV} {B : List Blk} (hc : callOf ρ c = some (f, ps))
    (hv : VCall C.P C.gw C.gb f (ps.map (cloV H k)) r B) (hf : PV.frees (ps.map (cloV H k)) = true) (hs : r.strict = true ∧ strictB B = true)
    (ht : t < C.nt) (hus : σ.us t = false) (hK : ∀ a' w', Rel C (σ.called t r B) a' w' → K a' w') : Oper.wp C.P ⟨some t, .call c, ty, pos, af, gd⟩ a w K Q := by
  obtain ⟨xs, hrun, hxs⟩ := call_run h V hc hv.callable
  unfold Oper.wp
  rw [hrun, Oper.upon_enter]
  refine (hv.run w xs (Lent φ σ F0) (Nat.le_trans h.gbig h.big) h.glob (lent_lt h) (cloVs_rep h V.heap hxs hf)).mono fun e w' he => ?_
  obtain ⟨x, ψ, X, rfl, hb, hX, hr, hB, h0, hv', hi⟩ := he
  exact hK _ _ (called_rel h ht hus hb hX hr hB h0 hv' hi (.inl hs))

theorem weakV_rep (h : RelX C φ F0 F1 σ a w) {k : Nat} : ∀ {p : PV} {x : Value}, repV φ w (Fs F0 F1) p x → p.free = true → (cloV H k p).free = true → repV (fun _ => none) w (Fs F0 fun _ => False) (cloV H k p) x := by
  have key : ∀ (k : Nat) (p : PC) (x : Value), rep φ w (Fs F0 F1) p x → p.free = true → rep φ w (Fs F0 fun _ => False) (clo H k p) x := by
    intro k p x hr hf
    have hw := weak_rep (F' := Fs F0 fun _ => False) (fun t g hg => Fs_f0 h.sub t g hg) p x hr
    unfold clo
    split
    · simp only [rep] at hr ⊢
      obtain ⟨rfl, _⟩ := hr
      exact ⟨none, 0, rfl, Nat.le_refl _, .inl (by simp)⟩
    · simp [PC.free] at hf
    · exact hw
  intro p x hr hf hf'
  cases p with
  | one p =>
    simp only [cloV, PV.free] at hf hf' ⊢
    simp only [repV] at hr ⊢
    exact free_rep (fun _ _ e => e) _ _ hf' (key k p x hr hf)
  | agg ps =>
    simp only [cloV, PV.free] at hf hf' ⊢
    simp only [repV] at hr ⊢
    obtain ⟨vs, hx, hr⟩ := hr
    have hfr : ∀ q ∈ ps, q.free = true := by
      have : ∀ (l : List PC), PC.frees l = true → ∀ q ∈ l, q.free = true := by
        intro l
        induction l with
        | nil => intro _ q hq; simp at hq
        | cons y l ih =>
          intro hl q hq
          simp only [PC.frees, Bool.and_eq_true] at hl
          rcases List.mem_cons.1 hq with rfl | hq
          · exact hl.1
          · exact ih hl.2 q hq
      exact this ps hf
    refine ⟨vs, hx, free_reps (φ := φ) (fun _ _ e => e) _ _ hf' (reps_of_get _ _ (by simpa using reps_length _ _ hr) fun j q v hq hv => ?_)⟩
    rw [List.getElem?_map] at hq
    obtain ⟨q', hq', rfl⟩ := Option.map_eq_some_iff.1 hq
    obtain ⟨u, hu, hr'⟩ := reps_get _ _ hr j q' hq'
    rw [hv] at hu; cases hu
    exact key k q' v hr' (hfr q' (List.mem_of_getElem? hq'))
  | tup vs =>
    simp [cloV, PV.free] at hf'
  | may b p =>
    simp [cloV, PV.free] at hf'

theorem weakVs_rep (h : RelX C φ F0 F1 σ a w) {k : Nat} : ∀ {ps : List PV} {xs : List Value}, repVs φ w (Fs F0 F1) ps xs → PV.frees ps = true → PV.frees (ps.map (cloV H k)) = true →
    repVs (fun _ => none) w (Fs F0 fun _ => False) (ps.map (cloV H k)) xs
  | [], xs, hr, _, _ => by simpa only [repVs, List.map_nil] using hr
  | p :: ps, xs, hr, hp, hf => by
    simp only [repVs] at hr
    obtain ⟨v, vs', rfl, hr, hrs⟩ := hr
    simp only [List.map_cons, PV.frees, Bool.and_eq_true] at hf hp
    simp only [List.map_cons, repVs]
    exact ⟨v, vs', rfl, weakV_rep h hr hp.1 hf.1, weakVs_rep h hrs hp.2 hf.2⟩

/-- A call that may hand back what it was given. -/
theorem call_ok_share (h : RelX C φ F0 F1 σ a w) (V : View φ w (Fs F0 F1) a σ ρ H) {c : Call} {f : FuncId} {ps : List PV} {k t : Nat} {r : PV} {B : List Blk} (hc : callOf ρ c = some (f, ps))
    (hv : VCall C.P C.gw C.gb f (ps.map (cloV H k)) r B) (hp : PV.frees ps = true) (hf : PV.frees (ps.map (cloV H k)) = true)
    (ht : t < C.nt) (hus : σ.us t = false) (hK : ∀ a' w', Rel C (σ.called t r B) a' w' → K a' w') : Oper.wp C.P ⟨some t, .call c, ty, pos, af, gd⟩ a w K Q := by
  obtain ⟨xs, hrun, hxs⟩ := call_run h V hc hv.callable
  unfold Oper.wp
  rw [hrun, Oper.upon_enter]
  refine (hv.run w xs F0 (Nat.le_trans h.gbig h.big) h.glob h.lt0 (weakVs_rep h hxs hp hf)).mono fun e w' he => ?_
  obtain ⟨x, ψ, X, rfl, hb, hX, hr, hB, h0, hv', hi⟩ := he
  exact hK _ _ (called_rel h ht hus hb hX hr hB h0 hv' hi (.inr fun _ e => e))
end
end Go.Vm
