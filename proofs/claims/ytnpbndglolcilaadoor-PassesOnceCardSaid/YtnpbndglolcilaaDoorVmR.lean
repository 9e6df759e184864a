/-
  Abstract states over the model's worlds, and that a step of them is a step of the program: part R of a framework. Conditions: each theorem's own premises. By an AI agent.
-/
import Derived.Test.YtnpbndglolcilaaDoorVmQ
namespace Go.Vm
open Go Go.RowKit
set_option linter.unusedVariables false
set_option linter.unusedSimpArgs false

/-- The operation is not wanted: its slot holds nothing. -/
def St.skip (σ : St) : Option Nat → St
  | none => σ
  | some d => { σ with fr := upd σ.fr d (some (.tup [])) }

/-- What a guard reads. -/
def gval : Option PV → Option (Option Bool)
  | some (.one (.c (.bool b))) => some (some b)
  | some (.one (.c v)) => some none
  | some (.tup _) => some none
  | _ => none

def gslot (ops : List Oper) (fr : Nat → Option PV) (g : Nat) : Option (Option Bool) :=
  match (ops[g]?).bind (·.dst) with
  | some t => gval (fr t)
  | none => none

def dOk (nt : Nat) : Option Nat → Prop
  | none => True
  | some d => d < nt

/-- The condition under which a guarded operation runs. -/
def gcond (ops : List Oper) (fr : Nat → Option PV) (g : Nat) (want : Bool) : Option Bool :=
  match ((ops[g]?).bind (·.dst)).bind fr with
  | some (.one (.c (.bool v))) => some (v == want)
  | some (.may c (.one (.c (.bool v)))) => some (c && (v == want))
  | some (.tup []) => some false
  | _ => none

/-- What is known if c. -/
def unm (c : Bool) (ρ : Operand → Option PV) (x : Operand) : Option PV :=
  match ρ x with
  | some (.may b p) => if (!c || b) = true then some p else none
  | q => q

def mayAdd (C : Ctx) (σ : St) (c : Bool) (d : Nat) (op : Op) (K : St → Prop) : Prop :=
  match vAdd C.P (0, 0) (unm c (ev σ.fr)) σ.H op with
  | some (p, none) => d < C.nt ∧ K { σ with fr := upd σ.fr d (some (.may c p)) }
  | _ => False

def mayCall (C : Ctx) (σ : St) (c : Bool) (d : Nat) (K : St → Prop) : Option (FuncId × List PV) → Prop
  | some (f, ps) => d < C.nt ∧ σ.us d = false ∧ PV.frees (ps.map (cloV σ.H 4)) = true ∧
    callE C.P C.gw C.gb f (ps.map (cloV σ.H 4)) (PV.frees ps) fun r B => B = [] ∧ K { σ with fr := upd σ.fr d (some (.may c (r.ren (σ.nx + d)))), us := upd σ.us d true }
  | none => False

def mayD (C : Ctx) (σ : St) (c : Bool) (d : Nat) (op : Op) (K : St → Prop) : Prop :=
  match op with
  | .pick x y z =>
    match vpick c (ev σ.fr) x y z with
    | some b => d < C.nt ∧ K { σ with fr := upd σ.fr d (some (.may c (.one (.c (.bool b))))) }
    | none => False
  | .call cc =>
    match cc.callee with
    | .value _ => mayCall C σ c d K (callOf (unm c (ev σ.fr)) cc)
    | _ => mayAdd C σ c d op K
  | _ => mayAdd C σ c d op K

/-- An operation that runs if c. -/
def mayK (C : Ctx) (σ : St) (c : Bool) (d : Option Nat) (op : Op) (K : St → Prop) : Prop :=
  match d with
  | none => False
  | some d => mayD C σ c d op K

/-- A guarded operation: it runs, or it is left out, or either. -/
def guardR (C : Ctx) (ops : List Oper) (d : Option Nat) (op : Op) (g : Nat) (want : Bool) (σ : St) (R : St → Prop) : Prop :=
  (match gslot ops σ.fr g with
    | some v => if v = some want then opK C σ.nx (ev σ.fr) σ.H d op fun U => U.fresh σ ∧ R (U.app σ) else dOk C.nt d ∧ R (σ.skip d)
    | none => False) ∨
  (match gcond ops σ.fr g want with
    | some c => mayK C σ c d op R
    | none => False)

@[congr] theorem guardR_congr {C : Ctx} {ops : List Oper} {d : Option Nat} {op : Op} {g : Nat} {want : Bool} {σ σ' : St} (R : St → Prop) (h : σ = σ') : guardR C ops d op g want σ R = guardR C ops d op g want σ' R := by subst h; rfl

theorem guardR_may {C : Ctx} {ops : List Oper} {d : Option Nat} {op : Op} {g : Nat} {want c : Bool} {σ : St} {R : St → Prop} (h : gcond ops σ.fr g want = some c) (hm : mayK C σ c d op R) : guardR C ops d op g want σ R := by
  unfold guardR
  rw [h]
  exact .inr hm

theorem guardR_split {C : Ctx} {ops : List Oper} {d : Option Nat} {op : Op} {g : Nat} {want : Bool} {v : Option Bool} {σ : St} {R : St → Prop} (h : gslot ops σ.fr g = some v)
    (ht : v = some want → opK C σ.nx (ev σ.fr) σ.H d op fun U => U.fresh σ ∧ R (U.app σ)) (hf : v ≠ some want → dOk C.nt d ∧ R (σ.skip d)) : guardR C ops d op g want σ R := by
  unfold guardR
  rw [h]
  left
  by_cases hv : v = some want
  · simp only [if_pos hv]; exact ht hv
  · simp only [if_neg hv]; exact hf hv

/-- The operations of a region, in text order. -/
def seqRun (C : Ctx) (ops : List Oper) : List Oper → St → (St → Prop) → Prop
  | [], σ, Q => Q σ
  | o :: rest, σ, Q =>
    match o.guard with
    | none => opK C σ.nx (ev σ.fr) σ.H o.dst o.op fun U => U.fresh σ ∧ seqRun C ops rest (U.app σ) Q
    | some (g, want) => guardR C ops o.dst o.op g want σ fun σ' => seqRun C ops rest σ' Q

section
variable {C : Ctx} {φ φ' : Id → Option Value} {F : Bool → Nat → Prop} {F0 F1 : Nat → Prop} {σ : St} {a : Act} {w w' : World} {P : Program}

theorem yielded_of (h : RelX C φ F0 F1 σ a w) {ops : List Oper} {g : Nat} {v : Option Bool} (hg : gslot ops σ.fr g = some v) : yielded ops.toArray a.tmps g = v := by
  unfold gslot at hg
  split at hg
  · rename_i t ht
    unfold yielded
    have ht' : (ops.toArray[g]?).bind (·.dst) = some t := by simpa using ht
    rw [ht']
    unfold gval at hg
    split at hg
    · rename_i b hb
      cases hg
      obtain ⟨x, hx, hr⟩ := h.frame t _ hb
      simp only [repV, rep] at hr
      simp [hx, hr.1]
    · rename_i u hne hb
      cases hg
      obtain ⟨x, hx, hr⟩ := h.frame t _ hb
      simp only [repV, rep] at hr
      obtain ⟨rfl, _⟩ := hr
      simp only [Option.bind_some, hx]
      cases x <;> simp_all
    · rename_i hb
      cases hg
      obtain ⟨x, hx, hr⟩ := h.frame t _ hb
      simp only [repV] at hr
      obtain ⟨xs, rfl, _⟩ := hr
      simp [hx]
    · cases hg
  · cases hg

theorem RelX.skip (h : RelX C φ F0 F1 σ a w) {d : Option Nat} (hd : dOk C.nt d) : RelX C φ F0 F1 (σ.skip d) (a.put d undef) w := by
  cases d with
  | none => simpa [St.skip, Act.put] using h
  | some d => exact h.put hd (by simp only [repV, repVs]; exact ⟨#[], rfl, rfl⟩)

theorem yielded_iff (h : RelX C φ F0 F1 σ a w) {ops : List Oper} {g : Nat} {want c : Bool} (hg : gcond ops σ.fr g want = some c) : yielded ops.toArray a.tmps g = some want ↔ c = true := by
  unfold gcond at hg
  have key : ∀ p, ((ops[g]?).bind (·.dst)).bind σ.fr = some p → ∃ x, yielded ops.toArray a.tmps g = (match x with | .bool b => some b | _ => none) ∧ repV φ w (Fs F0 F1) p x := by
    intro p hp
    obtain ⟨t, ht, hp⟩ := Option.bind_eq_some_iff.1 hp
    obtain ⟨x, hx, hr⟩ := h.frame t p hp
    refine ⟨x, ?_, hr⟩
    unfold yielded
    have ht' : (ops.toArray[g]?).bind (·.dst) = some t := by simpa using ht
    rw [ht', Option.bind_some, hx]
    cases x <;> rfl
  split at hg
  · rename_i v hv
    cases hg
    obtain ⟨x, hy, hr⟩ := key _ hv
    simp only [repV, rep] at hr
    rw [hy, hr.1]
    simp
  · rename_i c1 v hv
    cases hg
    obtain ⟨x, hy, hr⟩ := key _ hv
    simp only [repV, rep] at hr
    cases c1
    · rw [hy, hr.2 rfl]
      simp [undef]
    · rw [hy, (hr.1 rfl).1]
      simp
  · rename_i hv
    cases hg
    obtain ⟨x, hy, hr⟩ := key _ hv
    simp only [repV, repVs] at hr
    obtain ⟨xs, rfl, _⟩ := hr
    rw [hy]
    simp
  · cases hg

theorem unm_view (h : RelX C φ F0 F1 σ a w) {c : Bool} (hc : c = true) : View φ w (Fs F0 F1) a σ (unm c (ev σ.fr)) σ.H := by
  refine ⟨fun {x p} hx => ?_, fun e => e⟩
  unfold unm at hx
  split at hx
  · rename_i b q hq
    split at hx
    · rename_i hb
      cases hx
      have := ev_rep h hq
      simp only [repV] at this
      exact this.1 (by simpa [hc] using hb)
    · cases hx
  · exact ev_rep h hx

theorem RelX.undef (h : RelX C φ F0 F1 σ a w) {d : Nat} {p : PV} (hd : d < C.nt) : RelX C φ F0 F1 { σ with fr := upd σ.fr d (some (.may false p)) } (a.put (some d) undef) w :=
  h.put hd (by simp only [repV]; exact ⟨fun e => (by cases e), fun _ => trivial⟩)

theorem Rel.may {d : Nat} {p : PV} (h : Rel C { σ with fr := upd σ.fr d (some p) } a w) : Rel C { σ with fr := upd σ.fr d (some (.may true p)) } a w := by
  obtain ⟨φ, F0, F1, h⟩ := h
  refine ⟨φ, F0, F1, h.size, h.defs, fun t q hq => ?_, h.heap, h.inj, h.apart, h.sub, h.ini, h.new1, h.lt0, h.os, h.tape, h.output, h.big, h.kept, h.k0lt, h.gbig, h.glob, h.ids⟩
  by_cases ht : t = d
  · subst ht
    simp only [upd_self] at hq
    cases hq
    obtain ⟨x, hx, hr⟩ := h.frame t p (by simp [upd_self])
    refine ⟨x, hx, ?_⟩
    simp only [repV]
    exact ⟨fun _ => hr, fun e => by cases e⟩
  · simp only [upd_ne _ _ ht] at hq
    exact h.frame t q (by simp only [upd_ne _ _ ht]; exact hq)

theorem mayAdd_run (h : RelX C φ F0 F1 σ a w) {c : Bool} (hc : c = true) {d : Nat} {op : Op} {ty : TypeId} {pos : String} {af : Array Edge} {gd : Option (Nat × Bool)} {K : St → Prop} {K' : Act → World → Prop} {Q' : Exit → Act → World → Prop} (hs : mayAdd C σ c d op K)
    (hK : ∀ σ' a' w', Rel C σ' a' w' → K σ' → K' a' w') : Oper.wp C.P ⟨some d, op, ty, pos, af, gd⟩ a w K' Q' := by
  unfold mayAdd at hs
  split at hs
  · rename_i p hv
    obtain ⟨x, w', hr, rfl, hx⟩ := vAdd_sound (i := (0, 0)) h (unm_view h hc) (by simp) ⟨some d, op, ty, pos, af, gd⟩ hv
    refine value_wp hr (hK _ _ _ ⟨φ, F0, F1, h.put hs.1 ?_⟩ hs.2)
    simp only [repV]
    exact ⟨fun _ => hx, fun e => by rw [hc] at e; cases e⟩
  · exact hs.elim

theorem mayK_run (h : RelX C φ F0 F1 σ a w) {c : Bool} (hc : c = true) {o : Oper} {K : St → Prop} {K' : Act → World → Prop} {Q' : Exit → Act → World → Prop} (hs : mayK C σ c o.dst o.op K) (hK : ∀ σ' a' w', Rel C σ' a' w' → K σ' → K' a' w') : o.wp C.P a w K' Q' := by
  obtain ⟨d, op, ty, pos, af, gd⟩ := o
  cases d with
  | none => exact hs.elim
  | some d =>
    simp only [mayK] at hs
    cases op
    case pick x y z =>
      simp only [mayD] at hs
      split at hs
      · rename_i b hb
        refine value_wp (vpick_run h.view hc hb) (hK _ _ _ ⟨φ, F0, F1, h.put hs.1 ?_⟩ hs.2)
        simp only [repV, rep]
        exact ⟨fun _ => ⟨trivial, rfl⟩, fun e => by rw [hc] at e; cases e⟩
      · exact hs.elim
    case call cc =>
      simp only [mayD] at hs
      split at hs
      · unfold mayCall at hs
        split at hs
        · rename_i f ps hcall
          obtain ⟨hd, hus, hfr, r, B, hv, hst, rfl, hk⟩ := hs
          have fin : ∀ a' w', Rel C (σ.called d r []) a' w' → K' a' w' := by
            intro a' w' hR
            refine hK _ _ _ ?_ hk
            have hB : bindB (σ.nx + d) [] σ.H = σ.H := by funext i; simp [bindB]
            unfold St.called at hR
            rw [hB] at hR
            subst hc
            exact Rel.may (σ := { σ with us := upd σ.us d true }) hR
          rcases hst with hst | hst
          · exact call_ok h (unm_view h hc) hcall hv hfr hst hd hus fin
          · exact call_ok_share h (unm_view h hc) hcall hv hst hfr hd hus fin
        · exact hs.elim
      · exact mayAdd_run h hc hs hK
    all_goals exact mayAdd_run h hc hs hK

theorem mayK_skip (h : RelX C φ F0 F1 σ a w) {c : Bool} (hc : c = false) {d : Option Nat} {op : Op} {K : St → Prop} (hs : mayK C σ c d op K) : ∃ σ', Rel C σ' (a.put d undef) w ∧ K σ' := by
  subst hc
  cases d with
  | none => exact hs.elim
  | some d =>
    simp only [mayK] at hs
    have add : ∀ op : Op, mayAdd C σ false d op K → ∃ σ', Rel C σ' (a.put (some d) undef) w ∧ K σ' := by
      intro op hs
      unfold mayAdd at hs
      split at hs
      · exact ⟨_, ⟨φ, F0, F1, h.undef hs.1⟩, hs.2⟩
      · exact hs.elim
    cases op
    case pick x y z =>
      simp only [mayD] at hs
      split at hs
      · exact ⟨_, ⟨φ, F0, F1, h.undef hs.1⟩, hs.2⟩
      · exact hs.elim
    case call cc =>
      simp only [mayD] at hs
      split at hs
      · unfold mayCall at hs
        split at hs
        · rename_i f ps hcall
          obtain ⟨hd, hus, hfr, r, B, hv, hst, rfl, hk⟩ := hs
          refine ⟨_, ⟨φ, F0, F1, ((h.undef (p := r.ren (σ.nx + d)) hd).weaken (τ := { σ with fr := upd σ.fr d (some (.may false (r.ren (σ.nx + d)))), us := upd σ.us d true }) ⟨fun _ _ e => e, fun _ _ e => e, fun e he => ?_, rfl⟩)⟩, hk⟩
          by_cases hed : e = d
          · subst hed; exact upd_self _ _ _
          · simp only [upd_ne _ _ hed]; exact he
        · exact hs.elim
      · exact add _ hs
    all_goals (simp only [mayD] at hs; exact add _ hs)

theorem seqRun_sound {ops : List Oper} {Q : St → Prop} {Q' : Exit → Act → World → Prop} (hQ : ∀ σ a w, Rel C σ a w → Q σ → Q' .normal a w) : ∀ (l : List Oper) (σ : St) (a : Act) (w : World), Rel C σ a w → seqRun C ops l σ Q → wpList C.P ops.toArray Q' l a w
  | [], σ, a, w, h, hs => hQ _ _ _ h (by simpa only [seqRun] using hs)
  | o :: rest, σ, a, w, h, hs => by
    have run : (opK C σ.nx (ev σ.fr) σ.H o.dst o.op fun U => U.fresh σ ∧ seqRun C ops rest (U.app σ) Q) → o.wp C.P a w (wpList C.P ops.toArray Q' rest) Q' := by
      intro ho
      obtain ⟨U, hU, hf, hn⟩ := opK_elim ho
      obtain ⟨φ, F0, F1, h⟩ := h
      exact opU_sound h h.view hU hf fun a' w' hR => seqRun_sound hQ rest _ a' w' hR hn
    unfold wpList
    simp only [seqRun] at hs
    split at hs
    · rename_i hg
      rw [if_pos (by simp [Region.wanted, hg])]
      exact .inl (run hs)
    · rename_i g want hg
      unfold guardR at hs
      rcases hs with hs | hs
      · split at hs
        · rename_i v hv
          obtain ⟨φ, F0, F1, h'⟩ := h
          have hy := yielded_of h' hv
          split at hs
          · rename_i hvw
            rw [if_pos (by simp [Region.wanted, hg, hy, hvw])]
            exact .inl (run hs)
          · rename_i hvw
            rw [if_neg (by simp [Region.wanted, hg, hy, hvw])]
            exact seqRun_sound hQ rest _ _ _ ⟨φ, F0, F1, h'.skip hs.1⟩ hs.2
        · exact hs.elim
      · split at hs
        · rename_i c hc
          have hrec : ∀ σ' a' w', Rel C σ' a' w' → seqRun C ops rest σ' Q → wpList C.P ops.toArray Q' rest a' w' := fun σ' a' w' hR hn => seqRun_sound hQ rest σ' a' w' hR hn
          obtain ⟨φ, F0, F1, h'⟩ := h
          have hy := yielded_iff h' hc
          cases hcb : c with
          | true =>
            rw [if_pos (by simp only [Region.wanted, hg]; rw [beq_iff_eq]; exact hy.2 hcb)]
            exact .inl (mayK_run h' hcb hs hrec)
          | false =>
            rw [if_neg (by
              simp only [Region.wanted, hg]
              rw [beq_iff_eq]
              intro e
              have := hy.1 e
              rw [hcb] at this; cases this)]
            obtain ⟨σ', hR, hn⟩ := mayK_skip h' hcb hs
            exact hrec _ _ _ hR hn
        · exact hs.elim

theorem region_seq {ops : Array Oper} {id : Nat} {Q : St → Prop} {Q' : Exit → Act → World → Prop} (hQ : ∀ σ a w, Rel C σ a w → Q σ → Q' .normal a w) (h : Rel C σ a w) (hs : seqRun C ops.toList ops.toList σ Q) :
    (Code.region id ops false).wp C.P Q' a w :=
  wp_region_list (by simpa using seqRun_sound hQ ops.toList σ a w h hs)
end
end Go.Vm
