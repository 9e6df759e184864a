/-
  Abstract states over the model's worlds, and that a step of them is a step of the program: part S of a framework. Conditions: each theorem's own premises. By an AI agent.
-/
import Derived.Test.YtnpbndglolcilaaDoorVmR
import Derived.Scope
import Derived.Deep.LoopGhost
namespace Go.Vm
open Go Go.RowKit
set_option linter.unusedVariables false

abbrev Post := Exit → St → Prop

/-- From every world that σ stands for, the code comes to an exit at a state that fits. -/
def vwp (C : Ctx) (c : Code) (Q : Post) (σ : St) : Prop :=
  ∀ a w, Rel C σ a w → c.wp C.P (fun e a' w' => ∃ σ', Rel C σ' a' w' ∧ Q e σ') a w

/-- Less is known, or told by other names. -/
def Wk (C : Ctx) (σ τ : St) : Prop := ∀ a w, Rel C σ a w → Rel C τ a w

def thenQ (K : St → Prop) (Q : Post) : Post
  | .normal, σ => K σ
  | e, σ => Q e σ

def blockQ (id : Nat) (Q : Post) : Post
  | .exit id', σ => if id' = id then Q .normal σ else Q (.exit id') σ
  | e, σ => Q e σ

section
variable {C : Ctx} {Q Q' : Post} {σ τ : St} {c x y : Code}

theorem Wk.refl : Wk C σ σ := fun _ _ h => h
theorem Wk.trans {ρ : St} (h : Wk C σ τ) (h' : Wk C τ ρ) : Wk C σ ρ := fun a w r => h' a w (h a w r)
theorem Wk.of_le (h : St.le σ τ) : Wk C σ τ := fun _ _ ⟨φ, F0, F1, r⟩ => ⟨φ, F0, F1, r.weaken h⟩

theorem vwp_mono (h : vwp C c Q σ) (hq : ∀ e σ, Q e σ → Q' e σ) : vwp C c Q' σ :=
  fun a w r => wp_mono (h a w r) fun _ _ _ ⟨σ', r', q⟩ => ⟨σ', r', hq _ _ q⟩

theorem vwp_wk (hw : Wk C σ τ) (h : vwp C c Q τ) : vwp C c Q σ := fun a w r => h a w (hw a w r)

theorem vwp_skip (h : Q .normal σ) : vwp C .skip Q σ := fun a w r => wp_skip ⟨σ, r, h⟩
theorem vwp_label {l : Nat} (h : Q .normal σ) : vwp C (.label l) Q σ := fun a w r => wp_label ⟨σ, r, h⟩
theorem vwp_exit {id : Nat} (h : Q (.exit id) σ) : vwp C (.exit id) Q σ := fun a w r => wp_exit ⟨σ, r, h⟩
theorem vwp_goto {l : Nat} (h : Q (.goto l) σ) : vwp C (.goto l) Q σ := fun a w r => wp_goto ⟨σ, r, h⟩
theorem vwp_ret (h : Q .ret σ) : vwp C .ret Q σ := fun a w r => wp_ret ⟨σ, r, h⟩

theorem vwp_seq (h : ∀ K : St → Prop, (∀ σ, vwp C y Q σ → K σ) → vwp C x (thenQ K Q) σ) : vwp C (.seq x y) Q σ := by
  intro a w r
  refine wp_seq (wp_mono (h (vwp C y Q) (fun _ h => h) a w r) ?_)
  rintro e a' w' ⟨σ', r', q⟩
  cases e
  case normal => exact q a' w' r'
  all_goals exact ⟨σ', r', q⟩

theorem vwp_cond {o : Operand} {b : Bool} (ho : (ev σ.fr o).bind asB = some b) (ht : b = true → vwp C x Q σ) (hf : b = false → vwp C y Q σ) : vwp C (.cond o x y) Q σ := by
  intro a w r
  obtain ⟨φ, F0, F1, r'⟩ := r
  obtain ⟨p, hp, hb⟩ := Option.bind_eq_some_iff.1 ho
  exact wp_cond_split (asB_rep (ev_rep r' hp) hb) (fun e => ht e a w ⟨φ, F0, F1, r'⟩) (fun e => hf e a w ⟨φ, F0, F1, r'⟩)

theorem vwp_block {id : Nat} (h : vwp C c (blockQ id Q) σ) : vwp C (.block id c) Q σ := by
  intro a w r
  refine wp_block (wp_mono (h a w r) ?_)
  rintro e a' w' ⟨σ', r', q⟩
  cases e
  case exit i =>
    simp only [Exit.inBlock, blockQ] at q ⊢
    split
    · rename_i hi; rw [if_pos hi] at q; exact ⟨σ', r', q⟩
    · rename_i hi; rw [if_neg hi] at q; exact ⟨σ', r', q⟩
  all_goals exact ⟨σ', r', q⟩

theorem vwp_scope (h : vwp C c (fun e σ => (∀ l, e ≠ .goto l) ∧ Q e σ) σ) : vwp C (.scope c) Q σ := by
  intro a w r
  refine wp_scope_straight (wp_mono (h a w r) ?_)
  rintro e a' w' ⟨σ', r', q⟩
  cases e
  case goto l => exact absurd rfl (q.1 l)
  all_goals exact ⟨σ', r', q.2⟩

/-- A loop: what holds at its head, with a number that every round lowers. -/
theorem vwp_loop (I : Nat → St → Prop) (n : Nat) (h0 : ∃ τ, Wk C σ τ ∧ I n τ)
    (round : ∀ n τ, I n τ → ∀ K : St → Prop, (∀ σ' m τ', m < n → Wk C σ' τ' → I m τ' → K σ') → vwp C c (thenQ K Q) τ) : vwp C (.loop c) Q σ := by
  intro a w r
  obtain ⟨τ, hw, hi⟩ := h0
  refine wp_loop_ghost (fun n a w => ∃ τ, Rel C τ a w ∧ I n τ) n ⟨τ, hw a w r, hi⟩ ?_
  rintro n a w ⟨τ, r, hi⟩
  refine wp_mono (round n τ hi (fun σ' => ∃ m τ', m < n ∧ Wk C σ' τ' ∧ I m τ') (fun σ' m τ' hm hw hi => ⟨m, τ', hm, hw, hi⟩) a w r) ?_
  rintro e a' w' ⟨σ', r', q⟩
  cases e
  case normal =>
    obtain ⟨m, τ', hm, hw, hi⟩ := q
    exact ⟨m, hm, τ', hw a' w' r', hi⟩
  all_goals exact ⟨σ', r', q⟩

theorem seqRun_nil {ops : List Oper} {K : St → Prop} : ∀ (l : List Oper) (σ : St), (l.all fun o => o.guard.isNone) = true → seqRun C [] l σ K → seqRun C ops l σ K := by
  have mono : ∀ {ρ : Operand → Option PV} {H : Id → Option Blk} {nx : Nat} {d : Option Nat} {op : Op} {K K' : Upd → Prop}, (∀ U, K U → K' U) → opK C nx ρ H d op K → opK C nx ρ H d op K' := by
    intro ρ H nx d op K K' hk h
    have add : vAddK C.P C.nt nx ρ H d op K → vAddK C.P C.nt nx ρ H d op K' := by
      unfold vAddK
      cases vAdd C.P (nx + d.getD 0, 0) ρ H op with
      | none => exact id
      | some q =>
        obtain ⟨p, ob⟩ := q
        cases ob <;> cases d
        · exact hk _
        · exact fun h => ⟨h.1, hk _ h.2⟩
        · exact id
        · exact fun h => ⟨h.1, hk _ h.2⟩
    have mv : ∀ o, mvK C.nt d K o → mvK C.nt d K' o := by
      intro o
      unfold mvK
      cases o with
      | none => exact id
      | some q =>
        cases d
        · exact id
        · exact fun h => ⟨h.1, hk _ h.2⟩
    unfold opK at *
    split at h
    · split at h
      · unfold callK at *
        split at h
        · split at h
          · exact h.elim
          · obtain ⟨h1, h2, r, B, h3, h4, h5⟩ := h
            exact ⟨h1, h2, r, B, h3, h4, hk _ h5⟩
        · exact h.elim
      · exact mv _ h
      · exact add h
    · split at h
      · exact hk _ h
      · exact h
    · split at h
      · unfold valK at *
        cases d with
        | none => exact h
        | some d => exact ⟨h.1, hk _ h.2⟩
      · exact h
    · split at h
      · unfold valK at *
        cases d with
        | none => exact h
        | some d => exact ⟨h.1, hk _ h.2⟩
      · exact add h
    · split at h
      · exact mv _ h
      · exact add h
    · exact add h
  intro l
  induction l with
  | nil => intro σ _ h; exact h
  | cons o l ih =>
    intro σ hl h
    simp only [List.all_cons, Bool.and_eq_true] at hl
    have hg : o.guard = none := by simpa using hl.1
    simp only [seqRun, hg] at h ⊢
    exact mono (fun U hU => ⟨hU.1, ih _ hl.2 hU.2⟩) h

/-- A region without guards. -/
theorem vwp_region {ops : List Oper} {id : Nat} (hg : (ops.all fun o => o.guard.isNone) = true) (h : seqRun C [] ops σ (Q .normal)) : vwp C (.region id ops.toArray false) Q σ :=
  fun a w r => region_seq (Q := Q .normal) (fun σ a w r q => ⟨σ, r, q⟩) r (seqRun_nil _ _ (by simpa using hg) (by simpa using h))

theorem vwp_regionG {ops : List Oper} {id : Nat} (h : seqRun C ops ops σ (Q .normal)) : vwp C (.region id ops.toArray false) Q σ :=
  fun a w r => region_seq (Q := Q .normal) (fun σ a w r q => ⟨σ, r, q⟩) r (by simpa using h)

theorem vwp_seq_region {ops : List Oper} {id : Nat} (hg : (ops.all fun o => o.guard.isNone) = true) (h : ∀ K : St → Prop, (∀ σ, vwp C y Q σ → K σ) → seqRun C [] ops σ K) : vwp C (.seq (.region id ops.toArray false) y) Q σ :=
  vwp_seq fun K hK => vwp_region hg (h K hK)

theorem vwp_seq_regionG {ops : List Oper} {id : Nat} (h : ∀ K : St → Prop, (∀ σ, vwp C y Q σ → K σ) → seqRun C ops ops σ K) : vwp C (.seq (.region id ops.toArray false) y) Q σ :=
  vwp_seq fun K hK => vwp_regionG (h K hK)
end
end Go.Vm
