/-
  Abstract states over the model's worlds, and that a step of them is a step of the program: part VmAH of a framework. Conditions: each theorem's own premises. By an AI agent.
-/
import Derived.Test.YtcdbbiognijleaaGreatVmAG
import Derived.Deep.LoopGhost
import Derived.ScopeJumps
import Derived.RangeFuncLeaves
import Derived.RangeFuncRecord
section
namespace Go.Vm
open Go Go.RowKit
set_option linter.unusedSimpArgs false
set_option linter.unusedVariables false

abbrev Post := Exit → St → Prop

def markOf (r : Nat) : Deferred := { target := .collected r, args := #[] }

/-- A later context of the same activation: marks of loops over functions may have come. -/
structure Later (C C' : Ctx) : Prop where
  core : C'.toCore = C.toCore
  Fi : C'.Fi = C.Fi
  φi : C'.φi = C.φi
  ro : C'.ro = C.ro
  pr : C'.pr = C.pr
  big : C.w0.heap.size ≤ C'.w0.heap.size
  os : C'.w0.os = C.w0.os
  tape : C'.w0.tape = C.w0.tape
  output : C'.w0.output = C.w0.output
  K0 : ∀ g, C.K0 g → C'.K0 g
  kept : ∀ g, C.K0 g → ¬ C.Eb g → C'.w0.heap[g]? = C.w0.heap[g]? ∧ ¬ C'.Eb g
  eb : ∀ g, C.Eb g → C'.Eb g
  Zr : ∀ g, C.Zr g → C'.Zr g
  zr0 : ∀ g, C'.Zr g → C.K0 g → C.Zr g
  df : ∃ rs : List Nat, C'.df = rs.map markOf ++ C.df ∧ rs.Nodup ∧ ∀ r ∈ rs, C.w0.heap.size ≤ r ∧ r < C'.w0.heap.size ∧ C'.K0 r ∧ C'.w0.heap[r]? = some (.deferred (some [])) ∧ ¬ C'.Eb r ∧ ¬ C'.Zr r

theorem Later.refl (C : Ctx) : Later C C := ⟨rfl, rfl, rfl, rfl, rfl, Nat.le_refl _, rfl, rfl, rfl, fun _ h => h, fun _ _ h => ⟨rfl, h⟩, fun _ h => h, fun _ h => h, fun _ h _ => h, [], rfl, List.nodup_nil, fun r hr => by cases hr⟩

theorem Later.trans {C C' C'' : Ctx} (h : Later C C') (h' : Later C' C'') : Later C C'' := by
  obtain ⟨rs, e1, n1, p1⟩ := h.df
  obtain ⟨rs', e2, n2, p2⟩ := h'.df
  refine ⟨h'.core.trans h.core, h'.Fi.trans h.Fi, h'.φi.trans h.φi, h'.ro.trans h.ro, h'.pr.trans h.pr, Nat.le_trans h.big h'.big, h'.os.trans h.os, h'.tape.trans h.tape, h'.output.trans h.output,
    fun g hg => h'.K0 g (h.K0 g hg), fun g hg he => ?_, fun g hg => h'.eb g (h.eb g hg), fun g hg => h'.Zr g (h.Zr g hg), fun g hg hk => h.zr0 g (h'.zr0 g hg (h.K0 g hk)) hk, rs' ++ rs, ?_, ?_, ?_⟩
  · obtain ⟨a1, a2⟩ := h.kept g hg he
    obtain ⟨b1, b2⟩ := h'.kept g (h.K0 g hg) a2
    exact ⟨b1.trans a1, b2⟩
  · rw [e2, e1, List.map_append, List.append_assoc]
  · refine List.nodup_append.2 ⟨n2, n1, fun r hr s hs => ?_⟩
    have := (p2 r hr).1
    have := (p1 s hs).2.1
    omega
  · intro r hr
    rcases List.mem_append.1 hr with hr | hr
    · obtain ⟨a1, a2, a3, a4⟩ := p2 r hr
      exact ⟨Nat.le_trans h.big a1, a2, a3, a4⟩
    · obtain ⟨a1, a2, a3, a4, a5, a6⟩ := p1 r hr
      obtain ⟨b1, b2⟩ := h'.kept r a3 a5
      exact ⟨a1, Nat.lt_of_lt_of_le a2 h'.big, h'.K0 r a3, b1.trans a4, b2, fun hz => a6 (h'.zr0 r hz a3)⟩

/-- From every world that σ stands for, the code comes to an exit at a state that fits. -/
def vwp (C : Ctx) (c : Code) (Q : Post) (σ : St) : Prop :=
  ∀ C₁, Later C C₁ → ∀ a w, Rel C₁ σ a w → c.wpIn (fz C₁) 0 C₁.P (fun e a' w' => ∃ C₂ σ', Later C₁ C₂ ∧ Rel C₂ σ' a' w' ∧ Q e σ') a w

/-- Less is known, or told by other names. -/
def Wk (C : Ctx) (σ τ : St) : Prop := ∀ C₁, Later C C₁ → ∀ a w, Rel C₁ σ a w → Rel C₁ τ a w

def thenQ (K : St → Prop) (Q : Post) : Post
  | .normal, σ => K σ
  | e, σ => Q e σ

def blockQ (id : Nat) (Q : Post) : Post
  | .exit id', σ => if id' = id then Q .normal σ else Q (.exit id') σ
  | e, σ => Q e σ

section
variable {C : Ctx} {Q Q' : Post} {σ τ : St} {c x y : Code}

theorem Later.fz {C C' : Ctx} (h : Later C C') : fz C' = fz C := by unfold Vm.fz; rw [h.ro]
theorem Later.P {C C' : Ctx} (h : Later C C') : C'.P = C.P := by rw [show C'.P = C'.toCore.P from rfl, h.core]

theorem Rel.of_le {a : Act} {w : World} (h : St.le σ τ) (r : Rel C σ a w) : Rel C τ a w := by
  obtain ⟨φ, F0, F1, r⟩ := r
  exact ⟨φ, F0, F1, r.weaken h⟩
theorem Wk.refl : Wk C σ σ := fun _ _ _ _ h => h
theorem Wk.trans {ρ : St} (h : Wk C σ τ) (h' : Wk C τ ρ) : Wk C σ ρ := fun C₁ l a w r => h' C₁ l a w (h C₁ l a w r)
theorem Wk.of_le (h : St.le σ τ) : Wk C σ τ := fun _ _ _ _ r => r.of_le h
theorem Wk.later {C' : Ctx} (h : Wk C σ τ) (l : Later C C') : Wk C' σ τ := fun C₁ l' => h C₁ (l.trans l')

theorem vwp_wk (hw : Wk C σ τ) (h : vwp C c Q τ) : vwp C c Q σ := fun C₁ l a w r => h C₁ l a w (hw C₁ l a w r)

theorem vwp_skip (h : Q .normal σ) : vwp C .skip Q σ := fun C₁ _ a w r => wpIn_skip ⟨C₁, σ, .refl _, r, h⟩
theorem vwp_label {l : Nat} (h : Q .normal σ) : vwp C (.label l) Q σ := fun C₁ _ a w r => wpIn_label ⟨C₁, σ, .refl _, r, h⟩
theorem vwp_exit {id : Nat} (h : Q (.exit id) σ) : vwp C (.exit id) Q σ := fun C₁ _ a w r => wpIn_exit ⟨C₁, σ, .refl _, r, h⟩
theorem vwp_goto {l : Nat} (h : Q (.goto l) σ) : vwp C (.goto l) Q σ := fun C₁ _ a w r => wpIn_goto ⟨C₁, σ, .refl _, r, h⟩
theorem vwp_ret (h : Q .ret σ) : vwp C .ret Q σ := fun C₁ _ a w r => wpIn_ret ⟨C₁, σ, .refl _, r, h⟩

theorem vwp_seq (h : ∀ K : St → Prop, (∀ σ, vwp C y Q σ → K σ) → vwp C x (thenQ K Q) σ) : vwp C (.seq x y) Q σ := by
  intro C₁ l a w r
  refine wpIn_seq (wpIn_mono (h (vwp C y Q) (fun _ h => h) C₁ l a w r) ?_)
  rintro e a' w' ⟨C₂, σ', l', r', q⟩
  cases e
  case normal =>
    have := wpIn_mono (q C₂ (l.trans l') a' w' r') (Q' := fun e a' w' => ∃ C₂ σ', Later C₁ C₂ ∧ Rel C₂ σ' a' w' ∧ Q e σ') (fun _ _ _ ⟨C₃, σ'', l'', r'', q⟩ => ⟨C₃, σ'', l'.trans l'', r'', q⟩)
    rw [l'.fz, l'.P] at this
    exact this
  all_goals exact ⟨C₂, σ', l', r', q⟩

theorem vwp_cond {o : Operand} {b : Bool} (ho : (ev σ.fr o).bind asB = some b) (ht : b = true → vwp C x Q σ) (hf : b = false → vwp C y Q σ) : vwp C (.cond o x y) Q σ := by
  intro C₁ l a w r
  obtain ⟨φ, F0, F1, r'⟩ := r
  obtain ⟨p, hp, hb⟩ := Option.bind_eq_some_iff.1 ho
  exact wpIn_cond_split (asB_rep (ev_rep r' hp) hb) (fun e => ht e C₁ l a w ⟨φ, F0, F1, r'⟩) (fun e => hf e C₁ l a w ⟨φ, F0, F1, r'⟩)

theorem vwp_block {id : Nat} (h : vwp C c (blockQ id Q) σ) : vwp C (.block id c) Q σ := by
  intro C₁ l a w r
  refine wpIn_block (wpIn_mono (h C₁ l a w r) ?_)
  rintro e a' w' ⟨C₂, σ', l', r', q⟩
  cases e
  case exit i =>
    simp only [Exit.inBlock, blockQ] at q ⊢
    split
    · rename_i hi; rw [if_pos hi] at q; exact ⟨C₂, σ', l', r', q⟩
    · rename_i hi; rw [if_neg hi] at q; exact ⟨C₂, σ', l', r', q⟩
  all_goals exact ⟨C₂, σ', l', r', q⟩

/-- A loop: what holds at its head, with a number that every round lowers. -/
theorem vwp_loop (I : Nat → St → Prop) (n : Nat) (h0 : ∃ τ, Wk C σ τ ∧ I n τ)
    (round : ∀ n τ, I n τ → ∀ K : St → Prop, (∀ σ' m τ', m < n → Wk C σ' τ' → I m τ' → K σ') → vwp C c (thenQ K Q) τ) : vwp C (.loop c) Q σ := by
  intro C₁ l a w r
  obtain ⟨τ, hw, hi⟩ := h0
  have hI : ∃ n, ∃ C₂ τ, Later C₁ C₂ ∧ Rel C₂ τ a w ∧ I n τ := ⟨n, C₁, τ, .refl _, hw C₁ l a w r, hi⟩
  refine wpIn_loop (fun a w => ∃ n, ∃ C₂ τ, Later C₁ C₂ ∧ Rel C₂ τ a w ∧ I n τ) (fun a w => leastOf fun n => ∃ C₂ τ, Later C₁ C₂ ∧ Rel C₂ τ a w ∧ I n τ) hI ?_
  intro a w hI
  obtain ⟨⟨C₂, τ, l', r, hi⟩, hmin⟩ := leastOf_spec hI
  have hr := round _ τ hi (fun σ' => ∃ m τ', m < (leastOf fun n => ∃ C₂ τ, Later C₁ C₂ ∧ Rel C₂ τ a w ∧ I n τ) ∧ Wk C σ' τ' ∧ I m τ') (fun σ' m τ' hm hw hi => ⟨m, τ', hm, hw, hi⟩) C₂ (l.trans l') a w r
  rw [l'.fz, l'.P] at hr
  refine wpIn_mono hr ?_
  rintro e a' w' ⟨C₃, σ', l'', r', q⟩
  cases e
  case normal =>
    obtain ⟨m, τ', hm, hw, hi⟩ := q
    have hx : ∃ C₂ τ, Later C₁ C₂ ∧ Rel C₂ τ a' w' ∧ I m τ := ⟨C₃, τ', l'.trans l'', hw C₃ ((l.trans l').trans l'') a' w' r', hi⟩
    exact ⟨⟨m, hx⟩, Nat.lt_of_le_of_lt ((leastOf_spec ⟨m, hx⟩).2 m hx) hm⟩
  all_goals exact ⟨C₃, σ', l'.trans l'', r', q⟩

theorem opK_mono {C : Core} {ρ : Operand → Option PV} {H : Id → Option Blk} {nx : Nat} {d : Option Nat} {op : Op} {K K' : Upd → Prop} (hk : ∀ U, K U → K' U) (h : opK C nx ρ H d op K) : opK C nx ρ H d op K' := by
  have add : vAddK C.P C.nt nx ρ H d op K → vAddK C.P C.nt nx ρ H d op K' := by
    unfold vAddK addK
    cases vAll C.P (nx + d.getD 0, 0) ρ H op with
    | none => exact id
    | some q =>
      obtain ⟨p, ob⟩ := q
      cases ob <;> cases d
      · exact hk _
      · exact fun h => ⟨h.1, hk _ h.2⟩
      · exact id
      · exact fun h => ⟨h.1, hk _ h.2⟩
  have mv : ∀ o, mvK C.nt d K o → mvK C.nt d K' o := by
    intro o
    unfold mvK
    cases o with
    | none => exact id
    | some q =>
      cases d
      · exact id
      · exact fun h => ⟨h.1, hk _ h.2⟩
  unfold opK at *
  split at h
  · split at h
    · unfold callK at *
      split at h
      · split at h
        · exact h.elim
        · obtain ⟨h1, ⟨h2, r, B, h3, h4, h5⟩ | ⟨kd, M, bs, args, r, B, e1, e2, e3, e4, e5, e6, e7, h5⟩ | ⟨r, B, q1, q2, q3, h5⟩⟩ := h
          · exact ⟨h1, .inl ⟨h2, r, B, h3, h4, hk _ h5⟩⟩
          · exact ⟨h1, .inr (.inl ⟨kd, M, bs, args, r, B, e1, e2, e3, e4, e5, e6, e7, hk _ h5⟩)⟩
          · exact ⟨h1, .inr (.inr ⟨r, B, q1, q2, q3, hk _ h5⟩)⟩
      · exact h.elim
    · split at h
      · rename_i o ho
        obtain ⟨i, n, b⟩ := o
        unfold inK at *
        cases d with
        | none => exact h
        | some d => exact ⟨h.1, hk _ h.2⟩
      · split at h
        · unfold valK at *
          cases d with
          | none => exact h
          | some d => exact ⟨h.1, hk _ h.2⟩
        · exact mv _ h
        · exact mv _ h
    · unfold copyK valK at *
      split at h
      · cases d with
        | none => exact h
        | some d => exact ⟨h.1, hk _ h.2⟩
      · cases d with
        | none => exact h
        | some d => exact ⟨h.1, hk _ h.2⟩
      · exact h
    · unfold clearK at *
      split at h
      · cases d with
        | none => exact hk _ h
        | some d => exact h
      · cases d with
        | none => exact hk _ h
        | some d => exact h
      · exact h
    · exact add h
  · cases d with
    | none =>
      simp only at h ⊢
      unfold heapK at *
      split at h
      · exact hk _ h
      · exact h
    | some d => exact h
  · cases d with
    | none =>
      simp only at h ⊢
      unfold heapK at *
      split at h
      · exact hk _ h
      · exact h
    | some d => exact h
  · cases d with
    | none =>
      simp only at h ⊢
      unfold heapK at *
      split at h
      · exact hk _ h
      · exact h
    | some d => exact h
  · split at h
    · unfold valK at *
      cases d with
      | none => exact h
      | some d => exact ⟨h.1, hk _ h.2⟩
    · exact h
  · split at h
    · exact add h
    · split at h
      · unfold valK at *
        cases d with
        | none => exact h
        | some d => exact ⟨h.1, hk _ h.2⟩
      · exact h
  · split at h
    · unfold valK at *
      cases d with
      | none => exact h
      | some d => exact ⟨h.1, hk _ h.2⟩
    · exact add h
  · split at h
    · split at h
      · unfold valK at *
        cases d with
        | none => exact h
        | some d => exact ⟨h.1, hk _ h.2⟩
      · exact h
    · split at h
      · exact add h
      · split at h
        · exact mv _ h
        · exact add h
    · exact add h
  · exact add h

theorem seqRun_nil {C : Core} {ops : List Oper} {K : St → Prop} : ∀ (l : List Oper) (σ : St), (l.all fun o => o.guard.isNone) = true → seqRun C [] l σ K → seqRun C ops l σ K := by
  intro l
  induction l with
  | nil => intro σ _ h; exact h
  | cons o l ih =>
    intro σ hl h
    simp only [List.all_cons, Bool.and_eq_true] at hl
    have hg : o.guard = none := by simpa using hl.1
    simp only [seqRun, hg] at h ⊢
    exact opK_mono (fun U hU => ⟨hU.1, ih _ hl.2 hU.2⟩) h

/-- A region without guards. -/
theorem vwp_region {ops : List Oper} {id : Nat} (hg : (ops.all fun o => o.guard.isNone) = true) (h : seqRun C [] ops σ (Q .normal)) : vwp C (.region id ops.toArray false) Q σ :=
  fun C₁ l a w r => region_seq (C := C₁) (Q := Q .normal) (fun σ a w r q => ⟨C₁, σ, .refl _, r, q⟩) r (seqRun_nil _ _ (by simpa using hg) (by rw [l.core]; simpa using h))

theorem vwp_regionG {ops : List Oper} {id : Nat} (h : seqRun C ops ops σ (Q .normal)) : vwp C (.region id ops.toArray false) Q σ :=
  fun C₁ l a w r => region_seq (C := C₁) (Q := Q .normal) (fun σ a w r q => ⟨C₁, σ, .refl _, r, q⟩) r (by rw [l.core]; simpa using h)

theorem vwp_seq_region {ops : List Oper} {id : Nat} (hg : (ops.all fun o => o.guard.isNone) = true) (h : ∀ K : St → Prop, (∀ σ, vwp C y Q σ → K σ) → seqRun C [] ops σ K) : vwp C (.seq (.region id ops.toArray false) y) Q σ :=
  vwp_seq fun K hK => vwp_region hg (h K hK)

theorem vwp_seq_regionG {ops : List Oper} {id : Nat} (h : ∀ K : St → Prop, (∀ σ, vwp C y Q σ → K σ) → seqRun C ops ops σ K) : vwp C (.seq (.region id ops.toArray false) y) Q σ :=
  vwp_seq fun K hK => vwp_regionG (h K hK)
end
end Go.Vm
end

section
namespace Go.Vm
open Go Go.RowKit
set_option linter.unusedSimpArgs false
set_option linter.unusedVariables false

/-! ### Scopes with one label -/
section
variable {F : Fence} {n : Nat} {P : Program} {Q : Exit → Act → World → Prop} {a : Act} {w : World} {b : Frame} {k : List Item} {cs : List Frame}
theorem stepR_scope {c : Code} : step P (lone (b.atR a (.code (.scope c) :: k)) cs w) = .next (lone (b.atR a (.code c :: .inScope c :: k)) cs w) :=
  step_lone_go (by simp [stepG, stepG.exec, Frame.atR])
theorem stepR_inScope {c : Code} : step P (lone (b.atR a (.inScope c :: k)) cs w) = .next (lone (b.atR a k) cs w) :=
  step_lone_go (by simp [stepG, stepG.exec, Frame.atR])

theorem wpIn_scope_jumps {c rest : Code} (l : Nat) (J : Act → World → Prop) (μ : Act → World → Nat) (hf : (∃ a w, J a w) → findLabel c l = some rest)
    (first : c.wpIn F n P (Exit.jump l J Q) a w)
    (pass : ∀ a w, J a w → rest.wpIn F n P (Exit.jump l (fun a' w' => J a' w' ∧ μ a' w' < μ a w) Q) a w) : (Code.scope c).wpIn F n P Q a w := by
  intro b k cs hro hb hr
  have hg : ∀ a w, J a w → gotoIn l (.inScope c :: k) = some (.code rest :: .inScope c :: k) := fun a w hJ => by simp [gotoIn, hf ⟨a, w, hJ⟩]
  have out : ∀ (m : Machine) (e : Exit) (a₁ : Act) (w₁ : World), (∀ l, e ≠ .goto l) → ArrivesIn (Machine.fenced P F) P m b (.inScope c :: k) cs e a₁ w₁ → ArrivesIn (Machine.fenced P F) P m b k cs e a₁ w₁ := by
    intro m e a₁ w₁ hne harr
    cases e with
    | normal => exact StepsIn.trans harr (.one (fenced_calm hb hr rfl) stepR_inScope)
    | exit id => exact ⟨fun k' hk => harr.1 k' (by simp [exitTo, hk]), fun hr' hk => harr.2 hr' (by simp [exitTo, hk])⟩
    | goto l => exact absurd rfl (hne l)
    | ret => exact harr
    | panic ch => exact harr
    | outgrown => exact harr
  have key : ∀ j a w, μ a w = j → J a w → ∃ e a' w', Q e a' w' ∧ ArrivesIn (Machine.fenced P F) P (lone (b.atR a (.code rest :: .inScope c :: k)) cs w) b k cs e a' w' := by
    intro j
    induction j using Nat.strongRecOn with
    | _ j ih =>
      intro a w hn hJ
      obtain ⟨e, a₁, w₁, hq, harr⟩ := pass a w hJ b (.inScope c :: k) cs hro hb hr
      cases e with
      | goto l' =>
        obtain ⟨rfl, hJ', hlt⟩ := hq
        obtain ⟨e₂, a₂, w₂, hq₂, harr₂⟩ := ih _ (by omega) a₁ w₁ rfl hJ'
        exact ⟨e₂, a₂, w₂, hq₂, .of_steps (harr.1 _ (hg _ _ hJ')) harr₂⟩
      | normal => exact ⟨_, a₁, w₁, hq, out _ _ _ _ (by simp) harr⟩
      | exit id => exact ⟨_, a₁, w₁, hq, out _ _ _ _ (by simp) harr⟩
      | ret => exact ⟨_, a₁, w₁, hq, out _ _ _ _ (by simp) harr⟩
      | panic ch => exact ⟨_, a₁, w₁, hq, out _ _ _ _ (by simp) harr⟩
      | outgrown => exact ⟨_, a₁, w₁, hq, out _ _ _ _ (by simp) harr⟩
  have h0 : (lone (b.atR a (.code (.scope c) :: k)) cs w).fenced P F := fenced_calm hb hr rfl
  obtain ⟨e, a₁, w₁, hq, harr⟩ := first b (.inScope c :: k) cs hro hb hr
  cases e with
  | goto l' =>
    obtain ⟨rfl, hJ'⟩ := hq
    obtain ⟨e₂, a₂, w₂, hq₂, harr₂⟩ := key _ a₁ w₁ rfl hJ'
    exact ⟨e₂, a₂, w₂, hq₂, .of_steps (.head h0 stepR_scope (harr.1 _ (hg _ _ hJ'))) harr₂⟩
  | normal => exact ⟨_, a₁, w₁, hq, .of_steps (.one h0 stepR_scope) (out _ _ _ _ (by simp) harr)⟩
  | exit id => exact ⟨_, a₁, w₁, hq, .of_steps (.one h0 stepR_scope) (out _ _ _ _ (by simp) harr)⟩
  | ret => exact ⟨_, a₁, w₁, hq, .of_steps (.one h0 stepR_scope) (out _ _ _ _ (by simp) harr)⟩
  | panic ch => exact ⟨_, a₁, w₁, hq, .of_steps (.one h0 stepR_scope) (out _ _ _ _ (by simp) harr)⟩
  | outgrown => exact ⟨_, a₁, w₁, hq, .of_steps (.one h0 stepR_scope) (out _ _ _ _ (by simp) harr)⟩
end

/-- By a goto to l: J; by no other goto. -/
def jumpQ (l : Nat) (J : St → Prop) (Q : Post) : Post := fun e σ =>
  match e with
  | .goto l' => l' = l ∧ J σ
  | e => Q e σ

section
variable {C : Ctx} {Q : Post} {σ : St} {c rest : Code}
theorem vwp_scope (l : Nat) (I : Nat → St → Prop) (hf : (∃ m τ, I m τ) → findLabel c l = some rest)
    (first : vwp C c (jumpQ l (fun σ' => ∃ m τ, Wk C σ' τ ∧ I m τ) Q) σ)
    (pass : ∀ n τ, I n τ → ∀ K : St → Prop, (∀ σ' m τ', m < n → Wk C σ' τ' → I m τ' → K σ') → vwp C rest (jumpQ l K Q) τ) : vwp C (.scope c) Q σ := by
  intro C₁ lt a w r
  refine wpIn_scope_jumps (rest := rest) l (fun a w => ∃ n, ∃ C₂ τ, Later C₁ C₂ ∧ Rel C₂ τ a w ∧ I n τ) (fun a w => leastOf fun n => ∃ C₂ τ, Later C₁ C₂ ∧ Rel C₂ τ a w ∧ I n τ) ?_ ?_ ?_
  · rintro ⟨_, _, n, _, τ, _, _, h⟩
    exact hf ⟨n, τ, h⟩
  · refine wpIn_mono (first C₁ lt a w r) ?_
    rintro e a' w' ⟨C₂, σ', l', r', q⟩
    cases e
    case goto l0 =>
      obtain ⟨rfl, m, τ, hw, hi⟩ := q
      exact ⟨rfl, m, C₂, τ, l', hw C₂ (lt.trans l') a' w' r', hi⟩
    all_goals exact ⟨C₂, σ', l', r', q⟩
  · intro a w hI
    obtain ⟨⟨C₂, τ, l', r, hi⟩, hmin⟩ := leastOf_spec hI
    have hr := pass _ τ hi (fun σ' => ∃ m τ', m < (leastOf fun n => ∃ C₂ τ, Later C₁ C₂ ∧ Rel C₂ τ a w ∧ I n τ) ∧ Wk C σ' τ' ∧ I m τ') (fun σ' m τ' hm hw hi => ⟨m, τ', hm, hw, hi⟩) C₂ (lt.trans l') a w r
    rw [l'.fz, l'.P] at hr
    refine wpIn_mono hr ?_
    rintro e a' w' ⟨C₃, σ', l'', r', q⟩
    cases e
    case goto l0 =>
      obtain ⟨rfl, m, τ', hm, hw, hi⟩ := q
      have hx : ∃ C₂ τ, Later C₁ C₂ ∧ Rel C₂ τ a' w' ∧ I m τ := ⟨C₃, τ', l'.trans l'', hw C₃ ((lt.trans l').trans l'') a' w' r', hi⟩
      exact ⟨rfl, ⟨m, hx⟩, Nat.lt_of_le_of_lt ((leastOf_spec ⟨m, hx⟩).2 m hx) hm⟩
    all_goals exact ⟨C₃, σ', l'.trans l'', r', q⟩
end
end Go.Vm
end

section
namespace Go.Vm
open Go Go.RowKit
set_option linter.unusedSimpArgs false
set_option linter.unusedVariables false

/-! ### Names anew; rows of the call's own that are only read from now on -/
mutual
inductive Conv (H : Id → Option Blk) (Z : Id → Prop) (G : Id → Id → Prop) : PC → PC → Prop
  | free {p} : p.free = true → Conv H Z G p p
  | nil {t} : Conv H Z G (.c (.slice none 0 0)) (.sl t 0 [])
  | own {i j} : G i j → Conv H Z G (.own i) (.own j)
  | loc {i j off} : G i j → Conv H Z G (.loc i off) (.loc j off)
  | vw {i j off n} : G i j → Conv H Z G (.vw i off n) (.vw j off n)
  | cut {i j n} : G i j → Conv H Z G (.cut i n) (.cut j n)
  | rmp {t t' ks ps ps'} : (t' = true → t = true) → ConvL H Z G ps ps' → Conv H Z G (.rmp t ks ps) (.rmp t' ks ps')
  | emp {t} : Conv H Z G .emp (.sl t 0 [])
  | frz {i e z n cs cs'} : Z i → H i = some (.arr e z n cs) → ConvL H Z G cs cs' → Conv H Z G (.own i) (.sl true n cs')
  | frzloc {i off b ys} : Z i → H i = some b → ConvL H Z G (b.cells.drop off) ys → Conv H Z G (.loc i off) (.at true ys)
  | sl {t t' n xs xs'} : (t' = true → t = true) → ConvL H Z G xs xs' → Conv H Z G (.sl t n xs) (.sl t' n xs')
  | at {t t' xs xs'} : (t' = true → t = true) → ConvL H Z G xs xs' → Conv H Z G (.at t xs) (.at t' xs')
  | fn {f cs cs'} : ConvL H Z G cs cs' → Conv H Z G (.fn f cs) (.fn f cs')
  | mth {f cs cs'} : ConvL H Z G cs cs' → Conv H Z G (.mth f cs) (.mth f cs')
inductive ConvL (H : Id → Option Blk) (Z : Id → Prop) (G : Id → Id → Prop) : List PC → List PC → Prop
  | nil : ConvL H Z G [] []
  | cons {p p' ps ps'} : Conv H Z G p p' → ConvL H Z G ps ps' → ConvL H Z G (p :: ps) (p' :: ps')
end

mutual
inductive ConvV (H : Id → Option Blk) (Z : Id → Prop) (G : Id → Id → Prop) : PV → PV → Prop
  | one {p p'} : Conv H Z G p p' → ConvV H Z G (.one p) (.one p')
  | agg {ps ps'} : ConvL H Z G ps ps' → ConvV H Z G (.agg ps) (.agg ps')
  | tup {ps ps'} : ConvVs H Z G ps ps' → ConvV H Z G (.tup ps) (.tup ps')
  | full {p p'} : Conv H Z G p p' → ConvV H Z G (.full p) (.one p')
inductive ConvVs (H : Id → Option Blk) (Z : Id → Prop) (G : Id → Id → Prop) : List PV → List PV → Prop
  | nil : ConvVs H Z G [] []
  | cons {p p' ps ps'} : ConvV H Z G p p' → ConvVs H Z G ps ps' → ConvVs H Z G (p :: ps) (p' :: ps')
end

inductive ConvB (H : Id → Option Blk) (Z : Id → Prop) (G : Id → Id → Prop) : Blk → Blk → Prop
  | box {ty cs cs'} : ConvL H Z G cs cs' → ConvB H Z G (.box ty cs) (.box ty cs')
  | arr {ty z n cs cs'} : ConvL H Z G cs cs' → ConvB H Z G (.arr ty z n cs) (.arr ty z n cs')
  | mp {ty es es'} : es.map (·.1) = es'.map (·.1) → ConvL H Z G (es.map (·.2)) (es'.map (·.2)) → ConvB H Z G (.mp ty es) (.mp ty es')

section
variable {H : Id → Option Blk} {Z : Id → Prop} {G : Id → Id → Prop} {φ φ' : Id → Option Value} {w : World} {F F' : Bool → Nat → Prop}

theorem ConvL.free : ∀ {ps : List PC}, PC.frees ps = true → ConvL H Z G ps ps
  | [], _ => .nil
  | p :: ps, h => by
    simp only [PC.frees, Bool.and_eq_true] at h
    exact .cons (.free h.1) (ConvL.free h.2)

theorem ConvL.append : ∀ {ps ps' qs qs' : List PC}, ConvL H Z G ps ps' → ConvL H Z G qs qs' → ConvL H Z G (ps ++ qs) (ps' ++ qs')
  | [], _, _, _, h, h' => by cases h; exact h'
  | p :: ps, _, _, _, h, h' => by
    cases h with
    | cons h1 h2 => exact .cons h1 (ConvL.append h2 h')

theorem ConvV.free {p : PV} (h : p.free = true) (hn : ∀ vs, p ≠ .tup vs) : ConvV H Z G p p := by
  cases p with
  | one p => exact .one (.free h)
  | agg ps => exact .agg (.free h)
  | tup vs => exact absurd rfl (hn vs)
  | may b p => simp [PV.free] at h
  | full p => simp [PV.free] at h

theorem tag_le (hS : ∀ g, F' true g → F' false g) {t t' : Bool} (h : t' = true → t = true) (g : Nat) (hg : F' t g) : F' t' g := by
  cases t <;> cases t'
  · exact hg
  · cases h rfl
  · exact hS g hg
  · exact hg

mutual
theorem conv_rep (hF : ∀ t g, F t g → F' t g) (hG : ∀ i j u, G i j → φ i = some u → φ' j = some u) (hH : ∀ i b, H i = some b → holds φ w F i b)
  (hZ : ∀ i b u g, Z i → H i = some b → φ i = some u → blkOf u = some g → F' true g) (hS : ∀ g, F' true g → F' false g) : ∀ {p p' : PC}, Conv H Z G p p' → ∀ {x : Value}, rep φ w F p x → rep φ' w F' p' x
  | _, _, .free hp, x, hr => free_rep hF _ _ hp hr
  | _, _, .nil, x, hr => by
    simp only [rep] at hr ⊢
    obtain ⟨rfl, _⟩ := hr
    exact ⟨none, 0, rfl, Nat.le_refl _, .inl (by simp)⟩
  | _, _, .own hg, x, hr => by
    simp only [rep] at hr ⊢
    exact ⟨hG _ _ _ hg hr.1, hr.2⟩
  | _, _, .loc hg, x, hr => by
    simp only [rep] at hr ⊢
    obtain ⟨u, g, hu, hb, hx⟩ := hr
    exact ⟨u, g, hG _ _ _ hg hu, hb, hx⟩
  | _, _, .vw hg, x, hr => by
    simp only [rep] at hr ⊢
    obtain ⟨u, A, cap, hu, hx⟩ := hr
    exact ⟨u, A, cap, hG _ _ _ hg hu, hx⟩
  | _, _, .cut hg, x, hr => by
    simp only [rep] at hr ⊢
    obtain ⟨A, N, cap, hu, hx⟩ := hr
    exact ⟨A, N, cap, hG _ _ _ hg hu, hx⟩
  | _, _, .rmp ht hc, x, hr => by
    simp only [rep] at hr ⊢
    obtain ⟨g, ents, clock, hx, hg, hh, hk, hr⟩ := hr
    exact ⟨g, ents, clock, hx, tag_le hS ht _ (hF _ _ hg), hh, hk, convL_rep hF hG hH hZ hS hc hr⟩
  | _, _, .emp, x, hr => by
    simp only [rep] at hr ⊢
    obtain ⟨A, rfl⟩ := hr
    exact ⟨A, 0, rfl, Nat.le_refl _, .inl (by simp)⟩
  | _, _, .frz (i := i) (e := e) (z := z) (n := n) (cs := cs) (cs' := cs') hz hb hc, x, hr => by
    simp only [rep] at hr ⊢
    obtain ⟨hφ, _⟩ := hr
    have hh := hH i _ hb
    have hh' := hh
    obtain ⟨v, vs, hv, ⟨hl, ho⟩, hrs⟩ := hh
    rw [hφ] at hv
    cases hv
    rcases ho with ⟨rfl, rfl⟩ | ⟨g, cap, cur, rfl, _, hcur, hn, _⟩
    · refine ⟨none, 0, rfl, Nat.le_refl _, .inl ⟨rfl, ?_⟩⟩
      have : cs = [] := List.length_eq_zero_iff.1 (by rw [← reps_length _ _ hrs, hl]; simp)
      subst this
      cases hc
      rfl
    · exact ⟨_, cap, rfl, hn, .inr ⟨_, rfl, hZ i _ _ _ hz hb hφ rfl, convAt_rep hF hG hH hZ hS hc (holds_repAt hh' hφ rfl)⟩⟩
  | _, _, .frzloc (i := i) (off := off) (b := b) hz hb hc, x, hr => by
    simp only [rep] at hr ⊢
    obtain ⟨u, g, hu, hg, rfl⟩ := hr
    have := repAt_drop (holds_repAt (hH i _ hb) hu hg) off
    rw [Addr.add_lit, Nat.zero_add] at this
    exact ⟨_, rfl, hZ i _ _ _ hz hb hu hg, convAt_rep hF hG hH hZ hS hc this⟩
  | _, _, .sl (t := t) (t' := t') ht hc, x, hr => by
    simp only [rep] at hr ⊢
    obtain ⟨A, cap, hx, hn, h⟩ := hr
    refine ⟨A, cap, hx, hn, ?_⟩
    rcases h with ⟨h1, h2⟩ | ⟨ad, ha, hf, h⟩
    · subst h2
      cases hc
      exact .inl ⟨h1, rfl⟩
    · exact .inr ⟨ad, ha, tag_le hS ht _ (hF _ _ hf), convAt_rep hF hG hH hZ hS hc h⟩
  | _, _, .at ht hc, x, hr => by
    simp only [rep] at hr ⊢
    obtain ⟨ad, hx, hf, h⟩ := hr
    exact ⟨ad, hx, tag_le hS ht _ (hF _ _ hf), convAt_rep hF hG hH hZ hS hc h⟩
  | _, _, .fn hc, x, hr => by
    simp only [rep] at hr ⊢
    obtain ⟨vs, hx, h⟩ := hr
    exact ⟨vs, hx, convL_rep hF hG hH hZ hS hc h⟩
  | _, _, .mth hc, x, hr => by
    simp only [rep] at hr ⊢
    obtain ⟨vs, hx, h⟩ := hr
    exact ⟨vs, hx, convL_rep hF hG hH hZ hS hc h⟩
theorem convAt_rep (hF : ∀ t g, F t g → F' t g) (hG : ∀ i j u, G i j → φ i = some u → φ' j = some u) (hH : ∀ i b, H i = some b → holds φ w F i b)
  (hZ : ∀ i b u g, Z i → H i = some b → φ i = some u → blkOf u = some g → F' true g) (hS : ∀ g, F' true g → F' false g) : ∀ {ps ps' : List PC}, ConvL H Z G ps ps' → ∀ {ad : Addr}, repAt φ w F ad ps → repAt φ' w F' ad ps'
  | _, _, .nil, ad, hr => by simp only [repAt]
  | _, _, .cons h1 h2, ad, hr => by
    simp only [repAt] at hr ⊢
    obtain ⟨⟨v, hv, hr1⟩, hr2⟩ := hr
    exact ⟨⟨v, hv, conv_rep hF hG hH hZ hS h1 hr1⟩, convAt_rep hF hG hH hZ hS h2 hr2⟩
theorem convL_rep (hF : ∀ t g, F t g → F' t g) (hG : ∀ i j u, G i j → φ i = some u → φ' j = some u) (hH : ∀ i b, H i = some b → holds φ w F i b)
  (hZ : ∀ i b u g, Z i → H i = some b → φ i = some u → blkOf u = some g → F' true g) (hS : ∀ g, F' true g → F' false g) : ∀ {ps ps' : List PC}, ConvL H Z G ps ps' → ∀ {vs : List Value}, reps φ w F ps vs → reps φ' w F' ps' vs
  | _, _, .nil, vs, hr => by simpa only [reps] using hr
  | _, _, .cons h1 h2, vs, hr => by
    simp only [reps] at hr ⊢
    obtain ⟨v, vs', hx, hr1, hr2⟩ := hr
    exact ⟨v, vs', hx, conv_rep hF hG hH hZ hS h1 hr1, convL_rep hF hG hH hZ hS h2 hr2⟩
end

mutual
theorem convV_rep (hF : ∀ t g, F t g → F' t g) (hG : ∀ i j u, G i j → φ i = some u → φ' j = some u) (hH : ∀ i b, H i = some b → holds φ w F i b)
  (hZ : ∀ i b u g, Z i → H i = some b → φ i = some u → blkOf u = some g → F' true g) (hS : ∀ g, F' true g → F' false g) : ∀ {p p' : PV}, ConvV H Z G p p' → ∀ {x : Value}, repV φ w F p x → repV φ' w F' p' x
  | _, _, .one h, x, hr => by
    simp only [repV] at hr ⊢
    exact conv_rep hF hG hH hZ hS h hr
  | _, _, .agg h, x, hr => by
    simp only [repV] at hr ⊢
    obtain ⟨vs, hx, hr⟩ := hr
    exact ⟨vs, hx, convL_rep hF hG hH hZ hS h hr⟩
  | _, _, .tup h, x, hr => by
    simp only [repV] at hr ⊢
    obtain ⟨vs, hx, hr⟩ := hr
    exact ⟨vs, hx, convVs_rep hF hG hH hZ hS h hr⟩
  | _, _, .full h, x, hr => by
    simp only [repV] at hr ⊢
    exact conv_rep hF hG hH hZ hS h hr.1
theorem convVs_rep (hF : ∀ t g, F t g → F' t g) (hG : ∀ i j u, G i j → φ i = some u → φ' j = some u) (hH : ∀ i b, H i = some b → holds φ w F i b)
  (hZ : ∀ i b u g, Z i → H i = some b → φ i = some u → blkOf u = some g → F' true g) (hS : ∀ g, F' true g → F' false g) : ∀ {ps ps' : List PV}, ConvVs H Z G ps ps' → ∀ {xs : List Value}, repVs φ w F ps xs → repVs φ' w F' ps' xs
  | _, _, .nil, xs, hr => by simpa only [repVs] using hr
  | _, _, .cons h1 h2, xs, hr => by
    simp only [repVs] at hr ⊢
    obtain ⟨v, vs', hx, hr1, hr2⟩ := hr
    exact ⟨v, vs', hx, convV_rep hF hG hH hZ hS h1 hr1, convVs_rep hF hG hH hZ hS h2 hr2⟩
end
end

section
variable {C : Ctx} {φ : Id → Option Value} {F0 F1 : Nat → Prop} {σ τ : St} {a : Act} {w : World}

/-- The blocks that are only read from now on. -/
def Frozen (φ : Id → Option Value) (σ : St) (Z : Id → Prop) (g : Nat) : Prop := ∃ i u, Z i ∧ σ.H i ≠ none ∧ φ i = some u ∧ blkOf u = some g

theorem exists_names (G : Id → Id → Prop) (hG : ∀ i i' j, G i j → G i' j → i = i') (φ : Id → Option Value) : ∃ φ' : Id → Option Value, ∀ j u, φ' j = some u ↔ ∃ i, G i j ∧ φ i = some u := by
  refine ⟨fun j => open Classical in if h : ∃ i, G i j then φ h.choose else none, fun j u => ?_⟩
  by_cases h : ∃ i, G i j
  · simp only [dif_pos h]
    constructor
    · intro hu; exact ⟨_, h.choose_spec, hu⟩
    · rintro ⟨i, hi, hu⟩
      rw [hG _ _ _ h.choose_spec hi]
      exact hu
  · simp only [dif_neg h]
    constructor
    · intro hu; cases hu
    · rintro ⟨i, hi, _⟩; exact absurd ⟨i, hi⟩ h

theorem RelX.convX (h : RelX C φ F0 F1 σ a w) (Z : Id → Prop) (G : Id → Id → Prop)
    (hG1 : ∀ i i' j, G i j → G i' j → i = i') (hG2 : ∀ i j j', G i j → G i j' → j = j')
    (hfr : ∀ t p', τ.fr t = some p' → ∃ p, σ.fr t = some p ∧ ConvV σ.H Z G p p')
    (hgh : ∀ t p', τ.gh t = some p' → ∃ p, σ.gh t = some p ∧ ConvV σ.H Z G p p')
    (hH : ∀ j b', τ.H j = some b' → ∃ i b, G i j ∧ ¬ Z i ∧ σ.H i = some b ∧ ConvB σ.H Z G b b')
    (hid : ∀ i j, G i j → j.1 < τ.nx ∨ ∃ d, τ.us d = true ∧ j.1 = τ.nx + d) (hnx : 1 ≤ τ.nx) (χ : Id → Option Value) (hk0 : ∀ i j u, G i j → j.1 = 0 → φ i = some u → χ j = some u) :
    ∃ φ', RelX { C with φi := χ } φ' (fun g => F0 g ∨ Frozen φ σ Z g) (fun g => F1 g ∨ Frozen φ σ Z g) τ a w ∧ (∀ p p' x, ConvV σ.H Z G p p' → repV φ w (Fs F0 F1) p x → repV φ' w (Fs (fun g => F0 g ∨ Frozen φ σ Z g) (fun g => F1 g ∨ Frozen φ σ Z g)) p' x) ∧ ∀ j u, φ' j = some u ↔ ∃ i, G i j ∧ φ i = some u := by
  obtain ⟨φ', hφ'⟩ := exists_names G hG1 φ
  have hF : ∀ t g, Fs F0 F1 t g → Fs (fun g => F0 g ∨ Frozen φ σ Z g) (fun g => F1 g ∨ Frozen φ σ Z g) t g := by
    intro t g hg; cases t <;> exact .inl hg
  have hG : ∀ i j u, G i j → φ i = some u → φ' j = some u := fun i j u hg hu => (hφ' j u).2 ⟨i, hg, hu⟩
  have hZ : ∀ i b u g, Z i → σ.H i = some b → φ i = some u → blkOf u = some g → Fs (fun g => F0 g ∨ Frozen φ σ Z g) (fun g => F1 g ∨ Frozen φ σ Z g) true g :=
    fun i b u g hz hb hu hg => .inr ⟨i, u, hz, by rw [hb]; simp, hu, hg⟩
  have hS : ∀ g, Fs (fun g => F0 g ∨ Frozen φ σ Z g) (fun g => F1 g ∨ Frozen φ σ Z g) true g → Fs (fun g => F0 g ∨ Frozen φ σ Z g) (fun g => F1 g ∨ Frozen φ σ Z g) false g := by
    rintro g (h0 | h0)
    · exact .inl (h.sub g h0)
    · exact .inr h0
  have hV : ∀ p p' x, ConvV σ.H Z G p p' → repV φ w (Fs F0 F1) p x → repV φ' w (Fs (fun g => F0 g ∨ Frozen φ σ Z g) (fun g => F1 g ∨ Frozen φ σ Z g)) p' x :=
    fun p p' x hc hr => convV_rep hF hG h.heap hZ hS hc hr
  have hnew : ∀ g, Frozen φ σ Z g → ¬ C.K0 g ∧ g < w.heap.size := by
    rintro g ⟨i, u, hz, hn, hu, hg⟩
    obtain ⟨b, hb⟩ := Option.ne_none_iff_exists'.1 hn
    obtain ⟨_, hk, _⟩ := h.apart i u g hn hu hg
    exact ⟨hk, holds_lt (h.heap i b hb) hu hg⟩
  refine ⟨φ', ⟨h.size, h.defs, fun t p' hp => ?_, fun j b' hj => ?_, fun j k u v g hj hk hu hv hg hg' => ?_, fun j u g hj hu hg => ?_, ?_, ?_, ?_, ?_, h.os, h.tape, h.output, h.big, h.kept, h.k0lt, h.gbig, h.glob, fun q x hq => ?_, hnx, fun j hj => ?_, fun t p' hp => ?_⟩, hV, hφ'⟩
  · obtain ⟨p, hp0, hc⟩ := hfr t p' hp
    obtain ⟨x, hx, hr⟩ := h.frame t p hp0
    exact ⟨x, hx, hV _ _ _ hc hr⟩
  · obtain ⟨i, b, hg, _, hb, hc⟩ := hH j b' hj
    have hh := h.heap i b hb
    cases hc with
    | box hc =>
      obtain ⟨g, vs, hp, hheap, hr⟩ := hh
      exact ⟨g, vs, hG _ _ _ hg hp, hheap, convL_rep hF hG h.heap hZ hS hc hr⟩
    | arr hc =>
      obtain ⟨v, vs, hp, ho, hr⟩ := hh
      exact ⟨v, vs, hG _ _ _ hg hp, ho, convL_rep hF hG h.heap hZ hS hc hr⟩
    | mp hk hc =>
      obtain ⟨g, ents, clock, hp, ho, hk', hr⟩ := hh
      exact ⟨g, ents, clock, hG _ _ _ hg hp, ho, hk'.trans hk, convL_rep hF hG h.heap hZ hS hc hr⟩
  · obtain ⟨b1, hb1⟩ := Option.ne_none_iff_exists'.1 hj
    obtain ⟨b2, hb2⟩ := Option.ne_none_iff_exists'.1 hk
    obtain ⟨i1, c1, hg1, _, hc1, _⟩ := hH j b1 hb1
    obtain ⟨i2, c2, hg2, _, hc2, _⟩ := hH k b2 hb2
    obtain ⟨i1', hg1', hu'⟩ := (hφ' j u).1 hu
    obtain ⟨i2', hg2', hv'⟩ := (hφ' k v).1 hv
    have e1 := hG1 _ _ _ hg1 hg1'
    have e2 := hG1 _ _ _ hg2 hg2'
    subst e1 e2
    have := h.inj i1 i2 u v g (by rw [hc1]; simp) (by rw [hc2]; simp) hu' hv' hg hg'
    subst this
    exact hG2 _ _ _ hg1 hg2
  · obtain ⟨b1, hb1⟩ := Option.ne_none_iff_exists'.1 hj
    obtain ⟨i1, c1, hg1, hnz, hc1, _⟩ := hH j b1 hb1
    obtain ⟨i1', hg1', hu'⟩ := (hφ' j u).1 hu
    have e1 := hG1 _ _ _ hg1 hg1'
    subst e1
    obtain ⟨h1, h2, h3⟩ := h.apart i1 u g (by rw [hc1]; simp) hu' hg
    refine ⟨?_, h2, h3⟩
    rintro (h0 | ⟨i2, u2, hz, hn, hu2, hg2⟩)
    · exact h1 h0
    · have := h.inj i2 i1 u2 u g hn (by rw [hc1]; simp) hu2 hu' hg2 hg
      subst this
      exact hnz hz
  · rintro g (h0 | h0)
    · exact .inl (h.sub g h0)
    · exact .inr h0
  · rintro g (h0 | h0)
    · exact (h.ini g h0).imp id .inl
    · exact .inr (.inr h0)
  · rintro g (h0 | h0)
    · exact h.new1 g h0
    · exact fun hk => absurd hk (hnew g h0).1
  · rintro g (h0 | h0)
    · exact h.lt0 g h0
    · exact (hnew g h0).2
  · obtain ⟨i, hg, hu⟩ := (hφ' _ x).1 hq
    exact hk0 i _ x hg rfl hu
  · obtain ⟨u, hu⟩ := Option.ne_none_iff_exists'.1 hj
    obtain ⟨i, hg, _⟩ := (hφ' j u).1 hu
    exact hid i j hg
  · obtain ⟨p, hp0, hc⟩ := hgh t p' hp
    obtain ⟨x, hx, hr⟩ := h.ghost t p hp0
    exact ⟨x, hx, hV _ _ _ hc hr⟩

theorem RelX.conv (h : RelX C φ F0 F1 σ a w) (Z : Id → Prop) (G : Id → Id → Prop)
    (hG1 : ∀ i i' j, G i j → G i' j → i = i') (hG2 : ∀ i j j', G i j → G i j' → j = j')
    (hfr : ∀ t p', τ.fr t = some p' → ∃ p, σ.fr t = some p ∧ ConvV σ.H Z G p p')
    (hgh : ∀ t p', τ.gh t = some p' → ∃ p, σ.gh t = some p ∧ ConvV σ.H Z G p p')
    (hH : ∀ j b', τ.H j = some b' → ∃ i b, G i j ∧ ¬ Z i ∧ σ.H i = some b ∧ ConvB σ.H Z G b b')
    (hid : ∀ i j, G i j → j.1 < τ.nx ∨ ∃ d, τ.us d = true ∧ j.1 = τ.nx + d) (hnx : 1 ≤ τ.nx) (χ : Id → Option Value) (hk0 : ∀ i j u, G i j → j.1 = 0 → φ i = some u → χ j = some u) :
    ∃ φ' F0' F1', RelX { C with φi := χ } φ' F0' F1' τ a w ∧ (∀ p p' x, ConvV σ.H Z G p p' → repV φ w (Fs F0 F1) p x → repV φ' w (Fs F0' F1') p' x) ∧ ∀ j u, φ' j = some u ↔ ∃ i, G i j ∧ φ i = some u := by
  obtain ⟨φ', h1, h2, h3⟩ := h.convX Z G hG1 hG2 hfr hgh hH hid hnx χ hk0
  exact ⟨φ', _, _, h1, h2, h3⟩

end
end Go.Vm
end

section
namespace Go.Vm
open Go Go.RowKit
set_option linter.unusedSimpArgs false
set_option linter.unusedVariables false

def St.enter (args : List PV) : St := ⟨fun t => args[t]?, fun _ => none, fun _ => false, 1, fun _ => none⟩

def pack : List PV → PV
  | [v] => v
  | vs => .tup vs

def resOf (P : Program) (σ : St) : List ResultVar → Option (List PV)
  | [] => some []
  | .tmp t :: rs =>
    match σ.fr t, resOf P σ rs with
    | some p, some ps => some (p :: ps)
    | _, _ => none
  | .cell t ty :: rs =>
    match ((σ.fr t).bind (behind σ.H)).bind (takeT P ty), resOf P σ rs with
    | some p, some ps => some (p :: ps)
    | _, _ => none
theorem resOf_gh {P : Program} {σ : St} {g : Nat → Option PV} : ∀ rs : List ResultVar, resOf P { σ with gh := g } rs = resOf P σ rs
  | [] => rfl
  | .tmp t :: rs => by simp only [resOf, resOf_gh rs]
  | .cell t ty :: rs => by simp only [resOf, resOf_gh rs]

/-- What a body leaves is what its contract says: own blocks under the contract's names, the rest of them only read from now on. -/
def RetOk (P : Program) (rs : List ResultVar) (r : PV) (B : List Blk) (σ : St) : Prop :=
  ∃ (vs : List PV) (Z : Id → Prop) (G : Id → Id → Prop), resOf P σ rs = some vs ∧ (∀ i i' j, G i j → G i' j → i = i') ∧ (∀ i j j', G i j → G i j' → j = j') ∧ (∀ i j, G i j → j.1 = 0 ∧ j.2 < B.length) ∧
    ConvV σ.H Z G (pack vs) r ∧ ∀ j b', B[j]? = some b' → ∃ i b, G i (0, j) ∧ ¬ Z i ∧ σ.H i = some b ∧ ConvB σ.H Z G b b'

def retQ (P : Program) (rs : List ResultVar) (r : PV) (B : List Blk) : Post
  | .normal, σ => RetOk P rs r B σ
  | .ret, σ => RetOk P rs r B σ
  | _, _ => False

section
variable {C : Ctx} {φ φ' : Id → Option Value} {F : Bool → Nat → Prop} {F0 F1 : Nat → Prop} {σ τ : St} {a : Act} {w : World} {P : Program}

theorem repVs_len : ∀ (ps : List PV) (vs : List Value), repVs φ w F ps vs → vs.length = ps.length
  | [], vs, h => by simp only [repVs] at h; subst h; rfl
  | p :: ps, vs, h => by
    simp only [repVs] at h
    obtain ⟨v, vs', rfl, hr, h⟩ := h
    simp [repVs_len ps vs' h]

theorem results_run (h : RelX C φ F0 F1 σ a w) : ∀ (rs : List ResultVar) (vs : List PV), resOf C.P σ rs = some vs → ∃ xs : List Value,
    (rs.mapM (fun | .tmp t => pure (a.tmps.getD t undef) | .cell t ty => do loadVar ty (← asAddr (a.tmps.getD t undef)) : ResultVar → Sem Value)).run C.P w = .ok xs w ∧ repVs φ w (Fs F0 F1) vs xs
  | [], vs, hv => by
    simp only [resOf] at hv
    cases hv
    exact ⟨[], by simp, by simp [repVs]⟩
  | .tmp t :: rs, vs, hv => by
    simp only [resOf] at hv
    split at hv
    · rename_i p ps hp hps
      cases hv
      obtain ⟨xs, hx, hr⟩ := results_run h rs ps hps
      obtain ⟨x, hx0, hr0⟩ := h.frame t p hp
      refine ⟨x :: xs, ?_, by simp only [repVs]; exact ⟨x, xs, rfl, hr0, hr⟩⟩
      have : a.tmps.getD t undef = x := by simp [Array.getD_eq_getD_getElem?, hx0]
      simp only [List.mapM_cons, Sem.run_bind, Sem.run_pure, Result.andThen_ok, this, hx]
    · cases hv
  | .cell t ty :: rs, vs, hv => by
    simp only [resOf] at hv
    split at hv
    · rename_i p ps hp hps
      cases hv
      obtain ⟨xs, hx, hr⟩ := results_run h rs ps hps
      obtain ⟨ys, hy, hp⟩ := Option.bind_eq_some_iff.1 hp
      obtain ⟨q, hq, hy⟩ := Option.bind_eq_some_iff.1 hy
      obtain ⟨x, hx0, hr0⟩ := h.frame t q hq
      obtain ⟨ad, rfl, hat⟩ := behind_rep h (fun e => e) hr0 hy
      obtain ⟨v, hl, hr1⟩ := run_takeT (P := C.P) hat hp
      refine ⟨v :: xs, ?_, by simp only [repVs]; exact ⟨v, xs, rfl, hr1, hr⟩⟩
      have : asAddr (a.tmps.getD t undef) = pure ad := by simp [Array.getD_eq_getD_getElem?, hx0, asAddr]
      simp only [List.mapM_cons, Sem.run_bind, Sem.run_pure, Result.andThen_ok, this, hl, hx]
    · cases hv

theorem pack_rep : ∀ {vs : List PV} {xs : List Value}, repVs φ w F vs xs → repV φ w F (pack vs) (if h : xs.toArray.size = 1 then xs.toArray[0] else .tuple xs.toArray)
  | [], xs, h => by
    simp only [repVs] at h
    subst h
    simp [pack, repV, repVs]
  | [v], xs, h => by
    simp only [repVs] at h
    obtain ⟨x, xs', rfl, hr, rfl⟩ := h
    simpa [pack] using hr
  | v :: v' :: vs, xs, h => by
    have hl := repVs_len _ _ h
    rw [dif_neg (by simp [hl])]
    simp only [pack, repV]
    exact ⟨xs.toArray, rfl, by simpa using h⟩

/-- Blocks that are neither read nor the call's own may turn. -/
theorem RelX.turn {C₀ : Ctx} (l : Later C₀ C) (h : RelX C φ F0 F1 σ a w) (S : Nat → Prop) (hS : ∀ g, S g → ¬ F0 g ∧ C.gb ≤ g ∧ ∀ i u, σ.H i ≠ none → φ i = some u → blkOf u ≠ some g) {w' : World}
    (hos : w'.os = w.os) (htp : w'.tape = w.tape) (hout : w'.output = w.output) (hsz : w.heap.size ≤ w'.heap.size) (hw : ∀ g, g < w.heap.size → ¬ S g → w'.heap[g]? = w.heap[g]?) (hK : ∀ g, C₀.K0 g → ¬ S g) (hgb0 : C₀.gb ≤ C₀.w0.heap.size) (hE : ∀ g, ¬ C₀.Eb g) :
    RelX { C₀ with df := C.df } φ F0 F1 { σ with gh := fun _ => none } a w' := by
  have hwF : ∀ t g, Fs F0 F1 t g → w'.heap[g]? = w.heap[g]? := fun t g hg => hw g (h.lt0 g (Fs_f0 h.sub t g hg)) fun hs => (hS g hs).1 (Fs_f0 h.sub t g hg)
  have hnt : C₀.nt = C.nt := by rw [show C.nt = C.toCore.nt from rfl, l.core]
  have hgb : C₀.gb = C.gb := by rw [show C.gb = C.toCore.gb from rfl, l.core]
  have hgw : C₀.gw = C.gw := by rw [show C.gw = C.toCore.gw from rfl, l.core]
  have hk0 : ∀ g, C₀.K0 g → g < C₀.w0.heap.size := by
    intro g hg
    by_cases h1 : g < C₀.w0.heap.size
    · exact h1
    · have h2 := (l.kept g hg (hE g)).1
      have h3 := h.k0lt g (l.K0 g hg)
      rw [Array.getElem?_eq_none (show C₀.w0.heap.size ≤ g by omega), Array.getElem?_eq_getElem h3] at h2
      cases h2
  refine ⟨h.size.trans hnt.symm, h.defs, fun t p hp => (h.frame t p hp).imp fun x hx => ⟨hx.1, repV_mono (fun _ _ e => e) hwF (fun _ _ e => e) p x hx.2⟩, fun i b hi => ?_, h.inj, fun i u g hi hu hg => ?_, h.sub, fun g hg => by rw [show ({ C₀ with df := C.df } : Ctx).Fi = C.Fi from l.Fi.symm]; exact h.ini g hg, fun g hg hk => l.zr0 g (h.new1 g hg (l.K0 g hk)) hk, fun g hg => Nat.lt_of_lt_of_le (h.lt0 g hg) hsz,
    hos.trans (h.os.trans l.os), htp.trans (h.tape.trans l.tape), hout.trans (h.output.trans l.output), Nat.le_trans l.big (Nat.le_trans h.big hsz), fun g hg => ?_, hk0, hgb0, fun g hg => ?_, fun j u hu => by rw [show ({ C₀ with df := C.df } : Ctx).φi = C.φi from l.φi.symm]; exact h.keep j u hu, h.nx1, h.ids, fun t p hp => ?_⟩
  · have hh := h.heap i b hi
    exact holds_mono hh (fun _ _ e => e) (fun _ _ e => e) hwF fun u g hu hg => hw g (holds_lt hh hu hg) fun hs => (hS g hs).2.2 i u (by rw [hi]; simp) hu hg
  · obtain ⟨h1, h2, h3⟩ := h.apart i u g hi hu hg
    exact ⟨h1, fun hk => h2 (l.K0 g hk), hgb ▸ h3⟩
  · exact (hw g (Nat.lt_of_lt_of_le (hk0 g hg) (Nat.le_trans l.big h.big)) (hK g hg)).trans ((h.kept g (l.K0 g hg)).trans (l.kept g hg (hE g)).1)
  · have h1 : g < C.gb := hgb ▸ hg
    exact (hw g (Nat.lt_of_lt_of_le h1 (Nat.le_trans h.gbig h.big)) fun hs => by have := (hS g hs).2.1; omega).trans ((h.glob g h1).trans (by rw [← hgw]))
  · cases hp

theorem leaves_marks {F : Fence} {n : Nat} {fn : Func} {tmps : Array Value} {R : Ending → World → Prop} : ∀ (rs : List Nat) (w : World), rs.Nodup → (∀ r ∈ rs, w.heap[r]? = some (.deferred (some []))) →
    (∀ w', w'.os = w.os → w'.tape = w.tape → w'.output = w.output → w'.heap.size = w.heap.size → (∀ g, g ∉ rs → w'.heap[g]? = w.heap[g]?) → LeavesIn F n P fn tmps R [] .returning w') →
    LeavesInM F n P fn tmps R (rs.map markOf) .returning w
  | [], w, _, _, h => h w rfl rfl rfl rfl fun _ _ => rfl
  | r :: rs, w, hn, hr, h => by
    obtain ⟨hn1, hn2⟩ := List.nodup_cons.1 hn
    refine ⟨by simp, .inl ⟨r, w.putObj r (.deferred none), rfl, run_takeDeferred (hr r (by simp)), ?_⟩⟩
    have hput : ∀ g, g ≠ r → (w.putObj r (.deferred none)).heap[g]? = w.heap[g]? := fun g hg => World.putObj_heap_other hg
    refine leaves_marks rs _ hn2 (fun q hq => ?_) fun w' hos htp hout hsz hw => h w' hos htp hout (hsz.trans (by simp [World.putObj])) fun g hg => ?_
    · rw [hput q (by rintro rfl; exact hn1 hq)]
      exact hr q (by simp [hq])
    · simp only [List.mem_cons, not_or] at hg
      rw [hw g hg.2, hput g hg.1]

/-- A CONTRACT, OUT OF THE BODY. -/
theorem vcall_ofRC (cu : Bool) {gw : World} {gb : Nat} {f : FuncId} {fn : Func} {c : Code} {args : List PV} {r : PV} {B : List Blk} {n : Nat} (rs : List ResultVar) (hf : P.funcs[f]? = some fn) (hb : fn.body = some c) (hname : (fn.name == "runtime.NumGoroutine") = false) (hnt : fn.ntmps = n)
    (hrs : fn.results.toList = rs) (hn : args.length ≤ n)
    (h : ∀ C : Ctx, C.P = P → C.nt = n → C.gw = gw → C.gb = gb → (∀ g, g < C.w0.heap.size → C.K0 g) → C.ro = none → C.cut = cu → vwp C c (retQ P rs r B) (St.enter args)) : VCall P gw gb f args r B := by
  subst hnt hrs
  refine ⟨⟨fn, hf, hname, by simp [hb]⟩, fun w xs F hgb hgl hlt hr => ?_⟩
  let C₀ : Ctx := ⟨⟨P, fn.ntmps, gw, gb, cu⟩, w, fun g => g < w.heap.size, F, fun _ => none, none, [], #[], hlt, fun g hg => Nat.lt_of_lt_of_le hg hgb, fun _ => False, fun _ => False, none, fun _ h => h.elim, fun _ h => h.elim, fun _ h => h.elim, fun _ _ h => h, fun _ _ h => h, fun _ h => by cases h⟩
  have hinit : RelX C₀ (fun _ => none) F (fun _ => False) (St.enter args) { tmps := xs ++ Array.replicate (fn.ntmps - xs.size) undef, defers := [] } w := by
    have hl := repVs_len _ _ hr
    have hg := repVs_get _ _ hr
    have hs : xs.size = args.length := by simpa using hl
    refine ⟨?_, rfl, fun t p hp => ?_, fun i b hi => (by cases hi), fun i j u v g hi => (absurd rfl hi), fun i u g hi => (absurd rfl hi), fun g hg => hg.elim, fun g hg => .inl hg, fun g hg => hg.elim, hlt, rfl, rfl, rfl, Nat.le_refl _, fun _ _ => rfl, fun _ h => h, hgb, hgl, fun j u hu => (by cases hu), Nat.le_refl _, fun i hi => absurd rfl hi, fun t p hp => (by cases hp)⟩
    · show (xs ++ Array.replicate (fn.ntmps - xs.size) undef).size = fn.ntmps; simp only [Array.size_append, Array.size_replicate]; omega
    · obtain ⟨v, hv, hr'⟩ := hg t p hp
      refine ⟨v, ?_, hr'⟩
      have hv' : xs[t]? = some v := by simpa using hv
      rw [Array.getElem?_append_left (Array.getElem?_eq_some_iff.1 hv').1]
      exact hv'
  refine callsIn_wide.1 (callsIn_of_wp_marks (F := fz C₀) (n := 0) hf hb trivial (wpIn_mono (h C₀ rfl rfl rfl rfl (fun _ h => h) rfl rfl C₀ (.refl _) _ _ ⟨_, _, _, hinit⟩) ?_))
  rintro e a' w₁ ⟨C₂, σ', l, ⟨φ, F0, F1, hR₁⟩, hq⟩
  have back : ∀ R : Ending → World → Prop, (∀ w' df, RelX { C₀ with df := df } φ F0 F1 { σ' with gh := fun _ => none } a' w' → ∃ v, (results fn a'.tmps).run P w' = .ok v w' ∧ R (.returned v) w') → LeavesInM (fz C₀) 0 P fn a'.tmps R a'.defers .returning w₁ := by
    intro R hR
    obtain ⟨rs, e1, e2, e3⟩ := l.df
    rw [hR₁.defs, e1, show C₀.df = [] from rfl, List.append_nil]
    refine leaves_marks rs w₁ e2 (fun r hr => (hR₁.kept r (e3 r hr).2.2.1).trans (e3 r hr).2.2.2.1) fun w' hos htp hout hsz hw => ?_
    refine hR w' C₂.df (hR₁.turn l (· ∈ rs) (fun g hg => ?_) hos htp hout (Nat.le_of_eq hsz.symm) (fun g _ hg => hw g hg) (fun g hg hs => ?_) hgb (fun _ h => h))
    · obtain ⟨h1, h2, h3, h4, _, h6⟩ := e3 g hg
      refine ⟨fun h0 => ?_, ?_, fun i u hi hu hg' => (hR₁.apart i u g hi hu hg').2.1 h3⟩
      · rcases hR₁.ini g h0 with h5 | h5
        · rw [l.Fi] at h5
          have := hlt g h5
          have h1 : w.heap.size ≤ g := h1
          omega
        · exact h6 (hR₁.new1 g h5 h3)
      · rw [show C₂.gb = C₀.gb from by rw [show C₂.gb = C₂.toCore.gb from rfl, l.core]]
        exact Nat.le_trans hgb h1
    · have h1 : w.heap.size ≤ g := (e3 g hs).1
      have hg : g < w.heap.size := hg
      omega
  have main : ∀ w' df, RelX { C₀ with df := df } φ F0 F1 { σ' with gh := fun _ => none } a' w' → RetOk P fn.results.toList r B σ' → ∃ v, (results fn a'.tmps).run P w' = .ok v w' ∧ ∃ (x : Value) (ψ : Id → Option Value) (X : Nat → Prop), Ending.returned v = .returned x ∧ Below w.heap.size w w' ∧ (∀ g, X g → w.heap.size ≤ g ∧ g < w'.heap.size) ∧
      repV ψ w' (Fs (fun g => F g ∨ X g) X) r x ∧ (∀ j b, B[j]? = some b → holds ψ w' (Fs (fun g => F g ∨ X g) X) (0, j) b) ∧ (∀ i, ψ i ≠ none → i.1 = 0) ∧
      (∀ j u g, ψ (0, j) = some u → blkOf u = some g → w.heap.size ≤ g ∧ ¬ X g) ∧
      (∀ j k u v g, ψ (0, j) = some u → ψ (0, k) = some v → blkOf u = some g → blkOf v = some g → j = k) := by
    rintro w' df hR ⟨vs, Z, G, hvs, hG1, hG2, hG0, hcv, hB⟩
    obtain ⟨xs', hrun, hreps⟩ := results_run hR _ vs ((resOf_gh _).trans hvs)
    have hx := pack_rep hreps
    obtain ⟨χ, hχ⟩ := exists_names G hG1 φ
    obtain ⟨φ', F0', F1', hT, hV, hφ'⟩ := hR.conv (τ := ⟨fun _ => none, fun j => if j.1 = 0 then B[j.2]? else none, fun _ => false, 1, fun _ => none⟩) Z G hG1 hG2 (fun t p' hp => by cases hp) (fun t p' hp => by cases hp)
      (fun j b' hj => by
        simp only at hj
        split at hj
        · rename_i h0
          obtain ⟨j1, j2⟩ := j
          simp only at h0
          subst h0
          exact hB j2 b' hj
        · cases hj)
      (fun i j hg => .inl (by have := (hG0 i j hg).1; simp only; omega)) (Nat.le_refl _) χ (fun i j u hg _ hu => (hχ j u).2 ⟨i, hg, hu⟩)
    have hF : ∀ t g, Fs F0' F1' t g → Fs (fun g => F g ∨ F1' g) F1' t g := by
      intro t g hg
      cases t
      · exact hT.ini g hg
      · exact hg
    have hH : ∀ j, φ' (0, j) ≠ none → ∃ b, B[j]? = some b := by
      intro j hj
      obtain ⟨u, hu⟩ := Option.ne_none_iff_exists'.1 hj
      obtain ⟨i, hg, _⟩ := (hφ' _ u).1 hu
      exact ⟨_, List.getElem?_eq_getElem (hG0 i _ hg).2⟩
    refine ⟨_, ?_, _, φ', F1', rfl, ⟨hR.os, hR.tape, hR.output, hR.big, fun g hg => hR.kept g hg⟩, fun g hg => ⟨Nat.le_of_not_lt (hT.new1 g hg), hT.lt0 g (hT.sub g hg)⟩,
      repV_mono (fun _ _ e => e) (fun _ _ _ => rfl) hF _ _ (hV _ _ _ hcv hx), fun j b hj => ?_, fun i hi => ?_, fun j u g hu hg => ?_, fun j k u v g hu hv hg hg' => ?_⟩
    · unfold results
      simp only [Array.mapM_eq_mapM_toList]
      simp only [map_eq_pure_bind, Sem.run_bind, Sem.run_pure]
      have key : ∀ m : Sem (List Value), m.run P w' = .ok xs' w' → ((m.run P w').andThen fun a w' => Result.ok a.toArray w').andThen (fun a w' => Result.ok (if h : a.size = 1 then a[0] else Value.tuple a) w') =
          Result.ok (if h : xs'.toArray.size = 1 then xs'.toArray[0] else Value.tuple xs'.toArray) w' := by
        intro m hm; rw [hm]; rfl
      exact key _ hrun
    · exact holds_mono (hT.heap (0, j) b (by simpa using hj)) (fun _ _ e => e) hF (fun _ _ _ => rfl) (fun _ _ _ _ => rfl)
    · obtain ⟨u, hu⟩ := Option.ne_none_iff_exists'.1 hi
      obtain ⟨i', hg, _⟩ := (hφ' _ u).1 hu
      exact (hG0 i' _ hg).1
    · obtain ⟨b, hb'⟩ := hH j (by rw [hu]; simp)
      obtain ⟨h1, h2, _⟩ := hT.apart (0, j) u g (by simp [hb']) hu hg
      exact ⟨Nat.le_of_not_lt h2, fun hx => h1 (hT.sub g hx)⟩
    · obtain ⟨b, hb'⟩ := hH j (by rw [hu]; simp)
      obtain ⟨b2, hb2'⟩ := hH k (by rw [hv]; simp)
      have := hT.inj (0, j) (0, k) u v g (by simp [hb']) (by simp [hb2']) hu hv hg hg'
      simpa using this
  cases e
  case normal => exact back _ fun w' df hR => main w' df hR hq
  case ret => exact back _ fun w' df hR => main w' df hR hq
  all_goals exact hq.elim
theorem vcall_ofR {gw : World} {gb : Nat} {f : FuncId} {fn : Func} {c : Code} {args : List PV} {r : PV} {B : List Blk} {n : Nat} (rs : List ResultVar) (hf : P.funcs[f]? = some fn) (hb : fn.body = some c) (hname : (fn.name == "runtime.NumGoroutine") = false) (hnt : fn.ntmps = n)
    (hrs : fn.results.toList = rs) (hn : args.length ≤ n)
    (h : ∀ C : Ctx, C.P = P → C.nt = n → C.gw = gw → C.gb = gb → (∀ g, g < C.w0.heap.size → C.K0 g) → C.ro = none → vwp C c (retQ P rs r B) (St.enter args)) : VCall P gw gb f args r B :=
  vcall_ofRC false rs hf hb hname hnt hrs hn fun C h1 h2 h3 h4 h5 h6 _ => h C h1 h2 h3 h4 h5 h6
theorem vcall_of {gw : World} {gb : Nat} {f : FuncId} {fn : Func} {c : Code} {args : List PV} {r : PV} {B : List Blk} {n : Nat} (rs : List ResultVar) (hf : P.funcs[f]? = some fn) (hb : fn.body = some c) (hname : (fn.name == "runtime.NumGoroutine") = false) (hnt : fn.ntmps = n)
    (hrs : fn.results.toList = rs) (hn : args.length ≤ n)
    (h : ∀ C : Ctx, C.P = P → C.nt = n → C.gw = gw → C.gb = gb → (∀ g, g < C.w0.heap.size → C.K0 g) → vwp C c (retQ P rs r B) (St.enter args)) : VCall P gw gb f args r B :=
  vcall_ofR rs hf hb hname hnt hrs hn fun C h1 h2 h3 h4 h5 _ => h C h1 h2 h3 h4 h5
end
end Go.Vm
end
