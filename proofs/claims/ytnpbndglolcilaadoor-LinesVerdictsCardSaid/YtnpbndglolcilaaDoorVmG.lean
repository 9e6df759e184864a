/-
  Abstract states over the model's worlds, and that a step of them is a step of the program: part G of a framework. Conditions: each theorem's own premises. By an AI agent.
-/
import Derived.Test.YtnpbndglolcilaaDoorVmF
import Derived.Scope
import Derived.Deep.LoopGhost
section
namespace Go.Vm
open Go Go.RowKit
set_option linter.unusedVariables false

abbrev Post := Exit → St → Prop

/-- From every world that σ stands for, the code comes to an exit at a state that fits. -/
def vwp (C : Ctx) (c : Code) (Q : Post) (σ : St) : Prop :=
  ∀ a w, Rel C σ a w → c.wp C.P (fun e a' w' => ∃ σ', Rel C σ' a' w' ∧ Q e σ') a w

/-- Less is known, or told by other names. -/
def Wk (C : Ctx) (σ τ : St) : Prop := ∀ a w, Rel C σ a w → Rel C τ a w

def thenQ (K : St → Prop) (Q : Post) : Post
  | .normal, σ => K σ
  | e, σ => Q e σ

def blockQ (id : Nat) (Q : Post) : Post
  | .exit id', σ => if id' = id then Q .normal σ else Q (.exit id') σ
  | e, σ => Q e σ

section
variable {C : Ctx} {Q Q' : Post} {σ τ : St} {c x y : Code}

theorem Wk.refl : Wk C σ σ := fun _ _ h => h
theorem Wk.trans {ρ : St} (h : Wk C σ τ) (h' : Wk C τ ρ) : Wk C σ ρ := fun a w r => h' a w (h a w r)
theorem Wk.of_le (h : St.le σ τ) : Wk C σ τ := fun _ _ ⟨φ, F0, F1, r⟩ => ⟨φ, F0, F1, r.weaken h⟩

theorem vwp_mono (h : vwp C c Q σ) (hq : ∀ e σ, Q e σ → Q' e σ) : vwp C c Q' σ :=
  fun a w r => wp_mono (h a w r) fun _ _ _ ⟨σ', r', q⟩ => ⟨σ', r', hq _ _ q⟩

theorem vwp_wk (hw : Wk C σ τ) (h : vwp C c Q τ) : vwp C c Q σ := fun a w r => h a w (hw a w r)

theorem vwp_skip (h : Q .normal σ) : vwp C .skip Q σ := fun a w r => wp_skip ⟨σ, r, h⟩
theorem vwp_label {l : Nat} (h : Q .normal σ) : vwp C (.label l) Q σ := fun a w r => wp_label ⟨σ, r, h⟩
theorem vwp_exit {id : Nat} (h : Q (.exit id) σ) : vwp C (.exit id) Q σ := fun a w r => wp_exit ⟨σ, r, h⟩
theorem vwp_goto {l : Nat} (h : Q (.goto l) σ) : vwp C (.goto l) Q σ := fun a w r => wp_goto ⟨σ, r, h⟩
theorem vwp_ret (h : Q .ret σ) : vwp C .ret Q σ := fun a w r => wp_ret ⟨σ, r, h⟩

theorem vwp_seq (h : ∀ K : St → Prop, (∀ σ, vwp C y Q σ → K σ) → vwp C x (thenQ K Q) σ) : vwp C (.seq x y) Q σ := by
  intro a w r
  refine wp_seq (wp_mono (h (vwp C y Q) (fun _ h => h) a w r) ?_)
  rintro e a' w' ⟨σ', r', q⟩
  cases e
  case normal => exact q a' w' r'
  all_goals exact ⟨σ', r', q⟩

theorem vwp_cond {o : Operand} {b : Bool} (ho : (ev σ.fr o).bind asB = some b) (ht : b = true → vwp C x Q σ) (hf : b = false → vwp C y Q σ) : vwp C (.cond o x y) Q σ := by
  intro a w r
  obtain ⟨φ, F0, F1, r'⟩ := r
  obtain ⟨p, hp, hb⟩ := Option.bind_eq_some_iff.1 ho
  exact wp_cond_split (asB_rep (ev_rep r' hp) hb) (fun e => ht e a w ⟨φ, F0, F1, r'⟩) (fun e => hf e a w ⟨φ, F0, F1, r'⟩)

theorem vwp_block {id : Nat} (h : vwp C c (blockQ id Q) σ) : vwp C (.block id c) Q σ := by
  intro a w r
  refine wp_block (wp_mono (h a w r) ?_)
  rintro e a' w' ⟨σ', r', q⟩
  cases e
  case exit i =>
    simp only [Exit.inBlock, blockQ] at q ⊢
    split
    · rename_i hi; rw [if_pos hi] at q; exact ⟨σ', r', q⟩
    · rename_i hi; rw [if_neg hi] at q; exact ⟨σ', r', q⟩
  all_goals exact ⟨σ', r', q⟩

theorem vwp_scope (h : vwp C c (fun e σ => (∀ l, e ≠ .goto l) ∧ Q e σ) σ) : vwp C (.scope c) Q σ := by
  intro a w r
  refine wp_scope_straight (wp_mono (h a w r) ?_)
  rintro e a' w' ⟨σ', r', q⟩
  cases e
  case goto l => exact absurd rfl (q.1 l)
  all_goals exact ⟨σ', r', q.2⟩

/-- A loop: what holds at its head, with a number that every round lowers. -/
theorem vwp_loop (I : Nat → St → Prop) (n : Nat) (h0 : ∃ τ, Wk C σ τ ∧ I n τ)
    (round : ∀ n τ, I n τ → ∀ K : St → Prop, (∀ σ' m τ', m < n → Wk C σ' τ' → I m τ' → K σ') → vwp C c (thenQ K Q) τ) : vwp C (.loop c) Q σ := by
  intro a w r
  obtain ⟨τ, hw, hi⟩ := h0
  refine wp_loop_ghost (fun n a w => ∃ τ, Rel C τ a w ∧ I n τ) n ⟨τ, hw a w r, hi⟩ ?_
  rintro n a w ⟨τ, r, hi⟩
  refine wp_mono (round n τ hi (fun σ' => ∃ m τ', m < n ∧ Wk C σ' τ' ∧ I m τ') (fun σ' m τ' hm hw hi => ⟨m, τ', hm, hw, hi⟩) a w r) ?_
  rintro e a' w' ⟨σ', r', q⟩
  cases e
  case normal =>
    obtain ⟨m, τ', hm, hw, hi⟩ := q
    exact ⟨m, hm, τ', hw a' w' r', hi⟩
  all_goals exact ⟨σ', r', q⟩

theorem opK_mono {ρ : Operand → Option PV} {H : Id → Option Blk} {nx : Nat} {d : Option Nat} {op : Op} {K K' : Upd → Prop} (hk : ∀ U, K U → K' U) (h : opK C nx ρ H d op K) : opK C nx ρ H d op K' := by
  have add : vAddK C.P C.nt nx ρ H d op K → vAddK C.P C.nt nx ρ H d op K' := by
    unfold vAddK addK
    cases vAdd C.P (nx + d.getD 0, 0) ρ H op with
    | none => exact id
    | some q =>
      obtain ⟨p, ob⟩ := q
      cases ob <;> cases d
      · exact hk _
      · exact fun h => ⟨h.1, hk _ h.2⟩
      · exact id
      · exact fun h => ⟨h.1, hk _ h.2⟩
  have mv : ∀ o, mvK C.nt d K o → mvK C.nt d K' o := by
    intro o
    unfold mvK
    cases o with
    | none => exact id
    | some q =>
      cases d
      · exact id
      · exact fun h => ⟨h.1, hk _ h.2⟩
  unfold opK at *
  split at h
  · split at h
    · unfold callK at *
      split at h
      · split at h
        · exact h.elim
        · obtain ⟨h1, ⟨h2, r, B, h3, h4, h5⟩ | ⟨M, bs, args, r, B, e1, e2, e3, e4, e5, e6, e7, h5⟩⟩ := h
          · exact ⟨h1, .inl ⟨h2, r, B, h3, h4, hk _ h5⟩⟩
          · exact ⟨h1, .inr ⟨M, bs, args, r, B, e1, e2, e3, e4, e5, e6, e7, hk _ h5⟩⟩
      · exact h.elim
    · exact mv _ h
    · exact add h
  · cases d with
    | none =>
      simp only at h ⊢
      unfold heapK at *
      split at h
      · exact hk _ h
      · exact h
    | some d => exact h
  · split at h
    · unfold valK at *
      cases d with
      | none => exact h
      | some d => exact ⟨h.1, hk _ h.2⟩
    · exact h
  · split at h
    · split at h
      · unfold valK at *
        cases d with
        | none => exact h
        | some d => exact ⟨h.1, hk _ h.2⟩
      · exact h
    · exact add h
  · split at h
    · unfold valK at *
      cases d with
      | none => exact h
      | some d => exact ⟨h.1, hk _ h.2⟩
    · exact add h
  · split at h
    · split at h
      · unfold valK at *
        cases d with
        | none => exact h
        | some d => exact ⟨h.1, hk _ h.2⟩
      · exact h
    · exact mv _ h
    · exact add h
  · exact add h

theorem seqRun_nil {ops : List Oper} {K : St → Prop} : ∀ (l : List Oper) (σ : St), (l.all fun o => o.guard.isNone) = true → seqRun C [] l σ K → seqRun C ops l σ K := by
  intro l
  induction l with
  | nil => intro σ _ h; exact h
  | cons o l ih =>
    intro σ hl h
    simp only [List.all_cons, Bool.and_eq_true] at hl
    have hg : o.guard = none := by simpa using hl.1
    simp only [seqRun, hg] at h ⊢
    exact opK_mono (fun U hU => ⟨hU.1, ih _ hl.2 hU.2⟩) h

/-- A region without guards. -/
theorem vwp_region {ops : List Oper} {id : Nat} (hg : (ops.all fun o => o.guard.isNone) = true) (h : seqRun C [] ops σ (Q .normal)) : vwp C (.region id ops.toArray false) Q σ :=
  fun a w r => region_seq (Q := Q .normal) (fun σ a w r q => ⟨σ, r, q⟩) r (seqRun_nil _ _ (by simpa using hg) (by simpa using h))

theorem vwp_regionG {ops : List Oper} {id : Nat} (h : seqRun C ops ops σ (Q .normal)) : vwp C (.region id ops.toArray false) Q σ :=
  fun a w r => region_seq (Q := Q .normal) (fun σ a w r q => ⟨σ, r, q⟩) r (by simpa using h)

theorem vwp_seq_region {ops : List Oper} {id : Nat} (hg : (ops.all fun o => o.guard.isNone) = true) (h : ∀ K : St → Prop, (∀ σ, vwp C y Q σ → K σ) → seqRun C [] ops σ K) : vwp C (.seq (.region id ops.toArray false) y) Q σ :=
  vwp_seq fun K hK => vwp_region hg (h K hK)

theorem vwp_seq_regionG {ops : List Oper} {id : Nat} (h : ∀ K : St → Prop, (∀ σ, vwp C y Q σ → K σ) → seqRun C ops ops σ K) : vwp C (.seq (.region id ops.toArray false) y) Q σ :=
  vwp_seq fun K hK => vwp_regionG (h K hK)
end
end Go.Vm
end

section
namespace Go.Vm
open Go Go.RowKit
set_option linter.unusedVariables false

/-! ### Names anew; rows of the call's own that are only read from now on -/
mutual
inductive Conv (H : Id → Option Blk) (Z : Id → Prop) (G : Id → Id → Prop) : PC → PC → Prop
  | free {p} : p.free = true → Conv H Z G p p
  | nil {t} : Conv H Z G (.c (.slice none 0 0)) (.sl t 0 [])
  | own {i j} : G i j → Conv H Z G (.own i) (.own j)
  | loc {i j off} : G i j → Conv H Z G (.loc i off) (.loc j off)
  | frz {i e z n cs cs'} : Z i → H i = some (.arr e z n cs) → ConvL H Z G cs cs' → Conv H Z G (.own i) (.sl true n cs')
  | frzloc {i off b ys} : Z i → H i = some b → ConvL H Z G (b.cells.drop off) ys → Conv H Z G (.loc i off) (.at true ys)
  | sl {t t' n xs xs'} : (t' = true → t = true) → ConvL H Z G xs xs' → Conv H Z G (.sl t n xs) (.sl t' n xs')
  | at {t t' xs xs'} : (t' = true → t = true) → ConvL H Z G xs xs' → Conv H Z G (.at t xs) (.at t' xs')
  | fn {f cs cs'} : ConvL H Z G cs cs' → Conv H Z G (.fn f cs) (.fn f cs')
inductive ConvL (H : Id → Option Blk) (Z : Id → Prop) (G : Id → Id → Prop) : List PC → List PC → Prop
  | nil : ConvL H Z G [] []
  | cons {p p' ps ps'} : Conv H Z G p p' → ConvL H Z G ps ps' → ConvL H Z G (p :: ps) (p' :: ps')
end

mutual
inductive ConvV (H : Id → Option Blk) (Z : Id → Prop) (G : Id → Id → Prop) : PV → PV → Prop
  | one {p p'} : Conv H Z G p p' → ConvV H Z G (.one p) (.one p')
  | agg {ps ps'} : ConvL H Z G ps ps' → ConvV H Z G (.agg ps) (.agg ps')
  | tup {ps ps'} : ConvVs H Z G ps ps' → ConvV H Z G (.tup ps) (.tup ps')
inductive ConvVs (H : Id → Option Blk) (Z : Id → Prop) (G : Id → Id → Prop) : List PV → List PV → Prop
  | nil : ConvVs H Z G [] []
  | cons {p p' ps ps'} : ConvV H Z G p p' → ConvVs H Z G ps ps' → ConvVs H Z G (p :: ps) (p' :: ps')
end

inductive ConvB (H : Id → Option Blk) (Z : Id → Prop) (G : Id → Id → Prop) : Blk → Blk → Prop
  | box {ty cs cs'} : ConvL H Z G cs cs' → ConvB H Z G (.box ty cs) (.box ty cs')
  | arr {ty z n cs cs'} : ConvL H Z G cs cs' → ConvB H Z G (.arr ty z n cs) (.arr ty z n cs')

section
variable {H : Id → Option Blk} {Z : Id → Prop} {G : Id → Id → Prop} {φ φ' : Id → Option Value} {w : World} {F F' : Bool → Nat → Prop}

theorem ConvL.free : ∀ {ps : List PC}, PC.frees ps = true → ConvL H Z G ps ps
  | [], _ => .nil
  | p :: ps, h => by
    simp only [PC.frees, Bool.and_eq_true] at h
    exact .cons (.free h.1) (ConvL.free h.2)

theorem ConvL.append : ∀ {ps ps' qs qs' : List PC}, ConvL H Z G ps ps' → ConvL H Z G qs qs' → ConvL H Z G (ps ++ qs) (ps' ++ qs')
  | [], _, _, _, h, h' => by cases h; exact h'
  | p :: ps, _, _, _, h, h' => by
    cases h with
    | cons h1 h2 => exact .cons h1 (ConvL.append h2 h')

theorem ConvV.free {p : PV} (h : p.free = true) (hn : ∀ vs, p ≠ .tup vs) : ConvV H Z G p p := by
  cases p with
  | one p => exact .one (.free h)
  | agg ps => exact .agg (.free h)
  | tup vs => exact absurd rfl (hn vs)
  | may b p => simp [PV.free] at h

theorem tag_le (hS : ∀ g, F' true g → F' false g) {t t' : Bool} (h : t' = true → t = true) (g : Nat) (hg : F' t g) : F' t' g := by
  cases t <;> cases t'
  · exact hg
  · cases h rfl
  · exact hS g hg
  · exact hg

mutual
theorem conv_rep (hF : ∀ t g, F t g → F' t g) (hG : ∀ i j u, G i j → φ i = some u → φ' j = some u) (hH : ∀ i b, H i = some b → holds φ w F i b)
  (hZ : ∀ i b u g, Z i → H i = some b → φ i = some u → blkOf u = some g → F' true g) (hS : ∀ g, F' true g → F' false g) : ∀ {p p' : PC}, Conv H Z G p p' → ∀ {x : Value}, rep φ w F p x → rep φ' w F' p' x
  | _, _, .free hp, x, hr => free_rep hF _ _ hp hr
  | _, _, .nil, x, hr => by
    simp only [rep] at hr ⊢
    obtain ⟨rfl, _⟩ := hr
    exact ⟨none, 0, rfl, Nat.le_refl _, .inl (by simp)⟩
  | _, _, .own hg, x, hr => by
    simp only [rep] at hr ⊢
    exact ⟨hG _ _ _ hg hr.1, hr.2⟩
  | _, _, .loc hg, x, hr => by
    simp only [rep] at hr ⊢
    obtain ⟨u, g, hu, hb, hx⟩ := hr
    exact ⟨u, g, hG _ _ _ hg hu, hb, hx⟩
  | _, _, .frz (i := i) (e := e) (z := z) (n := n) (cs := cs) (cs' := cs') hz hb hc, x, hr => by
    simp only [rep] at hr ⊢
    obtain ⟨hφ, _⟩ := hr
    have hh := hH i _ hb
    have hh' := hh
    obtain ⟨v, vs, hv, ⟨hl, ho⟩, hrs⟩ := hh
    rw [hφ] at hv
    cases hv
    rcases ho with ⟨rfl, rfl⟩ | ⟨g, cap, cur, rfl, _, hcur, hn, _⟩
    · refine ⟨none, 0, rfl, Nat.le_refl _, .inl ⟨rfl, ?_⟩⟩
      have : cs = [] := List.length_eq_zero_iff.1 (by rw [← reps_length _ _ hrs, hl]; simp)
      subst this
      cases hc
      rfl
    · exact ⟨_, cap, rfl, hn, .inr ⟨_, rfl, hZ i _ _ _ hz hb hφ rfl, convAt_rep hF hG hH hZ hS hc (holds_repAt hh' hφ rfl)⟩⟩
  | _, _, .frzloc (i := i) (off := off) (b := b) hz hb hc, x, hr => by
    simp only [rep] at hr ⊢
    obtain ⟨u, g, hu, hg, rfl⟩ := hr
    have := repAt_drop (holds_repAt (hH i _ hb) hu hg) off
    rw [Addr.add_lit, Nat.zero_add] at this
    exact ⟨_, rfl, hZ i _ _ _ hz hb hu hg, convAt_rep hF hG hH hZ hS hc this⟩
  | _, _, .sl (t := t) (t' := t') ht hc, x, hr => by
    simp only [rep] at hr ⊢
    obtain ⟨A, cap, hx, hn, h⟩ := hr
    refine ⟨A, cap, hx, hn, ?_⟩
    rcases h with ⟨h1, h2⟩ | ⟨ad, ha, hf, h⟩
    · subst h2
      cases hc
      exact .inl ⟨h1, rfl⟩
    · exact .inr ⟨ad, ha, tag_le hS ht _ (hF _ _ hf), convAt_rep hF hG hH hZ hS hc h⟩
  | _, _, .at ht hc, x, hr => by
    simp only [rep] at hr ⊢
    obtain ⟨ad, hx, hf, h⟩ := hr
    exact ⟨ad, hx, tag_le hS ht _ (hF _ _ hf), convAt_rep hF hG hH hZ hS hc h⟩
  | _, _, .fn hc, x, hr => by
    simp only [rep] at hr ⊢
    obtain ⟨vs, hx, h⟩ := hr
    exact ⟨vs, hx, convL_rep hF hG hH hZ hS hc h⟩
theorem convAt_rep (hF : ∀ t g, F t g → F' t g) (hG : ∀ i j u, G i j → φ i = some u → φ' j = some u) (hH : ∀ i b, H i = some b → holds φ w F i b)
  (hZ : ∀ i b u g, Z i → H i = some b → φ i = some u → blkOf u = some g → F' true g) (hS : ∀ g, F' true g → F' false g) : ∀ {ps ps' : List PC}, ConvL H Z G ps ps' → ∀ {ad : Addr}, repAt φ w F ad ps → repAt φ' w F' ad ps'
  | _, _, .nil, ad, hr => by simp only [repAt]
  | _, _, .cons h1 h2, ad, hr => by
    simp only [repAt] at hr ⊢
    obtain ⟨⟨v, hv, hr1⟩, hr2⟩ := hr
    exact ⟨⟨v, hv, conv_rep hF hG hH hZ hS h1 hr1⟩, convAt_rep hF hG hH hZ hS h2 hr2⟩
theorem convL_rep (hF : ∀ t g, F t g → F' t g) (hG : ∀ i j u, G i j → φ i = some u → φ' j = some u) (hH : ∀ i b, H i = some b → holds φ w F i b)
  (hZ : ∀ i b u g, Z i → H i = some b → φ i = some u → blkOf u = some g → F' true g) (hS : ∀ g, F' true g → F' false g) : ∀ {ps ps' : List PC}, ConvL H Z G ps ps' → ∀ {vs : List Value}, reps φ w F ps vs → reps φ' w F' ps' vs
  | _, _, .nil, vs, hr => by simpa only [reps] using hr
  | _, _, .cons h1 h2, vs, hr => by
    simp only [reps] at hr ⊢
    obtain ⟨v, vs', hx, hr1, hr2⟩ := hr
    exact ⟨v, vs', hx, conv_rep hF hG hH hZ hS h1 hr1, convL_rep hF hG hH hZ hS h2 hr2⟩
end

mutual
theorem convV_rep (hF : ∀ t g, F t g → F' t g) (hG : ∀ i j u, G i j → φ i = some u → φ' j = some u) (hH : ∀ i b, H i = some b → holds φ w F i b)
  (hZ : ∀ i b u g, Z i → H i = some b → φ i = some u → blkOf u = some g → F' true g) (hS : ∀ g, F' true g → F' false g) : ∀ {p p' : PV}, ConvV H Z G p p' → ∀ {x : Value}, repV φ w F p x → repV φ' w F' p' x
  | _, _, .one h, x, hr => by
    simp only [repV] at hr ⊢
    exact conv_rep hF hG hH hZ hS h hr
  | _, _, .agg h, x, hr => by
    simp only [repV] at hr ⊢
    obtain ⟨vs, hx, hr⟩ := hr
    exact ⟨vs, hx, convL_rep hF hG hH hZ hS h hr⟩
  | _, _, .tup h, x, hr => by
    simp only [repV] at hr ⊢
    obtain ⟨vs, hx, hr⟩ := hr
    exact ⟨vs, hx, convVs_rep hF hG hH hZ hS h hr⟩
theorem convVs_rep (hF : ∀ t g, F t g → F' t g) (hG : ∀ i j u, G i j → φ i = some u → φ' j = some u) (hH : ∀ i b, H i = some b → holds φ w F i b)
  (hZ : ∀ i b u g, Z i → H i = some b → φ i = some u → blkOf u = some g → F' true g) (hS : ∀ g, F' true g → F' false g) : ∀ {ps ps' : List PV}, ConvVs H Z G ps ps' → ∀ {xs : List Value}, repVs φ w F ps xs → repVs φ' w F' ps' xs
  | _, _, .nil, xs, hr => by simpa only [repVs] using hr
  | _, _, .cons h1 h2, xs, hr => by
    simp only [repVs] at hr ⊢
    obtain ⟨v, vs', hx, hr1, hr2⟩ := hr
    exact ⟨v, vs', hx, convV_rep hF hG hH hZ hS h1 hr1, convVs_rep hF hG hH hZ hS h2 hr2⟩
end
end

section
variable {C : Ctx} {φ : Id → Option Value} {F0 F1 : Nat → Prop} {σ τ : St} {a : Act} {w : World}

/-- The blocks that are only read from now on. -/
def Frozen (φ : Id → Option Value) (σ : St) (Z : Id → Prop) (g : Nat) : Prop := ∃ i u, Z i ∧ σ.H i ≠ none ∧ φ i = some u ∧ blkOf u = some g

theorem exists_names (G : Id → Id → Prop) (hG : ∀ i i' j, G i j → G i' j → i = i') (φ : Id → Option Value) : ∃ φ' : Id → Option Value, ∀ j u, φ' j = some u ↔ ∃ i, G i j ∧ φ i = some u := by
  refine ⟨fun j => open Classical in if h : ∃ i, G i j then φ h.choose else none, fun j u => ?_⟩
  by_cases h : ∃ i, G i j
  · simp only [dif_pos h]
    constructor
    · intro hu; exact ⟨_, h.choose_spec, hu⟩
    · rintro ⟨i, hi, hu⟩
      rw [hG _ _ _ h.choose_spec hi]
      exact hu
  · simp only [dif_neg h]
    constructor
    · intro hu; cases hu
    · rintro ⟨i, hi, _⟩; exact absurd ⟨i, hi⟩ h

theorem RelX.conv (h : RelX C φ F0 F1 σ a w) (Z : Id → Prop) (G : Id → Id → Prop)
    (hG1 : ∀ i i' j, G i j → G i' j → i = i') (hG2 : ∀ i j j', G i j → G i j' → j = j')
    (hfr : ∀ t p', τ.fr t = some p' → ∃ p, σ.fr t = some p ∧ ConvV σ.H Z G p p')
    (hH : ∀ j b', τ.H j = some b' → ∃ i b, G i j ∧ ¬ Z i ∧ σ.H i = some b ∧ ConvB σ.H Z G b b')
    (hid : ∀ i j, G i j → j.1 < τ.nx ∨ ∃ d, τ.us d = true ∧ j.1 = τ.nx + d) (hnx : 1 ≤ τ.nx) (χ : Id → Option Value) (hk0 : ∀ i j u, G i j → j.1 = 0 → φ i = some u → χ j = some u) :
    ∃ φ' F0' F1', RelX { C with φi := χ } φ' F0' F1' τ a w ∧ (∀ p p' x, ConvV σ.H Z G p p' → repV φ w (Fs F0 F1) p x → repV φ' w (Fs F0' F1') p' x) ∧ ∀ j u, φ' j = some u ↔ ∃ i, G i j ∧ φ i = some u := by
  obtain ⟨φ', hφ'⟩ := exists_names G hG1 φ
  have hF : ∀ t g, Fs F0 F1 t g → Fs (fun g => F0 g ∨ Frozen φ σ Z g) (fun g => F1 g ∨ Frozen φ σ Z g) t g := by
    intro t g hg; cases t <;> exact .inl hg
  have hG : ∀ i j u, G i j → φ i = some u → φ' j = some u := fun i j u hg hu => (hφ' j u).2 ⟨i, hg, hu⟩
  have hZ : ∀ i b u g, Z i → σ.H i = some b → φ i = some u → blkOf u = some g → Fs (fun g => F0 g ∨ Frozen φ σ Z g) (fun g => F1 g ∨ Frozen φ σ Z g) true g :=
    fun i b u g hz hb hu hg => .inr ⟨i, u, hz, by rw [hb]; simp, hu, hg⟩
  have hS : ∀ g, Fs (fun g => F0 g ∨ Frozen φ σ Z g) (fun g => F1 g ∨ Frozen φ σ Z g) true g → Fs (fun g => F0 g ∨ Frozen φ σ Z g) (fun g => F1 g ∨ Frozen φ σ Z g) false g := by
    rintro g (h0 | h0)
    · exact .inl (h.sub g h0)
    · exact .inr h0
  have hV : ∀ p p' x, ConvV σ.H Z G p p' → repV φ w (Fs F0 F1) p x → repV φ' w (Fs (fun g => F0 g ∨ Frozen φ σ Z g) (fun g => F1 g ∨ Frozen φ σ Z g)) p' x :=
    fun p p' x hc hr => convV_rep hF hG h.heap hZ hS hc hr
  have hnew : ∀ g, Frozen φ σ Z g → ¬ C.K0 g ∧ g < w.heap.size := by
    rintro g ⟨i, u, hz, hn, hu, hg⟩
    obtain ⟨b, hb⟩ := Option.ne_none_iff_exists'.1 hn
    obtain ⟨_, hk, _⟩ := h.apart i u g hn hu hg
    exact ⟨hk, holds_lt (h.heap i b hb) hu hg⟩
  refine ⟨φ', _, _, ⟨h.size, h.defs, fun t p' hp => ?_, fun j b' hj => ?_, fun j k u v g hj hk hu hv hg hg' => ?_, fun j u g hj hu hg => ?_, ?_, ?_, ?_, ?_, h.os, h.tape, h.output, h.big, h.kept, h.k0lt, h.gbig, h.glob, fun q x hq => ?_, hnx, fun j hj => ?_⟩, hV, hφ'⟩
  · obtain ⟨p, hp0, hc⟩ := hfr t p' hp
    obtain ⟨x, hx, hr⟩ := h.frame t p hp0
    exact ⟨x, hx, hV _ _ _ hc hr⟩
  · obtain ⟨i, b, hg, _, hb, hc⟩ := hH j b' hj
    have hh := h.heap i b hb
    cases hc with
    | box hc =>
      obtain ⟨g, vs, hp, hheap, hr⟩ := hh
      exact ⟨g, vs, hG _ _ _ hg hp, hheap, convL_rep hF hG h.heap hZ hS hc hr⟩
    | arr hc =>
      obtain ⟨v, vs, hp, ho, hr⟩ := hh
      exact ⟨v, vs, hG _ _ _ hg hp, ho, convL_rep hF hG h.heap hZ hS hc hr⟩
  · obtain ⟨b1, hb1⟩ := Option.ne_none_iff_exists'.1 hj
    obtain ⟨b2, hb2⟩ := Option.ne_none_iff_exists'.1 hk
    obtain ⟨i1, c1, hg1, _, hc1, _⟩ := hH j b1 hb1
    obtain ⟨i2, c2, hg2, _, hc2, _⟩ := hH k b2 hb2
    obtain ⟨i1', hg1', hu'⟩ := (hφ' j u).1 hu
    obtain ⟨i2', hg2', hv'⟩ := (hφ' k v).1 hv
    have e1 := hG1 _ _ _ hg1 hg1'
    have e2 := hG1 _ _ _ hg2 hg2'
    subst e1 e2
    have := h.inj i1 i2 u v g (by rw [hc1]; simp) (by rw [hc2]; simp) hu' hv' hg hg'
    subst this
    exact hG2 _ _ _ hg1 hg2
  · obtain ⟨b1, hb1⟩ := Option.ne_none_iff_exists'.1 hj
    obtain ⟨i1, c1, hg1, hnz, hc1, _⟩ := hH j b1 hb1
    obtain ⟨i1', hg1', hu'⟩ := (hφ' j u).1 hu
    have e1 := hG1 _ _ _ hg1 hg1'
    subst e1
    obtain ⟨h1, h2, h3⟩ := h.apart i1 u g (by rw [hc1]; simp) hu' hg
    refine ⟨?_, h2, h3⟩
    rintro (h0 | ⟨i2, u2, hz, hn, hu2, hg2⟩)
    · exact h1 h0
    · have := h.inj i2 i1 u2 u g hn (by rw [hc1]; simp) hu2 hu' hg2 hg
      subst this
      exact hnz hz
  · rintro g (h0 | h0)
    · exact .inl (h.sub g h0)
    · exact .inr h0
  · rintro g (h0 | h0)
    · exact (h.ini g h0).imp id .inl
    · exact .inr (.inr h0)
  · rintro g (h0 | h0)
    · exact h.new1 g h0
    · exact (hnew g h0).1
  · rintro g (h0 | h0)
    · exact h.lt0 g h0
    · exact (hnew g h0).2
  · obtain ⟨i, hg, hu⟩ := (hφ' _ x).1 hq
    exact hk0 i _ x hg rfl hu
  · obtain ⟨u, hu⟩ := Option.ne_none_iff_exists'.1 hj
    obtain ⟨i, hg, _⟩ := (hφ' j u).1 hu
    exact hid i j hg
end
end Go.Vm
end

section
namespace Go.Vm
open Go Go.RowKit
set_option linter.unusedVariables false

def St.enter (args : List PV) : St := ⟨fun t => args[t]?, fun _ => none, fun _ => false, 1⟩

def pack : List PV → PV
  | [v] => v
  | vs => .tup vs

def resOf (P : Program) (σ : St) : List ResultVar → Option (List PV)
  | [] => some []
  | .tmp t :: rs =>
    match σ.fr t, resOf P σ rs with
    | some p, some ps => some (p :: ps)
    | _, _ => none
  | .cell t ty :: rs =>
    match ((σ.fr t).bind (behind σ.H)).bind (takeT P ty), resOf P σ rs with
    | some p, some ps => some (p :: ps)
    | _, _ => none

/-- What a body leaves is what its contract says: own blocks under the contract's names, the rest of them only read from now on. -/
def RetOk (P : Program) (rs : List ResultVar) (r : PV) (B : List Blk) (σ : St) : Prop :=
  ∃ (vs : List PV) (Z : Id → Prop) (G : Id → Id → Prop), resOf P σ rs = some vs ∧ (∀ i i' j, G i j → G i' j → i = i') ∧ (∀ i j j', G i j → G i j' → j = j') ∧ (∀ i j, G i j → j.1 = 0 ∧ j.2 < B.length) ∧
    ConvV σ.H Z G (pack vs) r ∧ ∀ j b', B[j]? = some b' → ∃ i b, G i (0, j) ∧ ¬ Z i ∧ σ.H i = some b ∧ ConvB σ.H Z G b b'

def retQ (P : Program) (rs : List ResultVar) (r : PV) (B : List Blk) : Post
  | .normal, σ => RetOk P rs r B σ
  | .ret, σ => RetOk P rs r B σ
  | _, _ => False

section
variable {C : Ctx} {φ φ' : Id → Option Value} {F : Bool → Nat → Prop} {F0 F1 : Nat → Prop} {σ τ : St} {a : Act} {w : World} {P : Program}

theorem repVs_len : ∀ (ps : List PV) (vs : List Value), repVs φ w F ps vs → vs.length = ps.length
  | [], vs, h => by simp only [repVs] at h; subst h; rfl
  | p :: ps, vs, h => by
    simp only [repVs] at h
    obtain ⟨v, vs', rfl, hr, h⟩ := h
    simp [repVs_len ps vs' h]

theorem results_run (h : RelX C φ F0 F1 σ a w) : ∀ (rs : List ResultVar) (vs : List PV), resOf C.P σ rs = some vs → ∃ xs : List Value,
    (rs.mapM (fun | .tmp t => pure (a.tmps.getD t undef) | .cell t ty => do loadVar ty (← asAddr (a.tmps.getD t undef)) : ResultVar → Sem Value)).run C.P w = .ok xs w ∧ repVs φ w (Fs F0 F1) vs xs
  | [], vs, hv => by
    simp only [resOf] at hv
    cases hv
    exact ⟨[], by simp, by simp [repVs]⟩
  | .tmp t :: rs, vs, hv => by
    simp only [resOf] at hv
    split at hv
    · rename_i p ps hp hps
      cases hv
      obtain ⟨xs, hx, hr⟩ := results_run h rs ps hps
      obtain ⟨x, hx0, hr0⟩ := h.frame t p hp
      refine ⟨x :: xs, ?_, by simp only [repVs]; exact ⟨x, xs, rfl, hr0, hr⟩⟩
      have : a.tmps.getD t undef = x := by simp [Array.getD_eq_getD_getElem?, hx0]
      simp only [List.mapM_cons, Sem.run_bind, Sem.run_pure, Result.andThen_ok, this, hx]
    · cases hv
  | .cell t ty :: rs, vs, hv => by
    simp only [resOf] at hv
    split at hv
    · rename_i p ps hp hps
      cases hv
      obtain ⟨xs, hx, hr⟩ := results_run h rs ps hps
      obtain ⟨ys, hy, hp⟩ := Option.bind_eq_some_iff.1 hp
      obtain ⟨q, hq, hy⟩ := Option.bind_eq_some_iff.1 hy
      obtain ⟨x, hx0, hr0⟩ := h.frame t q hq
      obtain ⟨ad, rfl, hat⟩ := behind_rep h (fun e => e) hr0 hy
      obtain ⟨v, hl, hr1⟩ := run_takeT (P := C.P) hat hp
      refine ⟨v :: xs, ?_, by simp only [repVs]; exact ⟨v, xs, rfl, hr1, hr⟩⟩
      have : asAddr (a.tmps.getD t undef) = pure ad := by simp [Array.getD_eq_getD_getElem?, hx0, asAddr]
      simp only [List.mapM_cons, Sem.run_bind, Sem.run_pure, Result.andThen_ok, this, hl, hx]
    · cases hv

theorem pack_rep : ∀ {vs : List PV} {xs : List Value}, repVs φ w F vs xs → repV φ w F (pack vs) (if h : xs.toArray.size = 1 then xs.toArray[0] else .tuple xs.toArray)
  | [], xs, h => by
    simp only [repVs] at h
    subst h
    simp [pack, repV, repVs]
  | [v], xs, h => by
    simp only [repVs] at h
    obtain ⟨x, xs', rfl, hr, rfl⟩ := h
    simpa [pack] using hr
  | v :: v' :: vs, xs, h => by
    have hl := repVs_len _ _ h
    rw [dif_neg (by simp [hl])]
    simp only [pack, repV]
    exact ⟨xs.toArray, rfl, by simpa using h⟩

/-- A CONTRACT, OUT OF THE BODY. -/
theorem vcall_of {gw : World} {gb : Nat} {f : FuncId} {fn : Func} {c : Code} {args : List PV} {r : PV} {B : List Blk} {n : Nat} (rs : List ResultVar) (hf : P.funcs[f]? = some fn) (hb : fn.body = some c) (hname : (fn.name == "runtime.NumGoroutine") = false) (hnt : fn.ntmps = n)
    (hrs : fn.results.toList = rs) (hn : args.length ≤ n)
    (h : ∀ C : Ctx, C.P = P → C.nt = n → C.gw = gw → C.gb = gb → (∀ g, g < C.w0.heap.size → C.K0 g) → vwp C c (retQ P rs r B) (St.enter args)) : VCall P gw gb f args r B := by
  subst hnt hrs
  refine ⟨⟨fn, hf, hname, by simp [hb]⟩, fun w xs F hgb hgl hlt hr => ?_⟩
  have hinit : RelX ⟨P, fn.ntmps, w, fun g => g < w.heap.size, gw, gb, F, fun _ => none⟩ (fun _ => none) F (fun _ => False) (St.enter args) { tmps := xs ++ Array.replicate (fn.ntmps - xs.size) undef, defers := [] } w := by
    have hl := repVs_len _ _ hr
    have hg := repVs_get _ _ hr
    have hs : xs.size = args.length := by simpa using hl
    refine ⟨?_, rfl, fun t p hp => ?_, fun i b hi => (by cases hi), fun i j u v g hi => (absurd rfl hi), fun i u g hi => (absurd rfl hi), fun g hg => hg.elim, fun g hg => .inl hg, fun g hg => hg.elim, hlt, rfl, rfl, rfl, Nat.le_refl _, fun _ _ => rfl, fun _ h => h, hgb, hgl, fun j u hu => (by cases hu), Nat.le_refl _, fun i hi => absurd rfl hi⟩
    · simp only [Array.size_append, Array.size_replicate]; omega
    · obtain ⟨v, hv, hr'⟩ := hg t p hp
      refine ⟨v, ?_, hr'⟩
      have hv' : xs[t]? = some v := by simpa using hv
      rw [Array.getElem?_append_left (Array.getElem?_eq_some_iff.1 hv').1]
      exact hv'
  refine calls_of_wp hf hb (wp_mono (h ⟨P, fn.ntmps, w, fun g => g < w.heap.size, gw, gb, F, fun _ => none⟩ rfl rfl rfl rfl (fun _ h => h) _ _ ⟨_, _, _, hinit⟩) ?_)
  rintro e a' w' ⟨σ', ⟨φ, F0, F1, hR⟩, hq⟩
  have main : RetOk P fn.results.toList r B σ' → a'.defers = [] ∧ ∃ v, (results fn a'.tmps).run P w' = .ok v w' ∧ ∃ (x : Value) (ψ : Id → Option Value) (X : Nat → Prop), Ending.returned v = .returned x ∧ Below w.heap.size w w' ∧ (∀ g, X g → w.heap.size ≤ g ∧ g < w'.heap.size) ∧
      repV ψ w' (Fs (fun g => F g ∨ X g) X) r x ∧ (∀ j b, B[j]? = some b → holds ψ w' (Fs (fun g => F g ∨ X g) X) (0, j) b) ∧ (∀ i, ψ i ≠ none → i.1 = 0) ∧
      (∀ j u g, ψ (0, j) = some u → blkOf u = some g → w.heap.size ≤ g ∧ ¬ X g) ∧
      (∀ j k u v g, ψ (0, j) = some u → ψ (0, k) = some v → blkOf u = some g → blkOf v = some g → j = k) := by
    rintro ⟨vs, Z, G, hvs, hG1, hG2, hG0, hcv, hB⟩
    obtain ⟨xs', hrun, hreps⟩ := results_run hR _ vs hvs
    have hx := pack_rep hreps
    obtain ⟨χ, hχ⟩ := exists_names G hG1 φ
    obtain ⟨φ', F0', F1', hT, hV, hφ'⟩ := hR.conv (τ := ⟨fun _ => none, fun j => if j.1 = 0 then B[j.2]? else none, fun _ => false, 1⟩) Z G hG1 hG2 (fun t p' hp => by cases hp)
      (fun j b' hj => by
        simp only at hj
        split at hj
        · rename_i h0
          obtain ⟨j1, j2⟩ := j
          simp only at h0
          subst h0
          exact hB j2 b' hj
        · cases hj)
      (fun i j hg => .inl (by have := (hG0 i j hg).1; simp only; omega)) (Nat.le_refl _) χ (fun i j u hg _ hu => (hχ j u).2 ⟨i, hg, hu⟩)
    have hF : ∀ t g, Fs F0' F1' t g → Fs (fun g => F g ∨ F1' g) F1' t g := by
      intro t g hg
      cases t
      · exact hT.ini g hg
      · exact hg
    have hH : ∀ j, φ' (0, j) ≠ none → ∃ b, B[j]? = some b := by
      intro j hj
      obtain ⟨u, hu⟩ := Option.ne_none_iff_exists'.1 hj
      obtain ⟨i, hg, _⟩ := (hφ' _ u).1 hu
      exact ⟨_, List.getElem?_eq_getElem (hG0 i _ hg).2⟩
    refine ⟨hR.defs, _, ?_, _, φ', F1', rfl, ⟨hR.os, hR.tape, hR.output, hR.big, fun g hg => hR.kept g hg⟩, fun g hg => ⟨Nat.le_of_not_lt (hT.new1 g hg), hT.lt0 g (hT.sub g hg)⟩,
      repV_mono (fun _ _ e => e) (fun _ _ _ => rfl) hF _ _ (hV _ _ _ hcv hx), fun j b hj => ?_, fun i hi => ?_, fun j u g hu hg => ?_, fun j k u v g hu hv hg hg' => ?_⟩
    · unfold results
      simp only [Array.mapM_eq_mapM_toList]
      simp only [map_eq_pure_bind, Sem.run_bind, Sem.run_pure]
      have key : ∀ m : Sem (List Value), m.run P w' = .ok xs' w' → ((m.run P w').andThen fun a w' => Result.ok a.toArray w').andThen (fun a w' => Result.ok (if h : a.size = 1 then a[0] else Value.tuple a) w') =
          Result.ok (if h : xs'.toArray.size = 1 then xs'.toArray[0] else Value.tuple xs'.toArray) w' := by
        intro m hm; rw [hm]; rfl
      exact key _ hrun
    · exact holds_mono (hT.heap (0, j) b (by simpa using hj)) (fun _ _ e => e) hF (fun _ _ _ => rfl) (fun _ _ _ _ => rfl)
    · obtain ⟨u, hu⟩ := Option.ne_none_iff_exists'.1 hi
      obtain ⟨i', hg, _⟩ := (hφ' _ u).1 hu
      exact (hG0 i' _ hg).1
    · obtain ⟨b, hb'⟩ := hH j (by rw [hu]; simp)
      obtain ⟨h1, h2, _⟩ := hT.apart (0, j) u g (by simp [hb']) hu hg
      exact ⟨Nat.le_of_not_lt h2, fun hx => h1 (hT.sub g hx)⟩
    · obtain ⟨b, hb'⟩ := hH j (by rw [hu]; simp)
      obtain ⟨b2, hb2'⟩ := hH k (by rw [hv]; simp)
      have := hT.inj (0, j) (0, k) u v g (by simp [hb']) (by simp [hb2']) hu hv hg hg'
      simpa using this
  cases e
  case normal => exact main hq
  case ret => exact main hq
  all_goals exact hq.elim
end
end Go.Vm
end
