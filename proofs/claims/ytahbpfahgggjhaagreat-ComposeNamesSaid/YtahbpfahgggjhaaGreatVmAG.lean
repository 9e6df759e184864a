/-
  Abstract states over the model's worlds, and that a step of them is a step of the program: part VmAG of a framework. Conditions: each theorem's own premises. By an AI agent.
-/
import Derived.Test.YtahbpfahgggjhaaGreatVmAF
import Derived.ScopeJumps
import Derived.RangeFuncLeaves
import Derived.RangeFuncRecord
section
namespace Go.Vm
open Go Go.RowKit
set_option linter.unusedVariables false

/-! ### Scopes with one label -/
section
variable {F : Fence} {n : Nat} {P : Program} {Q : Exit → Act → World → Prop} {a : Act} {w : World} {b : Frame} {k : List Item} {cs : List Frame}
theorem stepR_scope {c : Code} : step P (lone (b.atR a (.code (.scope c) :: k)) cs w) = .next (lone (b.atR a (.code c :: .inScope c :: k)) cs w) :=
  step_lone_go (by simp [stepG, stepG.exec, Frame.atR])
theorem stepR_inScope {c : Code} : step P (lone (b.atR a (.inScope c :: k)) cs w) = .next (lone (b.atR a k) cs w) :=
  step_lone_go (by simp [stepG, stepG.exec, Frame.atR])

theorem wpIn_scope_jumps {c rest : Code} (l : Nat) (J : Act → World → Prop) (μ : Act → World → Nat) (hf : (∃ a w, J a w) → findLabel c l = some rest)
    (first : c.wpIn F n P (Exit.jump l J Q) a w)
    (pass : ∀ a w, J a w → rest.wpIn F n P (Exit.jump l (fun a' w' => J a' w' ∧ μ a' w' < μ a w) Q) a w) : (Code.scope c).wpIn F n P Q a w := by
  intro b k cs hro hb hr
  have hg : ∀ a w, J a w → gotoIn l (.inScope c :: k) = some (.code rest :: .inScope c :: k) := fun a w hJ => by simp [gotoIn, hf ⟨a, w, hJ⟩]
  have out : ∀ (m : Machine) (e : Exit) (a₁ : Act) (w₁ : World), (∀ l, e ≠ .goto l) → ArrivesIn (Machine.fenced P F) P m b (.inScope c :: k) cs e a₁ w₁ → ArrivesIn (Machine.fenced P F) P m b k cs e a₁ w₁ := by
    intro m e a₁ w₁ hne harr
    cases e with
    | normal => exact StepsIn.trans harr (.one (fenced_calm hb hr rfl) stepR_inScope)
    | exit id => exact ⟨fun k' hk => harr.1 k' (by simp [exitTo, hk]), fun hr' hk => harr.2 hr' (by simp [exitTo, hk])⟩
    | goto l => exact absurd rfl (hne l)
    | ret => exact harr
    | panic ch => exact harr
    | outgrown => exact harr
  have key : ∀ j a w, μ a w = j → J a w → ∃ e a' w', Q e a' w' ∧ ArrivesIn (Machine.fenced P F) P (lone (b.atR a (.code rest :: .inScope c :: k)) cs w) b k cs e a' w' := by
    intro j
    induction j using Nat.strongRecOn with
    | _ j ih =>
      intro a w hn hJ
      obtain ⟨e, a₁, w₁, hq, harr⟩ := pass a w hJ b (.inScope c :: k) cs hro hb hr
      cases e with
      | goto l' =>
        obtain ⟨rfl, hJ', hlt⟩ := hq
        obtain ⟨e₂, a₂, w₂, hq₂, harr₂⟩ := ih _ (by omega) a₁ w₁ rfl hJ'
        exact ⟨e₂, a₂, w₂, hq₂, .of_steps (harr.1 _ (hg _ _ hJ')) harr₂⟩
      | normal => exact ⟨_, a₁, w₁, hq, out _ _ _ _ (by simp) harr⟩
      | exit id => exact ⟨_, a₁, w₁, hq, out _ _ _ _ (by simp) harr⟩
      | ret => exact ⟨_, a₁, w₁, hq, out _ _ _ _ (by simp) harr⟩
      | panic ch => exact ⟨_, a₁, w₁, hq, out _ _ _ _ (by simp) harr⟩
      | outgrown => exact ⟨_, a₁, w₁, hq, out _ _ _ _ (by simp) harr⟩
  have h0 : (lone (b.atR a (.code (.scope c) :: k)) cs w).fenced P F := fenced_calm hb hr rfl
  obtain ⟨e, a₁, w₁, hq, harr⟩ := first b (.inScope c :: k) cs hro hb hr
  cases e with
  | goto l' =>
    obtain ⟨rfl, hJ'⟩ := hq
    obtain ⟨e₂, a₂, w₂, hq₂, harr₂⟩ := key _ a₁ w₁ rfl hJ'
    exact ⟨e₂, a₂, w₂, hq₂, .of_steps (.head h0 stepR_scope (harr.1 _ (hg _ _ hJ'))) harr₂⟩
  | normal => exact ⟨_, a₁, w₁, hq, .of_steps (.one h0 stepR_scope) (out _ _ _ _ (by simp) harr)⟩
  | exit id => exact ⟨_, a₁, w₁, hq, .of_steps (.one h0 stepR_scope) (out _ _ _ _ (by simp) harr)⟩
  | ret => exact ⟨_, a₁, w₁, hq, .of_steps (.one h0 stepR_scope) (out _ _ _ _ (by simp) harr)⟩
  | panic ch => exact ⟨_, a₁, w₁, hq, .of_steps (.one h0 stepR_scope) (out _ _ _ _ (by simp) harr)⟩
  | outgrown => exact ⟨_, a₁, w₁, hq, .of_steps (.one h0 stepR_scope) (out _ _ _ _ (by simp) harr)⟩
end

/-- By a goto to l: J; by no other goto. -/
def jumpQ (l : Nat) (J : St → Prop) (Q : Post) : Post := fun e σ =>
  match e with
  | .goto l' => l' = l ∧ J σ
  | e => Q e σ

section
variable {C : Ctx} {Q : Post} {σ : St} {c rest : Code}
theorem vwp_scope (l : Nat) (I : Nat → St → Prop) (hf : (∃ m τ, I m τ) → findLabel c l = some rest)
    (first : vwp C c (jumpQ l (fun σ' => ∃ m τ, Wk C σ' τ ∧ I m τ) Q) σ)
    (pass : ∀ n τ, I n τ → ∀ K : St → Prop, (∀ σ' m τ', m < n → Wk C σ' τ' → I m τ' → K σ') → vwp C rest (jumpQ l K Q) τ) : vwp C (.scope c) Q σ := by
  intro C₁ lt a w r
  refine wpIn_scope_jumps (rest := rest) l (fun a w => ∃ n, ∃ C₂ τ, Later C₁ C₂ ∧ Rel C₂ τ a w ∧ I n τ) (fun a w => leastOf fun n => ∃ C₂ τ, Later C₁ C₂ ∧ Rel C₂ τ a w ∧ I n τ) ?_ ?_ ?_
  · rintro ⟨_, _, n, _, τ, _, _, h⟩
    exact hf ⟨n, τ, h⟩
  · refine wpIn_mono (first C₁ lt a w r) ?_
    rintro e a' w' ⟨C₂, σ', l', r', q⟩
    cases e
    case goto l0 =>
      obtain ⟨rfl, m, τ, hw, hi⟩ := q
      exact ⟨rfl, m, C₂, τ, l', hw C₂ (lt.trans l') a' w' r', hi⟩
    all_goals exact ⟨C₂, σ', l', r', q⟩
  · intro a w hI
    obtain ⟨⟨C₂, τ, l', r, hi⟩, hmin⟩ := leastOf_spec hI
    have hr := pass _ τ hi (fun σ' => ∃ m τ', m < (leastOf fun n => ∃ C₂ τ, Later C₁ C₂ ∧ Rel C₂ τ a w ∧ I n τ) ∧ Wk C σ' τ' ∧ I m τ') (fun σ' m τ' hm hw hi => ⟨m, τ', hm, hw, hi⟩) C₂ (lt.trans l') a w r
    rw [l'.fz, l'.P] at hr
    refine wpIn_mono hr ?_
    rintro e a' w' ⟨C₃, σ', l'', r', q⟩
    cases e
    case goto l0 =>
      obtain ⟨rfl, m, τ', hm, hw, hi⟩ := q
      have hx : ∃ C₂ τ, Later C₁ C₂ ∧ Rel C₂ τ a' w' ∧ I m τ := ⟨C₃, τ', l'.trans l'', hw C₃ ((lt.trans l').trans l'') a' w' r', hi⟩
      exact ⟨rfl, ⟨m, hx⟩, Nat.lt_of_le_of_lt ((leastOf_spec ⟨m, hx⟩).2 m hx) hm⟩
    all_goals exact ⟨C₃, σ', l'.trans l'', r', q⟩
end
end Go.Vm
end

section
namespace Go.Vm
open Go Go.RowKit
set_option linter.unusedVariables false

/-! ### Names anew; rows of the call's own that are only read from now on -/
mutual
inductive Conv (H : Id → Option Blk) (Z : Id → Prop) (G : Id → Id → Prop) : PC → PC → Prop
  | free {p} : p.free = true → Conv H Z G p p
  | nil {t} : Conv H Z G (.c (.slice none 0 0)) (.sl t 0 [])
  | own {i j} : G i j → Conv H Z G (.own i) (.own j)
  | loc {i j off} : G i j → Conv H Z G (.loc i off) (.loc j off)
  | vw {i j off n} : G i j → Conv H Z G (.vw i off n) (.vw j off n)
  | cut {i j n} : G i j → Conv H Z G (.cut i n) (.cut j n)
  | rmp {t t' ks ps ps'} : (t' = true → t = true) → ConvL H Z G ps ps' → Conv H Z G (.rmp t ks ps) (.rmp t' ks ps')
  | emp {t} : Conv H Z G .emp (.sl t 0 [])
  | frz {i e z n cs cs'} : Z i → H i = some (.arr e z n cs) → ConvL H Z G cs cs' → Conv H Z G (.own i) (.sl true n cs')
  | frzloc {i off b ys} : Z i → H i = some b → ConvL H Z G (b.cells.drop off) ys → Conv H Z G (.loc i off) (.at true ys)
  | sl {t t' n xs xs'} : (t' = true → t = true) → ConvL H Z G xs xs' → Conv H Z G (.sl t n xs) (.sl t' n xs')
  | at {t t' xs xs'} : (t' = true → t = true) → ConvL H Z G xs xs' → Conv H Z G (.at t xs) (.at t' xs')
  | fn {f cs cs'} : ConvL H Z G cs cs' → Conv H Z G (.fn f cs) (.fn f cs')
  | mth {f cs cs'} : ConvL H Z G cs cs' → Conv H Z G (.mth f cs) (.mth f cs')
inductive ConvL (H : Id → Option Blk) (Z : Id → Prop) (G : Id → Id → Prop) : List PC → List PC → Prop
  | nil : ConvL H Z G [] []
  | cons {p p' ps ps'} : Conv H Z G p p' → ConvL H Z G ps ps' → ConvL H Z G (p :: ps) (p' :: ps')
end

mutual
inductive ConvV (H : Id → Option Blk) (Z : Id → Prop) (G : Id → Id → Prop) : PV → PV → Prop
  | one {p p'} : Conv H Z G p p' → ConvV H Z G (.one p) (.one p')
  | agg {ps ps'} : ConvL H Z G ps ps' → ConvV H Z G (.agg ps) (.agg ps')
  | tup {ps ps'} : ConvVs H Z G ps ps' → ConvV H Z G (.tup ps) (.tup ps')
inductive ConvVs (H : Id → Option Blk) (Z : Id → Prop) (G : Id → Id → Prop) : List PV → List PV → Prop
  | nil : ConvVs H Z G [] []
  | cons {p p' ps ps'} : ConvV H Z G p p' → ConvVs H Z G ps ps' → ConvVs H Z G (p :: ps) (p' :: ps')
end

inductive ConvB (H : Id → Option Blk) (Z : Id → Prop) (G : Id → Id → Prop) : Blk → Blk → Prop
  | box {ty cs cs'} : ConvL H Z G cs cs' → ConvB H Z G (.box ty cs) (.box ty cs')
  | arr {ty z n cs cs'} : ConvL H Z G cs cs' → ConvB H Z G (.arr ty z n cs) (.arr ty z n cs')
  | mp {ty es es'} : es.map (·.1) = es'.map (·.1) → ConvL H Z G (es.map (·.2)) (es'.map (·.2)) → ConvB H Z G (.mp ty es) (.mp ty es')

section
variable {H : Id → Option Blk} {Z : Id → Prop} {G : Id → Id → Prop} {φ φ' : Id → Option Value} {w : World} {F F' : Bool → Nat → Prop}

theorem ConvL.free : ∀ {ps : List PC}, PC.frees ps = true → ConvL H Z G ps ps
  | [], _ => .nil
  | p :: ps, h => by
    simp only [PC.frees, Bool.and_eq_true] at h
    exact .cons (.free h.1) (ConvL.free h.2)

theorem ConvL.append : ∀ {ps ps' qs qs' : List PC}, ConvL H Z G ps ps' → ConvL H Z G qs qs' → ConvL H Z G (ps ++ qs) (ps' ++ qs')
  | [], _, _, _, h, h' => by cases h; exact h'
  | p :: ps, _, _, _, h, h' => by
    cases h with
    | cons h1 h2 => exact .cons h1 (ConvL.append h2 h')

theorem ConvV.free {p : PV} (h : p.free = true) (hn : ∀ vs, p ≠ .tup vs) : ConvV H Z G p p := by
  cases p with
  | one p => exact .one (.free h)
  | agg ps => exact .agg (.free h)
  | tup vs => exact absurd rfl (hn vs)
  | may b p => simp [PV.free] at h

theorem tag_le (hS : ∀ g, F' true g → F' false g) {t t' : Bool} (h : t' = true → t = true) (g : Nat) (hg : F' t g) : F' t' g := by
  cases t <;> cases t'
  · exact hg
  · cases h rfl
  · exact hS g hg
  · exact hg

mutual
theorem conv_rep (hF : ∀ t g, F t g → F' t g) (hG : ∀ i j u, G i j → φ i = some u → φ' j = some u) (hH : ∀ i b, H i = some b → holds φ w F i b)
  (hZ : ∀ i b u g, Z i → H i = some b → φ i = some u → blkOf u = some g → F' true g) (hS : ∀ g, F' true g → F' false g) : ∀ {p p' : PC}, Conv H Z G p p' → ∀ {x : Value}, rep φ w F p x → rep φ' w F' p' x
  | _, _, .free hp, x, hr => free_rep hF _ _ hp hr
  | _, _, .nil, x, hr => by
    simp only [rep] at hr ⊢
    obtain ⟨rfl, _⟩ := hr
    exact ⟨none, 0, rfl, Nat.le_refl _, .inl (by simp)⟩
  | _, _, .own hg, x, hr => by
    simp only [rep] at hr ⊢
    exact ⟨hG _ _ _ hg hr.1, hr.2⟩
  | _, _, .loc hg, x, hr => by
    simp only [rep] at hr ⊢
    obtain ⟨u, g, hu, hb, hx⟩ := hr
    exact ⟨u, g, hG _ _ _ hg hu, hb, hx⟩
  | _, _, .vw hg, x, hr => by
    simp only [rep] at hr ⊢
    obtain ⟨u, A, cap, hu, hx⟩ := hr
    exact ⟨u, A, cap, hG _ _ _ hg hu, hx⟩
  | _, _, .cut hg, x, hr => by
    simp only [rep] at hr ⊢
    obtain ⟨A, N, cap, hu, hx⟩ := hr
    exact ⟨A, N, cap, hG _ _ _ hg hu, hx⟩
  | _, _, .rmp ht hc, x, hr => by
    simp only [rep] at hr ⊢
    obtain ⟨g, ents, clock, hx, hg, hh, hk, hr⟩ := hr
    exact ⟨g, ents, clock, hx, tag_le hS ht _ (hF _ _ hg), hh, hk, convL_rep hF hG hH hZ hS hc hr⟩
  | _, _, .emp, x, hr => by
    simp only [rep] at hr ⊢
    obtain ⟨A, rfl⟩ := hr
    exact ⟨A, 0, rfl, Nat.le_refl _, .inl (by simp)⟩
  | _, _, .frz (i := i) (e := e) (z := z) (n := n) (cs := cs) (cs' := cs') hz hb hc, x, hr => by
    simp only [rep] at hr ⊢
    obtain ⟨hφ, _⟩ := hr
    have hh := hH i _ hb
    have hh' := hh
    obtain ⟨v, vs, hv, ⟨hl, ho⟩, hrs⟩ := hh
    rw [hφ] at hv
    cases hv
    rcases ho with ⟨rfl, rfl⟩ | ⟨g, cap, cur, rfl, _, hcur, hn, _⟩
    · refine ⟨none, 0, rfl, Nat.le_refl _, .inl ⟨rfl, ?_⟩⟩
      have : cs = [] := List.length_eq_zero_iff.1 (by rw [← reps_length _ _ hrs, hl]; simp)
      subst this
      cases hc
      rfl
    · exact ⟨_, cap, rfl, hn, .inr ⟨_, rfl, hZ i _ _ _ hz hb hφ rfl, convAt_rep hF hG hH hZ hS hc (holds_repAt hh' hφ rfl)⟩⟩
  | _, _, .frzloc (i := i) (off := off) (b := b) hz hb hc, x, hr => by
    simp only [rep] at hr ⊢
    obtain ⟨u, g, hu, hg, rfl⟩ := hr
    have := repAt_drop (holds_repAt (hH i _ hb) hu hg) off
    rw [Addr.add_lit, Nat.zero_add] at this
    exact ⟨_, rfl, hZ i _ _ _ hz hb hu hg, convAt_rep hF hG hH hZ hS hc this⟩
  | _, _, .sl (t := t) (t' := t') ht hc, x, hr => by
    simp only [rep] at hr ⊢
    obtain ⟨A, cap, hx, hn, h⟩ := hr
    refine ⟨A, cap, hx, hn, ?_⟩
    rcases h with ⟨h1, h2⟩ | ⟨ad, ha, hf, h⟩
    · subst h2
      cases hc
      exact .inl ⟨h1, rfl⟩
    · exact .inr ⟨ad, ha, tag_le hS ht _ (hF _ _ hf), convAt_rep hF hG hH hZ hS hc h⟩
  | _, _, .at ht hc, x, hr => by
    simp only [rep] at hr ⊢
    obtain ⟨ad, hx, hf, h⟩ := hr
    exact ⟨ad, hx, tag_le hS ht _ (hF _ _ hf), convAt_rep hF hG hH hZ hS hc h⟩
  | _, _, .fn hc, x, hr => by
    simp only [rep] at hr ⊢
    obtain ⟨vs, hx, h⟩ := hr
    exact ⟨vs, hx, convL_rep hF hG hH hZ hS hc h⟩
  | _, _, .mth hc, x, hr => by
    simp only [rep] at hr ⊢
    obtain ⟨vs, hx, h⟩ := hr
    exact ⟨vs, hx, convL_rep hF hG hH hZ hS hc h⟩
theorem convAt_rep (hF : ∀ t g, F t g → F' t g) (hG : ∀ i j u, G i j → φ i = some u → φ' j = some u) (hH : ∀ i b, H i = some b → holds φ w F i b)
  (hZ : ∀ i b u g, Z i → H i = some b → φ i = some u → blkOf u = some g → F' true g) (hS : ∀ g, F' true g → F' false g) : ∀ {ps ps' : List PC}, ConvL H Z G ps ps' → ∀ {ad : Addr}, repAt φ w F ad ps → repAt φ' w F' ad ps'
  | _, _, .nil, ad, hr => by simp only [repAt]
  | _, _, .cons h1 h2, ad, hr => by
    simp only [repAt] at hr ⊢
    obtain ⟨⟨v, hv, hr1⟩, hr2⟩ := hr
    exact ⟨⟨v, hv, conv_rep hF hG hH hZ hS h1 hr1⟩, convAt_rep hF hG hH hZ hS h2 hr2⟩
theorem convL_rep (hF : ∀ t g, F t g → F' t g) (hG : ∀ i j u, G i j → φ i = some u → φ' j = some u) (hH : ∀ i b, H i = some b → holds φ w F i b)
  (hZ : ∀ i b u g, Z i → H i = some b → φ i = some u → blkOf u = some g → F' true g) (hS : ∀ g, F' true g → F' false g) : ∀ {ps ps' : List PC}, ConvL H Z G ps ps' → ∀ {vs : List Value}, reps φ w F ps vs → reps φ' w F' ps' vs
  | _, _, .nil, vs, hr => by simpa only [reps] using hr
  | _, _, .cons h1 h2, vs, hr => by
    simp only [reps] at hr ⊢
    obtain ⟨v, vs', hx, hr1, hr2⟩ := hr
    exact ⟨v, vs', hx, conv_rep hF hG hH hZ hS h1 hr1, convL_rep hF hG hH hZ hS h2 hr2⟩
end

mutual
theorem convV_rep (hF : ∀ t g, F t g → F' t g) (hG : ∀ i j u, G i j → φ i = some u → φ' j = some u) (hH : ∀ i b, H i = some b → holds φ w F i b)
  (hZ : ∀ i b u g, Z i → H i = some b → φ i = some u → blkOf u = some g → F' true g) (hS : ∀ g, F' true g → F' false g) : ∀ {p p' : PV}, ConvV H Z G p p' → ∀ {x : Value}, repV φ w F p x → repV φ' w F' p' x
  | _, _, .one h, x, hr => by
    simp only [repV] at hr ⊢
    exact conv_rep hF hG hH hZ hS h hr
  | _, _, .agg h, x, hr => by
    simp only [repV] at hr ⊢
    obtain ⟨vs, hx, hr⟩ := hr
    exact ⟨vs, hx, convL_rep hF hG hH hZ hS h hr⟩
  | _, _, .tup h, x, hr => by
    simp only [repV] at hr ⊢
    obtain ⟨vs, hx, hr⟩ := hr
    exact ⟨vs, hx, convVs_rep hF hG hH hZ hS h hr⟩
theorem convVs_rep (hF : ∀ t g, F t g → F' t g) (hG : ∀ i j u, G i j → φ i = some u → φ' j = some u) (hH : ∀ i b, H i = some b → holds φ w F i b)
  (hZ : ∀ i b u g, Z i → H i = some b → φ i = some u → blkOf u = some g → F' true g) (hS : ∀ g, F' true g → F' false g) : ∀ {ps ps' : List PV}, ConvVs H Z G ps ps' → ∀ {xs : List Value}, repVs φ w F ps xs → repVs φ' w F' ps' xs
  | _, _, .nil, xs, hr => by simpa only [repVs] using hr
  | _, _, .cons h1 h2, xs, hr => by
    simp only [repVs] at hr ⊢
    obtain ⟨v, vs', hx, hr1, hr2⟩ := hr
    exact ⟨v, vs', hx, convV_rep hF hG hH hZ hS h1 hr1, convVs_rep hF hG hH hZ hS h2 hr2⟩
end
end

section
variable {C : Ctx} {φ : Id → Option Value} {F0 F1 : Nat → Prop} {σ τ : St} {a : Act} {w : World}

/-- The blocks that are only read from now on. -/
def Frozen (φ : Id → Option Value) (σ : St) (Z : Id → Prop) (g : Nat) : Prop := ∃ i u, Z i ∧ σ.H i ≠ none ∧ φ i = some u ∧ blkOf u = some g

theorem exists_names (G : Id → Id → Prop) (hG : ∀ i i' j, G i j → G i' j → i = i') (φ : Id → Option Value) : ∃ φ' : Id → Option Value, ∀ j u, φ' j = some u ↔ ∃ i, G i j ∧ φ i = some u := by
  refine ⟨fun j => open Classical in if h : ∃ i, G i j then φ h.choose else none, fun j u => ?_⟩
  by_cases h : ∃ i, G i j
  · simp only [dif_pos h]
    constructor
    · intro hu; exact ⟨_, h.choose_spec, hu⟩
    · rintro ⟨i, hi, hu⟩
      rw [hG _ _ _ h.choose_spec hi]
      exact hu
  · simp only [dif_neg h]
    constructor
    · intro hu; cases hu
    · rintro ⟨i, hi, _⟩; exact absurd ⟨i, hi⟩ h

theorem RelX.conv (h : RelX C φ F0 F1 σ a w) (Z : Id → Prop) (G : Id → Id → Prop)
    (hG1 : ∀ i i' j, G i j → G i' j → i = i') (hG2 : ∀ i j j', G i j → G i j' → j = j')
    (hfr : ∀ t p', τ.fr t = some p' → ∃ p, σ.fr t = some p ∧ ConvV σ.H Z G p p')
    (hgh : ∀ t p', τ.gh t = some p' → ∃ p, σ.gh t = some p ∧ ConvV σ.H Z G p p')
    (hH : ∀ j b', τ.H j = some b' → ∃ i b, G i j ∧ ¬ Z i ∧ σ.H i = some b ∧ ConvB σ.H Z G b b')
    (hid : ∀ i j, G i j → j.1 < τ.nx ∨ ∃ d, τ.us d = true ∧ j.1 = τ.nx + d) (hnx : 1 ≤ τ.nx) (χ : Id → Option Value) (hk0 : ∀ i j u, G i j → j.1 = 0 → φ i = some u → χ j = some u) :
    ∃ φ' F0' F1', RelX { C with φi := χ } φ' F0' F1' τ a w ∧ (∀ p p' x, ConvV σ.H Z G p p' → repV φ w (Fs F0 F1) p x → repV φ' w (Fs F0' F1') p' x) ∧ ∀ j u, φ' j = some u ↔ ∃ i, G i j ∧ φ i = some u := by
  obtain ⟨φ', hφ'⟩ := exists_names G hG1 φ
  have hF : ∀ t g, Fs F0 F1 t g → Fs (fun g => F0 g ∨ Frozen φ σ Z g) (fun g => F1 g ∨ Frozen φ σ Z g) t g := by
    intro t g hg; cases t <;> exact .inl hg
  have hG : ∀ i j u, G i j → φ i = some u → φ' j = some u := fun i j u hg hu => (hφ' j u).2 ⟨i, hg, hu⟩
  have hZ : ∀ i b u g, Z i → σ.H i = some b → φ i = some u → blkOf u = some g → Fs (fun g => F0 g ∨ Frozen φ σ Z g) (fun g => F1 g ∨ Frozen φ σ Z g) true g :=
    fun i b u g hz hb hu hg => .inr ⟨i, u, hz, by rw [hb]; simp, hu, hg⟩
  have hS : ∀ g, Fs (fun g => F0 g ∨ Frozen φ σ Z g) (fun g => F1 g ∨ Frozen φ σ Z g) true g → Fs (fun g => F0 g ∨ Frozen φ σ Z g) (fun g => F1 g ∨ Frozen φ σ Z g) false g := by
    rintro g (h0 | h0)
    · exact .inl (h.sub g h0)
    · exact .inr h0
  have hV : ∀ p p' x, ConvV σ.H Z G p p' → repV φ w (Fs F0 F1) p x → repV φ' w (Fs (fun g => F0 g ∨ Frozen φ σ Z g) (fun g => F1 g ∨ Frozen φ σ Z g)) p' x :=
    fun p p' x hc hr => convV_rep hF hG h.heap hZ hS hc hr
  have hnew : ∀ g, Frozen φ σ Z g → ¬ C.K0 g ∧ g < w.heap.size := by
    rintro g ⟨i, u, hz, hn, hu, hg⟩
    obtain ⟨b, hb⟩ := Option.ne_none_iff_exists'.1 hn
    obtain ⟨_, hk, _⟩ := h.apart i u g hn hu hg
    exact ⟨hk, holds_lt (h.heap i b hb) hu hg⟩
  refine ⟨φ', _, _, ⟨h.size, h.defs, fun t p' hp => ?_, fun j b' hj => ?_, fun j k u v g hj hk hu hv hg hg' => ?_, fun j u g hj hu hg => ?_, ?_, ?_, ?_, ?_, h.os, h.tape, h.output, h.big, h.kept, h.k0lt, h.gbig, h.glob, fun q x hq => ?_, hnx, fun j hj => ?_, fun t p' hp => ?_⟩, hV, hφ'⟩
  · obtain ⟨p, hp0, hc⟩ := hfr t p' hp
    obtain ⟨x, hx, hr⟩ := h.frame t p hp0
    exact ⟨x, hx, hV _ _ _ hc hr⟩
  · obtain ⟨i, b, hg, _, hb, hc⟩ := hH j b' hj
    have hh := h.heap i b hb
    cases hc with
    | box hc =>
      obtain ⟨g, vs, hp, hheap, hr⟩ := hh
      exact ⟨g, vs, hG _ _ _ hg hp, hheap, convL_rep hF hG h.heap hZ hS hc hr⟩
    | arr hc =>
      obtain ⟨v, vs, hp, ho, hr⟩ := hh
      exact ⟨v, vs, hG _ _ _ hg hp, ho, convL_rep hF hG h.heap hZ hS hc hr⟩
    | mp hk hc =>
      obtain ⟨g, ents, clock, hp, ho, hk', hr⟩ := hh
      exact ⟨g, ents, clock, hG _ _ _ hg hp, ho, hk'.trans hk, convL_rep hF hG h.heap hZ hS hc hr⟩
  · obtain ⟨b1, hb1⟩ := Option.ne_none_iff_exists'.1 hj
    obtain ⟨b2, hb2⟩ := Option.ne_none_iff_exists'.1 hk
    obtain ⟨i1, c1, hg1, _, hc1, _⟩ := hH j b1 hb1
    obtain ⟨i2, c2, hg2, _, hc2, _⟩ := hH k b2 hb2
    obtain ⟨i1', hg1', hu'⟩ := (hφ' j u).1 hu
    obtain ⟨i2', hg2', hv'⟩ := (hφ' k v).1 hv
    have e1 := hG1 _ _ _ hg1 hg1'
    have e2 := hG1 _ _ _ hg2 hg2'
    subst e1 e2
    have := h.inj i1 i2 u v g (by rw [hc1]; simp) (by rw [hc2]; simp) hu' hv' hg hg'
    subst this
    exact hG2 _ _ _ hg1 hg2
  · obtain ⟨b1, hb1⟩ := Option.ne_none_iff_exists'.1 hj
    obtain ⟨i1, c1, hg1, hnz, hc1, _⟩ := hH j b1 hb1
    obtain ⟨i1', hg1', hu'⟩ := (hφ' j u).1 hu
    have e1 := hG1 _ _ _ hg1 hg1'
    subst e1
    obtain ⟨h1, h2, h3⟩ := h.apart i1 u g (by rw [hc1]; simp) hu' hg
    refine ⟨?_, h2, h3⟩
    rintro (h0 | ⟨i2, u2, hz, hn, hu2, hg2⟩)
    · exact h1 h0
    · have := h.inj i2 i1 u2 u g hn (by rw [hc1]; simp) hu2 hu' hg2 hg
      subst this
      exact hnz hz
  · rintro g (h0 | h0)
    · exact .inl (h.sub g h0)
    · exact .inr h0
  · rintro g (h0 | h0)
    · exact (h.ini g h0).imp id .inl
    · exact .inr (.inr h0)
  · rintro g (h0 | h0)
    · exact h.new1 g h0
    · exact (hnew g h0).1
  · rintro g (h0 | h0)
    · exact h.lt0 g h0
    · exact (hnew g h0).2
  · obtain ⟨i, hg, hu⟩ := (hφ' _ x).1 hq
    exact hk0 i _ x hg rfl hu
  · obtain ⟨u, hu⟩ := Option.ne_none_iff_exists'.1 hj
    obtain ⟨i, hg, _⟩ := (hφ' j u).1 hu
    exact hid i j hg
  · obtain ⟨p, hp0, hc⟩ := hgh t p' hp
    obtain ⟨x, hx, hr⟩ := h.ghost t p hp0
    exact ⟨x, hx, hV _ _ _ hc hr⟩
end
end Go.Vm
end

section
namespace Go.Vm
open Go Go.RowKit
set_option linter.unusedVariables false

def St.enter (args : List PV) : St := ⟨fun t => args[t]?, fun _ => none, fun _ => false, 1, fun _ => none⟩

def pack : List PV → PV
  | [v] => v
  | vs => .tup vs

def resOf (P : Program) (σ : St) : List ResultVar → Option (List PV)
  | [] => some []
  | .tmp t :: rs =>
    match σ.fr t, resOf P σ rs with
    | some p, some ps => some (p :: ps)
    | _, _ => none
  | .cell t ty :: rs =>
    match ((σ.fr t).bind (behind σ.H)).bind (takeT P ty), resOf P σ rs with
    | some p, some ps => some (p :: ps)
    | _, _ => none

/-- What a body leaves is what its contract says: own blocks under the contract's names, the rest of them only read from now on. -/
def RetOk (P : Program) (rs : List ResultVar) (r : PV) (B : List Blk) (σ : St) : Prop :=
  ∃ (vs : List PV) (Z : Id → Prop) (G : Id → Id → Prop), resOf P σ rs = some vs ∧ (∀ i i' j, G i j → G i' j → i = i') ∧ (∀ i j j', G i j → G i j' → j = j') ∧ (∀ i j, G i j → j.1 = 0 ∧ j.2 < B.length) ∧
    ConvV σ.H Z G (pack vs) r ∧ ∀ j b', B[j]? = some b' → ∃ i b, G i (0, j) ∧ ¬ Z i ∧ σ.H i = some b ∧ ConvB σ.H Z G b b'

def retQ (P : Program) (rs : List ResultVar) (r : PV) (B : List Blk) : Post
  | .normal, σ => RetOk P rs r B σ
  | .ret, σ => RetOk P rs r B σ
  | _, _ => False

section
variable {C : Ctx} {φ φ' : Id → Option Value} {F : Bool → Nat → Prop} {F0 F1 : Nat → Prop} {σ τ : St} {a : Act} {w : World} {P : Program}

theorem repVs_len : ∀ (ps : List PV) (vs : List Value), repVs φ w F ps vs → vs.length = ps.length
  | [], vs, h => by simp only [repVs] at h; subst h; rfl
  | p :: ps, vs, h => by
    simp only [repVs] at h
    obtain ⟨v, vs', rfl, hr, h⟩ := h
    simp [repVs_len ps vs' h]

theorem results_run (h : RelX C φ F0 F1 σ a w) : ∀ (rs : List ResultVar) (vs : List PV), resOf C.P σ rs = some vs → ∃ xs : List Value,
    (rs.mapM (fun | .tmp t => pure (a.tmps.getD t undef) | .cell t ty => do loadVar ty (← asAddr (a.tmps.getD t undef)) : ResultVar → Sem Value)).run C.P w = .ok xs w ∧ repVs φ w (Fs F0 F1) vs xs
  | [], vs, hv => by
    simp only [resOf] at hv
    cases hv
    exact ⟨[], by simp, by simp [repVs]⟩
  | .tmp t :: rs, vs, hv => by
    simp only [resOf] at hv
    split at hv
    · rename_i p ps hp hps
      cases hv
      obtain ⟨xs, hx, hr⟩ := results_run h rs ps hps
      obtain ⟨x, hx0, hr0⟩ := h.frame t p hp
      refine ⟨x :: xs, ?_, by simp only [repVs]; exact ⟨x, xs, rfl, hr0, hr⟩⟩
      have : a.tmps.getD t undef = x := by simp [Array.getD_eq_getD_getElem?, hx0]
      simp only [List.mapM_cons, Sem.run_bind, Sem.run_pure, Result.andThen_ok, this, hx]
    · cases hv
  | .cell t ty :: rs, vs, hv => by
    simp only [resOf] at hv
    split at hv
    · rename_i p ps hp hps
      cases hv
      obtain ⟨xs, hx, hr⟩ := results_run h rs ps hps
      obtain ⟨ys, hy, hp⟩ := Option.bind_eq_some_iff.1 hp
      obtain ⟨q, hq, hy⟩ := Option.bind_eq_some_iff.1 hy
      obtain ⟨x, hx0, hr0⟩ := h.frame t q hq
      obtain ⟨ad, rfl, hat⟩ := behind_rep h (fun e => e) hr0 hy
      obtain ⟨v, hl, hr1⟩ := run_takeT (P := C.P) hat hp
      refine ⟨v :: xs, ?_, by simp only [repVs]; exact ⟨v, xs, rfl, hr1, hr⟩⟩
      have : asAddr (a.tmps.getD t undef) = pure ad := by simp [Array.getD_eq_getD_getElem?, hx0, asAddr]
      simp only [List.mapM_cons, Sem.run_bind, Sem.run_pure, Result.andThen_ok, this, hl, hx]
    · cases hv

theorem pack_rep : ∀ {vs : List PV} {xs : List Value}, repVs φ w F vs xs → repV φ w F (pack vs) (if h : xs.toArray.size = 1 then xs.toArray[0] else .tuple xs.toArray)
  | [], xs, h => by
    simp only [repVs] at h
    subst h
    simp [pack, repV, repVs]
  | [v], xs, h => by
    simp only [repVs] at h
    obtain ⟨x, xs', rfl, hr, rfl⟩ := h
    simpa [pack] using hr
  | v :: v' :: vs, xs, h => by
    have hl := repVs_len _ _ h
    rw [dif_neg (by simp [hl])]
    simp only [pack, repV]
    exact ⟨xs.toArray, rfl, by simpa using h⟩

/-- Blocks that are neither read nor the call's own may turn. -/
theorem RelX.turn {C₀ : Ctx} (l : Later C₀ C) (h : RelX C φ F0 F1 σ a w) (S : Nat → Prop) (hS : ∀ g, S g → ¬ F0 g ∧ C.gb ≤ g ∧ ∀ i u, σ.H i ≠ none → φ i = some u → blkOf u ≠ some g) {w' : World}
    (hos : w'.os = w.os) (htp : w'.tape = w.tape) (hout : w'.output = w.output) (hsz : w.heap.size ≤ w'.heap.size) (hw : ∀ g, g < w.heap.size → ¬ S g → w'.heap[g]? = w.heap[g]?) (hK : ∀ g, C₀.K0 g → ¬ S g) (hgb0 : C₀.gb ≤ C₀.w0.heap.size) :
    RelX { C₀ with df := C.df } φ F0 F1 σ a w' := by
  have hwF : ∀ t g, Fs F0 F1 t g → w'.heap[g]? = w.heap[g]? := fun t g hg => hw g (h.lt0 g (Fs_f0 h.sub t g hg)) fun hs => (hS g hs).1 (Fs_f0 h.sub t g hg)
  have hnt : C₀.nt = C.nt := by rw [show C.nt = C.toCore.nt from rfl, l.core]
  have hgb : C₀.gb = C.gb := by rw [show C.gb = C.toCore.gb from rfl, l.core]
  have hgw : C₀.gw = C.gw := by rw [show C.gw = C.toCore.gw from rfl, l.core]
  have hk0 : ∀ g, C₀.K0 g → g < C₀.w0.heap.size := by
    intro g hg
    by_cases h1 : g < C₀.w0.heap.size
    · exact h1
    · have h2 := l.kept g hg
      have h3 := h.k0lt g (l.K0 g hg)
      rw [Array.getElem?_eq_none (show C₀.w0.heap.size ≤ g by omega), Array.getElem?_eq_getElem h3] at h2
      cases h2
  refine ⟨h.size.trans hnt.symm, h.defs, fun t p hp => (h.frame t p hp).imp fun x hx => ⟨hx.1, repV_mono (fun _ _ e => e) hwF (fun _ _ e => e) p x hx.2⟩, fun i b hi => ?_, h.inj, fun i u g hi hu hg => ?_, h.sub, fun g hg => by rw [show ({ C₀ with df := C.df } : Ctx).Fi = C.Fi from l.Fi.symm]; exact h.ini g hg, fun g hg hk => h.new1 g hg (l.K0 g hk), fun g hg => Nat.lt_of_lt_of_le (h.lt0 g hg) hsz,
    hos.trans (h.os.trans l.os), htp.trans (h.tape.trans l.tape), hout.trans (h.output.trans l.output), Nat.le_trans l.big (Nat.le_trans h.big hsz), fun g hg => ?_, hk0, hgb0, fun g hg => ?_, fun j u hu => by rw [show ({ C₀ with df := C.df } : Ctx).φi = C.φi from l.φi.symm]; exact h.keep j u hu, h.nx1, h.ids, fun t p hp => ?_⟩
  · have hh := h.heap i b hi
    exact holds_mono hh (fun _ _ e => e) (fun _ _ e => e) hwF fun u g hu hg => hw g (holds_lt hh hu hg) fun hs => (hS g hs).2.2 i u (by rw [hi]; simp) hu hg
  · obtain ⟨h1, h2, h3⟩ := h.apart i u g hi hu hg
    exact ⟨h1, fun hk => h2 (l.K0 g hk), hgb ▸ h3⟩
  · exact (hw g (Nat.lt_of_lt_of_le (hk0 g hg) (Nat.le_trans l.big h.big)) (hK g hg)).trans ((h.kept g (l.K0 g hg)).trans (l.kept g hg))
  · have h1 : g < C.gb := hgb ▸ hg
    exact (hw g (Nat.lt_of_lt_of_le h1 (Nat.le_trans h.gbig h.big)) fun hs => by have := (hS g hs).2.1; omega).trans ((h.glob g h1).trans (by rw [← hgw]))
  · obtain ⟨x, hx, hr⟩ := h.ghost t p hp
    exact ⟨x, l.ex ▸ hx, repV_mono (fun _ _ e => e) hwF (fun _ _ e => e) p x hr⟩

theorem leaves_marks {F : Fence} {n : Nat} {fn : Func} {tmps : Array Value} {R : Ending → World → Prop} : ∀ (rs : List Nat) (w : World), rs.Nodup → (∀ r ∈ rs, w.heap[r]? = some (.deferred (some []))) →
    (∀ w', w'.os = w.os → w'.tape = w.tape → w'.output = w.output → w'.heap.size = w.heap.size → (∀ g, g ∉ rs → w'.heap[g]? = w.heap[g]?) → LeavesIn F n P fn tmps R [] .returning w') →
    LeavesInM F n P fn tmps R (rs.map markOf) .returning w
  | [], w, _, _, h => h w rfl rfl rfl rfl fun _ _ => rfl
  | r :: rs, w, hn, hr, h => by
    obtain ⟨hn1, hn2⟩ := List.nodup_cons.1 hn
    refine ⟨by simp, .inl ⟨r, w.putObj r (.deferred none), rfl, run_takeDeferred (hr r (by simp)), ?_⟩⟩
    have hput : ∀ g, g ≠ r → (w.putObj r (.deferred none)).heap[g]? = w.heap[g]? := fun g hg => World.putObj_heap_other hg
    refine leaves_marks rs _ hn2 (fun q hq => ?_) fun w' hos htp hout hsz hw => h w' hos htp hout (hsz.trans (by simp [World.putObj])) fun g hg => ?_
    · rw [hput q (by rintro rfl; exact hn1 hq)]
      exact hr q (by simp [hq])
    · simp only [List.mem_cons, not_or] at hg
      rw [hw g hg.2, hput g hg.1]

/-- A CONTRACT, OUT OF THE BODY. -/
theorem vcall_ofRC (cu : Bool) {gw : World} {gb : Nat} {f : FuncId} {fn : Func} {c : Code} {args : List PV} {r : PV} {B : List Blk} {n : Nat} (rs : List ResultVar) (hf : P.funcs[f]? = some fn) (hb : fn.body = some c) (hname : (fn.name == "runtime.NumGoroutine") = false) (hnt : fn.ntmps = n)
    (hrs : fn.results.toList = rs) (hn : args.length ≤ n)
    (h : ∀ C : Ctx, C.P = P → C.nt = n → C.gw = gw → C.gb = gb → (∀ g, g < C.w0.heap.size → C.K0 g) → C.ro = none → C.cut = cu → vwp C c (retQ P rs r B) (St.enter args)) : VCall P gw gb f args r B := by
  subst hnt hrs
  refine ⟨⟨fn, hf, hname, by simp [hb]⟩, fun w xs F hgb hgl hlt hr => ?_⟩
  let C₀ : Ctx := ⟨⟨P, fn.ntmps, gw, gb, cu⟩, w, fun g => g < w.heap.size, F, fun _ => none, none, [], #[], hlt, fun g hg => Nat.lt_of_lt_of_le hg hgb⟩
  have hinit : RelX C₀ (fun _ => none) F (fun _ => False) (St.enter args) { tmps := xs ++ Array.replicate (fn.ntmps - xs.size) undef, defers := [] } w := by
    have hl := repVs_len _ _ hr
    have hg := repVs_get _ _ hr
    have hs : xs.size = args.length := by simpa using hl
    refine ⟨?_, rfl, fun t p hp => ?_, fun i b hi => (by cases hi), fun i j u v g hi => (absurd rfl hi), fun i u g hi => (absurd rfl hi), fun g hg => hg.elim, fun g hg => .inl hg, fun g hg => hg.elim, hlt, rfl, rfl, rfl, Nat.le_refl _, fun _ _ => rfl, fun _ h => h, hgb, hgl, fun j u hu => (by cases hu), Nat.le_refl _, fun i hi => absurd rfl hi, fun t p hp => (by cases hp)⟩
    · show (xs ++ Array.replicate (fn.ntmps - xs.size) undef).size = fn.ntmps; simp only [Array.size_append, Array.size_replicate]; omega
    · obtain ⟨v, hv, hr'⟩ := hg t p hp
      refine ⟨v, ?_, hr'⟩
      have hv' : xs[t]? = some v := by simpa using hv
      rw [Array.getElem?_append_left (Array.getElem?_eq_some_iff.1 hv').1]
      exact hv'
  refine callsIn_wide.1 (callsIn_of_wp_marks (F := fz C₀) (n := 0) hf hb trivial (wpIn_mono (h C₀ rfl rfl rfl rfl (fun _ h => h) rfl rfl C₀ (.refl _) _ _ ⟨_, _, _, hinit⟩) ?_))
  rintro e a' w₁ ⟨C₂, σ', l, ⟨φ, F0, F1, hR₁⟩, hq⟩
  have back : ∀ R : Ending → World → Prop, (∀ w' df, RelX { C₀ with df := df } φ F0 F1 σ' a' w' → ∃ v, (results fn a'.tmps).run P w' = .ok v w' ∧ R (.returned v) w') → LeavesInM (fz C₀) 0 P fn a'.tmps R a'.defers .returning w₁ := by
    intro R hR
    obtain ⟨rs, e1, e2, e3⟩ := l.df
    rw [hR₁.defs, e1, show C₀.df = [] from rfl, List.append_nil]
    refine leaves_marks rs w₁ e2 (fun r hr => (hR₁.kept r (e3 r hr).2.2.1).trans (e3 r hr).2.2.2) fun w' hos htp hout hsz hw => ?_
    refine hR w' C₂.df (hR₁.turn l (· ∈ rs) (fun g hg => ?_) hos htp hout (Nat.le_of_eq hsz.symm) (fun g _ hg => hw g hg) (fun g hg hs => ?_) hgb)
    · obtain ⟨h1, h2, h3, h4⟩ := e3 g hg
      refine ⟨fun h0 => ?_, ?_, fun i u hi hu hg' => (hR₁.apart i u g hi hu hg').2.1 h3⟩
      · rcases hR₁.ini g h0 with h5 | h5
        · rw [l.Fi] at h5
          have := hlt g h5
          have h1 : w.heap.size ≤ g := h1
          omega
        · exact hR₁.new1 g h5 h3
      · rw [show C₂.gb = C₀.gb from by rw [show C₂.gb = C₂.toCore.gb from rfl, l.core]]
        exact Nat.le_trans hgb h1
    · have h1 : w.heap.size ≤ g := (e3 g hs).1
      have hg : g < w.heap.size := hg
      omega
  have main : ∀ w' df, RelX { C₀ with df := df } φ F0 F1 σ' a' w' → RetOk P fn.results.toList r B σ' → ∃ v, (results fn a'.tmps).run P w' = .ok v w' ∧ ∃ (x : Value) (ψ : Id → Option Value) (X : Nat → Prop), Ending.returned v = .returned x ∧ Below w.heap.size w w' ∧ (∀ g, X g → w.heap.size ≤ g ∧ g < w'.heap.size) ∧
      repV ψ w' (Fs (fun g => F g ∨ X g) X) r x ∧ (∀ j b, B[j]? = some b → holds ψ w' (Fs (fun g => F g ∨ X g) X) (0, j) b) ∧ (∀ i, ψ i ≠ none → i.1 = 0) ∧
      (∀ j u g, ψ (0, j) = some u → blkOf u = some g → w.heap.size ≤ g ∧ ¬ X g) ∧
      (∀ j k u v g, ψ (0, j) = some u → ψ (0, k) = some v → blkOf u = some g → blkOf v = some g → j = k) := by
    rintro w' df hR ⟨vs, Z, G, hvs, hG1, hG2, hG0, hcv, hB⟩
    obtain ⟨xs', hrun, hreps⟩ := results_run hR _ vs hvs
    have hx := pack_rep hreps
    obtain ⟨χ, hχ⟩ := exists_names G hG1 φ
    obtain ⟨φ', F0', F1', hT, hV, hφ'⟩ := hR.conv (τ := ⟨fun _ => none, fun j => if j.1 = 0 then B[j.2]? else none, fun _ => false, 1, fun _ => none⟩) Z G hG1 hG2 (fun t p' hp => by cases hp) (fun t p' hp => by cases hp)
      (fun j b' hj => by
        simp only at hj
        split at hj
        · rename_i h0
          obtain ⟨j1, j2⟩ := j
          simp only at h0
          subst h0
          exact hB j2 b' hj
        · cases hj)
      (fun i j hg => .inl (by have := (hG0 i j hg).1; simp only; omega)) (Nat.le_refl _) χ (fun i j u hg _ hu => (hχ j u).2 ⟨i, hg, hu⟩)
    have hF : ∀ t g, Fs F0' F1' t g → Fs (fun g => F g ∨ F1' g) F1' t g := by
      intro t g hg
      cases t
      · exact hT.ini g hg
      · exact hg
    have hH : ∀ j, φ' (0, j) ≠ none → ∃ b, B[j]? = some b := by
      intro j hj
      obtain ⟨u, hu⟩ := Option.ne_none_iff_exists'.1 hj
      obtain ⟨i, hg, _⟩ := (hφ' _ u).1 hu
      exact ⟨_, List.getElem?_eq_getElem (hG0 i _ hg).2⟩
    refine ⟨_, ?_, _, φ', F1', rfl, ⟨hR.os, hR.tape, hR.output, hR.big, fun g hg => hR.kept g hg⟩, fun g hg => ⟨Nat.le_of_not_lt (hT.new1 g hg), hT.lt0 g (hT.sub g hg)⟩,
      repV_mono (fun _ _ e => e) (fun _ _ _ => rfl) hF _ _ (hV _ _ _ hcv hx), fun j b hj => ?_, fun i hi => ?_, fun j u g hu hg => ?_, fun j k u v g hu hv hg hg' => ?_⟩
    · unfold results
      simp only [Array.mapM_eq_mapM_toList]
      simp only [map_eq_pure_bind, Sem.run_bind, Sem.run_pure]
      have key : ∀ m : Sem (List Value), m.run P w' = .ok xs' w' → ((m.run P w').andThen fun a w' => Result.ok a.toArray w').andThen (fun a w' => Result.ok (if h : a.size = 1 then a[0] else Value.tuple a) w') =
          Result.ok (if h : xs'.toArray.size = 1 then xs'.toArray[0] else Value.tuple xs'.toArray) w' := by
        intro m hm; rw [hm]; rfl
      exact key _ hrun
    · exact holds_mono (hT.heap (0, j) b (by simpa using hj)) (fun _ _ e => e) hF (fun _ _ _ => rfl) (fun _ _ _ _ => rfl)
    · obtain ⟨u, hu⟩ := Option.ne_none_iff_exists'.1 hi
      obtain ⟨i', hg, _⟩ := (hφ' _ u).1 hu
      exact (hG0 i' _ hg).1
    · obtain ⟨b, hb'⟩ := hH j (by rw [hu]; simp)
      obtain ⟨h1, h2, _⟩ := hT.apart (0, j) u g (by simp [hb']) hu hg
      exact ⟨Nat.le_of_not_lt h2, fun hx => h1 (hT.sub g hx)⟩
    · obtain ⟨b, hb'⟩ := hH j (by rw [hu]; simp)
      obtain ⟨b2, hb2'⟩ := hH k (by rw [hv]; simp)
      have := hT.inj (0, j) (0, k) u v g (by simp [hb']) (by simp [hb2']) hu hv hg hg'
      simpa using this
  cases e
  case normal => exact back _ fun w' df hR => main w' df hR hq
  case ret => exact back _ fun w' df hR => main w' df hR hq
  all_goals exact hq.elim
end
end Go.Vm
end

section
namespace Go.Vm
open Go Go.RowKit
set_option linter.unusedVariables false

/-! ### Regions that draw their order -/
def Upd.v (nx : Nat) : Upd → Option PV
  | .val _ p => some p
  | .new _ p _ => some p
  | .call d r _ => some (r.ren (nx + d))
  | .heap _ _ => none
  | .mv d _ _ => some (.one (.own (nx + d, 0)))
  | .io d M r _ => some (r.iob M (nx + d))

def Upd.dst : Upd → Option Nat
  | .val d _ => d
  | .new d _ _ => some d
  | .call d _ _ => some d
  | .heap _ _ => none
  | .mv d _ _ => some d
  | .io d _ _ _ => some d

def Upd.tag : Upd → Option Nat
  | .val _ _ => none
  | .new d _ _ => some d
  | .call d _ _ => some d
  | .heap _ _ => none
  | .mv d _ _ => some d
  | .io d _ _ _ => some d

def bchg (s : Nat) : Nat → List Blk → List (Id × Option Blk)
  | _, [] => []
  | k, b :: B => ((s, k), some (b.ren s)) :: bchg s (k + 1) B

def Upd.chg (nx : Nat) : Upd → List (Id × Option Blk)
  | .val _ _ => []
  | .new d _ b => [((nx + d, 0), some b)]
  | .call d _ B => bchg (nx + d) 0 B
  | .heap i b => [(i, some b)]
  | .mv d none b => [((nx + d, 0), some b)]
  | .mv d (some i) b => [(i, none), ((nx + d, 0), some b)]
  | .io d M _ B => ioChg M (nx + d) 0 B

def Upd.isM : Upd → Bool
  | .heap _ _ => true
  | .mv _ (some _) _ => true
  | .io _ _ _ _ => true
  | _ => false

def collect (nx : Nat) (vis : Nat → Bool) : Nat → List Upd → List (Id × Option Blk)
  | _, [] => []
  | k, U :: Us => (if vis k then U.chg nx else []) ++ collect nx vis (k + 1) Us

def frAt (nx : Nat) (vis late : Nat → Bool) (fr : Nat → Option PV) : Nat → List Oper → List Upd → Nat → Option PV
  | _, [], _, t => fr t
  | k, o :: ops, Us, t => if o.dst = some t then (if vis k then Us.head?.bind (Upd.v nx) else if late k then fr t else none) else frAt nx vis late fr (k + 1) ops Us.tail t

def isDep (D : List (List Nat)) (j k : Nat) : Bool := (D.getD k []).contains j

def reads : Op → Bool
  | .load .. => true
  | .indexAddr .. => true
  | .call _ => true
  | .store .. => true
  | .slice .. => true
  | .convert .. => true
  | .lookup .. => true
  | .mapUpdate .. => true
  | .insert .. => true
  | _ => false

def masked (nx : Nat) (D : List (List Nat)) (k : Nat) : Nat → List Oper → Id → Bool
  | _, [], _ => false
  | j, o :: ops, i => (match o.dst with | some d => i.1 == nx + d && !isDep D j k && j != k | none => false) || masked nx D k (j + 1) ops i

def HAt (σ : St) (ops : List Oper) (D : List (List Nat)) (Us : List Upd) (k : Nat) (rd : Bool) (i : Id) : Option Blk :=
  if rd then (if masked σ.nx D k 0 ops i then none else applyC σ.H (collect σ.nx (isDep D · k) 0 Us) i) else none

def depOk (ops : List Oper) (D : List (List Nat)) : Bool :=
  (List.range ops.length).all fun k =>
    match ops[k]? with
    | none => true
    | some o => (o.after.toList.all fun e => !Region.binds .any e || decide (e.on < k)) && ((D.getD k []).all fun j => o.after.toList.any fun e => Region.binds .any e && (e.on == j || isDep D j e.on))

def dstsOk (ops : List Oper) : Bool :=
  (List.range ops.length).all fun j => (List.range ops.length).all fun k => j == k || ((ops[j]?).bind (·.dst)).isNone || (ops[j]?).bind (·.dst) != (ops[k]?).bind (·.dst)

def orderOk (ops : List Oper) (D : List (List Nat)) (Us : List Upd) : Bool :=
  (List.range ops.length).all fun j => !((Us[j]?).any Upd.isM) || (List.range ops.length).all fun k => j == k || !((ops[k]?).any (reads ·.op)) || isDep D j k || isDep D k j

/-- Or an operation that is not told apart by its order does not see the names that are changed. -/
def ptrAt (nx : Nat) (fr : Nat → Option PV) (ops : List Oper) (D : List (List Nat)) (Us : List Upd) (k : Nat) : Op → Option Id
  | .load _ x =>
    match ev (frAt nx (isDep D · k) (isDep D k) fr 0 ops Us) x with
    | some (.one (.loc i _)) => some i
    | _ => none
  | _ => none
def orderOk1 (ops : List Oper) (D : List (List Nat)) (nx : Nat) (fr : Nat → Option PV) (Us : List Upd) : Bool :=
  (List.range ops.length).all fun j => !((Us[j]?).any Upd.isM) || (List.range ops.length).all fun k => j == k || !((ops[k]?).any (reads ·.op)) || isDep D j k || isDep D k j || (Us[j]?).all fun U => (U.chg nx).all fun c => masked nx D k 0 ops c.1 || ((ops[k]?).bind fun o => ptrAt nx fr ops D Us k o.op).any fun i => !decide (c.1 = i)
def orderX (ops : List Oper) (D : List (List Nat)) (nx : Nat) (fr : Nat → Option PV) (Us : List Upd) : Bool :=
  match orderOk ops D Us with
  | true => true
  | false => orderOk1 ops D nx fr Us

/-- An operation, or nothing if its guard says no. -/
def gK (C : Core) (ops : List Oper) (nx : Nat) (fr : Nat → Option PV) (H : Id → Option Blk) (g : Option (Nat × Bool)) (d : Option Nat) (op : Op) (K : Upd → Prop) : Prop :=
  match g with
  | none => opK C nx (ev fr) H d op K
  | some (g, want) =>
    match gslot ops fr g with
    | some v => if v = some want then opK C nx (ev fr) H d op K else dOk C.nt d ∧ K (.val d (.tup []))
    | none => False
/-- The operations of a region that draws its order: each of them as it runs behind no more than it waits for. -/
def anyRun (C : Core) (ops : List Oper) (D : List (List Nat)) (σ : St) : Nat → List Oper → List Upd → (St → Prop) → Prop
  | _, [], Us, Q => orderX ops D σ.nx σ.fr Us = true ∧ Q (Us.foldl Upd.app σ)
  | k, o :: rest, Us, Q => gK C ops σ.nx (frAt σ.nx (isDep D · k) (isDep D k) σ.fr 0 ops Us) (HAt σ ops D Us k (reads o.op)) o.guard o.dst o.op fun U => U.fresh σ ∧ anyRun C ops D σ (k + 1) rest (Us ++ [U]) Q

section
variable {C : Ctx} {φ φ' : Id → Option Value} {F : Bool → Nat → Prop} {F0 F1 : Nat → Prop} {σ : St} {a : Act} {w w' : World} {P : Program} {ops : List Oper} {D : List (List Nat)} {Us : List Upd}

theorem applyC_append (H : Id → Option Blk) (L L' : List (Id × Option Blk)) : applyC H (L ++ L') = applyC (applyC H L) L' := by
  induction L generalizing H with
  | nil => rfl
  | cons c L ih => simp only [List.cons_append, applyC]; exact ih _

/-- The H that a list of changes comes to, at an id, hangs on H at this id and on the changes of this id alone. -/
theorem applyC_at (i : Id) : ∀ (L : List (Id × Option Blk)) (H H' : Id → Option Blk), H i = H' i → applyC H L i = applyC H' (L.filter fun c => c.1 = i) i
  | [], H, H', h => h
  | c :: L, H, H', h => by
    by_cases hc : c.1 = i
    · simp only [applyC]
      rw [List.filter_cons_of_pos (by simpa using hc)]
      simp only [applyC]
      exact applyC_at i L _ _ (by subst hc; simp [upd_self])
    · rw [List.filter_cons_of_neg (by simpa using hc)]
      simp only [applyC]
      exact applyC_at i L _ _ (by rw [upd_ne _ _ (Ne.symm hc)]; exact h)

theorem applyC_mono {H H' : Id → Option Blk} : ∀ (L : List (Id × Option Blk)), (∀ i b, H i = some b → H' i = some b) → ∀ i b, applyC H L i = some b → applyC H' L i = some b
  | [], h => h
  | c :: L, h => by
    simp only [applyC]
    refine applyC_mono L fun i b hi => ?_
    by_cases hc : i = c.1
    · subst hc; rw [upd_self] at hi ⊢; exact hi
    · rw [upd_ne _ _ hc] at hi ⊢; exact h i b hi

theorem bchg_bindB (s : Nat) (H : Id → Option Blk) (B : List Blk) : applyC H (bchg s 0 B) = bindB s B H := by
  have key : ∀ (B : List Blk) (k : Nat) (H : Id → Option Blk) (i : Id), applyC H (bchg s k B) i = if i.1 = s ∧ k ≤ i.2 then (match B[i.2 - k]? with | some b => some (b.ren s) | none => H i) else H i := by
    intro B
    induction B with
    | nil => intro k H i; simp [bchg, applyC]
    | cons b B ih =>
      intro k H i
      simp only [bchg, applyC]
      rw [ih (k + 1) _ i]
      obtain ⟨i1, i2⟩ := i
      by_cases h1 : i1 = s
      · subst h1
        rcases Nat.lt_trichotomy i2 k with h | h | h
        · rw [if_neg (by simp; omega), if_neg (by simp; omega), upd_ne _ _ (by simp; omega)]
        · subst h
          rw [if_neg (by simp), if_pos (by simp), upd_self]
          simp
        · rw [if_pos (by simp; omega), if_pos (by simp; omega), upd_ne _ _ (by simp; omega)]
          have : i2 - k = (i2 - (k + 1)) + 1 := by omega
          simp only [this, List.getElem?_cons_succ]
      · rw [if_neg (by simp [h1]), if_neg (by simp [h1]), upd_ne _ _ (by simp [h1])]
  funext i
  rw [key B 0 H i]
  simp only [Nat.zero_le, and_true, Nat.sub_zero, bindB]
  rfl

theorem app_H (σ : St) (U : Upd) : (U.app σ).H = applyC σ.H (U.chg σ.nx) := by
  cases U with
  | val d p => cases d <;> rfl
  | new d p b => rfl
  | call d r B => exact (bchg_bindB _ _ _).symm
  | heap i b => rfl
  | mv d k b => cases k <;> rfl
  | io d M r B => rfl

theorem app_fr (σ : St) (U : Upd) (t : Nat) : (U.app σ).fr t = if U.dst = some t then U.v σ.nx else σ.fr t := by
  cases U with
  | val d p =>
    cases d with
    | none => simp [Upd.app, Upd.dst]
    | some d => simp only [Upd.app, Upd.dst, upd, Option.some.injEq, eq_comm (a := t)]; rfl
  | new d p b => simp only [Upd.app, Upd.dst, upd, Option.some.injEq, eq_comm (a := t)]; rfl
  | call d r B => simp only [Upd.app, St.called, Upd.dst, upd, Option.some.injEq, eq_comm (a := t)]; rfl
  | heap i b => simp [Upd.app, Upd.dst]
  | mv d k b => simp only [Upd.app, Upd.dst, upd, Option.some.injEq, eq_comm (a := t)]; rfl
  | io d M r B => simp only [Upd.app, St.iod, Upd.dst, upd, Option.some.injEq, eq_comm (a := t)]; rfl

theorem app_us (σ : St) (U : Upd) (d : Nat) : (U.app σ).us d = (σ.us d || U.tag == some d) := by
  cases U with
  | val e p => cases e <;> simp [Upd.app, Upd.tag]
  | heap i b => simp [Upd.app, Upd.tag]
  | new e p b =>
    by_cases h : d = e
    · subst h; simp [Upd.app, Upd.tag, upd_self]
    · simp [Upd.app, Upd.tag, upd_ne _ _ h, Ne.symm h]
  | call e r B =>
    by_cases h : d = e
    · subst h; simp [Upd.app, St.called, Upd.tag, upd_self]
    · simp [Upd.app, St.called, Upd.tag, upd_ne _ _ h, Ne.symm h]
  | mv e k b =>
    by_cases h : d = e
    · subst h; simp [Upd.app, Upd.tag, upd_self]
    · simp [Upd.app, Upd.tag, upd_ne _ _ h, Ne.symm h]
  | io e M r B =>
    by_cases h : d = e
    · subst h; simp [Upd.app, St.iod, Upd.tag, upd_self]
    · simp [Upd.app, St.iod, Upd.tag, upd_ne _ _ h, Ne.symm h]

theorem app_gh (σ : St) (U : Upd) : (U.app σ).gh = σ.gh := by
  cases U with
  | val d p => cases d <;> rfl
  | _ => rfl
theorem app_nx (σ : St) (U : Upd) : (U.app σ).nx = σ.nx := by
  cases U with
  | val d p => cases d <;> rfl
  | _ => rfl

theorem tag_dst {U : Upd} {d : Nat} (h : U.tag = some d) : U.dst = some d := by
  cases U <;> simp_all [Upd.tag, Upd.dst]

theorem fresh_iff (σ : St) (U : Upd) : U.fresh σ ↔ ∀ d, U.tag = some d → σ.us d = false := by
  cases U <;> simp [Upd.fresh, Upd.tag]

theorem vAddK_dst {nt nx : Nat} {ρ : Operand → Option PV} {H : Id → Option Blk} {d : Option Nat} {op : Op} {U : Upd} (h : vAddK P nt nx ρ H d op (· = U)) : U.dst = d ∧ ∀ c ∈ U.chg nx, U.tag = some (c.1.1 - nx) ∧ nx ≤ c.1.1 := by
  unfold vAddK addK at h
  split at h
  · split at h
    · subst h; exact ⟨rfl, by simp [Upd.chg]⟩
    · obtain ⟨_, rfl⟩ := h; exact ⟨rfl, by simp [Upd.chg]⟩
  · split at h
    · exact h.elim
    · obtain ⟨_, rfl⟩ := h; exact ⟨rfl, by simp [Upd.chg, Upd.tag]⟩
  · exact h.elim

theorem bchg_tag (s : Nat) : ∀ (B : List Blk) (k : Nat), ∀ c ∈ bchg s k B, c.1.1 = s
  | [], k, c, hc => by simp [bchg] at hc
  | b :: B, k, c, hc => by
    simp only [bchg, List.mem_cons] at hc
    rcases hc with rfl | hc
    · rfl
    · exact bchg_tag s B (k + 1) c hc

theorem ioChg_ids {M : List Id} {s : Nat} : ∀ (B : List (Option Blk)) (k : Nat), ∀ c ∈ ioChg M s k B, c.1.1 = s ∨ ∃ j : Nat, M[j]? = some c.1
  | [], k, c, hc => by simp [ioChg] at hc
  | b :: B, k, c, hc => by
    simp only [ioChg, List.mem_cons] at hc
    rcases hc with rfl | hc
    · simp only [outId]
      cases h : M[k]? with
      | none => exact .inl rfl
      | some i => exact .inr ⟨k, h⟩
    · exact ioChg_ids B (k + 1) c hc

theorem vmapAll_at {ρ : Operand → Option PV} {H : Id → Option Blk} {t : TypeId} {m k x : Operand} {i : Id} {b : Blk} (hv : vmapAll P ρ H t m k x = some (i, b)) : H i ≠ none := by
  unfold vmapAll at hv
  split at hv
  · rename_i y hy
    cases hv
    unfold vmapUpd at hy
    split at hy
    · split at hy
      · rename_i hH hd
        split at hy
        · split at hy
          · cases hy; rw [hH]; simp
          · cases hy
        · cases hy
      · cases hy
    · cases hy
  · unfold vmapUpdK at hv
    split at hv
    · split at hv
      · rename_i hH
        split at hv
        · cases hv; rw [hH]; simp
        · cases hv; rw [hH]; simp
        · cases hv
      · cases hv
    · cases hv

theorem vcopy_at {ρ : Operand → Option PV} {H : Id → Option Blk} {c : Call} {k : Nat} {i : Id} {b : Blk} (hv : vcopy P ρ H c = some (k, some (i, b))) : H i ≠ none := by
  unfold vcopy at hv
  split at hv
  · split at hv
    · split at hv
      · split at hv
        · split at hv
          · cases hv
          · unfold copyTo at hv
            split at hv
            · split at hv
              · rename_i hH
                split at hv
                · cases hv; rw [hH]; simp
                · cases hv
              · cases hv
            · cases hv
        · cases hv
      · cases hv
    · cases hv
  · cases hv

/-- Where an operation writes, and what names it changes: its own tag's, or names that it knew. -/
theorem opU_chg {nx : Nat} {ρ : Operand → Option PV} {H : Id → Option Blk} {d : Option Nat} {op : Op} {U : Upd} (h : OpU C nx ρ H d op U) :
    U.dst = d ∧ ∀ c ∈ U.chg nx, (∃ t, U.tag = some t ∧ c.1.1 = nx + t) ∨ (H c.1 ≠ none ∧ U.isM = true ∧ reads op = true) := by
  have add : ∀ {op : Op}, vAddK C.P C.nt nx ρ H d op (· = U) → U.dst = d ∧ ∀ c ∈ U.chg nx, (∃ t, U.tag = some t ∧ c.1.1 = nx + t) ∨ (H c.1 ≠ none ∧ U.isM = true ∧ reads op = true) := by
    intro op h
    obtain ⟨h1, h2⟩ := vAddK_dst h
    refine ⟨h1, fun c hc => .inl ?_⟩
    obtain ⟨h3, h4⟩ := h2 c hc
    exact ⟨_, h3, by omega⟩
  have mv : ∀ {o : Option (Option Id × Blk)} {op : Op}, reads op = true → mvK C.nt d (· = U) o → (∀ i b, o = some (some i, b) → H i ≠ none) → U.dst = d ∧ ∀ c ∈ U.chg nx, (∃ t, U.tag = some t ∧ c.1.1 = nx + t) ∨ (H c.1 ≠ none ∧ U.isM = true ∧ reads op = true) := by
    intro o op hrd h ho
    unfold mvK at h
    split at h
    · rename_i i b
      split at h
      · exact h.elim
      · obtain ⟨_, rfl⟩ := h
        refine ⟨rfl, fun c hc => ?_⟩
        cases i with
        | none => simp only [Upd.chg, List.mem_singleton] at hc; subst hc; exact .inl ⟨_, rfl, rfl⟩
        | some i =>
          simp only [Upd.chg, List.mem_cons, List.not_mem_nil, or_false] at hc
          rcases hc with rfl | rfl
          · exact .inr ⟨ho i b rfl, rfl, hrd⟩
          · exact .inl ⟨_, rfl, rfl⟩
    · exact h.elim
  unfold OpU opK at h
  split at h
  · rename_i c
    split at h
    · unfold callK at h
      split at h
      · split at h
        · exact h.elim
        · obtain ⟨_, ⟨_, r, B, _, _, rfl⟩ | ⟨kd, M, bs, args, r, B, _, _, e3, _, _, _, _, rfl⟩ | ⟨r, B, _, _, _, rfl⟩⟩ := h
          · refine ⟨rfl, fun c hc => .inl ⟨_, rfl, bchg_tag _ _ _ c hc⟩⟩
          · refine ⟨rfl, fun c hc => ?_⟩
            rcases ioChg_ids _ _ c hc with hc | ⟨j, hc⟩
            · exact .inl ⟨_, rfl, hc⟩
            · obtain ⟨b, _, hb⟩ := (gets_get e3).2 j _ hc
              exact .inr ⟨by rw [hb]; simp, rfl, rfl⟩
          · refine ⟨rfl, fun c hc => ?_⟩
            rcases ioChg_ids _ _ c hc with hc | ⟨j, hc⟩
            · exact .inl ⟨_, rfl, hc⟩
            · simp at hc
      · exact h.elim
    · split at h
      · unfold valK at h
        split at h
        · exact h.elim
        · obtain ⟨_, rfl⟩ := h
          exact ⟨rfl, by simp [Upd.chg]⟩
      · exact mv rfl h (fun i b hv => by cases hv)
      · refine mv rfl h fun i b hv => ?_
        unfold vapp at hv
        split at hv
        · split at hv
          · split at hv
            · split at hv
              · split at hv
                · split at hv
                  · rename_i hb _
                    split at hv
                    · cases hv
                      obtain ⟨q, _, hb⟩ := Option.bind_eq_some_iff.1 hb
                      unfold baseOf at hb
                      split at hb
                      · split at hb
                        · rename_i hH
                          split at hb
                          · cases hb; rw [hH]; simp
                          · cases hb
                        · cases hb
                      · cases hb
                      · split at hb
                        · rename_i hH
                          split at hb
                          · cases hb; rw [hH]; simp
                          · cases hb
                        · cases hb
                      · cases hb
                    · cases hv
                  · cases hv
                · cases hv
              · cases hv
            · cases hv
          · unfold vappSZ at hv
            split at hv
            · rename_i y hy
              cases hv
              unfold vappS at hy
              split at hy
              · split at hy
                · split at hy
                  · rename_i hb _
                    split at hy
                    · cases hy
                      obtain ⟨q, _, hb⟩ := Option.bind_eq_some_iff.1 hb
                      unfold baseOf at hb
                      split at hb
                      · split at hb
                        · rename_i hH
                          split at hb
                          · cases hb; rw [hH]; simp
                          · cases hb
                        · cases hb
                      · cases hb
                      · split at hb
                        · rename_i hH
                          split at hb
                          · cases hb; rw [hH]; simp
                          · cases hb
                        · cases hb
                      · cases hb
                    · cases hy
                  · cases hy
                · cases hy
              · cases hy
            · unfold vappZ at hv
              (repeat' split at hv) <;> cases hv
        · cases hv
    · unfold copyK valK at h
      split at h
      · split at h
        · exact h.elim
        · obtain ⟨_, rfl⟩ := h
          exact ⟨rfl, by simp [Upd.chg]⟩
      · rename_i n i b hv
        split at h
        · exact h.elim
        · rename_i d
          obtain ⟨_, rfl⟩ := h
          refine ⟨rfl, fun c hc => ?_⟩
          rcases ioChg_ids _ _ c hc with hc | ⟨j, hc⟩
          · exact .inl ⟨_, rfl, hc⟩
          · cases j with
            | zero =>
              simp only [List.getElem?_cons_zero, Option.some.injEq] at hc
              rw [← hc]
              exact .inr ⟨vcopy_at hv, rfl, rfl⟩
            | succ j => simp at hc
      · exact h.elim
    · exact add h
  · split at h
    · unfold heapK at h
      split at h
      rotate_left
      · exact h.elim
      rename_i i b hv
      subst h
      refine ⟨rfl, fun c hc => .inr ?_⟩
      simp only [Upd.chg, List.mem_singleton] at hc
      subst hc
      refine ⟨?_, rfl, rfl⟩
      unfold vstore at hv
      split at hv
      · split at hv
        · rename_i hH
          split at hv
          · cases hv; rw [hH]; simp
          · cases hv
        · cases hv
      · cases hv
    · exact h.elim
  · split at h
    · unfold heapK at h
      split at h
      rotate_left
      · exact h.elim
      rename_i i b hv
      subst h
      refine ⟨rfl, fun c hc => .inr ?_⟩
      simp only [Upd.chg, List.mem_singleton] at hc
      subst hc
      refine ⟨?_, rfl, rfl⟩
      exact vmapAll_at hv
    · exact h.elim
  · split at h
    · unfold heapK at h
      split at h
      rotate_left
      · exact h.elim
      rename_i i b hv
      subst h
      refine ⟨rfl, fun c hc => .inr ?_⟩
      simp only [Upd.chg, List.mem_singleton] at hc
      subst hc
      refine ⟨?_, rfl, rfl⟩
      exact vmapAll_at hv
    · exact h.elim
  · split at h
    · unfold valK at h
      split at h
      · exact h.elim
      · obtain ⟨_, rfl⟩ := h
        exact ⟨rfl, by simp [Upd.chg]⟩
    · exact h.elim
  · split at h
    · exact add h
    · split at h
      · unfold valK at h
        split at h
        · exact h.elim
        · obtain ⟨_, rfl⟩ := h
          exact ⟨rfl, by simp [Upd.chg]⟩
      · exact h.elim
  · split at h
    · unfold valK at h
      split at h
      · exact h.elim
      · obtain ⟨_, rfl⟩ := h
        exact ⟨rfl, by simp [Upd.chg]⟩
    · exact add h
  · split at h
    · split at h
      · unfold valK at h
        split at h
        · exact h.elim
        · obtain ⟨_, rfl⟩ := h
          exact ⟨rfl, by simp [Upd.chg]⟩
      · exact h.elim
    · split at h
      · exact add h
      · split at h
        · rename_i q hq
          refine mv rfl h fun i b hv => ?_
          cases hv
          unfold vcut at hq
          split at hq
          · split at hq
            · split at hq
              · rename_i hH _
                split at hq
                · cases hq; rw [hH]; simp
                · cases hq
              · cases hq
            · cases hq
          · cases hq
        · exact add h
    · exact add h
  · exact add h

theorem collect_at {nx : Nat} (i : Id) {v v' : Nat → Bool} : ∀ (Us : List Upd) (k : Nat), (∀ j U, Us[j]? = some U → v (k + j) ≠ v' (k + j) → ∀ c ∈ U.chg nx, c.1 ≠ i) →
    (collect nx v k Us).filter (fun c => c.1 = i) = (collect nx v' k Us).filter fun c => c.1 = i
  | [], k, h => rfl
  | U :: Us, k, h => by
    simp only [collect, List.filter_append]
    rw [collect_at i Us (k + 1) fun j V hV hne => h (j + 1) V (by simpa using hV) (by rwa [Nat.add_comm j 1, ← Nat.add_assoc])]
    congr 1
    have h0 := h 0 U rfl
    simp only [Nat.add_zero] at h0
    by_cases hv : v k = v' k
    · rw [hv]
    · have : (U.chg nx).filter (fun c => c.1 = i) = [] := by
        rw [List.filter_eq_nil_iff]
        intro c hc
        simpa using h0 hv c hc
      have e1 : ∀ b : Bool, (if b = true then U.chg nx else []).filter (fun c => c.1 = i) = [] := by
        intro b; cases b
        · rfl
        · exact this
      rw [e1, e1]

/-- One operation's changes may come last. -/
theorem collect_add {nx : Nat} (i : Id) {S S' : Nat → Bool} {U : Upd} : ∀ (Us : List Upd) (k m : Nat) (H : Id → Option Blk), Us[m]? = some U → S (k + m) = false → S' (k + m) = true → (∀ j, j ≠ m → S (k + j) = S' (k + j)) →
    (∀ j V, m < j → Us[j]? = some V → S (k + j) = true → ∀ c ∈ V.chg nx, ∀ e ∈ U.chg nx, c.1 ≠ e.1) →
    applyC (applyC H (collect nx S k Us)) (U.chg nx) i = applyC H (collect nx S' k Us) i
  | [], k, m, H, hU, _, _, _, _ => by simp at hU
  | V :: Us, k, 0, H, hU, h0, h1, hs, hd => by
    simp only [List.getElem?_cons_zero, Option.some.injEq] at hU
    subst hU
    simp only [Nat.add_zero] at h0 h1
    simp only [collect, h0, h1, if_true, Bool.false_eq_true, if_false, List.nil_append]
    have hc : collect nx S (k + 1) Us = collect nx S' (k + 1) Us := by
      have key : ∀ (l : List Upd) (q : Nat), k < q → collect nx S q l = collect nx S' q l := by
        intro l
        induction l with
        | nil => intro q _; rfl
        | cons W l ih =>
          intro q hq
          have := hs (q - k) (by omega)
          rw [show k + (q - k) = q by omega] at this
          simp only [collect, this, ih (q + 1) (by omega)]
      exact key Us (k + 1) (by omega)
    rw [hc]
    rw [← applyC_append]
    -- the two lists differ in order alone
    by_cases hin : ∃ e ∈ V.chg nx, e.1 = i
    · obtain ⟨e, he, hei⟩ := hin
      have hno : ∀ c ∈ collect nx S' (k + 1) Us, c.1 ≠ i := by
        have key : ∀ (l : List Upd) (q : Nat), (∀ j W, l[j]? = some W → S' (q + j) = true → ∀ c ∈ W.chg nx, c.1 ≠ i) → ∀ c ∈ collect nx S' q l, c.1 ≠ i := by
          intro l
          induction l with
          | nil => intro q _ c hc; simp [collect] at hc
          | cons W l ih =>
            intro q hq c hc
            simp only [collect, List.mem_append] at hc
            rcases hc with hc | hc
            · have := hq 0 W rfl
              simp only [Nat.add_zero] at this
              split at hc
              · rename_i hs'; exact this hs' c hc
              · simp at hc
            · exact ih (q + 1) (fun j W' hW hs' => hq (j + 1) W' (by simpa using hW) (by rwa [Nat.add_comm j 1, ← Nat.add_assoc])) c hc
        refine key Us (k + 1) fun j W hW hs' c hc => ?_
        rw [← hei]
        refine hd (j + 1) W (by omega) (by simpa using hW) ?_ c hc e he
        rw [hs (j + 1) (by omega), Nat.add_comm j 1, ← Nat.add_assoc]
        exact hs'
      rw [applyC_at i _ H H rfl, applyC_at i (V.chg nx ++ _) H H rfl, List.filter_append, List.filter_append]
      have : (collect nx S' (k + 1) Us).filter (fun c => c.1 = i) = [] := by
        rw [List.filter_eq_nil_iff]; intro c hc; simpa using hno c hc
      simp [this]
    · rw [applyC_at i _ H H rfl, applyC_at i (V.chg nx ++ _) H H rfl, List.filter_append, List.filter_append]
      have : (V.chg nx).filter (fun c => c.1 = i) = [] := by
        rw [List.filter_eq_nil_iff]; intro c hc; simp; intro he; exact hin ⟨c, hc, he⟩
      simp [this]
  | V :: Us, k, m + 1, H, hU, h0, h1, hs, hd => by
    have e0 := hs 0 (by omega)
    simp only [Nat.add_zero] at e0
    simp only [collect, e0]
    rw [applyC_append, applyC_append]
    exact collect_add i Us (k + 1) m _ (by simpa using hU) (by rw [Nat.add_assoc, Nat.add_comm 1 m]; exact h0) (by rw [Nat.add_assoc, Nat.add_comm 1 m]; exact h1)
      (fun j hj => by have := hs (j + 1) (by omega); rwa [Nat.add_comm j 1, ← Nat.add_assoc] at this)
      (fun j W hj hW hs' => hd (j + 1) W (by omega) (by simpa using hW) (by rwa [Nat.add_comm j 1, ← Nat.add_assoc]))

theorem frAt_hit {nx : Nat} {vis late : Nat → Bool} {fr : Nat → Option PV} {t : Nat} : ∀ (ops : List Oper) (k : Nat) (Us : List Upd) (j : Nat) (o : Oper), ops[j]? = some o → o.dst = some t → (∀ i o', i < j → ops[i]? = some o' → o'.dst ≠ some t) →
    frAt nx vis late fr k ops Us t = if vis (k + j) then (Us[j]?).bind (Upd.v nx) else if late (k + j) then fr t else none
  | [], k, Us, j, o, ho, _, _ => by simp at ho
  | o' :: ops, k, Us, 0, o, ho, hd, _ => by
    simp only [List.getElem?_cons_zero, Option.some.injEq] at ho
    subst ho
    simp only [frAt, hd, if_true, Nat.add_zero]
    cases Us <;> rfl
  | o' :: ops, k, Us, j + 1, o, ho, hd, hn => by
    have h0 := hn 0 o' (by omega) rfl
    simp only [frAt, if_neg h0]
    rw [frAt_hit ops (k + 1) Us.tail j o (by simpa using ho) hd fun i o'' hi ho'' => hn (i + 1) o'' (by omega) (by simpa using ho'')]
    rw [Nat.add_assoc, Nat.add_comm 1 j]
    cases Us <;> simp

theorem frAt_miss {nx : Nat} {vis late : Nat → Bool} {fr : Nat → Option PV} {t : Nat} : ∀ (ops : List Oper) (k : Nat) (Us : List Upd), (∀ (j : Nat) (o : Oper), ops[j]? = some o → o.dst ≠ some t) → frAt nx vis late fr k ops Us t = fr t
  | [], k, Us, _ => rfl
  | o :: ops, k, Us, h => by
    simp only [frAt, if_neg (h 0 o rfl)]
    exact frAt_miss ops (k + 1) Us.tail fun j o' ho' => h (j + 1) o' (by simpa using ho')

theorem masked_spec {nx : Nat} {k : Nat} {i : Id} : ∀ (ops : List Oper) (q : Nat), masked nx D k q ops i = false → ∀ (j : Nat) (o : Oper) (d : Nat), ops[j]? = some o → o.dst = some d → isDep D (q + j) k = false → q + j ≠ k → i.1 ≠ nx + d
  | [], q, _, j, o, d, ho, _, _, _ => by simp at ho
  | o' :: ops, q, h, 0, o, d, ho, hd, hD, hk => by
    simp only [List.getElem?_cons_zero, Option.some.injEq] at ho
    subst ho
    simp only [Nat.add_zero] at hD hk
    simp only [masked, hd, hD, Bool.or_eq_false_iff] at h
    intro he
    simp [he, hk] at h
  | o' :: ops, q, h, j + 1, o, d, ho, hd, hD, hk => by
    simp only [masked, Bool.or_eq_false_iff] at h
    have := masked_spec ops (q + 1) h.2 j o d (by simpa using ho) hd (by rw [Nat.add_assoc, Nat.add_comm 1 j]; exact hD) (by omega)
    exact this
end

def OpG (C : Core) (ops : List Oper) (nx : Nat) (fr : Nat → Option PV) (H : Id → Option Blk) (g : Option (Nat × Bool)) (d : Option Nat) (op : Op) (U : Upd) : Prop := gK C ops nx fr H g d op (· = U)
section
variable {C : Ctx} {ops : List Oper} {nx : Nat} {fr : Nat → Option PV} {H : Id → Option Blk} {g : Option (Nat × Bool)} {d : Option Nat} {op : Op} {K K' : Upd → Prop} {U : Upd}
theorem gK_elim (h : gK C ops nx fr H g d op K) : ∃ U, OpG C ops nx fr H g d op U ∧ K U := by
  unfold OpG
  cases g with
  | none => exact opK_elim h
  | some gw =>
    obtain ⟨g, want⟩ := gw
    simp only [gK] at h ⊢
    split at h
    · split at h
      · rename_i hv
        obtain ⟨U, h1, h2⟩ := opK_elim h
        exact ⟨U, by rw [if_pos hv]; exact h1, h2⟩
      · rename_i hv
        exact ⟨_, by rw [if_neg hv]; exact ⟨h.1, rfl⟩, h.2⟩
    · exact h.elim
theorem opG_cases (h : OpG C ops nx fr H g d op U) : OpU C nx (ev fr) H d op U ∨ U = .val d (.tup []) := by
  unfold OpG at h
  cases g with
  | none => exact .inl h
  | some gw =>
    obtain ⟨g, want⟩ := gw
    simp only [gK] at h
    split at h
    · split at h
      · exact .inl h
      · exact .inr h.2.symm
    · exact h.elim
theorem opG_chg (h : OpG C ops nx fr H g d op U) :
    U.dst = d ∧ ∀ c ∈ U.chg nx, (∃ t, U.tag = some t ∧ c.1.1 = nx + t) ∨ (H c.1 ≠ none ∧ U.isM = true ∧ reads op = true) := by
  rcases opG_cases h with h | rfl
  · exact opU_chg h
  · exact ⟨rfl, by simp [Upd.chg]⟩
end
/-- What is known of a region that draws its order, once all its operations have been told. -/
structure Told (C : Core) (ops : List Oper) (D : List (List Nat)) (σ : St) (Us : List Upd) : Prop where
  len : Us.length = ops.length
  order : orderX ops D σ.nx σ.fr Us = true
  deps : depOk ops D = true
  dsts : dstsOk ops = true
  op : ∀ k o U, ops[k]? = some o → Us[k]? = some U → ∃ Us' fr Hv, (∀ j, j < k → Us'[j]? = Us[j]?) ∧ (∀ t p, fr t = some p → frAt σ.nx (isDep D · k) (isDep D k) σ.fr 0 ops Us' t = some p) ∧ (∀ i b, Hv i = some b → HAt σ ops D Us' k (reads o.op) i = some b) ∧ OpG C ops σ.nx fr Hv o.guard o.dst o.op U ∧ U.fresh σ

section
variable {C : Ctx} {φ φ' : Id → Option Value} {F : Bool → Nat → Prop} {F0 F1 : Nat → Prop} {σ : St} {a : Act} {w w' : World} {P : Program} {ops : List Oper} {D : List (List Nat)} {Us : List Upd}

theorem anyRun_told {Q : St → Prop} (hd : depOk ops D = true) (hs : dstsOk ops = true) (h : anyRun C ops D σ 0 ops [] Q) : ∃ Us, Told C ops D σ Us ∧ Q (Us.foldl Upd.app σ) := by
  have key : ∀ (rest : List Oper) (k : Nat) (Us0 : List Upd), Us0.length = k → (∀ j, rest[j]? = ops[k + j]?) → anyRun C ops D σ k rest Us0 Q →
      ∃ Us, Us.length = k + rest.length ∧ (∀ j, j < k → Us[j]? = Us0[j]?) ∧ orderX ops D σ.nx σ.fr Us = true ∧ Q (Us.foldl Upd.app σ) ∧
        ∀ j o U, k ≤ j → ops[j]? = some o → Us[j]? = some U → ∃ Us', (∀ i, i < j → Us'[i]? = Us[i]?) ∧ OpG C ops σ.nx (frAt σ.nx (isDep D · j) (isDep D j) σ.fr 0 ops Us') (HAt σ ops D Us' j (reads o.op)) o.guard o.dst o.op U ∧ U.fresh σ := by
    intro rest
    induction rest with
    | nil =>
      intro k Us0 hl hr h
      refine ⟨Us0, by simpa using hl, fun _ _ => rfl, h.1, h.2, fun j o U hj ho hU => ?_⟩
      have := (List.getElem?_eq_some_iff.1 hU).1
      omega
    | cons o rest ih =>
      intro k Us0 hl hr h
      simp only [anyRun] at h
      obtain ⟨U, hU, hf, hn⟩ := gK_elim h
      obtain ⟨Us, h1, h2, h3, h4, h5⟩ := ih (k + 1) (Us0 ++ [U]) (by simp [hl]) (fun j => by have := hr (j + 1); simpa [Nat.add_assoc, Nat.add_comm 1 j] using this) hn
      refine ⟨Us, by simp [h1]; omega, fun j hj => ?_, h3, h4, fun j o' U' hj ho' hU' => ?_⟩
      · rw [h2 j (by omega), List.getElem?_append_left (by omega)]
      · rcases Nat.lt_or_ge k j with hlt | hge
        · exact h5 j o' U' hlt ho' hU'
        · have hjk : j = k := by omega
          subst hjk
          have e1 : o' = o := by
            have := hr 0
            simp only [List.getElem?_cons_zero, Nat.add_zero] at this
            rw [ho'] at this; cases this; rfl
          have e2 : U' = U := by
            rw [h2 j (by omega), List.getElem?_append_right (by omega), hl] at hU'
            simp at hU'; exact hU'.symm
          subst e1 e2
          exact ⟨Us0, fun i hi => by rw [h2 i (by omega), List.getElem?_append_left (by omega)], hU, hf⟩
  obtain ⟨Us, h1, _, h3, h4, h5⟩ := key ops 0 [] rfl (by simp) h
  refine ⟨Us, ⟨by simpa using h1, h3, hd, hs, fun k o U ho hU => ?_⟩, h4⟩
  obtain ⟨Us', h6, h7, h8⟩ := h5 k o U (Nat.zero_le _) ho hU
  exact ⟨Us', _, _, h6, fun _ _ e => e, fun _ _ e => e, h7, h8⟩

theorem depOk_spec (h : depOk ops D = true) {k : Nat} {o : Oper} (ho : ops[k]? = some o) :
    (∀ e ∈ o.after, Region.binds .any e = true → e.on < k) ∧ (∀ j, isDep D j k = true → ∃ e ∈ o.after, Region.binds .any e = true ∧ (e.on = j ∨ isDep D j e.on = true)) := by
  unfold depOk at h
  rw [List.all_eq_true] at h
  have := h k (List.mem_range.2 (List.getElem?_eq_some_iff.1 ho).1)
  rw [ho] at this
  simp only [Bool.and_eq_true, List.all_eq_true, List.any_eq_true, Bool.or_eq_true, decide_eq_true_eq, Bool.not_eq_true', beq_iff_eq] at this
  obtain ⟨h1, h2⟩ := this
  refine ⟨fun e he hb => ?_, fun j hj => ?_⟩
  · rcases h1 e (by simpa using he) with h4 | h4
    · rw [hb] at h4; cases h4
    · exact h4
  · obtain ⟨e, he, hb, h4⟩ := h2 j (by simpa [isDep] using hj)
    exact ⟨e, by simpa using he, hb, h4⟩

theorem dstsOk_spec (h : dstsOk ops = true) {j k : Nat} {o o' : Oper} {d : Nat} (hj : ops[j]? = some o) (hk : ops[k]? = some o') (h1 : o.dst = some d) (h2 : o'.dst = some d) : j = k := by
  unfold dstsOk at h
  rw [List.all_eq_true] at h
  have := h j (List.mem_range.2 (List.getElem?_eq_some_iff.1 hj).1)
  rw [List.all_eq_true] at this
  have := this k (List.mem_range.2 (List.getElem?_eq_some_iff.1 hk).1)
  simpa [hj, hk, h1, h2] using this

theorem orderOk_spec (h : orderOk ops D Us = true) {j k : Nat} {o : Oper} {U : Upd} (hj : Us[j]? = some U) (hk : ops[k]? = some o) (hjl : j < ops.length) (hM : U.isM = true) (hr : reads o.op = true) (hne : j ≠ k) :
    isDep D j k = true ∨ isDep D k j = true := by
  unfold orderOk at h
  rw [List.all_eq_true] at h
  have := h j (List.mem_range.2 hjl)
  rw [hj] at this
  simp only [Option.any_some, hM, Bool.not_true, Bool.false_or, List.all_eq_true] at this
  have := this k (List.mem_range.2 (List.getElem?_eq_some_iff.1 hk).1)
  simpa [hk, hr, hne] using this

theorem orderX_spec {nx : Nat} {fr : Nat → Option PV} (h : orderX ops D nx fr Us = true) {j k : Nat} {o : Oper} {U : Upd} (hj : Us[j]? = some U) (hk : ops[k]? = some o) (hjl : j < ops.length) (hM : U.isM = true) (hr : reads o.op = true) (hne : j ≠ k) :
    (isDep D j k = true ∨ isDep D k j = true) ∨ ∀ c ∈ U.chg nx, masked nx D k 0 ops c.1 = true ∨ ∃ i, ptrAt nx fr ops D Us k o.op = some i ∧ c.1 ≠ i := by
  unfold orderX at h
  split at h
  · rename_i h0
    exact .inl (orderOk_spec h0 hj hk hjl hM hr hne)
  · unfold orderOk1 at h
    rw [List.all_eq_true] at h
    have := h j (List.mem_range.2 hjl)
    rw [hj] at this
    simp only [Option.any_some, hM, Bool.not_true, Bool.false_or, List.all_eq_true] at this
    have := this k (List.mem_range.2 (List.getElem?_eq_some_iff.1 hk).1)
    simp only [hk, hr, Option.any_some, Bool.not_true, Bool.or_false, Bool.or_eq_true, beq_iff_eq, hne, false_or, Option.all_some, List.all_eq_true] at this
    rcases this with this | this
    · exact .inl this
    · refine .inr fun c hc => ?_
      have := this c hc
      simp only [Option.bind_some, Option.any_eq_true, Bool.not_eq_true', decide_eq_false_iff_not] at this
      exact this

/-- The state behind a set of the operations. -/
def St.behind (σ : St) (ops : List Oper) (Us : List Upd) (S : Nat → Bool) : St :=
  ⟨frAt σ.nx S (fun _ => true) σ.fr 0 ops Us, applyC σ.H (collect σ.nx S 0 Us), fun d => σ.us d || (List.range Us.length).any fun j => S j && (Us[j]?).any (·.tag == some d), σ.nx, σ.gh⟩

/-- Everything that one of them waits for has come up. -/
def Shut (ops : List Oper) (S : Nat → Bool) : Prop := ∀ k o, ops[k]? = some o → S k = true → ∀ e ∈ o.after, Region.binds .any e = true → S e.on = true

theorem dep_in (h : depOk ops D = true) {S : Nat → Bool} (hS : Shut ops S) : ∀ (k : Nat) (o : Oper), ops[k]? = some o → (∀ e ∈ o.after, Region.binds .any e = true → S e.on = true) → ∀ j, isDep D j k = true → S j = true := by
  intro k
  induction k using Nat.strongRecOn with
  | _ k ih =>
    intro o ho hr j hj
    obtain ⟨h1, h2⟩ := depOk_spec h ho
    obtain ⟨e, he, hb, hcase⟩ := h2 j hj
    rcases hcase with rfl | hcase
    · exact hr e he hb
    · have hlt := h1 e he hb
      have hk := (List.getElem?_eq_some_iff.1 ho).1
      have ho' : ops[e.on]? = some ops[e.on] := List.getElem?_eq_getElem (by omega)
      exact ih e.on hlt _ ho' (fun e' he' hb' => hS e.on _ ho' (hr e he hb) e' he' hb') j hcase

theorem dep_lt (h : depOk ops D = true) : ∀ (k : Nat) (o : Oper), ops[k]? = some o → ∀ j, isDep D j k = true → j < k := by
  intro k
  induction k using Nat.strongRecOn with
  | _ k ih =>
    intro o ho j hj
    obtain ⟨h1, h2⟩ := depOk_spec h ho
    obtain ⟨e, he, hb, hcase⟩ := h2 j hj
    have hlt := h1 e he hb
    rcases hcase with rfl | hcase
    · exact hlt
    · have hk := (List.getElem?_eq_some_iff.1 ho).1
      have := ih e.on hlt _ (List.getElem?_eq_getElem (by omega)) j hcase
      omega
end
end Go.Vm
end
