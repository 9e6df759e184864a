/-
  Abstract states over the model's worlds, and that a step of them is a step of the program: part T of a framework. Conditions: each theorem's own premises. By an AI agent.
-/
import Derived.Test.YtnpbndglolcilaaDoorVmS
namespace Go.Vm
open Go Go.RowKit
set_option linter.unusedVariables false

/-! ### Names anew; rows of the call's own that are only read from now on -/
mutual
inductive Conv (H : Id → Option Blk) (Z : Id → Prop) (G : Id → Id → Prop) : PC → PC → Prop
  | free {p} : p.free = true → Conv H Z G p p
  | nil {t} : Conv H Z G (.c (.slice none 0 0)) (.sl t 0 [])
  | own {i j} : G i j → Conv H Z G (.own i) (.own j)
  | loc {i j off} : G i j → Conv H Z G (.loc i off) (.loc j off)
  | frz {i e z n cs cs'} : Z i → H i = some (.arr e z n cs) → ConvL H Z G cs cs' → Conv H Z G (.own i) (.sl true n cs')
  | frzloc {i off b ys} : Z i → H i = some b → ConvL H Z G (b.cells.drop off) ys → Conv H Z G (.loc i off) (.at true ys)
  | sl {t t' n xs xs'} : (t' = true → t = true) → ConvL H Z G xs xs' → Conv H Z G (.sl t n xs) (.sl t' n xs')
  | at {t t' xs xs'} : (t' = true → t = true) → ConvL H Z G xs xs' → Conv H Z G (.at t xs) (.at t' xs')
  | fn {f cs cs'} : ConvL H Z G cs cs' → Conv H Z G (.fn f cs) (.fn f cs')
inductive ConvL (H : Id → Option Blk) (Z : Id → Prop) (G : Id → Id → Prop) : List PC → List PC → Prop
  | nil : ConvL H Z G [] []
  | cons {p p' ps ps'} : Conv H Z G p p' → ConvL H Z G ps ps' → ConvL H Z G (p :: ps) (p' :: ps')
end

mutual
inductive ConvV (H : Id → Option Blk) (Z : Id → Prop) (G : Id → Id → Prop) : PV → PV → Prop
  | one {p p'} : Conv H Z G p p' → ConvV H Z G (.one p) (.one p')
  | agg {ps ps'} : ConvL H Z G ps ps' → ConvV H Z G (.agg ps) (.agg ps')
  | tup {ps ps'} : ConvVs H Z G ps ps' → ConvV H Z G (.tup ps) (.tup ps')
inductive ConvVs (H : Id → Option Blk) (Z : Id → Prop) (G : Id → Id → Prop) : List PV → List PV → Prop
  | nil : ConvVs H Z G [] []
  | cons {p p' ps ps'} : ConvV H Z G p p' → ConvVs H Z G ps ps' → ConvVs H Z G (p :: ps) (p' :: ps')
end

inductive ConvB (H : Id → Option Blk) (Z : Id → Prop) (G : Id → Id → Prop) : Blk → Blk → Prop
  | box {ty cs cs'} : ConvL H Z G cs cs' → ConvB H Z G (.box ty cs) (.box ty cs')
  | arr {ty z n cs cs'} : ConvL H Z G cs cs' → ConvB H Z G (.arr ty z n cs) (.arr ty z n cs')

section
variable {H : Id → Option Blk} {Z : Id → Prop} {G : Id → Id → Prop} {φ φ' : Id → Option Value} {w : World} {F F' : Bool → Nat → Prop}

theorem ConvL.free : ∀ {ps : List PC}, PC.frees ps = true → ConvL H Z G ps ps
  | [], _ => .nil
  | p :: ps, h => by
    simp only [PC.frees, Bool.and_eq_true] at h
    exact .cons (.free h.1) (ConvL.free h.2)

theorem ConvL.append : ∀ {ps ps' qs qs' : List PC}, ConvL H Z G ps ps' → ConvL H Z G qs qs' → ConvL H Z G (ps ++ qs) (ps' ++ qs')
  | [], _, _, _, h, h' => by cases h; exact h'
  | p :: ps, _, _, _, h, h' => by
    cases h with
    | cons h1 h2 => exact .cons h1 (ConvL.append h2 h')

theorem ConvV.free {p : PV} (h : p.free = true) (hn : ∀ vs, p ≠ .tup vs) : ConvV H Z G p p := by
  cases p with
  | one p => exact .one (.free h)
  | agg ps => exact .agg (.free h)
  | tup vs => exact absurd rfl (hn vs)
  | may b p => simp [PV.free] at h

theorem tag_le (hS : ∀ g, F' true g → F' false g) {t t' : Bool} (h : t' = true → t = true) (g : Nat) (hg : F' t g) : F' t' g := by
  cases t <;> cases t'
  · exact hg
  · cases h rfl
  · exact hS g hg
  · exact hg

mutual
theorem conv_rep (hF : ∀ t g, F t g → F' t g) (hG : ∀ i j u, G i j → φ i = some u → φ' j = some u) (hH : ∀ i b, H i = some b → holds φ w F i b)
  (hZ : ∀ i b u g, Z i → H i = some b → φ i = some u → blkOf u = some g → F' true g) (hS : ∀ g, F' true g → F' false g) : ∀ {p p' : PC}, Conv H Z G p p' → ∀ {x : Value}, rep φ w F p x → rep φ' w F' p' x
  | _, _, .free hp, x, hr => free_rep hF _ _ hp hr
  | _, _, .nil, x, hr => by
    simp only [rep] at hr ⊢
    obtain ⟨rfl, _⟩ := hr
    exact ⟨none, 0, rfl, Nat.le_refl _, .inl (by simp)⟩
  | _, _, .own hg, x, hr => by
    simp only [rep] at hr ⊢
    exact ⟨hG _ _ _ hg hr.1, hr.2⟩
  | _, _, .loc hg, x, hr => by
    simp only [rep] at hr ⊢
    obtain ⟨u, g, hu, hb, hx⟩ := hr
    exact ⟨u, g, hG _ _ _ hg hu, hb, hx⟩
  | _, _, .frz (i := i) (e := e) (z := z) (n := n) (cs := cs) (cs' := cs') hz hb hc, x, hr => by
    simp only [rep] at hr ⊢
    obtain ⟨hφ, _⟩ := hr
    have hh := hH i _ hb
    have hh' := hh
    obtain ⟨v, vs, hv, ⟨hl, ho⟩, hrs⟩ := hh
    rw [hφ] at hv
    cases hv
    rcases ho with ⟨rfl, rfl⟩ | ⟨g, cap, cur, rfl, _, hcur, hn, _⟩
    · refine ⟨none, 0, rfl, Nat.le_refl _, .inl ⟨rfl, ?_⟩⟩
      have : cs = [] := List.length_eq_zero_iff.1 (by rw [← reps_length _ _ hrs, hl]; simp)
      subst this
      cases hc
      rfl
    · exact ⟨_, cap, rfl, hn, .inr ⟨_, rfl, hZ i _ _ _ hz hb hφ rfl, convAt_rep hF hG hH hZ hS hc (holds_repAt hh' hφ rfl)⟩⟩
  | _, _, .frzloc (i := i) (off := off) (b := b) hz hb hc, x, hr => by
    simp only [rep] at hr ⊢
    obtain ⟨u, g, hu, hg, rfl⟩ := hr
    have := repAt_drop (holds_repAt (hH i _ hb) hu hg) off
    rw [Addr.add_lit, Nat.zero_add] at this
    exact ⟨_, rfl, hZ i _ _ _ hz hb hu hg, convAt_rep hF hG hH hZ hS hc this⟩
  | _, _, .sl (t := t) (t' := t') ht hc, x, hr => by
    simp only [rep] at hr ⊢
    obtain ⟨A, cap, hx, hn, h⟩ := hr
    refine ⟨A, cap, hx, hn, ?_⟩
    rcases h with ⟨h1, h2⟩ | ⟨ad, ha, hf, h⟩
    · subst h2
      cases hc
      exact .inl ⟨h1, rfl⟩
    · exact .inr ⟨ad, ha, tag_le hS ht _ (hF _ _ hf), convAt_rep hF hG hH hZ hS hc h⟩
  | _, _, .at ht hc, x, hr => by
    simp only [rep] at hr ⊢
    obtain ⟨ad, hx, hf, h⟩ := hr
    exact ⟨ad, hx, tag_le hS ht _ (hF _ _ hf), convAt_rep hF hG hH hZ hS hc h⟩
  | _, _, .fn hc, x, hr => by
    simp only [rep] at hr ⊢
    obtain ⟨vs, hx, h⟩ := hr
    exact ⟨vs, hx, convL_rep hF hG hH hZ hS hc h⟩
theorem convAt_rep (hF : ∀ t g, F t g → F' t g) (hG : ∀ i j u, G i j → φ i = some u → φ' j = some u) (hH : ∀ i b, H i = some b → holds φ w F i b)
  (hZ : ∀ i b u g, Z i → H i = some b → φ i = some u → blkOf u = some g → F' true g) (hS : ∀ g, F' true g → F' false g) : ∀ {ps ps' : List PC}, ConvL H Z G ps ps' → ∀ {ad : Addr}, repAt φ w F ad ps → repAt φ' w F' ad ps'
  | _, _, .nil, ad, hr => by simp only [repAt]
  | _, _, .cons h1 h2, ad, hr => by
    simp only [repAt] at hr ⊢
    obtain ⟨⟨v, hv, hr1⟩, hr2⟩ := hr
    exact ⟨⟨v, hv, conv_rep hF hG hH hZ hS h1 hr1⟩, convAt_rep hF hG hH hZ hS h2 hr2⟩
theorem convL_rep (hF : ∀ t g, F t g → F' t g) (hG : ∀ i j u, G i j → φ i = some u → φ' j = some u) (hH : ∀ i b, H i = some b → holds φ w F i b)
  (hZ : ∀ i b u g, Z i → H i = some b → φ i = some u → blkOf u = some g → F' true g) (hS : ∀ g, F' true g → F' false g) : ∀ {ps ps' : List PC}, ConvL H Z G ps ps' → ∀ {vs : List Value}, reps φ w F ps vs → reps φ' w F' ps' vs
  | _, _, .nil, vs, hr => by simpa only [reps] using hr
  | _, _, .cons h1 h2, vs, hr => by
    simp only [reps] at hr ⊢
    obtain ⟨v, vs', hx, hr1, hr2⟩ := hr
    exact ⟨v, vs', hx, conv_rep hF hG hH hZ hS h1 hr1, convL_rep hF hG hH hZ hS h2 hr2⟩
end

mutual
theorem convV_rep (hF : ∀ t g, F t g → F' t g) (hG : ∀ i j u, G i j → φ i = some u → φ' j = some u) (hH : ∀ i b, H i = some b → holds φ w F i b)
  (hZ : ∀ i b u g, Z i → H i = some b → φ i = some u → blkOf u = some g → F' true g) (hS : ∀ g, F' true g → F' false g) : ∀ {p p' : PV}, ConvV H Z G p p' → ∀ {x : Value}, repV φ w F p x → repV φ' w F' p' x
  | _, _, .one h, x, hr => by
    simp only [repV] at hr ⊢
    exact conv_rep hF hG hH hZ hS h hr
  | _, _, .agg h, x, hr => by
    simp only [repV] at hr ⊢
    obtain ⟨vs, hx, hr⟩ := hr
    exact ⟨vs, hx, convL_rep hF hG hH hZ hS h hr⟩
  | _, _, .tup h, x, hr => by
    simp only [repV] at hr ⊢
    obtain ⟨vs, hx, hr⟩ := hr
    exact ⟨vs, hx, convVs_rep hF hG hH hZ hS h hr⟩
theorem convVs_rep (hF : ∀ t g, F t g → F' t g) (hG : ∀ i j u, G i j → φ i = some u → φ' j = some u) (hH : ∀ i b, H i = some b → holds φ w F i b)
  (hZ : ∀ i b u g, Z i → H i = some b → φ i = some u → blkOf u = some g → F' true g) (hS : ∀ g, F' true g → F' false g) : ∀ {ps ps' : List PV}, ConvVs H Z G ps ps' → ∀ {xs : List Value}, repVs φ w F ps xs → repVs φ' w F' ps' xs
  | _, _, .nil, xs, hr => by simpa only [repVs] using hr
  | _, _, .cons h1 h2, xs, hr => by
    simp only [repVs] at hr ⊢
    obtain ⟨v, vs', hx, hr1, hr2⟩ := hr
    exact ⟨v, vs', hx, convV_rep hF hG hH hZ hS h1 hr1, convVs_rep hF hG hH hZ hS h2 hr2⟩
end
end

section
variable {C : Ctx} {φ : Id → Option Value} {F0 F1 : Nat → Prop} {σ τ : St} {a : Act} {w : World}

/-- The blocks that are only read from now on. -/
def Frozen (φ : Id → Option Value) (σ : St) (Z : Id → Prop) (g : Nat) : Prop := ∃ i u, Z i ∧ σ.H i ≠ none ∧ φ i = some u ∧ blkOf u = some g

theorem exists_names (G : Id → Id → Prop) (hG : ∀ i i' j, G i j → G i' j → i = i') (φ : Id → Option Value) : ∃ φ' : Id → Option Value, ∀ j u, φ' j = some u ↔ ∃ i, G i j ∧ φ i = some u := by
  refine ⟨fun j => open Classical in if h : ∃ i, G i j then φ h.choose else none, fun j u => ?_⟩
  by_cases h : ∃ i, G i j
  · simp only [dif_pos h]
    constructor
    · intro hu; exact ⟨_, h.choose_spec, hu⟩
    · rintro ⟨i, hi, hu⟩
      rw [hG _ _ _ h.choose_spec hi]
      exact hu
  · simp only [dif_neg h]
    constructor
    · intro hu; cases hu
    · rintro ⟨i, hi, _⟩; exact absurd ⟨i, hi⟩ h

theorem RelX.conv (h : RelX C φ F0 F1 σ a w) (hfull : ∀ g, g < C.w0.heap.size → C.K0 g) (Z : Id → Prop) (G : Id → Id → Prop)
    (hG1 : ∀ i i' j, G i j → G i' j → i = i') (hG2 : ∀ i j j', G i j → G i j' → j = j')
    (hfr : ∀ t p', τ.fr t = some p' → ∃ p, σ.fr t = some p ∧ ConvV σ.H Z G p p')
    (hH : ∀ j b', τ.H j = some b' → ∃ i b, G i j ∧ ¬ Z i ∧ σ.H i = some b ∧ ConvB σ.H Z G b b')
    (hid : ∀ i j, G i j → j.1 < τ.nx ∨ ∃ d, τ.us d = true ∧ j.1 = τ.nx + d) :
    ∃ φ' F0' F1', RelX C φ' F0' F1' τ a w ∧ (∀ p p' x, ConvV σ.H Z G p p' → repV φ w (Fs F0 F1) p x → repV φ' w (Fs F0' F1') p' x) ∧ ∀ j u, φ' j = some u ↔ ∃ i, G i j ∧ φ i = some u := by
  obtain ⟨φ', hφ'⟩ := exists_names G hG1 φ
  have hF : ∀ t g, Fs F0 F1 t g → Fs (fun g => F0 g ∨ Frozen φ σ Z g) (fun g => F1 g ∨ Frozen φ σ Z g) t g := by
    intro t g hg; cases t <;> exact .inl hg
  have hG : ∀ i j u, G i j → φ i = some u → φ' j = some u := fun i j u hg hu => (hφ' j u).2 ⟨i, hg, hu⟩
  have hZ : ∀ i b u g, Z i → σ.H i = some b → φ i = some u → blkOf u = some g → Fs (fun g => F0 g ∨ Frozen φ σ Z g) (fun g => F1 g ∨ Frozen φ σ Z g) true g :=
    fun i b u g hz hb hu hg => .inr ⟨i, u, hz, by rw [hb]; simp, hu, hg⟩
  have hS : ∀ g, Fs (fun g => F0 g ∨ Frozen φ σ Z g) (fun g => F1 g ∨ Frozen φ σ Z g) true g → Fs (fun g => F0 g ∨ Frozen φ σ Z g) (fun g => F1 g ∨ Frozen φ σ Z g) false g := by
    rintro g (h0 | h0)
    · exact .inl (h.sub g h0)
    · exact .inr h0
  have hV : ∀ p p' x, ConvV σ.H Z G p p' → repV φ w (Fs F0 F1) p x → repV φ' w (Fs (fun g => F0 g ∨ Frozen φ σ Z g) (fun g => F1 g ∨ Frozen φ σ Z g)) p' x :=
    fun p p' x hc hr => convV_rep hF hG h.heap hZ hS hc hr
  have hnew : ∀ g, Frozen φ σ Z g → C.w0.heap.size ≤ g ∧ g < w.heap.size := by
    rintro g ⟨i, u, hz, hn, hu, hg⟩
    obtain ⟨b, hb⟩ := Option.ne_none_iff_exists'.1 hn
    obtain ⟨_, hk, _⟩ := h.apart i u g hn hu hg
    refine ⟨?_, holds_lt (h.heap i b hb) hu hg⟩
    apply Classical.byContradiction
    intro hlt
    exact hk (hfull g (by omega))
  refine ⟨φ', _, _, ⟨h.size, h.defs, fun t p' hp => ?_, fun j b' hj => ?_, fun j k u v g hj hk hu hv hg hg' => ?_, fun j u g hj hu hg => ?_, ?_, ?_, ?_, ?_, h.os, h.tape, h.output, h.big, h.kept, h.k0lt, h.gbig, h.glob, fun j hj => ?_⟩, hV, hφ'⟩
  · obtain ⟨p, hp0, hc⟩ := hfr t p' hp
    obtain ⟨x, hx, hr⟩ := h.frame t p hp0
    exact ⟨x, hx, hV _ _ _ hc hr⟩
  · obtain ⟨i, b, hg, _, hb, hc⟩ := hH j b' hj
    have hh := h.heap i b hb
    cases hc with
    | box hc =>
      obtain ⟨g, vs, hp, hheap, hr⟩ := hh
      exact ⟨g, vs, hG _ _ _ hg hp, hheap, convL_rep hF hG h.heap hZ hS hc hr⟩
    | arr hc =>
      obtain ⟨v, vs, hp, ho, hr⟩ := hh
      exact ⟨v, vs, hG _ _ _ hg hp, ho, convL_rep hF hG h.heap hZ hS hc hr⟩
  · obtain ⟨b1, hb1⟩ := Option.ne_none_iff_exists'.1 hj
    obtain ⟨b2, hb2⟩ := Option.ne_none_iff_exists'.1 hk
    obtain ⟨i1, c1, hg1, _, hc1, _⟩ := hH j b1 hb1
    obtain ⟨i2, c2, hg2, _, hc2, _⟩ := hH k b2 hb2
    obtain ⟨i1', hg1', hu'⟩ := (hφ' j u).1 hu
    obtain ⟨i2', hg2', hv'⟩ := (hφ' k v).1 hv
    have e1 := hG1 _ _ _ hg1 hg1'
    have e2 := hG1 _ _ _ hg2 hg2'
    subst e1 e2
    have := h.inj i1 i2 u v g (by rw [hc1]; simp) (by rw [hc2]; simp) hu' hv' hg hg'
    subst this
    exact hG2 _ _ _ hg1 hg2
  · obtain ⟨b1, hb1⟩ := Option.ne_none_iff_exists'.1 hj
    obtain ⟨i1, c1, hg1, hnz, hc1, _⟩ := hH j b1 hb1
    obtain ⟨i1', hg1', hu'⟩ := (hφ' j u).1 hu
    have e1 := hG1 _ _ _ hg1 hg1'
    subst e1
    obtain ⟨h1, h2, h3⟩ := h.apart i1 u g (by rw [hc1]; simp) hu' hg
    refine ⟨?_, h2, h3⟩
    rintro (h0 | ⟨i2, u2, hz, hn, hu2, hg2⟩)
    · exact h1 h0
    · have := h.inj i2 i1 u2 u g hn (by rw [hc1]; simp) hu2 hu' hg2 hg
      subst this
      exact hnz hz
  · rintro g (h0 | h0)
    · exact .inl (h.sub g h0)
    · exact .inr h0
  · rintro g (h0 | h0)
    · exact (h.ini g h0).imp id .inl
    · exact .inr (.inr h0)
  · rintro g (h0 | h0)
    · exact h.new1 g h0
    · exact (hnew g h0).1
  · rintro g (h0 | h0)
    · exact h.lt0 g h0
    · exact (hnew g h0).2
  · obtain ⟨u, hu⟩ := Option.ne_none_iff_exists'.1 hj
    obtain ⟨i, hg, _⟩ := (hφ' j u).1 hu
    exact hid i j hg
end
end Go.Vm
