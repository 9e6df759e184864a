/-
  Abstract states over the model's worlds, and that a step of them is a step of the program: part VmAO of a framework. Conditions: each theorem's own premises. By an AI agent.
-/
import Derived.Test.YtcdbbiognijleaaGreatVmAN
import Derived.WalkKit
import Derived.Lib.Walk
import Derived.Lib.SliceRun
section
namespace Go.Vm
open Go Go.RowKit
set_option linter.unusedSimpArgs false
set_option linter.unusedVariables false

noncomputable def argS : Nat → List PV → Tr PV
  | _, [] => .leaf
  | k, p :: l => (argS (k + 1) l).setF k (some p)
theorem argS_get : ∀ {l : List PV} {k : Nat}, ∀ n, (argS k l).getF n = if k ≤ n then l[n - k]? else none
  | [], k, n => by simp [argS, Tr.getF, Tr.getQ_leaf]
  | p :: l, k, n => by
    unfold argS
    rw [Tr.getF_setF, argS_get n]
    by_cases hn : n = k
    · subst hn; simp
    · rw [if_neg hn]
      by_cases hk : k ≤ n
      · rw [if_pos hk, if_pos (by omega), show n - k = (n - (k + 1)) + 1 by omega]; simp
      · rw [if_neg hk, if_neg (by omega)]
noncomputable def enterH : Nat → List Blk → Option (Tr (Tr Blk))
  | _, [] => some .leaf
  | k, b :: l =>
    match enterH (k + 1) l with
    | some t => setH t (0, k) (some b)
    | none => none
theorem enterH_get : ∀ {l : List Blk} {k : Nat} {t : Tr (Tr Blk)}, enterH k l = some t → ∀ i, getH t i = if i.1 = 0 ∧ k ≤ i.2 then l[i.2 - k]? else none
  | [], k, t, h, i => by
    cases h
    show (match (Tr.leaf : Tr (Tr Blk)).get i.1 with | some t => t.get i.2 | none => none) = _
    simp [Tr.get, Tr.getP_leaf]
  | b :: l, k, t, h, i => by
    unfold enterH at h
    split at h
    · rename_i t' ht
      rw [getH_setH h]
      show (if i = (0, k) then some b else getH t' i) = _
      rw [enterH_get ht i]
      by_cases hi : i = (0, k)
      · subst hi; simp
      · rw [if_neg hi]
        by_cases h0 : i.1 = 0
        · by_cases hk : k ≤ i.2
          · have hne : i.2 ≠ k := fun e => hi (Prod.ext h0 e)
            have c1 : i.1 = 0 ∧ k + 1 ≤ i.2 := ⟨h0, by omega⟩
            have c2 : i.1 = 0 ∧ k ≤ i.2 := ⟨h0, hk⟩
            rw [if_pos c1, if_pos c2, show i.2 - k = (i.2 - (k + 1)) + 1 by omega]; simp
          · have c1 : ¬ (i.1 = 0 ∧ k + 1 ≤ i.2) := fun e => hk (by omega)
            have c2 : ¬ (i.1 = 0 ∧ k ≤ i.2) := fun e => hk e.2
            rw [if_neg c1, if_neg c2]
        · have c1 : ¬ (i.1 = 0 ∧ k + 1 ≤ i.2) := fun e => h0 e.1
          have c2 : ¬ (i.1 = 0 ∧ k ≤ i.2) := fun e => h0 e.1
          rw [if_neg c1, if_neg c2]
    · cases h

/-! ### Iterators, computed -/
/-- Own blocks, only read from now on. -/
noncomputable def frC (H : Id → Option Blk) : Nat → PC → PC
  | k + 1, .own i =>
    match H i with
    | some (.arr _ _ n cs) => .sl true n (cs.map (frC H k))
    | _ => .own i
  | k + 1, .loc i off =>
    match H i with
    | some b => .at true ((b.cells.drop off).map (frC H k))
    | none => .loc i off
  | k + 1, .fn f cs => .fn f (cs.map (frC H k))
  | k + 1, .mth f cs => .mth f (cs.map (frC H k))
  | _, p => p
noncomputable def frV (H : Id → Option Blk) (k : Nat) : PV → PV
  | .one p => .one (frC H k p)
  | .agg ps => .agg (ps.map (frC H k))
  | p => p
def Lnt (φ : Id → Option Value) (H : Id → Option Blk) (g : Nat) : Prop := ∃ i u, H i ≠ none ∧ φ i = some u ∧ blkOf u = some g
section
variable {C : Ctx} {φ : Id → Option Value} {F0 F1 : Nat → Prop} {σ : St} {a : Act} {w : World} {H : Id → Option Blk}
theorem frC_rep (h : RelX C φ F0 F1 σ a w) (hle : ∀ {i b}, H i = some b → σ.H i = some b) : ∀ (k : Nat) (p : PC) (x : Value), rep φ w (Fs F0 F1) p x → rep φ w (Fs (fun g => F0 g ∨ Lnt φ H g) (fun g => F1 g ∨ Lnt φ H g)) (frC H k p) x := by
  have hF : ∀ t g, Fs F0 F1 t g → Fs (fun g => F0 g ∨ Lnt φ H g) (fun g => F1 g ∨ Lnt φ H g) t g := by
    intro t g hg; cases t <;> exact .inl hg
  have hm : ∀ p x, rep φ w (Fs F0 F1) p x → rep φ w (Fs (fun g => F0 g ∨ Lnt φ H g) (fun g => F1 g ∨ Lnt φ H g)) p x := fun p x hr => rep_mono (fun _ _ e => e) (fun _ _ _ => rfl) hF p x hr
  intro k
  induction k with
  | zero => intro p x hr; exact hm p x hr
  | succ k ih =>
    have ihs : ∀ (ps : List PC) (vs : List Value), reps φ w (Fs F0 F1) ps vs → reps φ w (Fs (fun g => F0 g ∨ Lnt φ H g) (fun g => F1 g ∨ Lnt φ H g)) (ps.map (frC H k)) vs := by
      intro ps vs hr
      refine reps_of_get _ _ (by simpa using reps_length _ _ hr) fun j q v hq hv => ?_
      rw [List.getElem?_map] at hq
      obtain ⟨q', hq', rfl⟩ := Option.map_eq_some_iff.1 hq
      obtain ⟨u, hu, hr'⟩ := reps_get _ _ hr j q' hq'
      rw [hv] at hu; cases hu
      exact ih q' v hr'
    have ihat : ∀ (ps : List PC) (ad : Addr), repAt φ w (Fs F0 F1) ad ps → repAt φ w (Fs (fun g => F0 g ∨ Lnt φ H g) (fun g => F1 g ∨ Lnt φ H g)) ad (ps.map (frC H k)) := by
      intro ps ad hr
      refine repAt_of_get _ _ fun j p hp => ?_
      rw [List.getElem?_map] at hp
      obtain ⟨q, hq, rfl⟩ := Option.map_eq_some_iff.1 hp
      obtain ⟨v, hv, hr'⟩ := repAt_get _ _ hr j q hq
      exact ⟨v, hv, ih q v hr'⟩
    intro p x hr
    unfold frC
    split
    · rename_i k' i hk
      cases hk
      split
      · rename_i e z n cs hH
        have hr0 := hr
        simp only [rep] at hr
        obtain ⟨hφ, hsl⟩ := hr
        have hh := h.heap i _ (hle hH)
        have hh' := hh
        obtain ⟨v, vs, hv, ⟨hl, ho⟩, hrs⟩ := hh
        rw [hφ] at hv; cases hv
        simp only [rep]
        rcases ho with ⟨rfl, rfl⟩ | ⟨g, cap, cur, rfl, _, hcur, hn, _⟩
        · have : cs = [] := List.eq_nil_of_length_eq_zero (by rw [← reps_length _ _ hrs, hl]; simp)
          subst this
          exact ⟨none, 0, rfl, Nat.le_refl _, .inl ⟨rfl, rfl⟩⟩
        · exact ⟨_, cap, rfl, hn, .inr ⟨_, rfl, .inr ⟨i, _, by rw [hH]; simp, hφ, rfl⟩, ihat _ _ (holds_repAt hh' hφ rfl)⟩⟩
      · exact hm _ _ hr
    · rename_i k' i off hk
      cases hk
      split
      · rename_i b hH
        simp only [rep] at hr
        obtain ⟨u, g, hφ, hg, hx⟩ := hr
        have hh := h.heap i _ (hle hH)
        simp only [rep]
        have h1 := repAt_drop (holds_repAt hh hφ hg) off
        rw [Addr.add_lit, Nat.zero_add] at h1
        exact ⟨_, hx, .inr ⟨i, u, by rw [hH]; simp, hφ, hg⟩, ihat _ _ h1⟩
      · exact hm _ _ hr
    · rename_i k' f cs hk
      cases hk
      simp only [rep] at hr ⊢
      obtain ⟨vs, hx, hr⟩ := hr
      exact ⟨vs, hx, ihs _ _ hr⟩
    · rename_i k' f cs hk
      cases hk
      simp only [rep] at hr ⊢
      obtain ⟨vs, hx, hr⟩ := hr
      exact ⟨vs, hx, ihs _ _ hr⟩
    · exact hm _ _ hr
theorem frV_rep (h : RelX C φ F0 F1 σ a w) (hle : ∀ {i b}, H i = some b → σ.H i = some b) {k : Nat} {p : PV} {x : Value} (hr : repV φ w (Fs F0 F1) p x) (hf : (frV H k p).free = true) :
    repV (fun _ => none) w (Fs (fun g => F0 g ∨ Lnt φ H g) (fun g => F1 g ∨ Lnt φ H g)) (frV H k p) x := by
  cases p with
  | one p =>
    simp only [frV, PV.free] at hf ⊢
    simp only [repV] at hr ⊢
    exact free_rep (fun _ _ e => e) _ _ hf (frC_rep h hle k p x hr)
  | agg ps =>
    simp only [frV, PV.free] at hf ⊢
    simp only [repV] at hr ⊢
    obtain ⟨vs, hx, hr⟩ := hr
    refine ⟨vs, hx, free_reps (φ := φ) (fun _ _ e => e) _ _ hf (reps_of_get _ _ (by simpa using reps_length _ _ hr) fun j q v hq hv => ?_)⟩
    rw [List.getElem?_map] at hq
    obtain ⟨q', hq', rfl⟩ := Option.map_eq_some_iff.1 hq
    obtain ⟨u, hu, hr'⟩ := reps_get _ _ hr j q' hq'
    rw [hv] at hu; cases hu
    exact frC_rep h hle k q' v hr'
  | tup vs => simp [frV, PV.free] at hf
  | may b p => simp [frV, PV.free] at hf
  | full p => simp [frV, PV.free] at hf
theorem frVs_rep (h : RelX C φ F0 F1 σ a w) (hle : ∀ {i b}, H i = some b → σ.H i = some b) {k : Nat} : ∀ {ps : List PV} {xs : List Value}, repVs φ w (Fs F0 F1) ps xs → PV.frees (ps.map (frV H k)) = true →
    repVs (fun _ => none) w (Fs (fun g => F0 g ∨ Lnt φ H g) (fun g => F1 g ∨ Lnt φ H g)) (ps.map (frV H k)) xs
  | [], xs, hr, _ => by simpa only [repVs, List.map_nil] using hr
  | p :: ps, xs, hr, hf => by
    simp only [repVs] at hr
    obtain ⟨v, vs', rfl, hr, hrs⟩ := hr
    simp only [List.map_cons, PV.frees, Bool.and_eq_true] at hf
    simp only [List.map_cons, repVs]
    exact ⟨v, vs', rfl, frV_rep h hle hr hf.1, frVs_rep h hle hrs hf.2⟩
/-- Blocks that are only read from now on. -/
theorem RelX.freeze (R : RelX C φ F0 F1 σ a w) (M : List Id) : RelX C φ (fun g => F0 g ∨ Lnt φ (onlyH M σ.H) g) (fun g => F1 g ∨ Lnt φ (onlyH M σ.H) g) { σ with H := hide M σ.H } a w := by
  have hle : ∀ {i b}, onlyH M σ.H i = some b → σ.H i = some b := by
    intro i b h
    unfold onlyH at h
    split at h
    · exact h
    · cases h
  have hX : ∀ g, Lnt φ (onlyH M σ.H) g → ¬ F0 g ∧ ¬ C.K0 g ∧ g < w.heap.size := by
    rintro g ⟨i, u, hi, hu, hg⟩
    obtain ⟨b, hb⟩ := Option.ne_none_iff_exists'.1 hi
    have hb' := hle hb
    obtain ⟨h1, h2, h3⟩ := R.apart i u g (by rw [hb']; simp) hu hg
    exact ⟨h1, h2, holds_lt (R.heap i b hb') hu hg⟩
  have R1 : RelX C φ F0 F1 { σ with H := hide M σ.H } a w := R.weaken ⟨fun _ _ e => e, fun i b hb => by
    have hb : hide M σ.H i = some b := hb
    unfold hide at hb
    split at hb
    · cases hb
    · exact hb, fun _ e => e, rfl, fun _ _ e => e⟩
  refine R1.addF (Lnt φ (onlyH M σ.H)) (fun g hg => (hX g hg).2.2) (fun g hg hk => absurd hk (hX g hg).2.1) (fun i u g hi hu hg => ?_)
  rintro ⟨j, v, hj, hv, hg'⟩
  have hi : hide M σ.H i ≠ none := hi
  obtain ⟨b, hb⟩ := Option.ne_none_iff_exists'.1 hi
  obtain ⟨c, hc⟩ := Option.ne_none_iff_exists'.1 hj
  have hb' := hb
  unfold hide at hb'
  split at hb'
  · cases hb'
  · rename_i hp
    have := R.inj i j u v g (by rw [hb']; simp) (by rw [hle hc]; simp) hu hv hg hg'
    subst this
    unfold onlyH at hc
    rw [hp] at hc
    cases hc
end

noncomputable def argsV (ρ : Operand → Option PV) : List Operand → Option (List PV)
  | [] => some []
  | o :: l =>
    match ρ o, argsV ρ l with
    | some p, some ps => some (p :: ps)
    | _, _ => none
theorem argsV_rep {φ : Id → Option Value} {w : World} {F : Bool → Nat → Prop} {a : Act} {ρ : Operand → Option PV} (hρ : ∀ {x p}, ρ x = some p → repV φ w F p (a.eval x)) : ∀ {l : List Operand} {ps : List PV}, argsV ρ l = some ps → repVs φ w F ps (l.map a.eval)
  | [], ps, h => by cases h; simp [repVs]
  | o :: l, ps, h => by
    unfold argsV at h
    split at h
    · rename_i p ps' h1 h2
      cases h
      simp only [List.map_cons, repVs]
      exact ⟨_, _, rfl, hρ h1, argsV_rep hρ h2⟩
    · cases h
/-- A yield: what is yielded; the states behind it, if the loop goes on, and if it has ended. -/
noncomputable def yieldS (nt : Nat) (s : S) (o : Oper) : Option (List PV × S × S) :=
  match o with
  | ⟨some d, .call ⟨.value fo, args, _⟩, _, _, _, none⟩ =>
    match ev s.fr.getF fo, argsV (ev s.fr.getF) args.toList with
    | some (.one (.own i)), some ps =>
      let M := reach (getH s.H) 1000000 (ps.flatMap PV.idAll) []
      let x := ps.map (frV (onlyH M (getH s.H)) 12)
      match hideS s.H M with
      | some H => cond (eqJ i yid && PV.frees x && Nat.blt d nt) (some (x, { s with fr := s.fr.setF d (some (.one (.c (.bool true)))), H := H }, { s with fr := s.fr.setF d (some (.one (.c (.bool false)))), H := H })) none
      | none => none
    | _, _ => none
  | _ => none
noncomputable def seqI (P : Program) (nt : Nat) (cx : Cx) (io : Io) (ops : List Oper) : List Oper → S → Option (S ⊕ (List PV × S × S))
  | [], s => some (.inl s)
  | o :: rest, s =>
    match yieldS nt s o with
    | some (x, s1, s2) =>
      match seqS P nt cx io ops rest s1, seqS P nt cx io ops rest s2 with
      | some s1', some s2' => some (.inr (x, s1', s2'))
      | _, _ => none
    | none =>
      match operS P nt cx io ops o s with
      | some s' => seqI P nt cx io ops rest s'
      | none => none

theorem yield_wpIn {C : Ctx} {a : Act} {w : World} {d : Option Nat} {fo : Operand} {args : Array Operand} {at_ : Array TypeId} {ty : TypeId} {pos : String} {af : Array Edge} {l : Nat} {K : Act → World → Prop} {Q : Exit → Act → World → Prop} {R : Ending → World → Prop}
    (hf : a.eval fo = .func (.yield l) #[] #[]) (hY : YieldAt Fence.wide 0 C.P l (args.map a.eval) w R) (hK : ∀ e w', R e w' → ∃ v, e = .returned v ∧ K (a.put d v) w') :
    Oper.wpIn (fz C) 0 C.P ⟨d, .call ⟨.value fo, args, at_⟩, ty, pos, af, none⟩ a w K Q := by
  obtain ⟨fn, tmps, assign, body, hy, hR⟩ := hY
  refine ⟨fun _ _ => trivial, ?_⟩
  rw [Oper.semAt_eq _ _ _ (fun c h => by cases h)]
  have : (execOp a.eval ⟨d, .call ⟨.value fo, args, at_⟩, ty, pos, af, none⟩).run C.P w = .ok (.round l fn tmps assign body) w := by
    simp [execOp, resolve, hf, Deferred.ofValue, invoke, hy]
  rw [this, Oper.uponIn_round]
  have hfz : ∀ R, RoundIn Fence.wide 0 C.P l fn tmps assign body w R → RoundIn (fz C) 0 C.P l fn tmps assign body w R := by
    intro R h
    unfold fz
    cases C.ro with
    | none => exact h
    | some _ => exact h
  refine ⟨fun e => ?_, (hfz _ hR).mono fun e w' he => ?_⟩
  · unfold fz at e
    cases hc : C.ro with
    | none => rw [hc] at e; cases e
    | some _ => rw [hc] at e; cases e
  · obtain ⟨v, rfl, hk⟩ := hK e w' he
    exact hk

theorem seqI_ok {C : Ctx} {cx : Cx} {io : Io} (hk : Knows C.P C.gw C.gb cx io) (hcu : C.cut = true) {T : Proto} (hp : C.pr = some T) (hφ : C.φi yid = some (.func (.yield T.l) #[] #[])) {xs : List (List PV)} (hok : ProtoOk C.P C.gb T xs) {ops : List Oper} {k : Nat} {Q' : Exit → Act → World → Prop} :
    ∀ {l : List Oper} {s : S} {r : S ⊕ (List PV × S × S)}, seqI C.P C.nt cx io ops l s = some r → (∀ s', r = .inl s' → ∀ C' a w, Later C C' → Rel C' (s'.absG (ghk (some k))) a w → Q' .normal a w) →
      (∀ x s1 s2, r = .inr (x, s1, s2) → xs[k]? = some x ∧ (∀ C' a w, Later C C' → Rel C' (s1.absG (ghk (some (k + 1)))) a w → Q' .normal a w) ∧ (∀ C' a w, Later C C' → Rel C' (s2.absG (ghk none)) a w → Q' .normal a w)) →
      ∀ a w, Rel C (s.absG (ghk (some k))) a w → wpListIn (fz C) 0 C.P ops.toArray Q' l a w
  | [], s, r, h, h1, _ => by
    cases h
    exact fun a w hr => h1 s rfl C a w (.refl _) hr
  | o :: rest, s, r, h, h1, h2 => by
    unfold seqI at h
    split at h
    · rename_i x s1 s2 hy
      split at h
      · rename_i s1' s2' e1 e2
        cases h
        obtain ⟨hx, hq1, hq2⟩ := h2 x s1' s2' rfl
        intro a w hr
        unfold yieldS at hy
        split at hy
        · rename_i d fo args at_ ty pos_ af
          split at hy
          · rename_i i ps hfo hps
            simp only at hy
            split at hy
            · rename_i H hH
              generalize hM : reach (getH s.H) 1000000 (ps.flatMap PV.idAll) [] = M at hy hH
              cases hc : (eqJ i yid && PV.frees (ps.map (frV (onlyH M (getH s.H)) 12)) && Nat.blt d C.nt) with
              | false => rw [hc] at hy; cases hy
              | true =>
                rw [hc] at hy
                simp only [cond_true, Option.some.injEq, Prod.mk.injEq] at hy
                obtain ⟨rfl, rfl, rfl⟩ := hy
                rw [Bool.and_eq_true, Bool.and_eq_true] at hc
                obtain ⟨⟨hi, hfree⟩, hd⟩ := hc
                have hi := eqJ_iff.1 hi
                subst hi
                have hd := Nat.le_of_ble_eq_true hd
                obtain ⟨φ, F0, F1, R⟩ := hr
                have hfv := ev_rep R (x := fo) (p := .one (.own yid)) hfo
                simp only [repV, rep] at hfv
                have hyl : C.φi yid = some (a.eval fo) := R.keep yid.2 _ hfv.1
                have hyl : some (Value.func (.yield T.l) #[] #[]) = some (a.eval fo) := hφ.symm.trans hyl
                have hyl := Option.some.inj hyl
                have hle : ∀ {i b}, onlyH M (getH s.H) i = some b → (s.absG (ghk (some k))).H i = some b := by
                  intro i b h
                  unfold onlyH at h
                  split at h
                  · exact h
                  · cases h
                have hargs := frVs_rep R hle (argsV_rep (fun hx => ev_rep R hx) hps) hfree
                have R1 := R.freeze M
                have hY := R1.yielded hp hok (k := k) rfl (vs := args.map a.eval) hx (by rw [Array.toList_map]; exact hargs)
                unfold wpListIn
                rw [if_pos (by simp [Region.wanted])]
                refine yield_wpIn (C := C) hyl.symm hY ?_
                rintro e w' ⟨b, rfl, C', l', R'⟩
                refine ⟨_, rfl, ?_⟩
                have R2 := R'.put (d := d) (p := .one (.c (.bool b))) (x := .bool b) (by rw [core_nt l'.core]; exact hd) (by simp only [repV, rep]; exact ⟨trivial, rfl⟩)
                have hcore : C'.toCore = C.toCore := l'.core
                have hfin : ∀ (s0 s0' : S) (g : Nat → Option PV), seqS C.P C.nt cx io ops rest s0 = some s0' → Rel C' (s0.absG g) (a.put (some d) (.bool b)) w' → (∀ C' a w, Later C C' → Rel C' (s0'.absG g) a w → Q' .normal a w) → wpListIn (fz C) 0 C.P ops.toArray Q' rest (a.put (some d) (.bool b)) w' := by
                  intro s0 s0' g hs hr hq
                  have hs' := seqS_ok (gG := g) (C := C.toCore) (Q := fun σ => σ = s0'.absG g) hk hcu hs rfl
                  have := seqRun_sound (C := C') (Q' := Q') (Q := fun σ => σ = s0'.absG g) (fun σ a w hr hq' => hq C' a w l' (by rw [hq'] at hr; exact hr)) rest _ _ _ hr (by rw [hcore]; exact hs')
                  rw [l'.fz, l'.P] at this
                  exact this
                have habs : ∀ (bb : Bool) (g : Nat → Option PV), ({ s with fr := s.fr.setF d (some (.one (.c (.bool bb)))), H := H } : S).absG g = { s.absG g with fr := upd (s.absG g).fr d (some (.one (.c (.bool bb)))), H := hide M (s.absG g).H } := by
                  intro bb g
                  have e : (s.fr.setF d (some (.one (.c (.bool bb))))).getF = upd s.fr.getF d (some (.one (.c (.bool bb)))) := by
                    funext n
                    rw [Tr.getF_setF]
                    rfl
                  unfold S.absG
                  simp only [hideS_get hH, e]
                cases b with
                | true =>
                  refine hfin _ _ (ghk (some (k + 1))) e1 ?_ hq1
                  rw [habs]
                  exact ⟨φ, _, _, R2⟩
                | false =>
                  refine hfin _ _ (ghk none) e2 ?_ hq2
                  rw [habs]
                  exact ⟨φ, _, _, R2⟩
            · cases hy
          · cases hy
        · cases hy
      · cases h
    · split at h
      · rename_i s1 hs1
        have ih := seqI_ok hk hcu hp hφ hok (l := rest) h h1 h2
        intro a w hr
        have hone : seqS C.P C.nt cx io ops [o] s = some s1 := by
          unfold seqS
          rw [hs1]
          rfl
        have hs' := seqS_ok (gG := ghk (some k)) (C := C.toCore) (Q := fun σ => σ = s1.absG (ghk (some k))) hk hcu hone rfl
        have := seqRun_soundA (C := C) (l2 := rest) (Q' := Q') (Q := fun σ => σ = s1.absG (ghk (some k))) (ops := ops) (fun σ a w hr hq' => ih a w (by rw [hq'] at hr; exact hr)) [o] _ _ _ hr hs'
        simpa using this
      · cases h

noncomputable def blkE (id : Nat) : Exit → Exit
  | .exit id' => if id' = id then .normal else .exit id'
  | e => e
theorem blkE_q {id : Nat} {Q : Post} {σ : St} : ∀ {e : Exit}, Q (blkE id e) σ → blockQ id Q e σ
  | .exit id', h => by
    have h : Q (if id' = id then .normal else .exit id') σ := h
    show if id' = id then _ else _
    by_cases hid : id' = id
    · rw [if_pos hid] at h ⊢; exact h
    · rw [if_neg hid] at h ⊢; exact h
  | .normal, h => h
  | .ret, h => h
  | .goto _, h => h
  | .panic _, h => h
  | .outgrown, h => h
/-- Code behind a loop that has ended. -/
noncomputable def contS (P : Program) (nt : Nat) (cx : Cx) (io : Io) (rd : Bool) (n : Nat) (c : Code) : List (Exit × S) → Option (List (Exit × S))
  | [] => some []
  | p :: l =>
    match contS P nt cx io rd n c l with
    | some l' =>
      match p.1 with
      | .normal =>
        match evC P nt cx io rd n c p.2 with
        | some q => some (q :: l')
        | none => none
      | _ => some (p :: l')
    | none => none
noncomputable def noNorm : List (Exit × S) → Bool
  | [] => true
  | p :: l =>
    match p.1 with
    | .normal => false
    | _ => noNorm l
noncomputable def outsS (s : S) (m : List (Id × Id)) : List (Exit × S) → Option (List (Exit × S))
  | [] => some []
  | p :: l =>
    match outsS s m l, roundOut s m p.2 with
    | some l', some s' =>
      match p.1 with
      | .ret => some ((.ret, s') :: l')
      | .exit id => some ((.exit id, s') :: l')
      | _ => none
    | _, _ => none
mutual
noncomputable def evI (P : Program) (nt : Nat) (cx : Cx) (io : Io) (rd : Bool) : Nat → Code → S → Option (Exit × S × List (List PV) × List (Exit × S))
  | 0, _, _ => none
  | n + 1, c, s =>
    match c with
    | .region _ ops draw =>
      match draw with
      | false =>
        match seqI P nt cx io ops.toList ops.toList s with
        | some (.inl s') => some (.normal, s', [], [])
        | some (.inr (x, s1, s2)) => some (.normal, s1, [x], [(.normal, s2)])
        | none => none
      | true =>
        match regS P nt cx io ops.toList true s with
        | some s' => some (.normal, s', [], [])
        | none => none
    | .seq a b =>
      match evI P nt cx io rd n a s with
      | some (.normal, s1, ys1, sd1) =>
        match evI P nt cx io rd n b s1, contS P nt cx io rd n b sd1 with
        | some (e, s2, ys2, sd2), some sd1' => some (e, s2, ys1 ++ ys2, sd1' ++ sd2)
        | _, _ => none
      | some (e, s1, ys1, sd1) =>
        match contS P nt cx io rd n b sd1 with
        | some sd1' => some (e, s1, ys1, sd1')
        | none => none
      | none => none
    | .cond o x y =>
      match (ev s.fr.getF o).bind asB with
      | some true => evI P nt cx io rd n x s
      | some false => evI P nt cx io rd n y s
      | none => none
    | .block id b =>
      match evI P nt cx io rd n b s with
      | some (e, s1, ys, sd) => some (blkE id e, s1, ys, sd.map fun p => (blkE id p.1, p.2))
      | none => none
    | .loop b =>
      match evI P nt cx io rd n b s with
      | some (.normal, s1, ys1, sd1) =>
        match tidyS nt s1 with
        | some s1' =>
          match evI P nt cx io rd n (.loop b) s1' with
          | some (e, s2, ys2, sd2) => cond (noNorm sd1) (some (e, s2, ys1 ++ ys2, sd1 ++ sd2)) none
          | none => none
        | none => none
      | some (e, s1, ys1, sd1) => cond (noNorm sd1) (some (e, s1, ys1, sd1)) none
      | none => none
    | .rangeFunc (.tmp t) ps assign body =>
      match rd with
      | true => none
      | false =>
        match begS nt io s t with
        | some (_, _, _, _, xs, s1) => cond (yieldsOk nt ps.toList xs) (evIR P nt cx io n ps.toList assign body xs s1) none
        | none => none
    | c =>
      match evC P nt cx io rd n c s with
      | some (e, s') => some (e, s', [], [])
      | none => none
noncomputable def evIR (P : Program) (nt : Nat) (cx : Cx) (io : Io) : Nat → List Tmp → Code → Code → List (List PV) → S → Option (Exit × S × List (List PV) × List (Exit × S))
  | 0, _, _, _, _, _ => none
  | n + 1, ps, assign, body, xs, s =>
    match xs with
    | [] => some (.normal, s, [], [])
    | x :: xs =>
      match roundIn nt s with
      | some (m, ρ) =>
        match evC P nt cx io true n assign { ρ with fr := putS ρ.fr (ps.zip x) } with
        | some (.normal, ρ1) =>
          match evI P nt cx io true n body ρ1 with
          | some (e, ρ2, ys, sd) =>
            match roundOut s m ρ2, outsS s m sd with
            | some s', some sd' =>
              match e with
              | .normal =>
                match evIR P nt cx io n ps assign body xs s' with
                | some (e2, s2, ys2, sd2) => some (e2, s2, ys ++ ys2, sd' ++ sd2)
                | none => none
              | .ret => some (.ret, s', ys, sd')
              | .exit id => some (.exit id, s', ys, sd')
              | _ => none
            | _, _ => none
          | none => none
        | _ => none
      | none => none
end

theorem noNorm_ok : ∀ {l : List (Exit × S)}, noNorm l = true → ∀ p ∈ l, p.1 ≠ .normal
  | [], _, p, hp => by cases hp
  | q :: l, h, p, hp => by
    unfold noNorm at h
    split at h
    · cases h
    · rename_i hq
      rcases List.mem_cons.1 hp with rfl | hp
      · exact hq
      · exact noNorm_ok h p hp

section
variable {C : Ctx} {cx : Cx} {io : Io}
theorem contS_ok (hk : Knows C.P C.gw C.gb cx io) (hcu : C.cut = true) (hm : C.P.follows .mixedOrders = true) {rd : Bool} (hro : rd = false → C.ro = none) {n : Nat} {c : Code} {Q : Post} {K : St → Prop} (hK : ∀ σ, vwp C c Q σ → K σ) : ∀ {l l' : List (Exit × S)}, contS C.P C.nt cx io rd n c l = some l' → (∀ p ∈ l', Q p.1 (p.2.absG (ghk none))) → ∀ p ∈ l, thenQ K Q p.1 (p.2.absG (ghk none))
  | [], l', _, _, p, hp => by cases hp
  | q :: l, l', h, hQ, p, hp => by
    unfold contS at h
    split at h
    · rename_i l1 h1
      split at h
      · rename_i he
        split at h
        · rename_i r hr
          cases h
          rcases List.mem_cons.1 hp with rfl | hp
          · rw [he]
            exact hK _ (evC_all (K := C.toCore) hk hcu hm (GOk.ghk none) n C rfl rd hro c _ r.2 r.1 Q hr (hQ r (by simp)))
          · exact contS_ok hk hcu hm hro hK h1 (fun p hp => hQ p (List.mem_cons_of_mem _ hp)) p hp
        · cases h
      · rename_i hne
        cases h
        rcases List.mem_cons.1 hp with rfl | hp
        · have := hQ p (by simp)
          cases he : p.1 with
          | normal => exact absurd he hne
          | _ => rw [he] at this; exact this
        · exact contS_ok hk hcu hm hro hK h1 (fun p hp => hQ p (List.mem_cons_of_mem _ hp)) p hp
    · cases h

theorem thenQ_ne {K : St → Prop} {Q : Post} {σ : St} {e : Exit} (hne : e ≠ .normal) (h : Q e σ) : thenQ K Q e σ := by
  cases e
  case normal => exact absurd rfl hne
  all_goals exact h
def YsAt (xs : List (List PV)) (k : Nat) (ys : List (List PV)) : Prop := ∀ j y, ys[j]? = some y → xs[k + j]? = some y
theorem YsAt.left {xs ys zs : List (List PV)} {k : Nat} (h : YsAt xs k (ys ++ zs)) : YsAt xs k ys := fun j y hj => h j y (by rw [List.getElem?_append_left (List.getElem?_eq_some_iff.1 hj).1]; exact hj)
theorem YsAt.right {xs ys zs : List (List PV)} {k : Nat} (h : YsAt xs k (ys ++ zs)) : YsAt xs (k + ys.length) zs := fun j y hj => by
  have := h (ys.length + j) y (by rw [List.getElem?_append_right (by omega)]; simpa using hj)
  rwa [← Nat.add_assoc] at this

theorem outsS_ok {τ : S} {g : Nat → Option PV} {m : List (Id × Id)} (hm : ∀ i j, (i, j) ∈ m → j.1 = 0 ∧ i.1 < τ.nx) {Q : Post} {N : St → Prop} : ∀ {l l' : List (Exit × S)}, outsS τ m l = some l' → (∀ p ∈ l', Q p.1 (p.2.absG (ghk none))) → ∀ p ∈ l, roundQ (τ.absG g) (fun i j => (i, j) ∈ m) Q N p.1 (p.2.absG (ghk none))
  | [], l', _, _, p, hp => by cases hp
  | q :: l, l', h, hQ, p, hp => by
    unfold outsS at h
    split at h
    · rename_i l1 s1 h1 h2
      obtain ⟨G', hG', hus'⟩ := roundOut_ok (g := g) (g' := ghk none) (GOk.ghk none) hm h2
      split at h
      · rename_i he
        cases h
        rcases List.mem_cons.1 hp with rfl | hp
        · rw [he]
          exact ⟨_, G', hG', hQ (.ret, s1) (by simp)⟩
        · exact outsS_ok hm h1 (fun p hp => hQ p (List.mem_cons_of_mem _ hp)) p hp
      · rename_i id he
        cases h
        rcases List.mem_cons.1 hp with rfl | hp
        · rw [he]
          exact ⟨_, G', hG', hQ (.exit id, s1) (by simp)⟩
        · exact outsS_ok hm h1 (fun p hp => hQ p (List.mem_cons_of_mem _ hp)) p hp
      · cases h
    · cases h

theorem evI_all {K : Core} (hk : Knows K.P K.gw K.gb cx io) (hcu : K.cut = true) (hm : K.P.follows .mixedOrders = true) {T : Proto} {xs : List (List PV)} (hok : ProtoOk K.P K.gb T xs) :
    ∀ (n : Nat) (C : Ctx), C.toCore = K → C.pr = some T → C.φi yid = some (.func (.yield T.l) #[] #[]) → ∀ (rd : Bool), (rd = false → C.ro = none) → ∀ (c : Code) (s s' : S) (e : Exit) (ys : List (List PV)) (sd : List (Exit × S)) (k : Nat) (Q : Post),
      evI K.P K.nt cx io rd n c s = some (e, s', ys, sd) → YsAt xs k ys → Q e (s'.absG (ghk (some (k + ys.length)))) → (∀ p ∈ sd, Q p.1 (p.2.absG (ghk none))) → vwp C c Q (s.absG (ghk (some k))) := by
  intro n
  induction n using Nat.strongRecOn with
  | ind n ih =>
  intro C hC hp hφ rd hro c s s' e ys sd k Q h hys hQ hsd
  match n, h, ih with
  | 0, h, _ => simp [evI] at h
  | n + 1, h, ih =>
    have ihn := ih n (Nat.lt_succ_self n) C hC hp hφ rd hro
    have plain : ∀ c, evC K.P K.nt cx io rd n c s = some (e, s') → ys = [] → vwp C c Q (s.absG (ghk (some k))) := by
      intro c hc he
      subst he
      exact evC_all (K := K) hk hcu hm (GOk.ghk (some k)) n C hC rd hro c s s' e Q hc hQ
    cases c with
    | region id ops draw =>
      subst hC
      unfold evI at h
      simp only at h
      cases draw with
      | true =>
        simp only at h
        split at h
        · rename_i s1 h1
          cases h
          exact regS_ok hk hcu hm h1 hQ
        · cases h
      | false =>
        simp only at h
        intro C₁ l₁ a w hr
        have hk1 : Knows C₁.P C₁.gw C₁.gb cx io := by rw [core_P l₁.core, core_gw l₁.core, core_gb l₁.core]; exact hk
        have key := fun r (hh : seqI C.P C.nt cx io ops.toList ops.toList s = some r) => seqI_ok (C := C₁) (Q' := fun e a' w' => ∃ C₂ σ', Later C₁ C₂ ∧ Rel C₂ σ' a' w' ∧ Q e σ') (k := k) (ops := ops.toList) (l := ops.toList) (s := s) (r := r) hk1 (by rw [show C₁.cut = C₁.toCore.cut from rfl, l₁.core]; exact hcu) (l₁.pr.trans hp) (by rw [l₁.φi]; exact hφ) (xs := xs) (by rw [core_P l₁.core, core_gb l₁.core]; exact hok) (by rw [core_P l₁.core, core_nt l₁.core]; exact hh)
        split at h
        · rename_i s1 h1
          cases h
          have := key _ h1 (fun s' he C' a w lt hr => by cases he; exact ⟨C', _, lt, hr, hQ⟩) (fun x s1 s2 he => by cases he) a w hr
          exact wpIn_region_list (by simpa using this)
        · rename_i x s1 s2 h1
          cases h
          have := key _ h1 (fun s' he => by cases he) (fun x' s1' s2' he => by
            cases he
            exact ⟨hys 0 x rfl, fun C' a w lt hr => ⟨C', _, lt, hr, hQ⟩, fun C' a w lt hr => ⟨C', _, lt, hr, hsd (.normal, s2) (by simp)⟩⟩) a w hr
          exact wpIn_region_list (by simpa using this)
        · cases h
    | seq a b =>
      subst hC
      unfold evI at h
      simp only at h
      refine vwp_seq fun K' hK => ?_
      split at h
      · rename_i s1 ys1 sd1 h1
        split at h
        · rename_i e2 s2 ys2 sd2 sd1' h2 h3
          cases h
          refine ihn a s s1 .normal ys1 sd1 k (thenQ K' Q) h1 hys.left (hK _ (ihn b s1 s' e ys2 sd2 _ Q h2 hys.right ?_ fun p hp => hsd p (List.mem_append_right _ hp))) (contS_ok hk hcu hm hro hK h3 fun p hp => hsd p (List.mem_append_left _ hp))
          rw [List.length_append, ← Nat.add_assoc] at hQ
          exact hQ
        · cases h
      · rename_i e1 s1 ys1 sd1 hne h1
        split at h
        · rename_i sd1' h3
          cases h
          exact ihn a s s' e ys sd1 k (thenQ K' Q) h1 hys (thenQ_ne (fun he => hne (by rw [he])) hQ) (contS_ok hk hcu hm hro hK h3 hsd)
        · cases h
      · cases h
    | cond o x y =>
      unfold evI at h
      simp only at h
      split at h
      · rename_i hb
        exact vwp_cond hb (fun _ => ihn x s s' e ys sd k Q h hys hQ hsd) (fun hf => by cases hf)
      · rename_i hb
        exact vwp_cond hb (fun hf => by cases hf) (fun _ => ihn y s s' e ys sd k Q h hys hQ hsd)
      · cases h
    | block id b =>
      unfold evI at h
      simp only at h
      refine vwp_block ?_
      split at h
      · rename_i e1 s1 ys1 sd1 h1
        cases h
        refine ihn b s s' e1 ys sd1 k (blockQ id Q) h1 hys (blkE_q hQ) fun p hp => blkE_q (hsd (blkE id p.1, p.2) (List.mem_map.2 ⟨p, hp, rfl⟩))
      · cases h
    | loop b =>
      refine vwp_loop (fun m τ => m ≤ n + 1 ∧ ∃ t k' t' e' ys' sd', τ = t.absG (ghk (some k')) ∧ evI K.P K.nt cx io rd m (.loop b) t = some (e', t', ys', sd') ∧ YsAt xs k' ys' ∧ Q e' (t'.absG (ghk (some (k' + ys'.length)))) ∧ ∀ p ∈ sd', Q p.1 (p.2.absG (ghk none))) (n + 1) ⟨s.absG (ghk (some k)), wk_refl, Nat.le_refl _, s, k, s', e, ys, sd, rfl, h, hys, hQ, hsd⟩ ?_
      rintro m τ ⟨hmn, t, k', t', e', ys', sd', rfl, ht, hys', hq, hsd'⟩ K' hK
      match m, hmn, ht, hK with
      | 0, _, ht, _ => simp [evI] at ht
      | m + 1, hmn, ht, hK =>
        unfold evI at ht
        simp only at ht
        have ihm := ih m (by omega) C hC hp hφ rd hro
        split at ht
        · rename_i s1 ys1 sd1 h1
          split at ht
          · rename_i s1' h2
            split at ht
            · rename_i e2 s2 ys2 sd2 h3
              cases hn : noNorm sd1 with
              | false => rw [hn] at ht; cases ht
              | true =>
                rw [hn] at ht
                cases ht
                refine ihm b t s1 .normal ys1 sd1 k' (thenQ K' Q) h1 hys'.left (hK (s1.absG (ghk (some (k' + ys1.length)))) m (s1'.absG (ghk (some (k' + ys1.length)))) (Nat.lt_succ_self m) (tidyS_ok h2) ⟨by omega, s1', k' + ys1.length, t', e', ys2, sd2, rfl, h3, hys'.right, ?_, fun p hp => hsd' p (List.mem_append_right _ hp)⟩) fun p hp => thenQ_ne (noNorm_ok hn p hp) (hsd' p (List.mem_append_left _ hp))
                rw [List.length_append, ← Nat.add_assoc] at hq
                exact hq
            · cases ht
          · cases ht
        · rename_i e1 s1 ys1 sd1 hne h1
          cases hn : noNorm sd1 with
          | false => rw [hn] at ht; cases ht
          | true =>
            rw [hn] at ht
            cases ht
            exact ihm b t t' e' ys' sd' k' (thenQ K' Q) h1 hys' (thenQ_ne (fun he => hne (by rw [he])) hq) fun p hp => thenQ_ne (noNorm_ok hn p hp) (hsd' p hp)
        · cases ht
    | rangeFunc o ps assign body =>
      cases o with
      | tmp t =>
        unfold evI at h
        cases rd with
        | true => simp at h
        | false =>
          simp only at h
          split at h
          · rename_i f caps M bs zs s1 hb
            cases hy : yieldsOk K.nt ps.toList zs with
            | false => rw [hy] at h; cases h
            | true =>
              rw [hy] at h
              simp only [cond_true] at h
              unfold yieldsOk at hy
              rw [Bool.and_eq_true] at hy
              subst hC
              refine begS_ok hk (hro rfl) hb (g := ghk (some k)) (fun σ0 caps M bs hv hM htag hit hus0 hfin => vwp_range (M := M) (bs := bs) (caps := caps) (f := f) (xs := zs) (hro rfl) hv hM rfl htag hit (fun p hp => ltAll_ok hy.1 p (memN_iff.2 hp)) (fun x hx => ?_)
                (fun j τ => ∃ m u k' e' u' ys' sd', m ≤ n ∧ τ = u.absG (ghk (some k')) ∧ u.us = [] ∧ evIR C.P C.nt cx io m ps.toList assign body (zs.drop j) u = some (e', u', ys', sd') ∧ YsAt xs k' ys' ∧ Q e' (u'.absG (ghk (some (k' + ys'.length)))) ∧ ∀ p ∈ sd', Q p.1 (p.2.absG (ghk none))) ?_ ?_ ?_ ?_)
              · have := Nat.eq_of_beq_eq_true (List.all_eq_true.1 hy.2 x hx)
                simpa using this
              · rintro j τ ⟨m, u, k', e', u', ys', sd', _, rfl, hu, _⟩
                funext d
                show memN d u.us = false
                rw [hu]; rfl
              · exact ⟨n, s1, k, e, s', ys, sd, Nat.le_refl _, hfin, hus0, by simpa using h, hys, hQ, hsd⟩
              · rintro j τ x ⟨m, u, k', e', u', ys', sd', hmn, rfl, hu, hev, hys', hq, hsd'⟩ hx
                have hd : zs.drop j = x :: zs.drop (j + 1) := by
                  obtain ⟨hlt, he⟩ := List.getElem?_eq_some_iff.1 hx
                  rw [List.drop_eq_getElem_cons hlt, he]
                rw [hd] at hev
                match m, hmn, hev with
                | 0, _, hev => simp [evIR] at hev
                | m + 1, hmn, hev =>
                  unfold evIR at hev
                  simp only at hev
                  split at hev
                  · rename_i mm ρ hri
                    obtain ⟨hren, hlt⟩ := roundIn_ok (GOk.ghk (some k')) hri
                    refine ⟨_, _, hren, fun C' hC' K' hK' => ?_⟩
                    have e1 : ({ ρ.absG (ghk (some k')) with fr := putFr (ρ.absG (ghk (some k'))).fr (ps.toList.zip x) } : St) = ({ ρ with fr := putS ρ.fr (ps.toList.zip x) } : S).absG (ghk (some k')) := by
                      unfold S.absG
                      simp only [putS_get]
                    rw [e1]
                    have hmm : ∀ i j, (i, j) ∈ mm → j.1 = 0 ∧ i.1 < u.nx := fun i j hij => ⟨hren.g0 i j hij, hlt i j hij⟩
                    split at hev
                    · rename_i ρ1 ha
                      refine evC_all (K := C.toCore) hk hcu hm (GOk.ghk (some k')) m C' hC'.1 true (fun hf => by cases hf) assign _ ρ1 .normal _ ha (hK' _ fun C'' hC'' => ?_)
                      split at hev
                      · rename_i e2 ρ2 ys2 sd2 hb2
                        have ihm := ih m (by omega) C'' hC''.1 (hC''.2.1.trans hp) (hC''.2.2.trans hφ) true (fun hf => by cases hf) body ρ1 ρ2 e2 ys2 sd2 k'
                        split at hev
                        · rename_i s2 sd3 h2 h3
                          obtain ⟨G', hG', hus'⟩ := roundOut_ok (g := ghk (some k')) (g' := ghk (some (k' + ys2.length))) (GOk.ghk _) hmm h2
                          split at hev
                          · split at hev
                            · rename_i e4 s4 ys4 sd4 h4
                              cases hev
                              refine ihm _ hb2 hys'.left ⟨_, G', hG', m, s2, k' + ys2.length, e', u', ys4, sd4, by omega, rfl, hus', h4, hys'.right, ?_, fun p hp => hsd' p (List.mem_append_right _ hp)⟩ (outsS_ok hmm h3 fun p hp => hsd' p (List.mem_append_left _ hp))
                              rw [List.length_append, ← Nat.add_assoc] at hq
                              exact hq
                            · cases hev
                          · cases hev
                            exact ihm _ hb2 hys' ⟨_, G', hG', hq⟩ (outsS_ok hmm h3 hsd')
                          · cases hev
                            exact ihm _ hb2 hys' ⟨_, G', hG', hq⟩ (outsS_ok hmm h3 hsd')
                          · cases hev
                        · cases hev
                      · cases hev
                    · cases hev
                  · cases hev
              · rintro τ ⟨m, u, k', e', u', ys', sd', hmn, rfl, hu, hev, hys', hq, hsd'⟩
                rw [List.drop_eq_nil_of_le (Nat.le_refl _)] at hev
                match m, hev with
                | 0, hev => simp [evIR] at hev
                | m + 1, hev =>
                  unfold evIR at hev
                  cases hev
                  exact hq
          · cases h
      | const v =>
        unfold evI at h
        simp only at h
        split at h
        · rename_i e1 s1 h1
          cases h
          exact plain _ h1 rfl
        · cases h
      | func f =>
        unfold evI at h
        simp only at h
        split at h
        · rename_i e1 s1 h1
          cases h
          exact plain _ h1 rfl
        · cases h
      | global q =>
        unfold evI at h
        simp only at h
        split at h
        · rename_i e1 s1 h1
          cases h
          exact plain _ h1 rfl
        · cases h
    | _ =>
      unfold evI at h
      simp only at h
      split at h
      · rename_i e1 s1 h1
        cases h
        exact plain _ h1 rfl
      · cases h
end

noncomputable def isEnd : Exit → Bool
  | .normal => true
  | .ret => true
  | _ => false
noncomputable def evIt (P : Program) (cx : Cx) (io : Io) (n : Nat) (f : FuncId) (args : List PV) (Hin : List Blk) : Option (List (List PV)) :=
  match P.funcs[f]? with
  | some fn =>
    match fn.body with
    | some c =>
      cond ((!(fn.name == "runtime.NumGoroutine")) && fn.results.toList.isEmpty && decide (args.length + 1 ≤ fn.ntmps) && decide (Hin.length ≤ 1000000))
        (match enterH 0 Hin with
        | some H =>
          match evI P fn.ntmps cx io false n c ⟨argS 0 (.one (.own yid) :: args), H, [], 1, false⟩ with
          | some (e, _, ys, sd) => cond (isEnd e && sd.all fun p => isEnd p.1) (some ys) none
          | none => none
        | none => none) none
    | none => none
  | none => none
theorem enterI_eq {args : List PV} {Hin : List Blk} {H : Tr (Tr Blk)} (hH : enterH 0 Hin = some H) : (⟨argS 0 (.one (.own yid) :: args), H, [], 1, false⟩ : S).absG (ghk (some 0)) = St.enterI args Hin := by
  show (⟨(argS 0 (.one (.own yid) :: args)).getF, getH H, fun d => memN d [], 1, ghk (some 0)⟩ : St) = _
  have e1 : (argS 0 (.one (.own yid) :: args)).getF = fun t => (PV.one (.own yid) :: args)[t]? := by funext n; rw [argS_get n]; simp
  have e2 : getH H = fun i => if i.1 = 0 then Hin[i.2]? else none := by funext i; rw [enterH_get hH i]; simp
  rw [e1, e2]; rfl
theorem isEnd_q {n : Nat} {e : Exit} {s : S} {o : Option Nat} (he : isEnd e = true) (ho : o = some n ∨ o = none) : iterQ n e (s.absG (ghk o)) := by
  have : IterEnd n (s.absG (ghk o)) := by
    rcases ho with rfl | rfl
    · exact .inl rfl
    · exact .inr rfl
  cases e <;> first | exact this | cases he
theorem evIt_ok {P : Program} {gw : World} {gb : Nat} {cx : Cx} {io : Io} (hk : Knows P gw gb cx io) (hm : P.follows .mixedOrders = true) {n : Nat} {f : FuncId} {args : List PV} {Hin : List Blk} {xs : List (List PV)}
    (h : evIt P cx io n f args Hin = some xs) : VIterG P gw gb f args Hin xs := by
  unfold evIt at h
  split at h
  · rename_i fn hf
    split at h
    · rename_i c hb
      cases hc : ((!(fn.name == "runtime.NumGoroutine")) && fn.results.toList.isEmpty && decide (args.length + 1 ≤ fn.ntmps) && decide (Hin.length ≤ 1000000)) with
      | false => rw [hc] at h; cases h
      | true =>
        rw [hc] at h
        simp only [cond_true] at h
        simp only [Bool.and_eq_true, decide_eq_true_eq] at hc
        obtain ⟨⟨⟨h1, h2⟩, h3⟩, h4⟩ := hc
        split at h
        · rename_i H hH
          split at h
          · rename_i e s' ys sd hs
            cases he : (isEnd e && sd.all fun p => isEnd p.1) with
            | false => rw [he] at h; cases h
            | true =>
              rw [he] at h
              cases h
              rw [Bool.and_eq_true] at he
              refine vIter_of true hf hb (by simpa using h1) rfl (List.isEmpty_iff.1 h2) h3 h4 fun C T hP hnt hgw hgb hcu hro hp hφ hok => ?_
              rw [← enterI_eq hH]
              refine evI_all (K := C.toCore) (by rw [hP, hgw, hgb]; exact hk) hcu (by rw [hP]; exact hm) (by rw [hP, hgb]; exact hok) n C rfl hp hφ false (fun _ => hro) c _ s' e xs sd 0 _ (by rw [hP, hnt]; exact hs) (fun j y hj => by rw [Nat.zero_add]; exact hj) ?_ fun p hp' => ?_
              · rw [Nat.zero_add]
                exact isEnd_q he.1 (.inl rfl)
              · exact isEnd_q (List.all_eq_true.1 he.2 p hp') (.inr rfl)
          · cases h
        · cases h
    · cases h
  · cases h
end Go.Vm
end

section
namespace Go.Vm
open Go Go.RowKit
set_option linter.unusedSimpArgs false
set_option linter.unusedVariables false

/-! ### Functions, computed -/
theorem pair_right {m : List (Id × Id)} (hn : (m.map (·.2)).Nodup) {i i' j : Id} (h1 : (i, j) ∈ m) (h2 : (i', j) ∈ m) : i = i' := by
  induction m with
  | nil => cases h1
  | cons c m ih =>
    simp only [List.map_cons, List.nodup_cons, List.mem_map, not_exists, not_and] at hn
    rcases List.mem_cons.1 h1 with e1 | e1 <;> rcases List.mem_cons.1 h2 with e2 | e2
    · rw [← e1] at e2; cases e2; rfl
    · exact absurd (by rw [← e1]) (hn.1 _ e2)
    · exact absurd (by rw [← e2]) (hn.1 _ e1)
    · exact ih hn.2 e1 e2
theorem pair_left {m : List (Id × Id)} (hn : (m.map (·.1)).Nodup) {i j j' : Id} (h1 : (i, j) ∈ m) (h2 : (i, j') ∈ m) : j = j' := by
  induction m with
  | nil => cases h1
  | cons c m ih =>
    simp only [List.map_cons, List.nodup_cons, List.mem_map, not_exists, not_and] at hn
    rcases List.mem_cons.1 h1 with e1 | e1 <;> rcases List.mem_cons.1 h2 with e2 | e2
    · rw [← e1] at e2; cases e2; rfl
    · exact absurd (by rw [← e1]) (hn.1 _ e2)
    · exact absurd (by rw [← e2]) (hn.1 _ e1)
    · exact ih hn.2 e1 e2

noncomputable def PV.idT : PV → List Id
  | .tup vs => vs.flatMap PV.ids
  | p => p.ids
noncomputable def numR : Nat → List Id → List (Id × Id)
  | _, [] => []
  | k, i :: l => (i, (0, k)) :: numR (k + 1) l
theorem numR_get : ∀ {l : List Id} {k j : Nat} {i : Id}, l[j]? = some i → (i, (0, k + j)) ∈ numR k l
  | [], k, j, i, h => by simp at h
  | a :: l, k, 0, i, h => by
    simp at h; subst h; simp [numR]
  | a :: l, k, j + 1, i, h => by
    have ih := numR_get (k := k + 1) (j := j) (l := l) (i := i) (by simpa using h)
    rw [show k + (j + 1) = k + 1 + j by omega]
    exact List.mem_cons_of_mem _ ih
noncomputable def rnBs (s : S) (m : List (Id × Id)) : List Id → Option (List Blk)
  | [] => some []
  | i :: l =>
    match (getH s.H i).bind (rnB m), rnBs s m l with
    | some b, some l' => some (b :: l')
    | _, _ => none
theorem rnBs_get {s : S} {m : List (Id × Id)} : ∀ {l : List Id} {B : List Blk} {j : Nat} {b' : Blk}, rnBs s m l = some B → B[j]? = some b' → ∃ i b, l[j]? = some i ∧ getH s.H i = some b ∧ rnB m b = some b'
  | [], B, j, b', h, hb => by cases h; simp at hb
  | i :: l, B, j, b', h, hb => by
    unfold rnBs at h
    split at h
    · rename_i b0 l' h1 h2
      cases h
      cases j with
      | zero =>
        simp at hb; subst hb
        obtain ⟨b, hb1, hb2⟩ := Option.bind_eq_some_iff.1 h1
        exact ⟨i, b, by simp, hb1, hb2⟩
      | succ j =>
        obtain ⟨i', b, h3, h4, h5⟩ := rnBs_get (j := j) h2 (by simpa using hb)
        exact ⟨i', b, by simpa using h3, h4, h5⟩
    · cases h

noncomputable def retS (P : Program) (rs : List ResultVar) (s : S) : Option (PV × List Blk) :=
  match resOf P s.abs rs with
  | some vs =>
    let M := reach (getH s.H) 1000000 (pack vs).idT []
    let m := numR 0 M
    match rnV m (pack vs), rnBs s m M with
    | some r, some B => if (nodupB (m.map (·.1)) && nodupB (m.map (·.2)) && m.all fun e => decide (e.2.1 = 0) && decide (e.2.2 < B.length)) = true then some (r, B) else none
    | _, _ => none
  | none => none
theorem retS_ok {P : Program} {rs : List ResultVar} {s : S} {r : PV} {B : List Blk} (h : retS P rs s = some (r, B)) : RetOk P rs r B s.abs := by
  unfold retS at h
  split at h
  · rename_i vs hv
    simp only at h
    split at h
    · rename_i r' B' h1 h2
      split at h
      · rename_i hc
        cases h
        rw [Bool.and_eq_true, Bool.and_eq_true] at hc
        refine ⟨vs, fun _ => False, fun i j => (i, j) ∈ _, hv, fun i i' j a b => pair_right (nodupB_ok hc.1.2) a b, fun i j j' a b => pair_left (nodupB_ok hc.1.1) a b, fun i j a => ?_, rnV_ok h1, fun j b' hb => ?_⟩
        · have := List.all_eq_true.1 hc.2 _ a
          simpa using this
        · obtain ⟨i, b, h3, h4, h5⟩ := rnBs_get h2 hb
          refine ⟨i, b, ?_, fun h => h, h4, rnB_ok h5⟩
          have := numR_get (k := 0) h3
          simpa using this
      · cases h
    · cases h
  · cases h

noncomputable def evFun (P : Program) (cx : Cx) (io : Io) (n : Nat) (f : FuncId) (args : List PV) : Option (PV × List Blk) :=
  match P.funcs[f]? with
  | some fn =>
    match fn.body with
    | some c =>
      if ((!(fn.name == "runtime.NumGoroutine")) && decide (args.length ≤ fn.ntmps)) = true then
        match evC P fn.ntmps cx io false n c ⟨argS 0 args, .leaf, [], 1, false⟩ with
        | some (.normal, s') => retS P fn.results.toList s'
        | some (.ret, s') => retS P fn.results.toList s'
        | _ => none
      else none
    | none => none
  | none => none
theorem enter_eq {args : List PV} : (⟨argS 0 args, .leaf, [], 1, false⟩ : S).abs = St.enter args := by
  show (⟨(argS 0 args).getF, getH .leaf, fun d => memN d [], 1, fun _ => none⟩ : St) = _
  have e1 : (argS 0 args).getF = fun t => args[t]? := by funext n; rw [argS_get n]; simp
  have e2 : getH (.leaf : Tr (Tr Blk)) = fun _ => none := rfl
  rw [e1, e2]; rfl
theorem evFun_ok {P : Program} {gw : World} {gb : Nat} {cx : Cx} {io : Io} (hk : Knows P gw gb cx io) (hm : P.follows .mixedOrders = true) {n : Nat} {f : FuncId} {args : List PV} {r : PV} {B : List Blk}
    (h : evFun P cx io n f args = some (r, B)) : VCall P gw gb f args r B := by
  unfold evFun at h
  split at h
  · rename_i fn hf
    split at h
    · rename_i c hb
      split at h
      · rename_i hc
        rw [Bool.and_eq_true] at hc
        · refine vcall_ofRC true fn.results.toList hf hb (by simpa using hc.1) rfl rfl (by simpa using hc.2) fun C hP hnt hgw hgb _ hro hcu => ?_
          have hk' : Knows C.P C.gw C.gb cx io := by rw [hP, hgw, hgb]; exact hk
          have hm' : C.P.follows .mixedOrders = true := by rw [hP]; exact hm
          rw [← enter_eq]
          split at h
          · rename_i s' hs
            exact evC_ok hk' hcu hm' hro n c _ s' .normal _ (by rw [hP, hnt]; exact hs) (retS_ok h)
          · rename_i s' hs
            exact evC_ok hk' hcu hm' hro n c _ s' .ret _ (by rw [hP, hnt]; exact hs) (retS_ok h)
          · cases h
      · cases h
    · cases h
  · cases h

/-! Calls that are handed blocks -/
/-- The blocks that come back: those that were handed in keep their names. -/
noncomputable def numIO (n : Nat) : Nat → List Id → List (Id × Id)
  | _, [] => []
  | k, i :: l => if i.1 = 0 ∧ i.2 < n then (i, i) :: numIO n k l else (i, (0, n + k)) :: numIO n (k + 1) l
noncomputable def backB (s : S) (m : List (Id × Id)) (j : Id) : Option Blk :=
  match m.find? (fun e => decide (e.2 = j)) with
  | some e => (getH s.H e.1).bind (rnB m)
  | none => none
theorem backB_ok {s : S} {m : List (Id × Id)} {j : Id} {b' : Blk} (h : backB s m j = some b') : ∃ i b, (i, j) ∈ m ∧ getH s.H i = some b ∧ rnB m b = some b' := by
  unfold backB at h
  split at h
  · rename_i e he
    have h1 := List.mem_of_find?_eq_some he
    have h2 := List.find?_some he
    obtain ⟨b, hb1, hb2⟩ := Option.bind_eq_some_iff.1 h
    have h2 : e.2 = j := by simpa using h2
    exact ⟨e.1, b, by rw [← h2]; exact h1, hb1, hb2⟩
  · cases h
noncomputable def retSIO (P : Program) (rs : List ResultVar) (n : Nat) (s : S) : Option (PV × List (Option Blk)) :=
  match resOf P s.abs rs with
  | some vs =>
    let M := reach (getH s.H) 1000000 (((List.range n).map fun k => (0, k)).filter (fun i => (getH s.H i).isSome) ++ (pack vs).idT) []
    let m := numIO n 0 M
    let B := (List.range (n + M.length)).map fun k => backB s m (0, k)
    match rnV m (pack vs) with
    | some r => if (nodupB (m.map (·.1)) && nodupB (m.map (·.2)) && m.all fun e => decide (e.2.1 = 0) && (B.getD e.2.2 none).isSome && (!decide (e.2.2 < n) || decide (e.1 = e.2))) = true then some (r, B) else none
    | none => none
  | none => none
theorem retSIO_ok {P : Program} {rs : List ResultVar} {n : Nat} {s : S} {r : PV} {B : List (Option Blk)} (h : retSIO P rs n s = some (r, B)) : RetOkIO P rs n r B s.abs ∧ n ≤ B.length := by
  unfold retSIO at h
  split at h
  · rename_i vs hv
    simp only at h
    split at h
    · rename_i r' h1
      split at h
      · rename_i hc
        cases h
        rw [Bool.and_eq_true, Bool.and_eq_true] at hc
        refine ⟨⟨vs, fun _ => False, fun i j => (i, j) ∈ _, hv, fun i i' j a b => pair_right (nodupB_ok hc.1.2) a b, fun i j j' a b => pair_left (nodupB_ok hc.1.1) a b, fun i j a => ?_, rnV_ok h1, fun j b' hb => ?_⟩, by simp⟩
        · have := List.all_eq_true.1 hc.2 _ a
          simp only [Bool.and_eq_true, decide_eq_true_eq, Bool.or_eq_true, Bool.not_eq_true', decide_eq_false_iff_not] at this
          refine ⟨this.1.1, ?_, fun hlt => this.2.resolve_left (fun hh => hh hlt)⟩
          have h2 := this.1.2
          rw [List.getD_eq_getElem?_getD] at h2
          cases hg : ((List.range (n + (reach (getH s.H) 1000000 (((List.range n).map fun k => (0, k)).filter (fun i => (getH s.H i).isSome) ++ (pack vs).idT) []).length)).map fun k => backB s (numIO n 0 (reach (getH s.H) 1000000 (((List.range n).map fun k => (0, k)).filter (fun i => (getH s.H i).isSome) ++ (pack vs).idT) [])) (0, k))[j.2]? with
          | none => rw [hg] at h2; cases h2
          | some o =>
            rw [hg] at h2
            cases o with
            | none => cases h2
            | some b => exact ⟨b, rfl⟩
        · rw [List.getElem?_map] at hb
          obtain ⟨k, hk, hb⟩ := Option.map_eq_some_iff.1 hb
          obtain ⟨hk1, hk2⟩ := List.getElem?_eq_some_iff.1 hk
          rw [List.getElem_range] at hk2
          subst hk2
          obtain ⟨i, b, h3, h4, h5⟩ := backB_ok hb
          exact ⟨i, b, h3, fun h => h, h4, rnB_ok h5⟩
      · cases h
    · cases h
  · cases h
noncomputable def evFunIO (P : Program) (cx : Cx) (io : Io) (n : Nat) (f : FuncId) (args : List PV) (Hin : List Blk) : Option (PV × List (Option Blk)) :=
  match P.funcs[f]? with
  | some fn =>
    match fn.body with
    | some c =>
      if ((!(fn.name == "runtime.NumGoroutine")) && decide (args.length ≤ fn.ntmps)) = true then
        match enterH 0 Hin with
        | some H =>
          match evC P fn.ntmps cx io false n c ⟨argS 0 args, H, [], 1, false⟩ with
          | some (.normal, s') => retSIO P fn.results.toList Hin.length s'
          | some (.ret, s') => retSIO P fn.results.toList Hin.length s'
          | _ => none
        | none => none
      else none
    | none => none
  | none => none
theorem enterIO_eq {args : List PV} {Hin : List Blk} {H : Tr (Tr Blk)} (hH : enterH 0 Hin = some H) : (⟨argS 0 args, H, [], 1, false⟩ : S).abs = St.enterIO args Hin := by
  show (⟨(argS 0 args).getF, getH H, fun d => memN d [], 1, fun _ => none⟩ : St) = _
  have e1 : (argS 0 args).getF = fun t => args[t]? := by funext n; rw [argS_get n]; simp
  have e2 : getH H = fun i => if i.1 = 0 then Hin[i.2]? else none := by funext i; rw [enterH_get hH i]; simp
  rw [e1, e2]; rfl
theorem evFunIO_ok {P : Program} {gw : World} {gb : Nat} {cx : Cx} {io : Io} (hk : Knows P gw gb cx io) (hm : P.follows .mixedOrders = true) {n : Nat} {f : FuncId} {args : List PV} {Hin : List Blk} {r : PV} {B : List (Option Blk)}
    (h : evFunIO P cx io n f args Hin = some (r, B)) : VCallIO P gw gb f args Hin r B := by
  unfold evFunIO at h
  split at h
  · rename_i fn hf
    split at h
    · rename_i c hb
      split at h
      · rename_i hc
        rw [Bool.and_eq_true] at hc
        split at h
        · rename_i H hH
          have hlen : Hin.length ≤ B.length := by
            split at h
            · exact (retSIO_ok h).2
            · exact (retSIO_ok h).2
            · cases h
          refine vcallIO_ofCR true fn.results.toList hf hb (by simpa using hc.1) rfl rfl (by simpa using hc.2) hlen fun C hP hnt hgw hgb hcu hro => ?_
          have hk' : Knows C.P C.gw C.gb cx io := by rw [hP, hgw, hgb]; exact hk
          have hm' : C.P.follows .mixedOrders = true := by rw [hP]; exact hm
          rw [← enterIO_eq hH]
          split at h
          · rename_i s' hs
            exact evC_ok hk' hcu hm' hro n c _ s' .normal _ (by rw [hP, hnt]; exact hs) (retSIO_ok h).1
          · rename_i s' hs
            exact evC_ok hk' hcu hm' hro n c _ s' .ret _ (by rw [hP, hnt]; exact hs) (retSIO_ok h).1
          · cases h
        · cases h
      · cases h
    · cases h
  · cases h

/-! All calls, by their depth -/
noncomputable def evAll (P : Program) (tab : Cx) (tio : Io) (n : Nat) : Nat → Cx × Io
  | 0 => (tab, tio)
  | k + 1 =>
    (fun f args => match tab f args with | some x => some x | none => evFun P (evAll P tab tio n k).1 (evAll P tab tio n k).2 n f args,
     ⟨fun f args Hin => match tio.run f args Hin with | some x => some x | none => evFunIO P (evAll P tab tio n k).1 (evAll P tab tio n k).2 n f args Hin, tio.md,
     fun f args Hin => match tio.it f args Hin with | some x => some x | none => evIt P (evAll P tab tio n k).1 (evAll P tab tio n k).2 n f args Hin⟩)
theorem evAll_ok {P : Program} {gw : World} {gb : Nat} {tab : Cx} {tio : Io} (hk : Knows P gw gb tab tio) (hm : P.follows .mixedOrders = true) (n : Nat) : ∀ k, Knows P gw gb (evAll P tab tio n k).1 (evAll P tab tio n k).2
  | 0 => hk
  | k + 1 => by
    have ih := evAll_ok hk hm n k
    refine ⟨fun f args r B h => ?_, fun f args Hin xs h => ?_, fun f args Hin r B h => ?_⟩
    · unfold evAll at h
      simp only at h
      split at h
      · rename_i x hx
        cases h
        exact hk.cx _ _ _ _ hx
      · exact evFun_ok ih hm h
    · unfold evAll at h
      simp only at h
      split at h
      · rename_i x hx
        cases h
        exact hk.it _ _ _ _ hx
      · exact evIt_ok ih hm h
    · unfold evAll at h
      simp only at h
      split at h
      · rename_i x hx
        cases h
        exact hk.io _ _ _ _ _ hx
      · exact evFunIO_ok ih hm h
end Go.Vm
end

section
namespace Go.Vm
open Go Go.RowKit Go.Shelf Go.Lib
set_option linter.unusedSimpArgs false
set_option linter.unusedVariables false

/-! ### slices.Clone, over any type -/
noncomputable def cloneFn (nm : String) (tg : Array TypeId) (t tb : TypeId) : Func :=
{ name := nm, origin := "slices.Clone", targs := tg,
  params := #[t], resultTypes := #[t], nfree := 0, ntmps := 8, results := #[ResultVar.tmp 2],
  body :=
    some
      (Code.seq
        (Code.region 0
          #[{ dst := some 2, op := Op.assign (Operand.const (Value.slice none 0 0)), type := t,
              pos := "slices.go:355", after := #[], guard := none }]
          false)
        (Code.seq
          (Code.seq
            (Code.region 1
              #[{ dst := some 3, op := Op.move (Operand.tmp 0), type := t, pos := "slices.go:357", after := #[],
                  guard := none },
                { dst := some 4,
                  op := Op.binOp BinOp.eql t (Operand.tmp 3) (Operand.const (Value.slice none 0 0)) t,
                  type := tb, pos := "slices.go:357", after := #[{ on := 0, ground := Ground.data }], guard := none }]
              false)
            (Code.cond (Operand.tmp 4)
              (Code.seq
                (Code.region 2
                  #[{ dst := some 2, op := Op.assign (Operand.const (Value.slice none 0 0)), type := t,
                      pos := "slices.go:358", after := #[], guard := none }]
                  false)
                Code.ret)
              Code.skip))
          (Code.seq
            (Code.region 3
              #[{ dst := some 5, op := Op.buildSlice t 0 #[], type := t, pos := "slices.go:362", after := #[],
                  guard := none },
                { dst := some 6, op := Op.move (Operand.tmp 0), type := t, pos := "slices.go:362", after := #[],
                  guard := none },
                { dst := some 7,
                  op :=
                    Op.call
                      { callee := Callee.builtin Builtin.append, args := #[Operand.tmp 5, Operand.tmp 6],
                        argTypes := #[t, t] },
                  type := t, pos := "slices.go:362",
                  after := #[{ on := 0, ground := Ground.data }, { on := 1, ground := Ground.data }],
                  guard := none },
                { dst := some 2, op := Op.assign (Operand.tmp 7), type := t, pos := "slices.go:362",
                  after :=
                    #[{ on := 2, ground := Ground.data }, { on := 2, ground := Ground.chain },
                      { on := 0, ground := Ground.phase }, { on := 1, ground := Ground.phase },
                      { on := 2, ground := Ground.phase }],
                  guard := none }]
              false)
            Code.ret))),
  norace := false, file := "slices/slices.go", endLine := 363, tmpNames := #["s", "s", "", "", "", "", "", ""] }

section
variable {P : Program} {f : FuncId} {nm : String} {tg : Array TypeId} {t tb e : TypeId} {i0 : TypeInfo} {zv : Value} {z by_ : Nat}
set_option maxHeartbeats 4000000 in
set_option maxRecDepth 100000 in
theorem clone_some (hf : P.funcs[f]? = some (cloneFn nm tg t tb)) (mixed : P.follows .mixedOrders = true) (ht : P.underlying t = some (.slice e)) (hi : P.info? e = some i0) (hz0 : i0.zero = some zv) (hz1 : i0.size = z) (hz2 : i0.bytes = by_) (hzs : zv.cells.size = z) (hzp : 0 < z)
    (ad : Addr) (n c : Nat) (news : List Value) (w : World) (hl : news.length = n * z) (hn : ∀ j u, news[j]? = some u → w.cell? (ad.add j) = some u) (h1 : ∀ u ∈ news, u.oneCell' = true) (hm : n ≤ maxLen) (hby : n * by_ ≤ 140737488355328) :
    Calls P f #[.slice (some ad) n c] w fun e' w' => ∃ v', e' = .returned v' ∧ w'.ownsRow w.heap.size e z v' n news ∧ Below w.heap.size w w' := by
  have q : ∀ (w : World) (a : Option Addr) (n c n' c' : Nat), (binOp .eql t (.slice a n c) (.slice none n' c')).run P w = .ok (.bool a.isNone) w := fun w a n c n' c' => Lib.run_eql_slice_nil w _ _ a n c n' c' ht
  have u : ∀ w, Sem.run P (underlying t) w = .ok (TypeDesc.slice e) w := run_underlying ht
  have s : ∀ w, Sem.run P (Go.sizeOf e) w = .ok z w := fun w => by simp [Go.sizeOf, typeInfo, hi, hz1]
  have A : Aside (∀ j u, news[j]? = some u → w.cell? (ad.add j) = some u) := hn
  clear hn
  have hnt : (cloneFn nm tg t tb).ntmps = 8 := rfl
  go_enter hf, hnt
  go_wp2_with (at_builtin; refine wpList_append_own _ rfl _ _ t rfl w.heap.size e i0 zv z by_ ht hi hz0 hz1 hz2 hzs hzp _ _ _ rfl (World.ownsRow_made w #[] 0 (Nat.le_refl _) (Nat.zero_le _) (by simp)) ad n c news rfl hl ?qc2 h1 (by simpa using hm) (by simpa using hby) (by simp) ?_)
  case qc2 =>
    intro j u hj
    refine Lib.cell?_alloc_some _ ?_
    exact A.out j u hj
  intro v' w1 hown hgrow hnil
  go_wp2
  go_ret
  refine ⟨v', rfl, by simpa using hown, ?_⟩
  exact ((Below.refl _ w).alloc (Nat.le_refl _) _).grown hgrow (by simp) (by intro k hk; simp [Value.ownBlock] at hk; omega)
set_option maxHeartbeats 4000000 in
set_option maxRecDepth 100000 in
theorem clone_zero (hf : P.funcs[f]? = some (cloneFn nm tg t tb)) (mixed : P.follows .mixedOrders = true) (ht : P.underlying t = some (.slice e)) (hi : P.info? e = some i0) (hz0 : i0.zero = some zv) (hz1 : i0.size = z) (hz2 : i0.bytes = by_) (hzs : zv.cells.size = z) (hzp : 0 < z)
    (ad : Addr) (c : Nat) (w : World) :
    Calls P f #[.slice (some ad) 0 c] w fun e' w' => ∃ v', e' = .returned v' ∧ w'.ownsRow w.heap.size e z v' 0 [] ∧ Below w.heap.size w w' :=
  clone_some hf mixed ht hi hz0 hz1 hz2 hzs hzp ad 0 c [] w (by simp) (by simp) (by simp) (Nat.zero_le _) (by simp)
set_option maxHeartbeats 4000000 in
set_option maxRecDepth 100000 in
theorem clone_nil (hf : P.funcs[f]? = some (cloneFn nm tg t tb)) (mixed : P.follows .mixedOrders = true) (ht : P.underlying t = some (.slice e)) (n c : Nat) (w : World) :
    Calls P f #[.slice none n c] w fun e' w' => e' = .returned (.slice none 0 0) ∧ w' = w := by
  have q : ∀ (w : World) (a : Option Addr) (n c n' c' : Nat), (binOp .eql t (.slice a n c) (.slice none n' c')).run P w = .ok (.bool a.isNone) w := fun w a n c n' c' => Lib.run_eql_slice_nil w _ _ a n c n' c' ht
  have hnt : (cloneFn nm tg t tb).ntmps = 8 := rfl
  go_enter hf, hnt
  go_wp2
  go_ret
  exact ⟨rfl, rfl⟩

/-- slices.Clone: a new row of the same elements. -/
theorem clone_call {gw : World} {gb : Nat} {n : Nat} {xs : List PC} {b : Bool} (hf : P.funcs[f]? = some (cloneFn nm tg t tb)) (hname : (nm == "runtime.NumGoroutine") = false) (mixed : P.follows .mixedOrders = true) (he : elemT P t = some e) (hs : szT P e = some z) (hby : bytesT P e = some by_) (hzv : zeroT P e = some zv) (hzs : zv.cells.size = z) (hzp : 0 < z)
    (hl : xs.length = n * z) (hm : n ≤ maxLen) (hlim : n * by_ ≤ 140737488355328) (hfr : PC.frees xs = true) :
    VCall P gw gb f [.one (.sl b n xs)] (.one (.own (0, 0))) [.arr e z n xs] := by
  have ht := elemT_spec he
  obtain ⟨i0, hi, hz1⟩ := Option.map_eq_some_iff.1 (show (P.info? e).map (·.size) = some z from hs)
  have hz2 : i0.bytes = by_ := by
    have : (P.info? e).map (·.bytes) = some by_ := hby
    rw [hi] at this; simpa using this
  have hz0 : i0.zero = some zv := by
    have : (P.info? e).bind (·.zero) = some zv := hzv
    rw [hi] at this; simpa using this
  refine ⟨⟨_, hf, hname, rfl⟩, fun w args F hgb hgl hlt hr => ?_⟩
  simp only [repVs, repV, rep] at hr
  obtain ⟨x, xs', hx, ⟨A, cap, rfl, hc, hrow⟩, rfl⟩ := hr
  obtain rfl : args = #[.slice A n cap] := by cases args; simp_all
  have fin : ∀ (v' : Value) (w' : World) (vs : List Value), w'.ownsRow w.heap.size e z v' n vs → Below w.heap.size w w' → reps (fun _ => none) w (Fs F fun _ => False) xs vs →
      ∃ (x : Value) (ψ : Id → Option Value) (X : Nat → Prop), Ending.returned v' = .returned x ∧ Below w.heap.size w w' ∧ (∀ g, X g → w.heap.size ≤ g ∧ g < w'.heap.size) ∧
      repV ψ w' (Fs (fun g => F g ∨ X g) X) (.one (.own (0, 0))) x ∧ (∀ (j : Nat) b, [Blk.arr e z n xs][j]? = some b → holds ψ w' (Fs (fun g => F g ∨ X g) X) (0, j) b) ∧ (∀ i, ψ i ≠ none → i.1 = 0) ∧
      (∀ j u g, ψ (0, j) = some u → blkOf u = some g → w.heap.size ≤ g ∧ ¬ X g) ∧
      (∀ j k u v g, ψ (0, j) = some u → ψ (0, k) = some v → blkOf u = some g → blkOf v = some g → j = k) := by
    intro v' w' vs ho hb hrs
    have hsl : isSl v' = true := by
      rcases ho.2 with ⟨rfl, _⟩ | ⟨g, cap, cur, rfl, _⟩ <;> rfl
    have hge : ∀ g, blkOf v' = some g → w.heap.size ≤ g := by
      intro g hg
      rcases ho.2 with ⟨rfl, _⟩ | ⟨g', cap, cur, rfl, hle, _⟩
      · cases hg
      · simp only [blkOf, Option.some.injEq] at hg; omega
    have ho0 : w'.ownsRow 0 e z v' n vs := ⟨ho.1, ho.2.imp id fun ⟨g, cap, cur, h1, h2, h3⟩ => ⟨g, cap, cur, h1, Nat.zero_le _, h3⟩⟩
    refine ⟨v', upd (fun _ => none) (0, 0) (some v'), fun _ => False, rfl, hb, fun g hg => hg.elim, ?_, fun j b hj => ?_, fun i hi => ?_, fun j u g hu hg => ?_, fun j k u v g hu hv _ _ => ?_⟩
    · simp only [repV, rep]
      exact ⟨upd_self _ _ _, hsl⟩
    · cases j with
      | succ j => simp at hj
      | zero =>
        simp only [List.getElem?_cons_zero, Option.some.injEq] at hj
        subst hj
        refine ⟨v', vs, upd_self _ _ _, ho0, ?_⟩
        refine free_reps (φ := fun _ => none) (fun t g hg => hg) _ _ hfr ?_
        refine reps_mono (fun _ _ h => by cases h) (fun t g hg => ?_) (fun t g hg => ?_) _ _ hrs
        · refine hb.block g ?_
          cases t
          · exact hlt g hg
          · exact hg.elim
        · cases t
          · exact .inl hg
          · exact hg.elim
    · by_cases h : i = (0, 0)
      · rw [h]
      · rw [upd_ne _ _ h] at hi; exact absurd rfl hi
    · by_cases h : j = 0
      · subst h
        rw [upd_self] at hu
        cases hu
        exact ⟨hge g hg, fun h => h⟩
      · rw [upd_ne _ _ (by simp [h])] at hu; cases hu
    · by_cases h : j = 0
      · by_cases h' : k = 0
        · rw [h, h']
        · rw [upd_ne _ _ (by simp [h'])] at hv; cases hv
      · rw [upd_ne _ _ (by simp [h])] at hu; cases hu
  cases A with
  | none =>
    have hn0 : n = 0 ∧ xs = [] := by
      rcases hrow with h | ⟨ad, h, _⟩
      · exact h
      · cases h
    obtain ⟨rfl, rfl⟩ := hn0
    refine (clone_nil hf mixed ht 0 cap w).mono fun e' w' he' => ?_
    obtain ⟨rfl, rfl⟩ := he'
    exact fin _ _ [] ⟨by simp, .inl ⟨rfl, rfl⟩⟩ (Below.refl _ _) (by simp only [reps])
  | some ad =>
    rcases hrow with ⟨rfl, rfl⟩ | ⟨ad', h, hF, hat⟩
    · refine (clone_zero hf mixed ht hi hz0 hz1 hz2 hzs hzp ad cap w).mono fun e' w' he' => ?_
      obtain ⟨v', rfl, ho, hb⟩ := he'
      exact fin _ _ [] ho hb (by simp only [reps])
    · cases h
      obtain ⟨vs, hvs, hcl⟩ := repAt_vals _ _ hat
      refine (clone_some hf mixed ht hi hz0 hz1 hz2 hzs hzp ad n cap vs w (by rw [reps_length _ _ hvs, hl]) hcl (reps_one _ _ hvs) hm hlim).mono fun e' w' he' => ?_
      obtain ⟨v', rfl, ho, hb⟩ := he'
      exact fin _ _ vs ho hb hvs
end
end Go.Vm
end

section
namespace Go.Vm
open Go Go.RowKit
set_option linter.unusedSimpArgs false
set_option linter.unusedVariables false

/-! ### Tables of contracts for the evaluator -/
noncomputable def TabOk (P : Program) (gw : World) (gb : Nat) (cx : Cx) : Prop := ∀ f args r B, cx f args = some (r, B) → VCall P gw gb f args r B
noncomputable def orTab (a b : Cx) : Cx := fun f args => match a f args with | some x => some x | none => b f args
theorem orTab_ok {P : Program} {gw : World} {gb : Nat} {a b : Cx} (ha : TabOk P gw gb a) (hb : TabOk P gw gb b) : TabOk P gw gb (orTab a b) := by
  intro f args r B h
  unfold orTab at h
  split at h
  · rename_i x hx; cases h; exact ha _ _ _ _ hx
  · exact hb _ _ _ _ h
structure CloneE where
  f : FuncId
  e : TypeId
  z : Nat
  bytes : Nat
noncomputable def CloneOk (P : Program) (x : CloneE) : Prop :=
  ∃ nm tg t tb, P.funcs[x.f]? = some (cloneFn nm tg t tb) ∧ (nm == "runtime.NumGoroutine") = false ∧ elemT P t = some x.e ∧ szT P x.e = some x.z ∧ bytesT P x.e = some x.bytes ∧ (zeroT P x.e).map (fun v => v.cells.size) = some x.z ∧ 0 < x.z
noncomputable def cloneTab : List CloneE → Cx
  | [], _, _ => none
  | x :: L, f, args =>
    if x.f = f then
      match args with
      | [.one (.sl b n xs)] => if (xs.length == n * x.z && decide (n ≤ 140737488355328) && decide (n * x.bytes ≤ 140737488355328) && PC.frees xs) = true then some (.one (.own (0, 0)), [.arr x.e x.z n xs]) else none
      | _ => none
    else cloneTab L f args
theorem cloneTab_ok {P : Program} {gw : World} {gb : Nat} (mixed : P.follows .mixedOrders = true) : ∀ {L : List CloneE}, (∀ x ∈ L, CloneOk P x) → TabOk P gw gb (cloneTab L)
  | [], _ => fun f args r B h => by cases h
  | x :: L, hL => fun f args r B h => by
    unfold cloneTab at h
    split at h
    · rename_i hf
      split at h
      · rename_i b n xs
        split at h
        · rename_i hc
          cases h
          simp only [Bool.and_eq_true, beq_iff_eq, decide_eq_true_eq] at hc
          obtain ⟨nm, tg, t, tb, h1, h2, h3, h4, h5, h6, h8⟩ := hL x (by simp)
          obtain ⟨zv, h6, h7⟩ := Option.map_eq_some_iff.1 h6
          subst hf
          exact clone_call h1 h2 mixed h3 h4 h5 h6 h7 h8 hc.1.1.1 (by unfold maxLen; omega) hc.1.2 hc.2
        · cases h
      · cases h
    · exact cloneTab_ok mixed (fun y hy => hL y (by simp [hy])) _ _ _ _ h
end Go.Vm
end
