/-
  Walks of the program's functions by the framework, and what they compute (PtAH). Conditions: each theorem's own premises. By an AI agent.
-/
import Derived.Test.YtnpbndglolcilaaGreatDoorVmAG
import Derived.Shelf.Strings.Builder1
import Derived.Shelf.Strings.Builder2
import Derived.Shelf.Strings.OnBuilder
import Derived.Shelf.Strings.BuilderF
import Derived.Shelf.Strings.BuilderK
import Derived.Shelf.Utf8.RuneCount
import Derived.Shelf.Strings.Builder2Cap
import Derived.Shelf.Strconv.Atoi
import Derived.Shelf.Strconv.Itoa0
import Derived.Shelf.Strconv.Itoa1
import Derived.Shelf.LaysM
import Derived.Shelf.Strconv.Itoa2
import Derived.Shelf.Strconv.Itoa3
import Derived.Shelf.Strconv.AtoiErrFast
import Derived.Shelf.Strconv.ParseIntEmpty
import Derived.Shelf.Strconv.AtoiFail
import Derived.Shelf.Strconv.Clone
import Derived.Shelf.Strconv.SyntaxError
import Derived.Shelf.LaysC
import Derived.Shelf.Strconv.ToError
import Derived.Shelf.Strconv.Lower
import Derived.Shelf.Strconv.ParseUint10
import Derived.Shelf.Strconv.ParseUint10Empty
import Derived.Shelf.Strconv.ParseUint10Any
import Derived.Shelf.Strconv.ParseInt10
import Derived.Shelf.Strconv.AtoiLong
import Derived.Shelf.Strconv.AtoiInnerAll
import Derived.Shelf.Strconv.RangeError
import Derived.Shelf.Strconv.ToErrorRange
import Derived.Shelf.Strconv.AtoiAll
import Derived.Shelf.Strconv.ErrVarAll
import Derived.Shelf.Strconv.ParseUintEmpty
import Derived.Shelf.Strconv.ParseUint10b64
import Derived.Shelf.Strconv.ParseUint10b32
import Derived.Shelf.Strconv.ParseUint10b16
import Derived.Shelf.Strconv.ParseUint10b8
import Derived.Shelf.Strings.Search1
import Derived.Shelf.Strings.Search2
import Derived.Shelf.Strings.Search3
import Derived.Shelf.Strings.Cut
import Derived.Shelf.Strings.Count
import Derived.Shelf.Strings.Shaped
import Derived.Shelf.Strings.Prefix
import Derived.Shelf.Strings.Split
import Derived.Shelf.Strings.SplitShaped
import Derived.Shelf.Unicode.Decode
import Derived.Shelf.Strings.RuneCount
import Derived.Shelf.Strings.Explode
import Derived.Shelf.Unicode.DecodeSlow
import Derived.Shelf.Unicode.DecodeAny
import Derived.Shelf.Strings.BuilderCap
import Derived.Shelf.Slices.Turned
import Derived.Test.YtnpbndglolcilaaGreatDoorProg
section
namespace Go.Vm
open Go Go.RowKit
set_option linter.unusedVariables false
set_option linter.unusedSimpArgs false

section
variable {C : Ctx} {φ : Id → Option Value} {F0 F1 : Nat → Prop} {σ τ : St} {a : Act} {w w' : World}

def ptrs (bs : List Nat) : List Value := bs.map fun g => Value.pointer (some ⟨g, 0, none⟩)

theorem locs_rep {F : Bool → Nat → Prop} : ∀ (M : List Id) (vs : List Value), reps φ w F (M.map fun i => PC.loc i 0) vs →
    ∃ bs : List Nat, bs.length = M.length ∧ vs = ptrs bs ∧ ∀ (j : Nat) (i : Id) (b : Nat), M[j]? = some i → bs[j]? = some b → ∃ u, φ i = some u ∧ blkOf u = some b
  | [], vs, h => by
    simp only [List.map_nil, reps] at h
    exact ⟨[], rfl, h, fun j i b hj => by simp at hj⟩
  | i :: M, vs, h => by
    simp only [List.map_cons, reps, rep] at h
    obtain ⟨v, vs', rfl, ⟨u, g, hu, hg, rfl⟩, h⟩ := h
    obtain ⟨bs, hl, rfl, hb⟩ := locs_rep M vs' h
    refine ⟨g :: bs, by simp [hl], rfl, fun j i' b hj hbj => ?_⟩
    cases j with
    | zero => simp at hj hbj; subst hj hbj; exact ⟨u, hu, hg⟩
    | succ j => exact hb j i' b (by simpa using hj) (by simpa using hbj)

theorem reps_plain {F : Bool → Nat → Prop} : ∀ (cs vs : List Value), reps φ w F (cs.map PC.c) vs → vs = cs
  | [], vs, h => by simpa only [List.map_nil, reps] using h
  | c :: cs, vs, h => by
    simp only [List.map_cons, reps, rep] at h
    obtain ⟨v, vs', rfl, ⟨rfl, _⟩, h⟩ := h
    rw [reps_plain cs vs' h]

theorem zip_fold (ps : Array Tmp) (x : List Value) (t : Array Value) : (ps.zip x.toArray).foldl (fun tmps (p : Tmp × Value) => match p with | (t, a) => tmps.setIfInBounds t a) t = (ps.toList.zip x).foldl (fun t (p : Tmp × Value) => t.setIfInBounds p.1 p.2) t := by
  rw [← Array.foldl_toList]
  simp

def JumpOk (Q : Post) (c : Code) (τ : St) : Prop := (c = .ret ∧ Q .ret τ) ∨ ∃ id, c = .exit id ∧ Q (.exit id) τ

/-- A block that is kept, and is no cells, may turn: a context anew. -/
theorem RelX.rebase {l : Nat} (h : RelX C φ F0 F1 σ a w) (hk : C.K0 l) (hlg : C.gb ≤ l) (hF : ¬ C.Fi l) (o : Obj) : RelX { C with w0 := w.putObj l o } φ F0 F1 σ a (w.putObj l o) := by
  have hput : ∀ g, g ≠ l → (w.putObj l o).heap[g]? = w.heap[g]? := fun g hg => World.putObj_heap_other hg
  have hF0 : ¬ F0 l := by
    intro h0
    rcases h.ini l h0 with h1 | h1
    · exact hF h1
    · exact h.new1 l h1 hk
  have hwF : ∀ t g, Fs F0 F1 t g → (w.putObj l o).heap[g]? = w.heap[g]? := fun t g hg => hput g (by rintro rfl; exact hF0 (Fs_f0 h.sub t _ hg))
  refine ⟨h.size, h.defs, fun t p hp => (h.frame t p hp).imp fun x hx => ⟨hx.1, repV_mono (fun _ _ e => e) hwF (fun _ _ e => e) p x hx.2⟩, fun i b hi => ?_, h.inj, h.apart, h.sub, h.ini, h.new1, fun g hg => by simpa using h.lt0 g hg, rfl, rfl, rfl, Nat.le_refl _, fun _ _ => rfl,
    fun g hg => ?_, ?_, fun g hg => (hput g (by have : g < C.gb := hg; omega)).trans (h.glob g hg), h.keep, h.nx1, h.ids, fun t p hp => (h.ghost t p hp).imp fun x hx => ⟨hx.1, repV_mono (fun _ _ e => e) hwF (fun _ _ e => e) p x hx.2⟩⟩
  · have hh := h.heap i b hi
    refine holds_mono hh (fun _ _ e => e) (fun _ _ e => e) hwF fun u g hu hg => hput g ?_
    rintro rfl
    exact (h.apart i u _ (by rw [hi]; simp) hu hg).2.1 hk
  · have := h.k0lt g hg; have := h.big
    simp only [World.putObj_size]; omega
  · have := h.gbig; have := h.big
    simp only [World.putObj_size]; omega

/-- A RANGE OVER A FUNCTION. -/
theorem vwp_rangeFunc {Q : Post} {g : Operand} {ps : Array Tmp} {assign body : Code} {f : FuncId} {M : List Id} {bx : List (TypeId × List Value)} {xs : List (List Value)} (hro : C.ro = none)
    (hg : ev σ.fr g = some (.one (.fn f (M.map fun i => PC.loc i 0)))) (hM : nodup M = true) (hbx : ∀ (j : Nat) (i : Id) (b : TypeId × List Value), M[j]? = some i → bx[j]? = some b → σ.H i = some (.box b.1 (b.2.map .c))) (hlen : M.length = bx.length)
    (hit : VIter C.P C.gw C.gb f bx xs) (hps : ∀ p ∈ ps.toList, p < C.nt) (hxs : ∀ x ∈ xs, x.length = ps.size) (I : Nat → St → Prop) (h0 : ∃ τ, Wk C { σ with H := hide M σ.H } τ ∧ I 0 τ)
    (hr : ∀ k τ x, I k τ → xs[k]? = some x → ∀ C' : Ctx, C'.P = C.P → C'.nt = C.nt → C'.gw = C.gw → C'.gb = C.gb → ∀ K : St → Prop,
      (∀ σ', (∀ C'' : Ctx, C''.P = C.P → C''.nt = C.nt → C''.gw = C.gw → C''.gb = C.gb → vwp C'' body (roundQ C'' Q (I (k + 1))) σ') → K σ') → vwp C' assign (thenQ K (fun _ _ => False)) (roundSt τ ps.toList x))
    (hend : ∀ τ, I xs.length τ → Q .normal τ) : vwp C (.rangeFunc g ps assign body) Q σ := by
  intro C₁ l₁ a w ⟨φ, F0, F1, R⟩
  have hro₁ : C₁.ro = none := l₁.ro.trans hro
  have hfz : fz C₁ = Fence.wide := by unfold fz; rw [hro₁]; rfl
  have eP : C₁.P = C.P := l₁.P
  have ent : C₁.nt = C.nt := by rw [show C₁.nt = C₁.toCore.nt from rfl, l₁.core]
  have egw : C₁.gw = C.gw := by rw [show C₁.gw = C₁.toCore.gw from rfl, l₁.core]
  have egb : C₁.gb = C.gb := by rw [show C₁.gb = C₁.toCore.gb from rfl, l₁.core]
  -- the iterator's value, and its boxes
  have hgv := ev_rep R hg
  simp only [repV, rep] at hgv
  obtain ⟨vs, hgv, hcaps⟩ := hgv
  obtain ⟨bs, hbl, hvs, hbs⟩ := locs_rep M _ hcaps
  have hMH : ∀ (j : Nat) (i : Id), M[j]? = some i → ∃ b, bx[j]? = some b ∧ σ.H i = some (.box b.1 (b.2.map .c)) := by
    intro j i hj
    have : j < bx.length := by rw [← hlen]; exact (List.getElem?_eq_some_iff.1 hj).1
    exact ⟨_, List.getElem?_eq_getElem this, hbx j i _ hj (List.getElem?_eq_getElem this)⟩
  have hbM : ∀ (j b : Nat), bs[j]? = some b → ∃ i, M[j]? = some i := by
    intro j b hj
    have : j < M.length := by rw [← hbl]; exact (List.getElem?_eq_some_iff.1 hj).1
    exact ⟨_, List.getElem?_eq_getElem this⟩
  have hbmem : ∀ b ∈ bs, ∃ (j : Nat) (i : Id) (u : Value), M[j]? = some i ∧ bs[j]? = some b ∧ φ i = some u ∧ blkOf u = some b ∧ σ.H i ≠ none := by
    intro b hb
    obtain ⟨j, hj⟩ := List.mem_iff_getElem?.1 hb
    obtain ⟨i, hi⟩ := hbM j b hj
    obtain ⟨u, hu, hub⟩ := hbs j i b hi hj
    obtain ⟨c, _, hc⟩ := hMH j i hi
    exact ⟨j, i, u, hi, hj, hu, hub, by rw [hc]; simp⟩
  have hbnd : bs.Nodup := by
    refine List.pairwise_iff_getElem.2 fun j k hj hk hjk he => ?_
    have hkb := List.getElem?_eq_getElem hk
    have heq := List.getElem?_eq_getElem hj
    rw [he] at heq
    obtain ⟨i1, h1⟩ := hbM j _ heq
    obtain ⟨i2, h2⟩ := hbM k _ hkb
    obtain ⟨u1, hu1, hb1⟩ := hbs j i1 _ h1 heq
    obtain ⟨u2, hu2, hb2⟩ := hbs k i2 _ h2 hkb
    obtain ⟨_, _, hn1⟩ := hMH j i1 h1
    obtain ⟨_, _, hn2⟩ := hMH k i2 h2
    have := R.inj i1 i2 u1 u2 _ (by rw [hn1]; simp) (by rw [hn2]; simp) hu1 hu2 hb1 hb2
    subst this
    have := nodup_get hM j k i1 h1 h2
    omega
  have hbcell : ∀ (j g : Nat) (b : TypeId × List Value), bs[j]? = some g → bx[j]? = some b → w.heap[g]? = some (.cells b.2.toArray b.1 (0, 0)) := by
    intro j g b hj hb
    obtain ⟨i, hi⟩ := hbM j g hj
    obtain ⟨u, hu, hug⟩ := hbs j i g hi hj
    obtain ⟨g', vs', hp, hh, hrs⟩ := R.heap i _ (hbx j i b hi hb)
    rw [hu] at hp; cases hp
    simp only [blkOf, Option.some.injEq] at hug
    subst hug
    rw [hh, reps_plain _ _ hrs]
  have hbk : ∀ g ∈ bs, ¬ C₁.K0 g ∧ C₁.gb ≤ g ∧ g < w.heap.size ∧ ¬ F0 g := by
    intro g hgb
    obtain ⟨j, i, u, _, _, hu, hug, hn⟩ := hbmem g hgb
    obtain ⟨h1, h2, h3⟩ := R.apart i u g hn hu hug
    obtain ⟨b, hb⟩ := Option.ne_none_iff_exists'.1 hn
    exact ⟨h2, h3, holds_lt (R.heap i b hb) hu hug, h1⟩
  -- the boxes are handed over
  obtain ⟨τ0, hwk, hI0⟩ := h0
  let C₁' : Ctx := { C₁ with w0 := w, K0 := fun g => C₁.K0 g ∨ g ∈ bs, fik := fun g hg => .inl (C₁.fik g hg), gbk := fun g hg => .inl (C₁.gbk g hg) }
  have l₂ : Later C₁ C₁' := ⟨rfl, rfl, rfl, rfl, rfl, R.big, R.os, R.tape, R.output, fun g hg => .inl hg, fun g hg => R.kept g hg, [], rfl, List.nodup_nil, fun r hr => by cases hr⟩
  have hhle : ∀ i b, hide M σ.H i = some b → σ.H i = some b ∧ ∀ j : Nat, M[j]? ≠ some i := by
    intro i b hb
    unfold hide at hb
    split at hb
    · cases hb
    · rename_i hp; exact ⟨hb, pos_none hp⟩
  have R' : RelX C₁' φ F0 F1 { σ with H := hide M σ.H } a w := by
    have R0 := R.weaken (τ := { σ with H := hide M σ.H }) ⟨fun _ _ e => e, fun i b hb => (hhle i b hb).1, fun _ e => e, rfl, fun _ _ e => e⟩
    refine ⟨R0.size, R0.defs, R0.frame, R0.heap, R0.inj, fun i u g hi hu hg => ?_, R0.sub, R0.ini, fun g hg hk => ?_, R0.lt0, rfl, rfl, rfl, Nat.le_refl _, fun _ _ => rfl, fun g hk => ?_, Nat.le_trans R0.gbig R0.big, R0.glob, R0.keep, R0.nx1, R0.ids, R0.ghost⟩
    · obtain ⟨h1, h2, h3⟩ := R0.apart i u g hi hu hg
      refine ⟨h1, ?_, h3⟩
      rintro (hk | hk)
      · exact h2 hk
      · obtain ⟨j, i', u', hj, _, hu', hg', hn'⟩ := hbmem g hk
        obtain ⟨b, hb⟩ := Option.ne_none_iff_exists'.1 hi
        obtain ⟨hb1, hb2⟩ := hhle i b hb
        have := R.inj i i' u u' g (by rw [hb1]; simp) hn' hu hu' hg hg'
        subst this
        exact hb2 j hj
    · rcases hk with hk | hk
      · exact R0.new1 g hg hk
      · exact (hbk g hk).2.2.2 (R.sub g hg)
    · rcases hk with hk | hk
      · have := R.k0lt g hk; have := R.big; show g < w.heap.size; omega
      · exact (hbk g hk).2.2.1
  obtain ⟨φ1, F01, F11, R1⟩ := hwk C₁' (l₁.trans l₂) a w ⟨φ, F0, F1, R'⟩
  have R2 : RelX C₁ φ1 F01 F11 τ0 a w := R1.turn l₂ (fun _ => False) (fun g hg => hg.elim) rfl rfl rfl (Nat.le_refl _) (fun _ _ _ => rfl) (fun _ _ h => h) R.gbig
  -- the loop's record
  refine hfz ▸ wpIn_rangeFunc (F := Fence.wide) fun fn _ => ?_
  have hlk : ¬ C₁.K0 (w.heap.size + 1) := fun hk => by have := R.k0lt _ hk; have := R.big; omega
  generalize hrec : (fun (s : LoopState) (p : Option Code) => ({ state := s, pending := p, fn := fn, tmps := a.tmps, params := ps, assign := assign, body := body, defers := w.heap.size } : Loop)) = rec
  have hw1 : ∃ w1, (w.alloc (.deferred (some []))).alloc (.loop (rec .ready none)) = w1 := ⟨_, rfl⟩
  obtain ⟨w1, hw1⟩ := hw1
  have hsz1 : w1.heap.size = w.heap.size + 2 := by rw [← hw1]; simp
  have hold1 : ∀ g, g < w.heap.size → w1.heap[g]? = w.heap[g]? := by
    intro g hg
    rw [← hw1, heap_alloc_old _ _ (by simp; omega), heap_alloc_old _ _ hg]
  have hr1 : w1.heap[w.heap.size]? = some (.deferred (some [])) := by rw [← hw1, heap_alloc_old _ _ (by simp), World.alloc_heap_new]
  have hl1 : w1.heap[w.heap.size + 1]? = some (.loop (rec .ready none)) := by
    rw [← hw1]
    have := World.alloc_heap_new (w.alloc (.deferred (some []))) (.loop (rec .ready none))
    simpa using this
  have hbel : Below w.heap.size w w1 := by
    rw [← hw1]
    exact ((Below.refl _ _).alloc (Nat.le_refl _) _).alloc (by simp) _
  have R3 := R2.below hbel
  obtain ⟨fnc, hfn, hname, hbody⟩ := hit.callable
  refine ⟨w.heap.size + 1, [markOf w.heap.size], w1, ⟨.fn (.func f) vs, #[.func (.yield (w.heap.size + 1)) #[] #[]]⟩, w1, f, #[.func (.yield (w.heap.size + 1)) #[] #[]] ++ (ptrs bs).toArray, w1, ?_, ?_, fun _ _ => trivial, ?_, fun e => (by cases e), ?_⟩
  · have := run_enterLoop_outer (P := C₁.P) (w := w) fn a.tmps ps assign body
    rw [show Fence.wide.round = none from rfl, this, ← hw1, ← hrec]
    rfl
  · show (resolve a.eval (rangeCall g (w.heap.size + 1)) 0).run C₁.P w1 = .ok ⟨.fn (.func f) vs, #[.func (.yield (w.heap.size + 1)) #[] #[]]⟩ w1
    have hc : ∀ v, a.eval (.const v) = v := fun _ => rfl
    simp [resolve, hgv, Deferred.ofValue, hc]
  · have h1 : ¬ fnc.name = "runtime.NumGoroutine" := by simpa using hname
    have h2 : ¬ fnc.body = none := by
      intro e; rw [e] at hbody; simp at hbody
    have h3 : vs = (ptrs bs).toArray := by
      have : vs.toList = ptrs bs := hvs
      rw [← this]
    have hfn' : C₁.P.funcs[f]? = some fnc := by rw [eP]; exact hfn
    simp [invoke, callFunc, hfn', h1, h2, h3]
  rw [← eP, ← egw, ← egb] at hit
  have hlt : ∀ g ∈ bs, g < w.heap.size := fun g hg => (hbk g hg).2.2.1
  have hcore : ∀ {C' : Ctx}, C'.toCore = C₁.toCore → C'.P = C.P ∧ C'.nt = C.nt ∧ C'.gw = C.gw ∧ C'.gb = C.gb := by
    intro C' h
    refine ⟨?_, ?_, ?_, ?_⟩
    · rw [show C'.P = C'.toCore.P from rfl, h]; exact eP
    · rw [show C'.nt = C'.toCore.nt from rfl, h]; exact ent
    · rw [show C'.gw = C'.toCore.gw from rfl, h]; exact egw
    · rw [show C'.gb = C'.toCore.gb from rfl, h]; exact egb
  have hHeld : Held C₁ a (w.heap.size + 1) w.heap.size w1.heap.size bs φ1 F01 F11 τ0 (fun g => Own φ1 τ0 g ∨ F11 g) w1 := by
    refine ⟨R3, fun g hg => .inl hg, fun g hg => .inr hg, fun g hg => ?_, Nat.le_refl _⟩
    have key : g < w.heap.size ∧ ¬ C₁'.K0 g ∧ C₁.gb ≤ g := by
      rcases hg with ⟨i, u, hi, hu, hg⟩ | hg
      · obtain ⟨h1, h2, h3⟩ := R1.apart i u g hi hu hg
        obtain ⟨b, hb⟩ := Option.ne_none_iff_exists'.1 hi
        exact ⟨holds_lt (R1.heap i b hb) hu hg, h2, h3⟩
      · refine ⟨R1.lt0 g (R1.sub g hg), R1.new1 g hg, Nat.le_of_not_lt fun hlt => R1.new1 g hg (.inl (C₁.gbk g hlt))⟩
    obtain ⟨h1, h2, h3⟩ := key
    exact ⟨by omega, by omega, by omega, fun hk => h2 (.inl hk), fun hb => h2 (.inr hb), h3⟩
  refine CallsIn.mono (hit.run w1 bs (w.heap.size + 1)
    (fun k Y W => ∃ φ F0 F1 τ, I k τ ∧ Held C₁ a (w.heap.size + 1) w.heap.size w1.heap.size bs φ F0 F1 τ Y W ∧ W.heap[w.heap.size + 1]? = some (.loop (rec .ready none)) ∧ W.heap[w.heap.size]? = some (.deferred (some [])))
    (fun k Y W => ∃ c φ F0 F1 τ, JumpOk Q c τ ∧ Held C₁ a (w.heap.size + 1) w.heap.size w1.heap.size bs φ F0 F1 τ Y W ∧ W.heap[w.heap.size + 1]? = some (.loop (rec .done (some c))) ∧ W.heap[w.heap.size]? = some (.deferred (some [])))
    (fun g => Own φ1 τ0 g ∨ F11 g) (Nat.le_trans R3.gbig R3.big) R3.glob (hbl.trans hlen) hbnd (fun j g b hj hb => (hold1 g (hlt g (List.mem_of_getElem? hj))).trans (hbcell j g b hj hb))
    (fun g hg => ⟨(hbk g hg).2.1, by have := hlt g hg; omega, by have := hlt g hg; omega⟩) (by omega) (by have := R.gbig; have := R.big; omega) ?_ ?_ ?_ ?_ ⟨φ1, F01, F11, τ0, hI0, hHeld, hl1, hr1⟩) ?_
  · rintro k Y W ⟨φ, F0, F1, τ, _, h, _⟩ g hg
    obtain ⟨h1, h2, h3, h4, h5, h6⟩ := h.y g hg
    exact ⟨h1, h5, h6⟩
  · rintro k Y W W' ⟨φ, F0, F1, τ, hI, h, h1, h2⟩ hT
    have hb : ∀ g, g < w.heap.size + 2 → g ∉ bs → W'.heap[g]? = W.heap[g]? := fun g hg hgb => hT.heap g (by have := h.big; omega) (by rintro (h3 | h3); exact hgb h3; omega)
    exact ⟨φ, F0, F1, τ, hI, h.turn (fun g hg => ⟨(hbk g hg).1, (hbk g hg).2.1⟩) (by have := R.big; omega) hT, (hb _ (by omega) fun hg => by have := hlt _ hg; omega).trans h1, (hb _ (by omega) fun hg => by have := hlt _ hg; omega).trans h2⟩
  · rintro k Y W W' ⟨c, φ, F0, F1, τ, hI, h, h1, h2⟩ hT
    have hb : ∀ g, g < w.heap.size + 2 → g ∉ bs → W'.heap[g]? = W.heap[g]? := fun g hg hgb => hT.heap g (by have := h.big; omega) (by rintro (h3 | h3); exact hgb h3; omega)
    exact ⟨c, φ, F0, F1, τ, hI, h.turn (fun g hg => ⟨(hbk g hg).1, (hbk g hg).2.1⟩) (by have := R.big; omega) hT, (hb _ (by omega) fun hg => by have := hlt _ hg; omega).trans h1, (hb _ (by omega) fun hg => by have := hlt _ hg; omega).trans h2⟩
  · rintro k Y W x hx ⟨φ, F0, F1, τ, hI, h, hl, hr'⟩ hbig
    have hnY : ∀ g, C₁.Fi g → g < W.heap.size ∧ ¬ Y g := fun g hg => ⟨Nat.lt_of_lt_of_le (h.rel.k0lt g (C₁.fik g hg)) h.rel.big, fun hy => (h.y g hy).2.2.2.1 (C₁.fik g hg)⟩
    have hgY : ∀ g, g < C₁.gb → g < W.heap.size ∧ ¬ Y g := fun g hg => ⟨Nat.lt_of_lt_of_le (h.rel.k0lt g (C₁.gbk g hg)) h.rel.big, fun hy => (h.y g hy).2.2.2.1 (C₁.gbk g hg)⟩
    have hxm := List.mem_of_getElem? hx
    have hst := h.start (ps := ps.toList) (x := x) (fun p hp => ent ▸ hps p hp) (hit.one x hxm) hnY hgY
    have hlW : w.heap.size + 1 < W.heap.size := (Array.getElem?_eq_some_iff.1 hl).1
    have hlY : ¬ Y (w.heap.size + 1) := fun hy => (h.y _ hy).2.1 rfl
    have hrY : ¬ Y w.heap.size := fun hy => (h.y _ hy).2.2.1 rfl
    obtain ⟨e1, e2, e3, e4⟩ := hcore (C' := roundCtx C₁ a (w.heap.size + 1) Y W hnY hgY) rfl
    have hA := hr k τ x hI hx _ e1 e2 e3 e4 _ (fun σ' hσ => hσ) _ (.refl _) _ W ⟨φ, F0, F1, hst⟩
    refine ⟨fn, _, assign, body, ?_, roundIn_of_wpIn (F := Fence.wide) (tmps := (ps.toList.zip x).foldl (fun t (p : Tmp × Value) => t.setIfInBounds p.1 p.2) a.tmps) trivial (wpIn_mono hA ?_)⟩
    · have := run_yield (P := C₁.P) (args := x.toArray) hl (by rw [← hrec]; simpa using hxs x hxm)
      rw [← hrec] at this
      simp only at this
      rw [zip_fold] at this
      exact this
    rintro e a2 w2 ⟨C₂, σ2, l₃, ⟨φ2, F02, F12, RA⟩, q⟩
    cases e
    case normal =>
      have hK2 : ∀ g, g < W.heap.size → ¬ Y g → C₂.K0 g ∧ w2.heap[g]? = W.heap[g]? := fun g hg hy => ⟨l₃.K0 g ⟨hg, hy⟩, (RA.kept g (l₃.K0 g ⟨hg, hy⟩)).trans (l₃.kept g ⟨hg, hy⟩)⟩
      have hl2 := (hK2 _ hlW hlY).2.trans hl
      have hcore2 : C₂.toCore = C₁.toCore := l₃.core
      have hgb2 : C₂.gb = C₁.gb := by rw [show C₂.gb = C₂.toCore.gb from rfl, hcore2]
      have RB := RA.rebase (l := w.heap.size + 1) (hK2 _ hlW hlY).1 (by rw [hgb2]; have := R.gbig; have := R.big; omega) (by rw [l₃.Fi]; exact fun hf => hlk (C₁.fik _ hf)) (.loop { rec .ready none with state := .busy })
      obtain ⟨f1, f2, f3, f4⟩ := hcore (C' := { C₂ with w0 := w2.putObj (w.heap.size + 1) (.loop { rec .ready none with state := .busy }) }) hcore2
      have hB := q _ f1 f2 f3 f4 _ (.refl _) a2 _ ⟨φ2, F02, F12, RB⟩
      have hfb : fz { C₂ with w0 := w2.putObj (w.heap.size + 1) (.loop { rec .ready none with state := .busy }) } = Fence.wide.inRound (w.heap.size + 1) := by
        unfold fz
        rw [show ({ C₂ with w0 := w2.putObj (w.heap.size + 1) (.loop { rec .ready none with state := .busy }) } : Ctx).ro = C₂.ro from rfl, l₃.ro]
        rfl
      rw [hfb, f1, ← eP] at hB
      refine ⟨_, run_beginRound hl2 (by rw [← hrec]), wpIn_mono hB ?_⟩
      have post : ∀ (C₄ : Ctx) (τ' : St) (a3 : Act) (w3 : World) (st : LoopState) (jump : Option Code), Later { C₂ with w0 := w2.putObj (w.heap.size + 1) (.loop { rec .ready none with state := .busy }) } C₄ → Rel C₄ τ' a3 w3 →
          w3.heap[w.heap.size + 1]? = some (.loop { rec .ready none with state := .busy }) ∧ Turned (fun g => Y g ∨ g = w.heap.size + 1) W (w3.putObj (w.heap.size + 1) (.loop (rec st jump))) ∧
          ∃ Y', (∀ g, Y' g → Y g ∨ W.heap.size ≤ g) ∧ ∃ φ' F0' F1', Held C₁ a (w.heap.size + 1) w.heap.size w1.heap.size bs φ' F0' F1' (unround τ') Y' (w3.putObj (w.heap.size + 1) (.loop (rec st jump))) ∧
            (w3.putObj (w.heap.size + 1) (.loop (rec st jump))).heap[w.heap.size + 1]? = some (.loop (rec st jump)) ∧ (w3.putObj (w.heap.size + 1) (.loop (rec st jump))).heap[w.heap.size]? = some (.deferred (some [])) := by
        rintro C₄ τ' a3 w3 st jump l₄ ⟨φ4, F04, F14, R4⟩
        have hsz2 : W.heap.size ≤ w2.heap.size := Nat.le_trans l₃.big RA.big
        have hsz3 : w2.heap.size ≤ w3.heap.size := by have := Nat.le_trans l₄.big R4.big; simpa using this
        have hK4 : ∀ g, g < W.heap.size → ¬ Y g → C₄.K0 g ∧ w3.heap[g]? = (w2.putObj (w.heap.size + 1) (.loop { rec .ready none with state := .busy })).heap[g]? := fun g hg hy =>
          ⟨l₄.K0 g (hK2 g hg hy).1, (R4.kept g (l₄.K0 g (hK2 g hg hy).1)).trans (l₄.kept g (hK2 g hg hy).1)⟩
        have hT3 : Turned (fun g => Y g ∨ g = w.heap.size + 1) W w3 := by
          refine ⟨R4.os.trans (l₄.os.trans (RA.os.trans l₃.os)), R4.tape.trans (l₄.tape.trans (RA.tape.trans l₃.tape)), R4.output.trans (l₄.output.trans (RA.output.trans l₃.output)), Nat.le_trans hsz2 hsz3, fun g hg hn => ?_⟩
          have h1 : ¬ Y g := fun hy => hn (.inl hy)
          have h2 : g ≠ w.heap.size + 1 := fun hy => hn (.inr hy)
          exact (hK4 g hg h1).2.trans ((World.putObj_heap_other h2).trans (hK2 g hg h1).2)
        have hl3 : w3.heap[w.heap.size + 1]? = some (.loop { rec .ready none with state := .busy }) := (hK4 _ hlW hlY).2.trans (World.putObj_heap_same (Array.getElem?_eq_some_iff.1 hl2).1)
        have hT4 : Turned (fun g => g = w.heap.size + 1) w3 (w3.putObj (w.heap.size + 1) (.loop (rec st jump))) := ⟨rfl, rfl, rfl, by simp, fun g _ hg => World.putObj_heap_other hg⟩
        obtain ⟨Y', hY', hH⟩ := h.behind R4 (l₄.core.trans hcore2) (l₄.Fi.trans l₃.Fi) (l₄.φi.trans l₃.φi) (l₄.ex.trans l₃.ex) (fun g hg hy => (hK4 g hg hy).1) hlW (by omega) hlY hrY (fun g hg => by have := hlt g hg; omega) hlk (by have := R.gbig; have := R.big; omega) hT3 hT4 (by simp)
        refine ⟨hl3, hT3.trans hT4 (fun _ _ e => e) (fun _ _ e => .inr e), Y', hY', φ4, F04, F14, hH, World.putObj_heap_same (Array.getElem?_eq_some_iff.1 hl3).1, ?_⟩
        rw [World.putObj_heap_other (by omega), (hK4 _ (by omega) hrY).2, World.putObj_heap_other (by omega), (hK2 _ (by omega) hrY).2]
        exact hr'
      rintro e a3 w3 ⟨C₄, σ3, l₄, RC, q3⟩
      cases e
      case normal =>
        obtain ⟨τ', hwk', hI'⟩ := q3
        obtain ⟨p1, p2, Y', p3, φ', F0', F1', p4, p5, p6⟩ := post C₄ τ' a3 w3 .ready none l₄ (hwk' C₄ l₄ a3 w3 RC)
        refine ⟨_, _, run_endRound none p1, ?_⟩
        rw [← hrec] at p2 p4 p5 p6 ⊢
        exact ⟨p2, Y', p3, .inl ⟨rfl, φ', F0', F1', _, hI', p4, p5, p6⟩⟩
      case ret =>
        obtain ⟨τ', hwk', hI'⟩ := q3
        obtain ⟨p1, p2, Y', p3, φ', F0', F1', p4, p5, p6⟩ := post C₄ τ' a3 w3 .done (some .ret) l₄ (hwk' C₄ l₄ a3 w3 RC)
        refine ⟨_, _, run_endRound (some .ret) p1, ?_⟩
        rw [← hrec] at p2 p4 p5 p6 ⊢
        exact ⟨p2, Y', p3, .inr ⟨rfl, .ret, φ', F0', F1', _, .inl ⟨rfl, hI'⟩, p4, p5, p6⟩⟩
      case exit id =>
        obtain ⟨τ', hwk', hI'⟩ := q3
        obtain ⟨p1, p2, Y', p3, φ', F0', F1', p4, p5, p6⟩ := post C₄ τ' a3 w3 .done (some (.exit id)) l₄ (hwk' C₄ l₄ a3 w3 RC)
        refine ⟨_, _, run_endRound (some (.exit id)) p1, ?_⟩
        rw [← hrec] at p2 p4 p5 p6 ⊢
        exact ⟨p2, Y', p3, .inr ⟨rfl, .exit id, φ', F0', F1', _, .inr ⟨id, rfl, hI'⟩, p4, p5, p6⟩⟩
      all_goals exact q3.elim
    all_goals exact q.elim
  · rintro e w3 ⟨⟨v, rfl⟩, hJ | hJ⟩
    · obtain ⟨Y, φ, F0, F1, τ, hI, h, hl, hr'⟩ := hJ
      have hend' := run_endLoop (P := C₁.P) hl (by rw [← hrec]; simp)
      refine ⟨none, _, by have e := hend'; rw [← hrec] at e; exact e, ?_⟩
      obtain ⟨C₂, l₃, R4⟩ := h.close (by have := R.big; omega) hlk (by omega) (fun hy => (h.y _ hy).2.2.1 rfl) (fun hy => (h.y _ hy).2.1 rfl) (Array.getElem?_eq_some_iff.1 hl).1 hr' (by have := R.gbig; have := R.big; omega) _
      exact ⟨C₂, τ, l₃, R4, hend τ hI⟩
    · obtain ⟨k, Y, c, φ, F0, F1, τ, hc, h, hl, hr'⟩ := hJ
      have hend' := run_endLoop (P := C₁.P) hl (by rw [← hrec]; simp)
      refine ⟨some c, _, by have e := hend'; rw [← hrec] at e; exact e, ?_⟩
      rcases hc with ⟨rfl, hq⟩ | ⟨id, rfl, hq⟩
      · obtain ⟨C₂, l₃, R4⟩ := h.close (by have := R.big; omega) hlk (by omega) (fun hy => (h.y _ hy).2.2.1 rfl) (fun hy => (h.y _ hy).2.1 rfl) (Array.getElem?_eq_some_iff.1 hl).1 hr' (by have := R.gbig; have := R.big; omega) _
        exact wpIn_ret ⟨C₂, τ, l₃, R4, hq⟩
      · obtain ⟨C₂, l₃, R4⟩ := h.close (by have := R.big; omega) hlk (by omega) (fun hy => (h.y _ hy).2.2.1 rfl) (fun hy => (h.y _ hy).2.1 rfl) (Array.getElem?_eq_some_iff.1 hl).1 hr' (by have := R.gbig; have := R.big; omega) _
        exact wpIn_exit ⟨C₂, τ, l₃, R4, hq⟩
end
end Go.Vm
end

section
namespace Go.Vm
open Go Go.RowKit
set_option linter.unusedVariables false

/-- The end of a round: the ghosts are told anew. -/
theorem wk_convG {C : Ctx} {σ : St} (z : List Id) (m : List (Id × Id)) {fr : List (Nat × PV)} {H : List (Id × Blk)} {u : List Nat}
    (hm1 : (m.map (·.1)).Nodup) (hm2 : (m.map (·.2)).Nodup) (hu : ∀ e ∈ m, (e.2.1 = 0 ∧ e.1 = e.2) ∨ ∃ d ∈ u, e.2.1 = 1 + d)
    (hf : ∀ e ∈ fr, ∃ p, σ.gh e.1 = some p ∧ ConvV σ.H (· ∈ z) (fun i j => (i, j) ∈ m) p e.2)
    (hH : ∀ e ∈ H, ∃ i b, (i, e.1) ∈ m ∧ i ∉ z ∧ σ.H i = some b ∧ ConvB σ.H (· ∈ z) (fun i j => (i, j) ∈ m) b e.2) : Wk C σ { St.of [] H u with gh := fun t => lookF t fr } := by
  rintro C₁ l a w ⟨φ, F0, F1, h⟩
  obtain ⟨φ', F0', F1', hR, _⟩ := h.conv (τ := { St.of [] H u with gh := fun t => lookF t fr }) (· ∈ z) (fun i j => (i, j) ∈ m) (nodup_snd hm2) (nodup_fst hm1) (fun t p hp => by cases hp) (fun t p hp => hf (t, p) (lookF_mem hp)) (fun j b hb => hH (j, b) (lookH_mem hb))
    (fun i j hg => (hu (i, j) hg).elim (fun hh => .inl (by simp only [St.of]; have := hh.1; simp only at this; omega)) fun ⟨d, hd, hj⟩ => .inr ⟨d, inU_mem hd, hj⟩) (Nat.le_refl _) C₁.φi (fun i j u hg hj hu' => (hu (i, j) hg).elim (fun hh => by
      have e : i = j := hh.2
      subst e
      obtain ⟨i1, i2⟩ := i
      simp only at hj
      subst hj
      exact h.keep i2 u hu') fun ⟨d, _, he⟩ => (by simp only at he; omega))
  exact ⟨φ', F0', F1', hR⟩

section
variable {σ : St} {H : Id → Option Blk} {Z : Id → Prop} {G : Id → Id → Prop}
theorem hg_cons {t : Nat} {q p : PV} {l : List (Nat × PV)} (h : σ.gh t = some p) (hc : ConvV H Z G p q) (hl : ∀ e ∈ l, ∃ p, σ.gh e.1 = some p ∧ ConvV H Z G p e.2) : ∀ e ∈ (t, q) :: l, ∃ p, σ.gh e.1 = some p ∧ ConvV H Z G p e.2 := by
  intro e he
  rcases List.mem_cons.1 he with rfl | he
  · exact ⟨p, h, hc⟩
  · exact hl e he
end
theorem boxes3 {σ : St} {i0 i1 i2 : Id} {b0 b1 b2 : TypeId × List Value} (h0 : σ.H i0 = some (.box b0.1 (b0.2.map .c))) (h1 : σ.H i1 = some (.box b1.1 (b1.2.map .c))) (h2 : σ.H i2 = some (.box b2.1 (b2.2.map .c))) :
    ∀ (j : Nat) (i : Id) (b : TypeId × List Value), [i0, i1, i2][j]? = some i → [b0, b1, b2][j]? = some b → σ.H i = some (.box b.1 (b.2.map .c)) := by
  intro j i b hi hb
  match j with
  | 0 => simp at hi hb; subst hi hb; exact h0
  | 1 => simp at hi hb; subst hi hb; exact h1
  | 2 => simp at hi hb; subst hi hb; exact h2
  | j + 3 => simp at hi
attribute [push_cast] roundSt putFr unround
end Go.Vm
end

section
namespace Go.Proofs
open Go.Shelf
def Tryz.lays169_ren : Go.Shelf.Ren := ⟨fun | 169 => 31 | n => n, fun | 70 => 63 | 9 => 9 | 0 => 0 | 72 => 66 | 37 => 64 | 127 => 101 | 3 => 3 | 5 => 5 | n => n, fun | n => n⟩
theorem Tryz.lays169 : Go.Proofs.Lays.n169 Tryz.prog Tryz.lays169_ren := {
  mixed := by kernel_rfl
  f169 := Tryz.func31.trans (congrArg some (by kernel_rfl))
  t0 := Tryz.underlying0
  a0 := Tryz.isAgg0
  z0 := Tryz.sizeOf0
  v0 := Tryz.zeroValue0
  t3 := Tryz.underlying3
  a3 := Tryz.isAgg3
  z3 := Tryz.sizeOf3
  v3 := Tryz.zeroValue3
  t9 := Tryz.underlying9
  a9 := Tryz.isAgg9
  z9 := Tryz.sizeOf9
  v9 := Tryz.zeroValue9
  t37 := Tryz.underlying64
  a37 := Tryz.isAgg64
  z37 := Tryz.sizeOf64
  v37 := Tryz.zeroValue64
  t70 := Tryz.underlying63
  a70 := Tryz.isAgg63
  z70 := Tryz.sizeOf63
  v70 := Tryz.zeroValue63
  t72 := Tryz.underlying66
  a72 := Tryz.isAgg66
  z72 := Tryz.sizeOf66
  v72 := Tryz.zeroValue66
  t127 := Tryz.underlying101
  a127 := Tryz.isAgg101
  z127 := Tryz.sizeOf101
  v127 := Tryz.zeroValue101 }
theorem Tryz.Builder_Extra_169 : Builder.Extra Tryz.prog Tryz.lays169_ren := {
  sizeBuilder := by kernel_rfl
  liesBuilder := by kernel_rfl
  t5 := Tryz.underlying5
  a5 := Tryz.isAgg5
  z5 := Tryz.sizeOf5
  v5 := Tryz.zeroValue5
  infoByte := by kernel_rfl
  cellsByte := by kernel_rfl
  sizeByte := by kernel_rfl
  neB5 := by decide }
def Tryz.lays156_ren : Go.Shelf.Ren := ⟨fun | 156 => 27 | 165 => 51 | 166 => 26 | 169 => 31 | 240 => 50 | 241 => 64 | 276 => 63 | 277 => 76 | n => n, fun | 31 => 67 | 9 => 9 | 3 => 3 | 4 => 4 | 0 => 0 | 20 => 20 | 72 => 66 | 76 => 70 | 70 => 63 | 37 => 64 | 75 => 69 | 127 => 101 | 164 => 109 | 5 => 5 | 80 => 77 | n => n, fun | n => n⟩
theorem Tryz.lays156 : Go.Proofs.Lays.n156 Tryz.prog Tryz.lays156_ren := {
  mixed := by kernel_rfl
  f156 := Tryz.func27.trans (congrArg some (by kernel_rfl))
  f165 := Tryz.func51.trans (congrArg some (by kernel_rfl))
  f166 := Tryz.func26.trans (congrArg some (by kernel_rfl))
  f169 := Tryz.func31.trans (congrArg some (by kernel_rfl))
  f240 := Tryz.func50.trans (congrArg some (by kernel_rfl))
  f241 := Tryz.func64.trans (congrArg some (by kernel_rfl))
  f276 := Tryz.func63.trans (congrArg some (by kernel_rfl))
  f277 := Tryz.func76.trans (congrArg some (by kernel_rfl))
  t0 := Tryz.underlying0
  a0 := Tryz.isAgg0
  z0 := Tryz.sizeOf0
  v0 := Tryz.zeroValue0
  t3 := Tryz.underlying3
  a3 := Tryz.isAgg3
  z3 := Tryz.sizeOf3
  v3 := Tryz.zeroValue3
  t4 := Tryz.underlying4
  a4 := Tryz.isAgg4
  z4 := Tryz.sizeOf4
  v4 := Tryz.zeroValue4
  t9 := Tryz.underlying9
  a9 := Tryz.isAgg9
  z9 := Tryz.sizeOf9
  v9 := Tryz.zeroValue9
  t20 := Tryz.underlying20
  a20 := Tryz.isAgg20
  z20 := Tryz.sizeOf20
  v20 := Tryz.zeroValue20
  t31 := Tryz.underlying67
  a31 := Tryz.isAgg67
  z31 := Tryz.sizeOf67
  v31 := Tryz.zeroValue67
  t37 := Tryz.underlying64
  a37 := Tryz.isAgg64
  z37 := Tryz.sizeOf64
  v37 := Tryz.zeroValue64
  t70 := Tryz.underlying63
  a70 := Tryz.isAgg63
  z70 := Tryz.sizeOf63
  v70 := Tryz.zeroValue63
  t72 := Tryz.underlying66
  a72 := Tryz.isAgg66
  z72 := Tryz.sizeOf66
  v72 := Tryz.zeroValue66
  t75 := Tryz.underlying69
  a75 := Tryz.isAgg69
  z75 := Tryz.sizeOf69
  v75 := Tryz.zeroValue69
  t76 := Tryz.underlying70
  a76 := Tryz.isAgg70
  z76 := Tryz.sizeOf70
  v76 := Tryz.zeroValue70
  t127 := Tryz.underlying101
  a127 := Tryz.isAgg101
  z127 := Tryz.sizeOf101
  v127 := Tryz.zeroValue101
  t164 := Tryz.underlying109
  a164 := Tryz.isAgg109
  z164 := Tryz.sizeOf109
  v164 := Tryz.zeroValue109 }
theorem Tryz.Builder_Extra_156 : Builder.Extra Tryz.prog Tryz.lays156_ren := {
  sizeBuilder := by kernel_rfl
  liesBuilder := by kernel_rfl
  t5 := Tryz.underlying5
  a5 := Tryz.isAgg5
  z5 := Tryz.sizeOf5
  v5 := Tryz.zeroValue5
  infoByte := by kernel_rfl
  cellsByte := by kernel_rfl
  sizeByte := by kernel_rfl
  neB5 := by decide }
open Go.RowKit in
theorem Tryz.strings_Join_none (a : Option Addr) (c : Nat) (sep : ByteArray) (w : World) :
    Calls Tryz.prog 27 #[.slice a 0 c, .string sep] w fun e w' => e = .returned (.string ⟨#[]⟩) ∧ w' = w := Any.strings_Join_none Tryz.lays156 Tryz.Builder_Extra_156 a c sep w
open Go.RowKit in
theorem Tryz.strings_Join (bk o c : Nat) (xs : List ByteArray) (sep : ByteArray) (w : World) (hcells : ∀ (j : Nat) x, xs[j]? = some x → w.cell? ⟨bk, o + j, none⟩ = some (.string x)) (hbk : bk < w.heap.size) (hN : xs.length ≤ 140737488355328) (hcap : xs.length ≤ c) (hlen : (Lib.join (xs.map (·.data.toList)) sep.data.toList).length ≤ 140737488355328) :
    Calls Tryz.prog 27 #[.slice (some ⟨bk, o, none⟩) xs.length c, .string sep] w fun e w' => e = .returned (.string ⟨(Lib.join (xs.map (·.data.toList)) sep.data.toList).toArray⟩) ∧ Below w.heap.size w w' := Any.strings_Join Tryz.lays156 Tryz.Builder_Extra_156 bk o c xs sep w hcells hbk hN hcap hlen
def Tryz.laysM171_ren : Go.Shelf.Ren := ⟨fun | 171 => 29 | 243 => 52 | 246 => 65 | 283 => 77 | 284 => 78 | 285 => 79 | 286 => 80 | 129 => 95 | 317 => 94 | 318 => 96 | 319 => 97 | 320 => 98 | 337 => 104 | 338 => 105 | n => n, fun | 3 => 3 | 9 => 9 | 2 => 2 | 4 => 4 | 171 => 120 | 0 => 0 | 53 => 121 | 37 => 64 | 5 => 5 | 173 => 124 | 212 => 137 | 51 => 138 | 20 => 20 | 213 => 139 | 46 => 129 | 232 => 159 | 233 => 160 | n => n, fun | 17 => 1 | 18 => 6 | 19 => 7 | n => n⟩
theorem Tryz.laysM171 : Go.Proofs.LaysM.n171 Tryz.prog Tryz.laysM171_ren := {
  mixed := by kernel_rfl
  f129 := Tryz.func95.trans (congrArg some (by kernel_rfl))
  f171 := Tryz.func29.trans (congrArg some (by kernel_rfl))
  f243 := Tryz.func52.trans (congrArg some (by kernel_rfl))
  f246 := Tryz.func65.trans (congrArg some (by kernel_rfl))
  f283 := Tryz.func77.trans (congrArg some (by kernel_rfl))
  f284 := Tryz.func78.trans (congrArg some (by kernel_rfl))
  f285 := Tryz.func79.trans (congrArg some (by kernel_rfl))
  f286 := Tryz.func80.trans (congrArg some (by kernel_rfl))
  f317 := Tryz.func94.trans (congrArg some (by kernel_rfl))
  f318 := Tryz.func96.trans (congrArg some (by kernel_rfl))
  f319 := Tryz.func97.trans (congrArg some (by kernel_rfl))
  f320 := Tryz.func98.trans (congrArg some (by kernel_rfl))
  f337 := Tryz.func104.trans (congrArg some (by kernel_rfl))
  f338 := Tryz.func105.trans (congrArg some (by kernel_rfl))
  t0 := Tryz.underlying0
  a0 := Tryz.isAgg0
  z0 := Tryz.sizeOf0
  v0 := Tryz.zeroValue0
  t2 := Tryz.underlying2
  a2 := Tryz.isAgg2
  z2 := Tryz.sizeOf2
  v2 := Tryz.zeroValue2
  t3 := Tryz.underlying3
  a3 := Tryz.isAgg3
  z3 := Tryz.sizeOf3
  v3 := Tryz.zeroValue3
  t4 := Tryz.underlying4
  a4 := Tryz.isAgg4
  z4 := Tryz.sizeOf4
  v4 := Tryz.zeroValue4
  t5 := Tryz.underlying5
  a5 := Tryz.isAgg5
  z5 := Tryz.sizeOf5
  v5 := Tryz.zeroValue5
  t9 := Tryz.underlying9
  a9 := Tryz.isAgg9
  z9 := Tryz.sizeOf9
  v9 := Tryz.zeroValue9
  t20 := Tryz.underlying20
  a20 := Tryz.isAgg20
  z20 := Tryz.sizeOf20
  v20 := Tryz.zeroValue20
  t37 := Tryz.underlying64
  a37 := Tryz.isAgg64
  z37 := Tryz.sizeOf64
  v37 := Tryz.zeroValue64
  t46 := Tryz.underlying129
  a46 := Tryz.isAgg129
  z46 := Tryz.sizeOf129
  v46 := Tryz.zeroValue129
  t51 := Tryz.underlying138
  a51 := Tryz.isAgg138
  z51 := Tryz.sizeOf138
  v51 := Tryz.zeroValue138
  t53 := Tryz.underlying121
  a53 := Tryz.isAgg121
  z53 := Tryz.sizeOf121
  v53 := Tryz.zeroValue121
  t171 := Tryz.underlying120
  a171 := Tryz.isAgg120
  z171 := Tryz.sizeOf120
  v171 := Tryz.zeroValue120
  t173 := Tryz.underlying124
  a173 := Tryz.isAgg124
  z173 := Tryz.sizeOf124
  v173 := Tryz.zeroValue124
  t212 := Tryz.underlying137
  a212 := Tryz.isAgg137
  z212 := Tryz.sizeOf137
  v212 := Tryz.zeroValue137
  t213 := Tryz.underlying139
  a213 := Tryz.isAgg139
  z213 := Tryz.sizeOf139
  t232 := Tryz.underlying159
  a232 := Tryz.isAgg159
  z232 := Tryz.sizeOf159
  v232 := Tryz.zeroValue159
  t233 := Tryz.underlying160
  a233 := Tryz.isAgg160
  z233 := Tryz.sizeOf160
  v233 := Tryz.zeroValue160
  g17 := by kernel_rfl
  g18 := by kernel_rfl
  g19 := by kernel_rfl
  i0 := by kernel_rfl
  i2 := by kernel_rfl
  i3 := by kernel_rfl
  i4 := by kernel_rfl
  i5 := by kernel_rfl
  i9 := by kernel_rfl
  i20 := by kernel_rfl
  i37 := by kernel_rfl
  i46 := by kernel_rfl
  i51 := by kernel_rfl
  i53 := by kernel_rfl
  i171 := by kernel_rfl
  i173 := by kernel_rfl
  i212 := by kernel_rfl
  i232 := by kernel_rfl
  i233 := by kernel_rfl
  m17 := by kernel_rfl
  m18 := by kernel_rfl
  m19 := by kernel_rfl }
open Go.RowKit Go.Sort Go.Lib in
theorem Tryz.strconv_Itoa (n : Int) (h0 : -9223372036854775808 ≤ n) (h1 : n ≤ 9223372036854775807) (w : World) (htab : Lib.TabIs Tryz.prog w "internal/strconv.uint64pow10" .u64 Lib.pow10Tab) :
    Calls Tryz.prog 29 #[.int .i64 n] w fun e w' => e = .returned (.string ⟨(Lib.itoa n).toArray⟩) ∧ ∃ k os, w' = grow (w.drewN k) os := Any.strconv_Itoa Tryz.laysM171 n h0 h1 w htab
def Tryz.lays171_ren : Go.Shelf.Ren := ⟨fun | 171 => 29 | 243 => 52 | 246 => 65 | 283 => 77 | 284 => 78 | 285 => 79 | 286 => 80 | 129 => 95 | 317 => 94 | 318 => 96 | 319 => 97 | 320 => 98 | 337 => 104 | 338 => 105 | n => n, fun | 3 => 3 | 9 => 9 | 2 => 2 | 4 => 4 | 171 => 120 | 0 => 0 | 53 => 121 | 37 => 64 | 5 => 5 | 173 => 124 | 212 => 137 | 51 => 138 | 20 => 20 | 213 => 139 | 46 => 129 | 232 => 159 | 233 => 160 | n => n, fun | 17 => 1 | 18 => 6 | 19 => 7 | n => n⟩
theorem Tryz.lays171 : Go.Proofs.Lays.n171 Tryz.prog Tryz.lays171_ren := {
  mixed := by kernel_rfl
  f129 := Tryz.func95.trans (congrArg some (by kernel_rfl))
  f171 := Tryz.func29.trans (congrArg some (by kernel_rfl))
  f243 := Tryz.func52.trans (congrArg some (by kernel_rfl))
  f246 := Tryz.func65.trans (congrArg some (by kernel_rfl))
  f283 := Tryz.func77.trans (congrArg some (by kernel_rfl))
  f284 := Tryz.func78.trans (congrArg some (by kernel_rfl))
  f285 := Tryz.func79.trans (congrArg some (by kernel_rfl))
  f286 := Tryz.func80.trans (congrArg some (by kernel_rfl))
  f317 := Tryz.func94.trans (congrArg some (by kernel_rfl))
  f318 := Tryz.func96.trans (congrArg some (by kernel_rfl))
  f319 := Tryz.func97.trans (congrArg some (by kernel_rfl))
  f320 := Tryz.func98.trans (congrArg some (by kernel_rfl))
  f337 := Tryz.func104.trans (congrArg some (by kernel_rfl))
  f338 := Tryz.func105.trans (congrArg some (by kernel_rfl))
  t0 := Tryz.underlying0
  a0 := Tryz.isAgg0
  z0 := Tryz.sizeOf0
  v0 := Tryz.zeroValue0
  t2 := Tryz.underlying2
  a2 := Tryz.isAgg2
  z2 := Tryz.sizeOf2
  v2 := Tryz.zeroValue2
  t3 := Tryz.underlying3
  a3 := Tryz.isAgg3
  z3 := Tryz.sizeOf3
  v3 := Tryz.zeroValue3
  t4 := Tryz.underlying4
  a4 := Tryz.isAgg4
  z4 := Tryz.sizeOf4
  v4 := Tryz.zeroValue4
  t5 := Tryz.underlying5
  a5 := Tryz.isAgg5
  z5 := Tryz.sizeOf5
  v5 := Tryz.zeroValue5
  t9 := Tryz.underlying9
  a9 := Tryz.isAgg9
  z9 := Tryz.sizeOf9
  v9 := Tryz.zeroValue9
  t20 := Tryz.underlying20
  a20 := Tryz.isAgg20
  z20 := Tryz.sizeOf20
  v20 := Tryz.zeroValue20
  t37 := Tryz.underlying64
  a37 := Tryz.isAgg64
  z37 := Tryz.sizeOf64
  v37 := Tryz.zeroValue64
  t46 := Tryz.underlying129
  a46 := Tryz.isAgg129
  z46 := Tryz.sizeOf129
  v46 := Tryz.zeroValue129
  t51 := Tryz.underlying138
  a51 := Tryz.isAgg138
  z51 := Tryz.sizeOf138
  v51 := Tryz.zeroValue138
  t53 := Tryz.underlying121
  a53 := Tryz.isAgg121
  z53 := Tryz.sizeOf121
  v53 := Tryz.zeroValue121
  t171 := Tryz.underlying120
  a171 := Tryz.isAgg120
  z171 := Tryz.sizeOf120
  v171 := Tryz.zeroValue120
  t173 := Tryz.underlying124
  a173 := Tryz.isAgg124
  z173 := Tryz.sizeOf124
  v173 := Tryz.zeroValue124
  t212 := Tryz.underlying137
  a212 := Tryz.isAgg137
  z212 := Tryz.sizeOf137
  v212 := Tryz.zeroValue137
  t213 := Tryz.underlying139
  a213 := Tryz.isAgg139
  z213 := Tryz.sizeOf139
  t232 := Tryz.underlying159
  a232 := Tryz.isAgg159
  z232 := Tryz.sizeOf159
  v232 := Tryz.zeroValue159
  t233 := Tryz.underlying160
  a233 := Tryz.isAgg160
  z233 := Tryz.sizeOf160
  v233 := Tryz.zeroValue160
  g17 := by kernel_rfl
  g18 := by kernel_rfl
  g19 := by kernel_rfl }
open Go.RowKit Go.Sort Go.Lib in
theorem Tryz.strconv_Itoa_small (i : Nat) (hi : i < 100) (w : World) :
    Calls Tryz.prog 29 #[.int .i64 i] w fun e w' => e = .returned (.string ⟨(Lib.decDigits i).toArray⟩) ∧ w' = w := Any.strconv_Itoa_small Tryz.lays171 i hi w
def Tryz.laysC172_ren : Go.Shelf.Ren := ⟨fun | 172 => 58 | 244 => 72 | 245 => 73 | 247 => 88 | 279 => 89 | 280 => 90 | 281 => 91 | 282 => 92 | 287 => 101 | 316 => 102 | 171 => 29 | 205 => 103 | 321 => 106 | 322 => 107 | 243 => 52 | 246 => 65 | 283 => 77 | 284 => 78 | 285 => 79 | 286 => 80 | 129 => 95 | 317 => 94 | 318 => 96 | 319 => 97 | 320 => 98 | 337 => 104 | 338 => 105 | n => n, fun | 9 => 9 | 3 => 3 | 75 => 69 | 76 => 70 | 4 => 4 | 5 => 5 | 167 => 130 | 37 => 64 | 0 => 0 | 85 => 131 | 2 => 2 | 168 => 133 | 53 => 121 | 175 => 144 | 46 => 129 | 210 => 148 | 127 => 101 | 145 => 158 | 143 => 156 | 21 => 21 | 171 => 120 | 173 => 124 | 212 => 137 | 51 => 138 | 20 => 20 | 213 => 139 | 232 => 159 | 233 => 160 | 80 => 77 | n => n, fun | 15 => 2 | 16 => 3 | 17 => 1 | 18 => 6 | 19 => 7 | n => n⟩
theorem Tryz.laysC172 : Go.Proofs.LaysC.n172 Tryz.prog Tryz.laysC172_ren := {
  mixed := by kernel_rfl
  f129 := Tryz.func95.trans (congrArg some (by kernel_rfl))
  f171 := Tryz.func29.trans (congrArg some (by kernel_rfl))
  f172 := Tryz.func58.trans (congrArg some (by kernel_rfl))
  f205 := Tryz.func103.trans (congrArg some (by kernel_rfl))
  f243 := Tryz.func52.trans (congrArg some (by kernel_rfl))
  f244 := Tryz.func72.trans (congrArg some (by kernel_rfl))
  f245 := Tryz.func73.trans (congrArg some (by kernel_rfl))
  f246 := Tryz.func65.trans (congrArg some (by kernel_rfl))
  f247 := Tryz.func88.trans (congrArg some (by kernel_rfl))
  f279 := Tryz.func89.trans (congrArg some (by kernel_rfl))
  f280 := Tryz.func90.trans (congrArg some (by kernel_rfl))
  f281 := Tryz.func91.trans (congrArg some (by kernel_rfl))
  f282 := Tryz.func92.trans (congrArg some (by kernel_rfl))
  f283 := Tryz.func77.trans (congrArg some (by kernel_rfl))
  f284 := Tryz.func78.trans (congrArg some (by kernel_rfl))
  f285 := Tryz.func79.trans (congrArg some (by kernel_rfl))
  f286 := Tryz.func80.trans (congrArg some (by kernel_rfl))
  f287 := Tryz.func101.trans (congrArg some (by kernel_rfl))
  f316 := Tryz.func102.trans (congrArg some (by kernel_rfl))
  f317 := Tryz.func94.trans (congrArg some (by kernel_rfl))
  f318 := Tryz.func96.trans (congrArg some (by kernel_rfl))
  f319 := Tryz.func97.trans (congrArg some (by kernel_rfl))
  f320 := Tryz.func98.trans (congrArg some (by kernel_rfl))
  f321 := Tryz.func106.trans (congrArg some (by kernel_rfl))
  f322 := Tryz.func107.trans (congrArg some (by kernel_rfl))
  f337 := Tryz.func104.trans (congrArg some (by kernel_rfl))
  f338 := Tryz.func105.trans (congrArg some (by kernel_rfl))
  t0 := Tryz.underlying0
  a0 := Tryz.isAgg0
  z0 := Tryz.sizeOf0
  v0 := Tryz.zeroValue0
  t2 := Tryz.underlying2
  a2 := Tryz.isAgg2
  z2 := Tryz.sizeOf2
  v2 := Tryz.zeroValue2
  t3 := Tryz.underlying3
  a3 := Tryz.isAgg3
  z3 := Tryz.sizeOf3
  v3 := Tryz.zeroValue3
  t4 := Tryz.underlying4
  a4 := Tryz.isAgg4
  z4 := Tryz.sizeOf4
  v4 := Tryz.zeroValue4
  t5 := Tryz.underlying5
  a5 := Tryz.isAgg5
  z5 := Tryz.sizeOf5
  v5 := Tryz.zeroValue5
  t9 := Tryz.underlying9
  a9 := Tryz.isAgg9
  z9 := Tryz.sizeOf9
  v9 := Tryz.zeroValue9
  t20 := Tryz.underlying20
  a20 := Tryz.isAgg20
  z20 := Tryz.sizeOf20
  v20 := Tryz.zeroValue20
  t21 := Tryz.underlying21
  a21 := Tryz.isAgg21
  z21 := Tryz.sizeOf21
  v21 := Tryz.zeroValue21
  t37 := Tryz.underlying64
  a37 := Tryz.isAgg64
  z37 := Tryz.sizeOf64
  v37 := Tryz.zeroValue64
  t46 := Tryz.underlying129
  a46 := Tryz.isAgg129
  z46 := Tryz.sizeOf129
  v46 := Tryz.zeroValue129
  t51 := Tryz.underlying138
  a51 := Tryz.isAgg138
  z51 := Tryz.sizeOf138
  v51 := Tryz.zeroValue138
  t53 := Tryz.underlying121
  a53 := Tryz.isAgg121
  z53 := Tryz.sizeOf121
  v53 := Tryz.zeroValue121
  t75 := Tryz.underlying69
  a75 := Tryz.isAgg69
  z75 := Tryz.sizeOf69
  v75 := Tryz.zeroValue69
  t76 := Tryz.underlying70
  a76 := Tryz.isAgg70
  z76 := Tryz.sizeOf70
  v76 := Tryz.zeroValue70
  t85 := Tryz.underlying131
  a85 := Tryz.isAgg131
  z85 := Tryz.sizeOf131
  v85 := Tryz.zeroValue131
  t127 := Tryz.underlying101
  a127 := Tryz.isAgg101
  z127 := Tryz.sizeOf101
  v127 := Tryz.zeroValue101
  t143 := Tryz.underlying156
  a143 := Tryz.isAgg156
  z143 := Tryz.sizeOf156
  v143 := Tryz.zeroValue156
  t145 := Tryz.underlying158
  a145 := Tryz.isAgg158
  z145 := Tryz.sizeOf158
  v145 := Tryz.zeroValue158
  t167 := Tryz.underlying130
  a167 := Tryz.isAgg130
  z167 := Tryz.sizeOf130
  v167 := Tryz.zeroValue130
  t168 := Tryz.underlying133
  a168 := Tryz.isAgg133
  z168 := Tryz.sizeOf133
  v168 := Tryz.zeroValue133
  t171 := Tryz.underlying120
  a171 := Tryz.isAgg120
  z171 := Tryz.sizeOf120
  v171 := Tryz.zeroValue120
  t173 := Tryz.underlying124
  a173 := Tryz.isAgg124
  z173 := Tryz.sizeOf124
  v173 := Tryz.zeroValue124
  t175 := Tryz.underlying144
  a175 := Tryz.isAgg144
  z175 := Tryz.sizeOf144
  v175 := Tryz.zeroValue144
  t210 := Tryz.underlying148
  a210 := Tryz.isAgg148
  z210 := Tryz.sizeOf148
  v210 := Tryz.zeroValue148
  t212 := Tryz.underlying137
  a212 := Tryz.isAgg137
  z212 := Tryz.sizeOf137
  v212 := Tryz.zeroValue137
  t213 := Tryz.underlying139
  a213 := Tryz.isAgg139
  z213 := Tryz.sizeOf139
  t232 := Tryz.underlying159
  a232 := Tryz.isAgg159
  z232 := Tryz.sizeOf159
  v232 := Tryz.zeroValue159
  t233 := Tryz.underlying160
  a233 := Tryz.isAgg160
  z233 := Tryz.sizeOf160
  v233 := Tryz.zeroValue160
  g15 := by kernel_rfl
  g16 := by kernel_rfl
  g17 := by kernel_rfl
  g18 := by kernel_rfl
  g19 := by kernel_rfl
  t80 := Tryz.underlying77
  a80 := Tryz.isAgg77
  z80 := Tryz.sizeOf77
  v80 := Tryz.zeroValue77
  i0 := by kernel_rfl
  i2 := by kernel_rfl
  i3 := by kernel_rfl
  i4 := by kernel_rfl
  i5 := by kernel_rfl
  i9 := by kernel_rfl
  i20 := by kernel_rfl
  i21 := by kernel_rfl
  i37 := by kernel_rfl
  i46 := by kernel_rfl
  i51 := by kernel_rfl
  i53 := by kernel_rfl
  i75 := by kernel_rfl
  i76 := by kernel_rfl
  i80 := by kernel_rfl
  i85 := by kernel_rfl
  i127 := by kernel_rfl
  i143 := by kernel_rfl
  i145 := by kernel_rfl
  i167 := by kernel_rfl
  i168 := by kernel_rfl
  i171 := by kernel_rfl
  i173 := by kernel_rfl
  i175 := by kernel_rfl
  i210 := by kernel_rfl
  i212 := by kernel_rfl
  i232 := by kernel_rfl
  i233 := by kernel_rfl
  m15 := by kernel_rfl
  m16 := by kernel_rfl
  m17 := by kernel_rfl
  m18 := by kernel_rfl
  m19 := by kernel_rfl
  c0 := by kernel_rfl
  c2 := by kernel_rfl
  c3 := by kernel_rfl
  c4 := by kernel_rfl
  c5 := by kernel_rfl
  c9 := by kernel_rfl
  c20 := by kernel_rfl
  c21 := by kernel_rfl
  c37 := by kernel_rfl
  c46 := by kernel_rfl
  c51 := by kernel_rfl
  c53 := by kernel_rfl
  c75 := by kernel_rfl
  c76 := by kernel_rfl
  c80 := by kernel_rfl
  c85 := by kernel_rfl
  c127 := by kernel_rfl
  c143 := by kernel_rfl
  c145 := by kernel_rfl
  c167 := by kernel_rfl
  c168 := by kernel_rfl
  c171 := by kernel_rfl
  c173 := by kernel_rfl
  c175 := by kernel_rfl
  c210 := by kernel_rfl
  c212 := by kernel_rfl
  c213 := by kernel_rfl
  c232 := by kernel_rfl
  c233 := by kernel_rfl }
open Go.RowKit in
theorem Tryz.strconv_Atoi_ok (s : ByteArray) (hmax : s.size ≤ 9223372036854775806) (v : Int) (h : Lib.atoiAll s.data.toList = .ok v) (w : World) :
    Calls Tryz.prog 58 #[.string s] w fun e w' => e = .returned (.tuple #[.int .i64 v, .nilIface]) ∧ (w' = w ∨ ∃ t, w' = Lib.bytesWorld w 5 t) := Any.strconv_Atoi_ok Tryz.laysC172 s hmax v h w
open Go.RowKit in
theorem Tryz.strconv_Atoi_range_var (s : ByteArray) (hlim : s.size ≤ 281474976710656) (h : Lib.atoiAll s.data.toList = .range) (tp : TypeId) (p : Value) (w : World) (hvar : w.var? Tryz.prog "strconv.ErrRange" = some #[.iface tp p]) :
    Calls Tryz.prog 58 #[.string s] w fun e w' => ∃ N, e = .returned (.tuple #[.int .i64 (Lib.atoiSat s.data.toList), .iface 133 (.pointer (some ⟨N, 0, none⟩))]) ∧ w.heap.size ≤ N ∧ w'.heap[N]? = some (.cells #[.string ⟨#[65, 116, 111, 105]⟩, .string s, .iface tp p] 148 (0, 0)) ∧ Below w.heap.size w w' := Any.strconv_Atoi_range_var Tryz.laysC172 s hlim h tp p w hvar
def Tryz.lays143_ren : Go.Shelf.Ren := ⟨fun | 143 => 70 | 219 => 71 | 217 => 84 | 225 => 85 | 224 => 86 | 267 => 87 | 266 => 99 | 314 => 100 | n => n, fun | 9 => 9 | 3 => 3 | 4 => 4 | 5 => 5 | 46 => 129 | 146 => 142 | 51 => 138 | n => n, fun | 1 => 0 | n => n⟩
theorem Tryz.lays143 : Go.Proofs.Lays.n143 Tryz.prog Tryz.lays143_ren := {
  mixed := by kernel_rfl
  f143 := Tryz.func70.trans (congrArg some (by kernel_rfl))
  f217 := Tryz.func84.trans (congrArg some (by kernel_rfl))
  f219 := Tryz.func71.trans (congrArg some (by kernel_rfl))
  f224 := Tryz.func86.trans (congrArg some (by kernel_rfl))
  f225 := Tryz.func85.trans (congrArg some (by kernel_rfl))
  f266 := Tryz.func99.trans (congrArg some (by kernel_rfl))
  f267 := Tryz.func87.trans (congrArg some (by kernel_rfl))
  f314 := Tryz.func100.trans (congrArg some (by kernel_rfl))
  t3 := Tryz.underlying3
  a3 := Tryz.isAgg3
  z3 := Tryz.sizeOf3
  v3 := Tryz.zeroValue3
  t4 := Tryz.underlying4
  a4 := Tryz.isAgg4
  z4 := Tryz.sizeOf4
  v4 := Tryz.zeroValue4
  t5 := Tryz.underlying5
  a5 := Tryz.isAgg5
  z5 := Tryz.sizeOf5
  v5 := Tryz.zeroValue5
  t9 := Tryz.underlying9
  a9 := Tryz.isAgg9
  z9 := Tryz.sizeOf9
  v9 := Tryz.zeroValue9
  t46 := Tryz.underlying129
  a46 := Tryz.isAgg129
  z46 := Tryz.sizeOf129
  v46 := Tryz.zeroValue129
  t51 := Tryz.underlying138
  a51 := Tryz.isAgg138
  z51 := Tryz.sizeOf138
  v51 := Tryz.zeroValue138
  t146 := Tryz.underlying142
  a146 := Tryz.isAgg142
  z146 := Tryz.sizeOf142
  v146 := Tryz.zeroValue142
  g1 := by kernel_rfl }
open Go.RowKit Go.Lib in
theorem Tryz.strings_Index_one (s : ByteArray) (c : UInt8) (w : World) :
    Calls Tryz.prog 70 #[.string s, .string ⟨#[c]⟩] w fun e w' => e = .returned (.int .i64 (Lib.indexByte s.data.toList c)) ∧ w' = w := Any.strings_Index_one Tryz.lays143 s c w
def Tryz.lays145_ren : Go.Shelf.Ren := ⟨fun | 145 => 42 | 220 => 57 | 219 => 71 | 217 => 84 | 225 => 85 | 224 => 86 | 267 => 87 | 266 => 99 | 314 => 100 | n => n, fun | 9 => 9 | 4 => 4 | 59 => 88 | 3 => 3 | 5 => 5 | 46 => 129 | 146 => 142 | 51 => 138 | n => n, fun | 1 => 0 | n => n⟩
theorem Tryz.lays145 : Go.Proofs.Lays.n145 Tryz.prog Tryz.lays145_ren := {
  mixed := by kernel_rfl
  f145 := Tryz.func42.trans (congrArg some (by kernel_rfl))
  f217 := Tryz.func84.trans (congrArg some (by kernel_rfl))
  f219 := Tryz.func71.trans (congrArg some (by kernel_rfl))
  f220 := Tryz.func57.trans (congrArg some (by kernel_rfl))
  f224 := Tryz.func86.trans (congrArg some (by kernel_rfl))
  f225 := Tryz.func85.trans (congrArg some (by kernel_rfl))
  f266 := Tryz.func99.trans (congrArg some (by kernel_rfl))
  f267 := Tryz.func87.trans (congrArg some (by kernel_rfl))
  f314 := Tryz.func100.trans (congrArg some (by kernel_rfl))
  t3 := Tryz.underlying3
  a3 := Tryz.isAgg3
  z3 := Tryz.sizeOf3
  v3 := Tryz.zeroValue3
  t4 := Tryz.underlying4
  a4 := Tryz.isAgg4
  z4 := Tryz.sizeOf4
  v4 := Tryz.zeroValue4
  t5 := Tryz.underlying5
  a5 := Tryz.isAgg5
  z5 := Tryz.sizeOf5
  v5 := Tryz.zeroValue5
  t9 := Tryz.underlying9
  a9 := Tryz.isAgg9
  z9 := Tryz.sizeOf9
  v9 := Tryz.zeroValue9
  t46 := Tryz.underlying129
  a46 := Tryz.isAgg129
  z46 := Tryz.sizeOf129
  v46 := Tryz.zeroValue129
  t51 := Tryz.underlying138
  a51 := Tryz.isAgg138
  z51 := Tryz.sizeOf138
  v51 := Tryz.zeroValue138
  t59 := Tryz.underlying88
  a59 := Tryz.isAgg88
  z59 := Tryz.sizeOf88
  v59 := Tryz.zeroValue88
  t146 := Tryz.underlying142
  a146 := Tryz.isAgg142
  z146 := Tryz.sizeOf142
  v146 := Tryz.zeroValue142
  g1 := by kernel_rfl }
open Go.RowKit Go.Lib in
theorem Tryz.strings_Cut (s sep : ByteArray) (m : Int) (w : World) (hs : s.size < 4294967281) (hm : w.cell? ⟨0, 0, none⟩ = some (.int .i64 m)) :
    Calls Tryz.prog 42 #[.string s, .string sep] w fun e w' => e = .returned (.tuple #[.string ⟨(Lib.cut s.data.toList sep.data.toList).1.toArray⟩, .string ⟨(Lib.cut s.data.toList sep.data.toList).2.1.toArray⟩, .bool (Lib.cut s.data.toList sep.data.toList).2.2]) ∧ ∃ n, w' = w.drewN n := Any.strings_Cut Tryz.lays145 s sep m w hs hm
def Tryz.laysM145_ren : Go.Shelf.Ren := ⟨fun | 145 => 42 | 220 => 57 | 219 => 71 | 217 => 84 | 225 => 85 | 224 => 86 | 267 => 87 | 266 => 99 | 314 => 100 | n => n, fun | 9 => 9 | 4 => 4 | 59 => 88 | 3 => 3 | 5 => 5 | 46 => 129 | 146 => 142 | 51 => 138 | n => n, fun | 1 => 0 | n => n⟩
theorem Tryz.laysM145 : Go.Proofs.LaysM.n145 Tryz.prog Tryz.laysM145_ren := {
  mixed := by kernel_rfl
  f145 := Tryz.func42.trans (congrArg some (by kernel_rfl))
  f217 := Tryz.func84.trans (congrArg some (by kernel_rfl))
  f219 := Tryz.func71.trans (congrArg some (by kernel_rfl))
  f220 := Tryz.func57.trans (congrArg some (by kernel_rfl))
  f224 := Tryz.func86.trans (congrArg some (by kernel_rfl))
  f225 := Tryz.func85.trans (congrArg some (by kernel_rfl))
  f266 := Tryz.func99.trans (congrArg some (by kernel_rfl))
  f267 := Tryz.func87.trans (congrArg some (by kernel_rfl))
  f314 := Tryz.func100.trans (congrArg some (by kernel_rfl))
  t3 := Tryz.underlying3
  a3 := Tryz.isAgg3
  z3 := Tryz.sizeOf3
  v3 := Tryz.zeroValue3
  t4 := Tryz.underlying4
  a4 := Tryz.isAgg4
  z4 := Tryz.sizeOf4
  v4 := Tryz.zeroValue4
  t5 := Tryz.underlying5
  a5 := Tryz.isAgg5
  z5 := Tryz.sizeOf5
  v5 := Tryz.zeroValue5
  t9 := Tryz.underlying9
  a9 := Tryz.isAgg9
  z9 := Tryz.sizeOf9
  v9 := Tryz.zeroValue9
  t46 := Tryz.underlying129
  a46 := Tryz.isAgg129
  z46 := Tryz.sizeOf129
  v46 := Tryz.zeroValue129
  t51 := Tryz.underlying138
  a51 := Tryz.isAgg138
  z51 := Tryz.sizeOf138
  v51 := Tryz.zeroValue138
  t59 := Tryz.underlying88
  a59 := Tryz.isAgg88
  z59 := Tryz.sizeOf88
  v59 := Tryz.zeroValue88
  t146 := Tryz.underlying142
  a146 := Tryz.isAgg142
  z146 := Tryz.sizeOf142
  v146 := Tryz.zeroValue142
  g1 := by kernel_rfl
  i3 := by kernel_rfl
  i4 := by kernel_rfl
  i5 := by kernel_rfl
  i9 := by kernel_rfl
  i46 := by kernel_rfl
  i51 := by kernel_rfl
  i59 := by kernel_rfl
  i146 := by kernel_rfl
  m1 := by kernel_rfl
  s1_3 := fun w h => Go.Proofs.cell_of_shapedOpen_int (zero := #[.int .i64 0]) (t := 3) h (of_decide_eq_true (by kernel_rfl)) (by kernel_rfl) rfl (by kernel_rfl) (by kernel_rfl) Tryz.underlying3 }
def Tryz.lays100_ren : Go.Shelf.Ren := ⟨fun | 100 => 39 | 207 => 54 | n => n, fun | 9 => 9 | 4 => 4 | 3 => 3 | n => n, fun | n => n⟩
theorem Tryz.lays100 : Go.Proofs.Lays.n100 Tryz.prog Tryz.lays100_ren := {
  mixed := by kernel_rfl
  f100 := Tryz.func39.trans (congrArg some (by kernel_rfl))
  f207 := Tryz.func54.trans (congrArg some (by kernel_rfl))
  t3 := Tryz.underlying3
  a3 := Tryz.isAgg3
  z3 := Tryz.sizeOf3
  v3 := Tryz.zeroValue3
  t4 := Tryz.underlying4
  a4 := Tryz.isAgg4
  z4 := Tryz.sizeOf4
  v4 := Tryz.zeroValue4
  t9 := Tryz.underlying9
  a9 := Tryz.isAgg9
  z9 := Tryz.sizeOf9
  v9 := Tryz.zeroValue9 }
open Go.RowKit Go.Lib in
theorem Tryz.strings_HasSuffix (s p : ByteArray) (w : World) (hs : s.size ≤ 9223372036854775807) :
    Calls Tryz.prog 39 #[.string s, .string p] w fun e w' => e = .returned (.bool (Lib.hasSuffix s.data.toList p.data.toList)) ∧ w' = w := Any.strings_HasSuffix Tryz.lays100 s p w hs
def Tryz.lays102_ren : Go.Shelf.Ren := ⟨fun | 102 => 41 | 209 => 56 | 207 => 54 | n => n, fun | 9 => 9 | 4 => 4 | 3 => 3 | n => n, fun | n => n⟩
theorem Tryz.lays102 : Go.Proofs.Lays.n102 Tryz.prog Tryz.lays102_ren := {
  mixed := by kernel_rfl
  f102 := Tryz.func41.trans (congrArg some (by kernel_rfl))
  f207 := Tryz.func54.trans (congrArg some (by kernel_rfl))
  f209 := Tryz.func56.trans (congrArg some (by kernel_rfl))
  t3 := Tryz.underlying3
  a3 := Tryz.isAgg3
  z3 := Tryz.sizeOf3
  v3 := Tryz.zeroValue3
  t4 := Tryz.underlying4
  a4 := Tryz.isAgg4
  z4 := Tryz.sizeOf4
  v4 := Tryz.zeroValue4
  t9 := Tryz.underlying9
  a9 := Tryz.isAgg9
  z9 := Tryz.sizeOf9
  v9 := Tryz.zeroValue9 }
open Go.RowKit Go.Lib in
theorem Tryz.strings_TrimSuffix (s p : ByteArray) (w : World) (hs : s.size ≤ 9223372036854775807) :
    Calls Tryz.prog 41 #[.string s, .string p] w fun e w' => e = .returned (.string ⟨(Lib.trimSuffix s.data.toList p.data.toList).toArray⟩) ∧ w' = w := Any.strings_TrimSuffix Tryz.lays102 s p w hs
def Tryz.lays146_ren : Go.Shelf.Ren := ⟨fun | 146 => 40 | 221 => 55 | 268 => 68 | 138 => 69 | 143 => 70 | 195 => 82 | 197 => 75 | 218 => 83 | 219 => 71 | 260 => 93 | 217 => 84 | 225 => 85 | 224 => 86 | 267 => 87 | 266 => 99 | 314 => 100 | n => n, fun | 9 => 9 | 31 => 67 | 3 => 3 | 4 => 4 | 0 => 0 | 105 => 117 | 21 => 21 | 5 => 5 | 46 => 129 | 119 => 150 | 139 => 153 | 138 => 152 | 146 => 142 | 51 => 138 | n => n, fun | 1 => 0 | 3 => 4 | 4 => 5 | n => n⟩
theorem Tryz.lays146 : Go.Proofs.Lays.n146 Tryz.prog Tryz.lays146_ren := {
  mixed := by kernel_rfl
  f138 := Tryz.func69.trans (congrArg some (by kernel_rfl))
  f143 := Tryz.func70.trans (congrArg some (by kernel_rfl))
  f146 := Tryz.func40.trans (congrArg some (by kernel_rfl))
  f195 := Tryz.func82.trans (congrArg some (by kernel_rfl))
  f197 := Tryz.func75.trans (congrArg some (by kernel_rfl))
  f217 := Tryz.func84.trans (congrArg some (by kernel_rfl))
  f218 := Tryz.func83.trans (congrArg some (by kernel_rfl))
  f219 := Tryz.func71.trans (congrArg some (by kernel_rfl))
  f221 := Tryz.func55.trans (congrArg some (by kernel_rfl))
  f224 := Tryz.func86.trans (congrArg some (by kernel_rfl))
  f225 := Tryz.func85.trans (congrArg some (by kernel_rfl))
  f260 := Tryz.func93.trans (congrArg some (by kernel_rfl))
  f266 := Tryz.func99.trans (congrArg some (by kernel_rfl))
  f267 := Tryz.func87.trans (congrArg some (by kernel_rfl))
  f268 := Tryz.func68.trans (congrArg some (by kernel_rfl))
  f314 := Tryz.func100.trans (congrArg some (by kernel_rfl))
  t0 := Tryz.underlying0
  a0 := Tryz.isAgg0
  z0 := Tryz.sizeOf0
  v0 := Tryz.zeroValue0
  t3 := Tryz.underlying3
  a3 := Tryz.isAgg3
  z3 := Tryz.sizeOf3
  v3 := Tryz.zeroValue3
  t4 := Tryz.underlying4
  a4 := Tryz.isAgg4
  z4 := Tryz.sizeOf4
  v4 := Tryz.zeroValue4
  t5 := Tryz.underlying5
  a5 := Tryz.isAgg5
  z5 := Tryz.sizeOf5
  v5 := Tryz.zeroValue5
  t9 := Tryz.underlying9
  a9 := Tryz.isAgg9
  z9 := Tryz.sizeOf9
  v9 := Tryz.zeroValue9
  t21 := Tryz.underlying21
  a21 := Tryz.isAgg21
  z21 := Tryz.sizeOf21
  v21 := Tryz.zeroValue21
  t31 := Tryz.underlying67
  a31 := Tryz.isAgg67
  z31 := Tryz.sizeOf67
  v31 := Tryz.zeroValue67
  t46 := Tryz.underlying129
  a46 := Tryz.isAgg129
  z46 := Tryz.sizeOf129
  v46 := Tryz.zeroValue129
  t51 := Tryz.underlying138
  a51 := Tryz.isAgg138
  z51 := Tryz.sizeOf138
  v51 := Tryz.zeroValue138
  t105 := Tryz.underlying117
  a105 := Tryz.isAgg117
  z105 := Tryz.sizeOf117
  v105 := Tryz.zeroValue117
  t119 := Tryz.underlying150
  a119 := Tryz.isAgg150
  z119 := Tryz.sizeOf150
  t138 := Tryz.underlying152
  a138 := Tryz.isAgg152
  z138 := Tryz.sizeOf152
  v138 := Tryz.zeroValue152
  t139 := Tryz.underlying153
  a139 := Tryz.isAgg153
  z139 := Tryz.sizeOf153
  v139 := Tryz.zeroValue153
  t146 := Tryz.underlying142
  a146 := Tryz.isAgg142
  z146 := Tryz.sizeOf142
  v146 := Tryz.zeroValue142
  g1 := by kernel_rfl
  g3 := by kernel_rfl
  g4 := by kernel_rfl }
open Go.RowKit Go.Lib in
theorem Tryz.strings_Split (s sep : ByteArray) (m : Int) (w : World) (hs : s.size < 4294967281) (hm : w.cell? ⟨0, 0, none⟩ = some (.int .i64 m)) (h1 : 1 ≤ sep.size) :
    Calls Tryz.prog 40 #[.string s, .string sep] w fun e w' =>
      e = .returned (.slice (some ⟨w.heap.size, 0, none⟩) (Lib.countB s sep + 1) (Lib.countB s sep + 1)) ∧ w' = w.alloc (.cells ((Lib.splitB sep 0 (Lib.countB s sep) s).map Value.string).toArray 9) := Any.strings_Split Tryz.lays146 (by kernel_rfl) s sep m w hs hm h1
def Tryz.lays110_ren : Go.Shelf.Ren := ⟨fun | 110 => 66 | 109 => 81 | n => n, fun | 31 => 67 | 9 => 9 | 4 => 4 | 3 => 3 | 0 => 0 | n => n, fun | n => n⟩
theorem Tryz.lays110 : Go.Proofs.Lays.n110 Tryz.prog Tryz.lays110_ren := {
  mixed := by kernel_rfl
  f109 := Tryz.func81.trans (congrArg some (by kernel_rfl))
  f110 := Tryz.func66.trans (congrArg some (by kernel_rfl))
  t0 := Tryz.underlying0
  a0 := Tryz.isAgg0
  z0 := Tryz.sizeOf0
  v0 := Tryz.zeroValue0
  t3 := Tryz.underlying3
  a3 := Tryz.isAgg3
  z3 := Tryz.sizeOf3
  v3 := Tryz.zeroValue3
  t4 := Tryz.underlying4
  a4 := Tryz.isAgg4
  z4 := Tryz.sizeOf4
  v4 := Tryz.zeroValue4
  t9 := Tryz.underlying9
  a9 := Tryz.isAgg9
  z9 := Tryz.sizeOf9
  v9 := Tryz.zeroValue9
  t31 := Tryz.underlying67
  a31 := Tryz.isAgg67
  z31 := Tryz.sizeOf67
  v31 := Tryz.zeroValue67 }
open Go.Lib in
theorem Tryz.slices_Contains_string (b off n c : Nat) (zs : List ByteArray) (x : ByteArray) (w : World) (hz : n ≤ zs.length) (hbig : n ≤ 9223372036854775807) (hc : ∀ j, j < zs.length → w.cell? ⟨b, off + j, none⟩ = some (.string (zs.getD j ByteArray.empty))) :
    Calls Tryz.prog 66 #[.slice (some ⟨b, off, none⟩) n c, .string x] w fun e w' => e = .returned (.bool (Lib.containsS (zs.take n) x)) ∧ w' = w := Any.slices_Contains_string Tryz.lays110 b off n c zs x w hz hbig hc
open Go.Lib in
theorem Tryz.slices_Contains_string_empty (a : Option Addr) (c : Nat) (x : ByteArray) (w : World) :
    Calls Tryz.prog 66 #[.slice a 0 c, .string x] w fun e w' => e = .returned (.bool false) ∧ w' = w := Any.slices_Contains_string_empty Tryz.lays110 a c x w

end Go.Proofs
end

section
namespace Go.Vm
open Go Go.RowKit Go.Proofs
set_option maxRecDepth 100000
set_option linter.unusedSimpArgs false
set_option linter.unusedVariables false
set_option maxHeartbeats 4000000
theorem ty_u3 : Tryz.prog.underlying 3 = some (.int .i64) := by kernel_rfl
theorem ty_s3 : szT Tryz.prog 3 = some 1 := by kernel_rfl
theorem ty_b3 : bytesT Tryz.prog 3 = some 8 := by kernel_rfl
theorem ty_z3 : zeroCellsT Tryz.prog 3 = some [.c (.int .i64 0)] := by kernel_rfl
theorem ty_u4 : Tryz.prog.underlying 4 = some (.bool) := by kernel_rfl
theorem ty_s4 : szT Tryz.prog 4 = some 1 := by kernel_rfl
theorem ty_b4 : bytesT Tryz.prog 4 = some 1 := by kernel_rfl
theorem ty_z4 : zeroCellsT Tryz.prog 4 = some [.c (.bool false)] := by kernel_rfl
theorem ty_u5 : Tryz.prog.underlying 5 = some (.int .u8) := by kernel_rfl
theorem ty_s5 : szT Tryz.prog 5 = some 1 := by kernel_rfl
theorem ty_b5 : bytesT Tryz.prog 5 = some 1 := by kernel_rfl
theorem ty_z5 : zeroCellsT Tryz.prog 5 = some [.c (.int .u8 0)] := by kernel_rfl
theorem ty_v5 : zeroT Tryz.prog 5 = some (.int .u8 0) := by kernel_rfl
theorem ty_u9 : Tryz.prog.underlying 9 = some (.string) := by kernel_rfl
theorem ty_s9 : szT Tryz.prog 9 = some 1 := by kernel_rfl
theorem ty_b9 : bytesT Tryz.prog 9 = some 16 := by kernel_rfl
theorem ty_z9 : zeroCellsT Tryz.prog 9 = some [.c (.string ⟨#[]⟩)] := by kernel_rfl
theorem ty_u23 : Tryz.prog.underlying 23 = some (.struct #[⟨ "A", 3, 0, false, "", "", 0⟩, ⟨ "B", 3, 1, false, "", "", 8⟩]) := by kernel_rfl
theorem ty_s23 : szT Tryz.prog 23 = some 2 := by kernel_rfl
theorem ty_b23 : bytesT Tryz.prog 23 = some 16 := by kernel_rfl
theorem ty_z23 : zeroCellsT Tryz.prog 23 = some [.c (.int .i64 0), .c (.int .i64 0)] := by kernel_rfl
theorem ty_e23 : eqOkT Tryz.prog 23 = true := by kernel_rfl
theorem ty_u24 : Tryz.prog.underlying 24 = some (.slice 23) := by kernel_rfl
theorem ty_s24 : szT Tryz.prog 24 = some 1 := by kernel_rfl
theorem ty_b24 : bytesT Tryz.prog 24 = some 24 := by kernel_rfl
theorem ty_z24 : zeroCellsT Tryz.prog 24 = some [.c (.slice none 0 0)] := by kernel_rfl
theorem ty_u26 : Tryz.prog.underlying 26 = some (.struct #[⟨ "Ands", 24, 0, false, "", "", 0⟩, ⟨ "Lit", 3, 1, false, "", "", 24⟩]) := by kernel_rfl
theorem ty_s26 : szT Tryz.prog 26 = some 2 := by kernel_rfl
theorem ty_b26 : bytesT Tryz.prog 26 = some 32 := by kernel_rfl
theorem ty_z26 : zeroCellsT Tryz.prog 26 = some [.c (.slice none 0 0), .c (.int .i64 0)] := by kernel_rfl
theorem ty_u28 : Tryz.prog.underlying 28 = some (.struct #[⟨ "Skip", 3, 0, false, "", "", 0⟩, ⟨ "Phases", 3, 1, false, "", "", 8⟩, ⟨ "Pred", 26, 2, false, "", "", 16⟩]) := by kernel_rfl
theorem ty_s28 : szT Tryz.prog 28 = some 4 := by kernel_rfl
theorem ty_b28 : bytesT Tryz.prog 28 = some 48 := by kernel_rfl
theorem ty_z28 : zeroCellsT Tryz.prog 28 = some [.c (.int .i64 0), .c (.int .i64 0), .c (.slice none 0 0), .c (.int .i64 0)] := by kernel_rfl
theorem ty_u29 : Tryz.prog.underlying 29 = some (.slice 4) := by kernel_rfl
theorem ty_s29 : szT Tryz.prog 29 = some 1 := by kernel_rfl
theorem ty_b29 : bytesT Tryz.prog 29 = some 24 := by kernel_rfl
theorem ty_z29 : zeroCellsT Tryz.prog 29 = some [.c (.slice none 0 0)] := by kernel_rfl
theorem ty_u30 : Tryz.prog.underlying 30 = some (.slice 29) := by kernel_rfl
theorem ty_s30 : szT Tryz.prog 30 = some 1 := by kernel_rfl
theorem ty_b30 : bytesT Tryz.prog 30 = some 24 := by kernel_rfl
theorem ty_z30 : zeroCellsT Tryz.prog 30 = some [.c (.slice none 0 0)] := by kernel_rfl
theorem ty_u32 : Tryz.prog.underlying 32 = some (.struct #[⟨ "First", 29, 0, false, "", "", 0⟩, ⟨ "Inputs", 30, 1, false, "", "", 24⟩]) := by kernel_rfl
theorem ty_s32 : szT Tryz.prog 32 = some 2 := by kernel_rfl
theorem ty_b32 : bytesT Tryz.prog 32 = some 48 := by kernel_rfl
theorem ty_z32 : zeroCellsT Tryz.prog 32 = some [.c (.slice none 0 0), .c (.slice none 0 0)] := by kernel_rfl
theorem ty_u34 : Tryz.prog.underlying 34 = some (.struct #[⟨ "Kind", 5, 0, false, "", "", 0⟩, ⟨ "Trace", 32, 1, false, "", "", 8⟩, ⟨ "Proof", 28, 3, false, "", "", 56⟩]) := by kernel_rfl
theorem ty_s34 : szT Tryz.prog 34 = some 7 := by kernel_rfl
theorem ty_b34 : bytesT Tryz.prog 34 = some 104 := by kernel_rfl
theorem ty_z34 : zeroCellsT Tryz.prog 34 = some [.c (.int .u8 0), .c (.slice none 0 0), .c (.slice none 0 0), .c (.int .i64 0), .c (.int .i64 0), .c (.slice none 0 0), .c (.int .i64 0)] := by kernel_rfl
theorem ty_u38 : Tryz.prog.underlying 38 = some (.struct #[⟨ "Name", 9, 0, false, "", "", 0⟩, ⟨ "Number", 3, 1, false, "", "", 16⟩]) := by kernel_rfl
theorem ty_s38 : szT Tryz.prog 38 = some 2 := by kernel_rfl
theorem ty_b38 : bytesT Tryz.prog 38 = some 24 := by kernel_rfl
theorem ty_z38 : zeroCellsT Tryz.prog 38 = some [.c (.string ⟨#[]⟩), .c (.int .i64 0)] := by kernel_rfl
theorem ty_e38 : eqOkT Tryz.prog 38 = true := by kernel_rfl
theorem ty_u39 : Tryz.prog.underlying 39 = some (.slice 38) := by kernel_rfl
theorem ty_s39 : szT Tryz.prog 39 = some 1 := by kernel_rfl
theorem ty_b39 : bytesT Tryz.prog 39 = some 24 := by kernel_rfl
theorem ty_z39 : zeroCellsT Tryz.prog 39 = some [.c (.slice none 0 0)] := by kernel_rfl
theorem ty_u42 : Tryz.prog.underlying 42 = some (.struct #[⟨ "Pdr", 4, 0, false, "", "", 0⟩, ⟨ "Number", 3, 1, false, "", "", 8⟩, ⟨ "Budget", 3, 2, false, "", "", 16⟩]) := by kernel_rfl
theorem ty_s42 : szT Tryz.prog 42 = some 3 := by kernel_rfl
theorem ty_b42 : bytesT Tryz.prog 42 = some 24 := by kernel_rfl
theorem ty_z42 : zeroCellsT Tryz.prog 42 = some [.c (.bool false), .c (.int .i64 0), .c (.int .i64 0)] := by kernel_rfl
theorem ty_e42 : eqOkT Tryz.prog 42 = true := by kernel_rfl
theorem ty_u44 : Tryz.prog.underlying 44 = some (.slice 34) := by kernel_rfl
theorem ty_s44 : szT Tryz.prog 44 = some 1 := by kernel_rfl
theorem ty_b44 : bytesT Tryz.prog 44 = some 24 := by kernel_rfl
theorem ty_z44 : zeroCellsT Tryz.prog 44 = some [.c (.slice none 0 0)] := by kernel_rfl
theorem ty_u45 : Tryz.prog.underlying 45 = some (.int .i64) := by kernel_rfl
theorem ty_s45 : szT Tryz.prog 45 = some 1 := by kernel_rfl
theorem ty_b45 : bytesT Tryz.prog 45 = some 8 := by kernel_rfl
theorem ty_z45 : zeroCellsT Tryz.prog 45 = some [.c (.int .i64 0)] := by kernel_rfl
theorem ty_u63 : Tryz.prog.underlying 63 = some (.pointer 66) := by kernel_rfl
theorem ty_s63 : szT Tryz.prog 63 = some 1 := by kernel_rfl
theorem ty_b63 : bytesT Tryz.prog 63 = some 8 := by kernel_rfl
theorem ty_z63 : zeroCellsT Tryz.prog 63 = some [.c (.pointer none)] := by kernel_rfl
theorem ty_u64 : Tryz.prog.underlying 64 = some (.slice 5) := by kernel_rfl
theorem ty_s64 : szT Tryz.prog 64 = some 1 := by kernel_rfl
theorem ty_b64 : bytesT Tryz.prog 64 = some 24 := by kernel_rfl
theorem ty_z64 : zeroCellsT Tryz.prog 64 = some [.c (.slice none 0 0)] := by kernel_rfl
theorem ty_u66 : Tryz.prog.underlying 66 = some (.struct #[⟨ "addr", 63, 0, false, "", "strings", 0⟩, ⟨ "buf", 64, 1, false, "", "strings", 8⟩]) := by kernel_rfl
theorem ty_s66 : szT Tryz.prog 66 = some 2 := by kernel_rfl
theorem ty_b66 : bytesT Tryz.prog 66 = some 32 := by kernel_rfl
theorem ty_z66 : zeroCellsT Tryz.prog 66 = some [.c (.pointer none), .c (.slice none 0 0)] := by kernel_rfl
theorem ty_u67 : Tryz.prog.underlying 67 = some (.slice 9) := by kernel_rfl
theorem ty_s67 : szT Tryz.prog 67 = some 1 := by kernel_rfl
theorem ty_b67 : bytesT Tryz.prog 67 = some 24 := by kernel_rfl
theorem ty_z67 : zeroCellsT Tryz.prog 67 = some [.c (.slice none 0 0)] := by kernel_rfl
theorem ty_u101 : Tryz.prog.underlying 101 = some (.pointer 5) := by kernel_rfl
theorem ty_s101 : szT Tryz.prog 101 = some 1 := by kernel_rfl
theorem ty_b101 : bytesT Tryz.prog 101 = some 8 := by kernel_rfl
theorem ty_z101 : zeroCellsT Tryz.prog 101 = some [.c (.pointer none)] := by kernel_rfl
theorem ty_u108 : Tryz.prog.underlying 108 = some (.slice 3) := by kernel_rfl
theorem ty_s108 : szT Tryz.prog 108 = some 1 := by kernel_rfl
theorem ty_b108 : bytesT Tryz.prog 108 = some 24 := by kernel_rfl
theorem ty_z108 : zeroCellsT Tryz.prog 108 = some [.c (.slice none 0 0)] := by kernel_rfl
theorem ty_u109 : Tryz.prog.underlying 109 = some (.unsafePointer) := by kernel_rfl
theorem ty_s109 : szT Tryz.prog 109 = some 1 := by kernel_rfl
theorem ty_b109 : bytesT Tryz.prog 109 = some 8 := by kernel_rfl
theorem mixed : Tryz.prog.follows .mixedOrders = true := by kernel_rfl
attribute [push_cast] ty_u3 ty_s3 ty_b3 ty_z3 ty_u4 ty_s4 ty_b4 ty_z4 ty_u5 ty_s5 ty_b5 ty_z5 ty_v5 ty_u9 ty_s9 ty_b9 ty_z9 ty_u23 ty_s23 ty_b23 ty_z23 ty_e23 ty_u24 ty_s24 ty_b24 ty_z24 ty_u26 ty_s26 ty_b26 ty_z26 ty_u28 ty_s28 ty_b28 ty_z28 ty_u29 ty_s29 ty_b29 ty_z29 ty_u30 ty_s30 ty_b30 ty_z30 ty_u32 ty_s32 ty_b32 ty_z32 ty_u34 ty_s34 ty_b34 ty_z34 ty_u38 ty_s38 ty_b38 ty_z38 ty_e38 ty_u39 ty_s39 ty_b39 ty_z39 ty_u42 ty_s42 ty_b42 ty_z42 ty_e42 ty_u44 ty_s44 ty_b44 ty_z44 ty_u45 ty_s45 ty_b45 ty_z45 ty_u63 ty_s63 ty_b63 ty_z63 ty_u64 ty_s64 ty_b64 ty_z64 ty_u66 ty_s66 ty_b66 ty_z66 ty_u67 ty_s67 ty_b67 ty_z67 ty_u101 ty_s101 ty_b101 ty_z101 ty_u108 ty_s108 ty_b108 ty_z108 ty_u109 ty_s109 ty_b109
end Go.Vm
end

section
namespace Go.Vm
open Go Go.RowKit Go.Proofs
set_option maxRecDepth 100000
set_option linter.unusedSimpArgs false
set_option linter.unusedVariables false
set_option maxHeartbeats 4000000

def names8 : List ByteArray := [⟨#[104, 97, 115, 104]⟩, ⟨#[99, 111, 110, 115, 116, 97, 110, 116, 115]⟩, ⟨#[99, 111, 110, 101]⟩, ⟨#[115, 119, 101, 101, 112]⟩, ⟨#[116, 101, 114, 110, 97, 114, 121]⟩, ⟨#[108, 97, 116, 99, 104, 101, 115]⟩, ⟨#[112, 114, 101, 102, 105, 120]⟩, ⟨#[112, 104, 97, 115, 101, 115]⟩]
theorem callable_of {f : FuncId} {fn : Func} (h : Tryz.prog.funcs[f]? = some fn) (h1 : (fn.name == "runtime.NumGoroutine") = false) (h2 : fn.body.isNone = false) : Callable Tryz.prog f := ⟨fn, h, h1, h2⟩

theorem itoa_call (gw : World) (gb : Nat) (i : Nat) (hi : i < 100) : VCall Tryz.prog gw gb 29 [.one (.c (.int .i64 i))] (.one (.c (.string ⟨(Lib.decDigits i).toArray⟩))) [] :=
  vcall_plain (callable_of Tryz.func29 rfl rfl) [.int .i64 i] _ fun w _ => (Tryz.strconv_Itoa_small i hi w).mono fun e w' ⟨he, hw⟩ => ⟨_, he, hw ▸ Below.refl _ _, fun F => by simp only [repV, rep]; exact ⟨trivial, rfl⟩⟩

theorem contains_call (gw : World) (gb : Nat) (ss : List ByteArray) (x : ByteArray) (hs : ss.length ≤ 9223372036854775807) :
    VCall Tryz.prog gw gb 66 [.one (.sl false (ss.map Value.string).length ((ss.map Value.string).map .c)), .one (.c (.string x))] (.one (.c (.bool (Lib.containsS ss x)))) [] := by
  refine vcall_row (callable_of Tryz.func66 rfl rfl) (ss.map Value.string) [.string x] _ (fun w b off cap _ hb hcap hcell => ?_) (fun h0 w A cap _ => ?_)
  · have := Tryz.slices_Contains_string b off ss.length cap ss x w (Nat.le_refl _) hs (fun j hj => hcell j _ (by simp [List.getElem?_eq_getElem hj, List.getD]))
    rw [List.take_length] at this
    simp only [List.length_map]
    exact this.mono fun e w' ⟨he, hw⟩ => ⟨_, he, hw ▸ Below.refl _ _, fun F => by simp only [repV, rep]; exact ⟨trivial, rfl⟩⟩
  · have h0 : ss = [] := by simpa using h0
    subst h0
    exact (Tryz.slices_Contains_string_empty A cap x w).mono fun e w' ⟨he, hw⟩ => ⟨_, he, hw ▸ Below.refl _ _, fun F => by simp only [repV, rep]; exact ⟨by first | trivial | rfl | simp [Lib.containsS], rfl⟩⟩
end Go.Vm
end
