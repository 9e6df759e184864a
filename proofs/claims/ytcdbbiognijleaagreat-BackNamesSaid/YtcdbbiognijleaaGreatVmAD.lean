/-
  Abstract states over the model's worlds, and that a step of them is a step of the program: part VmAD of a framework. Conditions: each theorem's own premises. By an AI agent.
-/
import Derived.Test.YtcdbbiognijleaaGreatVmAC
import Derived.Laws.CopyRow
import Derived.Lib.AppendStr
import Derived.Lib.AppendZeros
section
namespace Go.Vm
open Go Go.RowKit
set_option linter.unusedSimpArgs false
set_option linter.unusedVariables false

/-! ### Calls that only read what they are handed -/
/-- As a callee may see it that only reads: pointers too. -/
def clr (H : Id → Option Blk) : Nat → PC → PC
  | _ + 1, .c (.slice none 0 0) => .sl false 0 []
  | _ + 1, .emp => .sl false 0 []
  | k + 1, .own i =>
    match H i with
    | some (.arr _ _ n cs) => .sl false n (cs.map (clr H k))
    | some (.mp _ es) => .rmp false (es.map (·.1)) ((es.map (·.2)).map (clr H k))
    | _ => .own i
  | k + 1, .vw i off n =>
    match H i with
    | some (.arr _ z _ cs) => if 0 < n then .sl false n (((cs.drop off).take (n * z)).map (clr H k)) else .sl false 0 []
    | _ => .vw i off n
  | k + 1, .cut i n =>
    match H i with
    | some (.arr _ z _ cs) => .sl false n ((cs.take (n * z)).map (clr H k))
    | _ => .cut i n
  | k + 1, .loc i off =>
    match H i with
    | some b => .at false ((b.cells.drop off).map (clr H k))
    | none => .loc i off
  | k + 1, .fn f cs => .fn f (cs.map (clr H k))
  | k + 1, .mth f cs => .mth f (cs.map (clr H k))
  | _, p => p.weak
def clrV (H : Id → Option Blk) (k : Nat) : PV → PV
  | .one p => .one (clr H k p)
  | .agg ps => .agg (ps.map (clr H k))
  | .tup vs => .tup vs
  | .may b p => .may b p
  | .full p => .one (clr H k p)

section
variable {ρ : Operand → Option PV} {H : Id → Option Blk} {C : Ctx} {φ φ' : Id → Option Value} {F : Bool → Nat → Prop} {F0 F1 : Nat → Prop} {σ : St} {a : Act} {w w' : World} {P : Program}

theorem clr_rep (h : RelX C φ F0 F1 σ a w) (hle : ∀ {i b}, H i = some b → σ.H i = some b) : ∀ (k : Nat) (p : PC) (x : Value), rep φ w (Fs F0 F1) p x → rep φ w (Fs (Lent φ H F0) fun _ => False) (clr H k p) x := by
  have hF : ∀ t g, Fs F0 F1 t g → Lent φ H F0 g := fun t g hg => .inl (Fs_f0 h.sub t g hg)
  intro k
  induction k with
  | zero =>
    intro p x hr
    have := weak_rep (F' := Fs (Lent φ H F0) fun _ => False) hF p x hr
    simpa [clr] using this
  | succ k ih =>
    have ihs : ∀ (ps : List PC) (vs : List Value), reps φ w (Fs F0 F1) ps vs → reps φ w (Fs (Lent φ H F0) fun _ => False) (ps.map (clr H k)) vs := by
      intro ps vs hr
      refine reps_of_get _ _ (by simpa using reps_length _ _ hr) fun j q v hq hv => ?_
      rw [List.getElem?_map] at hq
      obtain ⟨q', hq', rfl⟩ := Option.map_eq_some_iff.1 hq
      obtain ⟨u, hu, hr'⟩ := reps_get _ _ hr j q' hq'
      rw [hv] at hu; cases hu
      exact ih q' v hr'
    have ihat : ∀ (ps : List PC) (ad : Addr), repAt φ w (Fs F0 F1) ad ps → repAt φ w (Fs (Lent φ H F0) fun _ => False) ad (ps.map (clr H k)) := by
      intro ps ad hr
      refine repAt_of_get _ _ fun j p hp => ?_
      rw [List.getElem?_map] at hp
      obtain ⟨q, hq, rfl⟩ := Option.map_eq_some_iff.1 hp
      obtain ⟨y, hy, hry⟩ := repAt_get _ _ hr j q hq
      exact ⟨y, hy, ih q y hry⟩
    intro p x hr
    have hweak := weak_rep (F' := Fs (Lent φ H F0) fun _ => False) hF _ x hr
    unfold clr
    split
    · simp only [rep] at hr ⊢
      obtain ⟨rfl, _⟩ := hr
      exact ⟨none, 0, rfl, Nat.le_refl _, .inl (by simp)⟩
    · simp only [rep] at hr ⊢
      obtain ⟨A, rfl⟩ := hr
      exact ⟨A, 0, rfl, Nat.le_refl _, .inl (by simp)⟩
    · rename_i k' i hk
      cases hk
      split
      · rename_i e s n cs hH
        simp only [rep] at hr
        obtain ⟨hφ, _⟩ := hr
        have hh := h.heap i _ (hle hH)
        have hh' := hh
        obtain ⟨v, vs, hv, ⟨hl, ho⟩, hrs⟩ := hh
        rw [hφ] at hv
        cases hv
        simp only [rep]
        rcases ho with ⟨rfl, rfl⟩ | ⟨g, cap, cur, rfl, _, hc, hn, _⟩
        · refine ⟨none, 0, rfl, Nat.le_refl _, .inl ⟨rfl, ?_⟩⟩
          have : cs.length = 0 := by rw [← reps_length _ _ hrs, hl]; simp
          simp [List.length_eq_zero_iff.1 this]
        · exact ⟨_, cap, rfl, hn, .inr ⟨_, rfl, .inr ⟨i, _, by rw [hH]; simp, hφ, rfl⟩, ihat _ _ (holds_repAt hh' hφ rfl)⟩⟩
      · rename_i ty es hH
        simp only [rep] at hr
        obtain ⟨hφ, _⟩ := hr
        obtain ⟨g, ents, clock, hp, hheap, hkeys, hvals⟩ := h.heap i _ (hle hH)
        rw [hφ] at hp
        cases hp
        simp only [rep]
        exact ⟨g, ents, clock, rfl, .inr ⟨i, _, by rw [hH]; simp, hφ, rfl⟩, hheap, hkeys, ihs _ _ hvals⟩
      · simpa [PC.weak] using hweak
    · rename_i k' i off n hk
      cases hk
      split
      · rename_i e z n' cs hH
        simp only [rep] at hr
        obtain ⟨u, A, cap, hφ, hx, hnc, hA⟩ := hr
        split
        · rename_i hn
          obtain ⟨g, hg, rfl⟩ := hA.resolve_left (by omega)
          have hh := h.heap i _ (hle hH)
          simp only [rep]
          have h1 := repAt_take (repAt_drop (holds_repAt hh hφ hg) off) (n * z)
          rw [Addr.add_lit, Nat.zero_add] at h1
          exact ⟨_, cap, hx, hnc, .inr ⟨_, rfl, .inr ⟨i, u, by rw [hH]; simp, hφ, hg⟩, ihat _ _ h1⟩⟩
        · have hn0 : n = 0 := by omega
          subst hn0
          simp only [rep]
          exact ⟨A, cap, hx, hnc, .inl (by simp)⟩
      · simpa [PC.weak] using hweak
    · rename_i k' i n hk
      cases hk
      split
      · rename_i e z n' cs hH
        simp only [rep] at hr
        obtain ⟨A, N, cap, hφ, hnN, hx⟩ := hr
        have hh := h.heap i _ (hle hH)
        have hh' := hh
        obtain ⟨v, vs, hv, ⟨hl, ho⟩, hrs⟩ := hh
        rw [hφ] at hv
        cases hv
        simp only [rep]
        rcases ho with ⟨hv, rfl⟩ | ⟨g, cap', cur, hv, _, hc, hn, _⟩
        · cases hv
          have hn0 : n = 0 := by omega
          subst hn0
          exact ⟨none, 0, hx, Nat.le_refl _, .inl (by simp)⟩
        · cases hv
          exact ⟨_, _, hx, by omega, .inr ⟨_, rfl, .inr ⟨i, _, by rw [hH]; simp, hφ, rfl⟩, ihat _ _ (repAt_take (holds_repAt hh' hφ rfl) (n * z))⟩⟩
      · simpa [PC.weak] using hweak
    · rename_i k' i off hk
      cases hk
      split
      · rename_i b hH
        simp only [rep] at hr
        obtain ⟨u, g, hφ, hg, hx⟩ := hr
        have hh := h.heap i _ (hle hH)
        simp only [rep]
        have h1 := repAt_drop (holds_repAt hh hφ hg) off
        rw [Addr.add_lit, Nat.zero_add] at h1
        exact ⟨_, hx, .inr ⟨i, u, by rw [hH]; simp, hφ, hg⟩, ihat _ _ h1⟩
      · simpa [PC.weak] using hweak
    · rename_i k' f cs hk
      cases hk
      simp only [rep] at hr ⊢
      obtain ⟨vs, hx, hr⟩ := hr
      exact ⟨vs, hx, ihs _ _ hr⟩
    · rename_i k' f cs hk
      cases hk
      simp only [rep] at hr ⊢
      obtain ⟨vs, hx, hr⟩ := hr
      exact ⟨vs, hx, ihs _ _ hr⟩
    · exact hweak

theorem clrV_rep (h : RelX C φ F0 F1 σ a w) (hle : ∀ {i b}, H i = some b → σ.H i = some b) {k : Nat} {p : PV} {x : Value} (hr : repV φ w (Fs F0 F1) p x) (hf : (clrV H k p).free = true) :
    repV (fun _ => none) w (Fs (Lent φ H F0) fun _ => False) (clrV H k p) x := by
  cases p with
  | one p =>
    simp only [clrV, PV.free] at hf ⊢
    simp only [repV] at hr ⊢
    exact free_rep (fun _ _ e => e) _ _ hf (clr_rep h hle k p x hr)
  | agg ps =>
    simp only [clrV, PV.free] at hf ⊢
    simp only [repV] at hr ⊢
    obtain ⟨vs, hx, hr⟩ := hr
    refine ⟨vs, hx, free_reps (φ := φ) (fun _ _ e => e) _ _ hf (reps_of_get _ _ (by simpa using reps_length _ _ hr) fun j q v hq hv => ?_)⟩
    rw [List.getElem?_map] at hq
    obtain ⟨q', hq', rfl⟩ := Option.map_eq_some_iff.1 hq
    obtain ⟨u, hu, hr'⟩ := reps_get _ _ hr j q' hq'
    rw [hv] at hu; cases hu
    exact clr_rep h hle k q' v hr'
  | tup vs => simp [clrV, PV.free] at hf
  | may b p => simp [clrV, PV.free] at hf
  | full p =>
    simp only [clrV, PV.free] at hf ⊢
    simp only [repV] at hr ⊢
    exact free_rep (fun _ _ e => e) _ _ hf (clr_rep h hle k p x hr.1)
theorem clrVs_rep (h : RelX C φ F0 F1 σ a w) (hle : ∀ {i b}, H i = some b → σ.H i = some b) {k : Nat} : ∀ {ps : List PV} {xs : List Value}, repVs φ w (Fs F0 F1) ps xs → PV.frees (ps.map (clrV H k)) = true →
    repVs (fun _ => none) w (Fs (Lent φ H F0) fun _ => False) (ps.map (clrV H k)) xs
  | [], xs, hr, _ => by simpa only [repVs, List.map_nil] using hr
  | p :: ps, xs, hr, hf => by
    simp only [repVs] at hr
    obtain ⟨v, vs', rfl, hr, hrs⟩ := hr
    simp only [List.map_cons, PV.frees, Bool.and_eq_true] at hf
    simp only [List.map_cons, repVs]
    exact ⟨v, vs', rfl, clrV_rep h hle hr hf.1, clrVs_rep h hle hrs hf.2⟩

theorem outId_nil (s : Nat) (i : Id) : outId [] s i = (s, i.2) := by simp [outId]
mutual
theorem iob_nil (s : Nat) : ∀ p : PC, p.iob [] s = p.ren s
  | .c v => rfl
  | .ifc => rfl
  | .any => rfl
  | .emp => rfl
  | .sl t n xs => by simp only [PC.iob, PC.ren, iobs_nil s xs]
  | .at t ys => by simp only [PC.iob, PC.ren, iobs_nil s ys]
  | .loc i off => by simp only [PC.iob, PC.ren, outId_nil]
  | .vw i off n => by simp only [PC.iob, PC.ren, outId_nil]
  | .cut i n => by simp only [PC.iob, PC.ren, outId_nil]
  | .rmp t ks ps => by simp only [PC.iob, PC.ren, iobs_nil s ps]
  | .own i => by simp only [PC.iob, PC.ren, outId_nil]
  | .fn f cs => by simp only [PC.iob, PC.ren, iobs_nil s cs]
  | .mth f cs => by simp only [PC.iob, PC.ren, iobs_nil s cs]
theorem iobs_nil (s : Nat) : ∀ ps : List PC, PC.iobs [] s ps = PC.rens s ps
  | [] => rfl
  | p :: ps => by simp only [PC.iobs, PC.rens, iob_nil s p, iobs_nil s ps]
end
mutual
theorem iobV_nil (s : Nat) : ∀ p : PV, p.iob [] s = p.ren s
  | .one p => by simp only [PV.iob, PV.ren, iob_nil]
  | .agg ps => by simp only [PV.iob, PV.ren, iobs_nil]
  | .tup vs => by simp only [PV.iob, PV.ren, iobVs_nil s vs]
  | .may b p => by simp only [PV.iob, PV.ren, iobV_nil s p]
  | .full p => by simp only [PV.iob, PV.ren, iob_nil]
theorem iobVs_nil (s : Nat) : ∀ ps : List PV, PV.iobs [] s ps = PV.rens s ps
  | [] => rfl
  | p :: ps => by simp only [PV.iobs, PV.rens, iobV_nil s p, iobVs_nil s ps]
end
theorem iobB_nil (s : Nat) (b : Blk) : b.iob [] s = b.ren s := by
  cases b with
  | box t cs => simp only [Blk.iob, Blk.ren, iobs_nil]
  | arr t z n cs => simp only [Blk.iob, Blk.ren, iobs_nil]
  | mp t es => simp only [Blk.iob, Blk.ren, iob_nil]
theorem ioChg_nil (s : Nat) (H : Id → Option Blk) (B : List Blk) : applyC H (ioChg [] s 0 (B.map some)) = bindB s B H := by
  have key : ∀ (B : List Blk) (k : Nat) (H : Id → Option Blk) (i : Id), applyC H (ioChg [] s k (B.map some)) i = if i.1 = s ∧ k ≤ i.2 then (match B[i.2 - k]? with | some b => some (b.ren s) | none => H i) else H i := by
    intro B
    induction B with
    | nil => intro k H i; simp [ioChg, applyC]
    | cons b B ih =>
      intro k H i
      simp only [List.map_cons, ioChg, applyC, outId_nil, Option.map_some, iobB_nil]
      rw [ih (k + 1) _ i]
      obtain ⟨i1, i2⟩ := i
      by_cases h1 : i1 = s
      · subst h1
        rcases Nat.lt_trichotomy i2 k with h | h | h
        · rw [if_neg (by simp; omega), if_neg (by simp; omega), upd_ne _ _ (by simp; omega)]
        · subst h
          rw [if_neg (by simp), if_pos (by simp), upd_self]
          simp
        · rw [if_pos (by simp; omega), if_pos (by simp; omega), upd_ne _ _ (by simp; omega)]
          have : i2 - k = (i2 - (k + 1)) + 1 := by omega
          simp only [this, List.getElem?_cons_succ]
      · rw [if_neg (by simp [h1]), if_neg (by simp [h1]), upd_ne _ _ (by simp [h1])]
  funext i
  rw [key B 0 H i]
  simp only [Nat.zero_le, and_true, Nat.sub_zero, bindB]
  rfl
theorem iod_nil (σ : St) (d : Nat) (r : PV) (B : List Blk) : σ.iod d [] r (B.map some) = σ.called d r B := by
  unfold St.iod St.called
  rw [iobV_nil, ioChg_nil]

variable {d : Option Tmp} {ty : TypeId} {pos : String} {af : Array Edge} {gd : Option (Nat × Bool)} {K : Act → World → Prop} {Q : Exit → Act → World → Prop}
theorem read_ok (h : RelX C φ F0 F1 σ a w) (V : View φ w (Fs F0 F1) a σ ρ H) {c : Call} {f : FuncId} {ps : List PV} {k t : Nat} {r : PV} {B : List Blk} (hc : callOf ρ c = some (f, ps))
    (hv : VCall C.P C.gw C.gb f (ps.map (clrV H k)) r B) (hf : PV.frees (ps.map (clrV H k)) = true) (hs : r.strict = true ∧ strictB B = true)
    (ht : t < C.nt) (hus : σ.us t = false) (hK : ∀ a' w', Rel C (σ.iod t [] r (B.map some)) a' w' → K a' w') : Oper.wp C.P ⟨some t, .call c, ty, pos, af, gd⟩ a w K Q := by
  rw [iod_nil] at hK
  obtain ⟨xs, hrun, hxs⟩ := call_run h V hc hv.callable
  unfold Oper.wp
  rw [hrun, Oper.upon_enter]
  refine (hv.run w xs (Lent φ H F0) (Nat.le_trans h.gbig h.big) h.glob (lent_lt h V.heap) (clrVs_rep h V.heap hxs hf)).mono fun e w' he => ?_
  obtain ⟨x, ψ, X, rfl, hb, hX, hr, hB, h0, hv', hi⟩ := he
  exact hK _ _ (called_rel h ht hus hb hX hr hB h0 hv' hi (.inl hs))
end
end Go.Vm
end

section
namespace Go.Vm
open Go Go.RowKit
set_option linter.unusedSimpArgs false
section
variable {C : Ctx} {φ φ' : Id → Option Value} {F : Bool → Nat → Prop} {F0 F1 : Nat → Prop} {σ : St} {a : Act} {w w' : World} {P : Program}

/-- One block of the call's own is written. -/
theorem RelX.write (h : RelX C φ F0 F1 σ a w) {i : Id} {b : Blk} {u : Value} {g : Nat} (hi : σ.H i ≠ none) (hu : φ i = some u) (hg : blkOf u = some g)
    (hos : w'.os = w.os) (htp : w'.tape = w.tape) (hout : w'.output = w.output) (hsz : w'.heap.size = w.heap.size)
    (hw : ∀ k, k ≠ g → w'.heap[k]? = w.heap[k]?) (hh : holds φ w' (Fs F0 F1) i b) : RelX C φ F0 F1 { σ with H := upd σ.H i (some b) } a w' := by
  obtain ⟨hg0, hgk, hgb⟩ := h.apart i u g hi hu hg
  have hwF : ∀ t k, Fs F0 F1 t k → w'.heap[k]? = w.heap[k]? := by
    intro t k hk
    refine hw k ?_
    rintro rfl
    exact hg0 (Fs_f0 h.sub t k hk)
  have hne : ∀ j, upd σ.H i (some b) j ≠ none → σ.H j ≠ none := by
    intro j hj
    by_cases hji : j = i
    · subst hji; exact hi
    · rwa [upd_ne _ _ hji] at hj
  refine ⟨h.size, h.defs, fun t p hp => ?_, fun j c hj => ?_, fun j k u v g' hj hk => h.inj j k u v g' (hne j hj) (hne k hk), fun j v g' hj => h.apart j v g' (hne j hj), h.sub, h.ini, h.new1, fun k hk => by rw [hsz]; exact h.lt0 k hk,
    hos.trans h.os, htp.trans h.tape, hout.trans h.output, by rw [hsz]; exact h.big, fun k hk => ?_, h.k0lt, h.gbig, fun k hk => ?_, h.keep, h.nx1, h.ids, fun t p hp => (h.ghost t p hp).imp fun x hx => ⟨hx.1, repV_mono (fun _ _ e => e) hwF (fun _ _ e => e) p x hx.2⟩⟩
  · obtain ⟨x, hx, hr⟩ := h.frame t p hp
    exact ⟨x, hx, repV_mono (fun _ _ e => e) hwF (fun _ _ e => e) p x hr⟩
  · by_cases hji : j = i
    · subst hji
      simp only [upd_self] at hj
      cases hj
      exact hh
    · simp only [upd_ne _ _ hji] at hj
      refine holds_mono (h.heap j c hj) (fun _ _ e => e) (fun _ _ e => e) hwF fun v k hv hk => hw k ?_
      rintro rfl
      exact hji (h.inj j i v u k (by rw [hj]; simp) hi hv hu hk hg)
  · refine (hw k ?_).trans (h.kept k hk)
    rintro rfl
    exact hgk hk
  · refine (hw k ?_).trans (h.glob k hk)
    rintro rfl
    omega

theorem storeVar_run {t : TypeId} {g off : Nat} {ty : TypeId} {cur : Array Value} {v : Value} {s : Nat} (hg : w.heap[g]? = some (.cells cur ty (0, 0))) (hs : szT P t = some s) (hv : v.cells.size = s)
    (hl : off + s ≤ cur.size) (h1 : ∀ u ∈ v.cells.toList, u.oneCell' = true) :
    (storeVar t ⟨g, off, none⟩ v).run P w = .ok () (w.setRow g (splice cur.toList off v.cells.toList).toArray) := by
  have hst := run_storeCells_at P g off ty v.cells.toList 0 cur w hg (by simp [hv]; omega) h1
  simp only [Nat.add_zero] at hst
  simp [storeVar, run_sizeOf' hs, hv, hst, splice]

theorem splice_take {α : Type} (xs ys : List α) (off n : Nat) (h : off + ys.length ≤ n) (hn : n ≤ xs.length) : (splice xs off ys).take n = splice (xs.take n) off ys := by
  apply List.ext_getElem?
  intro j
  simp only [splice, List.getElem?_take, List.getElem?_append, List.length_append, List.length_take, List.getElem?_drop]
  have h1 : min off xs.length = off := by omega
  have h2 : min off (min n xs.length) = off := by omega
  rw [h1, h2]
  by_cases hj : j < n
  · rw [if_pos hj]
    by_cases c1 : j < off + ys.length
    · rw [if_pos c1, if_pos c1]
      by_cases c2 : j < off
      · rw [if_pos c2, if_pos c2, if_pos c2, if_pos c2, if_pos hj]
      · rw [if_neg c2, if_neg c2]
    · rw [if_neg c1, if_neg c1, if_pos (by omega)]
  · rw [if_neg hj, if_neg (by omega), if_neg (by omega)]

/-- A store into a block of the call's own. -/
theorem store_run (h : RelX C φ F0 F1 σ a w) {i : Id} {off : Nat} {b : Blk} {t : TypeId} {x : Value} {p : PV} {y : Value} {ps : List PC} {s : Nat}
    (hx : repV φ w (Fs F0 F1) (.one (.loc i off)) x) (hb : σ.H i = some b) (hp : repV φ w (Fs F0 F1) p y) (hps : p.cells = some ps) (hs : szT C.P t = some s) (hl : ps.length = s) (hpos : 0 < s) (hfit : off + s ≤ b.cells.length) :
    ∃ w', (Instr.storeAt t x y).run C.P w = .ok () w' ∧ ∀ b', (match b with | .box ty cs => Blk.box ty (splice cs off ps) | .arr ty z n cs => Blk.arr ty z n (splice cs off ps) | .mp ty es => .mp ty es) = b' →
      RelX C φ F0 F1 { σ with H := upd σ.H i (some b') } a w' := by
  simp only [repV, rep] at hx
  obtain ⟨u, g, hu, hg, rfl⟩ := hx
  have hcr := cells_rep hp hps
  have hcl := reps_length _ _ hcr
  have hys : y.cells.size = y.cells.toList.length := Array.length_toList.symm
  have h1 := reps_one _ _ hcr
  have hh := h.heap i b hb
  obtain ⟨hg0, _, _⟩ := h.apart i u g (by rw [hb]; simp) hu hg
  have hne : ∀ t' k, Fs F0 F1 t' k → k ≠ g := by
    rintro t' k hk rfl
    exact hg0 (Fs_f0 h.sub t' k hk)
  cases b with
  | box ty cs =>
    obtain ⟨g', vs, hp', hheap, hr⟩ := hh
    rw [hu] at hp'; cases hp'
    simp [blkOf] at hg
    subst hg
    have hvl := reps_length _ _ hr
    simp only [Blk.cells] at hfit
    have hrun := storeVar_run (P := C.P) (t := t) (off := off) (v := y) hheap hs (by rw [← Array.length_toList, hcl, hl]) (by simp; omega) h1
    refine ⟨_, by simpa [Instr.storeAt, Instr.sureAddr] using hrun, ?_⟩
    rintro b' rfl
    refine h.write (by rw [hb]; simp) hu rfl rfl rfl rfl (by simp) (fun k hk => setRow_other w g' k _ hk) ⟨g', splice vs off y.cells.toList, hu, ?_, ?_⟩
    · exact setRow_heap w g' vs.toArray _ ty (0, 0) hheap
    · refine reps_mono (fun _ _ e => e) (fun t' k hk => setRow_other w g' k _ (hne t' k hk)) (fun _ _ e => e) _ _ (reps_splice hr hcr)
  | mp ty es =>
    simp only [Blk.cells, List.length_nil] at hfit
    omega
  | arr ty z n cs =>
    obtain ⟨v, vs, hp', ⟨hlen, ho⟩, hr⟩ := hh
    rw [hu] at hp'; cases hp'
    rcases ho with ⟨rfl, _⟩ | ⟨g', cap, cur, rfl, h0, hheap, hnc, hcm, hcs, htake⟩
    · simp [blkOf] at hg
    · simp [blkOf] at hg
      subst hg
      have hvl := reps_length _ _ hr
      simp only [Blk.cells] at hfit
      have hcap : n * z ≤ cap * z := Nat.mul_le_mul_right _ hnc
      have hrun := storeVar_run (P := C.P) (t := t) (off := off) (v := y) hheap hs (by rw [← Array.length_toList, hcl, hl]) (by omega) h1
      refine ⟨_, by simpa [Instr.storeAt, Instr.sureAddr] using hrun, ?_⟩
      rintro b' rfl
      refine h.write (by rw [hb]; simp) hu rfl rfl rfl rfl (by simp) (fun k hk => setRow_other w g' k _ hk) ⟨_, splice vs off y.cells.toList, hu, ⟨?_, .inr ⟨g', cap, _, rfl, h0, setRow_heap w g' cur _ ty (0, 0) hheap, hnc, hcm, ?_, ?_⟩⟩, ?_⟩
      · rw [splice_length _ _ _ (by omega), hlen]
      · simp only [List.size_toArray]
        rw [splice_length _ _ _ (by have := Array.length_toList (xs := cur); omega)]
        simpa using hcs
      · simp only []
        rw [splice_take _ _ _ _ (by omega) (by have := Array.length_toList (xs := cur); omega), htake]
      · refine reps_mono (fun _ _ e => e) (fun t' k hk => setRow_other w g' k _ (hne t' k hk)) (fun _ _ e => e) _ _ (reps_splice hr hcr)
end
end Go.Vm
end

section
namespace Go.Vm
open Go Go.RowKit
set_option linter.unusedSimpArgs false
section
variable {C : Ctx} {φ φ' : Id → Option Value} {F : Bool → Nat → Prop} {F0 F1 : Nat → Prop} {σ : St} {a : Act} {w w' : World} {P : Program}

/-- append, told to where its row lies. -/
theorem append_run (t ty e : TypeId) (i : TypeInfo) (z : Value) (size bytes : Nat) (ht : P.underlying t = some (.slice e)) (hi : P.info? e = some i) (hz : i.zero = some z)
    (hsize : i.size = size) (hby : i.bytes = bytes) (hzs : z.cells.size = size)
    (v : Value) (n : Nat) (xs : List Value) (hown : w.ownsRow 0 e size v n xs)
    (A : Option Addr) (m c : Nat) (news : List Value) (hA : m = 0 ∨ ∃ a, A = some a ∧ ∀ j u, news[j]? = some u → w.cell? (a.add j) = some u) (hl : news.length = m * size) (h1 : ∀ u ∈ news, u.oneCell' = true)
    (h63 : n + m ≤ maxLen) (hbytes : (n + m) * bytes ≤ 140737488355328) :
    ∃ v' w', (Builtin.append_ #[t, t] ty #[v, .slice A m c]).run P w = .ok v' w' ∧ w'.ownsRow 0 e size v' (n + m) (xs ++ news) ∧ w.grownBy w' (blkOf v) ∧
      (blkOf v' = blkOf v ∨ ∃ g, blkOf v' = some g ∧ w.heap.size ≤ g) := by
  subst hsize
  subst hby
  have hlen : (xs ++ news).length = (n + m) * i.size := by rw [List.length_append, hown.1, hl, Nat.add_mul]
  by_cases hm : m = 0
  · subst hm
    have hn : news = [] := List.eq_nil_of_length_eq_zero (by simpa using hl)
    subst hn
    refine ⟨v, w, ?_, by simpa using hown, ⟨rfl, rfl, rfl, Nat.le_refl _, fun _ _ _ => rfl⟩, .inl rfl⟩
    have hfc : ∀ W : World, (Builtin.firstCells i.size 0 (.slice A 0 c)).run P W = .ok #[] W := by
      intro W
      cases A with
      | none => rfl
      | some a => simp [Builtin.firstCells, loadCells, loadCellsFrom]
    rcases hown.2 with ⟨rfl, rfl⟩ | ⟨g, cap, cur, rfl, _, hg, hnc, _⟩
    · simp [Builtin.append_, run_underlying ht, sizeOf, typeInfo, hi, Builtin.lenOf, hfc]
    · simp [Builtin.append_, run_underlying ht, sizeOf, typeInfo, hi, Builtin.lenOf, hfc, hnc, storeCells]
  · obtain ⟨a, rfl, hnews⟩ := hA.resolve_left hm
    have hsmall : n + m ≤ 9223372036854775807 := by simp only [maxLen] at h63; omega
    have grown : ∀ (old : Nat), old < n + m → ∀ (row : Option Nat),
        (w.drew.alloc (.cells (xs.toArray ++ news.toArray ++ Builtin.zeroCells z.cells (grownCap w (n + m) old e - (n + m))) e)).ownsRow 0 e i.size
          (.slice (some ⟨w.heap.size, 0, none⟩) (n + m) (grownCap w (n + m) old e)) (n + m) (xs ++ news) ∧
        w.grownBy (w.drew.alloc (.cells (xs.toArray ++ news.toArray ++ Builtin.zeroCells z.cells (grownCap w (n + m) old e - (n + m))) e)) row := by
      intro old ho row
      have hge := grownCap_ge w (n + m) old e
      have hcm : grownCap w (n + m) old e ≤ maxLen := grownCap_le_maxLen w (n + m) old e h63
      refine ⟨⟨hlen, .inr ⟨w.heap.size, _, _, rfl, Nat.zero_le _, heap_alloc_new w.drew _, hge, hcm, ?_, ?_⟩⟩, ⟨rfl, rfl, rfl, by simp, fun k hk _ => heap_alloc_old w.drew _ k hk⟩⟩
      · simp only [Array.size_append, List.size_toArray, size_zeroCells, hzs, hown.1, hl, ← Nat.add_mul]
        congr 1
        omega
      · simp only [Array.toList_append, List.append_assoc]
        rw [← List.append_assoc, ← hlen]
        exact List.take_left
    rcases hown.2 with ⟨rfl, rfl⟩ | ⟨g, cap, cur, rfl, hbg, hg, hnc, hcm, hcs, htake⟩
    · have hx : xs = [] := List.eq_nil_of_length_eq_zero (by simpa using hown.1)
      subst hx
      have hr := run_append_nil (P := P) w t ty e i z ht hi hz a m c news hl hnews (by omega) (by omega) (by have hb := hbytes; simp only [Nat.zero_add] at hb; omega)
      have hgr := grown 0 (by omega) (blkOf (.slice none 0 0))
      simp only [Nat.zero_add, List.nil_append, Array.empty_append] at hgr ⊢
      exact ⟨_, _, hr, hgr.1, hgr.2, .inr ⟨_, rfl, Nat.le_refl _⟩⟩
    · by_cases hroom : n + m ≤ cap
      · have hfit : n * i.size + news.length ≤ cur.size := by rw [hl, hcs, ← Nat.add_mul]; exact Nat.mul_le_mul_right _ hroom
        have hr := run_append_room (P := P) w t ty e i ht hi g n cap cur hg a m c news hl hnews h1 hroom hfit
        refine ⟨_, _, hr, ⟨hlen, .inr ⟨g, cap, _, rfl, hbg, setRow_heap w g cur _ e _ hg, hroom, hcm, ?_, ?_⟩⟩, ⟨rfl, rfl, rfl, by simp, fun k _ hk => setRow_other w g k _ (fun e => hk (by simp [blkOf, e]))⟩, .inl rfl⟩
        · simp only [List.size_toArray, List.length_append, List.length_take, List.length_drop, Array.length_toList]
          omega
        · rw [htake, ← hlen]
          exact List.take_left
      · have holds : ∀ j u, xs[j]? = some u → w.cell? ((⟨g, 0, none⟩ : Addr).add j) = some u := hown.cells (g := g) rfl
        have hr := run_append_grow (P := P) w t ty e i z ht hi hz ⟨g, 0, none⟩ n cap xs hown.1 holds a m c news hl hnews (by omega) (by omega) (growslice_fits (by omega) hbytes)
        have hgr := grown cap (by omega) (blkOf (.slice (some ⟨g, 0, none⟩) n cap))
        exact ⟨_, _, hr, hgr.1, hgr.2, .inr ⟨_, rfl, Nat.le_refl _⟩⟩

/-- append of a string's bytes, told to where its row lies. -/
theorem append_str_run (t u ty e : TypeId) (i : TypeInfo) (ht : P.underlying t = some (.slice e)) (hu : P.underlying u = some .string) (hi : P.info? e = some i) (hz : i.zero = some (.int .u8 0))
    (hsize : i.size = 1) (hby : i.bytes = 1) (v : Value) (n : Nat) (xs : List Value) (hown : w.ownsRow 0 e 1 v n xs) (s : ByteArray) (h63 : n + s.size ≤ maxLen) (hbytes : n + s.size ≤ 140737488355328) :
    ∃ v' w', (Builtin.append_ #[t, u] ty #[v, .string s]).run P w = .ok v' w' ∧ w'.ownsRow 0 e 1 v' (n + s.size) (xs ++ Lib.strCells s) ∧ w.grownBy w' (blkOf v) ∧
      (blkOf v' = blkOf v ∨ ∃ g, blkOf v' = some g ∧ w.heap.size ≤ g) := by
  have hsc : (Lib.strCells s).length = s.size := Lib.strCells_length s
  have hlen : (xs ++ Lib.strCells s).length = (n + s.size) * 1 := by rw [List.length_append, hown.1, hsc]; omega
  have hsmall : n + s.size ≤ 9223372036854775807 := by simp only [maxLen] at h63; omega
  have grown : ∀ (old : Nat), old < n + s.size → ∀ (row : Option Nat),
      (w.drew.alloc (.cells (xs.toArray ++ (Lib.strCells s).toArray ++ Builtin.zeroCells (Value.int .u8 0).cells (grownCap w (n + s.size) old e - (n + s.size))) e)).ownsRow 0 e 1
        (.slice (some ⟨w.heap.size, 0, none⟩) (n + s.size) (grownCap w (n + s.size) old e)) (n + s.size) (xs ++ Lib.strCells s) ∧
      w.grownBy (w.drew.alloc (.cells (xs.toArray ++ (Lib.strCells s).toArray ++ Builtin.zeroCells (Value.int .u8 0).cells (grownCap w (n + s.size) old e - (n + s.size))) e)) row := by
    intro old ho row
    have hge := grownCap_ge w (n + s.size) old e
    have hcm : grownCap w (n + s.size) old e ≤ maxLen := grownCap_le_maxLen w (n + s.size) old e h63
    refine ⟨⟨hlen, .inr ⟨w.heap.size, _, _, rfl, Nat.zero_le _, heap_alloc_new w.drew _, hge, hcm, ?_, ?_⟩⟩, ⟨rfl, rfl, rfl, by simp, fun k hk _ => heap_alloc_old w.drew _ k hk⟩⟩
    · have h1 : (Value.int IntKind.u8 0).cells.size = 1 := rfl
      have h2 := hown.1
      simp only [Array.size_append, List.size_toArray, size_zeroCells, h1, h2, hsc]
      omega
    · simp only [Array.toList_append, List.append_assoc]
      rw [← List.append_assoc, ← hlen]
      exact List.take_left
  rcases hown.2 with ⟨rfl, rfl⟩ | ⟨g, cap, cur, rfl, hbg, hg, hnc, hcm, hcs, htake⟩
  · have hx : xs = [] := List.eq_nil_of_length_eq_zero (by simpa using hown.1)
    subst hx
    by_cases hm : s.size = 0
    · have hn : Lib.strCells s = [] := List.eq_nil_of_length_eq_zero (by rw [hsc]; exact hm)
      refine ⟨.slice none 0 0, w, ?_, by rw [hm, hn]; exact World.ownsRow_nil w 0 e 1, ⟨rfl, rfl, rfl, Nat.le_refl _, fun _ _ _ => rfl⟩, .inl rfl⟩
      have hf := Lib.run_firstCells_string (P := P) w 1 s
      rw [hm] at hf
      simp [Builtin.append_, run_underlying ht, run_underlying hu, sizeOf, typeInfo, hi, hsize, Builtin.lenOf, hm, hf]
    · have hr := run_append_nil_string (P := P) w t u ty e i (.int .u8 0) ht hu hi hz s (by omega) (by omega) (by rw [hby]; omega)
      have hgr := grown 0 (by omega) (blkOf (.slice none 0 0))
      simp only [Nat.zero_add, List.nil_append, Array.empty_append] at hgr ⊢
      have e1 : (s.data.map fun b => Value.int .u8 b.toNat) = (Lib.strCells s).toArray := by
        apply Array.ext'
        simp [Lib.strCells]
      rw [e1] at hr
      exact ⟨_, _, hr, hgr.1, hgr.2, .inr ⟨_, rfl, Nat.le_refl _⟩⟩
  · by_cases hroom : n + s.size ≤ cap
    · have hcs' : cur.size = cap := by simpa using hcs
      have hr := Lib.run_append_room_string (P := P) w t u ty e i ht hu hi hsize g n cap cur hg s hroom (by omega)
      refine ⟨_, _, hr, ⟨hlen, .inr ⟨g, cap, _, rfl, hbg, setRow_heap w g cur _ e _ hg, hroom, hcm, ?_, ?_⟩⟩, ⟨rfl, rfl, rfl, by simp, fun k _ hk => setRow_other w g k _ (fun e => hk (by simp [blkOf, e]))⟩, .inl rfl⟩
      · simp only [List.size_toArray, List.length_append, List.length_take, List.length_drop, Array.length_toList, hsc]
        omega
      · have ht' : cur.toList.take n = xs := by simpa using htake
        rw [ht', ← hlen]
        exact List.take_left
    · have holds : ∀ j u, xs[j]? = some u → w.cell? ((⟨g, 0, none⟩ : Addr).add j) = some u := hown.cells (g := g) rfl
      have hr := Lib.run_append_grow_string (P := P) w t u ty e i (.int .u8 0) ht hu hi hz ⟨g, 0, none⟩ n cap xs (by rw [hsize]; exact hown.1) holds s (by omega) (by omega) (by rw [hby]; exact growslice_fits (by omega) (by omega))
      have hgr := grown cap (by omega) (blkOf (.slice (some ⟨g, 0, none⟩) n cap))
      exact ⟨_, _, hr, hgr.1, hgr.2, .inr ⟨_, rfl, Nat.le_refl _⟩⟩

/-- A row of the call's own takes a new name and a new value: it lies where it lay, or in a new block. -/
theorem RelX.rename (h : RelX C φ F0 F1 σ a w) {i j : Id} {d : Nat} {u v : Value} {b : Blk} (hi : σ.H i ≠ none) (hu : φ i = some u) (hj : j.1 = σ.nx + d) (hn : φ j = none)
    (hg : w.grownBy w' (blkOf u)) (hv : blkOf v = blkOf u ∨ ∃ g, blkOf v = some g ∧ w.heap.size ≤ g) (hh : holds (upd φ j (some v)) w' (Fs F0 F1) j b) :
    RelX C (upd φ j (some v)) F0 F1 { σ with H := upd (upd σ.H i none) j (some b), us := upd σ.us d true } a w' := by
  have hij : i ≠ j := by rintro rfl; rw [hu] at hn; cases hn
  have hφ := upd_le (φ := φ) (i := j) hn v
  have hub : ∀ g, blkOf u = some g → ¬ F0 g ∧ ¬ C.K0 g ∧ C.gb ≤ g := fun g hg' => h.apart i u g hi hu hg'
  have hold : ∀ k, k < w.heap.size → some k ≠ blkOf u → w'.heap[k]? = w.heap[k]? := hg.block
  have hwF : ∀ t k, Fs F0 F1 t k → w'.heap[k]? = w.heap[k]? := by
    intro t k hk
    have hk0 := Fs_f0 h.sub t k hk
    exact hold k (h.lt0 k hk0) fun e => (hub k e.symm).1 hk0
  have hH : ∀ k c, upd (upd σ.H i none) j (some b) k = some c → k ≠ j → k ≠ i ∧ σ.H k = some c := by
    intro k c hk hkj
    rw [upd_ne _ _ hkj] at hk
    by_cases hki : k = i
    · subst hki; rw [upd_self] at hk; cases hk
    · rw [upd_ne _ _ hki] at hk; exact ⟨hki, hk⟩
  have hother : ∀ k c x g, k ≠ i → σ.H k = some c → φ k = some x → blkOf x = some g → g < w.heap.size ∧ some g ≠ blkOf u := by
    intro k c x g hki hk hx hgx
    refine ⟨holds_lt (h.heap k c hk) hx hgx, fun e => hki (h.inj k i x u g (by rw [hk]; simp) hi hx hu hgx e.symm)⟩
  refine ⟨h.size, h.defs, fun t p hp => ?_, fun k c hk => ?_, fun k l x y g hk hl hx hy hgx hgy => ?_, fun k x g hk hx hgx => ?_, h.sub, h.ini, h.new1, fun k hk => Nat.lt_of_lt_of_le (h.lt0 k hk) hg.size,
    hg.os.trans h.os, hg.tape.trans h.tape, hg.output.trans h.output, Nat.le_trans h.big hg.size, fun k hk => ?_, h.k0lt, h.gbig, fun k hk => ?_, fun q x hq => ?_, h.nx1, fun k hk => ?_, fun t p hp => (h.ghost t p hp).imp fun x hx => ⟨hx.1, repV_mono hφ hwF (fun _ _ e => e) p x hx.2⟩⟩
  · obtain ⟨x, hx, hr⟩ := h.frame t p hp
    exact ⟨x, hx, repV_mono hφ hwF (fun _ _ e => e) p x hr⟩
  · by_cases hkj : k = j
    · subst hkj
      simp only [upd_self] at hk
      cases hk
      exact hh
    · obtain ⟨hki, hk⟩ := hH k c hk hkj
      refine holds_mono (h.heap k c hk) hφ (fun _ _ e => e) hwF fun x g hx hgx => ?_
      obtain ⟨h1, h2⟩ := hother k c x g hki hk hx hgx
      exact hold g h1 h2
  · obtain ⟨c1, hc1⟩ := Option.ne_none_iff_exists'.1 hk
    obtain ⟨c2, hc2⟩ := Option.ne_none_iff_exists'.1 hl
    have side : ∀ k c x g, k ≠ j → upd (upd σ.H i none) j (some b) k = some c → upd φ j (some v) k = some x → blkOf x = some g → blkOf v ≠ some g := by
      intro k c x g hkj hkc hx hgx hvg
      obtain ⟨hki, hk'⟩ := hH k c hkc hkj
      rw [upd_ne _ _ hkj] at hx
      obtain ⟨h1, h2⟩ := hother k c x g hki hk' hx hgx
      rcases hv with hv | ⟨g', hv, hle⟩
      · exact h2 (by rw [← hv, hvg])
      · rw [hvg] at hv; cases hv; omega
    by_cases hkj : k = j <;> by_cases hlj : l = j
    · rw [hkj, hlj]
    · subst hkj
      simp only [upd_self] at hx; cases hx
      exact absurd hgx (side l c2 y g hlj hc2 hy hgy)
    · subst hlj
      simp only [upd_self] at hy; cases hy
      exact absurd hgy (side k c1 x g hkj hc1 hx hgx)
    · obtain ⟨_, hk'⟩ := hH k c1 hc1 hkj
      obtain ⟨_, hl'⟩ := hH l c2 hc2 hlj
      rw [upd_ne _ _ hkj] at hx
      rw [upd_ne _ _ hlj] at hy
      exact h.inj k l x y g (by rw [hk']; simp) (by rw [hl']; simp) hx hy hgx hgy
  · obtain ⟨c, hc⟩ := Option.ne_none_iff_exists'.1 hk
    by_cases hkj : k = j
    · subst hkj
      simp only [upd_self] at hx; cases hx
      rcases hv with hv | ⟨g', hv, hle⟩
      · exact hub g (by rw [← hv]; exact hgx)
      · rw [hgx] at hv; cases hv
        refine ⟨fun h0 => ?_, fun h0 => ?_, Nat.le_trans (Nat.le_trans h.gbig h.big) hle⟩
        · have := h.lt0 g h0; omega
        · have := h.k0lt g h0; have := h.big; omega
    · obtain ⟨_, hk'⟩ := hH k c hc hkj
      rw [upd_ne _ _ hkj] at hx
      exact h.apart k x g (by rw [hk']; simp) hx hgx
  · refine (hold k (Nat.lt_of_lt_of_le (h.k0lt k hk) h.big) fun e => (hub k e.symm).2.1 hk).trans (h.kept k hk)
  · refine (hold k (Nat.lt_of_lt_of_le hk (Nat.le_trans h.gbig h.big)) fun e => ?_).trans (h.glob k hk)
    have := (hub k e.symm).2.2
    omega
  · refine h.keep q x ?_
    rwa [upd_ne] at hq
    rintro rfl
    have := h.nx1
    simp only at hj
    omega
  · by_cases hkj : k = j
    · subst hkj
      exact .inr ⟨d, by simp [upd], hj⟩
    · rw [upd_ne _ _ hkj] at hk
      rcases h.ids k hk with h0 | ⟨e, he, h0⟩
      · exact .inl h0
      · refine .inr ⟨e, ?_, h0⟩
        by_cases hed : e = d
        · subst hed; simp [upd]
        · show upd σ.us d true e = true
          rw [upd_ne _ _ hed]; exact he
end
end Go.Vm
end

section
namespace Go.Vm
open Go Go.RowKit
set_option linter.unusedVariables false
set_option linter.unusedSimpArgs false

/-- The row that is appended. -/
def newsOf (H : Id → Option Blk) (z : Nat) : PV → Option (Nat × List PC)
  | .one (.sl _ m ys) => if ys.length = m * z then some (m, ys) else none
  | .one (.own j) =>
    match H j with
    | some (.arr _ z' m ys) => if z' = z then some (m, ys) else none
    | _ => none
  | .one (.c (.slice none 0 0)) => some (0, [])
  | .one .emp => some (0, [])
  | .one (.cut j m) =>
    match H j with
    | some (.arr _ z' _ cs) => if z' = z ∧ (cs.take (m * z)).length = m * z then some (m, cs.take (m * z)) else none
    | _ => none
  | .one (.vw j off m) =>
    match H j with
    | some (.arr _ _ _ cs) => if ((cs.drop off).take (m * z)).length = m * z then some (m, (cs.drop off).take (m * z)) else none
    | _ => none
  | .full (.sl _ m ys) => if ys.length = m * z then some (m, ys) else none
  | .full (.own j) =>
    match H j with
    | some (.arr _ z' m ys) => if z' = z then some (m, ys) else none
    | _ => none
  | .full (.c (.slice none 0 0)) => some (0, [])
  | .full .emp => some (0, [])
  | .full (.cut j m) =>
    match H j with
    | some (.arr _ z' _ cs) => if z' = z ∧ (cs.take (m * z)).length = m * z then some (m, cs.take (m * z)) else none
    | _ => none
  | .full (.vw j off m) =>
    match H j with
    | some (.arr _ _ _ cs) => if ((cs.drop off).take (m * z)).length = m * z then some (m, (cs.drop off).take (m * z)) else none
    | _ => none
  | _ => none

theorem newsOf_full {H : Id → Option Blk} {z : Nat} {p : PC} : newsOf H z (.full p) = newsOf H z (.one p) := by
  cases p with
  | c v =>
    cases v with
    | slice A n c => cases A <;> cases n <;> cases c <;> rfl
    | _ => rfl
  | _ => rfl

/-- The row that is appended to: its name, if it has one. -/
def baseOf (H : Id → Option Blk) (e z : Nat) : PV → Option (Option Id × Nat × List PC)
  | .one (.own i) =>
    match H i with
    | some (.arr e' z' n cs) => if e' = e ∧ z' = z then some (some i, n, cs) else none
    | _ => none
  | .one (.c (.slice none 0 0)) => some (none, 0, [])
  | .one (.cut i m) =>
    match H i with
    | some (.arr e' z' n cs) => if e' = e ∧ z' = z ∧ m ≤ n then some (some i, m, cs.take (m * z)) else none
    | _ => none
  | _ => none

/-- A string's bytes that are appended. -/
def vappS (P : Program) (ρ : Operand → Option PV) (H : Id → Option Blk) (s x : Operand) (t t' : TypeId) : Option (Option Id × Blk) :=
  match elemT P t, P.underlying t' with
  | some e, some .string =>
    match szT P e, bytesT P e, zeroT P e with
    | some 1, some 1, some (.int .u8 0) =>
      match (ρ s).bind (baseOf H e 1), (ρ x).bind asS with
      | some (i, n, cs), some b => if n + b.size ≤ 140737488355328 then some (i, .arr e 1 (n + b.size) (cs ++ (Lib.strCells b).map .c)) else none
      | _, _ => none
    | _, _, _ => none
  | _, _ => none

/-- append of so many zeros to nil. -/
def vappZ (P : Program) (ρ : Operand → Option PV) (s x : Operand) (t t' : TypeId) : Option (Option Id × Blk) :=
  match elemT P t, P.underlying t', ρ s, (ρ x).bind asI with
  | some e, some (.int _), some (.one (.c (.slice none 0 0))), some (_, k) =>
    match szT P e, bytesT P e, zeroCellsT P e with
    | some z, some by_, some zc => if 0 < k ∧ k ≤ 140737488355328 ∧ k.toNat * by_ ≤ 140737488355328 ∧ 0 < z ∧ zc.length = z then some (none, .arr e z k.toNat (rowZ zc k.toNat)) else none
    | _, _, _ => none
  | _, _, _, _ => none
def vappSZ (P : Program) (ρ : Operand → Option PV) (H : Id → Option Blk) (s x : Operand) (t t' : TypeId) : Option (Option Id × Blk) :=
  match vappS P ρ H s x t t' with
  | some y => some y
  | none => vappZ P ρ s x t t'

def vapp (P : Program) (ρ : Operand → Option PV) (H : Id → Option Blk) (c : Call) : Option (Option Id × Blk) :=
  match c.args.toList, c.argTypes.toList with
  | [s, x], [t, t'] =>
    if t = t' then
      match elemT P t with
      | some e =>
        match szT P e, bytesT P e, zeroCellsT P e with
        | some z, some by_, some zc =>
          if zc.length = z then
            match (ρ s).bind (baseOf H e z), (ρ x).bind (newsOf H z) with
            | some (i, n, cs), some (m, ys) => if (n + m) * by_ ≤ 140737488355328 ∧ n + m ≤ 140737488355328 then some (i, .arr e z (n + m) (cs ++ ys)) else none
            | _, _ => none
          else none
        | _, _, _ => none
      | none => none
    else vappSZ P ρ H s x t t'
  | _, _ => none

def kill (H : Id → Option Blk) : Option Id → Id → Option Blk
  | none => H
  | some i => upd H i none

section
variable {ρ : Operand → Option PV} {H : Id → Option Blk} {C : Ctx} {φ φ' : Id → Option Value} {F : Bool → Nat → Prop} {F0 F1 : Nat → Prop} {σ : St} {a : Act} {w w' : World} {P : Program}

theorem newsOf_rep1 (h : RelX C φ F0 F1 σ a w) (V : View φ w (Fs F0 F1) a σ ρ H) {z m : Nat} {ys : List PC} {p : PC} {x : Value} (hr : repV φ w (Fs F0 F1) (.one p) x) (hn : newsOf H z (.one p) = some (m, ys)) :
    ∃ A c news, x = .slice A m c ∧ (m = 0 ∨ ∃ ad, A = some ad ∧ ∀ j u, news[j]? = some u → w.cell? (ad.add j) = some u) ∧ news.length = m * z ∧ reps φ w (Fs F0 F1) ys news := by
  generalize hq : PV.one p = q at hn hr
  unfold newsOf at hn
  split at hn
  · split at hn
    · cases hn
      rename_i hl
      simp only [repV, rep] at hr
      obtain ⟨A, cap, rfl, _, hr⟩ := hr
      rcases hr with ⟨rfl, rfl⟩ | ⟨ad, rfl, _, hr⟩
      · exact ⟨A, cap, [], rfl, .inl rfl, by simp, by simp [reps]⟩
      · obtain ⟨vs, hvs, hc⟩ := repAt_vals _ _ hr
        exact ⟨_, cap, vs, rfl, .inr ⟨ad, rfl, hc⟩, by rw [reps_length _ _ hvs, hl], hvs⟩
    · cases hn
  · split at hn
    · rename_i hH
      split at hn
      · cases hn
        rename_i hz
        subst hz
        simp only [repV, rep] at hr
        obtain ⟨hφ, _⟩ := hr
        have hh := h.heap _ _ (V.heap hH)
        obtain ⟨v, vs, hv, ho, hrs⟩ := hh
        rw [hφ] at hv
        cases hv
        have ho' := ho
        obtain ⟨hl, ho⟩ := ho
        rcases ho with ⟨rfl, rfl⟩ | ⟨g, cap, cur, rfl, _⟩
        · exact ⟨none, 0, vs, rfl, .inl rfl, hl, hrs⟩
        · exact ⟨_, cap, vs, rfl, .inr ⟨_, rfl, fun j u hu => ho'.cells (g := g) rfl j u hu⟩, hl, hrs⟩
      · cases hn
    · cases hn
  · cases hn
    simp only [repV, rep] at hr
    obtain ⟨rfl, _⟩ := hr
    exact ⟨none, 0, [], rfl, .inl rfl, by simp, by simp [reps]⟩
  · cases hn
    simp only [repV, rep] at hr
    obtain ⟨A, rfl⟩ := hr
    exact ⟨A, 0, [], rfl, .inl rfl, by simp, by simp [reps]⟩
  · split at hn
    · rename_i hH
      split at hn
      · cases hn
        rename_i hc
        obtain ⟨hz', hl⟩ := hc
        have hz' := hz'.symm
        subst hz'
        simp only [repV, rep] at hr
        obtain ⟨A, N, cap, hφ, hnN, rfl⟩ := hr
        have hh := h.heap _ _ (V.heap hH)
        obtain ⟨v, vs, hv, ho, hrs⟩ := hh
        rw [hφ] at hv
        cases hv
        have ho' := ho
        obtain ⟨hl', ho⟩ := ho
        rcases ho with ⟨hv, h0⟩ | ⟨g, cap', cur, hv, _⟩
        · cases hv
          have hm0 : m = 0 := by omega
          subst hm0
          exact ⟨none, 0, [], rfl, .inl rfl, by simp, by simp [reps]⟩
        · cases hv
          exact ⟨_, _, vs.take (m * z), rfl, .inr ⟨_, rfl, fun j u hu => ho'.cells (g := g) rfl j u (by rw [List.getElem?_take] at hu; split at hu <;> simp_all)⟩, (reps_length _ _ (reps_take hrs _)).trans hl, reps_take hrs _⟩
      · cases hn
    · cases hn
  · rename_i jv offv mv
    split at hn
    · rename_i hH
      split at hn
      · cases hn
        rename_i hl
        simp only [repV, rep] at hr
        obtain ⟨u, A, cap, hφ, rfl, hc, hA⟩ := hr
        have hh := h.heap _ _ (V.heap hH)
        by_cases hm : m = 0
        · subst hm
          exact ⟨A, cap, [], rfl, .inl rfl, by simp, by simp [reps]⟩
        · obtain ⟨g, hg, rfl⟩ := hA.resolve_left hm
          have h1 := repAt_take (repAt_drop (holds_repAt hh hφ hg) offv) (m * z)
          rw [Addr.add_lit, Nat.zero_add] at h1
          obtain ⟨vs, hvs, hcl⟩ := repAt_vals _ _ h1
          exact ⟨_, cap, vs, rfl, .inr ⟨_, rfl, hcl⟩, (reps_length _ _ hvs).trans hl, hvs⟩
      · cases hn
    · cases hn
  · cases hq
  · cases hq
  · cases hq
  · cases hq
  · cases hq
  · cases hq
  · cases hn
theorem newsOf_rep (h : RelX C φ F0 F1 σ a w) (V : View φ w (Fs F0 F1) a σ ρ H) {z m : Nat} {ys : List PC} {p : PV} {x : Value} (hr : repV φ w (Fs F0 F1) p x) (hn : newsOf H z p = some (m, ys)) :
    ∃ A c news, x = .slice A m c ∧ (m = 0 ∨ ∃ ad, A = some ad ∧ ∀ j u, news[j]? = some u → w.cell? (ad.add j) = some u) ∧ news.length = m * z ∧ reps φ w (Fs F0 F1) ys news := by
  cases p with
  | one q => exact newsOf_rep1 h V hr hn
  | full q =>
    rw [newsOf_full] at hn
    simp only [repV] at hr
    exact newsOf_rep1 h V (by simp only [repV]; exact hr.1) hn
  | agg ps => simp [newsOf] at hn
  | tup vs => simp [newsOf] at hn
  | may b p => simp [newsOf] at hn

def BaseIs (φ : Id → Option Value) (H : Id → Option Blk) (x : Value) : Option Id → Prop
  | none => blkOf x = none
  | some i => φ i = some x ∧ H i ≠ none

theorem baseOf_rep (h : RelX C φ F0 F1 σ a w) (V : View φ w (Fs F0 F1) a σ ρ H) {e z n : Nat} {cs : List PC} {i : Option Id} {p : PV} {x : Value} (hr : repV φ w (Fs F0 F1) p x) (hn : baseOf H e z p = some (i, n, cs)) :
    ∃ vs u, w.ownsRow 0 e z x n vs ∧ reps φ w (Fs F0 F1) cs vs ∧ BaseIs φ σ.H u i ∧ blkOf u = blkOf x := by
  unfold baseOf at hn
  split at hn
  · split at hn
    · rename_i hH
      split at hn
      · cases hn
        rename_i hz
        obtain ⟨rfl, rfl⟩ := hz
        simp only [repV, rep] at hr
        obtain ⟨hφ, _⟩ := hr
        obtain ⟨v, vs, hv, ho, hrs⟩ := h.heap _ _ (V.heap hH)
        rw [hφ] at hv
        cases hv
        exact ⟨vs, _, ho, hrs, ⟨hφ, by rw [V.heap hH]; simp⟩, rfl⟩
      · cases hn
    · cases hn
  · cases hn
    simp only [repV, rep] at hr
    obtain ⟨rfl, _⟩ := hr
    exact ⟨[], .slice none 0 0, World.ownsRow_nil w 0 e z, by simp [reps], rfl, rfl⟩
  · split at hn
    · rename_i hH
      split at hn
      · cases hn
        rename_i hz
        obtain ⟨he', hz', hmn⟩ := hz
        have he' := he'.symm
        subst he'
        have hz' := hz'.symm
        subst hz'
        simp only [repV, rep] at hr
        obtain ⟨A, N, cap, hφ, hnN, rfl⟩ := hr
        obtain ⟨v, vs, hv, ⟨hl, ho⟩, hrs⟩ := h.heap _ _ (V.heap hH)
        rw [hφ] at hv
        cases hv
        have hle := Nat.mul_le_mul_right z hmn
        refine ⟨vs.take (n * z), _, ⟨by rw [List.length_take, hl]; omega, ?_⟩, reps_take hrs _, ⟨hφ, by rw [V.heap hH]; simp⟩, ?_⟩
        · rcases ho with ⟨hv, h0⟩ | ⟨g, cap', cur, hv, hb, hg, hnc, hm, hs, ht⟩
          · cases hv
            have hn0 : n = 0 := by omega
            subst hn0
            exact .inl ⟨rfl, rfl⟩
          · cases hv
            exact .inr ⟨g, _, cur, rfl, hb, hg, by omega, hm, hs, by rw [← ht, List.take_take]; congr 1; omega⟩
        · cases A <;> rfl
      · cases hn
    · cases hn
  · cases hn

theorem app_tail (h : RelX C φ F0 F1 σ a w) {c : Call} {i : Option Id} {d e z n m : Nat} {cs ys : List PC} {v v' : Value} {vs news : List Value} {ty : TypeId} {pos : String} {af : Array Edge} {gd : Option (Nat × Bool)} (hus : σ.us d = false)
    (hexec : (execOp a.eval ⟨some d, .call c, ty, pos, af, gd⟩).run C.P w = .ok (.value v') w') (hi : BaseIs φ σ.H v i) (hrs : reps φ w (Fs F0 F1) cs vs) (hrn : reps φ w (Fs F0 F1) ys news)
    (ho' : w'.ownsRow 0 e z v' (n + m) (vs ++ news)) (hgr : w.grownBy w' (blkOf v)) (hbl : blkOf v' = blkOf v ∨ ∃ g, blkOf v' = some g ∧ w.heap.size ≤ g) :
    ∃ x w' φ', (execOp a.eval ⟨some d, .call c, ty, pos, af, gd⟩).run C.P w = .ok (.value x) w' ∧
      RelX C φ' F0 F1 { σ with H := upd (kill σ.H i) (σ.nx + d, 0) (some (.arr e z (n + m) (cs ++ ys))), us := upd σ.us d true } a w' ∧ repV φ' w' (Fs F0 F1) (.one (.own (σ.nx + d, 0))) x := by
  have hnone := h.fresh (j := 0) hus
  have hφ := upd_le (φ := φ) hnone v'
  have hwF : ∀ t k, Fs F0 F1 t k → w'.heap[k]? = w.heap[k]? := by
    intro t k hk
    have hk0 := Fs_f0 h.sub t k hk
    refine hgr.block k (h.lt0 k hk0) fun e => ?_
    cases i with
    | none => simp only [BaseIs] at hi; rw [hi] at e; cases e
    | some i => exact (h.apart i _ k hi.2 hi.1 e.symm).1 hk0
  have hh : holds (upd φ (σ.nx + d, 0) (some v')) w' (Fs F0 F1) (σ.nx + d, 0) (.arr e z (n + m) (cs ++ ys)) :=
    ⟨v', vs ++ news, upd_self _ _ _, ho', reps_mono hφ hwF (fun _ _ e => e) _ _ (reps_append hrs hrn)⟩
  have hsl : isSl v' = true := by
    rcases ho'.2 with ⟨rfl, _⟩ | ⟨g, cap, cur, rfl, _⟩ <;> rfl
  refine ⟨v', w', upd φ (σ.nx + d, 0) (some v'), hexec, ?_, by simp only [repV, rep]; exact ⟨upd_self _ _ _, hsl⟩⟩
  cases i with
  | none =>
    simp only [BaseIs] at hi
    have hbel : Below w.heap.size w w' := ⟨hgr.os, hgr.tape, hgr.output, hgr.size, fun k hk => hgr.block k hk (by rw [hi]; simp)⟩
    refine (h.below hbel).bind rfl hnone hh fun g hg => ?_
    rcases hbl with hbl | ⟨g', hg', hle⟩
    · rw [hi] at hbl; rw [hbl] at hg; cases hg
    · rw [hg] at hg'; cases hg'
      refine ⟨fun h0 => ?_, fun h0 => ?_, Nat.le_trans (Nat.le_trans h.gbig h.big) hle, fun k u hk hu he => ?_⟩
      · have := h.lt0 g h0; omega
      · have := h.k0lt g h0; have := h.big; omega
      · obtain ⟨b, hb'⟩ := Option.ne_none_iff_exists'.1 hk
        have := holds_lt (h.heap k b hb') hu he
        omega
  | some i => exact h.rename hi.2 hi.1 rfl hnone hgr hbl hh

theorem append_str_ok (h : RelX C φ F0 F1 σ a w) (V : View φ w (Fs F0 F1) a σ ρ H) {s x : Operand} {t t' : TypeId} {i : Option Id} {b : Blk} {d : Nat} {ty : TypeId} {pos : String} {af : Array Edge} {gd : Option (Nat × Bool)}
    (hv : vappS C.P ρ H s x t t' = some (i, b)) (hus : σ.us d = false) :
    ∃ y w' φ', (execOp a.eval ⟨some d, .call ⟨.builtin .append, #[s, x], #[t, t']⟩, ty, pos, af, gd⟩).run C.P w = .ok (.value y) w' ∧
      RelX C φ' F0 F1 { σ with H := upd (kill σ.H i) (σ.nx + d, 0) (some b), us := upd σ.us d true } a w' ∧ repV φ' w' (Fs F0 F1) (.one (.own (σ.nx + d, 0))) y := by
  unfold vappS at hv
  split at hv
  · rename_i e he ht'
    split at hv
    · rename_i hz hby hzc
      split at hv
      · rename_i i' n cs bs hb hn
        split at hv
        · cases hv
          rename_i hlim
          obtain ⟨q1, hq1, hb⟩ := Option.bind_eq_some_iff.1 hb
          obtain ⟨q2, hq2, hn⟩ := Option.bind_eq_some_iff.1 hn
          obtain ⟨vs, ub, ho, hrs, hi, hue⟩ := baseOf_rep h V (V.ev hq1) hb
          have hx := asS_rep (V.ev hq2) hn
          obtain ⟨inf, hinf, hsz⟩ := Option.map_eq_some_iff.1 (show (C.P.info? e).map (·.size) = some 1 from hz)
          have hby' : inf.bytes = 1 := by
            have : (C.P.info? e).map (·.bytes) = some 1 := hby
            rw [hinf] at this; simpa using this
          have hz0 : inf.zero = some (.int .u8 0) := by
            have : (C.P.info? e).bind (·.zero) = some (.int .u8 0) := hzc
            rw [hinf] at this; simpa using this
          obtain ⟨v', w', hrun, ho', hgr, hbl⟩ := append_str_run (P := C.P) t t' ty e inf (elemT_spec he) ht' hinf hz0 hsz hby' _ n vs ho bs (by unfold maxLen; omega) hlim
          have hexec : (execOp a.eval ⟨some d, .call ⟨.builtin .append, #[s, x], #[t, t']⟩, ty, pos, af, gd⟩).run C.P w = .ok (.value v') w' := by
            simp only [execOp, resolve, invoke, builtin, Sem.run_bind, Sem.run_pure, Result.andThen_ok, List.map_toArray, List.map_cons, List.map_nil, hx, hrun]
          refine app_tail h hus hexec hi hrs (reps_of_get _ _ (by simp) fun j p v hp hv => ?_) ho' (by rw [hue]; exact hgr) (by rw [hue]; exact hbl)
          rw [List.getElem?_map, hv] at hp
          simp only [Option.map_some, Option.some.injEq] at hp
          subst hp
          simp only [rep]
          exact ⟨trivial, Lib.strCells_oneCell bs v (List.mem_of_getElem? hv)⟩
        · cases hv
      · cases hv
    · cases hv
  · cases hv

theorem append_zero_ok (h : RelX C φ F0 F1 σ a w) (V : View φ w (Fs F0 F1) a σ ρ H) {s x : Operand} {t t' : TypeId} {i : Option Id} {b : Blk} {d : Nat} {ty : TypeId} {pos : String} {af : Array Edge} {gd : Option (Nat × Bool)}
    (hv : vappZ C.P ρ s x t t' = some (i, b)) (hus : σ.us d = false) :
    ∃ y w' φ', (execOp a.eval ⟨some d, .call ⟨.builtin .append, #[s, x], #[t, t']⟩, ty, pos, af, gd⟩).run C.P w = .ok (.value y) w' ∧
      RelX C φ' F0 F1 { σ with H := upd (kill σ.H i) (σ.nx + d, 0) (some b), us := upd σ.us d true } a w' ∧ repV φ' w' (Fs F0 F1) (.one (.own (σ.nx + d, 0))) y := by
  unfold vappZ at hv
  split at hv
  · rename_i e ki kk k he hu hs hx
    split at hv
    · rename_i z by_ zc hz hby hzc
      split at hv
      · rename_i hc
        cases hv
        obtain ⟨h0, h1, h2, h3, h4⟩ := hc
        obtain ⟨qx, hqx, hx⟩ := Option.bind_eq_some_iff.1 hx
        have hxr := asI_rep (V.ev hqx) hx
        have hsr := V.ev hs
        simp only [repV, rep] at hsr
        obtain ⟨hsr, _⟩ := hsr
        obtain ⟨zv, hzv, hzce, hzr⟩ := zero_rep (φ := φ) (w := w) (F := Fs F0 F1) hzc
        obtain ⟨inf, hinf, hsz⟩ := Option.map_eq_some_iff.1 (show (C.P.info? e).map (·.size) = some z from hz)
        have hby' : inf.bytes = by_ := by
          have : (C.P.info? e).map (·.bytes) = some by_ := hby
          rw [hinf] at this; simpa using this
        have hz0 : inf.zero = some zv := by
          have : (C.P.info? e).bind (·.zero) = some zv := hzv
          rw [hinf] at this; simpa using this
        have hk : ((k.toNat : Nat) : Int) = k := by omega
        have hrun := Lib.run_append_nil_zeros (P := C.P) w t t' ty e inf zv kk ki (elemT_spec he) hu hinf hz0 k.toNat (by omega) (by omega) (by omega) (by rw [hby']; omega)
        rw [hk] at hrun
        have hzl : zv.cells.size = z := by rw [← h4, hzce]; simp
        have hzrep : reps φ w (Fs F0 F1) (rowZ zc k.toNat) (Builtin.zeroCells zv.cells k.toNat).toList := by
          rw [rowZ_eq _ _ (by omega), h4]
          have := zeros_rep (m := k.toNat * z) hzr h4 h3
          unfold Builtin.zeroCells
          rw [hzl] at this ⊢
          exact this
        have hnl := reps_length _ _ hzrep
        have hrl : (rowZ zc k.toNat).length = k.toNat * z := by rw [rowZ_eq _ _ (by omega)]; simp [h4]
        have hge := grownCap_ge w k.toNat 0 e
        have hcm : grownCap w k.toNat 0 e ≤ maxLen := grownCap_le_maxLen w k.toNat 0 e (by unfold maxLen; omega)
        have key : (w.drew.alloc (.cells (Builtin.zeroCells zv.cells k.toNat ++ Builtin.zeroCells zv.cells (grownCap w k.toNat 0 e - k.toNat)) e)).ownsRow 0 e z
            (.slice (some ⟨w.heap.size, 0, none⟩) k.toNat (grownCap w k.toNat 0 e)) k.toNat (Builtin.zeroCells zv.cells k.toNat).toList := by
          refine ⟨by rw [hnl, hrl], .inr ⟨w.heap.size, _, _, rfl, Nat.zero_le _, heap_alloc_new w.drew _, hge, hcm, ?_, ?_⟩⟩
          · simp only [Array.size_append, size_zeroCells, hzl, ← Nat.add_mul]
            congr 1
            omega
          · simp only [Array.toList_append]
            rw [show k.toNat * z = (Builtin.zeroCells zv.cells k.toNat).toList.length by rw [hnl, hrl]]
            exact List.take_left
        have hgr : w.grownBy (w.drew.alloc (.cells (Builtin.zeroCells zv.cells k.toNat ++ Builtin.zeroCells zv.cells (grownCap w k.toNat 0 e - k.toNat)) e)) none :=
          ⟨rfl, rfl, rfl, by simp, fun k hk _ => heap_alloc_old w.drew _ k hk⟩
        have hexec : (execOp a.eval ⟨some d, .call ⟨.builtin .append, #[s, x], #[t, t']⟩, ty, pos, af, gd⟩).run C.P w = .ok (.value (.slice (some ⟨w.heap.size, 0, none⟩) k.toNat (grownCap w k.toNat 0 e))) (w.drew.alloc (.cells (Builtin.zeroCells zv.cells k.toNat ++ Builtin.zeroCells zv.cells (grownCap w k.toNat 0 e - k.toNat)) e)) := by
          simp only [execOp, resolve, invoke, builtin, Sem.run_bind, Sem.run_pure, Result.andThen_ok, List.map_toArray, List.map_cons, List.map_nil, hsr, hxr, hrun]
        have := app_tail (v := .slice none 0 0) (n := 0) (cs := []) (vs := []) (i := none) h hus hexec rfl (by simp only [reps]) hzrep (by simpa using key) hgr (.inr ⟨_, rfl, Nat.le_refl _⟩)
        simpa using this
      · cases hv
    · cases hv
  · cases hv

theorem append_ok (h : RelX C φ F0 F1 σ a w) (V : View φ w (Fs F0 F1) a σ ρ H) {c : Call} {i : Option Id} {b : Blk} {d : Nat} {ty : TypeId} {pos : String} {af : Array Edge} {gd : Option (Nat × Bool)} (hcal : c.callee = .builtin .append)
    (hv : vapp C.P ρ H c = some (i, b)) (hus : σ.us d = false) :
    ∃ x w' φ', (execOp a.eval ⟨some d, .call c, ty, pos, af, gd⟩).run C.P w = .ok (.value x) w' ∧
      RelX C φ' F0 F1 { σ with H := upd (kill σ.H i) (σ.nx + d, 0) (some b), us := upd σ.us d true } a w' ∧ repV φ' w' (Fs F0 F1) (.one (.own (σ.nx + d, 0))) x := by
  obtain ⟨cal, ar, at_⟩ := c
  simp only at hcal
  subst hcal
  unfold vapp at hv
  split at hv
  · rename_i s x t t' hs ht
    split at hv
    · rename_i htt
      subst htt
      split at hv
      · rename_i e he
        split at hv
        · rename_i z by_ zc hz hby hzc
          split at hv
          · rename_i hzl
            split at hv
            · rename_i i' n cs m ys hb hn
              split at hv
              · cases hv
                rename_i hlim
                simp only at hs ht
                obtain rfl := list2 hs
                obtain rfl := list2 ht
                obtain ⟨q1, hq1, hb⟩ := Option.bind_eq_some_iff.1 hb
                obtain ⟨q2, hq2, hn⟩ := Option.bind_eq_some_iff.1 hn
                obtain ⟨vs, ub, ho, hrs, hi, hue⟩ := baseOf_rep h V (V.ev hq1) hb
                obtain ⟨A, cap, news, hx, hA, hnl, hrn⟩ := newsOf_rep h V (V.ev hq2) hn
                obtain ⟨zv, hzv, hzce, _⟩ := zero_rep (φ := φ) (w := w) (F := Fs F0 F1) hzc
                obtain ⟨inf, hinf, rfl⟩ := Option.map_eq_some_iff.1 (show (C.P.info? e).map (·.size) = some z from hz)
                have hby' : inf.bytes = by_ := by
                  have : (C.P.info? e).map (·.bytes) = some by_ := hby
                  rw [hinf] at this; simpa using this
                have hz0 : inf.zero = some zv := by
                  have : (C.P.info? e).bind (·.zero) = some zv := hzv
                  rw [hinf] at this; simpa using this
                have hzs : zv.cells.size = inf.size := by rw [← hzl, hzce]; simp
                obtain ⟨v', w', hrun, ho', hgr, hbl⟩ := append_run (P := C.P) t ty e inf zv inf.size by_ (elemT_spec he) hinf hz0 rfl hby' hzs _ n vs ho A m cap news hA hnl (reps_one _ _ hrn) (by unfold maxLen; omega) hlim.1
                have hexec : (execOp a.eval ⟨some d, .call ⟨.builtin .append, #[s, x], #[t, t]⟩, ty, pos, af, gd⟩).run C.P w = .ok (.value v') w' := by
                  simp only [execOp, resolve, invoke, builtin, Sem.run_bind, Sem.run_pure, Result.andThen_ok, List.map_toArray, List.map_cons, List.map_nil, hx, hrun]
                exact app_tail h hus hexec hi hrs hrn ho' (by rw [hue]; exact hgr) (by rw [hue]; exact hbl)
              · cases hv
            · cases hv
          · cases hv
        · cases hv
      · cases hv
    · simp only at hs ht
      obtain rfl := list2 hs
      obtain rfl := list2 ht
      unfold vappSZ at hv
      split at hv
      · rename_i y hy
        cases hv
        exact append_str_ok h V hy hus
      · exact append_zero_ok h V hv hus
  · cases hv

/-- The front of a row of the call's own. -/
def vcut (P : Program) (ρ : Operand → Option PV) (H : Id → Option Blk) : Op → Option (Id × Blk)
  | .slice t x lo (some hi) none =>
    match ρ x, elemT P t, (match lo with | none => some (IntKind.i64, (0 : Int)) | some l => (ρ l).bind asI), (ρ hi).bind asI with
    | some (.one (.own i)), some e, some (_, l), some (_, k) =>
      match H i, szT P e with
      | some (.arr e' z n cs), some z' => if e' = e ∧ z = z' ∧ l = 0 ∧ 0 ≤ k ∧ k ≤ n then some (i, .arr e z k.toNat (cs.take (k.toNat * z))) else none
      | _, _ => none
    | _, _, _, _ => none
  | _ => none

theorem cut_ok (h : RelX C φ F0 F1 σ a w) (V : View φ w (Fs F0 F1) a σ ρ H) {op : Op} {i : Id} {b : Blk} {d : Nat} {ty : TypeId} {pos : String} {af : Array Edge} {gd : Option (Nat × Bool)}
    (hv : vcut C.P ρ H op = some (i, b)) (hus : σ.us d = false) :
    ∃ x φ', (execOp a.eval ⟨some d, op, ty, pos, af, gd⟩).run C.P w = .ok (.value x) w ∧
      RelX C φ' F0 F1 { σ with H := upd (upd σ.H i none) (σ.nx + d, 0) (some b), us := upd σ.us d true } a w ∧ repV φ' w (Fs F0 F1) (.one (.own (σ.nx + d, 0))) x := by
  unfold vcut at hv
  split at hv
  · rename_i t x lo hi
    split at hv
    · rename_i i' e k1 l k2 k hx he hl hk
      split at hv
      · rename_i e' z n cs z' hH hz
        split at hv
        · cases hv
          rename_i hc
          obtain ⟨rfl, rfl, rfl, hk0, hkn⟩ := hc
          have hxr := V.ev hx
          simp only [repV, rep] at hxr
          obtain ⟨hφ, _⟩ := hxr
          obtain ⟨v, vs, hv, ⟨hlen, ho⟩, hrs⟩ := h.heap _ _ (V.heap hH)
          rw [hφ] at hv
          cases hv
          obtain ⟨qk, hqk, hk⟩ := Option.bind_eq_some_iff.1 hk
          have hkv := asI_rep (V.ev hqk) hk
          have hmul : k.toNat * z ≤ n * z := Nat.mul_le_mul_right _ (by omega)
          have hnone := h.fresh (j := 0) hus
          -- the value
          have hlv : ∀ l' : Operand, lo = some l' → a.eval l' = .int k1 0 := by
            rintro l' rfl
            simp only at hl
            obtain ⟨ql, hql, hl⟩ := Option.bind_eq_some_iff.1 hl
            exact asI_rep (V.ev hql) hl
          rcases ho with ⟨hve, rfl⟩ | ⟨g, cap, cur, hve, _, hheap, hnc, hcm, hcs, htake⟩
          · have hk' : k = 0 := by omega
            subst hk'
            have hcl : cs = [] := by
              have := reps_length _ _ hrs
              rw [hlen] at this
              exact List.length_eq_zero_iff.1 (by simpa using this.symm)
            subst hcl
            refine ⟨.slice none 0 0, upd φ (σ.nx + d, 0) (some (.slice none 0 0)), ?_, h.rename (u := .slice none 0 0) (by rw [V.heap hH]; simp) (by rw [← hve]; exact hφ) rfl hnone ⟨rfl, rfl, rfl, Nat.le_refl _, fun _ _ _ => rfl⟩ (.inl rfl) ?_, by simp only [repV, rep]; exact ⟨upd_self _ _ _, rfl⟩⟩
            · simp only [execOp, Option.map_some, Option.map_none, hve, hkv, Instr.sliceAt, Sem.run_bind, run_underlying (elemT_spec he), Result.andThen_ok, Instr.slice, Instr.sliceBounds, Instr.sliceBound, asIntOf, Sem.run_pure]
              cases lo with
              | none => simp [run_sizeOf' hz]
              | some l =>
                have := hlv l rfl
                simp [this, run_sizeOf' hz]
            · exact ⟨_, [], upd_self _ _ _, by simpa using World.ownsRow_nil w 0 e' z, by simp [reps]⟩
          · refine ⟨.slice (some ⟨g, 0, none⟩) k.toNat cap, upd φ (σ.nx + d, 0) (some (.slice (some ⟨g, 0, none⟩) k.toNat cap)), ?_, h.rename (by rw [V.heap hH]; simp) hφ rfl hnone ⟨rfl, rfl, rfl, Nat.le_refl _, fun _ _ _ => rfl⟩ (.inl (by rw [hve]; rfl)) ?_, by simp only [repV, rep]; exact ⟨upd_self _ _ _, rfl⟩⟩
            · have hkc : k ≤ (cap : Int) := by omega
              simp only [execOp, Option.map_some, Option.map_none, hve, hkv, Instr.sliceAt, Sem.run_bind, run_underlying (elemT_spec he), Result.andThen_ok, Instr.slice, Instr.sliceBounds, Instr.sliceBound, asIntOf, Sem.run_pure]
              have hadd : ∀ q : Nat, (if q = 0 then (some (⟨g, 0, none⟩ : Addr)) else some ((⟨g, 0, none⟩ : Addr).add 0)) = some ⟨g, 0, none⟩ := by intro q; split <;> simp [Addr.add]
              cases lo with
              | none => simp [run_sizeOf' hz, hk0, hkc, hadd]
              | some l =>
                have := hlv l rfl
                simp [this, run_sizeOf' hz, hk0, hkc, hadd]
            · refine ⟨_, vs.take (k.toNat * z), upd_self _ _ _, ⟨?_, .inr ⟨g, cap, cur, rfl, Nat.zero_le _, hheap, by omega, hcm, hcs, ?_⟩⟩, ?_⟩
              · rw [List.length_take, hlen]; omega
              · rw [← htake, List.take_take]
                congr 1
                omega
              · exact reps_mono (upd_le hnone _) (fun _ _ _ => rfl) (fun _ _ e => e) _ _ (reps_take hrs _)
        · cases hv
      · cases hv
    · cases hv
  · cases hv
end
end Go.Vm
end
