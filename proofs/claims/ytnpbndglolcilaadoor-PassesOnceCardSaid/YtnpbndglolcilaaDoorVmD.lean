/-
  Abstract states over the model's worlds, and that a step of them is a step of the program: part D of a framework. Conditions: each theorem's own premises. By an AI agent.
-/
import Derived.Test.YtnpbndglolcilaaDoorVmC
namespace Go.Vm
open Go Go.RowKit

theorem run_typeInfo' {P : Program} {t : TypeId} {i : TypeInfo} (h : P.info? t = some i) (w : World) : (typeInfo t).run P w = .ok i w := by
  simp [typeInfo, h]
theorem run_sizeOf' {P : Program} {t : TypeId} {s : Nat} (h : szT P t = some s) (w : World) : (sizeOf t).run P w = .ok s w := by
  unfold szT at h
  obtain ⟨i, hi, rfl⟩ := Option.map_eq_some_iff.1 h
  simp [sizeOf, run_typeInfo' hi]
theorem run_zeroValue' {P : Program} {t : TypeId} {z : Value} (h : zeroT P t = some z) (w : World) : (zeroValue t).run P w = .ok z w := by
  unfold zeroT at h
  obtain ⟨i, hi, hz⟩ := Option.bind_eq_some_iff.1 h
  simp [zeroValue, run_typeInfo' hi, hz]
theorem run_isAgg' {P : Program} {t : TypeId} {b : Bool} (h : isAggT P t = some b) (w : World) : (isAgg t).run P w = .ok b w := by
  unfold isAggT at h
  cases hu : P.underlying t with
  | none => rw [hu] at h; cases h
  | some d =>
    rw [hu] at h
    simp only [isAgg, Sem.run_bind, run_underlying hu, Result.andThen_ok]
    cases d <;> simp_all

section
variable {C : Ctx} {φ φ' : Id → Option Value} {F : Bool → Nat → Prop} {F0 F1 : Nat → Prop} {σ : St} {a : Act} {w w' : World} {P : Program}

theorem repAt_vals : ∀ (ys : List PC) (ad : Addr), repAt φ w F ad ys → ∃ vs, reps φ w F ys vs ∧ ∀ j v, vs[j]? = some v → w.cell? (ad.add j) = some v
  | [], ad, _ => ⟨[], by simp [reps], by simp⟩
  | p :: ys, ad, h => by
    simp only [repAt] at h
    obtain ⟨⟨v, hv, hr⟩, h⟩ := h
    obtain ⟨vs, hvs, hc⟩ := repAt_vals ys (ad.add 1) h
    refine ⟨v :: vs, by simp only [reps]; exact ⟨v, vs, rfl, hr, hvs⟩, fun j u hu => ?_⟩
    cases j with
    | zero => simp at hu; subst hu; exact hv
    | succ j =>
      have := hc j u (by simpa using hu)
      rwa [add_add, Nat.add_comm] at this

theorem run_takeT {t : TypeId} {ad : Addr} {ys : List PC} {p : PV} (h : repAt φ w F ad ys) (hp : takeT P t ys = some p) :
    ∃ x, (loadVar t ad).run P w = .ok x w ∧ repV φ w F p x := by
  unfold takeT at hp
  split at hp
  · rename_i hagg
    split at hp
    · rename_i s hs
      split at hp
      · cases hp
        rename_i hle
        obtain ⟨vs, hr, hc⟩ := repAt_vals _ _ (repAt_take h s)
        have hl := reps_length _ _ hr
        have hl' : vs.length = s := by rw [hl, List.length_take]; omega
        refine ⟨.agg vs.toArray, ?_, by simp only [repV]; exact ⟨_, rfl, by simpa using hr⟩⟩
        have := run_loadCells_list (P := P) w ad vs hc
        rw [hl'] at this
        simp [loadVar, run_isAgg' hagg, run_sizeOf' hs, this]
      · cases hp
    · cases hp
  · rename_i hagg
    split at hp
    · cases hp
      simp only [repAt] at h
      obtain ⟨⟨v, hv, hr⟩, _⟩ := h
      exact ⟨v, by simp [loadVar, run_isAgg' hagg, hv], by simpa [repV] using hr⟩
    · cases hp
  · cases hp

theorem holds_repAt {i : Id} {b : Blk} (h : holds φ w F i b) {u : Value} {g : Nat} (hu : φ i = some u) (hg : blkOf u = some g) : repAt φ w F ⟨g, 0, none⟩ b.cells := by
  cases b with
  | box ty cells =>
    obtain ⟨g', vs, hp, hh, hr⟩ := h
    rw [hu] at hp; cases hp
    simp [blkOf] at hg
    subst hg
    refine repAt_of_get _ _ fun j p hp => ?_
    obtain ⟨v, hv, hr'⟩ := reps_get _ _ hr j p hp
    refine ⟨v, ?_, hr'⟩
    rw [Addr.add_lit, cell_of_row w g' _ _ ty (0, 0) hh]
    simpa using hv
  | arr ty size n cells =>
    obtain ⟨v, vs, hp, hh, hr⟩ := h
    rw [hu] at hp; cases hp
    obtain ⟨hl, ⟨rfl, _⟩ | ⟨g', cap, cur, rfl, _, hc, _, _, _, ht⟩⟩ := hh
    · simp [blkOf] at hg
    · simp [blkOf] at hg
      subst hg
      refine repAt_of_get _ _ fun j p hp => ?_
      obtain ⟨v, hv, hr'⟩ := reps_get _ _ hr j p hp
      refine ⟨v, ?_, hr'⟩
      rw [Addr.add_lit, cell_of_row w g' _ _ ty (0, 0) hc]
      rw [← ht, List.getElem?_take] at hv
      split at hv
      · simpa using hv
      · cases hv

theorem behind_rep (h : RelX C φ F0 F1 σ a w) {H : Id → Option Blk} (hle : ∀ {i b}, H i = some b → σ.H i = some b) {p : PV} {x : Value} {ys : List PC} (hr : repV φ w (Fs F0 F1) p x) (hb : behind H p = some ys) :
    ∃ ad, x = .pointer (some ad) ∧ repAt φ w (Fs F0 F1) ad ys := by
  unfold behind at hb
  split at hb
  · rename_i i off
    split at hb
    · rename_i b hi
      cases hb
      simp only [repV, rep] at hr
      obtain ⟨u, g, hu, hg, rfl⟩ := hr
      refine ⟨_, rfl, ?_⟩
      have := repAt_drop (holds_repAt (h.heap i b (hle hi)) hu hg) off
      rwa [Addr.add_lit, Nat.zero_add] at this
    · cases hb
  · cases hb
    simp only [repV, rep] at hr
    obtain ⟨ad, rfl, _, h⟩ := hr
    exact ⟨ad, rfl, h⟩
  · cases hb

theorem shiftA_rep {p q : PV} {x : Value} {n : Nat} (hr : repV φ w F p x) (hs : shiftA n p = some q) : ∃ ad, x = .pointer (some ad) ∧ repV φ w F q (.pointer (some (ad.add n))) := by
  unfold shiftA at hs
  split at hs
  · cases hs
    simp only [repV, rep] at hr ⊢
    obtain ⟨u, g, hu, hg, rfl⟩ := hr
    exact ⟨_, rfl, u, g, hu, hg, by rw [Addr.add_lit]⟩
  · cases hs
    simp only [repV, rep] at hr ⊢
    obtain ⟨ad, rfl, hf, h⟩ := hr
    exact ⟨ad, rfl, ad.add n, rfl, by rw [add_block]; exact hf, repAt_drop h n⟩
  · cases hs

theorem cst_rep {v : Value} {p : PV} (h : cst v = some p) : repV φ w F p v := by
  unfold cst at h
  split at h
  · rename_i cs
    split at h
    · cases h
      rename_i hall
      simp only [repV]
      refine ⟨cs, rfl, reps_of_get _ _ (by simp) fun j q u hq hu => ?_⟩
      rw [List.getElem?_map] at hq
      rw [hu] at hq
      simp at hq
      subst hq
      simp only [rep]
      exact ⟨trivial, List.all_eq_true.1 hall u (List.mem_of_getElem? hu)⟩
    · cases h
  · cases h
  · cases h
    simp only [repV, rep]
    refine ⟨trivial, ?_⟩
    cases v <;> simp_all [Value.oneCell']

theorem ev_rep (h : RelX C φ F0 F1 σ a w) {x : Operand} {p : PV} (hx : ev σ.fr x = some p) : repV φ w (Fs F0 F1) p (a.eval x) := by
  cases x with
  | tmp t =>
    obtain ⟨v, hv, hr⟩ := h.frame t p hx
    simp only [Act.eval, Array.getD_eq_getD_getElem?, hv, Option.getD_some]
    exact hr
  | const v => exact cst_rep hx
  | func f =>
    simp only [ev] at hx
    cases hx
    simp only [repV, rep, Act.eval]
    exact ⟨#[], rfl, by simp [reps]⟩
  | global g => simp [ev] at hx

/-- Part of what is known of a state. -/
structure View (φ : Id → Option Value) (w : World) (F : Bool → Nat → Prop) (a : Act) (σ : St) (ρ : Operand → Option PV) (H : Id → Option Blk) : Prop where
  ev : ∀ {x p}, ρ x = some p → repV φ w F p (a.eval x)
  heap : ∀ {i b}, H i = some b → σ.H i = some b

theorem RelX.view (h : RelX C φ F0 F1 σ a w) : View φ w (Fs F0 F1) a σ (ev σ.fr) σ.H := ⟨fun hx => ev_rep h hx, fun e => e⟩

theorem asI_rep {p : PV} {x : Value} {k : IntKind} {n : Int} (hr : repV φ w F p x) (h : asI p = some (k, n)) : x = .int k n := by
  unfold asI at h
  split at h
  · cases h
    simp only [repV, rep] at hr
    exact hr.1
  · cases h
theorem asB_rep {p : PV} {x : Value} {b : Bool} (hr : repV φ w F p x) (h : asB p = some b) : x = .bool b := by
  unfold asB at h
  split at h
  · cases h
    simp only [repV, rep] at hr
    exact hr.1
  · cases h
theorem asS_rep {p : PV} {x : Value} {s : ByteArray} (hr : repV φ w F p x) (h : asS p = some s) : x = .string s := by
  unfold asS at h
  split at h
  · cases h
    simp only [repV, rep] at hr
    exact hr.1
  · cases h

theorem cells_rep {p : PV} {x : Value} {ps : List PC} (hr : repV φ w F p x) (h : p.cells = some ps) : reps φ w F ps x.cells.toList := by
  unfold PV.cells at h
  split at h
  · cases h
    simp only [repV] at hr
    have h1 := rep_one _ _ hr
    have : x.cells = #[x] := by cases x <;> simp_all [Value.cells, Value.oneCell']
    rw [this]
    simp only [reps]
    exact ⟨x, [], rfl, hr, rfl⟩
  · cases h
    simp only [repV] at hr
    obtain ⟨vs, rfl, hr⟩ := hr
    exact hr
  · cases h
  · cases h
end
end Go.Vm
