/-
  Abstract states over the model's worlds, and that a step of them is a step of the program: part I of a framework. Conditions: each theorem's own premises. By an AI agent.
-/
import Derived.Test.YtnpbndglolcilaaDoorVmH
namespace Go.Vm
open Go Go.RowKit
set_option linter.unusedVariables false
set_option linter.unusedSimpArgs false
section
variable {ρ : Operand → Option PV} {H : Id → Option Blk} {C : Ctx} {φ φ' : Id → Option Value} {F : Bool → Nat → Prop} {F0 F1 : Nat → Prop} {σ : St} {a : Act} {w w' : World} {P : Program} {i : Id} {p : PV} {ob : Option Blk}
variable {d : Option Tmp} {ty : TypeId} {pos : String} {af : Array Edge} {gd : Option (Nat × Bool)}

theorem vfill_congr (pl pl' : Nat → Option (Nat × Nat)) : ∀ (parts : List (Nat × PV)) (cells : List PC), (∀ k ∈ parts.map (·.1), pl k = pl' k) → vfill pl cells parts = vfill pl' cells parts
  | [], _, _ => rfl
  | (k, p) :: rest, cells, h => by
    simp only [vfill]
    rw [h k (by simp)]
    have := fun c => vfill_congr pl pl' rest c (fun q hq => h q (by simp [List.mem_map] at hq ⊢; exact .inr hq))
    split
    · split
      · exact this _
      · rfl
    · rfl

theorem fill_congr (pl pl' : Nat → Option (Nat × Nat)) : ∀ (vals : List (Nat × Value)) (cells : Array Value), (∀ k, pl k = pl' k) → Instr.fill pl cells vals = Instr.fill pl' cells vals
  | [], _, _ => rfl
  | (k, v) :: rest, cells, h => by
    simp only [Instr.fill]
    rw [h k]
    split
    · rfl
    · split
      · rfl
      · exact fill_congr pl pl' rest _ h

theorem run_mapM_places {fs : Array Field} (w : World) (h : ∀ f ∈ fs, (szT P f.type).isSome = true) :
    (fs.mapM (m := Sem) fun f => do pure (f.offset, ← sizeOf f.type)).run P w = .ok (fs.map fun f => (f.offset, (szT P f.type).getD 0)) w := by
  have key : ∀ l : List Field, (∀ f ∈ l, (szT P f.type).isSome = true) → (l.mapM (m := Sem) fun f => do pure (f.offset, ← sizeOf f.type)).run P w = .ok (l.map fun f => (f.offset, (szT P f.type).getD 0)) w := by
    intro l
    induction l with
    | nil => intro _; simp
    | cons f l ih =>
      intro hl
      obtain ⟨s, hs⟩ := Option.isSome_iff_exists.1 (hl f (by simp))
      have := ih fun g hg => hl g (by simp [hg])
      simp only [List.mapM_cons, Sem.run_bind, run_sizeOf' hs, Result.andThen_ok, Sem.run_pure, this, List.map_cons, hs, Option.getD_some]
  have h1 := key fs.toList (fun f hf => h f (by simpa using hf))
  rw [Array.mapM_eq_mapM_toList, Sem.run_map, h1, Result.andThen_ok, ← Array.toList_map]

theorem vAdd_build (h : RelX C φ F0 F1 σ a w) (V : View φ w (Fs F0 F1) a σ ρ H) {t : TypeId} {parts : Array (Nat × Operand)} (hv : vAdd C.P i ρ H (.build t parts) = some (p, ob)) :
    Runs C φ (Fs F0 F1) i a w ⟨d, .build t parts, ty, pos, af, gd⟩ p ob := by
  simp only [vAdd] at hv
  split at hv
  · rename_i cs pl ps hzc hpl hps
    obtain ⟨cs', hf, he⟩ := Option.map_eq_some_iff.1 hv
    cases he
    obtain ⟨z, hz, hcs, hr⟩ := zero_rep (φ := φ) (w := w) (F := Fs F0 F1) hzc
    obtain ⟨h1, h2⟩ := partsOf_rep h V _ _ hps
    obtain ⟨us, hu, hr'⟩ := vfill_rep pl _ _ _ _ _ h1 h2 hr hf
    unfold placesT at hpl
    split at hpl
    · rename_i fs hund
      split at hpl
      case isFalse => cases hpl
      rename_i hall0
      have hall : ∀ f ∈ fs, (szT C.P f.type).isSome = true := fun f hf => List.all_eq_true.1 hall0 f (by simpa using hf)
      cases hpl
      refine ⟨.agg us, w, ?_, none_out (by simp only [repV]; exact ⟨us, rfl, hr'⟩)⟩
      have hpl2 : ∀ k : Nat, ((fs.map fun (f : Field) => (f.offset, (szT C.P f.type).getD 0))[k]? : Option (Nat × Nat)) = placeOf C.P fs k := by
        intro k
        unfold placeOf
        rw [Array.getElem?_map]
        cases hk : fs[k]? with
        | none => rfl
        | some f =>
          obtain ⟨s, hs⟩ := Option.isSome_iff_exists.1 (hall f (Array.mem_of_getElem? hk))
          simp [hs]
      rw [← fill_congr _ _ _ _ hpl2] at hu
      have hm : (parts.map fun x => (x.1, a.eval x.2)).toList = parts.toList.map fun x => (x.1, a.eval x.2) := by simp
      simp only [execOp, Instr.build, Sem.run_bind, run_zeroValue' hz, Result.andThen_ok, run_underlying hund, run_mapM_places w hall]
      rw [hm, hu]
      rfl
    · cases hpl
  · cases hv

theorem zeros_rep {cs : List PC} {z : Array Value} {s m : Nat} (hr : reps φ w F cs z.toList) (hs : cs.length = s) (hs0 : 0 < s) :
    reps φ w F ((List.range m).map fun q => cs.getD (q % s) (.c undef)) ((Array.range m).map (z[· % z.size]!)).toList := by
  have hl := reps_length _ _ hr
  have hz : z.size = s := by rw [← hs, ← hl, Array.length_toList]
  refine reps_of_get _ _ (by simp) fun j q v hq hv => ?_
  simp only [Array.toList_map, Array.toList_range, List.getElem?_map] at hq hv
  cases hj : (List.range m)[j]? with
  | none => rw [hj] at hq; simp at hq
  | some k =>
    rw [hj] at hq hv
    simp only [Option.map_some, Option.some.injEq] at hq hv
    subst hq hv
    have hk : k % s < s := Nat.mod_lt _ hs0
    have h1 : cs[k % s]? = some (cs[k % s]'(by omega)) := List.getElem?_eq_getElem (by omega)
    obtain ⟨u, hu, hr'⟩ := reps_get _ _ hr _ _ h1
    rw [List.getD_eq_getElem?_getD, h1]
    simp only [Option.getD_some]
    rw [hz]
    have h2 : z[k % s]? = some u := by simpa using hu
    have h3 : z[k % s]! = u := by
      rw [getElem!_def, h2]
    rw [h3]
    exact hr'

theorem vAdd_buildSlice (h : RelX C φ F0 F1 σ a w) (V : View φ w (Fs F0 F1) a σ ρ H) (hn : φ i = none) {t : TypeId} {len : Nat} {parts : Array (Nat × Operand)} (hv : vAdd C.P i ρ H (.buildSlice t len parts) = some (p, ob)) :
    Runs C φ (Fs F0 F1) i a w ⟨d, .buildSlice t len parts, ty, pos, af, gd⟩ p ob := by
  simp only [vAdd] at hv
  split at hv
  · rename_i e he
    split at hv
    · rename_i s cs ps hs hz hps
      split at hv
      · rename_i hb
        rw [rowZ_eq _ _ (by omega), hb.2.2.2] at hv
        obtain ⟨cs', hf, he'⟩ := Option.map_eq_some_iff.1 hv
        cases he'
        obtain ⟨z, hz, hce, hr⟩ := zero_rep (φ := φ) (w := w) (F := Fs F0 F1) hz
        obtain ⟨h1, h2⟩ := partsOf_rep h V _ _ hps
        have hzr := zeros_rep (m := len * s) hr hb.2.2.2 hb.2.2.1
        obtain ⟨us, hu, hr'⟩ := vfill_rep _ _ _ _ _ _ h1 h2 hzr hf
        have hlen : us.size = len * s := by
          have hl := reps_length _ _ hr'
          rw [Array.length_toList] at hl
          rw [hl]
          have : ∀ (ps : List (Nat × PV)) (cells cells' : List PC) (pl : Nat → Option (Nat × Nat)), vfill pl cells ps = some cells' → cells'.length = cells.length := by
            intro ps
            induction ps with
            | nil => intro cells cells' pl hf; simp only [vfill] at hf; cases hf; rfl
            | cons q ps ih =>
              intro cells cells' pl hf
              obtain ⟨k, q⟩ := q
              simp only [vfill] at hf
              split at hf
              · split at hf
                · rename_i hc
                  rw [ih _ _ _ hf, splice_length _ _ _ hc.2]
                · cases hf
              · cases hf
          rw [this _ _ _ _ hf]
          simp
        refine ⟨_, _, ?_, row_out h hn hr' hlen (by unfold maxLen; have := Nat.le_mul_of_pos_right len hb.2.2.1; omega)⟩
        have hm : (parts.map fun x => (x.1, a.eval x.2)).toList = parts.toList.map fun x => (x.1, a.eval x.2) := by simp
        have hne : ¬ len * s = 0 := by
          have := Nat.mul_pos hb.2.1 hb.2.2.1
          omega
        simp only [execOp, Instr.buildSlice, Sem.run_bind, run_underlying (elemT_spec he), Result.andThen_ok, run_sizeOf' hs]
        rw [if_neg (by omega)]
        simp only [if_neg hne, Sem.run_bind, run_zeroValue' hz, Result.andThen_ok, Sem.run_pure]
        rw [hm, hu]
        simp [newRow]
      · cases hv
    · cases hv
  · cases hv

theorem vAdd_makeSlice (h : RelX C φ F0 F1 σ a w) (V : View φ w (Fs F0 F1) a σ ρ H) (hn : φ i = none) {t : TypeId} {n m : Operand} (hv : vAdd C.P i ρ H (.makeSlice t n m) = some (p, ob)) :
    Runs C φ (Fs F0 F1) i a w ⟨d, .makeSlice t n m, ty, pos, af, gd⟩ p ob := by
  simp only [vAdd] at hv
  split at hv
  · rename_i e k1 n' k2 m' he hnn hmm
    split at hv
    · rename_i s b cs hs hby hz
      split at hv
      · rename_i hb
        obtain ⟨h0, rfl, hby1, hn1, hs0, hcl⟩ := hb
        rw [rowZ_eq _ _ (by omega), hcl] at hv
        cases hv
        obtain ⟨z, hz, hce, hr⟩ := zero_rep (φ := φ) (w := w) (F := Fs F0 F1) hz
        obtain ⟨qn, hqn, hnn⟩ := Option.bind_eq_some_iff.1 hnn
        obtain ⟨qm, hqm, hmm⟩ := Option.bind_eq_some_iff.1 hmm
        have hzr := zeros_rep (m := n'.toNat * s) hr hcl hs0
        refine ⟨_, _, ?_, row_out h hn hzr (by simp) (by unfold maxLen; omega)⟩
        obtain ⟨inf, hi, rfl⟩ := Option.map_eq_some_iff.1 (show (C.P.info? e).map (·.bytes) = some b from hby)
        have hw : IntKind.i64.wrap n' = n' := by rw [IntKind.wrap_i64]; omega
        have hc1 : ¬ (n' < 0) := by omega
        have hc2 : ¬ ((inf.bytes : Int) * n' > 2 ^ 48) := by omega
        simp only [execOp, asI_rep (V.ev hqn) hnn, asI_rep (V.ev hqm) hmm, Instr.makeSlice, Sem.run_bind, run_underlying (elemT_spec he), Result.andThen_ok, asInt, asIntOf, Sem.run_pure, run_typeInfo' hi, hw]
        simp only [hc1, hc2, decide_false, Bool.or_self, Bool.false_eq_true, if_false, Int.lt_irrefl, run_askRoom, Sem.run_bind, Result.andThen_ok, run_sizeOf' hs]
        by_cases hz0 : n'.toNat * s = 0
        · simp [hz0, newRow, Array.range_zero']
        · simp [hz0, run_zeroValue' hz, newRow]
      · cases hv
    · cases hv
  · cases hv
end
end Go.Vm
