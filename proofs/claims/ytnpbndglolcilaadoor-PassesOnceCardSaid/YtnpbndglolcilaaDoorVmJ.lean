/-
  Abstract states over the model's worlds, and that a step of them is a step of the program: part J of a framework. Conditions: each theorem's own premises. By an AI agent.
-/
import Derived.Test.YtnpbndglolcilaaDoorVmI
namespace Go.Vm
open Go Go.RowKit
set_option linter.unusedVariables false
set_option linter.unusedSimpArgs false
section
variable {ρ : Operand → Option PV} {H : Id → Option Blk} {C : Ctx} {φ φ' : Id → Option Value} {F : Bool → Nat → Prop} {F0 F1 : Nat → Prop} {σ : St} {a : Act} {w w' : World} {P : Program} {i : Id} {p : PV} {ob : Option Blk}
variable {d : Option Tmp} {ty : TypeId} {pos : String} {af : Array Edge} {gd : Option (Nat × Bool)}

theorem vlen_run (h : RelX C φ F0 F1 σ a w) (V : View φ w (Fs F0 F1) a σ ρ H) {t ty' : TypeId} {q : PV} {x : Value} {n : Nat} (hr : repV φ w (Fs F0 F1) q x) (ho : lenOk C.P t q = true) (hl : vlen H q = some n) :
    (Builtin.len_ #[t] ty' #[x]).run C.P w = .ok (.int .i64 n) w := by
  unfold vlen at hl
  split at hl
  · cases hl
    simp only [lenOk] at ho
    split at ho
    · rename_i e hu
      simp only [repV, rep] at hr
      obtain ⟨A, cap, rfl, _⟩ := hr
      simp [Builtin.len_, run_underlying hu, goInt]
    · cases ho
  · split at hl
    · cases hl
      rename_i e s cs hH
      simp only [lenOk] at ho
      split at ho
      · rename_i e' hu
        simp only [repV, rep] at hr
        obtain ⟨hφ, _⟩ := hr
        obtain ⟨v, vs, hv, ⟨_, ho⟩, _⟩ := h.heap _ _ (V.heap hH)
        rw [hφ] at hv
        cases hv
        rcases ho with ⟨rfl, rfl⟩ | ⟨g, cap, cur, rfl, _⟩
        · simp [Builtin.len_, run_underlying hu, goInt]
        · simp [Builtin.len_, run_underlying hu, goInt]
      · cases ho
    · cases hl
  · cases hl
    simp only [lenOk] at ho
    split at ho
    · rename_i e hu
      simp only [repV, rep] at hr
      obtain ⟨rfl, _⟩ := hr
      simp [Builtin.len_, run_underlying hu, goInt]
    · cases ho
  · cases hl
    simp only [lenOk] at ho
    split at ho
    · rename_i hu
      simp only [repV, rep] at hr
      obtain ⟨rfl, _⟩ := hr
      simp [Builtin.len_, run_underlying hu, goInt]
    · cases ho
  · cases hl

theorem list1 {α : Type} {x : Array α} {y : α} (h : x.toList = [y]) : x = #[y] := by cases x; simp_all
theorem list2 {α : Type} {x : Array α} {y z : α} (h : x.toList = [y, z]) : x = #[y, z] := by cases x; simp_all

theorem vAdd_call (h : RelX C φ F0 F1 σ a w) (V : View φ w (Fs F0 F1) a σ ρ H) {c : Call} (hv : vAdd C.P i ρ H (.call c) = some (p, ob)) :
    Runs C φ (Fs F0 F1) i a w ⟨d, .call c, ty, pos, af, gd⟩ p ob := by
  obtain ⟨cal, ar, at_⟩ := c
  simp only [vAdd] at hv
  split at hv
  · split at hv
    · rename_i x t hx ht
      split at hv
      · rename_i q hq
        split at hv
        · rename_i ho
          obtain ⟨n, hn, he⟩ := Option.map_eq_some_iff.1 hv
          cases he
          obtain rfl := list1 hx
          obtain rfl := list1 ht
          refine ⟨.int .i64 n, w, ?_, none_out (by simp only [repV, rep]; exact ⟨trivial, rfl⟩)⟩
          have := vlen_run (ty' := ty) h V (V.ev hq) ho hn
          simp [execOp, resolve, invoke, builtin, this]
        · cases hv
      · cases hv
    · cases hv
  · split at hv
    · rename_i x y hx
      split at hv
      · rename_i k p1 k2 q hp hq
        cases hv
        obtain rfl := list2 hx
        obtain ⟨r1, hr1, hp⟩ := Option.bind_eq_some_iff.1 hp
        obtain ⟨r2, hr2, hq⟩ := Option.bind_eq_some_iff.1 hq
        refine ⟨.int k (if q < p1 then q else p1), w, ?_, none_out (by simp only [repV, rep]; exact ⟨trivial, rfl⟩)⟩
        simp [execOp, resolve, invoke, builtin, Builtin.min_, asI_rep (V.ev hr1) hp, asI_rep (V.ev hr2) hq, Builtin.min2]
      · cases hv
    · cases hv
  · split at hv
    · rename_i x y hx
      split at hv
      · rename_i k p1 k2 q hp hq
        cases hv
        obtain rfl := list2 hx
        obtain ⟨r1, hr1, hp⟩ := Option.bind_eq_some_iff.1 hp
        obtain ⟨r2, hr2, hq⟩ := Option.bind_eq_some_iff.1 hq
        refine ⟨.int k (if q > p1 then q else p1), w, ?_, none_out (by simp only [repV, rep]; exact ⟨trivial, rfl⟩)⟩
        simp [execOp, resolve, invoke, builtin, Builtin.max_, asI_rep (V.ev hr1) hp, asI_rep (V.ev hr2) hq, Builtin.max2]
      · cases hv
    · cases hv
  · cases hv

theorem onesOf_rep : ∀ (ps : List (Nat × PV)) (cs : List PC) (vals : List Value), onesOf ps = some cs → ps.length = vals.length →
    (∀ (j : Nat) (p : Nat × PV) (v : Value), ps[j]? = some p → vals[j]? = some v → repV φ w F p.2 v) → reps φ w F cs vals
  | [], cs, vals, h, hl, _ => by
    simp only [onesOf] at h
    cases h
    simp only [reps]
    exact List.length_eq_zero_iff.1 hl.symm
  | (k, .one q) :: ps, cs, vals, h, hl, hr => by
    simp only [onesOf] at h
    cases vals with
    | nil => simp at hl
    | cons v vals =>
      split at h
      · rename_i cs' hcs
        cases h
        simp only [reps]
        have h0 := hr 0 (k, .one q) v rfl rfl
        exact ⟨v, vals, rfl, by simpa only [repV] using h0, onesOf_rep ps _ vals hcs (by simpa using hl) fun j p v hp hv => hr (j + 1) p v (by simpa using hp) (by simpa using hv)⟩
      · cases h
  | (k, .agg _) :: ps, cs, vals, h, hl, hr => by simp [onesOf] at h
  | (k, .tup _) :: ps, cs, vals, h, hl, hr => by simp [onesOf] at h
  | (k, .may _ _) :: ps, cs, vals, h, hl, hr => by simp [onesOf] at h

theorem vAdd_makeFunc (h : RelX C φ F0 F1 σ a w) (V : View φ w (Fs F0 F1) a σ ρ H) {fn : Fn} {first caps : Array Operand} (hv : vAdd C.P i ρ H (.makeFunc fn first caps) = some (p, ob)) :
    Runs C φ (Fs F0 F1) i a w ⟨d, .makeFunc fn first caps, ty, pos, af, gd⟩ p ob := by
  cases fn with
  | func f =>
    simp only [vAdd] at hv
    split at hv
    · rename_i hf
      split at hv
      · rename_i ps hps
        split at hv
        · rename_i cs hcs
          cases hv
          obtain ⟨h1, h2⟩ := partsOf_rep h V _ _ hps
          have hl : ps.length = (caps.toList.map a.eval).length := by
            have := congrArg List.length h1
            simpa using this
          have hr := onesOf_rep (φ := φ) (w := w) (F := Fs F0 F1) ps cs (caps.toList.map a.eval) hcs hl fun j p v hp hv => h2 j p (0, v) hp (by
            simp only [List.map_map, List.getElem?_map] at hv ⊢
            cases hc : caps.toList[j]? with
            | none => rw [hc] at hv; simp at hv
            | some u => rw [hc] at hv; simp at hv ⊢; exact hv)
          have hfe : first = #[] := Array.eq_empty_of_size_eq_zero hf
          refine ⟨.func (.func f) #[] (caps.map a.eval), w, ?_, none_out (by simp only [repV, rep]; exact ⟨_, rfl, by simpa using hr⟩)⟩
          simp [execOp, Instr.makeFunc, hfe]
        · cases hv
      · cases hv
    · cases hv
  | _ => simp [vAdd] at hv

/-- WHAT vAdd SAYS IS WHAT THE OPERATION DOES. -/
theorem vAdd_sound (h : RelX C φ F0 F1 σ a w) (V : View φ w (Fs F0 F1) a σ ρ H) (hn : ob ≠ none → φ i = none) (o : Oper) (hv : vAdd C.P i ρ H o.op = some (p, ob)) : Runs C φ (Fs F0 F1) i a w o p ob := by
  obtain ⟨d, op, ty, pos, af, gd⟩ := o
  cases op
  case move x =>
    simp only [vAdd] at hv
    obtain ⟨q, hq, he⟩ := Option.map_eq_some_iff.1 hv
    cases he
    exact ⟨_, w, by simp [execOp], none_out (V.ev hq)⟩
  case assign x =>
    simp only [vAdd] at hv
    obtain ⟨q, hq, he⟩ := Option.map_eq_some_iff.1 hv
    cases he
    exact ⟨_, w, by simp [execOp], none_out (V.ev hq)⟩
  case pick => exact vAdd_pick h V hv
  case alloc => exact vAdd_alloc h V (hn (by rintro rfl; simp [vAdd] at hv)) hv
  case box => exact vAdd_box h V (hn (by rintro rfl; simp only [vAdd] at hv; obtain ⟨cs, hc, he⟩ := Option.map_eq_some_iff.1 hv; cases he)) hv
  case load => exact vAdd_load h V hv
  case nilCheck => exact vAdd_nilCheck h V hv
  case binOp => exact vAdd_binOp h V hv
  case unOp => exact vAdd_unOp h V hv
  case convert => exact vAdd_convert h V hv
  case extract => exact vAdd_extract h V hv
  case fieldAddr => exact vAdd_fieldAddr h V hv
  case field => exact vAdd_field h V hv
  case indexAddr => exact vAdd_indexAddr h V hv
  case index => exact vAdd_index h V hv
  case slice => exact vAdd_slice h V hv
  case build => exact vAdd_build h V hv
  case buildSlice => exact vAdd_buildSlice h V (hn (by rintro rfl; simp only [vAdd] at hv; (repeat' split at hv) <;> simp at hv)) hv
  case makeSlice => exact vAdd_makeSlice h V (hn (by rintro rfl; simp only [vAdd] at hv; (repeat' split at hv) <;> simp at hv)) hv
  case call => exact vAdd_call h V hv
  case makeFunc => exact vAdd_makeFunc h V hv
  all_goals simp [vAdd] at hv
end
end Go.Vm
