/-
  Abstract states over the model's worlds, and that a step of them is a step of the program: part VmAE of a framework. Conditions: each theorem's own premises. By an AI agent.
-/
import Derived.Test.YtahbpfahgggjhaaGreatDoorVmAD
import Derived.Laws.BytesString
import Derived.WideLaws
section
namespace Go.Vm
open Go Go.RowKit
set_option linter.unusedVariables false
set_option linter.unusedSimpArgs false

/-! ### More operations: arrays, views of rows, empty slices without room, method values -/
def lowOf (ρ : Operand → Option PV) : Option Operand → Option Int
  | none => some 0
  | some l => ((ρ l).bind asI).map (·.2)
def highOf (ρ : Operand → Option PV) (n : Nat) : Option Operand → Option Int
  | none => some n
  | some h => ((ρ h).bind asI).map (·.2)

def arrT (P : Program) (t : TypeId) : Option (Nat × TypeId) :=
  match P.underlying t with
  | some (.array n e) => some (n, e)
  | _ => none

/-- How far a slice reaches, and how its part is told from cell off on. -/
def spanOf (H : Id → Option Blk) (e z : Nat) : PV → Option (Nat × (Nat → Nat → PV))
  | .one (.sl b n xs) => some (n, fun l k => .one (.sl b k ((xs.drop (l * z)).take (k * z))))
  | .one (.vw i off n) => some (n, fun l k => .one (.vw i (off + l * z) k))
  | .one (.own i) =>
    match H i with
    | some (.arr _ _ n _) => some (n, fun l k => .one (.vw i (l * z) k))
    | _ => none
  | .one .emp => some (0, fun _ _ => .one .emp)
  | .one (.c (.slice none 0 0)) => some (0, fun _ _ => .one (.c (.slice none 0 0)))
  | _ => none
def vspan (P : Program) (ρ : Operand → Option PV) (H : Id → Option Blk) (t : TypeId) (x : Operand) (lo hi mx : Option Operand) : Option PV :=
  match elemT P t, ρ x with
  | some e, some p =>
    match szT P e with
    | some z =>
      match spanOf H e z p with
      | some (n, g) =>
        match lowOf ρ lo, highOf ρ n hi with
        | some l, some h =>
          match mx with
          | none => if 0 ≤ l ∧ l ≤ h ∧ h ≤ n then some (g l.toNat (h - l).toNat) else none
          | some _ =>
            match highOf ρ 0 mx, hi with
            | some m, some _ =>
              if 0 ≤ l ∧ l ≤ h ∧ h ≤ m ∧ m ≤ n then
                if l = m then (match p with | .one (.c (.slice none 0 0)) => some p | _ => some (.one .emp)) else some (g l.toNat (h - l).toNat)
              else none
            | _, _ => none
        | _, _ => none
      | none => none
    | none => none
  | _, _ => none

def vMore (P : Program) (ρ : Operand → Option PV) (H : Id → Option Blk) : Op → Option PV
  | .index t x j =>
    match arrT P t, ρ x, (ρ j).bind asI with
    | some (n, e), some (.agg ps), some (_, k) =>
      match szT P e with
      | some s => if 0 ≤ k ∧ k < n then takeT P e (ps.drop (k.toNat * s)) else none
      | none => none
    | _, _, _ => none
  | .indexAddr t x j =>
    match ρ x, (ρ j).bind asI with
    | some p, some (_, k) =>
      match arrT P t with
      | some (n, e) =>
        match szT P e with
        | some s => if 0 ≤ k ∧ k < n then shiftA (k.toNat * s) p else none
        | none => none
      | none =>
        match elemT P t, p with
        | some e, .one (.vw i off n) =>
          match szT P e with
          | some s => if 0 ≤ k ∧ k < n then some (.one (.loc i (off + k.toNat * s))) else none
          | none => none
        | _, _ => none
    | _, _ => none
  | .slice t x lo hi mx => vspan P ρ H t x lo hi mx
  | .lookup t m k ok => (vlookK P H t (ρ m) (ρ k)).map fun x => if ok = true then .tup [.one x.1, .one (.c (.bool x.2))] else .one x.1
  | .call c =>
    match c.callee, c.args.toList, c.argTypes.toList with
    | .builtin .len, [x], [t] =>
      match ρ x, elemT P t with
      | some (.one .emp), some _ => some (.one (.c (.int .i64 0)))
      | some (.one (.vw _ _ n)), some _ => some (.one (.c (.int .i64 n)))
      | _, _ => none
    | .builtin .cap, [x], [t] =>
      match ρ x, elemT P t with
      | some (.one .emp), some _ => some (.one (.c (.int .i64 0)))
      | some (.one (.c (.slice none 0 0))), some _ => some (.one (.c (.int .i64 0)))
      | _, _ => none
    | _, _, _ => none
  | .makeFunc (.func f) first caps =>
    if caps.size = 0 then
      match partsOf ρ (first.toList.map (0, ·)) with
      | some ps =>
        match onesOf ps with
        | some cs => some (.one (.mth f cs))
        | none => none
      | none => none
    else none
  | _ => none

def vAll (P : Program) (i : Id) (ρ : Operand → Option PV) (H : Id → Option Blk) (op : Op) : Option (PV × Option Blk) :=
  match vAdd P i ρ H op with
  | some x => some x
  | none => (vMore P ρ H op).map (·, none)

/-- append to an empty slice without room: nothing is appended, or there is a new row. -/
def appE (P : Program) (ρ : Operand → Option PV) (H : Id → Option Blk) (c : Call) : Option (Option Blk) :=
  match c.args.toList, c.argTypes.toList with
  | [s, x], [t, t'] =>
    match ρ s with
    | some (.one .emp) =>
      if t = t' then
        match elemT P t with
        | some e =>
          match szT P e, bytesT P e, zeroCellsT P e with
          | some z, some by_, some zc =>
            if zc.length = z then
              match (ρ x).bind (newsOf H z) with
              | some (0, _) => some none
              | some (m, ys) => if m * by_ ≤ 140737488355328 ∧ m ≤ 140737488355328 then some (some (.arr e z m ys)) else none
              | none => none
            else none
          | _, _, _ => none
        | none => none
      else none
    | _ => none
  | _, _ => none

section
variable {ρ : Operand → Option PV} {H : Id → Option Blk} {C : Ctx} {φ φ' : Id → Option Value} {F : Bool → Nat → Prop} {F0 F1 : Nat → Prop} {σ : St} {a : Act} {w w' : World} {P : Program} {i : Id} {p : PV} {ob : Option Blk}
variable {d : Option Tmp} {ty : TypeId} {pos : String} {af : Array Edge} {gd : Option (Nat × Bool)}

theorem arrT_spec {t : TypeId} {n : Nat} {e : TypeId} (h : arrT P t = some (n, e)) : P.underlying t = some (.array n e) := by
  unfold arrT at h
  split at h
  · cases h; assumption
  · cases h

theorem part_takeT {t : TypeId} {vs : Array Value} {ps : List PC} {off : Nat} {p : PV} (hr : reps φ w F ps vs.toList) (hp : takeT P t (ps.drop off) = some p) :
    ∃ v, (part t vs off).run P w = .ok v w ∧ repV φ w F p v := by
  unfold takeT at hp
  split at hp
  · rename_i hagg
    split at hp
    · rename_i sz hs
      split at hp
      · cases hp
        refine ⟨.agg (vs.extract off (off + sz)), by simp [part, run_isAgg' hagg, run_sizeOf' hs], ?_⟩
        simp only [repV]
        refine ⟨_, rfl, ?_⟩
        have := reps_take (reps_drop hr off) sz
        simpa [Array.toList_extract, List.extract_eq_take_drop] using this
      · cases hp
    · cases hp
  · rename_i hagg
    split at hp
    · rename_i q qs hd
      cases hp
      have hq0 : ps[off]? = some q := by
        have : (ps.drop off)[0]? = some q := by rw [hd]; rfl
        simpa using this
      obtain ⟨v, hv, hrv⟩ := reps_get _ _ hr _ _ hq0
      have hv' : vs[off]? = some v := by simpa using hv
      exact ⟨v, by simp [part, run_isAgg' hagg, hv'], by simpa [repV] using hrv⟩
    · cases hp
  · cases hp

theorem lowOf_eval (V : View φ w (Fs F0 F1) a σ ρ H) {lo : Option Operand} {l : Int} (hl : lowOf ρ lo = some l) : (lo = none ∧ l = 0) ∨ ∃ l' k, lo = some l' ∧ a.eval l' = .int k l := by
  cases lo with
  | none => simp only [lowOf, Option.some.injEq] at hl; exact .inl ⟨rfl, hl.symm⟩
  | some l' =>
    simp only [lowOf] at hl
    obtain ⟨⟨k, l2⟩, hk, rfl⟩ := Option.map_eq_some_iff.1 hl
    obtain ⟨q, hq, hk⟩ := Option.bind_eq_some_iff.1 hk
    exact .inr ⟨l', k, rfl, asI_rep (V.ev hq) hk⟩
theorem highOf_eval (V : View φ w (Fs F0 F1) a σ ρ H) {n : Nat} {hi : Option Operand} {h : Int} (hh : highOf ρ n hi = some h) : (hi = none ∧ h = n) ∨ ∃ h' k, hi = some h' ∧ a.eval h' = .int k h := by
  cases hi with
  | none => simp only [highOf, Option.some.injEq] at hh; exact .inl ⟨rfl, hh.symm⟩
  | some l' =>
    simp only [highOf] at hh
    obtain ⟨⟨k, l2⟩, hk, rfl⟩ := Option.map_eq_some_iff.1 hh
    obtain ⟨q, hq, hk⟩ := Option.bind_eq_some_iff.1 hk
    exact .inr ⟨l', k, rfl, asI_rep (V.ev hq) hk⟩

/-- A part of a slice: how it is told. -/
theorem spanOf_rep (h : RelX C φ F0 F1 σ a w) (V : View φ w (Fs F0 F1) a σ ρ H) {e z n : Nat} {g : Nat → Nat → PV} {x : Value} (hr : repV φ w (Fs F0 F1) p x) (hs : spanOf H e z p = some (n, g)) :
    ∃ A cap, x = .slice A n cap ∧ n ≤ cap ∧ (p = .one (.c (.slice none 0 0)) → A = none) ∧ ∀ l k M, l + k ≤ n → l + k ≤ M → M ≤ cap → repV φ w (Fs F0 F1) (g l k) (.slice (if M = l then A else A.map (·.add (l * z))) k (M - l)) := by
  unfold spanOf at hs
  split at hs
  · rename_i b n' xs
    cases hs
    simp only [repV, rep] at hr
    obtain ⟨A, cap, hx, hc, hrow⟩ := hr
    refine ⟨A, cap, hx, hc, by simp, fun l k M h1 h2 h3 => ?_⟩
    simp only [repV, rep]
    refine ⟨_, _, rfl, by omega, ?_⟩
    rcases hrow with ⟨hn0, hxs⟩ | ⟨ad, rfl, hF, hat⟩
    · subst hxs
      exact .inl ⟨by omega, by simp⟩
    · by_cases hk : k = 0
      · subst hk
        exact .inl ⟨rfl, by simp⟩
      · right
        rw [if_neg (by omega)]
        exact ⟨ad.add (l * z), rfl, by rw [add_block]; exact hF, repAt_take (repAt_drop hat _) _⟩
  · rename_i j off n'
    cases hs
    simp only [repV, rep] at hr
    obtain ⟨u, A, cap, hu, hx, hc, hA⟩ := hr
    refine ⟨A, cap, hx, hc, by simp, fun l k M h1 h2 h3 => ?_⟩
    simp only [repV, rep]
    refine ⟨u, _, _, hu, rfl, by omega, ?_⟩
    by_cases hk : k = 0
    · exact .inl hk
    · obtain ⟨g, hg, rfl⟩ := hA.resolve_left (by omega)
      right
      rw [if_neg (by omega)]
      exact ⟨g, hg, by rw [Option.map_some, Addr.add_lit]⟩
  · rename_i j
    split at hs
    · rename_i e' z' n' cs hH
      cases hs
      simp only [repV, rep] at hr
      obtain ⟨hφ, _⟩ := hr
      obtain ⟨v, vs, hv, ⟨_, ho⟩, _⟩ := h.heap _ _ (V.heap hH)
      rw [hφ] at hv
      cases hv
      rcases ho with ⟨rfl, rfl⟩ | ⟨g, cap, cur, rfl, _, _, hc, _⟩
      · refine ⟨none, 0, rfl, Nat.le_refl _, by simp, fun l k M h1 h2 h3 => ?_⟩
        simp only [repV, rep]
        exact ⟨_, _, _, hφ, rfl, by omega, .inl (by omega)⟩
      · refine ⟨_, cap, rfl, hc, by simp, fun l k M h1 h2 h3 => ?_⟩
        simp only [repV, rep]
        refine ⟨_, _, _, hφ, rfl, by omega, ?_⟩
        by_cases hk : k = 0
        · exact .inl hk
        · right
          rw [if_neg (by omega)]
          exact ⟨g, rfl, by rw [Option.map_some, Addr.add_lit, Nat.zero_add]⟩
    · cases hs
  · cases hs
    simp only [repV, rep] at hr
    obtain ⟨A, rfl⟩ := hr
    refine ⟨A, 0, rfl, Nat.le_refl _, by simp, fun l k M h1 h2 h3 => ?_⟩
    simp only [repV, rep]
    exact ⟨A, by rw [if_pos (by omega)]; congr 1 <;> omega⟩
  · cases hs
    simp only [repV, rep] at hr
    obtain ⟨rfl, _⟩ := hr
    refine ⟨none, 0, rfl, Nat.le_refl _, fun _ => rfl, fun l k M h1 h2 h3 => ?_⟩
    simp only [repV, rep]
    refine ⟨?_, rfl⟩
    rw [if_pos (by omega)]; congr 1 <;> omega
  · cases hs

theorem vspan_run (h : RelX C φ F0 F1 σ a w) (V : View φ w (Fs F0 F1) a σ ρ H) {t : TypeId} {x : Operand} {lo hi mx : Option Operand} (hv : vspan C.P ρ H t x lo hi mx = some p) :
    ∃ y, (execOp a.eval ⟨d, .slice t x lo hi mx, ty, pos, af, gd⟩).run C.P w = .ok (.value y) w ∧ repV φ w (Fs F0 F1) p y := by
  unfold vspan at hv
  split at hv
  · rename_i e q he hx
    split at hv
    · rename_i z hz
      split at hv
      · rename_i n g hs
        split at hv
        · rename_i l hh hl hh'
          obtain ⟨A, cap, hxe, hncap, hnil, hrep⟩ := spanOf_rep h V (V.ev hx) hs
          split at hv
          · split at hv
            · cases hv
              rename_i hc
              obtain ⟨h0, h1, h2⟩ := hc
              refine ⟨.slice (if cap = l.toNat then A else A.map (·.add (l.toNat * z))) (hh - l).toNat (cap - l.toNat), ?_, hrep l.toNat (hh - l).toNat cap (by omega) (by omega) (Nat.le_refl _)⟩
              have e3 : hh.toNat - l.toNat = (hh - l).toNat := by omega
              simp only [execOp, Option.map_none, hxe, Instr.sliceAt, Sem.run_bind, run_underlying (elemT_spec he), Result.andThen_ok, Instr.slice, Instr.sliceBounds, Instr.sliceBound, asIntOf, Sem.run_pure]
              have hcap : hh ≤ (cap : Int) := by omega
              have hh0 : 0 ≤ hh := by omega
              have hmax : l ≤ max hh 0 := by omega
              rcases lowOf_eval V hl with ⟨rfl, rfl⟩ | ⟨l', k1, rfl, hk1⟩ <;> rcases highOf_eval V hh' with ⟨rfl, rfl⟩ | ⟨h', k2, rfl, hk2⟩
              · simp [run_sizeOf' hz]
              · simp [hk2, run_sizeOf' hz, h1, hcap]
              · simp [hk1, run_sizeOf' hz, h0, h1]
                omega
              · simp [hk1, hk2, run_sizeOf' hz, h0, hh0, hmax, hcap, e3]
            · cases hv
          · rename_i m0
            split at hv
            · rename_i m hi0 hm
              split at hv
              · rename_i hc
                obtain ⟨h0, h1, h2, h3⟩ := hc
                have hmv : ∃ k3, a.eval m0 = .int k3 m := by
                  rcases highOf_eval V hm with ⟨hn, _⟩ | ⟨m', k3, hm', hk3⟩
                  · cases hn
                  · cases hm'; exact ⟨k3, hk3⟩
                obtain ⟨k3, hk3⟩ := hmv
                have hhv : ∃ k2, a.eval hi0 = .int k2 hh := by
                  rcases highOf_eval V hh' with ⟨hn, _⟩ | ⟨m', k2, hm', hk2⟩
                  · cases hn
                  · cases hm'; exact ⟨k2, hk2⟩
                obtain ⟨k2, hk2⟩ := hhv
                have e3 : hh.toNat - l.toNat = (hh - l).toNat := by omega
                have hm0 : 0 ≤ m := by omega
                have hh0 : 0 ≤ hh := by omega
                have hmc : m ≤ (cap : Int) := by omega
                have hmax : l ≤ max hh 0 := by omega
                have hmax2 : hh ≤ max m 0 := by omega
                have hrun : (execOp a.eval ⟨d, .slice t x lo (some hi0) (some m0), ty, pos, af, gd⟩).run C.P w = .ok (.value (.slice (if m.toNat = l.toNat then A else A.map (·.add (l.toNat * z))) (hh - l).toNat (m.toNat - l.toNat))) w := by
                  simp only [execOp, Option.map_some, hxe, Instr.sliceAt, Sem.run_bind, run_underlying (elemT_spec he), Result.andThen_ok, Instr.slice, Instr.sliceBounds, Instr.sliceBound, asIntOf, Sem.run_pure, hk2, hk3]
                  rcases lowOf_eval V hl with ⟨rfl, rfl⟩ | ⟨l', k1, rfl, hk1⟩
                  · simp [run_sizeOf' hz, hm0, hmc, hh0, hmax2]
                  · simp [hk1, run_sizeOf' hz, h0, hm0, hmc, hh0, hmax2, hmax, e3]
                have hrp := hrep l.toNat (hh - l).toNat m.toNat (by omega) (by omega) (by omega)
                refine ⟨_, hrun, ?_⟩
                split at hv
                · rename_i hlm
                  have e1 : m.toNat = l.toNat := by omega
                  have e2 : (hh - l).toNat = 0 := by omega
                  rw [if_pos e1, e1, e2, Nat.sub_self]
                  split at hv
                  · cases hv
                    rw [hnil rfl]
                    simp only [repV, rep]
                    exact ⟨trivial, rfl⟩
                  · cases hv
                    simp only [repV, rep]
                    exact ⟨A, rfl⟩
                · cases hv
                  exact hrp
              · cases hv
            · cases hv
        · cases hv
      · cases hv
    · cases hv
  · cases hv

theorem vMore_sound (h : RelX C φ F0 F1 σ a w) (V : View φ w (Fs F0 F1) a σ ρ H) (o : Oper) (hv : vMore C.P ρ H o.op = some p) :
    ∃ x, (execOp a.eval o).run C.P w = .ok (.value x) w ∧ repV φ w (Fs F0 F1) p x := by
  obtain ⟨d, op, ty, pos, af, gd⟩ := o
  cases op
  case index t x j =>
    simp only [vMore] at hv
    split at hv
    · rename_i n e ps k k' ha hx hj
      split at hv
      · rename_i s hs
        split at hv
        · rename_i hb
          have hxr := V.ev hx
          simp only [repV] at hxr
          obtain ⟨vs, hxe, hrs⟩ := hxr
          obtain ⟨qj, hqj, hj⟩ := Option.bind_eq_some_iff.1 hj
          obtain ⟨v, hv1, hv2⟩ := part_takeT (P := C.P) (w := w) hrs hv
          refine ⟨v, ?_, hv2⟩
          simp [execOp, hxe, asI_rep (V.ev hqj) hj, Instr.index, asIntOf, run_underlying (arrT_spec ha), hb.1, hb.2, run_sizeOf' hs, hv1]
        · cases hv
      · cases hv
    · cases hv
  case indexAddr t x j =>
    simp only [vMore] at hv
    split at hv
    · rename_i q k k' hx hj
      obtain ⟨qj, hqj, hj⟩ := Option.bind_eq_some_iff.1 hj
      have hjr := asI_rep (V.ev hqj) hj
      split at hv
      · rename_i n e ha
        split at hv
        · rename_i s hs
          split at hv
          · rename_i hb
            obtain ⟨ad, hxe, hr⟩ := shiftA_rep (V.ev hx) hv
            refine ⟨_, ?_, hr⟩
            simp [execOp, hxe, hjr, Instr.indexAt, asIntOf, run_underlying (arrT_spec ha), Instr.sureAddr, hb.1, hb.2, run_sizeOf' hs]
          · cases hv
        · cases hv
      · split at hv
        · rename_i e i off n he
          split at hv
          · rename_i s hs
            split at hv
            · rename_i hb
              cases hv
              have hxr := V.ev hx
              simp only [repV, rep] at hxr
              obtain ⟨u, A, cap, hu, hxe, hc, hA⟩ := hxr
              obtain ⟨g, hg, rfl⟩ := hA.resolve_left (by omega)
              refine ⟨.pointer (some ((⟨g, off, none⟩ : Addr).add (k'.toNat * s))), ?_, ?_⟩
              · simp only [execOp, hxe, hjr, Sem.run_bind, run_indexAt' (elemT_spec he) hs _ _ _ _ _ hb.1 hb.2, Result.andThen_ok, Sem.run_pure]
              · simp only [repV, rep]
                exact ⟨u, g, hu, hg, by rw [Addr.add_lit]⟩
            · cases hv
          · cases hv
        · cases hv
    · cases hv
  case slice t x lo hi mx =>
    exact vspan_run h V hv
  case lookup t m k ok =>
    simp only [vMore] at hv
    obtain ⟨y, hy, rfl⟩ := Option.map_eq_some_iff.1 hv
    exact vlookK_run h V hy
  case call c =>
    obtain ⟨cal, ar, at_⟩ := c
    simp only [vMore] at hv
    split at hv
    · rename_i x t hx ht
      obtain rfl := list1 hx
      obtain rfl := list1 ht
      split at hv
      · rename_i e hq he
        cases hv
        have hr := V.ev hq
        simp only [repV, rep] at hr
        obtain ⟨A, hr⟩ := hr
        refine ⟨.int .i64 0, ?_, by simp only [repV, rep]; exact ⟨trivial, rfl⟩⟩
        simp [execOp, resolve, invoke, builtin, Builtin.len_, run_underlying (elemT_spec he), goInt, hr]
      · rename_i i off n e hq he
        cases hv
        have hr := V.ev hq
        simp only [repV, rep] at hr
        obtain ⟨u, A, cap, _, hr, _⟩ := hr
        refine ⟨.int .i64 n, ?_, by simp only [repV, rep]; exact ⟨trivial, rfl⟩⟩
        simp [execOp, resolve, invoke, builtin, Builtin.len_, run_underlying (elemT_spec he), goInt, hr]
      · cases hv
    · rename_i x t hx ht
      obtain rfl := list1 hx
      obtain rfl := list1 ht
      split at hv
      · rename_i e hq he
        cases hv
        have hr := V.ev hq
        simp only [repV, rep] at hr
        obtain ⟨A, hr⟩ := hr
        refine ⟨.int .i64 0, ?_, by simp only [repV, rep]; exact ⟨trivial, rfl⟩⟩
        simp [execOp, resolve, invoke, builtin, Builtin.cap_, run_underlying (elemT_spec he), goInt, hr]
      · rename_i e hq he
        cases hv
        have hr := V.ev hq
        simp only [repV, rep] at hr
        obtain ⟨hr, _⟩ := hr
        refine ⟨.int .i64 0, ?_, by simp only [repV, rep]; exact ⟨trivial, rfl⟩⟩
        simp [execOp, resolve, invoke, builtin, Builtin.cap_, run_underlying (elemT_spec he), goInt, hr]
      · cases hv
    · cases hv
  case makeFunc fn first caps =>
    cases fn with
    | func f =>
      simp only [vMore] at hv
      split at hv
      · rename_i hf
        split at hv
        · rename_i ps hps
          split at hv
          · rename_i cs hcs
            cases hv
            obtain ⟨h1, h2⟩ := partsOf_rep h V _ _ hps
            have hl : ps.length = (first.toList.map a.eval).length := by
              have := congrArg List.length h1
              simpa using this
            have hr := onesOf_rep (φ := φ) (w := w) (F := Fs F0 F1) ps cs (first.toList.map a.eval) hcs hl fun j p v hp hv => h2 j p (0, v) hp (by
              simp only [List.map_map, List.getElem?_map] at hv ⊢
              cases hc : first.toList[j]? with
              | none => rw [hc] at hv; simp at hv
              | some u => rw [hc] at hv; simp at hv ⊢; exact hv)
            have hfe : caps = #[] := Array.eq_empty_of_size_eq_zero hf
            refine ⟨.func (.func f) (first.map a.eval) #[], ?_, by simp only [repV, rep]; exact ⟨_, rfl, by simpa using hr⟩⟩
            simp [execOp, Instr.makeFunc, hfe]
          · cases hv
        · cases hv
      · cases hv
    | _ => simp [vMore] at hv
  all_goals simp [vMore] at hv

theorem vAll_sound (h : RelX C φ F0 F1 σ a w) (V : View φ w (Fs F0 F1) a σ ρ H) (hn : ob ≠ none → φ i = none) (o : Oper) (hv : vAll C.P i ρ H o.op = some (p, ob)) : Runs C φ (Fs F0 F1) i a w o p ob := by
  unfold vAll at hv
  split at hv
  · rename_i x hx
    cases hv
    exact vAdd_sound h V hn o hx
  · obtain ⟨q, hq, he⟩ := Option.map_eq_some_iff.1 hv
    cases he
    obtain ⟨x, h1, h2⟩ := vMore_sound h V o hq
    exact ⟨x, w, h1, none_out h2⟩

theorem appE_none (h : RelX C φ F0 F1 σ a w) (V : View φ w (Fs F0 F1) a σ ρ H) {c : Call} (hcal : c.callee = .builtin .append) (hv : appE C.P ρ H c = some none) :
    ∃ x, (execOp a.eval ⟨d, .call c, ty, pos, af, gd⟩).run C.P w = .ok (.value x) w ∧ repV φ w (Fs F0 F1) (.one .emp) x := by
  obtain ⟨cal, ar, at_⟩ := c
  simp only at hcal
  subst hcal
  unfold appE at hv
  split at hv
  · rename_i s x t t' hs ht
    split at hv
    · rename_i hse
      split at hv
      · rename_i htt
        subst htt
        split at hv
        · rename_i e he
          split at hv
          · rename_i z by_ zc hz hby hzc
            split at hv
            · rename_i hzl
              split at hv
              · rename_i ys hn
                simp only at hs ht
                obtain rfl := list2 hs
                obtain rfl := list2 ht
                obtain ⟨q2, hq2, hn⟩ := Option.bind_eq_some_iff.1 hn
                obtain ⟨A, cap, news, hx, hA, hnl, hrn⟩ := newsOf_rep h V (V.ev hq2) hn
                have hsr := V.ev hse
                simp only [repV, rep] at hsr
                obtain ⟨B, hsr⟩ := hsr
                obtain ⟨inf, hinf, rfl⟩ := Option.map_eq_some_iff.1 (show (C.P.info? e).map (·.size) = some z from hz)
                refine ⟨.slice B 0 0, ?_, by simp only [repV, rep]; exact ⟨B, rfl⟩⟩
                have hfc : ∀ W : World, (Builtin.firstCells inf.size 0 (.slice A 0 cap)).run C.P W = .ok #[] W := by
                  intro W
                  cases A with
                  | none => rfl
                  | some a => simp [Builtin.firstCells, loadCells, loadCellsFrom]
                cases B with
                | none => simp [execOp, resolve, invoke, builtin, hx, hsr, Builtin.append_, run_underlying (elemT_spec he), sizeOf, typeInfo, hinf, Builtin.lenOf, hfc]
                | some b => simp [execOp, resolve, invoke, builtin, hx, hsr, Builtin.append_, run_underlying (elemT_spec he), sizeOf, typeInfo, hinf, Builtin.lenOf, hfc, storeCells]
              · split at hv <;> cases hv
              · cases hv
            · cases hv
          · cases hv
        · cases hv
      · cases hv
    · cases hv
  · cases hv

theorem append_run0 (t ty e : TypeId) (i : TypeInfo) (z : Value) (size bytes : Nat) (ht : P.underlying t = some (.slice e)) (hi : P.info? e = some i) (hz : i.zero = some z)
    (hsize : i.size = size) (hby : i.bytes = bytes) (hzs : z.cells.size = size) (B A : Option Addr) (m c : Nat) (news : List Value) (hm : 0 < m) (hA : m = 0 ∨ ∃ a, A = some a ∧ ∀ j u, news[j]? = some u → w.cell? (a.add j) = some u) (hl : news.length = m * size) (h1 : ∀ u ∈ news, u.oneCell' = true)
    (h63 : m ≤ maxLen) (hbytes : m * bytes ≤ 140737488355328) :
    ∃ v' w', (Builtin.append_ #[t, t] ty #[.slice B 0 0, .slice A m c]).run P w = .ok v' w' ∧ w'.ownsRow 0 e size v' m news ∧ w.grownBy w' none ∧ ∃ g, blkOf v' = some g ∧ w.heap.size ≤ g := by
  subst hsize
  subst hby
  obtain ⟨a, rfl, hnews⟩ := hA.resolve_left (by omega)
  have hsmall : m ≤ 9223372036854775807 := by simp only [maxLen] at h63; omega
  have hge := grownCap_ge w m 0 e
  have hcm : grownCap w m 0 e ≤ maxLen := grownCap_le_maxLen w m 0 e h63
  have key : (w.drew.alloc (.cells (news.toArray ++ Builtin.zeroCells z.cells (grownCap w m 0 e - m)) e)).ownsRow 0 e i.size
          (.slice (some ⟨w.heap.size, 0, none⟩) m (grownCap w m 0 e)) m news ∧
        w.grownBy (w.drew.alloc (.cells (news.toArray ++ Builtin.zeroCells z.cells (grownCap w m 0 e - m)) e)) none := by
    refine ⟨⟨hl, .inr ⟨w.heap.size, _, _, rfl, Nat.zero_le _, heap_alloc_new w.drew _, hge, hcm, ?_, ?_⟩⟩, ⟨rfl, rfl, rfl, by simp, fun k hk _ => heap_alloc_old w.drew _ k hk⟩⟩
    · simp only [Array.size_append, List.size_toArray, size_zeroCells, hzs, hl, ← Nat.add_mul]
      congr 1
      omega
    · simp only [Array.toList_append]
      rw [← hl]
      exact List.take_left
  cases B with
  | none =>
    have hr := run_append_nil (P := P) w t ty e i z ht hi hz a m c news hl hnews (by omega) (by omega) (by omega)
    exact ⟨_, _, hr, key.1, key.2, _, rfl, Nat.le_refl _⟩
  | some b =>
    have hr := run_append_grow (P := P) w t ty e i z ht hi hz b 0 0 [] (by simp) (by simp) a m c news hl hnews (by omega) (by omega) (growslice_fits (by omega) (by simpa using hbytes))
    simp only [Nat.zero_add, Array.empty_append] at hr
    exact ⟨_, _, hr, key.1, key.2, _, rfl, Nat.le_refl _⟩

theorem appE_some (h : RelX C φ F0 F1 σ a w) (V : View φ w (Fs F0 F1) a σ ρ H) {c : Call} {b : Blk} {d : Nat} (hcal : c.callee = .builtin .append)
    (hv : appE C.P ρ H c = some (some b)) (hus : σ.us d = false) :
    ∃ x w' φ', (execOp a.eval ⟨some d, .call c, ty, pos, af, gd⟩).run C.P w = .ok (.value x) w' ∧
      RelX C φ' F0 F1 { σ with H := upd (kill σ.H none) (σ.nx + d, 0) (some b), us := upd σ.us d true } a w' ∧ repV φ' w' (Fs F0 F1) (.one (.own (σ.nx + d, 0))) x := by
  obtain ⟨cal, ar, at_⟩ := c
  simp only at hcal
  subst hcal
  unfold appE at hv
  split at hv
  · rename_i s x t t' hs ht
    split at hv
    · rename_i hse
      split at hv
      · rename_i htt
        subst htt
        split at hv
        · rename_i e he
          split at hv
          · rename_i z by_ zc hz hby hzc
            split at hv
            · rename_i hzl
              split at hv
              · cases hv
              · rename_i m ys hm0 hn
                split at hv
                · cases hv
                  rename_i hlim
                  simp only at hs ht
                  obtain rfl := list2 hs
                  obtain rfl := list2 ht
                  obtain ⟨q2, hq2, hn⟩ := Option.bind_eq_some_iff.1 hn
                  obtain ⟨A, cap, news, hx, hA, hnl, hrn⟩ := newsOf_rep h V (V.ev hq2) hn
                  have hm : 0 < m := Nat.pos_of_ne_zero fun e => by subst e; first | exact hm0 _ rfl | exact (hm0 rfl) | exact hm0
                  have hsr := V.ev hse
                  simp only [repV, rep] at hsr
                  obtain ⟨B, hsr⟩ := hsr
                  obtain ⟨zv, hzv, hzce, _⟩ := zero_rep (φ := φ) (w := w) (F := Fs F0 F1) hzc
                  obtain ⟨inf, hinf, rfl⟩ := Option.map_eq_some_iff.1 (show (C.P.info? e).map (·.size) = some z from hz)
                  have hby' : inf.bytes = by_ := by
                    have : (C.P.info? e).map (·.bytes) = some by_ := hby
                    rw [hinf] at this; simpa using this
                  have hz0 : inf.zero = some zv := by
                    have : (C.P.info? e).bind (·.zero) = some zv := hzv
                    rw [hinf] at this; simpa using this
                  have hzs : zv.cells.size = inf.size := by rw [← hzl, hzce]; simp
                  obtain ⟨v', w', hrun, ho', hgr, hbl⟩ := append_run0 (P := C.P) t ty e inf zv inf.size by_ (elemT_spec he) hinf hz0 rfl hby' hzs B A m cap news hm hA hnl (reps_one _ _ hrn) (by unfold maxLen; omega) hlim.1
                  have hexec : (execOp a.eval ⟨some d, .call ⟨.builtin .append, #[s, x], #[t, t]⟩, ty, pos, af, gd⟩).run C.P w = .ok (.value v') w' := by
                    simp only [execOp, resolve, invoke, builtin, Sem.run_bind, Sem.run_pure, Result.andThen_ok, List.map_toArray, List.map_cons, List.map_nil, hx, hsr, hrun]
                  have := app_tail (v := .slice none 0 0) (n := 0) (cs := []) (vs := []) (i := none) h hus hexec rfl (by simp only [reps]) hrn (by simpa using ho') hgr (.inr hbl)
                  simpa using this
                · cases hv
              · cases hv
            · cases hv
          · cases hv
        · cases hv
      · cases hv
    · cases hv
  · cases hv
end
end Go.Vm
end

section
namespace Go.Vm
open Go Go.RowKit
set_option linter.unusedVariables false
set_option linter.unusedSimpArgs false

/-- What is not looked at before it is wanted. -/
def Tok {α : Type} (_ : α) : Type := Unit
def tok {α : Type} (K : α) : Tok K := Unit.unit
def hold {α : Type} (K : α) (_ : Tok K) : α := K
theorem hold1 {α : Type} (K : α → Prop) (t : Tok K) (x : α) : hold K t x = K x := rfl
theorem hold2 {α β : Type} (K : α → β → Prop) (t : Tok K) (x : α) (y : β) : hold K t x y = K x y := rfl
theorem hold3 {α β γ : Type} (K : α → β → γ → Prop) (t : Tok K) (x : α) (y : β) (z : γ) : hold K t x y z = K x y z := rfl

/-- What an operation changes. -/
inductive Upd where
  | val (d : Option Nat) (p : PV)
  | new (d : Nat) (p : PV) (b : Blk)
  | call (d : Nat) (r : PV) (B : List Blk)
  | heap (i : Id) (b : Blk)
  | mv (d : Nat) (k : Option Id) (b : Blk)
  | io (d : Nat) (M : List Id) (r : PV) (B : List (Option Blk))

def Upd.app (σ : St) : Upd → St
  | .val none _ => σ
  | .val (some d) p => { σ with fr := upd σ.fr d (some p) }
  | .new d p b => { σ with fr := upd σ.fr d (some p), H := upd σ.H (σ.nx + d, 0) (some b), us := upd σ.us d true }
  | .call d r B => σ.called d r B
  | .heap i b => { σ with H := upd σ.H i (some b) }
  | .mv d k b => { σ with fr := upd σ.fr d (some (.one (.own (σ.nx + d, 0)))), H := upd (kill σ.H k) (σ.nx + d, 0) (some b), us := upd σ.us d true }
  | .io d M r B => σ.iod d M r B

/-- Its name is free. -/
def Upd.fresh (σ : St) : Upd → Prop
  | .val _ _ => True
  | .new d _ _ => σ.us d = false
  | .call d _ _ => σ.us d = false
  | .heap _ _ => True
  | .mv d _ _ => σ.us d = false
  | .io d _ _ _ => σ.us d = false

def setB (b : Blk) (off : Nat) (ps : List PC) : Blk :=
  match b with
  | .box ty cs => .box ty (splice cs off ps)
  | .arr ty z n cs => .arr ty z n (splice cs off ps)
  | .mp ty es => .mp ty es

/-- A store: where, and what lies there then. -/
def vstore (P : Program) (ρ : Operand → Option PV) (H : Id → Option Blk) (t : TypeId) (x y : Operand) : Option (Id × Blk) :=
  match ρ x, (ρ y).bind PV.cells, szT P t with
  | some (.one (.loc i off)), some ps, some s =>
    match H i with
    | some b => if ps.length = s ∧ 0 < s ∧ off + s ≤ b.cells.length then some (i, setB b off ps) else none
    | none => none
  | _, _, _ => none

/-- A map with one entry more. -/
def vmapUpd (P : Program) (ρ : Operand → Option PV) (H : Id → Option Blk) (t : TypeId) (m k x : Operand) : Option (Id × Blk) :=
  match ρ m, (ρ k).bind keyOf, P.underlying t, (ρ x).bind oneP with
  | some (.one (.own j)), some kv, some (.map kt _), some p =>
    match H j, P.underlying kt with
    | some (.mp mt es), some d =>
      match findE d kv es with
      | some none => if isKeyB d kv = true then some (j, .mp mt (es ++ [(kv, p)])) else none
      | _ => none
    | _, _ => none
  | _, _, _, _ => none

def vmapAll (P : Program) (ρ : Operand → Option PV) (H : Id → Option Blk) (t : TypeId) (m k x : Operand) : Option (Id × Blk) :=
  match vmapUpd P ρ H t m k x with
  | some y => some y
  | none => vmapUpdK P ρ H t m k x

def bytesOf : List PC → Option (List Int)
  | [] => some []
  | .c (.int .u8 n) :: ps =>
    match bytesOf ps with
    | some ns => some (n :: ns)
    | none => none
  | _ => none
def ofBytes (ns : List Int) : ByteArray := ns.foldl (fun r n => r.push (UInt8.ofNat n.toNat)) ByteArray.empty

/-- A row of bytes made a string. -/
def vconv (P : Program) (ρ : Operand → Option PV) (H : Id → Option Blk) (s t : TypeId) (x : Operand) : Option ByteArray :=
  match (ρ x).bind (newsOf H 1), elemT P s, P.underlying t with
  | some (_, ys), some e, some .string =>
    match P.underlying e, bytesOf ys with
    | some (.int .u8), some ns => some (ofBytes ns)
    | _, _ => none
  | _, _, _ => none

def boolOf : PV → Option (Bool × Bool)
  | .one (.c (.bool b)) => some (true, b)
  | .may c (.one (.c (.bool b))) => some (c, b)
  | .tup [] => some (false, false)
  | _ => none

def pickB (v a b : Bool) : Bool := if v then a else b

/-- What an 'and' or an 'or' comes to; c0: it is only looked at if c0. -/
def vpick (c0 : Bool) (ρ : Operand → Option PV) (c x y : Operand) : Option Bool :=
  match (ρ c).bind boolOf, (ρ x).bind boolOf, (ρ y).bind boolOf with
  | some (cc, v), some (cx, bx), some (cy, b') =>
    if (!c0 || cc) = true ∧ (!(c0 && v) || cx) = true ∧ (!(c0 && !v) || cy) = true then some (pickB v bx b') else none
  | _, _, _ => none

/-- Part of a row that is read. -/
def vrow (P : Program) (ρ : Operand → Option PV) (t : TypeId) (b : Bool) (n : Nat) (xs : List PC) (lo hi : Option Operand) : Option PV :=
  match elemT P t, lowOf ρ lo, highOf ρ n hi with
  | some e, some l, some h =>
    match szT P e with
    | some s => if 0 ≤ l ∧ l ≤ h ∧ h ≤ n then some (.one (.sl b (h - l).toNat ((xs.drop (l.toNat * s)).take ((h - l).toNat * s)))) else none
    | none => none
  | _, _, _ => none

def isNilC : Operand → Bool
  | .const .nilIface => true
  | _ => false

/-- An interface value, compared with nil. -/
def vnil (P : Program) (op : BinOp) (t : TypeId) (p : Option PV) : Option Bool :=
  match P.underlying t with
  | some (.interface _) =>
    match p, op with
    | some (.one .ifc), .eql => some false
    | some (.one .ifc), .neq => some true
    | some (.one (.c .nilIface)), .eql => some true
    | some (.one (.c .nilIface)), .neq => some false
    | _, _ => none
  | _ => none

def valK (nt : Nat) (d : Option Nat) (K : Upd → Prop) (p : PV) : Prop :=
  match d with
  | none => False
  | some d => d < nt ∧ K (.val (some d) p)

def addK (nt : Nat) (d : Option Nat) (K : Upd → Prop) : Option (PV × Option Blk) → Prop
  | some (p, none) =>
    match d with
    | none => K (.val none p)
    | some d => d < nt ∧ K (.val (some d) p)
  | some (p, some b) =>
    match d with
    | none => False
    | some d => d < nt ∧ K (.new d p b)
  | none => False

def vAddK (P : Program) (nt nx : Nat) (ρ : Operand → Option PV) (H : Id → Option Blk) (d : Option Nat) (op : Op) (K : Upd → Prop) : Prop :=
  addK nt d K (vAll P (nx + d.getD 0, 0) ρ H op)

def heapK (K : Upd → Prop) : Option (Id × Blk) → Prop
  | some (i, b) => K (.heap i b)
  | none => False

def mvK (nt : Nat) (d : Option Nat) (K : Upd → Prop) : Option (Option Id × Blk) → Prop
  | some (i, b) =>
    match d with
    | none => False
    | some d => d < nt ∧ K (.mv d i b)
  | none => False

/-- A callee's contract is asked for. -/
def callE (P : Program) (gw : World) (gb : Nat) (f : FuncId) (args : List PV) (sh : Bool) (K : PV → List Blk → Prop) : Prop :=
  ∃ r B, VCall P gw gb f args r B ∧ ((r.strict = true ∧ strictB B = true) ∨ sh = true) ∧ K r B

theorem callE_intro {P : Program} {gw : World} {gb : Nat} {f : FuncId} {args : List PV} {sh : Bool} {K : PV → List Blk → Prop} {r : PV} {B : List Blk} (h : VCall P gw gb f args r B) (hs : (r.strict = true ∧ strictB B = true) ∨ sh = true) (hk : K r B) :
    callE P gw gb f args sh K := ⟨r, B, h, hs, hk⟩

/-- A contract is asked for of a callee that is handed blocks. -/
def ioE (P : Program) (gw : World) (gb : Nat) (f : FuncId) (ps : List PV) (H : Id → Option Blk) (K : List Id → PV → List (Option Blk) → Prop) : Prop :=
  ∃ M bs args r B, (ps.map fun p => (cloV (hide M H) 4 p).ioc M) = args ∧ args.all PV.tag0 = true ∧ gets H M = some bs ∧ tag0B (bs.map (Blk.ioc M)) = true ∧ nodup M = true ∧
    VCallIO P gw gb f args (bs.map (Blk.ioc M)) r B ∧ ((r.strict = true ∧ strictBO B = true) ∨ (ps.map (PV.ioc M)).all PV.tag0 = true) ∧ K M r B

theorem ioE_intro {P : Program} {gw : World} {gb : Nat} {f : FuncId} {ps args : List PV} {H : Id → Option Blk} {K : List Id → PV → List (Option Blk) → Prop} {bs Hin : List Blk} {r : PV} {B : List (Option Blk)} (M : List Id) (h : VCallIO P gw gb f args Hin r B)
    (h1 : gets H M = some bs) (h2 : bs.map (Blk.ioc M) = Hin) (h3 : (ps.map fun p => (cloV (hide M H) 4 p).ioc M) = args) (h4 : (args.all PV.tag0 && tag0B Hin && nodup M) = true) (hs : (r.strict = true ∧ strictBO B = true) ∨ (ps.map (PV.ioc M)).all PV.tag0 = true) (hk : K M r B) :
    ioE P gw gb f ps H K := by
  subst h2
  simp only [Bool.and_eq_true] at h4
  exact ⟨M, bs, args, r, B, h3, h4.1.1, h1, h4.1.2, h4.2, h, hs, hk⟩

def callK (C : Core) (H : Id → Option Blk) (d : Option Nat) (K : Upd → Prop) : Option (FuncId × List PV) → Prop
  | some (f, ps) =>
    match d with
    | none => False
    | some d => d < C.nt ∧ ((PV.frees (ps.map (cloV H 4)) = true ∧ callE C.P C.gw C.gb f (ps.map (cloV H 4)) (PV.frees ps) (hold (fun r B => K (.call d r B)) (tok _))) ∨ ioE C.P C.gw C.gb f ps H (hold (fun M r B => K (.io d M r B)) (tok _)))
  | none => False

def opK (C : Core) (nx : Nat) (ρ : Operand → Option PV) (H : Id → Option Blk) (d : Option Nat) (op : Op) (K : Upd → Prop) : Prop :=
  match op with
  | .call c =>
    match c.callee with
    | .value _ => callK C H d K (callOf ρ c)
    | .builtin .append =>
      match appE C.P ρ H c with
      | some none => valK C.nt d K (.one .emp)
      | some (some b) => mvK C.nt d K (some (none, b))
      | none => mvK C.nt d K (vapp C.P ρ H c)
    | _ => vAddK C.P C.nt nx ρ H d op K
  | .store t x y =>
    match d with
    | none => heapK K (vstore C.P ρ H t x y)
    | some _ => False
  | .mapUpdate t m k x =>
    match d with
    | none => heapK K (vmapAll C.P ρ H t m k x)
    | some _ => False
  | .insert t m k x =>
    match d with
    | none => heapK K (vmapAll C.P ρ H t m k x)
    | some _ => False
  | .pick c x y =>
    match vpick true ρ c x y with
    | some b => valK C.nt d K (.one (.c (.bool b)))
    | none => False
  | .binOp bop t x y _ =>
    match isNilC y with
    | true =>
      match vnil C.P bop t (ρ x) with
      | some b => valK C.nt d K (.one (.c (.bool b)))
      | none => False
    | false => vAddK C.P C.nt nx ρ H d op K
  | .convert s t x =>
    match vconv C.P ρ H s t x with
    | some b => valK C.nt d K (.one (.c (.string b)))
    | none => vAddK C.P C.nt nx ρ H d op K
  | .slice t x lo hi mx =>
    match ρ x, mx with
    | some (.one (.sl b n xs)), none =>
      match vrow C.P ρ t b n xs lo hi with
      | some p => valK C.nt d K p
      | none => False
    | some (.one (.own _)), _ =>
      match vcut C.P ρ H op with
      | some x => mvK C.nt d K (some (some x.1, x.2))
      | none => vAddK C.P C.nt nx ρ H d op K
    | _, _ => vAddK C.P C.nt nx ρ H d op K
  | _ => vAddK C.P C.nt nx ρ H d op K

def OpU (C : Core) (nx : Nat) (ρ : Operand → Option PV) (H : Id → Option Blk) (d : Option Nat) (op : Op) (U : Upd) : Prop := opK C nx ρ H d op (· = U)

section
variable {ρ : Operand → Option PV} {H : Id → Option Blk} {C : Ctx} {φ φ' : Id → Option Value} {F : Bool → Nat → Prop} {F0 F1 : Nat → Prop} {σ : St} {a : Act} {w w' : World} {P : Program}
  {nt nx : Nat} {d : Option Nat} {op : Op} {K : Upd → Prop}

theorem vAddK_elim (h : vAddK P nt nx ρ H d op K) : ∃ U, vAddK P nt nx ρ H d op (· = U) ∧ K U := by
  unfold vAddK addK at *
  split at h
  · split at h
    · exact ⟨_, by simp_all, h⟩
    · exact ⟨_, by simp_all, h.2⟩
  · split at h
    · exact h.elim
    · exact ⟨_, by simp_all, h.2⟩
  · exact h.elim

theorem mvK_elim {o} (h : mvK nt d K o) : ∃ U, mvK nt d (· = U) o ∧ K U := by
  unfold mvK at *
  split at h
  · split at h
    · exact h.elim
    · exact ⟨_, by simp_all, h.2⟩
  · exact h.elim

theorem opK_elim (h : opK C nx ρ H d op K) : ∃ U, OpU C nx ρ H d op U ∧ K U := by
  unfold OpU
  unfold opK at *
  split at h
  · split at h
    · unfold callK at *
      split at h
      · split at h
        · exact h.elim
        · obtain ⟨h1, ⟨h2, r, B, h3, h4, h5⟩ | ⟨M, bs, args, r, B, e1, e2, e3, e4, e5, e6, e7, h5⟩⟩ := h
          · exact ⟨_, ⟨h1, .inl ⟨h2, r, B, h3, h4, rfl⟩⟩, h5⟩
          · exact ⟨_, ⟨h1, .inr ⟨M, bs, args, r, B, e1, e2, e3, e4, e5, e6, e7, rfl⟩⟩, h5⟩
      · exact h.elim
    · split at h
      · unfold valK at *
        split at h
        · exact h.elim
        · exact ⟨_, ⟨h.1, rfl⟩, h.2⟩
      · exact mvK_elim h
      · exact mvK_elim h
    · rename_i hx1 hx2
      obtain ⟨U, hU, hK⟩ := vAddK_elim h
      refine ⟨U, ?_, hK⟩
      first
        | exact hU
        | (split
           · rename_i hc; exact absurd hc (hx1 _)
           · rename_i hc; exact absurd hc hx2
           · exact hU)
  · split at h
    · unfold heapK at *
      split at h
      · exact ⟨_, rfl, h⟩
      · exact h.elim
    · exact h.elim
  · split at h
    · unfold heapK at *
      split at h
      · exact ⟨_, rfl, h⟩
      · exact h.elim
    · exact h.elim
  · split at h
    · unfold heapK at *
      split at h
      · exact ⟨_, rfl, h⟩
      · exact h.elim
    · exact h.elim
  · split at h
    · unfold valK at *
      split at h
      · exact h.elim
      · exact ⟨_, ⟨h.1, rfl⟩, h.2⟩
    · exact h.elim
  · split at h
    · split at h
      · unfold valK at *
        split at h
        · exact h.elim
        · exact ⟨_, ⟨h.1, rfl⟩, h.2⟩
      · exact h.elim
    · exact vAddK_elim h
  · split at h
    · unfold valK at *
      split at h
      · exact h.elim
      · exact ⟨_, ⟨h.1, rfl⟩, h.2⟩
    · exact vAddK_elim h
  · split at h
    · split at h
      · unfold valK at *
        split at h
        · exact h.elim
        · exact ⟨_, ⟨h.1, rfl⟩, h.2⟩
      · exact h.elim
    · split at h
      · exact mvK_elim h
      · exact vAddK_elim h
    · exact vAddK_elim h
  · exact vAddK_elim h

theorem bytesOf_vals : ∀ (ys : List PC) (ns : List Int) (vs : List Value), bytesOf ys = some ns → reps φ w F ys vs → vs = ns.map (Value.int .u8)
  | [], ns, vs, h, hr => by
    simp only [bytesOf] at h; cases h
    simpa only [reps, List.map_nil] using hr
  | .c (.int .u8 n) :: ps, ns, vs, h, hr => by
    simp only [bytesOf] at h
    split at h
    · rename_i ns' hns
      cases h
      simp only [reps, rep] at hr
      obtain ⟨v, vs', rfl, ⟨rfl, _⟩, hr⟩ := hr
      rw [bytesOf_vals ps ns' vs' hns hr, List.map_cons]
    · cases h

variable {ty : TypeId} {pos : String} {af : Array Edge} {gd : Option (Nat × Bool)} {K' : Act → World → Prop} {Q : Exit → Act → World → Prop} {U : Upd}

theorem value_wp {d : Option Nat} {x : Value} {w' : World} (hr : (execOp a.eval ⟨d, op, ty, pos, af, gd⟩).run C.P w = .ok (.value x) w') (h : K' (a.put d x) w') : Oper.wp C.P ⟨d, op, ty, pos, af, gd⟩ a w K' Q := by
  unfold Oper.wp
  rw [hr, Oper.upon_value]
  exact h

theorem boolOf_rep {p : PV} {x : Value} {c b : Bool} (hr : repV φ w F p x) (h : boolOf p = some (c, b)) (hc : c = true) : x = .bool b := by
  unfold boolOf at h
  split at h
  · cases h
    simp only [repV, rep] at hr
    exact hr.1
  · cases h
    simp only [repV, rep] at hr
    exact (hr.1 hc).1
  · cases h
    cases hc
  · cases h

theorem vpick_run {c x y : Operand} {c0 b : Bool} {d : Option Nat} (V : View φ w (Fs F0 F1) a σ ρ H) (h0 : c0 = true) (h : vpick c0 ρ c x y = some b) : (execOp a.eval ⟨d, .pick c x y, ty, pos, af, gd⟩).run C.P w = .ok (.value (.bool b)) w := by
  subst h0
  unfold vpick at h
  split at h
  · rename_i cc v cx bx cy b' hc hx hy
    split at h
    · rename_i hcond
      cases h
      obtain ⟨pc, hpc, hc⟩ := Option.bind_eq_some_iff.1 hc
      obtain ⟨px, hpx, hx⟩ := Option.bind_eq_some_iff.1 hx
      obtain ⟨py, hpy, hy⟩ := Option.bind_eq_some_iff.1 hy
      simp only [Bool.not_true, Bool.false_or, Bool.true_and] at hcond
      have e := boolOf_rep (V.ev hpc) hc hcond.1
      cases v
      · have := boolOf_rep (V.ev hpy) hy (by simpa using hcond.2.2)
        simp [execOp, e, asBool, this, pickB]
      · have := boolOf_rep (V.ev hpx) hx (by simpa using hcond.2.1)
        simp [execOp, e, asBool, this, pickB]
    · cases h
  · cases h

theorem vrow_run {t : TypeId} {x : Operand} {lo hi : Option Operand} {b : Bool} {n : Nat} {xs : List PC} {p : PV} {d : Option Nat} (V : View φ w (Fs F0 F1) a σ ρ H) (hx : ρ x = some (.one (.sl b n xs))) (hp : vrow C.P ρ t b n xs lo hi = some p) :
    ∃ y, (execOp a.eval ⟨d, .slice t x lo hi none, ty, pos, af, gd⟩).run C.P w = .ok (.value y) w ∧ repV φ w (Fs F0 F1) p y := by
  unfold vrow at hp
  split at hp
  · rename_i e l h he hl hh
    split at hp
    · rename_i s hs
      split at hp
      · rename_i hc
        cases hp
        obtain ⟨h0, h1, h2⟩ := hc
        have hr := V.ev hx
        simp only [repV, rep] at hr
        obtain ⟨A, cap, hxe, hncap, hrow⟩ := hr
        have hlv : ∀ l' : Operand, lo = some l' → ∃ k, a.eval l' = .int k l := by
          rintro l' rfl
          simp only [lowOf] at hl
          obtain ⟨⟨k, l2⟩, hk, rfl⟩ := Option.map_eq_some_iff.1 hl
          obtain ⟨q, hq, hk⟩ := Option.bind_eq_some_iff.1 hk
          exact ⟨k, asI_rep (V.ev hq) hk⟩
        have hlo : lo = none → l = 0 := by rintro rfl; simpa [lowOf] using hl.symm
        have hhv : ∀ h' : Operand, hi = some h' → ∃ k, a.eval h' = .int k h := by
          rintro h' rfl
          simp only [highOf] at hh
          obtain ⟨⟨k, l2⟩, hk, rfl⟩ := Option.map_eq_some_iff.1 hh
          obtain ⟨q, hq, hk⟩ := Option.bind_eq_some_iff.1 hk
          exact ⟨k, asI_rep (V.ev hq) hk⟩
        have hhi : hi = none → h = n := by rintro rfl; simpa [highOf] using hh.symm
        have hnc : (n : Int) ≤ cap := by omega
        refine ⟨.slice (if cap = l.toNat then A else A.map (·.add (l.toNat * s))) (h - l).toNat (cap - l.toNat), ?_, ?_⟩
        · have e3 : h.toNat - l.toNat = (h - l).toNat := by omega
          simp only [execOp, Option.map_none, hxe, Instr.sliceAt, Sem.run_bind, run_underlying (elemT_spec he), Result.andThen_ok, Instr.slice, Instr.sliceBounds, Instr.sliceBound, asIntOf, Sem.run_pure]
          cases lo with
          | none =>
            have := hlo rfl
            subst this
            cases hi with
            | none =>
              have := hhi rfl
              subst this
              simp [run_sizeOf' hs]
            | some h' =>
              obtain ⟨k, hk⟩ := hhv h' rfl
              have hcap : h ≤ (cap : Int) := by omega
              simp [hk, run_sizeOf' hs, h1, hcap]
          | some l' =>
            obtain ⟨k1, hk1⟩ := hlv l' rfl
            cases hi with
            | none =>
              have := hhi rfl
              subst this
              simp [hk1, run_sizeOf' hs, h0, h1]
              omega
            | some h' =>
              obtain ⟨k, hk⟩ := hhv h' rfl
              have hcap : h ≤ (cap : Int) := by omega
              have hh0 : 0 ≤ h := by omega
              have hmax : l ≤ max h 0 := by omega
              simp [hk, hk1, run_sizeOf' hs, h0, hh0, hmax, hcap, e3]
        · simp only [repV, rep]
          refine ⟨_, _, rfl, by omega, ?_⟩
          rcases hrow with ⟨hn0, hxs⟩ | ⟨ad, rfl, hF, hat⟩
          · left
            subst hxs
            exact ⟨by omega, by simp⟩
          · by_cases hcl : cap = l.toNat
            · left
              have : (h - l).toNat = 0 := by omega
              exact ⟨this, by simp [this]⟩
            · right
              rw [if_neg hcl]
              exact ⟨ad.add (l.toNat * s), rfl, by rw [add_block]; exact hF, repAt_take (repAt_drop hat _) _⟩
      · cases hp
    · cases hp
  · cases hp

theorem methodsAt_of {P : Program} {t : TypeId} {ms : Array (String × TypeId)} (h : P.underlying t = some (.interface ms)) : P.underlying t = some (.interface (P.methodsAt t)) := by
  rw [h]; simp [Program.methodsAt, h]

theorem vnil_run {bop : BinOp} {t yt : TypeId} {x y : Operand} {b : Bool} {d : Option Nat} (V : View φ w (Fs F0 F1) a σ ρ H) (hy : isNilC y = true) (h : vnil C.P bop t (ρ x) = some b) : (execOp a.eval ⟨d, .binOp bop t x y yt, ty, pos, af, gd⟩).run C.P w = .ok (.value (.bool b)) w := by
  unfold isNilC at hy
  split at hy
  · have hyc : a.eval (.const .nilIface) = .nilIface := rfl
    unfold vnil at h
    split at h
    · rename_i ms hms
      have hm := methodsAt_of hms
      split at h
      · rename_i hx
        cases h
        have hr := V.ev hx
        simp only [repV, rep] at hr
        obtain ⟨u, v, hr⟩ := hr
        simp [execOp, hr, hyc, eqGuard_at_iface, run_eql_held_nil, hm]
      · rename_i hx
        cases h
        have hr := V.ev hx
        simp only [repV, rep] at hr
        obtain ⟨u, v, hr⟩ := hr
        simp [execOp, hr, hyc, eqGuard_at_iface, run_neq_held_nil, hm]
      · rename_i hx
        cases h
        have hr := V.ev hx
        simp only [repV, rep] at hr
        simp [execOp, hr.1, hyc, eqGuard_nil_constR, run_eql_nil_nil, hm]
      · rename_i hx
        cases h
        have hr := V.ev hx
        simp only [repV, rep] at hr
        simp [execOp, hr.1, hyc, eqGuard_nil_constR, run_neq_nil_nil, hm]
      · cases h
    · cases h
  · cases hy

theorem vAddK_sound (h : RelX C φ F0 F1 σ a w) (V : View φ w (Fs F0 F1) a σ ρ H) (hu : vAddK C.P C.nt σ.nx ρ H d op (· = U)) (hf : U.fresh σ) (hK : ∀ a' w', Rel C (U.app σ) a' w' → K' a' w') :
    Oper.wp C.P ⟨d, op, ty, pos, af, gd⟩ a w K' Q := by
  unfold vAddK addK at hu
  split at hu
  · rename_i p hv
    obtain ⟨x, w', hr, rfl, hx⟩ := vAll_sound (i := (σ.nx + d.getD 0, 0)) h V (by simp) ⟨d, op, ty, pos, af, gd⟩ hv
    refine value_wp hr (hK _ _ ?_)
    split at hu
    · subst hu
      exact ⟨φ, F0, F1, by simpa [Upd.app, Act.put] using h⟩
    · obtain ⟨hd, rfl⟩ := hu
      exact ⟨φ, F0, F1, h.put hd hx⟩
  · rename_i p b hv
    split at hu
    · exact hu.elim
    · rename_i d
      obtain ⟨hd, rfl⟩ := hu
      have hn : φ (σ.nx + d, 0) = none := h.fresh hf
      obtain ⟨x, w', hr, v, hb, hh, hg, hx⟩ := vAll_sound (i := (σ.nx + d, 0)) h V (fun _ => hn) ⟨some d, op, ty, pos, af, gd⟩ hv
      refine value_wp hr (hK _ _ ⟨_, F0, F1, ((h.below hb).bind rfl hn hh fun g hg' => ?_).put hd hx⟩)
      have h1 := hg g hg'
      refine ⟨fun h0 => ?_, fun h0 => ?_, Nat.le_trans (Nat.le_trans h.gbig h.big) h1, fun j u hj hu he => ?_⟩
      · have := h.lt0 g h0; omega
      · have := h.k0lt g h0; have := h.big; omega
      · obtain ⟨c, hc⟩ := Option.ne_none_iff_exists'.1 hj
        have := holds_lt (h.heap j c hc) hu he
        omega
  · exact hu.elim

theorem mvK_sound {o : Option (Option Id × Blk)} (hu : mvK C.nt d (· = U) o) (hs : ∀ i b t, o = some (i, b) → d = some t → σ.us t = false → ∃ x w' φ', (execOp a.eval ⟨some t, op, ty, pos, af, gd⟩).run C.P w = .ok (.value x) w' ∧
      RelX C φ' F0 F1 { σ with H := upd (kill σ.H i) (σ.nx + t, 0) (some b), us := upd σ.us t true } a w' ∧ repV φ' w' (Fs F0 F1) (.one (.own (σ.nx + t, 0))) x) (hf : U.fresh σ) (hK : ∀ a' w', Rel C (U.app σ) a' w' → K' a' w') :
    Oper.wp C.P ⟨d, op, ty, pos, af, gd⟩ a w K' Q := by
  unfold mvK at hu
  split at hu
  · split at hu
    · exact hu.elim
    · obtain ⟨hd, rfl⟩ := hu
      obtain ⟨x, w', φ', hr, hR, hx⟩ := hs _ _ _ rfl rfl hf
      exact value_wp hr (hK _ _ ⟨_, _, _, hR.put hd hx⟩)
  · exact hu.elim

theorem mapUpd_run (h : RelX C φ F0 F1 σ a w) (V : View φ w (Fs F0 F1) a σ ρ H) {t : TypeId} {m k x : Operand} {i : Id} {b : Blk} (hv : vmapUpd C.P ρ H t m k x = some (i, b)) :
    ∃ w', (Instr.mapUpdate t (a.eval m) (a.eval k) (a.eval x)).run C.P w = .ok () w' ∧ RelX C φ F0 F1 { σ with H := upd σ.H i (some b) } a w' := by
  unfold vmapUpd at hv
  split at hv
  · rename_i j kv kt vt p hm hk hu hx
    obtain ⟨pk, hpk, hkv⟩ := Option.bind_eq_some_iff.1 hk
    obtain ⟨px, hpx, hxv⟩ := Option.bind_eq_some_iff.1 hx
    have hmr := V.ev hm
    have hkr := keyOf_rep hkv (V.ev hpk)
    have hxr : rep φ w (Fs F0 F1) p (a.eval x) := by
      have := V.ev hpx
      unfold oneP at hxv
      split at hxv
      · cases hxv; simpa only [repV] using this
      · cases hxv
    simp only [repV, rep] at hmr
    split at hv
    · rename_i mt es dk hH hd
      have hHj := V.heap hH
      obtain ⟨g, ents, clock, hp, hheap, hkeys, hvals⟩ := h.heap _ _ hHj
      have hme : a.eval m = .map (some g) := Option.some.inj (hmr.1.symm.trans hp)
      split at hv
      · rename_i hfe
        split at hv
        rotate_left
        · cases hv
        rename_i hc
        cases hv
        have hkey := isKeyB_ok hc
        have h1 := findE_rep 0 hkeys hvals _ hfe
        refine ⟨{ w with heap := w.heap.setIfInBounds g (.map (ents.push { key := kv, val := a.eval x, born := clock }) (clock + 1)) }, ?_, ?_⟩
        · rw [hme, hkr]
          simp [Instr.mapUpdate, run_underlying hu, Go.MapKept.run_getObj_map hheap, Go.MapKept.run_checkKey hd hkey, Go.MapKept.run_findKey hd h1, Go.MapKept.run_setObj_map _ hheap, Result.andThen]
        · have hset := Go.MapKept.heap_set (o' := .map (ents.push { key := kv, val := a.eval x, born := clock }) (clock + 1)) hheap
          obtain ⟨hg0, _, _⟩ := h.apart _ _ g (by rw [hHj]; simp) hp rfl
          have hne : ∀ t' k, Fs F0 F1 t' k → k ≠ g := by
            rintro t' k hk rfl
            exact hg0 (Fs_f0 h.sub t' k hk)
          refine h.write (by rw [hHj]; simp) hp rfl rfl rfl rfl (by simp) (fun k hk => hset.2 k hk) ⟨g, _, _, hp, hset.1, ?_, ?_⟩
          · simp [hkeys]
          · have hr := reps_append hvals (show reps φ w (Fs F0 F1) [p] [a.eval x] by simp only [reps]; exact ⟨_, _, rfl, hxr, rfl⟩)
            have := reps_mono (φ' := φ) (w' := { w with heap := w.heap.setIfInBounds g (.map (ents.push { key := kv, val := a.eval x, born := clock }) (clock + 1)) }) (F' := Fs F0 F1) (fun _ _ e => e) (fun t' k hk => hset.2 k (hne t' k hk)) (fun _ _ e => e) _ _ hr
            simpa using this
      · cases hv
    · cases hv
  · cases hv

theorem mapAll_run (h : RelX C φ F0 F1 σ a w) (V : View φ w (Fs F0 F1) a σ ρ H) {t : TypeId} {m k x : Operand} {i : Id} {b : Blk} (hv : vmapAll C.P ρ H t m k x = some (i, b)) :
    ∃ w', (Instr.mapUpdate t (a.eval m) (a.eval k) (a.eval x)).run C.P w = .ok () w' ∧ RelX C φ F0 F1 { σ with H := upd σ.H i (some b) } a w' := by
  unfold vmapAll at hv
  split at hv
  · rename_i y hy; cases hv; exact mapUpd_run h V hy
  · exact mapUpdK_run h V hv

/-- WHAT IS SAID OF AN OPERATION IS WHAT IT DOES. -/
theorem opU_sound (h : RelX C φ F0 F1 σ a w) (V : View φ w (Fs F0 F1) a σ ρ H) (hu : OpU C σ.nx ρ H d op U) (hf : U.fresh σ) (hK : ∀ a' w', Rel C (U.app σ) a' w' → K' a' w') :
    Oper.wp C.P ⟨d, op, ty, pos, af, gd⟩ a w K' Q := by
  unfold OpU opK at hu
  split at hu
  · rename_i c
    split at hu
    · unfold callK at hu
      split at hu
      · rename_i f ps hc
        split at hu
        · exact hu.elim
        · obtain ⟨hd, ⟨hfr, r, B, hv, hs, rfl⟩ | ⟨M, bs, args, r, B, e1, e2, e3, e4, e5, hv, hs, rfl⟩⟩ := hu
          · rcases hs with hs | hs
            · exact call_ok h V hc hv hfr hs hd hf hK
            · exact call_ok_share h V hc hv hs hfr hd hf hK
          · exact io_ok h V hc e1 e2 e3 e4 e5 hv hs hd hf hK
      · exact hu.elim
    · rename_i hcal
      split at hu
      · rename_i hv
        unfold valK at hu
        split at hu
        · exact hu.elim
        · rename_i d
          obtain ⟨hd, rfl⟩ := hu
          obtain ⟨y, hrun, hy⟩ := appE_none (d := some d) (ty := ty) (pos := pos) (af := af) (gd := gd) h V hcal hv
          exact value_wp hrun (hK _ _ ⟨φ, F0, F1, h.put hd hy⟩)
      · rename_i b0 hv
        exact mvK_sound hu (fun i b t he hd hus => by cases he; subst hd; exact appE_some h V hcal hv hus) hf hK
      · exact mvK_sound hu (fun i b t hv hd hus => by subst hd; exact append_ok h V hcal hv hus) hf hK
    · exact vAddK_sound h V hu hf hK
  · rename_i t x y
    split at hu
    · unfold heapK at hu
      split at hu
      rotate_left
      · exact hu.elim
      rename_i i b hv
      subst hu
      unfold vstore at hv
      split at hv
      · rename_i i' off ps s hx hy hs
        split at hv
        · rename_i b' hH
          split at hv
          · rename_i hc
            cases hv
            obtain ⟨q, hq, hps⟩ := Option.bind_eq_some_iff.1 hy
            obtain ⟨w', hr, hR⟩ := store_run h (V.ev hx) (V.heap hH) (V.ev hq) hps hs hc.1 hc.2.1 hc.2.2
            have hR := hR (setB b' off ps) (by cases b' <;> rfl)
            unfold Oper.wp
            simp only [execOp, Sem.run_bind, hr, Result.andThen_ok, Sem.run_pure, Oper.upon_skip]
            exact hK _ _ ⟨_, _, _, by simpa [Act.put, Upd.app] using hR⟩
          · cases hv
        · cases hv
      · cases hv
    · exact hu.elim
  · rename_i t m k x
    split at hu
    · unfold heapK at hu
      split at hu
      rotate_left
      · exact hu.elim
      rename_i i b hv
      subst hu
      obtain ⟨w', hr, hR⟩ := mapAll_run h V hv
      unfold Oper.wp
      simp only [execOp, Sem.run_bind, hr, Result.andThen_ok, Sem.run_pure, Oper.upon_skip]
      exact hK _ _ ⟨_, _, _, by simpa [Act.put, Upd.app] using hR⟩
    · exact hu.elim
  · rename_i t m k x
    split at hu
    · unfold heapK at hu
      split at hu
      rotate_left
      · exact hu.elim
      rename_i i b hv
      subst hu
      obtain ⟨w', hr, hR⟩ := mapAll_run h V hv
      unfold Oper.wp
      simp only [execOp, Sem.run_bind, hr, Result.andThen_ok, Sem.run_pure, Oper.upon_skip]
      exact hK _ _ ⟨_, _, _, by simpa [Act.put, Upd.app] using hR⟩
    · exact hu.elim
  · rename_i co x y
    split at hu
    · rename_i b hb
      unfold valK at hu
      split at hu
      · exact hu.elim
      · rename_i d
        obtain ⟨hd, rfl⟩ := hu
        exact value_wp (vpick_run V rfl hb) (hK _ _ ⟨φ, F0, F1, h.put hd (by simp only [repV, rep]; exact ⟨trivial, rfl⟩)⟩)
    · exact hu.elim
  · rename_i bop t x y yt
    split at hu
    · rename_i hy
      split at hu
      · rename_i b hb
        unfold valK at hu
        split at hu
        · exact hu.elim
        · rename_i d
          obtain ⟨hd, rfl⟩ := hu
          exact value_wp (vnil_run V hy hb) (hK _ _ ⟨φ, F0, F1, h.put hd (by simp only [repV, rep]; exact ⟨trivial, rfl⟩)⟩)
      · exact hu.elim
    · exact vAddK_sound h V hu hf hK
  · rename_i s t x
    split at hu
    · rename_i b hb
      unfold valK at hu
      split at hu
      · exact hu.elim
      · rename_i d
        obtain ⟨hd, rfl⟩ := hu
        unfold vconv at hb
        split at hb
        · rename_i m ys e hx he ht
          split at hb
          · rename_i ns hu8 hns
            cases hb
            obtain ⟨q, hq, hx⟩ := Option.bind_eq_some_iff.1 hx
            obtain ⟨A, c, news, hxe, hA, hl, hr⟩ := newsOf_rep h V (V.ev hq) hx
            refine value_wp (x := .string (ofBytes ns)) (w' := w) ?_ (hK _ _ ⟨φ, F0, F1, h.put hd (by simp only [repV, rep]; exact ⟨trivial, rfl⟩)⟩)
            have hrun : (convert s t (a.eval x)).run C.P w = .ok (.string (ofBytes ns)) w := by
              rw [hxe, run_convert_bytes_string w s t e A m c (elemT_spec he) hu8 ht]
              have hnv : news = ns.map (Value.int .u8) := bytesOf_vals _ _ _ hns hr
              rcases hA with rfl | ⟨ad, rfl, hcell⟩
              · have hn : news = [] := List.eq_nil_of_length_eq_zero (by simpa using hl)
                have hns0 : ns = [] := by rw [hn] at hnv; simpa using hnv.symm
                subst hns0
                cases A with
                | none => rfl
                | some ad => exact run_bytesToString w ad 0 c [] (by simp [loadCells, loadCellsFrom])
              · refine run_bytesToString w ad m c ns ?_
                have := run_loadCells_list (P := C.P) w ad news hcell
                rw [show news.length = m by simpa using hl] at this
                rw [this, hnv]
            simp only [execOp, Sem.run_bind, hrun, Result.andThen_ok, Sem.run_pure]
          · cases hb
        · cases hb
    · exact vAddK_sound h V hu hf hK
  · rename_i t x lo hi mx
    split at hu
    · rename_i b n xs hx
      split at hu
      · rename_i p hp
        unfold valK at hu
        split at hu
        · exact hu.elim
        · rename_i d
          obtain ⟨hd, rfl⟩ := hu
          obtain ⟨y, hrun, hy⟩ := vrow_run (d := some d) (ty := ty) (pos := pos) (af := af) (gd := gd) V hx hp
          exact value_wp hrun (hK _ _ ⟨φ, F0, F1, h.put hd hy⟩)
      · exact hu.elim
    · split at hu
      · rename_i q hq
        refine mvK_sound (F0 := F0) (F1 := F1) hu (fun i b t' hv hd hus => ?_) hf hK
        subst hd
        cases hv
        obtain ⟨x', φ', hr, hR, hx⟩ := cut_ok (i := q.1) (b := q.2) h V hq hus (ty := ty) (pos := pos) (af := af) (gd := gd)
        exact ⟨x', w, φ', hr, hR, hx⟩
      · exact vAddK_sound h V hu hf hK
    · exact vAddK_sound h V hu hf hK
  · exact vAddK_sound h V hu hf hK
end
end Go.Vm
end
