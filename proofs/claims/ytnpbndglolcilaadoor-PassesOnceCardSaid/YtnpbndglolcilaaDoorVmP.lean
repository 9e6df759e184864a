/-
  Abstract states over the model's worlds, and that a step of them is a step of the program: part P of a framework. Conditions: each theorem's own premises. By an AI agent.
-/
import Derived.Test.YtnpbndglolcilaaDoorVmO
namespace Go.Vm
open Go Go.RowKit
set_option linter.unusedVariables false
set_option linter.unusedSimpArgs false

/-- The row that is appended. -/
def newsOf (H : Id → Option Blk) (z : Nat) : PV → Option (Nat × List PC)
  | .one (.sl _ m ys) => if ys.length = m * z then some (m, ys) else none
  | .one (.own j) =>
    match H j with
    | some (.arr _ z' m ys) => if z' = z then some (m, ys) else none
    | _ => none
  | .one (.c (.slice none 0 0)) => some (0, [])
  | _ => none

/-- The row that is appended to: its name, if it has one. -/
def baseOf (H : Id → Option Blk) (e z : Nat) : PV → Option (Option Id × Nat × List PC)
  | .one (.own i) =>
    match H i with
    | some (.arr e' z' n cs) => if e' = e ∧ z' = z then some (some i, n, cs) else none
    | _ => none
  | .one (.c (.slice none 0 0)) => some (none, 0, [])
  | _ => none

def vapp (P : Program) (ρ : Operand → Option PV) (H : Id → Option Blk) (c : Call) : Option (Option Id × Blk) :=
  match c.args.toList, c.argTypes.toList with
  | [s, x], [t, t'] =>
    if t = t' then
      match elemT P t with
      | some e =>
        match szT P e, bytesT P e, zeroCellsT P e with
        | some z, some by_, some zc =>
          if zc.length = z then
            match (ρ s).bind (baseOf H e z), (ρ x).bind (newsOf H z) with
            | some (i, n, cs), some (m, ys) => if (n + m) * by_ ≤ 140737488355328 ∧ n + m ≤ 140737488355328 then some (i, .arr e z (n + m) (cs ++ ys)) else none
            | _, _ => none
          else none
        | _, _, _ => none
      | none => none
    else none
  | _, _ => none

def kill (H : Id → Option Blk) : Option Id → Id → Option Blk
  | none => H
  | some i => upd H i none

section
variable {ρ : Operand → Option PV} {H : Id → Option Blk} {C : Ctx} {φ φ' : Id → Option Value} {F : Bool → Nat → Prop} {F0 F1 : Nat → Prop} {σ : St} {a : Act} {w w' : World} {P : Program}

theorem newsOf_rep (h : RelX C φ F0 F1 σ a w) (V : View φ w (Fs F0 F1) a σ ρ H) {z m : Nat} {ys : List PC} {p : PV} {x : Value} (hr : repV φ w (Fs F0 F1) p x) (hn : newsOf H z p = some (m, ys)) :
    ∃ A c news, x = .slice A m c ∧ (m = 0 ∨ ∃ ad, A = some ad ∧ ∀ j u, news[j]? = some u → w.cell? (ad.add j) = some u) ∧ news.length = m * z ∧ reps φ w (Fs F0 F1) ys news := by
  unfold newsOf at hn
  split at hn
  · split at hn
    · cases hn
      rename_i hl
      simp only [repV, rep] at hr
      obtain ⟨A, cap, rfl, _, hr⟩ := hr
      rcases hr with ⟨rfl, rfl⟩ | ⟨ad, rfl, _, hr⟩
      · exact ⟨A, cap, [], rfl, .inl rfl, by simp, by simp [reps]⟩
      · obtain ⟨vs, hvs, hc⟩ := repAt_vals _ _ hr
        exact ⟨_, cap, vs, rfl, .inr ⟨ad, rfl, hc⟩, by rw [reps_length _ _ hvs, hl], hvs⟩
    · cases hn
  · split at hn
    · rename_i hH
      split at hn
      · cases hn
        rename_i hz
        subst hz
        simp only [repV, rep] at hr
        obtain ⟨hφ, _⟩ := hr
        have hh := h.heap _ _ (V.heap hH)
        obtain ⟨v, vs, hv, ho, hrs⟩ := hh
        rw [hφ] at hv
        cases hv
        have ho' := ho
        obtain ⟨hl, ho⟩ := ho
        rcases ho with ⟨rfl, rfl⟩ | ⟨g, cap, cur, rfl, _⟩
        · exact ⟨none, 0, vs, rfl, .inl rfl, hl, hrs⟩
        · exact ⟨_, cap, vs, rfl, .inr ⟨_, rfl, fun j u hu => ho'.cells (g := g) rfl j u hu⟩, hl, hrs⟩
      · cases hn
    · cases hn
  · cases hn
    simp only [repV, rep] at hr
    obtain ⟨rfl, _⟩ := hr
    exact ⟨none, 0, [], rfl, .inl rfl, by simp, by simp [reps]⟩
  · cases hn

def BaseIs (φ : Id → Option Value) (H : Id → Option Blk) (x : Value) : Option Id → Prop
  | none => blkOf x = none
  | some i => φ i = some x ∧ H i ≠ none

theorem baseOf_rep (h : RelX C φ F0 F1 σ a w) (V : View φ w (Fs F0 F1) a σ ρ H) {e z n : Nat} {cs : List PC} {i : Option Id} {p : PV} {x : Value} (hr : repV φ w (Fs F0 F1) p x) (hn : baseOf H e z p = some (i, n, cs)) :
    ∃ vs, w.ownsRow 0 e z x n vs ∧ reps φ w (Fs F0 F1) cs vs ∧ BaseIs φ σ.H x i := by
  unfold baseOf at hn
  split at hn
  · split at hn
    · rename_i hH
      split at hn
      · cases hn
        rename_i hz
        obtain ⟨rfl, rfl⟩ := hz
        simp only [repV, rep] at hr
        obtain ⟨hφ, _⟩ := hr
        obtain ⟨v, vs, hv, ho, hrs⟩ := h.heap _ _ (V.heap hH)
        rw [hφ] at hv
        cases hv
        exact ⟨vs, ho, hrs, hφ, by rw [V.heap hH]; simp⟩
      · cases hn
    · cases hn
  · cases hn
    simp only [repV, rep] at hr
    obtain ⟨rfl, _⟩ := hr
    exact ⟨[], World.ownsRow_nil w 0 e z, by simp [reps], rfl⟩
  · cases hn

theorem append_ok (h : RelX C φ F0 F1 σ a w) (V : View φ w (Fs F0 F1) a σ ρ H) {c : Call} {i : Option Id} {b : Blk} {d : Nat} {ty : TypeId} {pos : String} {af : Array Edge} {gd : Option (Nat × Bool)} (hcal : c.callee = .builtin .append)
    (hv : vapp C.P ρ H c = some (i, b)) (hus : σ.us d = false) :
    ∃ x w' φ', (execOp a.eval ⟨some d, .call c, ty, pos, af, gd⟩).run C.P w = .ok (.value x) w' ∧
      RelX C φ' F0 F1 { σ with H := upd (kill σ.H i) (σ.nx + d, 0) (some b), us := upd σ.us d true } a w' ∧ repV φ' w' (Fs F0 F1) (.one (.own (σ.nx + d, 0))) x := by
  obtain ⟨cal, ar, at_⟩ := c
  simp only at hcal
  subst hcal
  unfold vapp at hv
  split at hv
  · rename_i s x t t' hs ht
    split at hv
    · rename_i htt
      subst htt
      split at hv
      · rename_i e he
        split at hv
        · rename_i z by_ zc hz hby hzc
          split at hv
          · rename_i hzl
            split at hv
            · rename_i i' n cs m ys hb hn
              split at hv
              · cases hv
                rename_i hlim
                simp only at hs ht
                obtain rfl := list2 hs
                obtain rfl := list2 ht
                obtain ⟨q1, hq1, hb⟩ := Option.bind_eq_some_iff.1 hb
                obtain ⟨q2, hq2, hn⟩ := Option.bind_eq_some_iff.1 hn
                obtain ⟨vs, ho, hrs, hi⟩ := baseOf_rep h V (V.ev hq1) hb
                obtain ⟨A, cap, news, hx, hA, hnl, hrn⟩ := newsOf_rep h V (V.ev hq2) hn
                obtain ⟨zv, hzv, hzce, _⟩ := zero_rep (φ := φ) (w := w) (F := Fs F0 F1) hzc
                obtain ⟨inf, hinf, rfl⟩ := Option.map_eq_some_iff.1 (show (C.P.info? e).map (·.size) = some z from hz)
                have hby' : inf.bytes = by_ := by
                  have : (C.P.info? e).map (·.bytes) = some by_ := hby
                  rw [hinf] at this; simpa using this
                have hz0 : inf.zero = some zv := by
                  have : (C.P.info? e).bind (·.zero) = some zv := hzv
                  rw [hinf] at this; simpa using this
                have hzs : zv.cells.size = inf.size := by rw [← hzl, hzce]; simp
                obtain ⟨v', w', hrun, ho', hgr, hbl⟩ := append_run (P := C.P) t ty e inf zv inf.size by_ (elemT_spec he) hinf hz0 rfl hby' hzs _ n vs ho A m cap news hA hnl (reps_one _ _ hrn) (by unfold maxLen; omega) hlim.1
                have hnone := h.fresh (j := 0) hus
                have hφ := upd_le (φ := φ) hnone v'
                have hexec : (execOp a.eval ⟨some d, .call ⟨.builtin .append, #[s, x], #[t, t]⟩, ty, pos, af, gd⟩).run C.P w = .ok (.value v') w' := by
                  simp only [execOp, resolve, invoke, builtin, Sem.run_bind, Sem.run_pure, Result.andThen_ok, List.map_toArray, List.map_cons, List.map_nil, hx, hrun]
                have hwF : ∀ t k, Fs F0 F1 t k → w'.heap[k]? = w.heap[k]? := by
                  intro t k hk
                  have hk0 := Fs_f0 h.sub t k hk
                  refine hgr.block k (h.lt0 k hk0) fun e => ?_
                  cases i with
                  | none => simp only [BaseIs] at hi; rw [hi] at e; cases e
                  | some i => exact (h.apart i _ k hi.2 hi.1 e.symm).1 hk0
                have hh : holds (upd φ (σ.nx + d, 0) (some v')) w' (Fs F0 F1) (σ.nx + d, 0) (.arr e inf.size (n + m) (cs ++ ys)) :=
                  ⟨v', vs ++ news, upd_self _ _ _, ho', reps_mono hφ hwF (fun _ _ e => e) _ _ (reps_append hrs hrn)⟩
                have hsl : isSl v' = true := by
                  rcases ho'.2 with ⟨rfl, _⟩ | ⟨g, cap, cur, rfl, _⟩ <;> rfl
                refine ⟨v', w', upd φ (σ.nx + d, 0) (some v'), hexec, ?_, by simp only [repV, rep]; exact ⟨upd_self _ _ _, hsl⟩⟩
                cases i with
                | none =>
                  simp only [BaseIs] at hi
                  have hbel : Below w.heap.size w w' := ⟨hgr.os, hgr.tape, hgr.output, hgr.size, fun k hk => hgr.block k hk (by rw [hi]; simp)⟩
                  refine (h.below hbel).bind rfl hnone hh fun g hg => ?_
                  rcases hbl with hbl | ⟨g', hg', hle⟩
                  · rw [hi] at hbl; rw [hbl] at hg; cases hg
                  · rw [hg] at hg'; cases hg'
                    refine ⟨fun h0 => ?_, fun h0 => ?_, Nat.le_trans (Nat.le_trans h.gbig h.big) hle, fun k u hk hu he => ?_⟩
                    · have := h.lt0 g h0; omega
                    · have := h.k0lt g h0; have := h.big; omega
                    · obtain ⟨b, hb'⟩ := Option.ne_none_iff_exists'.1 hk
                      have := holds_lt (h.heap k b hb') hu he
                      omega
                | some i => exact h.rename hi.2 hi.1 rfl hnone hgr hbl hh
              · cases hv
            · cases hv
          · cases hv
        · cases hv
      · cases hv
    · cases hv
  · cases hv

/-- The front of a row of the call's own. -/
def vcut (P : Program) (ρ : Operand → Option PV) (H : Id → Option Blk) : Op → Option (Id × Blk)
  | .slice t x lo (some hi) none =>
    match ρ x, elemT P t, (match lo with | none => some (IntKind.i64, (0 : Int)) | some l => (ρ l).bind asI), (ρ hi).bind asI with
    | some (.one (.own i)), some e, some (_, l), some (_, k) =>
      match H i, szT P e with
      | some (.arr e' z n cs), some z' => if e' = e ∧ z = z' ∧ l = 0 ∧ 0 ≤ k ∧ k ≤ n then some (i, .arr e z k.toNat (cs.take (k.toNat * z))) else none
      | _, _ => none
    | _, _, _, _ => none
  | _ => none

theorem cut_ok (h : RelX C φ F0 F1 σ a w) (V : View φ w (Fs F0 F1) a σ ρ H) {op : Op} {i : Id} {b : Blk} {d : Nat} {ty : TypeId} {pos : String} {af : Array Edge} {gd : Option (Nat × Bool)}
    (hv : vcut C.P ρ H op = some (i, b)) (hus : σ.us d = false) :
    ∃ x φ', (execOp a.eval ⟨some d, op, ty, pos, af, gd⟩).run C.P w = .ok (.value x) w ∧
      RelX C φ' F0 F1 { σ with H := upd (upd σ.H i none) (σ.nx + d, 0) (some b), us := upd σ.us d true } a w ∧ repV φ' w (Fs F0 F1) (.one (.own (σ.nx + d, 0))) x := by
  unfold vcut at hv
  split at hv
  · rename_i t x lo hi
    split at hv
    · rename_i i' e k1 l k2 k hx he hl hk
      split at hv
      · rename_i e' z n cs z' hH hz
        split at hv
        · cases hv
          rename_i hc
          obtain ⟨rfl, rfl, rfl, hk0, hkn⟩ := hc
          have hxr := V.ev hx
          simp only [repV, rep] at hxr
          obtain ⟨hφ, _⟩ := hxr
          obtain ⟨v, vs, hv, ⟨hlen, ho⟩, hrs⟩ := h.heap _ _ (V.heap hH)
          rw [hφ] at hv
          cases hv
          obtain ⟨qk, hqk, hk⟩ := Option.bind_eq_some_iff.1 hk
          have hkv := asI_rep (V.ev hqk) hk
          have hmul : k.toNat * z ≤ n * z := Nat.mul_le_mul_right _ (by omega)
          have hnone := h.fresh (j := 0) hus
          -- the value
          have hlv : ∀ l' : Operand, lo = some l' → a.eval l' = .int k1 0 := by
            rintro l' rfl
            simp only at hl
            obtain ⟨ql, hql, hl⟩ := Option.bind_eq_some_iff.1 hl
            exact asI_rep (V.ev hql) hl
          rcases ho with ⟨hve, rfl⟩ | ⟨g, cap, cur, hve, _, hheap, hnc, hcm, hcs, htake⟩
          · have hk' : k = 0 := by omega
            subst hk'
            have hcl : cs = [] := by
              have := reps_length _ _ hrs
              rw [hlen] at this
              exact List.length_eq_zero_iff.1 (by simpa using this.symm)
            subst hcl
            refine ⟨.slice none 0 0, upd φ (σ.nx + d, 0) (some (.slice none 0 0)), ?_, h.rename (u := .slice none 0 0) (by rw [V.heap hH]; simp) (by rw [← hve]; exact hφ) rfl hnone ⟨rfl, rfl, rfl, Nat.le_refl _, fun _ _ _ => rfl⟩ (.inl rfl) ?_, by simp only [repV, rep]; exact ⟨upd_self _ _ _, rfl⟩⟩
            · simp only [execOp, Option.map_some, Option.map_none, hve, hkv, Instr.sliceAt, Sem.run_bind, run_underlying (elemT_spec he), Result.andThen_ok, Instr.slice, Instr.sliceBounds, Instr.sliceBound, asIntOf, Sem.run_pure]
              cases lo with
              | none => simp [run_sizeOf' hz]
              | some l =>
                have := hlv l rfl
                simp [this, run_sizeOf' hz]
            · exact ⟨_, [], upd_self _ _ _, by simpa using World.ownsRow_nil w 0 e' z, by simp [reps]⟩
          · refine ⟨.slice (some ⟨g, 0, none⟩) k.toNat cap, upd φ (σ.nx + d, 0) (some (.slice (some ⟨g, 0, none⟩) k.toNat cap)), ?_, h.rename (by rw [V.heap hH]; simp) hφ rfl hnone ⟨rfl, rfl, rfl, Nat.le_refl _, fun _ _ _ => rfl⟩ (.inl (by rw [hve]; rfl)) ?_, by simp only [repV, rep]; exact ⟨upd_self _ _ _, rfl⟩⟩
            · have hkc : k ≤ (cap : Int) := by omega
              simp only [execOp, Option.map_some, Option.map_none, hve, hkv, Instr.sliceAt, Sem.run_bind, run_underlying (elemT_spec he), Result.andThen_ok, Instr.slice, Instr.sliceBounds, Instr.sliceBound, asIntOf, Sem.run_pure]
              have hadd : ∀ q : Nat, (if q = 0 then (some (⟨g, 0, none⟩ : Addr)) else some ((⟨g, 0, none⟩ : Addr).add 0)) = some ⟨g, 0, none⟩ := by intro q; split <;> simp [Addr.add]
              cases lo with
              | none => simp [run_sizeOf' hz, hk0, hkc, hadd]
              | some l =>
                have := hlv l rfl
                simp [this, run_sizeOf' hz, hk0, hkc, hadd]
            · refine ⟨_, vs.take (k.toNat * z), upd_self _ _ _, ⟨?_, .inr ⟨g, cap, cur, rfl, Nat.zero_le _, hheap, by omega, hcm, hcs, ?_⟩⟩, ?_⟩
              · rw [List.length_take, hlen]; omega
              · rw [← htake, List.take_take]
                congr 1
                omega
              · exact reps_mono (upd_le hnone _) (fun _ _ _ => rfl) (fun _ _ e => e) _ _ (reps_take hrs _)
        · cases hv
      · cases hv
    · cases hv
  · cases hv
end
end Go.Vm
