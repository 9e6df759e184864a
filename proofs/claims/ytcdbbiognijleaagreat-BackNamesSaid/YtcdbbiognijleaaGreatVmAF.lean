/-
  Abstract states over the model's worlds, and that a step of them is a step of the program: part VmAF of a framework. Conditions: each theorem's own premises. By an AI agent.
-/
import Derived.Test.YtcdbbiognijleaaGreatVmAE
import Derived.Laws.CopyRow
namespace Go.Vm
open Go Go.RowKit
set_option linter.unusedVariables false
set_option linter.unusedSimpArgs false

/-! ### More operations: arrays, views of rows, empty slices without room, method values -/
def lowOf (ρ : Operand → Option PV) : Option Operand → Option Int
  | none => some 0
  | some l => ((ρ l).bind asI).map (·.2)
def highOf (ρ : Operand → Option PV) (n : Nat) : Option Operand → Option Int
  | none => some n
  | some h => ((ρ h).bind asI).map (·.2)

def arrT (P : Program) (t : TypeId) : Option (Nat × TypeId) :=
  match P.underlying t with
  | some (.array n e) => some (n, e)
  | _ => none

/-- How far a slice reaches, and how its part is told from cell off on; with all that is behind it, and without. -/
def spanOf (H : Id → Option Blk) (e z : Nat) : PV → Option (Nat × (Nat → Nat → PV) × (Nat → Nat → PV))
  | .one (.sl b n xs) => some (n, fun l k => .one (.sl b k ((xs.drop (l * z)).take (k * z))), fun l k => .one (.sl b k ((xs.drop (l * z)).take (k * z))))
  | .one (.vw i off n) => some (n, fun l k => .one (.vw i (off + l * z) k), fun l k => .one (.vw i (off + l * z) k))
  | .one (.own i) =>
    match H i with
    | some (.arr _ _ n _) => some (n, fun l k => if l = 0 then .one (.cut i k) else .one (.vw i (l * z) k), fun l k => .one (.vw i (l * z) k))
    | _ => none
  | .one (.cut i n) =>
    match H i with
    | some (.arr _ _ _ _) => some (n, fun l k => if l = 0 then .one (.cut i k) else .one (.vw i (l * z) k), fun l k => .one (.vw i (l * z) k))
    | _ => none
  | .one .emp => some (0, fun _ _ => .one .emp, fun _ _ => .one .emp)
  | .one (.c (.slice none 0 0)) => some (0, fun _ _ => .one (.c (.slice none 0 0)), fun _ _ => .one (.c (.slice none 0 0)))
  | _ => none
def fullV : PV → PV
  | .one p => .full p
  | p => p
theorem fullV_rep {φ : Id → Option Value} {w : World} {F : Bool → Nat → Prop} {p : PV} {A : Option Addr} {n : Nat} (h : repV φ w F p (.slice A n n)) : repV φ w F (fullV p) (.slice A n n) := by
  cases p with
  | one p => simp only [fullV, repV] at h ⊢; exact ⟨h, A, n, rfl⟩
  | _ => exact h
def vspan (P : Program) (ρ : Operand → Option PV) (H : Id → Option Blk) (t : TypeId) (x : Operand) (lo hi mx : Option Operand) : Option PV :=
  match elemT P t, ρ x with
  | some e, some p =>
    match szT P e with
    | some z =>
      match spanOf H e z p with
      | some (n, g, g3) =>
        match lowOf ρ lo, highOf ρ n hi with
        | some l, some h =>
          match mx with
          | none => if 0 ≤ l ∧ l ≤ h ∧ h ≤ n then some (g l.toNat (h - l).toNat) else none
          | some _ =>
            match highOf ρ 0 mx, hi with
            | some m, some _ =>
              if 0 ≤ l ∧ l ≤ h ∧ h ≤ m ∧ m ≤ n then
                if l = m then (match p with | .one (.c (.slice none 0 0)) => some p | _ => some (.one .emp)) else if h = m then some (fullV (g3 l.toNat (h - l).toNat)) else some (g3 l.toNat (h - l).toNat)
              else none
            | _, _ => none
        | _, _ => none
      | none => none
    | none => none
  | _, _ => none

/-- A part of the beginning of an own row that reaches behind that beginning. -/
def vpast (P : Program) (ρ : Operand → Option PV) (H : Id → Option Blk) (t : TypeId) (x : Operand) (lo hi mx : Option Operand) : Option PV :=
  match elemT P t, ρ x with
  | some e, some (.one (.cut i _)) =>
    match mx, hi with
    | none, some ho =>
      match szT P e, H i with
      | some z, some (.arr _ _ N _) =>
        match lowOf ρ lo, highOf ρ 0 (some ho) with
        | some l, some h => if 0 ≤ l ∧ l ≤ h ∧ h ≤ N then some (.one (.vw i (l.toNat * z) (h - l).toNat)) else none
        | _, _ => none
      | _, _ => none
    | _, _ => none
  | _, _ => none

def vMore (P : Program) (ρ : Operand → Option PV) (H : Id → Option Blk) : Op → Option PV
  | .index t x j =>
    match arrT P t, ρ x, (ρ j).bind asI with
    | some (n, e), some (.agg ps), some (_, k) =>
      match szT P e with
      | some s => if 0 ≤ k ∧ k < n then takeT P e (ps.drop (k.toNat * s)) else none
      | none => none
    | _, _, _ => none
  | .indexAddr t x j =>
    match ρ x, (ρ j).bind asI with
    | some p, some (_, k) =>
      match arrT P t with
      | some (n, e) =>
        match szT P e with
        | some s => if 0 ≤ k ∧ k < n then shiftA (k.toNat * s) p else none
        | none => none
      | none =>
        match elemT P t, p with
        | some e, .one (.vw i off n) =>
          match szT P e with
          | some s => if 0 ≤ k ∧ k < n then some (.one (.loc i (off + k.toNat * s))) else none
          | none => none
        | some e, .one (.cut i n) =>
          match szT P e with
          | some s =>
            match H i with
            | some (.arr _ _ _ _) => if 0 ≤ k ∧ k < n then some (.one (.loc i (k.toNat * s))) else none
            | _ => none
          | none => none
        | _, _ => none
    | _, _ => none
  | .slice t x lo hi mx =>
    match vspan P ρ H t x lo hi mx with
    | some p => some p
    | none => vpast P ρ H t x lo hi mx
  | .lookup t m k ok => (vlookK P H t (ρ m) (ρ k)).map fun x => if ok = true then .tup [.one x.1, .one (.c (.bool x.2))] else .one x.1
  | .call c =>
    match c.callee, c.args.toList, c.argTypes.toList with
    | .builtin .len, [x], [t] =>
      match ρ x, elemT P t with
      | some (.one .emp), some _ => some (.one (.c (.int .i64 0)))
      | some (.one (.vw _ _ n)), some _ => some (.one (.c (.int .i64 n)))
      | some (.one (.cut _ n)), some _ => some (.one (.c (.int .i64 n)))
      | _, _ => none
    | .builtin .cap, [x], [t] =>
      match ρ x, elemT P t with
      | some (.one .emp), some _ => some (.one (.c (.int .i64 0)))
      | some (.one (.c (.slice none 0 0))), some _ => some (.one (.c (.int .i64 0)))
      | _, _ => none
    | _, _, _ => none
  | .makeFunc (.func f) first caps =>
    if caps.size = 0 then
      match partsOf ρ (first.toList.map (0, ·)) with
      | some ps =>
        match onesOf ps with
        | some cs => some (.one (.mth f cs))
        | none => none
      | none => none
    else none
  | _ => none

def vAll (P : Program) (i : Id) (ρ : Operand → Option PV) (H : Id → Option Blk) (op : Op) : Option (PV × Option Blk) :=
  match vAdd P i ρ H op with
  | some x => some x
  | none => (vMore P ρ H op).map (·, none)

/-- append to an empty slice without room: nothing is appended, or there is a new row. -/
def appE (P : Program) (ρ : Operand → Option PV) (H : Id → Option Blk) (c : Call) : Option (Option Blk) :=
  match c.args.toList, c.argTypes.toList with
  | [s, x], [t, t'] =>
    match ρ s with
    | some (.one .emp) =>
      if t = t' then
        match elemT P t with
        | some e =>
          match szT P e, bytesT P e, zeroCellsT P e with
          | some z, some by_, some zc =>
            if zc.length = z then
              match (ρ x).bind (newsOf H z) with
              | some (0, _) => some none
              | some (m, ys) => if m * by_ ≤ 140737488355328 ∧ m ≤ 140737488355328 then some (some (.arr e z m ys)) else none
              | none => none
            else none
          | _, _, _ => none
        | none => none
      else none
    | some (.full p) =>
      if t = t' then
        match elemT P t with
        | some e =>
          match szT P e, bytesT P e, zeroCellsT P e with
          | some z, some by_, some zc =>
            if zc.length = z then
              match newsOf H z (.one p), (ρ x).bind (newsOf H z) with
              | some (n, cs), some (m, ys) => if 0 < m ∧ (n + m) * by_ ≤ 140737488355328 ∧ n + m ≤ 140737488355328 then some (some (.arr e z (n + m) (cs ++ ys))) else none
              | _, _ => none
            else none
          | _, _, _ => none
        | none => none
      else none
    | _ => none
  | _, _ => none

def allC : List PC → Bool
  | [] => true
  | .c _ :: ps => allC ps
  | _ => false
/-- The slice that is copied to: its block, where it begins, how long it is. -/
def dstOf (H : Id → Option Blk) : PV → Option (Option (Id × Nat) × Nat)
  | .one (.vw i off n) => some (some (i, off), n)
  | .full (.vw i off n) => some (some (i, off), n)
  | .one (.own i) =>
    match H i with
    | some (.arr _ _ n _) => some (some (i, 0), n)
    | _ => none
  | .one (.cut i n) =>
    match H i with
    | some (.arr _ _ _ _) => some (some (i, 0), n)
    | _ => none
  | .one .emp => some (none, 0)
  | .one (.c (.slice none 0 0)) => some (none, 0)
  | _ => none
def minN (m n : Nat) : Nat := min m n
def copyTo (H : Id → Option Blk) (k : Nat) (ys : List PC) : Option (Id × Nat) → Option (Nat × Option (Id × Blk))
  | some (i, off) =>
    match H i with
    | some (.arr e z N cs) => if (z == 1 && allC cs && allC ys && decide (off + k ≤ N)) = true then some (k, some (i, .arr e 1 N (splice cs off (ys.take k)))) else none
    | _ => none
  | none => none
/-- copy of scalars: how many, and what the block is then. -/
def vcopy (P : Program) (ρ : Operand → Option PV) (H : Id → Option Blk) (c : Call) : Option (Nat × Option (Id × Blk)) :=
  match c.args.toList, c.argTypes.toList with
  | [x, y], [t, t'] =>
    match elemT P t with
    | some e =>
      if szT P e = some 1 then
        match (ρ x).bind (dstOf H), (ρ y).bind (newsOf H 1) with
        | some on, some my => if minN my.1 on.2 = 0 then some (0, none) else copyTo H (minN my.1 on.2) my.2 on.1
        | _, _ => none
      else none
    | none => none
  | _, _ => none

/-- append to the beginning of an own row, of a part of that row, when it fits: the row is written. -/
def appC (P : Program) (ρ : Operand → Option PV) (H : Id → Option Blk) (c : Call) : Option (Id × Nat × Blk) :=
  match c.args.toList, c.argTypes.toList with
  | [s, x], [t, t'] =>
    match ρ s with
    | some (.one (.cut i k)) =>
      match ρ x with
      | some (.one (.vw j off m)) =>
        if i = j ∧ t = t' then
          match elemT P t, H i with
          | some e, some (.arr e' z N cs) =>
            match szT P e, newsOf H 1 (.one (.vw j off m)) with
            | some 1, some (m', ys) => if (decide (k + m' ≤ N) && z == 1 && e == e' && allC cs && allC ys) = true then some (i, k + m', .arr e' 1 N (splice cs k ys)) else none
            | _, _ => none
          | _, _ => none
        else none
      | _ => none
    | _ => none
  | _, _ => none
def clearTo (H : Id → Option Blk) (u : Value) (n : Nat) : Option (Id × Nat) → Option (Option (Id × Blk))
  | some (i, off) =>
    match H i with
    | some (.arr e z N cs) => if (z == 1 && decide (off + n ≤ N)) = true then some (some (i, .arr e 1 N (splice cs off (List.replicate n (.c u))))) else none
    | _ => none
  | none => none
/-- clear of a slice: what its block is then. -/
def vclear (P : Program) (ρ : Operand → Option PV) (H : Id → Option Blk) (c : Call) : Option (Option (Id × Blk)) :=
  match c.args.toList, c.argTypes.toList with
  | [x], [t] =>
    match elemT P t with
    | some e =>
      match zeroCellsT P e, (ρ x).bind (dstOf H) with
      | some [.c u], some on => if on.2 = 0 then some none else clearTo H u on.2 on.1
      | _, _ => none
    | none => none
  | _, _ => none

section
variable {ρ : Operand → Option PV} {H : Id → Option Blk} {C : Ctx} {φ φ' : Id → Option Value} {F : Bool → Nat → Prop} {F0 F1 : Nat → Prop} {σ : St} {a : Act} {w w' : World} {P : Program} {i : Id} {p : PV} {ob : Option Blk}
variable {d : Option Tmp} {ty : TypeId} {pos : String} {af : Array Edge} {gd : Option (Nat × Bool)}

theorem arrT_spec {t : TypeId} {n : Nat} {e : TypeId} (h : arrT P t = some (n, e)) : P.underlying t = some (.array n e) := by
  unfold arrT at h
  split at h
  · cases h; assumption
  · cases h

theorem part_takeT {t : TypeId} {vs : Array Value} {ps : List PC} {off : Nat} {p : PV} (hr : reps φ w F ps vs.toList) (hp : takeT P t (ps.drop off) = some p) :
    ∃ v, (part t vs off).run P w = .ok v w ∧ repV φ w F p v := by
  unfold takeT at hp
  split at hp
  · rename_i hagg
    split at hp
    · rename_i sz hs
      split at hp
      · cases hp
        refine ⟨.agg (vs.extract off (off + sz)), by simp [part, run_isAgg' hagg, run_sizeOf' hs], ?_⟩
        simp only [repV]
        refine ⟨_, rfl, ?_⟩
        have := reps_take (reps_drop hr off) sz
        simpa [Array.toList_extract, List.extract_eq_take_drop] using this
      · cases hp
    · cases hp
  · rename_i hagg
    split at hp
    · rename_i q qs hd
      cases hp
      have hq0 : ps[off]? = some q := by
        have : (ps.drop off)[0]? = some q := by rw [hd]; rfl
        simpa using this
      obtain ⟨v, hv, hrv⟩ := reps_get _ _ hr _ _ hq0
      have hv' : vs[off]? = some v := by simpa using hv
      exact ⟨v, by simp [part, run_isAgg' hagg, hv'], by simpa [repV] using hrv⟩
    · cases hp
  · cases hp

theorem lowOf_eval (V : View φ w (Fs F0 F1) a σ ρ H) {lo : Option Operand} {l : Int} (hl : lowOf ρ lo = some l) : (lo = none ∧ l = 0) ∨ ∃ l' k, lo = some l' ∧ a.eval l' = .int k l := by
  cases lo with
  | none => simp only [lowOf, Option.some.injEq] at hl; exact .inl ⟨rfl, hl.symm⟩
  | some l' =>
    simp only [lowOf] at hl
    obtain ⟨⟨k, l2⟩, hk, rfl⟩ := Option.map_eq_some_iff.1 hl
    obtain ⟨q, hq, hk⟩ := Option.bind_eq_some_iff.1 hk
    exact .inr ⟨l', k, rfl, asI_rep (V.ev hq) hk⟩
theorem highOf_eval (V : View φ w (Fs F0 F1) a σ ρ H) {n : Nat} {hi : Option Operand} {h : Int} (hh : highOf ρ n hi = some h) : (hi = none ∧ h = n) ∨ ∃ h' k, hi = some h' ∧ a.eval h' = .int k h := by
  cases hi with
  | none => simp only [highOf, Option.some.injEq] at hh; exact .inl ⟨rfl, hh.symm⟩
  | some l' =>
    simp only [highOf] at hh
    obtain ⟨⟨k, l2⟩, hk, rfl⟩ := Option.map_eq_some_iff.1 hh
    obtain ⟨q, hq, hk⟩ := Option.bind_eq_some_iff.1 hk
    exact .inr ⟨l', k, rfl, asI_rep (V.ev hq) hk⟩

theorem own_nil {e z n : Nat} {A : Option Addr} {N cap : Nat} {vs : List Value} (ho : w.ownsRow 0 e z (.slice A N cap) n vs) : n = N ∧ N ≤ cap ∧ ((A = none ∧ N = 0 ∧ cap = 0) ∨ ∃ g, A = some ⟨g, 0, none⟩) := by
  rcases ho.2 with ⟨h, rfl⟩ | ⟨g, cap', cur, h, _, _, hc, _⟩
  · cases h; exact ⟨rfl, Nat.le_refl _, .inl ⟨rfl, rfl, rfl⟩⟩
  · cases h; exact ⟨rfl, hc, .inr ⟨g, rfl⟩⟩

/-- A part of a slice: how it is told. -/
theorem spanOf_rep (h : RelX C φ F0 F1 σ a w) (V : View φ w (Fs F0 F1) a σ ρ H) {e z n : Nat} {g g3 : Nat → Nat → PV} {x : Value} (hr : repV φ w (Fs F0 F1) p x) (hs : spanOf H e z p = some (n, g, g3)) :
    ∃ A cap, x = .slice A n cap ∧ n ≤ cap ∧ (p = .one (.c (.slice none 0 0)) → A = none) ∧ (∀ l k, l + k ≤ n → repV φ w (Fs F0 F1) (g l k) (.slice (if cap = l then A else A.map (·.add (l * z))) k (cap - l))) ∧
      ∀ l k M, l + k ≤ n → l + k ≤ M → M ≤ cap → repV φ w (Fs F0 F1) (g3 l k) (.slice (if M = l then A else A.map (·.add (l * z))) k (M - l)) := by
  have cuts : ∀ (i : Id) (A : Option Addr) (N n cap : Nat), φ i = some (.slice A N cap) → n ≤ N → N ≤ cap → ((A = none ∧ N = 0 ∧ cap = 0) ∨ ∃ g, A = some ⟨g, 0, none⟩) →
      (∀ l k, l + k ≤ n → repV φ w (Fs F0 F1) (if l = 0 then .one (.cut i k) else .one (.vw i (l * z) k)) (.slice (if cap = l then A else A.map (·.add (l * z))) k (cap - l))) ∧
      ∀ l k M, l + k ≤ n → l + k ≤ M → M ≤ cap → repV φ w (Fs F0 F1) (.one (.vw i (l * z) k)) (.slice (if M = l then A else A.map (·.add (l * z))) k (M - l)) := by
    intro i A N n cap hφ hn hN hA
    have hv : ∀ l k M, l + k ≤ n → l + k ≤ M → M ≤ cap → repV φ w (Fs F0 F1) (.one (.vw i (l * z) k)) (.slice (if M = l then A else A.map (·.add (l * z))) k (M - l)) := by
      intro l k M h1 h2 h3
      simp only [repV, rep]
      refine ⟨_, _, _, hφ, rfl, by omega, ?_⟩
      by_cases hk : k = 0
      · exact .inl hk
      · right
        rw [if_neg (by omega)]
        rcases hA with ⟨_, h4, _⟩ | ⟨g, rfl⟩
        · omega
        · exact ⟨g, rfl, by rw [Option.map_some, Addr.add_lit, Nat.zero_add]⟩
    refine ⟨fun l k h1 => ?_, hv⟩
    by_cases hl : l = 0
    · subst hl
      rw [if_pos rfl]
      simp only [repV, rep]
      refine ⟨A, N, cap, hφ, by omega, ?_⟩
      rcases hA with ⟨rfl, _, rfl⟩ | ⟨g, rfl⟩
      · rfl
      · simp [Addr.add]
    · rw [if_neg hl]
      exact hv l k cap h1 (by omega) (Nat.le_refl _)
  unfold spanOf at hs
  split at hs
  · rename_i b n' xs
    cases hs
    simp only [repV, rep] at hr
    obtain ⟨A, cap, hx, hc, hrow⟩ := hr
    have key : ∀ l k M, l + k ≤ n → l + k ≤ M → M ≤ cap → repV φ w (Fs F0 F1) (.one (.sl b k ((xs.drop (l * z)).take (k * z)))) (.slice (if M = l then A else A.map (·.add (l * z))) k (M - l)) := by
      intro l k M h1 h2 h3
      simp only [repV, rep]
      refine ⟨_, _, rfl, by omega, ?_⟩
      rcases hrow with ⟨hn0, hxs⟩ | ⟨ad, rfl, hF, hat⟩
      · subst hxs
        exact .inl ⟨by omega, by simp⟩
      · by_cases hk : k = 0
        · subst hk
          exact .inl ⟨rfl, by simp⟩
        · right
          rw [if_neg (by omega)]
          exact ⟨ad.add (l * z), rfl, by rw [add_block]; exact hF, repAt_take (repAt_drop hat _) _⟩
    exact ⟨A, cap, hx, hc, by simp, fun l k h1 => key l k cap h1 (by omega) (Nat.le_refl _), key⟩
  · rename_i j off n'
    cases hs
    simp only [repV, rep] at hr
    obtain ⟨u, A, cap, hu, hx, hc, hA⟩ := hr
    have key : ∀ l k M, l + k ≤ n → l + k ≤ M → M ≤ cap → repV φ w (Fs F0 F1) (.one (.vw j (off + l * z) k)) (.slice (if M = l then A else A.map (·.add (l * z))) k (M - l)) := by
      intro l k M h1 h2 h3
      simp only [repV, rep]
      refine ⟨u, _, _, hu, rfl, by omega, ?_⟩
      by_cases hk : k = 0
      · exact .inl hk
      · obtain ⟨g, hg, rfl⟩ := hA.resolve_left (by omega)
        right
        rw [if_neg (by omega)]
        exact ⟨g, hg, by rw [Option.map_some, Addr.add_lit]⟩
    exact ⟨A, cap, hx, hc, by simp, fun l k h1 => key l k cap h1 (by omega) (Nat.le_refl _), key⟩
  · rename_i j
    split at hs
    · rename_i e' z' n' cs hH
      cases hs
      simp only [repV, rep] at hr
      obtain ⟨hφ, hsl⟩ := hr
      obtain ⟨v, vs, hv, ho, _⟩ := h.heap _ _ (V.heap hH)
      rw [hφ] at hv
      cases hv
      obtain ⟨A, N, cap, rfl⟩ : ∃ A N cap, x = .slice A N cap := by
        rcases ho.2 with ⟨h, _⟩ | ⟨g, cap', cur, h, _⟩
        · exact ⟨_, _, _, h⟩
        · exact ⟨_, _, _, h⟩
      obtain ⟨rfl, hN, hA⟩ := own_nil ho
      exact ⟨A, cap, rfl, hN, by simp, cuts j A n n cap hφ (Nat.le_refl _) hN hA⟩
    · cases hs
  · rename_i j n'
    split at hs
    · rename_i e' z' N' cs hH
      cases hs
      simp only [repV, rep] at hr
      obtain ⟨A, N, cap, hφ, hn, rfl⟩ := hr
      obtain ⟨v, vs, hv, ho, _⟩ := h.heap _ _ (V.heap hH)
      rw [hφ] at hv
      cases hv
      obtain ⟨rfl, hN, hA⟩ := own_nil ho
      exact ⟨A, cap, rfl, by omega, by simp, cuts j A _ n cap hφ hn hN hA⟩
    · cases hs
  · cases hs
    simp only [repV, rep] at hr
    obtain ⟨A, rfl⟩ := hr
    have key : ∀ l k M, l + k ≤ 0 → l + k ≤ M → M ≤ 0 → repV φ w (Fs F0 F1) (.one .emp) (.slice (if M = l then A else A.map (·.add (l * z))) k (M - l)) := by
      intro l k M h1 h2 h3
      simp only [repV, rep]
      exact ⟨A, by rw [if_pos (by omega)]; congr 1 <;> omega⟩
    exact ⟨A, 0, rfl, Nat.le_refl _, by simp, fun l k h1 => key l k 0 h1 (by omega) (Nat.le_refl _), key⟩
  · cases hs
    simp only [repV, rep] at hr
    obtain ⟨rfl, _⟩ := hr
    have key : ∀ l k M, l + k ≤ 0 → l + k ≤ M → M ≤ 0 → repV φ w (Fs F0 F1) (.one (.c (.slice none 0 0))) (.slice (if M = l then none else (none : Option Addr).map (·.add (l * z))) k (M - l)) := by
      intro l k M h1 h2 h3
      simp only [repV, rep]
      refine ⟨?_, rfl⟩
      rw [if_pos (by omega)]; congr 1 <;> omega
    exact ⟨none, 0, rfl, Nat.le_refl _, fun _ => rfl, fun l k h1 => key l k 0 h1 (by omega) (Nat.le_refl _), key⟩
  · cases hs

theorem vpast_run (h : RelX C φ F0 F1 σ a w) (V : View φ w (Fs F0 F1) a σ ρ H) {t : TypeId} {x : Operand} {lo hi mx : Option Operand} (hv : vpast C.P ρ H t x lo hi mx = some p) :
    ∃ y, (execOp a.eval ⟨d, .slice t x lo hi mx, ty, pos, af, gd⟩).run C.P w = .ok (.value y) w ∧ repV φ w (Fs F0 F1) p y := by
  unfold vpast at hv
  split at hv
  rotate_left
  · cases hv
  rename_i e i n he hx
  split at hv
  rotate_left
  · cases hv
  rename_i ho
  split at hv
  rotate_left
  · cases hv
  rename_i z e' z' N cs hz hH
  split at hv
  rotate_left
  · cases hv
  rename_i l hh hl hh'
  split at hv
  rotate_left
  · cases hv
  rename_i hc
  cases hv
  obtain ⟨h0, h1, h2⟩ := hc
  have hr := V.ev hx
  simp only [repV, rep] at hr
  obtain ⟨A, N', cap, hφ, hn, hxe⟩ := hr
  obtain ⟨v, vs, hv0, hown, _⟩ := h.heap _ _ (V.heap hH)
  rw [hφ] at hv0
  cases hv0
  obtain ⟨rfl, hN, hA⟩ := own_nil hown
  refine ⟨.slice (if cap = l.toNat then A else A.map (·.add (l.toNat * z))) (hh - l).toNat (cap - l.toNat), ?_, ?_⟩
  · have e3 : hh.toNat - l.toNat = (hh - l).toNat := by omega
    simp only [execOp, Option.map_none, hxe, Instr.sliceAt, Sem.run_bind, run_underlying (elemT_spec he), Result.andThen_ok, Instr.slice, Instr.sliceBounds, Instr.sliceBound, asIntOf, Sem.run_pure]
    have hcap : hh ≤ (cap : Int) := by omega
    have hh0 : 0 ≤ hh := by omega
    have hmax : l ≤ max hh 0 := by omega
    rcases lowOf_eval V hl with ⟨rfl, rfl⟩ | ⟨l', k1, rfl, hk1⟩ <;> rcases highOf_eval V hh' with ⟨hno, _⟩ | ⟨h', k2, hh2, hk2⟩
    · cases hno
    · cases hh2
      simp [hk2, run_sizeOf' hz, h1, hcap]
    · cases hno
    · cases hh2
      simp [hk1, hk2, run_sizeOf' hz, h0, hh0, hmax, hcap, e3]
  · simp only [repV, rep]
    refine ⟨_, _, _, hφ, rfl, by omega, ?_⟩
    by_cases hk : (hh - l).toNat = 0
    · exact .inl hk
    · right
      rw [if_neg (by omega)]
      rcases hA with ⟨_, h4, _⟩ | ⟨g, rfl⟩
      · omega
      · exact ⟨g, rfl, by rw [Option.map_some, Addr.add_lit, Nat.zero_add]⟩

theorem vspan_run (h : RelX C φ F0 F1 σ a w) (V : View φ w (Fs F0 F1) a σ ρ H) {t : TypeId} {x : Operand} {lo hi mx : Option Operand} (hv : vspan C.P ρ H t x lo hi mx = some p) :
    ∃ y, (execOp a.eval ⟨d, .slice t x lo hi mx, ty, pos, af, gd⟩).run C.P w = .ok (.value y) w ∧ repV φ w (Fs F0 F1) p y := by
  unfold vspan at hv
  split at hv
  · rename_i e q he hx
    split at hv
    · rename_i z hz
      split at hv
      · rename_i n g g3 hs
        split at hv
        · rename_i l hh hl hh'
          obtain ⟨A, cap, hxe, hncap, hnil, hrep0, hrep⟩ := spanOf_rep h V (V.ev hx) hs
          split at hv
          · split at hv
            · cases hv
              rename_i hc
              obtain ⟨h0, h1, h2⟩ := hc
              refine ⟨.slice (if cap = l.toNat then A else A.map (·.add (l.toNat * z))) (hh - l).toNat (cap - l.toNat), ?_, hrep0 l.toNat (hh - l).toNat (by omega)⟩
              have e3 : hh.toNat - l.toNat = (hh - l).toNat := by omega
              simp only [execOp, Option.map_none, hxe, Instr.sliceAt, Sem.run_bind, run_underlying (elemT_spec he), Result.andThen_ok, Instr.slice, Instr.sliceBounds, Instr.sliceBound, asIntOf, Sem.run_pure]
              have hcap : hh ≤ (cap : Int) := by omega
              have hh0 : 0 ≤ hh := by omega
              have hmax : l ≤ max hh 0 := by omega
              rcases lowOf_eval V hl with ⟨rfl, rfl⟩ | ⟨l', k1, rfl, hk1⟩ <;> rcases highOf_eval V hh' with ⟨rfl, rfl⟩ | ⟨h', k2, rfl, hk2⟩
              · simp [run_sizeOf' hz]
              · simp [hk2, run_sizeOf' hz, h1, hcap]
              · simp [hk1, run_sizeOf' hz, h0, h1]
                omega
              · simp [hk1, hk2, run_sizeOf' hz, h0, hh0, hmax, hcap, e3]
            · cases hv
          · rename_i m0
            split at hv
            · rename_i m hi0 hm
              split at hv
              · rename_i hc
                obtain ⟨h0, h1, h2, h3⟩ := hc
                have hmv : ∃ k3, a.eval m0 = .int k3 m := by
                  rcases highOf_eval V hm with ⟨hn, _⟩ | ⟨m', k3, hm', hk3⟩
                  · cases hn
                  · cases hm'; exact ⟨k3, hk3⟩
                obtain ⟨k3, hk3⟩ := hmv
                have hhv : ∃ k2, a.eval hi0 = .int k2 hh := by
                  rcases highOf_eval V hh' with ⟨hn, _⟩ | ⟨m', k2, hm', hk2⟩
                  · cases hn
                  · cases hm'; exact ⟨k2, hk2⟩
                obtain ⟨k2, hk2⟩ := hhv
                have e3 : hh.toNat - l.toNat = (hh - l).toNat := by omega
                have hm0 : 0 ≤ m := by omega
                have hh0 : 0 ≤ hh := by omega
                have hmc : m ≤ (cap : Int) := by omega
                have hmax : l ≤ max hh 0 := by omega
                have hmax2 : hh ≤ max m 0 := by omega
                have hrun : (execOp a.eval ⟨d, .slice t x lo (some hi0) (some m0), ty, pos, af, gd⟩).run C.P w = .ok (.value (.slice (if m.toNat = l.toNat then A else A.map (·.add (l.toNat * z))) (hh - l).toNat (m.toNat - l.toNat))) w := by
                  simp only [execOp, Option.map_some, hxe, Instr.sliceAt, Sem.run_bind, run_underlying (elemT_spec he), Result.andThen_ok, Instr.slice, Instr.sliceBounds, Instr.sliceBound, asIntOf, Sem.run_pure, hk2, hk3]
                  rcases lowOf_eval V hl with ⟨rfl, rfl⟩ | ⟨l', k1, rfl, hk1⟩
                  · simp [run_sizeOf' hz, hm0, hmc, hh0, hmax2]
                  · simp [hk1, run_sizeOf' hz, h0, hm0, hmc, hh0, hmax2, hmax, e3]
                have hrp := hrep l.toNat (hh - l).toNat m.toNat (by omega) (by omega) (by omega)
                refine ⟨_, hrun, ?_⟩
                split at hv
                · rename_i hlm
                  have e1 : m.toNat = l.toNat := by omega
                  have e2 : (hh - l).toNat = 0 := by omega
                  rw [if_pos e1, e1, e2, Nat.sub_self]
                  split at hv
                  · cases hv
                    rw [hnil rfl]
                    simp only [repV, rep]
                    exact ⟨trivial, rfl⟩
                  · cases hv
                    simp only [repV, rep]
                    exact ⟨A, rfl⟩
                · split at hv
                  · rename_i hhm
                    cases hv
                    have e4 : m.toNat - l.toNat = (hh - l).toNat := by omega
                    rw [e4] at hrp ⊢
                    exact fullV_rep hrp
                  · cases hv
                    exact hrp
              · cases hv
            · cases hv
        · cases hv
      · cases hv
    · cases hv
  · cases hv

theorem vMore_sound (h : RelX C φ F0 F1 σ a w) (V : View φ w (Fs F0 F1) a σ ρ H) (o : Oper) (hv : vMore C.P ρ H o.op = some p) :
    ∃ x, (execOp a.eval o).run C.P w = .ok (.value x) w ∧ repV φ w (Fs F0 F1) p x := by
  obtain ⟨d, op, ty, pos, af, gd⟩ := o
  cases op
  case index t x j =>
    simp only [vMore] at hv
    split at hv
    · rename_i n e ps k k' ha hx hj
      split at hv
      · rename_i s hs
        split at hv
        · rename_i hb
          have hxr := V.ev hx
          simp only [repV] at hxr
          obtain ⟨vs, hxe, hrs⟩ := hxr
          obtain ⟨qj, hqj, hj⟩ := Option.bind_eq_some_iff.1 hj
          obtain ⟨v, hv1, hv2⟩ := part_takeT (P := C.P) (w := w) hrs hv
          refine ⟨v, ?_, hv2⟩
          simp [execOp, hxe, asI_rep (V.ev hqj) hj, Instr.index, asIntOf, run_underlying (arrT_spec ha), hb.1, hb.2, run_sizeOf' hs, hv1]
        · cases hv
      · cases hv
    · cases hv
  case indexAddr t x j =>
    simp only [vMore] at hv
    split at hv
    · rename_i q k k' hx hj
      obtain ⟨qj, hqj, hj⟩ := Option.bind_eq_some_iff.1 hj
      have hjr := asI_rep (V.ev hqj) hj
      split at hv
      · rename_i n e ha
        split at hv
        · rename_i s hs
          split at hv
          · rename_i hb
            obtain ⟨ad, hxe, hr⟩ := shiftA_rep (V.ev hx) hv
            refine ⟨_, ?_, hr⟩
            simp [execOp, hxe, hjr, Instr.indexAt, asIntOf, run_underlying (arrT_spec ha), Instr.sureAddr, hb.1, hb.2, run_sizeOf' hs]
          · cases hv
        · cases hv
      · split at hv
        · rename_i e i off n he
          split at hv
          · rename_i s hs
            split at hv
            · rename_i hb
              cases hv
              have hxr := V.ev hx
              simp only [repV, rep] at hxr
              obtain ⟨u, A, cap, hu, hxe, hc, hA⟩ := hxr
              obtain ⟨g, hg, rfl⟩ := hA.resolve_left (by omega)
              refine ⟨.pointer (some ((⟨g, off, none⟩ : Addr).add (k'.toNat * s))), ?_, ?_⟩
              · simp only [execOp, hxe, hjr, Sem.run_bind, run_indexAt' (elemT_spec he) hs _ _ _ _ _ hb.1 hb.2, Result.andThen_ok, Sem.run_pure]
              · simp only [repV, rep]
                exact ⟨u, g, hu, hg, by rw [Addr.add_lit]⟩
            · cases hv
          · cases hv
        · rename_i e i n he
          split at hv
          · rename_i s hs
            split at hv
            · rename_i e' z' N' cs hH
              split at hv
              · rename_i hb
                cases hv
                have hxr := V.ev hx
                simp only [repV, rep] at hxr
                obtain ⟨A, N, cap, hφ, hn, hxe⟩ := hxr
                obtain ⟨v, vs, hv, ho, _⟩ := h.heap _ _ (V.heap hH)
                rw [hφ] at hv
                cases hv
                obtain ⟨_, hN, hA⟩ := own_nil ho
                rcases hA with ⟨_, h4, _⟩ | ⟨g, rfl⟩
                · omega
                refine ⟨.pointer (some ((⟨g, 0, none⟩ : Addr).add (k'.toNat * s))), ?_, ?_⟩
                · simp only [execOp, hxe, hjr, Sem.run_bind, run_indexAt' (elemT_spec he) hs _ _ _ _ _ hb.1 hb.2, Result.andThen_ok, Sem.run_pure]
                · simp only [repV, rep]
                  exact ⟨_, g, hφ, rfl, by rw [Addr.add_lit, Nat.zero_add]⟩
              · cases hv
            · cases hv
          · cases hv
        · cases hv
    · cases hv
  case slice t x lo hi mx =>
    simp only [vMore] at hv
    split at hv
    · rename_i q hq
      cases hv
      exact vspan_run h V hq
    · exact vpast_run h V hv
  case lookup t m k ok =>
    simp only [vMore] at hv
    obtain ⟨y, hy, rfl⟩ := Option.map_eq_some_iff.1 hv
    exact vlookK_run h V hy
  case call c =>
    obtain ⟨cal, ar, at_⟩ := c
    simp only [vMore] at hv
    split at hv
    · rename_i x t hx ht
      obtain rfl := list1 hx
      obtain rfl := list1 ht
      split at hv
      · rename_i e hq he
        cases hv
        have hr := V.ev hq
        simp only [repV, rep] at hr
        obtain ⟨A, hr⟩ := hr
        refine ⟨.int .i64 0, ?_, by simp only [repV, rep]; exact ⟨trivial, rfl⟩⟩
        simp [execOp, resolve, invoke, builtin, Builtin.len_, run_underlying (elemT_spec he), goInt, hr]
      · rename_i i off n e hq he
        cases hv
        have hr := V.ev hq
        simp only [repV, rep] at hr
        obtain ⟨u, A, cap, _, hr, _⟩ := hr
        refine ⟨.int .i64 n, ?_, by simp only [repV, rep]; exact ⟨trivial, rfl⟩⟩
        simp [execOp, resolve, invoke, builtin, Builtin.len_, run_underlying (elemT_spec he), goInt, hr]
      · rename_i i n e hq he
        cases hv
        have hr := V.ev hq
        simp only [repV, rep] at hr
        obtain ⟨A, N, cap, _, _, hr⟩ := hr
        refine ⟨.int .i64 n, ?_, by simp only [repV, rep]; exact ⟨trivial, rfl⟩⟩
        simp [execOp, resolve, invoke, builtin, Builtin.len_, run_underlying (elemT_spec he), goInt, hr]
      · cases hv
    · rename_i x t hx ht
      obtain rfl := list1 hx
      obtain rfl := list1 ht
      split at hv
      · rename_i e hq he
        cases hv
        have hr := V.ev hq
        simp only [repV, rep] at hr
        obtain ⟨A, hr⟩ := hr
        refine ⟨.int .i64 0, ?_, by simp only [repV, rep]; exact ⟨trivial, rfl⟩⟩
        simp [execOp, resolve, invoke, builtin, Builtin.cap_, run_underlying (elemT_spec he), goInt, hr]
      · rename_i e hq he
        cases hv
        have hr := V.ev hq
        simp only [repV, rep] at hr
        obtain ⟨hr, _⟩ := hr
        refine ⟨.int .i64 0, ?_, by simp only [repV, rep]; exact ⟨trivial, rfl⟩⟩
        simp [execOp, resolve, invoke, builtin, Builtin.cap_, run_underlying (elemT_spec he), goInt, hr]
      · cases hv
    · cases hv
  case makeFunc fn first caps =>
    cases fn with
    | func f =>
      simp only [vMore] at hv
      split at hv
      · rename_i hf
        split at hv
        · rename_i ps hps
          split at hv
          · rename_i cs hcs
            cases hv
            obtain ⟨h1, h2⟩ := partsOf_rep h V _ _ hps
            have hl : ps.length = (first.toList.map a.eval).length := by
              have := congrArg List.length h1
              simpa using this
            have hr := onesOf_rep (φ := φ) (w := w) (F := Fs F0 F1) ps cs (first.toList.map a.eval) hcs hl fun j p v hp hv => h2 j p (0, v) hp (by
              simp only [List.map_map, List.getElem?_map] at hv ⊢
              cases hc : first.toList[j]? with
              | none => rw [hc] at hv; simp at hv
              | some u => rw [hc] at hv; simp at hv ⊢; exact hv)
            have hfe : caps = #[] := Array.eq_empty_of_size_eq_zero hf
            refine ⟨.func (.func f) (first.map a.eval) #[], ?_, by simp only [repV, rep]; exact ⟨_, rfl, by simpa using hr⟩⟩
            simp [execOp, Instr.makeFunc, hfe]
          · cases hv
        · cases hv
      · cases hv
    | _ => simp [vMore] at hv
  all_goals simp [vMore] at hv

theorem vAll_sound (h : RelX C φ F0 F1 σ a w) (V : View φ w (Fs F0 F1) a σ ρ H) (hn : ob ≠ none → φ i = none) (o : Oper) (hv : vAll C.P i ρ H o.op = some (p, ob)) : Runs C φ (Fs F0 F1) i a w o p ob := by
  unfold vAll at hv
  split at hv
  · rename_i x hx
    cases hv
    exact vAdd_sound h V hn o hx
  · obtain ⟨q, hq, he⟩ := Option.map_eq_some_iff.1 hv
    cases he
    obtain ⟨x, h1, h2⟩ := vMore_sound h V o hq
    exact ⟨x, w, h1, none_out h2⟩

theorem dstOf_rep (h : RelX C φ F0 F1 σ a w) (V : View φ w (Fs F0 F1) a σ ρ H) {p : PV} {x : Value} {o : Option (Id × Nat)} {n : Nat} (hr : repV φ w (Fs F0 F1) p x) (hd : dstOf H p = some (o, n)) :
    ∃ A cap, x = .slice A n cap ∧ ∀ i off, o = some (i, off) → ∃ u, φ i = some u ∧ (n = 0 ∨ ∃ g, blkOf u = some g ∧ A = some ⟨g, off, none⟩) := by
  unfold dstOf at hd
  split at hd
  · cases hd
    simp only [repV, rep] at hr
    obtain ⟨u, A, cap, hu, hx, hc, hA⟩ := hr
    exact ⟨A, cap, hx, fun i off e => by cases e; exact ⟨u, hu, hA⟩⟩
  · cases hd
    simp only [repV, rep] at hr
    obtain ⟨⟨u, A, cap, hu, hx, hc, hA⟩, _⟩ := hr
    exact ⟨A, cap, hx, fun i off e => by cases e; exact ⟨u, hu, hA⟩⟩
  · split at hd
    · rename_i e z n cs hH
      cases hd
      simp only [repV, rep] at hr
      obtain ⟨hφ, _⟩ := hr
      obtain ⟨v, vs, hv, ⟨_, ho⟩, _⟩ := h.heap _ _ (V.heap hH)
      rw [hφ] at hv
      cases hv
      rcases ho with ⟨rfl, rfl⟩ | ⟨g, cap, cur, rfl, _⟩
      · exact ⟨none, 0, rfl, fun i off e => by cases e; exact ⟨_, hφ, .inl rfl⟩⟩
      · exact ⟨_, cap, rfl, fun i off e => by cases e; exact ⟨_, hφ, .inr ⟨g, rfl, rfl⟩⟩⟩
    · cases hd
  · split at hd
    · rename_i e z N' cs hH
      cases hd
      simp only [repV, rep] at hr
      obtain ⟨A, N, cap, hφ, hn, rfl⟩ := hr
      obtain ⟨v, vs, hv, ho, _⟩ := h.heap _ _ (V.heap hH)
      rw [hφ] at hv
      cases hv
      obtain ⟨_, hN, hA⟩ := own_nil ho
      rcases hA with ⟨rfl, h4, _⟩ | ⟨g, rfl⟩
      · exact ⟨none, cap, rfl, fun i off e => by cases e; exact ⟨_, hφ, .inl (by omega)⟩⟩
      · exact ⟨_, cap, rfl, fun i off e => by cases e; exact ⟨_, hφ, .inr ⟨g, rfl, rfl⟩⟩⟩
    · cases hd
  · cases hd
    simp only [repV, rep] at hr
    obtain ⟨A, rfl⟩ := hr
    exact ⟨A, 0, rfl, fun i off e => by cases e⟩
  · cases hd
    simp only [repV, rep] at hr
    obtain ⟨rfl, _⟩ := hr
    exact ⟨none, 0, rfl, fun i off e => by cases e⟩
  · cases hd

def CopyPost (C : Ctx) (φ : Id → Option Value) (F0 F1 : Nat → Prop) (σ : St) (H : Id → Option Blk) (a : Act) (w w' : World) : Option (Id × Blk) → Prop
  | none => w' = w
  | some (i, b) => σ.H i ≠ none ∧ H i ≠ none ∧ RelX C φ F0 F1 { σ with H := upd σ.H i (some b) } a w' ∧ (∃ e n cs, b = .arr e 1 n cs ∧ allC cs = true)
theorem vcopy_run (h : RelX C φ F0 F1 σ a w) (V : View φ w (Fs F0 F1) a σ ρ H) {c : Call} {k : Nat} {o : Option (Id × Blk)} (hcal : c.callee = .builtin .copy) (hv : vcopy C.P ρ H c = some (k, o)) :
    ∃ w', (execOp a.eval ⟨d, .call c, ty, pos, af, gd⟩).run C.P w = .ok (.value (.int .i64 k)) w' ∧ CopyPost C φ F0 F1 σ H a w w' o := by
  obtain ⟨cal, ar, at_⟩ := c
  simp only at hcal
  subst hcal
  unfold vcopy at hv
  split at hv
  · rename_i x y t t' hx ht
    split at hv
    · rename_i e he
      split at hv
      · rename_i hs
        split at hv
        · rename_i on my hd hn
          obtain ⟨o', n⟩ := on
          obtain ⟨m, ys⟩ := my
          simp only at hx ht
          have hw0 : (if minN m n = 0 then some (0, none) else copyTo H (minN m n) ys o') = some (k, o) := hv
          obtain rfl := list2 hx
          obtain rfl := list2 ht
          obtain ⟨p, hp, hd⟩ := Option.bind_eq_some_iff.1 hd
          obtain ⟨q, hq, hn⟩ := Option.bind_eq_some_iff.1 hn
          obtain ⟨A, cap, hxe, hA⟩ := dstOf_rep h V (V.ev hp) hd
          obtain ⟨A', cap', news, hye, hA', hnl, hrn⟩ := newsOf_rep h V (V.ev hq) hn
          obtain ⟨inf, hinf, hsz⟩ := Option.map_eq_some_iff.1 (show (C.P.info? e).map (·.size) = some 1 from hs)
          split at hw0
          · rename_i h0
            cases hw0
            refine ⟨w, ?_, rfl⟩
            have hfc : ∀ W : World, (Builtin.firstCells 1 0 (.slice A' m cap')).run C.P W = .ok #[] W := by
              intro W
              cases A' with
              | none => rfl
              | some a => simp [Builtin.firstCells, loadCells, loadCellsFrom]
            have h0' : min m n = 0 := h0
            cases A with
            | none => simp [execOp, resolve, invoke, builtin, hxe, hye, Builtin.copy_, run_underlying (elemT_spec he), sizeOf, typeInfo, hinf, hsz, Builtin.lenOf, h0', hfc, goInt]
            | some ad => simp [execOp, resolve, invoke, builtin, hxe, hye, Builtin.copy_, run_underlying (elemT_spec he), sizeOf, typeInfo, hinf, hsz, Builtin.lenOf, h0', hfc, goInt, storeCells]
          · rename_i h0
            have h0 : ¬ min m n = 0 := h0
            unfold copyTo at hw0
            split at hw0
            · rename_i i off hoe
              split at hw0
              · rename_i e' z N cs hH
                split at hw0
                rotate_left
                · cases hw0
                rename_i hc
                cases hw0
                simp only [Bool.and_eq_true, beq_iff_eq, decide_eq_true_eq] at hc
                obtain ⟨⟨⟨rfl, hc1⟩, hc2⟩, hfit⟩ := hc
                have hfit : off + min m n ≤ N := hfit
                have hmn : minN m n = min m n := rfl
                rw [hmn]
                obtain ⟨u, hu, hAg⟩ := hA i off rfl
                obtain ⟨g, hg, rfl⟩ := hAg.resolve_left (by omega)
                obtain ⟨ad, rfl, hnews⟩ := hA'.resolve_left (by omega)
                obtain ⟨v, vs, hw0', ⟨hlen, ho⟩, hrs⟩ := h.heap _ _ (V.heap hH)
                rw [hu] at hw0'
                cases hw0'
                rcases ho with ⟨rfl, _⟩ | ⟨g', cap1, cur, rfl, h00, hheap, hnc, hcm, hcs, htake⟩
                · simp [blkOf] at hg
                simp only [blkOf, Option.some.injEq] at hg
                subst hg
                have hnl' : news.length = m := by simpa using hnl
                have hcl : (news.take (min m n)).length = min m n := by rw [List.length_take, hnl']; omega
                have hcy := run_copy_row (P := C.P) w t t' ty e g' off n cap ad m cap' cur e' (news.take (min m n)) (elemT_spec he) hs hheap (by rw [hcl])
                  (fun j v hj => hnews j v (by rw [List.getElem?_take] at hj; split at hj <;> simp_all)) (by rw [hcl]; omega) (fun v hw0 => reps_one _ _ hrn v (List.mem_of_mem_take hw0))
                refine ⟨w.setRow g' (splice cur.toList off (news.take (min m n))).toArray, ?_, ?_⟩
                · simp only [execOp, resolve, invoke, builtin, Sem.run_bind, Sem.run_pure, Result.andThen_ok, List.map_toArray, List.map_cons, List.map_nil, hxe, hye]
                  rw [hcy, hcl]
                  simp [Result.andThen, goInt, splice, hcl]
                · obtain ⟨hg0, _, _⟩ := h.apart i _ g' (by rw [V.heap hH]; simp) hu rfl
                  have hne : ∀ t' k, Fs F0 F1 t' k → k ≠ g' := by
                    rintro t' k hk rfl
                    exact hg0 (Fs_f0 h.sub t' k hk)
                  refine ⟨by rw [V.heap hH]; simp, by rw [hH]; simp, ?_, _, _, _, rfl, ?_⟩
                  · have hvl : vs.length = N := by simpa using hlen
                    have hcl2 : cur.toList.length = cap1 := by rw [Array.length_toList]; simpa using hcs
                    refine h.write (by rw [V.heap hH]; simp) hu rfl rfl rfl rfl (by simp) (fun k hk => setRow_other w g' k _ hk) ⟨_, splice vs off (news.take (min m n)), hu, ⟨?_, .inr ⟨g', cap1, _, rfl, h00, setRow_heap w g' cur _ e' (0, 0) hheap, hnc, hcm, ?_, ?_⟩⟩, ?_⟩
                    · rw [splice_length _ _ _ (by rw [hcl]; omega), hlen]
                    · simp only [List.size_toArray]
                      rw [splice_length _ _ _ (by rw [hcl]; omega), hcl2, Nat.mul_one]
                    · simp only []
                      rw [splice_take _ _ _ _ (by rw [hcl]; omega) (by rw [hcl2]; omega), htake]
                    · refine reps_mono (fun _ _ e => e) (fun t' k hk => setRow_other w g' k _ (hne t' k hk)) (fun _ _ e => e) _ _ (reps_splice hrs (reps_take hrn _))
                  · have happ : ∀ a b : List PC, allC (a ++ b) = (allC a && allC b) := by
                      intro a b
                      induction a with
                      | nil => rfl
                      | cons p a ih => cases p <;> simp [allC, ih]
                    have htk : ∀ (l : List PC) k, allC l = true → allC (l.take k) = true := by
                      intro l k hl
                      have := List.take_append_drop k l
                      rw [← this, happ, Bool.and_eq_true] at hl
                      exact hl.1
                    have hdr : ∀ (l : List PC) k, allC l = true → allC (l.drop k) = true := by
                      intro l k hl
                      have := List.take_append_drop k l
                      rw [← this, happ, Bool.and_eq_true] at hl
                      exact hl.2
                    unfold splice
                    rw [happ, happ, htk _ _ hc1, htk _ _ hc2, hdr _ _ hc1]
                    rfl
              · cases hw0
            · cases hw0
        · cases hv
      · cases hv
    · cases hv
  · cases hv

theorem allC_append : ∀ a b : List PC, allC (a ++ b) = (allC a && allC b) := by
  intro a b
  induction a with
  | nil => rfl
  | cons p a ih => cases p <;> simp [allC, ih]
theorem allC_splice {a b : List PC} (k : Nat) (ha : allC a = true) (hb : allC b = true) : allC (splice a k b) = true := by
  have htk : ∀ k, allC (a.take k) = true := by
    intro k
    have := List.take_append_drop k a
    rw [← this, allC_append, Bool.and_eq_true] at ha
    exact ha.1
  have hdr : ∀ k, allC (a.drop k) = true := by
    intro k
    have := List.take_append_drop k a
    rw [← this, allC_append, Bool.and_eq_true] at ha
    exact ha.2
  unfold splice
  rw [allC_append, allC_append, htk, hb, hdr]
  rfl
theorem appC_run (h : RelX C φ F0 F1 σ a w) (V : View φ w (Fs F0 F1) a σ ρ H) {c : Call} {i : Id} {n : Nat} {b : Blk} (hcal : c.callee = .builtin .append) (hv : appC C.P ρ H c = some (i, n, b)) :
    ∃ w' x, (execOp a.eval ⟨d, .call c, ty, pos, af, gd⟩).run C.P w = .ok (.value x) w' ∧ H i ≠ none ∧ RelX C φ F0 F1 { σ with H := upd σ.H i (some b) } a w' ∧ repV φ w' (Fs F0 F1) (.one (.cut i n)) x ∧ (∃ e n cs, b = .arr e 1 n cs ∧ allC cs = true) := by
  obtain ⟨cal, ar, at_⟩ := c
  simp only at hcal
  subst hcal
  unfold appC at hv
  split at hv
  rotate_left
  · cases hv
  rename_i s x t t' hx ht
  simp only at hx ht
  split at hv
  rotate_left
  · cases hv
  rename_i i0 k hs
  split at hv
  rotate_left
  · cases hv
  rename_i j off m hy
  split at hv
  rotate_left
  · cases hv
  rename_i hij
  obtain ⟨rfl, rfl⟩ := hij
  split at hv
  rotate_left
  · cases hv
  rename_i e e' z N cs he hH
  split at hv
  rotate_left
  · cases hv
  rename_i m' ys hz hn
  split at hv
  rotate_left
  · cases hv
  rename_i hc
  cases hv
  simp only [Bool.and_eq_true, beq_iff_eq, decide_eq_true_eq] at hc
  obtain ⟨⟨⟨⟨hfit, rfl⟩, rfl⟩, hc1⟩, hc2⟩ := hc
  obtain rfl := list2 hx
  obtain rfl := list2 ht
  have hsr := V.ev hs
  simp only [repV, rep] at hsr
  obtain ⟨A, N', cap, hφ, hkN, hse⟩ := hsr
  obtain ⟨A', cap', news, hye, hA', hnl, hrn⟩ := newsOf_rep h V (V.ev hy) hn
  obtain ⟨inf, hinf, hsz⟩ := Option.map_eq_some_iff.1 (show (C.P.info? e).map (·.size) = some 1 from hz)
  obtain ⟨v, vs, hv0, hown, hrs⟩ := h.heap _ _ (V.heap hH)
  rw [hφ] at hv0
  cases hv0
  have hnl' : news.length = m' := by simpa using hnl
  have hallS : allC (splice cs k ys) = true := allC_splice k hc1 hc2
  obtain ⟨rfl, _, hAn⟩ := own_nil hown
  obtain ⟨hlen, ho⟩ := hown
  by_cases h0 : m' = 0
  · subst h0
    have hys : ys = [] := by
      have := reps_length _ _ hrn
      cases ys with
      | nil => rfl
      | cons _ _ => simp [List.eq_nil_of_length_eq_zero hnl'] at this
    subst hys
    have hfc : ∀ W : World, (Builtin.firstCells 1 0 (.slice A' 0 cap')).run C.P W = .ok #[] W := by
      intro W
      cases A' with
      | none => rfl
      | some a => simp [Builtin.firstCells, loadCells, loadCellsFrom]
    have hcapk : k ≤ cap := by
      rcases ho with ⟨hx, h2⟩ | ⟨g', cap1, cur, hx, _, _, hnc, _⟩
      · cases hx; omega
      · cases hx; omega
    refine ⟨w, .slice A k cap, ?_, by rw [hH]; simp, ?_, ?_, _, _, _, rfl, hallS⟩
    · cases A with
      | none =>
        obtain ⟨_, hN0, hc0⟩ := hAn.resolve_right (by simp)
        have hk0 : k = 0 := by omega
        rw [hk0, hc0] at hse
        simp [execOp, resolve, invoke, builtin, hse, hye, Builtin.append_, run_underlying (elemT_spec he), sizeOf, typeInfo, hinf, hsz, Builtin.lenOf, hfc, storeCells, hk0, hc0]
      | some ad => simp [execOp, resolve, invoke, builtin, hse, hye, Builtin.append_, run_underlying (elemT_spec he), sizeOf, typeInfo, hinf, hsz, Builtin.lenOf, hfc, storeCells, hcapk]
    · have hsp : splice cs k ([] : List PC) = cs := splice_nil _ _
      have hup : upd σ.H i (some (.arr e 1 N (splice cs k []))) = σ.H := by
        funext j
        by_cases hj : j = i
        · subst hj; rw [upd_self, hsp]; exact (V.heap hH).symm
        · rw [upd_ne _ _ hj]
      rw [hup]
      exact h
    · simp only [repV, rep]
      exact ⟨A, N, cap, hφ, by omega, by simp⟩
  · obtain ⟨ad, rfl, hnews⟩ := hA'.resolve_left h0
    rcases ho with ⟨hx, h2⟩ | ⟨g', cap1, cur, hx, h00, hheap, hnc, hcm, hcs, htake⟩
    · omega
    cases hx
    have hcl2 : cur.toList.length = cap := by rw [Array.length_toList]; simpa using hcs
    have hcs' : cur.size = cap := by simpa using hcs
    have hr := run_append_room (P := C.P) w t ty e inf (elemT_spec he) hinf g' k cap cur hheap ad m' cap' news (by rw [hsz]; exact hnl) hnews (fun v hv => reps_one _ _ hrn v hv) (by omega) (by rw [hsz, hnl']; omega)
    rw [hsz, Nat.mul_one] at hr
    refine ⟨w.setRow g' (splice cur.toList k news).toArray, .slice (some ⟨g', 0, none⟩) (k + m') cap, ?_, by rw [hH]; simp, ?_, ?_, _, _, _, rfl, hallS⟩
    · simp only [execOp, resolve, invoke, builtin, Sem.run_bind, Sem.run_pure, Result.andThen_ok, List.map_toArray, List.map_cons, List.map_nil, hse, hye]
      rw [hr]
      simp [Result.andThen, splice]
    · obtain ⟨hg0, _, _⟩ := h.apart i _ g' (by rw [V.heap hH]; simp) hφ rfl
      have hne : ∀ t' k, Fs F0 F1 t' k → k ≠ g' := by
        rintro t' k hk rfl
        exact hg0 (Fs_f0 h.sub t' k hk)
      have hvl : vs.length = N := by simpa using hlen
      refine h.write (by rw [V.heap hH]; simp) hφ rfl rfl rfl rfl (by simp) (fun k hk => setRow_other w g' k _ hk) ⟨_, splice vs k news, hφ, ⟨?_, .inr ⟨g', cap, _, rfl, h00, setRow_heap w g' cur _ e (0, 0) hheap, hnc, hcm, ?_, ?_⟩⟩, ?_⟩
      · rw [splice_length _ _ _ (by rw [hnl']; omega), hlen]
      · simp only [List.size_toArray]
        rw [splice_length _ _ _ (by rw [hnl']; omega), hcl2, Nat.mul_one]
      · simp only []
        rw [splice_take _ _ _ _ (by rw [hnl']; omega) (by rw [hcl2]; omega), htake]
      · refine reps_mono (fun _ _ e => e) (fun t' k hk => setRow_other w g' k _ (hne t' k hk)) (fun _ _ e => e) _ _ (reps_splice hrs hrn)
    · simp only [repV, rep]
      exact ⟨_, N, cap, hφ, by omega, rfl⟩

def ClearPost (C : Ctx) (φ : Id → Option Value) (F0 F1 : Nat → Prop) (σ : St) (a : Act) (w w' : World) : Option (Id × Blk) → Prop
  | none => w' = w
  | some (i, b) => RelX C φ F0 F1 { σ with H := upd σ.H i (some b) } a w'
theorem vclear_run (h : RelX C φ F0 F1 σ a w) (V : View φ w (Fs F0 F1) a σ ρ H) {c : Call} {o : Option (Id × Blk)} (hcal : c.callee = .builtin .clear) (hv : vclear C.P ρ H c = some o) :
    ∃ w', (execOp a.eval ⟨d, .call c, ty, pos, af, gd⟩).run C.P w = .ok (.value (.tuple #[])) w' ∧ ClearPost C φ F0 F1 σ a w w' o := by
  obtain ⟨cal, ar, at_⟩ := c
  simp only at hcal
  subst hcal
  unfold vclear at hv
  split at hv
  rotate_left
  · cases hv
  rename_i x t hx ht
  split at hv
  rotate_left
  · cases hv
  rename_i e he
  split at hv
  rotate_left
  · cases hv
  rename_i u on hz hd
  obtain ⟨o', n⟩ := on
  simp only at hx ht
  obtain rfl := list1 hx
  obtain rfl := list1 ht
  obtain ⟨p, hp, hd⟩ := Option.bind_eq_some_iff.1 hd
  obtain ⟨A, cap, hxe, hA⟩ := dstOf_rep h V (V.ev hp) hd
  obtain ⟨zv, hzv, hzc, hzr⟩ := zero_rep (φ := φ) (w := w) (F := Fs F0 F1) hz
  have hzl : zv.cells.toList = [u] := by
    cases hl : zv.cells.toList with
    | nil => rw [hl] at hzc; cases hzc
    | cons v vs =>
      rw [hl] at hzc
      simp only [List.map_cons, List.cons.injEq, PC.c.injEq] at hzc
      obtain ⟨rfl, h2⟩ := hzc
      cases vs with
      | nil => rfl
      | cons _ _ => cases h2
  have hza : zv.cells = #[u] := by rw [← Array.toArray_toList (xs := zv.cells), hzl]
  have hu1 : u.oneCell' = true := by
    rw [hzl] at hzr
    simp only [reps, rep] at hzr
    obtain ⟨v, vs, hvs, hv1, _⟩ := hzr
    cases hvs
    exact hv1.2
  have hru : ∀ k, reps φ w (Fs F0 F1) (List.replicate k (PC.c u)) (List.replicate k u) := by
    intro k
    refine reps_of_get _ _ (by simp) fun j q v hq hv => ?_
    rw [List.getElem?_replicate] at hq hv
    split at hq
    · rename_i hj
      simp only [hj, if_true, Option.some.injEq] at hq hv
      subst hq hv
      simp only [rep]
      exact ⟨trivial, hu1⟩
    · cases hq
  split at hv
  · rename_i h0
    cases hv
    have h0 : n = 0 := h0
    subst h0
    refine ⟨w, ?_, rfl⟩
    cases A with
    | none => simp [execOp, resolve, invoke, builtin, hxe, Builtin.clear_, run_underlying (elemT_spec he)]
    | some ad => simp [execOp, resolve, invoke, builtin, hxe, Builtin.clear_, run_underlying (elemT_spec he)]
  · rename_i h0
    have h0 : ¬ n = 0 := h0
    have hv : clearTo H u n o' = some o := hv
    unfold clearTo at hv
    split at hv
    rotate_left
    · cases hv
    rename_i i off hd hA_
    split at hv
    rotate_left
    · cases hv
    rename_i e' z N cs hH
    split at hv
    rotate_left
    · cases hv
    rename_i hc
    cases hv
    simp only [Bool.and_eq_true, beq_iff_eq, decide_eq_true_eq] at hc
    obtain ⟨rfl, hfit⟩ := hc
    obtain ⟨u', hu, hAg⟩ := hA i off rfl
    obtain ⟨g, hg, rfl⟩ := hAg.resolve_left h0
    obtain ⟨v, vs, hw0', ⟨hlen, ho⟩, hrs⟩ := h.heap _ _ (V.heap hH)
    rw [hu] at hw0'
    cases hw0'
    rcases ho with ⟨rfl, _⟩ | ⟨g', cap1, cur, rfl, h00, hheap, hnc, hcm, hcs, htake⟩
    · simp [blkOf] at hg
    simp only [blkOf, Option.some.injEq] at hg
    subst hg
    have hcl : (List.replicate n u).length = n := by simp
    have hcl2 : cur.toList.length = cap1 := by rw [Array.length_toList]; simpa using hcs
    have hzcs : (Builtin.zeroCells zv.cells n).toList = List.replicate n u := by
      rw [hza]
      simp [Builtin.zeroCells]
      apply List.ext_getElem
      · simp
      · intro i h1 h2
        simp [Nat.mod_one]
    have hst := run_storeCells_at C.P g' off e' (List.replicate n u) 0 cur w hheap (by rw [hcl]; have := hcl2; rw [Array.length_toList] at this; omega) (fun v hv' => by rw [List.eq_of_mem_replicate hv']; exact hu1)
    refine ⟨w.setRow g' (splice cur.toList off (List.replicate n u)).toArray, ?_, ?_⟩
    · obtain ⟨m, rfl⟩ : ∃ m, n = m + 1 := ⟨n - 1, by omega⟩
      simp only [execOp, resolve, invoke, builtin, Sem.run_bind, Sem.run_pure, Result.andThen_ok, List.map_toArray, List.map_cons, List.map_nil, hxe]
      simp [Builtin.clear_, run_underlying (elemT_spec he), run_zeroValue' hzv, hzcs, hst, splice]
    · obtain ⟨hg0, _, _⟩ := h.apart i _ g' (by rw [V.heap hH]; simp) hu rfl
      have hne : ∀ t' k, Fs F0 F1 t' k → k ≠ g' := by
        rintro t' k hk rfl
        exact hg0 (Fs_f0 h.sub t' k hk)
      have hvl : vs.length = N := by simpa using hlen
      refine h.write (by rw [V.heap hH]; simp) hu rfl rfl rfl rfl (by simp) (fun k hk => setRow_other w g' k _ hk) ⟨_, splice vs off (List.replicate n u), hu, ⟨?_, .inr ⟨g', cap1, _, rfl, h00, setRow_heap w g' cur _ e' (0, 0) hheap, hnc, hcm, ?_, ?_⟩⟩, ?_⟩
      · rw [splice_length _ _ _ (by rw [hcl]; omega), hlen]
      · simp only [List.size_toArray]
        rw [splice_length _ _ _ (by rw [hcl]; omega), hcl2, Nat.mul_one]
      · simp only []
        rw [splice_take _ _ _ _ (by rw [hcl]; omega) (by rw [hcl2]; omega), htake]
      · refine reps_mono (fun _ _ e => e) (fun t' k hk => setRow_other w g' k _ (hne t' k hk)) (fun _ _ e => e) _ _ (reps_splice hrs (hru n))

theorem appE_none (h : RelX C φ F0 F1 σ a w) (V : View φ w (Fs F0 F1) a σ ρ H) {c : Call} (hcal : c.callee = .builtin .append) (hv : appE C.P ρ H c = some none) :
    ∃ x, (execOp a.eval ⟨d, .call c, ty, pos, af, gd⟩).run C.P w = .ok (.value x) w ∧ repV φ w (Fs F0 F1) (.one .emp) x := by
  obtain ⟨cal, ar, at_⟩ := c
  simp only at hcal
  subst hcal
  unfold appE at hv
  split at hv
  · rename_i s x t t' hs ht
    split at hv
    · rename_i hse
      split at hv
      · rename_i htt
        subst htt
        split at hv
        · rename_i e he
          split at hv
          · rename_i z by_ zc hz hby hzc
            split at hv
            · rename_i hzl
              split at hv
              · rename_i ys hn
                simp only at hs ht
                obtain rfl := list2 hs
                obtain rfl := list2 ht
                obtain ⟨q2, hq2, hn⟩ := Option.bind_eq_some_iff.1 hn
                obtain ⟨A, cap, news, hx, hA, hnl, hrn⟩ := newsOf_rep h V (V.ev hq2) hn
                have hsr := V.ev hse
                simp only [repV, rep] at hsr
                obtain ⟨B, hsr⟩ := hsr
                obtain ⟨inf, hinf, rfl⟩ := Option.map_eq_some_iff.1 (show (C.P.info? e).map (·.size) = some z from hz)
                refine ⟨.slice B 0 0, ?_, by simp only [repV, rep]; exact ⟨B, rfl⟩⟩
                have hfc : ∀ W : World, (Builtin.firstCells inf.size 0 (.slice A 0 cap)).run C.P W = .ok #[] W := by
                  intro W
                  cases A with
                  | none => rfl
                  | some a => simp [Builtin.firstCells, loadCells, loadCellsFrom]
                cases B with
                | none => simp [execOp, resolve, invoke, builtin, hx, hsr, Builtin.append_, run_underlying (elemT_spec he), sizeOf, typeInfo, hinf, Builtin.lenOf, hfc]
                | some b => simp [execOp, resolve, invoke, builtin, hx, hsr, Builtin.append_, run_underlying (elemT_spec he), sizeOf, typeInfo, hinf, Builtin.lenOf, hfc, storeCells]
              · split at hv <;> cases hv
              · cases hv
            · cases hv
          · cases hv
        · cases hv
      · cases hv
    · split at hv
      · split at hv
        · split at hv
          · split at hv
            · split at hv
              · split at hv <;> cases hv
              · cases hv
            · cases hv
          · cases hv
        · cases hv
      · cases hv
    · cases hv
  · cases hv

theorem append_run0 (t ty e : TypeId) (i : TypeInfo) (z : Value) (size bytes : Nat) (ht : P.underlying t = some (.slice e)) (hi : P.info? e = some i) (hz : i.zero = some z)
    (hsize : i.size = size) (hby : i.bytes = bytes) (hzs : z.cells.size = size) (B A : Option Addr) (m c : Nat) (news : List Value) (hm : 0 < m) (hA : m = 0 ∨ ∃ a, A = some a ∧ ∀ j u, news[j]? = some u → w.cell? (a.add j) = some u) (hl : news.length = m * size) (h1 : ∀ u ∈ news, u.oneCell' = true)
    (h63 : m ≤ maxLen) (hbytes : m * bytes ≤ 140737488355328) :
    ∃ v' w', (Builtin.append_ #[t, t] ty #[.slice B 0 0, .slice A m c]).run P w = .ok v' w' ∧ w'.ownsRow 0 e size v' m news ∧ w.grownBy w' none ∧ ∃ g, blkOf v' = some g ∧ w.heap.size ≤ g := by
  subst hsize
  subst hby
  obtain ⟨a, rfl, hnews⟩ := hA.resolve_left (by omega)
  have hsmall : m ≤ 9223372036854775807 := by simp only [maxLen] at h63; omega
  have hge := grownCap_ge w m 0 e
  have hcm : grownCap w m 0 e ≤ maxLen := grownCap_le_maxLen w m 0 e h63
  have key : (w.drew.alloc (.cells (news.toArray ++ Builtin.zeroCells z.cells (grownCap w m 0 e - m)) e)).ownsRow 0 e i.size
          (.slice (some ⟨w.heap.size, 0, none⟩) m (grownCap w m 0 e)) m news ∧
        w.grownBy (w.drew.alloc (.cells (news.toArray ++ Builtin.zeroCells z.cells (grownCap w m 0 e - m)) e)) none := by
    refine ⟨⟨hl, .inr ⟨w.heap.size, _, _, rfl, Nat.zero_le _, heap_alloc_new w.drew _, hge, hcm, ?_, ?_⟩⟩, ⟨rfl, rfl, rfl, by simp, fun k hk _ => heap_alloc_old w.drew _ k hk⟩⟩
    · simp only [Array.size_append, List.size_toArray, size_zeroCells, hzs, hl, ← Nat.add_mul]
      congr 1
      omega
    · simp only [Array.toList_append]
      rw [← hl]
      exact List.take_left
  cases B with
  | none =>
    have hr := run_append_nil (P := P) w t ty e i z ht hi hz a m c news hl hnews (by omega) (by omega) (by omega)
    exact ⟨_, _, hr, key.1, key.2, _, rfl, Nat.le_refl _⟩
  | some b =>
    have hr := run_append_grow (P := P) w t ty e i z ht hi hz b 0 0 [] (by simp) (by simp) a m c news hl hnews (by omega) (by omega) (growslice_fits (by omega) (by simpa using hbytes))
    simp only [Nat.zero_add, Array.empty_append] at hr
    exact ⟨_, _, hr, key.1, key.2, _, rfl, Nat.le_refl _⟩

theorem append_runF (t ty e : TypeId) (i : TypeInfo) (z : Value) (size bytes : Nat) (ht : P.underlying t = some (.slice e)) (hi : P.info? e = some i) (hz : i.zero = some z)
    (hsize : i.size = size) (hby : i.bytes = bytes) (hzs : z.cells.size = size) (B A : Option Addr) (n m c : Nat) (olds news : List Value) (hm : 0 < m) (hA : m = 0 ∨ ∃ a, A = some a ∧ ∀ j u, news[j]? = some u → w.cell? (a.add j) = some u) (hl : news.length = m * size)
    (hB : n = 0 ∨ ∃ a, B = some a ∧ ∀ j u, olds[j]? = some u → w.cell? (a.add j) = some u) (hlo : olds.length = n * size) (h63 : n + m ≤ maxLen) (hbytes : (n + m) * bytes ≤ 140737488355328) :
    ∃ v' w', (Builtin.append_ #[t, t] ty #[.slice B n n, .slice A m c]).run P w = .ok v' w' ∧ w'.ownsRow 0 e size v' (n + m) (olds ++ news) ∧ w.grownBy w' none ∧ ∃ g, blkOf v' = some g ∧ w.heap.size ≤ g := by
  subst hsize
  subst hby
  obtain ⟨a, rfl, hnews⟩ := hA.resolve_left (by omega)
  have hsmall : n + m ≤ 9223372036854775807 := by simp only [maxLen] at h63; omega
  have hge := grownCap_ge w (n + m) n e
  have hcm : grownCap w (n + m) n e ≤ maxLen := grownCap_le_maxLen w (n + m) n e h63
  have hge0 := grownCap_ge w m 0 e
  have key : ∀ cap : Nat, n + m ≤ cap → cap ≤ maxLen → (w.drew.alloc (.cells (olds.toArray ++ news.toArray ++ Builtin.zeroCells z.cells (cap - (n + m))) e)).ownsRow 0 e i.size
          (.slice (some ⟨w.heap.size, 0, none⟩) (n + m) cap) (n + m) (olds ++ news) ∧
        w.grownBy (w.drew.alloc (.cells (olds.toArray ++ news.toArray ++ Builtin.zeroCells z.cells (cap - (n + m))) e)) none := by
    intro cap h1 h2
    have hlen : (olds ++ news).length = (n + m) * i.size := by rw [List.length_append, hl, hlo, Nat.add_mul]
    refine ⟨⟨hlen, .inr ⟨w.heap.size, _, _, rfl, Nat.zero_le _, heap_alloc_new w.drew _, h1, h2, ?_, ?_⟩⟩, ⟨rfl, rfl, rfl, by simp, fun k hk _ => heap_alloc_old w.drew _ k hk⟩⟩
    · rw [List.length_append] at hlen
      simp only [Array.size_append, List.size_toArray, size_zeroCells, hzs]
      rw [hlen, ← Nat.add_mul]
      congr 1
      omega
    · simp only [Array.toList_append]
      rw [← hlen]
      exact List.take_left
  by_cases hn : n = 0
  · subst hn
    have ho : olds = [] := List.eq_nil_of_length_eq_zero (by rw [hlo]; simp)
    subst ho
    cases B with
    | none =>
      have hb0 : m * i.bytes ≤ 140737488355328 := by simpa using hbytes
      have hr := run_append_nil (P := P) w t ty e i z ht hi hz a m c news hl hnews (by omega) (by omega) (by omega)
      simp only [Nat.zero_add] at key hr ⊢
      have k := key (grownCap w m 0 e) hge0 (grownCap_le_maxLen w m 0 e (by omega))
      simp only [Array.empty_append, List.nil_append] at k ⊢
      exact ⟨_, _, hr, k.1, k.2, _, rfl, Nat.le_refl _⟩
    | some b =>
      have hr := run_append_grow (P := P) w t ty e i z ht hi hz b 0 0 [] (by simp) (by simp) a m c news hl hnews (by omega) (by omega) (growslice_fits (by omega) (by simpa using hbytes))
      have k := key (grownCap w (0 + m) 0 e) hge hcm
      exact ⟨_, _, hr, k.1, k.2, _, rfl, Nat.le_refl _⟩
  · obtain ⟨b, rfl, holds⟩ := hB.resolve_left hn
    have hr := run_append_grow (P := P) w t ty e i z ht hi hz b n n olds hlo holds a m c news hl hnews (by omega) (by omega) (growslice_fits (by omega) hbytes)
    have k := key (grownCap w (n + m) n e) hge hcm
    exact ⟨_, _, hr, k.1, k.2, _, rfl, Nat.le_refl _⟩

theorem appE_some (h : RelX C φ F0 F1 σ a w) (V : View φ w (Fs F0 F1) a σ ρ H) {c : Call} {b : Blk} {d : Nat} (hcal : c.callee = .builtin .append)
    (hv : appE C.P ρ H c = some (some b)) (hus : σ.us d = false) :
    ∃ x w' φ', (execOp a.eval ⟨some d, .call c, ty, pos, af, gd⟩).run C.P w = .ok (.value x) w' ∧
      RelX C φ' F0 F1 { σ with H := upd (kill σ.H none) (σ.nx + d, 0) (some b), us := upd σ.us d true } a w' ∧ repV φ' w' (Fs F0 F1) (.one (.own (σ.nx + d, 0))) x := by
  obtain ⟨cal, ar, at_⟩ := c
  simp only at hcal
  subst hcal
  unfold appE at hv
  split at hv
  · rename_i s x t t' hs ht
    split at hv
    · rename_i hse
      split at hv
      · rename_i htt
        subst htt
        split at hv
        · rename_i e he
          split at hv
          · rename_i z by_ zc hz hby hzc
            split at hv
            · rename_i hzl
              split at hv
              · cases hv
              · rename_i m ys hm0 hn
                split at hv
                · cases hv
                  rename_i hlim
                  simp only at hs ht
                  obtain rfl := list2 hs
                  obtain rfl := list2 ht
                  obtain ⟨q2, hq2, hn⟩ := Option.bind_eq_some_iff.1 hn
                  obtain ⟨A, cap, news, hx, hA, hnl, hrn⟩ := newsOf_rep h V (V.ev hq2) hn
                  have hm : 0 < m := Nat.pos_of_ne_zero fun e => by subst e; first | exact hm0 _ rfl | exact (hm0 rfl) | exact hm0
                  have hsr := V.ev hse
                  simp only [repV, rep] at hsr
                  obtain ⟨B, hsr⟩ := hsr
                  obtain ⟨zv, hzv, hzce, _⟩ := zero_rep (φ := φ) (w := w) (F := Fs F0 F1) hzc
                  obtain ⟨inf, hinf, rfl⟩ := Option.map_eq_some_iff.1 (show (C.P.info? e).map (·.size) = some z from hz)
                  have hby' : inf.bytes = by_ := by
                    have : (C.P.info? e).map (·.bytes) = some by_ := hby
                    rw [hinf] at this; simpa using this
                  have hz0 : inf.zero = some zv := by
                    have : (C.P.info? e).bind (·.zero) = some zv := hzv
                    rw [hinf] at this; simpa using this
                  have hzs : zv.cells.size = inf.size := by rw [← hzl, hzce]; simp
                  obtain ⟨v', w', hrun, ho', hgr, hbl⟩ := append_run0 (P := C.P) t ty e inf zv inf.size by_ (elemT_spec he) hinf hz0 rfl hby' hzs B A m cap news hm hA hnl (reps_one _ _ hrn) (by unfold maxLen; omega) hlim.1
                  have hexec : (execOp a.eval ⟨some d, .call ⟨.builtin .append, #[s, x], #[t, t]⟩, ty, pos, af, gd⟩).run C.P w = .ok (.value v') w' := by
                    simp only [execOp, resolve, invoke, builtin, Sem.run_bind, Sem.run_pure, Result.andThen_ok, List.map_toArray, List.map_cons, List.map_nil, hx, hsr, hrun]
                  have := app_tail (v := .slice none 0 0) (n := 0) (cs := []) (vs := []) (i := none) h hus hexec rfl (by simp only [reps]) hrn (by simpa using ho') hgr (.inr hbl)
                  simpa using this
                · cases hv
              · cases hv
            · cases hv
          · cases hv
        · cases hv
      · cases hv
    · rename_i q hse
      split at hv
      · rename_i htt
        subst htt
        split at hv
        · rename_i e he
          split at hv
          · rename_i z by_ zc hz hby hzc
            split at hv
            · rename_i hzl
              split at hv
              · rename_i n cs m ys hn0 hn
                split at hv
                · cases hv
                  rename_i hlim
                  simp only at hs ht
                  obtain rfl := list2 hs
                  obtain rfl := list2 ht
                  obtain ⟨q2, hq2, hn⟩ := Option.bind_eq_some_iff.1 hn
                  obtain ⟨A, cap, news, hx, hA, hnl, hrn⟩ := newsOf_rep h V (V.ev hq2) hn
                  have hsr := V.ev hse
                  simp only [repV] at hsr
                  obtain ⟨hsr, B, n', hse'⟩ := hsr
                  obtain ⟨B', cap', olds, hxo, hB, hol, hro⟩ := newsOf_rep (p := .one q) h V (by simp only [repV]; exact hsr) hn0
                  rw [hse'] at hxo
                  cases hxo
                  obtain ⟨zv, hzv, hzce, _⟩ := zero_rep (φ := φ) (w := w) (F := Fs F0 F1) hzc
                  obtain ⟨inf, hinf, rfl⟩ := Option.map_eq_some_iff.1 (show (C.P.info? e).map (·.size) = some z from hz)
                  have hby' : inf.bytes = by_ := by
                    have : (C.P.info? e).map (·.bytes) = some by_ := hby
                    rw [hinf] at this; simpa using this
                  have hz0 : inf.zero = some zv := by
                    have : (C.P.info? e).bind (·.zero) = some zv := hzv
                    rw [hinf] at this; simpa using this
                  have hzs : zv.cells.size = inf.size := by rw [← hzl, hzce]; simp
                  obtain ⟨v', w', hrun, ho', hgr, hbl⟩ := append_runF (P := C.P) t ty e inf zv inf.size by_ (elemT_spec he) hinf hz0 rfl hby' hzs B A n m cap olds news hlim.1 hA hnl hB hol (by unfold maxLen; omega) hlim.2.1
                  have hexec : (execOp a.eval ⟨some d, .call ⟨.builtin .append, #[s, x], #[t, t]⟩, ty, pos, af, gd⟩).run C.P w = .ok (.value v') w' := by
                    simp only [execOp, resolve, invoke, builtin, Sem.run_bind, Sem.run_pure, Result.andThen_ok, List.map_toArray, List.map_cons, List.map_nil, hx, hse', hrun]
                  exact app_tail (v := .slice none 0 0) (n := n) (cs := cs) (vs := olds) (i := none) h hus hexec rfl hro hrn (by simpa using ho') hgr (.inr hbl)
                · cases hv
              · cases hv
            · cases hv
          · cases hv
        · cases hv
      · cases hv
    · cases hv
  · cases hv
end
end Go.Vm
