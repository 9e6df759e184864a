/-
  Abstract states over the model's worlds, and that a step of them is a step of the program: part H of a framework. Conditions: each theorem's own premises. By an AI agent.
-/
import Derived.Test.YtnpbndglolcilaaDoorVmG
namespace Go.Vm
open Go Go.RowKit
set_option linter.unusedVariables false

/-! ### Regions that draw their order -/
def Upd.v (nx : Nat) : Upd → Option PV
  | .val _ p => some p
  | .new _ p _ => some p
  | .call d r _ => some (r.ren (nx + d))
  | .heap _ _ => none
  | .mv d _ _ => some (.one (.own (nx + d, 0)))
  | .io d M r _ => some (r.iob M (nx + d))

def Upd.dst : Upd → Option Nat
  | .val d _ => d
  | .new d _ _ => some d
  | .call d _ _ => some d
  | .heap _ _ => none
  | .mv d _ _ => some d
  | .io d _ _ _ => some d

def Upd.tag : Upd → Option Nat
  | .val _ _ => none
  | .new d _ _ => some d
  | .call d _ _ => some d
  | .heap _ _ => none
  | .mv d _ _ => some d
  | .io d _ _ _ => some d

def bchg (s : Nat) : Nat → List Blk → List (Id × Option Blk)
  | _, [] => []
  | k, b :: B => ((s, k), some (b.ren s)) :: bchg s (k + 1) B

def Upd.chg (nx : Nat) : Upd → List (Id × Option Blk)
  | .val _ _ => []
  | .new d _ b => [((nx + d, 0), some b)]
  | .call d _ B => bchg (nx + d) 0 B
  | .heap i b => [(i, some b)]
  | .mv d none b => [((nx + d, 0), some b)]
  | .mv d (some i) b => [(i, none), ((nx + d, 0), some b)]
  | .io d M _ B => ioChg M (nx + d) 0 B

def Upd.isM : Upd → Bool
  | .heap _ _ => true
  | .mv _ (some _) _ => true
  | .io _ _ _ _ => true
  | _ => false

def collect (nx : Nat) (vis : Nat → Bool) : Nat → List Upd → List (Id × Option Blk)
  | _, [] => []
  | k, U :: Us => (if vis k then U.chg nx else []) ++ collect nx vis (k + 1) Us

def frAt (nx : Nat) (vis late : Nat → Bool) (fr : Nat → Option PV) : Nat → List Oper → List Upd → Nat → Option PV
  | _, [], _, t => fr t
  | k, o :: ops, Us, t => if o.dst = some t then (if vis k then Us.head?.bind (Upd.v nx) else if late k then fr t else none) else frAt nx vis late fr (k + 1) ops Us.tail t

def isDep (D : List (List Nat)) (j k : Nat) : Bool := (D.getD k []).contains j

def reads : Op → Bool
  | .load .. => true
  | .indexAddr .. => true
  | .call _ => true
  | .store .. => true
  | .slice .. => true
  | .convert .. => true
  | _ => false

def masked (nx : Nat) (D : List (List Nat)) (k : Nat) : Nat → List Oper → Id → Bool
  | _, [], _ => false
  | j, o :: ops, i => (match o.dst with | some d => i.1 == nx + d && !isDep D j k && j != k | none => false) || masked nx D k (j + 1) ops i

def HAt (σ : St) (ops : List Oper) (D : List (List Nat)) (Us : List Upd) (k : Nat) (rd : Bool) (i : Id) : Option Blk :=
  if rd then (if masked σ.nx D k 0 ops i then none else applyC σ.H (collect σ.nx (isDep D · k) 0 Us) i) else none

def depOk (ops : List Oper) (D : List (List Nat)) : Bool :=
  (List.range ops.length).all fun k =>
    match ops[k]? with
    | none => true
    | some o => (o.after.toList.all fun e => !Region.binds .any e || decide (e.on < k)) && ((D.getD k []).all fun j => o.after.toList.any fun e => Region.binds .any e && (e.on == j || isDep D j e.on)) && o.guard.isNone

def dstsOk (ops : List Oper) : Bool :=
  (List.range ops.length).all fun j => (List.range ops.length).all fun k => j == k || ((ops[j]?).bind (·.dst)).isNone || (ops[j]?).bind (·.dst) != (ops[k]?).bind (·.dst)

def orderOk (ops : List Oper) (D : List (List Nat)) (Us : List Upd) : Bool :=
  (List.range ops.length).all fun j => !((Us[j]?).any Upd.isM) || (List.range ops.length).all fun k => j == k || !((ops[k]?).any (reads ·.op)) || isDep D j k || isDep D k j

/-- The operations of a region that draws its order: each of them as it runs behind no more than it waits for. -/
def anyRun (C : Ctx) (ops : List Oper) (D : List (List Nat)) (σ : St) : Nat → List Oper → List Upd → (St → Prop) → Prop
  | _, [], Us, Q => orderOk ops D Us = true ∧ Q (Us.foldl Upd.app σ)
  | k, o :: rest, Us, Q => opK C σ.nx (ev (frAt σ.nx (isDep D · k) (isDep D k) σ.fr 0 ops Us)) (HAt σ ops D Us k (reads o.op)) o.dst o.op fun U => U.fresh σ ∧ anyRun C ops D σ (k + 1) rest (Us ++ [U]) Q

section
variable {C : Ctx} {φ φ' : Id → Option Value} {F : Bool → Nat → Prop} {F0 F1 : Nat → Prop} {σ : St} {a : Act} {w w' : World} {P : Program} {ops : List Oper} {D : List (List Nat)} {Us : List Upd}

theorem applyC_append (H : Id → Option Blk) (L L' : List (Id × Option Blk)) : applyC H (L ++ L') = applyC (applyC H L) L' := by
  induction L generalizing H with
  | nil => rfl
  | cons c L ih => simp only [List.cons_append, applyC]; exact ih _

/-- The H that a list of changes comes to, at an id, hangs on H at this id and on the changes of this id alone. -/
theorem applyC_at (i : Id) : ∀ (L : List (Id × Option Blk)) (H H' : Id → Option Blk), H i = H' i → applyC H L i = applyC H' (L.filter fun c => c.1 = i) i
  | [], H, H', h => h
  | c :: L, H, H', h => by
    by_cases hc : c.1 = i
    · simp only [applyC]
      rw [List.filter_cons_of_pos (by simpa using hc)]
      simp only [applyC]
      exact applyC_at i L _ _ (by subst hc; simp [upd_self])
    · rw [List.filter_cons_of_neg (by simpa using hc)]
      simp only [applyC]
      exact applyC_at i L _ _ (by rw [upd_ne _ _ (Ne.symm hc)]; exact h)

theorem applyC_mono {H H' : Id → Option Blk} : ∀ (L : List (Id × Option Blk)), (∀ i b, H i = some b → H' i = some b) → ∀ i b, applyC H L i = some b → applyC H' L i = some b
  | [], h => h
  | c :: L, h => by
    simp only [applyC]
    refine applyC_mono L fun i b hi => ?_
    by_cases hc : i = c.1
    · subst hc; rw [upd_self] at hi ⊢; exact hi
    · rw [upd_ne _ _ hc] at hi ⊢; exact h i b hi

theorem bchg_bindB (s : Nat) (H : Id → Option Blk) (B : List Blk) : applyC H (bchg s 0 B) = bindB s B H := by
  have key : ∀ (B : List Blk) (k : Nat) (H : Id → Option Blk) (i : Id), applyC H (bchg s k B) i = if i.1 = s ∧ k ≤ i.2 then (match B[i.2 - k]? with | some b => some (b.ren s) | none => H i) else H i := by
    intro B
    induction B with
    | nil => intro k H i; simp [bchg, applyC]
    | cons b B ih =>
      intro k H i
      simp only [bchg, applyC]
      rw [ih (k + 1) _ i]
      obtain ⟨i1, i2⟩ := i
      by_cases h1 : i1 = s
      · subst h1
        rcases Nat.lt_trichotomy i2 k with h | h | h
        · rw [if_neg (by simp; omega), if_neg (by simp; omega), upd_ne _ _ (by simp; omega)]
        · subst h
          rw [if_neg (by simp), if_pos (by simp), upd_self]
          simp
        · rw [if_pos (by simp; omega), if_pos (by simp; omega), upd_ne _ _ (by simp; omega)]
          have : i2 - k = (i2 - (k + 1)) + 1 := by omega
          simp only [this, List.getElem?_cons_succ]
      · rw [if_neg (by simp [h1]), if_neg (by simp [h1]), upd_ne _ _ (by simp [h1])]
  funext i
  rw [key B 0 H i]
  simp only [Nat.zero_le, and_true, Nat.sub_zero, bindB]
  rfl

theorem app_H (σ : St) (U : Upd) : (U.app σ).H = applyC σ.H (U.chg σ.nx) := by
  cases U with
  | val d p => cases d <;> rfl
  | new d p b => rfl
  | call d r B => exact (bchg_bindB _ _ _).symm
  | heap i b => rfl
  | mv d k b => cases k <;> rfl
  | io d M r B => rfl

theorem app_fr (σ : St) (U : Upd) (t : Nat) : (U.app σ).fr t = if U.dst = some t then U.v σ.nx else σ.fr t := by
  cases U with
  | val d p =>
    cases d with
    | none => simp [Upd.app, Upd.dst]
    | some d => simp only [Upd.app, Upd.dst, upd, Option.some.injEq, eq_comm (a := t)]; rfl
  | new d p b => simp only [Upd.app, Upd.dst, upd, Option.some.injEq, eq_comm (a := t)]; rfl
  | call d r B => simp only [Upd.app, St.called, Upd.dst, upd, Option.some.injEq, eq_comm (a := t)]; rfl
  | heap i b => simp [Upd.app, Upd.dst]
  | mv d k b => simp only [Upd.app, Upd.dst, upd, Option.some.injEq, eq_comm (a := t)]; rfl
  | io d M r B => simp only [Upd.app, St.iod, Upd.dst, upd, Option.some.injEq, eq_comm (a := t)]; rfl

theorem app_us (σ : St) (U : Upd) (d : Nat) : (U.app σ).us d = (σ.us d || U.tag == some d) := by
  cases U with
  | val e p => cases e <;> simp [Upd.app, Upd.tag]
  | heap i b => simp [Upd.app, Upd.tag]
  | new e p b =>
    by_cases h : d = e
    · subst h; simp [Upd.app, Upd.tag, upd_self]
    · simp [Upd.app, Upd.tag, upd_ne _ _ h, Ne.symm h]
  | call e r B =>
    by_cases h : d = e
    · subst h; simp [Upd.app, St.called, Upd.tag, upd_self]
    · simp [Upd.app, St.called, Upd.tag, upd_ne _ _ h, Ne.symm h]
  | mv e k b =>
    by_cases h : d = e
    · subst h; simp [Upd.app, Upd.tag, upd_self]
    · simp [Upd.app, Upd.tag, upd_ne _ _ h, Ne.symm h]
  | io e M r B =>
    by_cases h : d = e
    · subst h; simp [Upd.app, St.iod, Upd.tag, upd_self]
    · simp [Upd.app, St.iod, Upd.tag, upd_ne _ _ h, Ne.symm h]

theorem app_nx (σ : St) (U : Upd) : (U.app σ).nx = σ.nx := by
  cases U with
  | val d p => cases d <;> rfl
  | _ => rfl

theorem tag_dst {U : Upd} {d : Nat} (h : U.tag = some d) : U.dst = some d := by
  cases U <;> simp_all [Upd.tag, Upd.dst]

theorem fresh_iff (σ : St) (U : Upd) : U.fresh σ ↔ ∀ d, U.tag = some d → σ.us d = false := by
  cases U <;> simp [Upd.fresh, Upd.tag]

theorem vAddK_dst {nt nx : Nat} {ρ : Operand → Option PV} {H : Id → Option Blk} {d : Option Nat} {op : Op} {U : Upd} (h : vAddK P nt nx ρ H d op (· = U)) : U.dst = d ∧ ∀ c ∈ U.chg nx, U.tag = some (c.1.1 - nx) ∧ nx ≤ c.1.1 := by
  unfold vAddK addK at h
  split at h
  · split at h
    · subst h; exact ⟨rfl, by simp [Upd.chg]⟩
    · obtain ⟨_, rfl⟩ := h; exact ⟨rfl, by simp [Upd.chg]⟩
  · split at h
    · exact h.elim
    · obtain ⟨_, rfl⟩ := h; exact ⟨rfl, by simp [Upd.chg, Upd.tag]⟩
  · exact h.elim

theorem bchg_tag (s : Nat) : ∀ (B : List Blk) (k : Nat), ∀ c ∈ bchg s k B, c.1.1 = s
  | [], k, c, hc => by simp [bchg] at hc
  | b :: B, k, c, hc => by
    simp only [bchg, List.mem_cons] at hc
    rcases hc with rfl | hc
    · rfl
    · exact bchg_tag s B (k + 1) c hc

theorem ioChg_ids {M : List Id} {s : Nat} : ∀ (B : List (Option Blk)) (k : Nat), ∀ c ∈ ioChg M s k B, c.1.1 = s ∨ ∃ j : Nat, M[j]? = some c.1
  | [], k, c, hc => by simp [ioChg] at hc
  | b :: B, k, c, hc => by
    simp only [ioChg, List.mem_cons] at hc
    rcases hc with rfl | hc
    · simp only [outId]
      cases h : M[k]? with
      | none => exact .inl rfl
      | some i => exact .inr ⟨k, h⟩
    · exact ioChg_ids B (k + 1) c hc

/-- Where an operation writes, and what names it changes: its own tag's, or names that it knew. -/
theorem opU_chg {nx : Nat} {ρ : Operand → Option PV} {H : Id → Option Blk} {d : Option Nat} {op : Op} {U : Upd} (h : OpU C nx ρ H d op U) :
    U.dst = d ∧ ∀ c ∈ U.chg nx, (∃ t, U.tag = some t ∧ c.1.1 = nx + t) ∨ (H c.1 ≠ none ∧ U.isM = true ∧ reads op = true) := by
  have add : ∀ {op : Op}, vAddK C.P C.nt nx ρ H d op (· = U) → U.dst = d ∧ ∀ c ∈ U.chg nx, (∃ t, U.tag = some t ∧ c.1.1 = nx + t) ∨ (H c.1 ≠ none ∧ U.isM = true ∧ reads op = true) := by
    intro op h
    obtain ⟨h1, h2⟩ := vAddK_dst h
    refine ⟨h1, fun c hc => .inl ?_⟩
    obtain ⟨h3, h4⟩ := h2 c hc
    exact ⟨_, h3, by omega⟩
  have mv : ∀ {o : Option (Option Id × Blk)} {op : Op}, reads op = true → mvK C.nt d (· = U) o → (∀ i b, o = some (some i, b) → H i ≠ none) → U.dst = d ∧ ∀ c ∈ U.chg nx, (∃ t, U.tag = some t ∧ c.1.1 = nx + t) ∨ (H c.1 ≠ none ∧ U.isM = true ∧ reads op = true) := by
    intro o op hrd h ho
    unfold mvK at h
    split at h
    · rename_i i b
      split at h
      · exact h.elim
      · obtain ⟨_, rfl⟩ := h
        refine ⟨rfl, fun c hc => ?_⟩
        cases i with
        | none => simp only [Upd.chg, List.mem_singleton] at hc; subst hc; exact .inl ⟨_, rfl, rfl⟩
        | some i =>
          simp only [Upd.chg, List.mem_cons, List.not_mem_nil, or_false] at hc
          rcases hc with rfl | rfl
          · exact .inr ⟨ho i b rfl, rfl, hrd⟩
          · exact .inl ⟨_, rfl, rfl⟩
    · exact h.elim
  unfold OpU opK at h
  split at h
  · rename_i c
    split at h
    · unfold callK at h
      split at h
      · split at h
        · exact h.elim
        · obtain ⟨_, ⟨_, r, B, _, _, rfl⟩ | ⟨M, bs, args, r, B, _, _, e3, _, _, _, _, rfl⟩⟩ := h
          · refine ⟨rfl, fun c hc => .inl ⟨_, rfl, bchg_tag _ _ _ c hc⟩⟩
          · refine ⟨rfl, fun c hc => ?_⟩
            rcases ioChg_ids _ _ c hc with hc | ⟨j, hc⟩
            · exact .inl ⟨_, rfl, hc⟩
            · obtain ⟨b, _, hb⟩ := (gets_get e3).2 j _ hc
              exact .inr ⟨by rw [hb]; simp, rfl, rfl⟩
      · exact h.elim
    · refine mv rfl h fun i b hv => ?_
      unfold vapp at hv
      split at hv
      · split at hv
        · split at hv
          · split at hv
            · split at hv
              · split at hv
                · rename_i hb _
                  split at hv
                  · cases hv
                    obtain ⟨q, _, hb⟩ := Option.bind_eq_some_iff.1 hb
                    unfold baseOf at hb
                    split at hb
                    · split at hb
                      · rename_i hH
                        split at hb
                        · cases hb; rw [hH]; simp
                        · cases hb
                      · cases hb
                    · cases hb
                    · cases hb
                  · cases hv
                · cases hv
              · cases hv
            · cases hv
          · cases hv
        · unfold vappS at hv
          split at hv
          · split at hv
            · split at hv
              · rename_i hb _
                split at hv
                · cases hv
                  obtain ⟨q, _, hb⟩ := Option.bind_eq_some_iff.1 hb
                  unfold baseOf at hb
                  split at hb
                  · split at hb
                    · rename_i hH
                      split at hb
                      · cases hb; rw [hH]; simp
                      · cases hb
                    · cases hb
                  · cases hb
                  · cases hb
                · cases hv
              · cases hv
            · cases hv
          · cases hv
      · cases hv
    · exact add h
  · split at h
    · unfold heapK at h
      split at h
      rotate_left
      · exact h.elim
      rename_i i b hv
      subst h
      refine ⟨rfl, fun c hc => .inr ?_⟩
      simp only [Upd.chg, List.mem_singleton] at hc
      subst hc
      refine ⟨?_, rfl, rfl⟩
      unfold vstore at hv
      split at hv
      · split at hv
        · rename_i hH
          split at hv
          · cases hv; rw [hH]; simp
          · cases hv
        · cases hv
      · cases hv
    · exact h.elim
  · split at h
    · unfold valK at h
      split at h
      · exact h.elim
      · obtain ⟨_, rfl⟩ := h
        exact ⟨rfl, by simp [Upd.chg]⟩
    · exact h.elim
  · split at h
    · split at h
      · unfold valK at h
        split at h
        · exact h.elim
        · obtain ⟨_, rfl⟩ := h
          exact ⟨rfl, by simp [Upd.chg]⟩
      · exact h.elim
    · exact add h
  · split at h
    · unfold valK at h
      split at h
      · exact h.elim
      · obtain ⟨_, rfl⟩ := h
        exact ⟨rfl, by simp [Upd.chg]⟩
    · exact add h
  · split at h
    · split at h
      · unfold valK at h
        split at h
        · exact h.elim
        · obtain ⟨_, rfl⟩ := h
          exact ⟨rfl, by simp [Upd.chg]⟩
      · exact h.elim
    · refine mv rfl h fun i b hv => ?_
      obtain ⟨q, hq, he⟩ := Option.map_eq_some_iff.1 hv
      cases he
      unfold vcut at hq
      split at hq
      · split at hq
        · split at hq
          · rename_i hH _
            split at hq
            · cases hq; rw [hH]; simp
            · cases hq
          · cases hq
        · cases hq
      · cases hq
    · exact add h
  · exact add h

theorem collect_at {nx : Nat} (i : Id) {v v' : Nat → Bool} : ∀ (Us : List Upd) (k : Nat), (∀ j U, Us[j]? = some U → v (k + j) ≠ v' (k + j) → ∀ c ∈ U.chg nx, c.1 ≠ i) →
    (collect nx v k Us).filter (fun c => c.1 = i) = (collect nx v' k Us).filter fun c => c.1 = i
  | [], k, h => rfl
  | U :: Us, k, h => by
    simp only [collect, List.filter_append]
    rw [collect_at i Us (k + 1) fun j V hV hne => h (j + 1) V (by simpa using hV) (by rwa [Nat.add_comm j 1, ← Nat.add_assoc])]
    congr 1
    have h0 := h 0 U rfl
    simp only [Nat.add_zero] at h0
    by_cases hv : v k = v' k
    · rw [hv]
    · have : (U.chg nx).filter (fun c => c.1 = i) = [] := by
        rw [List.filter_eq_nil_iff]
        intro c hc
        simpa using h0 hv c hc
      have e1 : ∀ b : Bool, (if b = true then U.chg nx else []).filter (fun c => c.1 = i) = [] := by
        intro b; cases b
        · rfl
        · exact this
      rw [e1, e1]

/-- One operation's changes may come last. -/
theorem collect_add {nx : Nat} (i : Id) {S S' : Nat → Bool} {U : Upd} : ∀ (Us : List Upd) (k m : Nat) (H : Id → Option Blk), Us[m]? = some U → S (k + m) = false → S' (k + m) = true → (∀ j, j ≠ m → S (k + j) = S' (k + j)) →
    (∀ j V, m < j → Us[j]? = some V → S (k + j) = true → ∀ c ∈ V.chg nx, ∀ e ∈ U.chg nx, c.1 ≠ e.1) →
    applyC (applyC H (collect nx S k Us)) (U.chg nx) i = applyC H (collect nx S' k Us) i
  | [], k, m, H, hU, _, _, _, _ => by simp at hU
  | V :: Us, k, 0, H, hU, h0, h1, hs, hd => by
    simp only [List.getElem?_cons_zero, Option.some.injEq] at hU
    subst hU
    simp only [Nat.add_zero] at h0 h1
    simp only [collect, h0, h1, if_true, Bool.false_eq_true, if_false, List.nil_append]
    have hc : collect nx S (k + 1) Us = collect nx S' (k + 1) Us := by
      have key : ∀ (l : List Upd) (q : Nat), k < q → collect nx S q l = collect nx S' q l := by
        intro l
        induction l with
        | nil => intro q _; rfl
        | cons W l ih =>
          intro q hq
          have := hs (q - k) (by omega)
          rw [show k + (q - k) = q by omega] at this
          simp only [collect, this, ih (q + 1) (by omega)]
      exact key Us (k + 1) (by omega)
    rw [hc]
    rw [← applyC_append]
    -- the two lists differ in order alone
    by_cases hin : ∃ e ∈ V.chg nx, e.1 = i
    · obtain ⟨e, he, hei⟩ := hin
      have hno : ∀ c ∈ collect nx S' (k + 1) Us, c.1 ≠ i := by
        have key : ∀ (l : List Upd) (q : Nat), (∀ j W, l[j]? = some W → S' (q + j) = true → ∀ c ∈ W.chg nx, c.1 ≠ i) → ∀ c ∈ collect nx S' q l, c.1 ≠ i := by
          intro l
          induction l with
          | nil => intro q _ c hc; simp [collect] at hc
          | cons W l ih =>
            intro q hq c hc
            simp only [collect, List.mem_append] at hc
            rcases hc with hc | hc
            · have := hq 0 W rfl
              simp only [Nat.add_zero] at this
              split at hc
              · rename_i hs'; exact this hs' c hc
              · simp at hc
            · exact ih (q + 1) (fun j W' hW hs' => hq (j + 1) W' (by simpa using hW) (by rwa [Nat.add_comm j 1, ← Nat.add_assoc])) c hc
        refine key Us (k + 1) fun j W hW hs' c hc => ?_
        rw [← hei]
        refine hd (j + 1) W (by omega) (by simpa using hW) ?_ c hc e he
        rw [hs (j + 1) (by omega), Nat.add_comm j 1, ← Nat.add_assoc]
        exact hs'
      rw [applyC_at i _ H H rfl, applyC_at i (V.chg nx ++ _) H H rfl, List.filter_append, List.filter_append]
      have : (collect nx S' (k + 1) Us).filter (fun c => c.1 = i) = [] := by
        rw [List.filter_eq_nil_iff]; intro c hc; simpa using hno c hc
      simp [this]
    · rw [applyC_at i _ H H rfl, applyC_at i (V.chg nx ++ _) H H rfl, List.filter_append, List.filter_append]
      have : (V.chg nx).filter (fun c => c.1 = i) = [] := by
        rw [List.filter_eq_nil_iff]; intro c hc; simp; intro he; exact hin ⟨c, hc, he⟩
      simp [this]
  | V :: Us, k, m + 1, H, hU, h0, h1, hs, hd => by
    have e0 := hs 0 (by omega)
    simp only [Nat.add_zero] at e0
    simp only [collect, e0]
    rw [applyC_append, applyC_append]
    exact collect_add i Us (k + 1) m _ (by simpa using hU) (by rw [Nat.add_assoc, Nat.add_comm 1 m]; exact h0) (by rw [Nat.add_assoc, Nat.add_comm 1 m]; exact h1)
      (fun j hj => by have := hs (j + 1) (by omega); rwa [Nat.add_comm j 1, ← Nat.add_assoc] at this)
      (fun j W hj hW hs' => hd (j + 1) W (by omega) (by simpa using hW) (by rwa [Nat.add_comm j 1, ← Nat.add_assoc]))

theorem frAt_hit {nx : Nat} {vis late : Nat → Bool} {fr : Nat → Option PV} {t : Nat} : ∀ (ops : List Oper) (k : Nat) (Us : List Upd) (j : Nat) (o : Oper), ops[j]? = some o → o.dst = some t → (∀ i o', i < j → ops[i]? = some o' → o'.dst ≠ some t) →
    frAt nx vis late fr k ops Us t = if vis (k + j) then (Us[j]?).bind (Upd.v nx) else if late (k + j) then fr t else none
  | [], k, Us, j, o, ho, _, _ => by simp at ho
  | o' :: ops, k, Us, 0, o, ho, hd, _ => by
    simp only [List.getElem?_cons_zero, Option.some.injEq] at ho
    subst ho
    simp only [frAt, hd, if_true, Nat.add_zero]
    cases Us <;> rfl
  | o' :: ops, k, Us, j + 1, o, ho, hd, hn => by
    have h0 := hn 0 o' (by omega) rfl
    simp only [frAt, if_neg h0]
    rw [frAt_hit ops (k + 1) Us.tail j o (by simpa using ho) hd fun i o'' hi ho'' => hn (i + 1) o'' (by omega) (by simpa using ho'')]
    rw [Nat.add_assoc, Nat.add_comm 1 j]
    cases Us <;> simp

theorem frAt_miss {nx : Nat} {vis late : Nat → Bool} {fr : Nat → Option PV} {t : Nat} : ∀ (ops : List Oper) (k : Nat) (Us : List Upd), (∀ (j : Nat) (o : Oper), ops[j]? = some o → o.dst ≠ some t) → frAt nx vis late fr k ops Us t = fr t
  | [], k, Us, _ => rfl
  | o :: ops, k, Us, h => by
    simp only [frAt, if_neg (h 0 o rfl)]
    exact frAt_miss ops (k + 1) Us.tail fun j o' ho' => h (j + 1) o' (by simpa using ho')

theorem masked_spec {nx : Nat} {k : Nat} {i : Id} : ∀ (ops : List Oper) (q : Nat), masked nx D k q ops i = false → ∀ (j : Nat) (o : Oper) (d : Nat), ops[j]? = some o → o.dst = some d → isDep D (q + j) k = false → q + j ≠ k → i.1 ≠ nx + d
  | [], q, _, j, o, d, ho, _, _, _ => by simp at ho
  | o' :: ops, q, h, 0, o, d, ho, hd, hD, hk => by
    simp only [List.getElem?_cons_zero, Option.some.injEq] at ho
    subst ho
    simp only [Nat.add_zero] at hD hk
    simp only [masked, hd, hD, Bool.or_eq_false_iff] at h
    intro he
    simp [he, hk] at h
  | o' :: ops, q, h, j + 1, o, d, ho, hd, hD, hk => by
    simp only [masked, Bool.or_eq_false_iff] at h
    have := masked_spec ops (q + 1) h.2 j o d (by simpa using ho) hd (by rw [Nat.add_assoc, Nat.add_comm 1 j]; exact hD) (by omega)
    exact this
end

/-- What is known of a region that draws its order, once all its operations have been told. -/
structure Told (C : Ctx) (ops : List Oper) (D : List (List Nat)) (σ : St) (Us : List Upd) : Prop where
  len : Us.length = ops.length
  order : orderOk ops D Us = true
  deps : depOk ops D = true
  dsts : dstsOk ops = true
  op : ∀ k o U, ops[k]? = some o → Us[k]? = some U → ∃ Us', (∀ j, j < k → Us'[j]? = Us[j]?) ∧ OpU C σ.nx (ev (frAt σ.nx (isDep D · k) (isDep D k) σ.fr 0 ops Us')) (HAt σ ops D Us' k (reads o.op)) o.dst o.op U ∧ U.fresh σ

section
variable {C : Ctx} {φ φ' : Id → Option Value} {F : Bool → Nat → Prop} {F0 F1 : Nat → Prop} {σ : St} {a : Act} {w w' : World} {P : Program} {ops : List Oper} {D : List (List Nat)} {Us : List Upd}

theorem anyRun_told {Q : St → Prop} (hd : depOk ops D = true) (hs : dstsOk ops = true) (h : anyRun C ops D σ 0 ops [] Q) : ∃ Us, Told C ops D σ Us ∧ Q (Us.foldl Upd.app σ) := by
  have key : ∀ (rest : List Oper) (k : Nat) (Us0 : List Upd), Us0.length = k → (∀ j, rest[j]? = ops[k + j]?) → anyRun C ops D σ k rest Us0 Q →
      ∃ Us, Us.length = k + rest.length ∧ (∀ j, j < k → Us[j]? = Us0[j]?) ∧ orderOk ops D Us = true ∧ Q (Us.foldl Upd.app σ) ∧
        ∀ j o U, k ≤ j → ops[j]? = some o → Us[j]? = some U → ∃ Us', (∀ i, i < j → Us'[i]? = Us[i]?) ∧ OpU C σ.nx (ev (frAt σ.nx (isDep D · j) (isDep D j) σ.fr 0 ops Us')) (HAt σ ops D Us' j (reads o.op)) o.dst o.op U ∧ U.fresh σ := by
    intro rest
    induction rest with
    | nil =>
      intro k Us0 hl hr h
      refine ⟨Us0, by simpa using hl, fun _ _ => rfl, h.1, h.2, fun j o U hj ho hU => ?_⟩
      have := (List.getElem?_eq_some_iff.1 hU).1
      omega
    | cons o rest ih =>
      intro k Us0 hl hr h
      simp only [anyRun] at h
      obtain ⟨U, hU, hf, hn⟩ := opK_elim h
      obtain ⟨Us, h1, h2, h3, h4, h5⟩ := ih (k + 1) (Us0 ++ [U]) (by simp [hl]) (fun j => by have := hr (j + 1); simpa [Nat.add_assoc, Nat.add_comm 1 j] using this) hn
      refine ⟨Us, by simp [h1]; omega, fun j hj => ?_, h3, h4, fun j o' U' hj ho' hU' => ?_⟩
      · rw [h2 j (by omega), List.getElem?_append_left (by omega)]
      · rcases Nat.lt_or_ge k j with hlt | hge
        · exact h5 j o' U' hlt ho' hU'
        · have hjk : j = k := by omega
          subst hjk
          have e1 : o' = o := by
            have := hr 0
            simp only [List.getElem?_cons_zero, Nat.add_zero] at this
            rw [ho'] at this; cases this; rfl
          have e2 : U' = U := by
            rw [h2 j (by omega), List.getElem?_append_right (by omega), hl] at hU'
            simp at hU'; exact hU'.symm
          subst e1 e2
          exact ⟨Us0, fun i hi => by rw [h2 i (by omega), List.getElem?_append_left (by omega)], hU, hf⟩
  obtain ⟨Us, h1, _, h3, h4, h5⟩ := key ops 0 [] rfl (by simp) h
  exact ⟨Us, ⟨by simpa using h1, h3, hd, hs, fun k o U ho hU => h5 k o U (Nat.zero_le _) ho hU⟩, h4⟩

theorem depOk_spec (h : depOk ops D = true) {k : Nat} {o : Oper} (ho : ops[k]? = some o) :
    (∀ e ∈ o.after, Region.binds .any e = true → e.on < k) ∧ (∀ j, isDep D j k = true → ∃ e ∈ o.after, Region.binds .any e = true ∧ (e.on = j ∨ isDep D j e.on = true)) ∧ o.guard = none := by
  unfold depOk at h
  rw [List.all_eq_true] at h
  have := h k (List.mem_range.2 (List.getElem?_eq_some_iff.1 ho).1)
  rw [ho] at this
  simp only [Bool.and_eq_true, List.all_eq_true, List.any_eq_true, Bool.or_eq_true, decide_eq_true_eq, Bool.not_eq_true', Option.isNone_iff_eq_none, beq_iff_eq] at this
  obtain ⟨⟨h1, h2⟩, h3⟩ := this
  refine ⟨fun e he hb => ?_, fun j hj => ?_, h3⟩
  · rcases h1 e (by simpa using he) with h4 | h4
    · rw [hb] at h4; cases h4
    · exact h4
  · obtain ⟨e, he, hb, h4⟩ := h2 j (by simpa [isDep] using hj)
    exact ⟨e, by simpa using he, hb, h4⟩

theorem dstsOk_spec (h : dstsOk ops = true) {j k : Nat} {o o' : Oper} {d : Nat} (hj : ops[j]? = some o) (hk : ops[k]? = some o') (h1 : o.dst = some d) (h2 : o'.dst = some d) : j = k := by
  unfold dstsOk at h
  rw [List.all_eq_true] at h
  have := h j (List.mem_range.2 (List.getElem?_eq_some_iff.1 hj).1)
  rw [List.all_eq_true] at this
  have := this k (List.mem_range.2 (List.getElem?_eq_some_iff.1 hk).1)
  simpa [hj, hk, h1, h2] using this

theorem orderOk_spec (h : orderOk ops D Us = true) {j k : Nat} {o : Oper} {U : Upd} (hj : Us[j]? = some U) (hk : ops[k]? = some o) (hjl : j < ops.length) (hM : U.isM = true) (hr : reads o.op = true) (hne : j ≠ k) :
    isDep D j k = true ∨ isDep D k j = true := by
  unfold orderOk at h
  rw [List.all_eq_true] at h
  have := h j (List.mem_range.2 hjl)
  rw [hj] at this
  simp only [Option.any_some, hM, Bool.not_true, Bool.false_or, List.all_eq_true] at this
  have := this k (List.mem_range.2 (List.getElem?_eq_some_iff.1 hk).1)
  simpa [hk, hr, hne] using this

/-- The state behind a set of the operations. -/
def St.behind (σ : St) (ops : List Oper) (Us : List Upd) (S : Nat → Bool) : St :=
  ⟨frAt σ.nx S (fun _ => true) σ.fr 0 ops Us, applyC σ.H (collect σ.nx S 0 Us), fun d => σ.us d || (List.range Us.length).any fun j => S j && (Us[j]?).any (·.tag == some d), σ.nx⟩

/-- Everything that one of them waits for has come up. -/
def Shut (ops : List Oper) (S : Nat → Bool) : Prop := ∀ k o, ops[k]? = some o → S k = true → ∀ e ∈ o.after, Region.binds .any e = true → S e.on = true

theorem dep_in (h : depOk ops D = true) {S : Nat → Bool} (hS : Shut ops S) : ∀ (k : Nat) (o : Oper), ops[k]? = some o → (∀ e ∈ o.after, Region.binds .any e = true → S e.on = true) → ∀ j, isDep D j k = true → S j = true := by
  intro k
  induction k using Nat.strongRecOn with
  | _ k ih =>
    intro o ho hr j hj
    obtain ⟨h1, h2, _⟩ := depOk_spec h ho
    obtain ⟨e, he, hb, hcase⟩ := h2 j hj
    rcases hcase with rfl | hcase
    · exact hr e he hb
    · have hlt := h1 e he hb
      have hk := (List.getElem?_eq_some_iff.1 ho).1
      have ho' : ops[e.on]? = some ops[e.on] := List.getElem?_eq_getElem (by omega)
      exact ih e.on hlt _ ho' (fun e' he' hb' => hS e.on _ ho' (hr e he hb) e' he' hb') j hcase

theorem dep_lt (h : depOk ops D = true) : ∀ (k : Nat) (o : Oper), ops[k]? = some o → ∀ j, isDep D j k = true → j < k := by
  intro k
  induction k using Nat.strongRecOn with
  | _ k ih =>
    intro o ho j hj
    obtain ⟨h1, h2, _⟩ := depOk_spec h ho
    obtain ⟨e, he, hb, hcase⟩ := h2 j hj
    have hlt := h1 e he hb
    rcases hcase with rfl | hcase
    · exact hlt
    · have hk := (List.getElem?_eq_some_iff.1 ho).1
      have := ih e.on hlt _ (List.getElem?_eq_getElem (by omega)) j hcase
      omega
end
end Go.Vm
