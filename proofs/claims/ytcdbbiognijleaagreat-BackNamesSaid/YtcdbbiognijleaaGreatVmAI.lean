/-
  Abstract states over the model's worlds, and that a step of them is a step of the program: part VmAI of a framework. Conditions: each theorem's own premises. By an AI agent.
-/
import Derived.Test.YtcdbbiognijleaaGreatVmAH
import Derived.OrdersIn
section
namespace Go.Vm
open Go Go.RowKit
set_option linter.unusedSimpArgs false
set_option linter.unusedVariables false

/-! ### Regions that draw their order -/
def Upd.v (nx : Nat) : Upd → Option PV
  | .val _ p => some p
  | .new _ p _ => some p
  | .call d r _ => some (r.ren (nx + d))
  | .heap _ _ => none
  | .mv d _ _ => some (.one (.own (nx + d, 0)))
  | .io d M r _ => some (r.iob M (nx + d))

def Upd.dst : Upd → Option Nat
  | .val d _ => d
  | .new d _ _ => some d
  | .call d _ _ => some d
  | .heap _ _ => none
  | .mv d _ _ => some d
  | .io d _ _ _ => some d

def Upd.tag : Upd → Option Nat
  | .val _ _ => none
  | .new d _ _ => some d
  | .call d _ _ => some d
  | .heap _ _ => none
  | .mv d _ _ => some d
  | .io d _ _ _ => some d

def bchg (s : Nat) : Nat → List Blk → List (Id × Option Blk)
  | _, [] => []
  | k, b :: B => ((s, k), some (b.ren s)) :: bchg s (k + 1) B

def Upd.chg (nx : Nat) : Upd → List (Id × Option Blk)
  | .val _ _ => []
  | .new d _ b => [((nx + d, 0), some b)]
  | .call d _ B => bchg (nx + d) 0 B
  | .heap i b => [(i, some b)]
  | .mv d none b => [((nx + d, 0), some b)]
  | .mv d (some i) b => [(i, none), ((nx + d, 0), some b)]
  | .io d M _ B => ioChg M (nx + d) 0 B

def Upd.isM : Upd → Bool
  | .heap _ _ => true
  | .mv _ (some _) _ => true
  | .io _ _ _ _ => true
  | _ => false

def collect (nx : Nat) (vis : Nat → Bool) : Nat → List Upd → List (Id × Option Blk)
  | _, [] => []
  | k, U :: Us => (if vis k then U.chg nx else []) ++ collect nx vis (k + 1) Us

def frAt (nx : Nat) (vis late : Nat → Bool) (fr : Nat → Option PV) : Nat → List Oper → List Upd → Nat → Option PV
  | _, [], _, t => fr t
  | k, o :: ops, Us, t => if o.dst = some t then (if vis k then Us.head?.bind (Upd.v nx) else if late k then fr t else none) else frAt nx vis late fr (k + 1) ops Us.tail t

def isDep (D : List (List Nat)) (j k : Nat) : Bool := (D.getD k []).contains j

def reads : Op → Bool
  | .load .. => true
  | .indexAddr .. => true
  | .call _ => true
  | .store .. => true
  | .slice .. => true
  | .convert .. => true
  | .lookup .. => true
  | .mapUpdate .. => true
  | .insert .. => true
  | _ => false

def masked (nx : Nat) (D : List (List Nat)) (k : Nat) : Nat → List Oper → Id → Bool
  | _, [], _ => false
  | j, o :: ops, i => (match o.dst with | some d => i.1 == nx + d && !isDep D j k && j != k | none => false) || masked nx D k (j + 1) ops i

def HAt (σ : St) (ops : List Oper) (D : List (List Nat)) (Us : List Upd) (k : Nat) (rd : Bool) (i : Id) : Option Blk :=
  if rd then (if masked σ.nx D k 0 ops i then none else applyC σ.H (collect σ.nx (isDep D · k) 0 Us) i) else none

def depOk (ops : List Oper) (D : List (List Nat)) : Bool :=
  (List.range ops.length).all fun k =>
    match ops[k]? with
    | none => true
    | some o => (o.after.toList.all fun e => !Region.binds .any e || decide (e.on < k)) && ((D.getD k []).all fun j => o.after.toList.any fun e => Region.binds .any e && (e.on == j || isDep D j e.on))

def dstsOk (ops : List Oper) : Bool :=
  (List.range ops.length).all fun j => (List.range ops.length).all fun k => j == k || ((ops[j]?).bind (·.dst)).isNone || (ops[j]?).bind (·.dst) != (ops[k]?).bind (·.dst)

def orderOk (ops : List Oper) (D : List (List Nat)) (Us : List Upd) : Bool :=
  (List.range ops.length).all fun j => !((Us[j]?).any Upd.isM) || (List.range ops.length).all fun k => j == k || !((ops[k]?).any (reads ·.op)) || isDep D j k || isDep D k j

/-- Or an operation that is not told apart by its order does not see the names that are changed. -/
def ptrAt (nx : Nat) (fr : Nat → Option PV) (ops : List Oper) (D : List (List Nat)) (Us : List Upd) (k : Nat) : Op → Option Id
  | .load _ x =>
    match ev (frAt nx (isDep D · k) (isDep D k) fr 0 ops Us) x with
    | some (.one (.loc i _)) => some i
    | _ => none
  | _ => none
def orderOk1 (ops : List Oper) (D : List (List Nat)) (nx : Nat) (fr : Nat → Option PV) (Us : List Upd) : Bool :=
  (List.range ops.length).all fun j => !((Us[j]?).any Upd.isM) || (List.range ops.length).all fun k => j == k || !((ops[k]?).any (reads ·.op)) || isDep D j k || isDep D k j || (Us[j]?).all fun U => (U.chg nx).all fun c => masked nx D k 0 ops c.1 || ((ops[k]?).bind fun o => ptrAt nx fr ops D Us k o.op).any fun i => !decide (c.1 = i)
def orderX (ops : List Oper) (D : List (List Nat)) (nx : Nat) (fr : Nat → Option PV) (Us : List Upd) : Bool :=
  match orderOk ops D Us with
  | true => true
  | false => orderOk1 ops D nx fr Us

/-- An operation, or nothing if its guard says no. -/
def gK (C : Core) (ops : List Oper) (nx : Nat) (fr : Nat → Option PV) (H : Id → Option Blk) (g : Option (Nat × Bool)) (d : Option Nat) (op : Op) (K : Upd → Prop) : Prop :=
  match g with
  | none => opK C nx (ev fr) H d op K
  | some (g, want) =>
    match gslot ops fr g with
    | some v => if v = some want then opK C nx (ev fr) H d op K else dOk C.nt d ∧ K (.val d (.tup []))
    | none => False
/-- The operations of a region that draws its order: each of them as it runs behind no more than it waits for. -/
def anyRun (C : Core) (ops : List Oper) (D : List (List Nat)) (σ : St) : Nat → List Oper → List Upd → (St → Prop) → Prop
  | _, [], Us, Q => orderX ops D σ.nx σ.fr Us = true ∧ Q (Us.foldl Upd.app σ)
  | k, o :: rest, Us, Q => gK C ops σ.nx (frAt σ.nx (isDep D · k) (isDep D k) σ.fr 0 ops Us) (HAt σ ops D Us k (reads o.op)) o.guard o.dst o.op fun U => U.fresh σ ∧ anyRun C ops D σ (k + 1) rest (Us ++ [U]) Q

section
variable {C : Ctx} {φ φ' : Id → Option Value} {F : Bool → Nat → Prop} {F0 F1 : Nat → Prop} {σ : St} {a : Act} {w w' : World} {P : Program} {ops : List Oper} {D : List (List Nat)} {Us : List Upd}

theorem applyC_append (H : Id → Option Blk) (L L' : List (Id × Option Blk)) : applyC H (L ++ L') = applyC (applyC H L) L' := by
  induction L generalizing H with
  | nil => rfl
  | cons c L ih => simp only [List.cons_append, applyC]; exact ih _

/-- The H that a list of changes comes to, at an id, hangs on H at this id and on the changes of this id alone. -/
theorem applyC_at (i : Id) : ∀ (L : List (Id × Option Blk)) (H H' : Id → Option Blk), H i = H' i → applyC H L i = applyC H' (L.filter fun c => c.1 = i) i
  | [], H, H', h => h
  | c :: L, H, H', h => by
    by_cases hc : c.1 = i
    · simp only [applyC]
      rw [List.filter_cons_of_pos (by simpa using hc)]
      simp only [applyC]
      exact applyC_at i L _ _ (by subst hc; simp [upd_self])
    · rw [List.filter_cons_of_neg (by simpa using hc)]
      simp only [applyC]
      exact applyC_at i L _ _ (by rw [upd_ne _ _ (Ne.symm hc)]; exact h)

theorem applyC_mono {H H' : Id → Option Blk} : ∀ (L : List (Id × Option Blk)), (∀ i b, H i = some b → H' i = some b) → ∀ i b, applyC H L i = some b → applyC H' L i = some b
  | [], h => h
  | c :: L, h => by
    simp only [applyC]
    refine applyC_mono L fun i b hi => ?_
    by_cases hc : i = c.1
    · subst hc; rw [upd_self] at hi ⊢; exact hi
    · rw [upd_ne _ _ hc] at hi ⊢; exact h i b hi

theorem bchg_bindB (s : Nat) (H : Id → Option Blk) (B : List Blk) : applyC H (bchg s 0 B) = bindB s B H := by
  have key : ∀ (B : List Blk) (k : Nat) (H : Id → Option Blk) (i : Id), applyC H (bchg s k B) i = if i.1 = s ∧ k ≤ i.2 then (match B[i.2 - k]? with | some b => some (b.ren s) | none => H i) else H i := by
    intro B
    induction B with
    | nil => intro k H i; simp [bchg, applyC]
    | cons b B ih =>
      intro k H i
      simp only [bchg, applyC]
      rw [ih (k + 1) _ i]
      obtain ⟨i1, i2⟩ := i
      by_cases h1 : i1 = s
      · subst h1
        rcases Nat.lt_trichotomy i2 k with h | h | h
        · rw [if_neg (by simp; omega), if_neg (by simp; omega), upd_ne _ _ (by simp; omega)]
        · subst h
          rw [if_neg (by simp), if_pos (by simp), upd_self]
          simp
        · rw [if_pos (by simp; omega), if_pos (by simp; omega), upd_ne _ _ (by simp; omega)]
          have : i2 - k = (i2 - (k + 1)) + 1 := by omega
          simp only [this, List.getElem?_cons_succ]
      · rw [if_neg (by simp [h1]), if_neg (by simp [h1]), upd_ne _ _ (by simp [h1])]
  funext i
  rw [key B 0 H i]
  simp only [Nat.zero_le, and_true, Nat.sub_zero, bindB]
  rfl

theorem app_H (σ : St) (U : Upd) : (U.app σ).H = applyC σ.H (U.chg σ.nx) := by
  cases U with
  | val d p => cases d <;> rfl
  | new d p b => rfl
  | call d r B => exact (bchg_bindB _ _ _).symm
  | heap i b => rfl
  | mv d k b => cases k <;> rfl
  | io d M r B => rfl

theorem app_fr (σ : St) (U : Upd) (t : Nat) : (U.app σ).fr t = if U.dst = some t then U.v σ.nx else σ.fr t := by
  cases U with
  | val d p =>
    cases d with
    | none => simp [Upd.app, Upd.dst]
    | some d => simp only [Upd.app, Upd.dst, upd, Option.some.injEq, eq_comm (a := t)]; rfl
  | new d p b => simp only [Upd.app, Upd.dst, upd, Option.some.injEq, eq_comm (a := t)]; rfl
  | call d r B => simp only [Upd.app, St.called, Upd.dst, upd, Option.some.injEq, eq_comm (a := t)]; rfl
  | heap i b => simp [Upd.app, Upd.dst]
  | mv d k b => simp only [Upd.app, Upd.dst, upd, Option.some.injEq, eq_comm (a := t)]; rfl
  | io d M r B => simp only [Upd.app, St.iod, Upd.dst, upd, Option.some.injEq, eq_comm (a := t)]; rfl

theorem app_us (σ : St) (U : Upd) (d : Nat) : (U.app σ).us d = (σ.us d || U.tag == some d) := by
  cases U with
  | val e p => cases e <;> simp [Upd.app, Upd.tag]
  | heap i b => simp [Upd.app, Upd.tag]
  | new e p b =>
    by_cases h : d = e
    · subst h; simp [Upd.app, Upd.tag, upd_self]
    · simp [Upd.app, Upd.tag, upd_ne _ _ h, Ne.symm h]
  | call e r B =>
    by_cases h : d = e
    · subst h; simp [Upd.app, St.called, Upd.tag, upd_self]
    · simp [Upd.app, St.called, Upd.tag, upd_ne _ _ h, Ne.symm h]
  | mv e k b =>
    by_cases h : d = e
    · subst h; simp [Upd.app, Upd.tag, upd_self]
    · simp [Upd.app, Upd.tag, upd_ne _ _ h, Ne.symm h]
  | io e M r B =>
    by_cases h : d = e
    · subst h; simp [Upd.app, St.iod, Upd.tag, upd_self]
    · simp [Upd.app, St.iod, Upd.tag, upd_ne _ _ h, Ne.symm h]

theorem app_gh (σ : St) (U : Upd) : (U.app σ).gh = σ.gh := by
  cases U with
  | val d p => cases d <;> rfl
  | _ => rfl
theorem app_nx (σ : St) (U : Upd) : (U.app σ).nx = σ.nx := by
  cases U with
  | val d p => cases d <;> rfl
  | _ => rfl

theorem tag_dst {U : Upd} {d : Nat} (h : U.tag = some d) : U.dst = some d := by
  cases U <;> simp_all [Upd.tag, Upd.dst]

theorem fresh_iff (σ : St) (U : Upd) : U.fresh σ ↔ ∀ d, U.tag = some d → σ.us d = false := by
  cases U <;> simp [Upd.fresh, Upd.tag]

theorem vAddK_dst {nt nx : Nat} {ρ : Operand → Option PV} {H : Id → Option Blk} {d : Option Nat} {op : Op} {U : Upd} (h : vAddK P nt nx ρ H d op (· = U)) : U.dst = d ∧ ∀ c ∈ U.chg nx, U.tag = some (c.1.1 - nx) ∧ nx ≤ c.1.1 := by
  unfold vAddK addK at h
  split at h
  · split at h
    · subst h; exact ⟨rfl, by simp [Upd.chg]⟩
    · obtain ⟨_, rfl⟩ := h; exact ⟨rfl, by simp [Upd.chg]⟩
  · split at h
    · exact h.elim
    · obtain ⟨_, rfl⟩ := h; exact ⟨rfl, by simp [Upd.chg, Upd.tag]⟩
  · exact h.elim

theorem bchg_tag (s : Nat) : ∀ (B : List Blk) (k : Nat), ∀ c ∈ bchg s k B, c.1.1 = s
  | [], k, c, hc => by simp [bchg] at hc
  | b :: B, k, c, hc => by
    simp only [bchg, List.mem_cons] at hc
    rcases hc with rfl | hc
    · rfl
    · exact bchg_tag s B (k + 1) c hc

theorem ioChg_ids {M : List Id} {s : Nat} : ∀ (B : List (Option Blk)) (k : Nat), ∀ c ∈ ioChg M s k B, c.1.1 = s ∨ ∃ j : Nat, M[j]? = some c.1
  | [], k, c, hc => by simp [ioChg] at hc
  | b :: B, k, c, hc => by
    simp only [ioChg, List.mem_cons] at hc
    rcases hc with rfl | hc
    · simp only [outId]
      cases h : M[k]? with
      | none => exact .inl rfl
      | some i => exact .inr ⟨k, h⟩
    · exact ioChg_ids B (k + 1) c hc

theorem vmapAll_at {ρ : Operand → Option PV} {H : Id → Option Blk} {t : TypeId} {m k x : Operand} {i : Id} {b : Blk} (hv : vmapAll P ρ H t m k x = some (i, b)) : H i ≠ none := by
  unfold vmapAll at hv
  split at hv
  · rename_i y hy
    cases hv
    unfold vmapUpd at hy
    split at hy
    · split at hy
      · rename_i hH hd
        split at hy
        · split at hy
          · cases hy; rw [hH]; simp
          · cases hy
        · cases hy
      · cases hy
    · cases hy
  · unfold vmapUpdK at hv
    split at hv
    · split at hv
      · rename_i hH
        split at hv
        · cases hv; rw [hH]; simp
        · cases hv; rw [hH]; simp
        · cases hv
      · cases hv
    · cases hv

theorem appC_at {P : Program} {ρ : Operand → Option PV} {H : Id → Option Blk} {c : Call} {i : Id} {n : Nat} {b : Blk} (h : appC P ρ H c = some (i, n, b)) : H i ≠ none := by
  unfold appC at h
  split at h
  · split at h
    · split at h
      · split at h
        · split at h
          · rename_i hH
            split at h
            · split at h
              · cases h; rw [hH]; simp
              · cases h
            · cases h
          · cases h
        · cases h
      · cases h
    · cases h
  · cases h
theorem vclear_at {P : Program} {ρ : Operand → Option PV} {H : Id → Option Blk} {c : Call} {i : Id} {b : Blk} (h : vclear P ρ H c = some (some (i, b))) : H i ≠ none := by
  unfold vclear at h
  split at h
  · split at h
    · split at h
      · split at h
        · cases h
        · unfold clearTo at h
          split at h
          · split at h
            · rename_i hH
              split at h
              · cases h; rw [hH]; simp
              · cases h
            · cases h
          · cases h
      · cases h
    · cases h
  · cases h
theorem vcopy_at {ρ : Operand → Option PV} {H : Id → Option Blk} {c : Call} {k : Nat} {i : Id} {b : Blk} (hv : vcopy P ρ H c = some (k, some (i, b))) : H i ≠ none := by
  unfold vcopy at hv
  split at hv
  · split at hv
    · split at hv
      · split at hv
        · split at hv
          · cases hv
          · unfold copyTo at hv
            split at hv
            · split at hv
              · rename_i hH
                split at hv
                · cases hv; rw [hH]; simp
                · cases hv
              · cases hv
            · cases hv
        · cases hv
      · cases hv
    · cases hv
  · cases hv

/-- Where an operation writes, and what names it changes: its own tag's, or names that it knew. -/
theorem opU_chg {nx : Nat} {ρ : Operand → Option PV} {H : Id → Option Blk} {d : Option Nat} {op : Op} {U : Upd} (h : OpU C nx ρ H d op U) :
    U.dst = d ∧ ∀ c ∈ U.chg nx, (∃ t, U.tag = some t ∧ c.1.1 = nx + t) ∨ (H c.1 ≠ none ∧ U.isM = true ∧ reads op = true) := by
  have add : ∀ {op : Op}, vAddK C.P C.nt nx ρ H d op (· = U) → U.dst = d ∧ ∀ c ∈ U.chg nx, (∃ t, U.tag = some t ∧ c.1.1 = nx + t) ∨ (H c.1 ≠ none ∧ U.isM = true ∧ reads op = true) := by
    intro op h
    obtain ⟨h1, h2⟩ := vAddK_dst h
    refine ⟨h1, fun c hc => .inl ?_⟩
    obtain ⟨h3, h4⟩ := h2 c hc
    exact ⟨_, h3, by omega⟩
  have mv : ∀ {o : Option (Option Id × Blk)} {op : Op}, reads op = true → mvK C.nt d (· = U) o → (∀ i b, o = some (some i, b) → H i ≠ none) → U.dst = d ∧ ∀ c ∈ U.chg nx, (∃ t, U.tag = some t ∧ c.1.1 = nx + t) ∨ (H c.1 ≠ none ∧ U.isM = true ∧ reads op = true) := by
    intro o op hrd h ho
    unfold mvK at h
    split at h
    · rename_i i b
      split at h
      · exact h.elim
      · obtain ⟨_, rfl⟩ := h
        refine ⟨rfl, fun c hc => ?_⟩
        cases i with
        | none => simp only [Upd.chg, List.mem_singleton] at hc; subst hc; exact .inl ⟨_, rfl, rfl⟩
        | some i =>
          simp only [Upd.chg, List.mem_cons, List.not_mem_nil, or_false] at hc
          rcases hc with rfl | rfl
          · exact .inr ⟨ho i b rfl, rfl, hrd⟩
          · exact .inl ⟨_, rfl, rfl⟩
    · exact h.elim
  unfold OpU opK at h
  split at h
  · rename_i c
    split at h
    · unfold callK at h
      split at h
      · split at h
        · exact h.elim
        · obtain ⟨_, ⟨_, r, B, _, _, rfl⟩ | ⟨kd, M, bs, args, r, B, _, _, e3, _, _, _, _, rfl⟩ | ⟨r, B, _, _, _, rfl⟩⟩ := h
          · refine ⟨rfl, fun c hc => .inl ⟨_, rfl, bchg_tag _ _ _ c hc⟩⟩
          · refine ⟨rfl, fun c hc => ?_⟩
            rcases ioChg_ids _ _ c hc with hc | ⟨j, hc⟩
            · exact .inl ⟨_, rfl, hc⟩
            · obtain ⟨b, _, hb⟩ := (gets_get e3).2 j _ hc
              exact .inr ⟨by rw [hb]; simp, rfl, rfl⟩
          · refine ⟨rfl, fun c hc => ?_⟩
            rcases ioChg_ids _ _ c hc with hc | ⟨j, hc⟩
            · exact .inl ⟨_, rfl, hc⟩
            · simp at hc
      · exact h.elim
    · split at h
      · rename_i o hv
        obtain ⟨i, n, b⟩ := o
        unfold inK at h
        simp only at h
        split at h
        · exact h.elim
        · rename_i d
          obtain ⟨_, rfl⟩ := h
          refine ⟨rfl, fun c hc => ?_⟩
          rcases ioChg_ids _ _ c hc with hc | ⟨j, hc⟩
          · exact .inl ⟨_, rfl, hc⟩
          · cases j with
            | zero =>
              simp only [List.getElem?_cons_zero, Option.some.injEq] at hc
              rw [← hc]
              exact .inr ⟨appC_at hv, rfl, rfl⟩
            | succ j => simp at hc
      · split at h
        · unfold valK at h
          split at h
          · exact h.elim
          · obtain ⟨_, rfl⟩ := h
            exact ⟨rfl, by simp [Upd.chg]⟩
        · exact mv rfl h (fun i b hv => by cases hv)
        · refine mv rfl h fun i b hv => ?_
          unfold vapp at hv
          split at hv
          · split at hv
            · split at hv
              · split at hv
                · split at hv
                  · split at hv
                    · rename_i hb _
                      split at hv
                      · cases hv
                        obtain ⟨q, _, hb⟩ := Option.bind_eq_some_iff.1 hb
                        unfold baseOf at hb
                        split at hb
                        · split at hb
                          · rename_i hH
                            split at hb
                            · cases hb; rw [hH]; simp
                            · cases hb
                          · cases hb
                        · cases hb
                        · split at hb
                          · rename_i hH
                            split at hb
                            · cases hb; rw [hH]; simp
                            · cases hb
                          · cases hb
                        · cases hb
                      · cases hv
                    · cases hv
                  · cases hv
                · cases hv
              · cases hv
            · unfold vappSZ at hv
              split at hv
              · rename_i y hy
                cases hv
                unfold vappS at hy
                split at hy
                · split at hy
                  · split at hy
                    · rename_i hb _
                      split at hy
                      · cases hy
                        obtain ⟨q, _, hb⟩ := Option.bind_eq_some_iff.1 hb
                        unfold baseOf at hb
                        split at hb
                        · split at hb
                          · rename_i hH
                            split at hb
                            · cases hb; rw [hH]; simp
                            · cases hb
                          · cases hb
                        · cases hb
                        · split at hb
                          · rename_i hH
                            split at hb
                            · cases hb; rw [hH]; simp
                            · cases hb
                          · cases hb
                        · cases hb
                      · cases hy
                    · cases hy
                  · cases hy
                · cases hy
              · unfold vappZ at hv
                (repeat' split at hv) <;> cases hv
          · cases hv
    · unfold copyK valK at h
      split at h
      · split at h
        · exact h.elim
        · obtain ⟨_, rfl⟩ := h
          exact ⟨rfl, by simp [Upd.chg]⟩
      · rename_i n i b hv
        split at h
        · exact h.elim
        · rename_i d
          obtain ⟨_, rfl⟩ := h
          refine ⟨rfl, fun c hc => ?_⟩
          rcases ioChg_ids _ _ c hc with hc | ⟨j, hc⟩
          · exact .inl ⟨_, rfl, hc⟩
          · cases j with
            | zero =>
              simp only [List.getElem?_cons_zero, Option.some.injEq] at hc
              rw [← hc]
              exact .inr ⟨vcopy_at hv, rfl, rfl⟩
            | succ j => simp at hc
      · exact h.elim
    · unfold clearK at h
      split at h
      · split at h
        · subst h
          exact ⟨rfl, by simp [Upd.chg]⟩
        · exact h.elim
      · rename_i i b hv
        split at h
        · subst h
          refine ⟨rfl, fun c hc => .inr ?_⟩
          simp only [Upd.chg, List.mem_singleton] at hc
          subst hc
          exact ⟨vclear_at hv, rfl, rfl⟩
        · exact h.elim
      · exact h.elim
    · exact add h
  · split at h
    · unfold heapK at h
      split at h
      rotate_left
      · exact h.elim
      rename_i i b hv
      subst h
      refine ⟨rfl, fun c hc => .inr ?_⟩
      simp only [Upd.chg, List.mem_singleton] at hc
      subst hc
      refine ⟨?_, rfl, rfl⟩
      unfold vstore at hv
      split at hv
      · split at hv
        · rename_i hH
          split at hv
          · cases hv; rw [hH]; simp
          · cases hv
        · cases hv
      · cases hv
    · exact h.elim
  · split at h
    · unfold heapK at h
      split at h
      rotate_left
      · exact h.elim
      rename_i i b hv
      subst h
      refine ⟨rfl, fun c hc => .inr ?_⟩
      simp only [Upd.chg, List.mem_singleton] at hc
      subst hc
      refine ⟨?_, rfl, rfl⟩
      exact vmapAll_at hv
    · exact h.elim
  · split at h
    · unfold heapK at h
      split at h
      rotate_left
      · exact h.elim
      rename_i i b hv
      subst h
      refine ⟨rfl, fun c hc => .inr ?_⟩
      simp only [Upd.chg, List.mem_singleton] at hc
      subst hc
      refine ⟨?_, rfl, rfl⟩
      exact vmapAll_at hv
    · exact h.elim
  · split at h
    · unfold valK at h
      split at h
      · exact h.elim
      · obtain ⟨_, rfl⟩ := h
        exact ⟨rfl, by simp [Upd.chg]⟩
    · exact h.elim
  · split at h
    · exact add h
    · split at h
      · unfold valK at h
        split at h
        · exact h.elim
        · obtain ⟨_, rfl⟩ := h
          exact ⟨rfl, by simp [Upd.chg]⟩
      · exact h.elim
  · split at h
    · unfold valK at h
      split at h
      · exact h.elim
      · obtain ⟨_, rfl⟩ := h
        exact ⟨rfl, by simp [Upd.chg]⟩
    · exact add h
  · split at h
    · split at h
      · unfold valK at h
        split at h
        · exact h.elim
        · obtain ⟨_, rfl⟩ := h
          exact ⟨rfl, by simp [Upd.chg]⟩
      · exact h.elim
    · split at h
      · exact add h
      · split at h
        · rename_i q hq
          refine mv rfl h fun i b hv => ?_
          cases hv
          unfold vcut at hq
          split at hq
          · split at hq
            · split at hq
              · rename_i hH _
                split at hq
                · cases hq; rw [hH]; simp
                · cases hq
              · cases hq
            · cases hq
          · cases hq
        · exact add h
    · exact add h
  · exact add h

theorem collect_at {nx : Nat} (i : Id) {v v' : Nat → Bool} : ∀ (Us : List Upd) (k : Nat), (∀ j U, Us[j]? = some U → v (k + j) ≠ v' (k + j) → ∀ c ∈ U.chg nx, c.1 ≠ i) →
    (collect nx v k Us).filter (fun c => c.1 = i) = (collect nx v' k Us).filter fun c => c.1 = i
  | [], k, h => rfl
  | U :: Us, k, h => by
    simp only [collect, List.filter_append]
    rw [collect_at i Us (k + 1) fun j V hV hne => h (j + 1) V (by simpa using hV) (by rwa [Nat.add_comm j 1, ← Nat.add_assoc])]
    congr 1
    have h0 := h 0 U rfl
    simp only [Nat.add_zero] at h0
    by_cases hv : v k = v' k
    · rw [hv]
    · have : (U.chg nx).filter (fun c => c.1 = i) = [] := by
        rw [List.filter_eq_nil_iff]
        intro c hc
        simpa using h0 hv c hc
      have e1 : ∀ b : Bool, (if b = true then U.chg nx else []).filter (fun c => c.1 = i) = [] := by
        intro b; cases b
        · rfl
        · exact this
      rw [e1, e1]

/-- One operation's changes may come last. -/
theorem collect_add {nx : Nat} (i : Id) {S S' : Nat → Bool} {U : Upd} : ∀ (Us : List Upd) (k m : Nat) (H : Id → Option Blk), Us[m]? = some U → S (k + m) = false → S' (k + m) = true → (∀ j, j ≠ m → S (k + j) = S' (k + j)) →
    (∀ j V, m < j → Us[j]? = some V → S (k + j) = true → ∀ c ∈ V.chg nx, ∀ e ∈ U.chg nx, c.1 ≠ e.1) →
    applyC (applyC H (collect nx S k Us)) (U.chg nx) i = applyC H (collect nx S' k Us) i
  | [], k, m, H, hU, _, _, _, _ => by simp at hU
  | V :: Us, k, 0, H, hU, h0, h1, hs, hd => by
    simp only [List.getElem?_cons_zero, Option.some.injEq] at hU
    subst hU
    simp only [Nat.add_zero] at h0 h1
    simp only [collect, h0, h1, if_true, Bool.false_eq_true, if_false, List.nil_append]
    have hc : collect nx S (k + 1) Us = collect nx S' (k + 1) Us := by
      have key : ∀ (l : List Upd) (q : Nat), k < q → collect nx S q l = collect nx S' q l := by
        intro l
        induction l with
        | nil => intro q _; rfl
        | cons W l ih =>
          intro q hq
          have := hs (q - k) (by omega)
          rw [show k + (q - k) = q by omega] at this
          simp only [collect, this, ih (q + 1) (by omega)]
      exact key Us (k + 1) (by omega)
    rw [hc]
    rw [← applyC_append]
    -- the two lists differ in order alone
    by_cases hin : ∃ e ∈ V.chg nx, e.1 = i
    · obtain ⟨e, he, hei⟩ := hin
      have hno : ∀ c ∈ collect nx S' (k + 1) Us, c.1 ≠ i := by
        have key : ∀ (l : List Upd) (q : Nat), (∀ j W, l[j]? = some W → S' (q + j) = true → ∀ c ∈ W.chg nx, c.1 ≠ i) → ∀ c ∈ collect nx S' q l, c.1 ≠ i := by
          intro l
          induction l with
          | nil => intro q _ c hc; simp [collect] at hc
          | cons W l ih =>
            intro q hq c hc
            simp only [collect, List.mem_append] at hc
            rcases hc with hc | hc
            · have := hq 0 W rfl
              simp only [Nat.add_zero] at this
              split at hc
              · rename_i hs'; exact this hs' c hc
              · simp at hc
            · exact ih (q + 1) (fun j W' hW hs' => hq (j + 1) W' (by simpa using hW) (by rwa [Nat.add_comm j 1, ← Nat.add_assoc])) c hc
        refine key Us (k + 1) fun j W hW hs' c hc => ?_
        rw [← hei]
        refine hd (j + 1) W (by omega) (by simpa using hW) ?_ c hc e he
        rw [hs (j + 1) (by omega), Nat.add_comm j 1, ← Nat.add_assoc]
        exact hs'
      rw [applyC_at i _ H H rfl, applyC_at i (V.chg nx ++ _) H H rfl, List.filter_append, List.filter_append]
      have : (collect nx S' (k + 1) Us).filter (fun c => c.1 = i) = [] := by
        rw [List.filter_eq_nil_iff]; intro c hc; simpa using hno c hc
      simp [this]
    · rw [applyC_at i _ H H rfl, applyC_at i (V.chg nx ++ _) H H rfl, List.filter_append, List.filter_append]
      have : (V.chg nx).filter (fun c => c.1 = i) = [] := by
        rw [List.filter_eq_nil_iff]; intro c hc; simp; intro he; exact hin ⟨c, hc, he⟩
      simp [this]
  | V :: Us, k, m + 1, H, hU, h0, h1, hs, hd => by
    have e0 := hs 0 (by omega)
    simp only [Nat.add_zero] at e0
    simp only [collect, e0]
    rw [applyC_append, applyC_append]
    exact collect_add i Us (k + 1) m _ (by simpa using hU) (by rw [Nat.add_assoc, Nat.add_comm 1 m]; exact h0) (by rw [Nat.add_assoc, Nat.add_comm 1 m]; exact h1)
      (fun j hj => by have := hs (j + 1) (by omega); rwa [Nat.add_comm j 1, ← Nat.add_assoc] at this)
      (fun j W hj hW hs' => hd (j + 1) W (by omega) (by simpa using hW) (by rwa [Nat.add_comm j 1, ← Nat.add_assoc]))

theorem frAt_hit {nx : Nat} {vis late : Nat → Bool} {fr : Nat → Option PV} {t : Nat} : ∀ (ops : List Oper) (k : Nat) (Us : List Upd) (j : Nat) (o : Oper), ops[j]? = some o → o.dst = some t → (∀ i o', i < j → ops[i]? = some o' → o'.dst ≠ some t) →
    frAt nx vis late fr k ops Us t = if vis (k + j) then (Us[j]?).bind (Upd.v nx) else if late (k + j) then fr t else none
  | [], k, Us, j, o, ho, _, _ => by simp at ho
  | o' :: ops, k, Us, 0, o, ho, hd, _ => by
    simp only [List.getElem?_cons_zero, Option.some.injEq] at ho
    subst ho
    simp only [frAt, hd, if_true, Nat.add_zero]
    cases Us <;> rfl
  | o' :: ops, k, Us, j + 1, o, ho, hd, hn => by
    have h0 := hn 0 o' (by omega) rfl
    simp only [frAt, if_neg h0]
    rw [frAt_hit ops (k + 1) Us.tail j o (by simpa using ho) hd fun i o'' hi ho'' => hn (i + 1) o'' (by omega) (by simpa using ho'')]
    rw [Nat.add_assoc, Nat.add_comm 1 j]
    cases Us <;> simp

theorem frAt_miss {nx : Nat} {vis late : Nat → Bool} {fr : Nat → Option PV} {t : Nat} : ∀ (ops : List Oper) (k : Nat) (Us : List Upd), (∀ (j : Nat) (o : Oper), ops[j]? = some o → o.dst ≠ some t) → frAt nx vis late fr k ops Us t = fr t
  | [], k, Us, _ => rfl
  | o :: ops, k, Us, h => by
    simp only [frAt, if_neg (h 0 o rfl)]
    exact frAt_miss ops (k + 1) Us.tail fun j o' ho' => h (j + 1) o' (by simpa using ho')

theorem masked_spec {nx : Nat} {k : Nat} {i : Id} : ∀ (ops : List Oper) (q : Nat), masked nx D k q ops i = false → ∀ (j : Nat) (o : Oper) (d : Nat), ops[j]? = some o → o.dst = some d → isDep D (q + j) k = false → q + j ≠ k → i.1 ≠ nx + d
  | [], q, _, j, o, d, ho, _, _, _ => by simp at ho
  | o' :: ops, q, h, 0, o, d, ho, hd, hD, hk => by
    simp only [List.getElem?_cons_zero, Option.some.injEq] at ho
    subst ho
    simp only [Nat.add_zero] at hD hk
    simp only [masked, hd, hD, Bool.or_eq_false_iff] at h
    intro he
    simp [he, hk] at h
  | o' :: ops, q, h, j + 1, o, d, ho, hd, hD, hk => by
    simp only [masked, Bool.or_eq_false_iff] at h
    have := masked_spec ops (q + 1) h.2 j o d (by simpa using ho) hd (by rw [Nat.add_assoc, Nat.add_comm 1 j]; exact hD) (by omega)
    exact this
end

def OpG (C : Core) (ops : List Oper) (nx : Nat) (fr : Nat → Option PV) (H : Id → Option Blk) (g : Option (Nat × Bool)) (d : Option Nat) (op : Op) (U : Upd) : Prop := gK C ops nx fr H g d op (· = U)
section
variable {C : Ctx} {ops : List Oper} {nx : Nat} {fr : Nat → Option PV} {H : Id → Option Blk} {g : Option (Nat × Bool)} {d : Option Nat} {op : Op} {K K' : Upd → Prop} {U : Upd}
theorem gK_elim (h : gK C ops nx fr H g d op K) : ∃ U, OpG C ops nx fr H g d op U ∧ K U := by
  unfold OpG
  cases g with
  | none => exact opK_elim h
  | some gw =>
    obtain ⟨g, want⟩ := gw
    simp only [gK] at h ⊢
    split at h
    · split at h
      · rename_i hv
        obtain ⟨U, h1, h2⟩ := opK_elim h
        exact ⟨U, by rw [if_pos hv]; exact h1, h2⟩
      · rename_i hv
        exact ⟨_, by rw [if_neg hv]; exact ⟨h.1, rfl⟩, h.2⟩
    · exact h.elim
theorem opG_cases (h : OpG C ops nx fr H g d op U) : OpU C nx (ev fr) H d op U ∨ U = .val d (.tup []) := by
  unfold OpG at h
  cases g with
  | none => exact .inl h
  | some gw =>
    obtain ⟨g, want⟩ := gw
    simp only [gK] at h
    split at h
    · split at h
      · exact .inl h
      · exact .inr h.2.symm
    · exact h.elim
theorem opG_chg (h : OpG C ops nx fr H g d op U) :
    U.dst = d ∧ ∀ c ∈ U.chg nx, (∃ t, U.tag = some t ∧ c.1.1 = nx + t) ∨ (H c.1 ≠ none ∧ U.isM = true ∧ reads op = true) := by
  rcases opG_cases h with h | rfl
  · exact opU_chg h
  · exact ⟨rfl, by simp [Upd.chg]⟩
end
/-- What is known of a region that draws its order, once all its operations have been told. -/
structure Told (C : Core) (ops : List Oper) (D : List (List Nat)) (σ : St) (Us : List Upd) : Prop where
  len : Us.length = ops.length
  order : orderX ops D σ.nx σ.fr Us = true
  deps : depOk ops D = true
  dsts : dstsOk ops = true
  op : ∀ k o U, ops[k]? = some o → Us[k]? = some U → ∃ Us' fr Hv, (∀ j, j < k → Us'[j]? = Us[j]?) ∧ (∀ t p, fr t = some p → frAt σ.nx (isDep D · k) (isDep D k) σ.fr 0 ops Us' t = some p) ∧ (∀ i b, Hv i = some b → HAt σ ops D Us' k (reads o.op) i = some b) ∧ OpG C ops σ.nx fr Hv o.guard o.dst o.op U ∧ U.fresh σ

section
variable {C : Ctx} {φ φ' : Id → Option Value} {F : Bool → Nat → Prop} {F0 F1 : Nat → Prop} {σ : St} {a : Act} {w w' : World} {P : Program} {ops : List Oper} {D : List (List Nat)} {Us : List Upd}

theorem anyRun_told {Q : St → Prop} (hd : depOk ops D = true) (hs : dstsOk ops = true) (h : anyRun C ops D σ 0 ops [] Q) : ∃ Us, Told C ops D σ Us ∧ Q (Us.foldl Upd.app σ) := by
  have key : ∀ (rest : List Oper) (k : Nat) (Us0 : List Upd), Us0.length = k → (∀ j, rest[j]? = ops[k + j]?) → anyRun C ops D σ k rest Us0 Q →
      ∃ Us, Us.length = k + rest.length ∧ (∀ j, j < k → Us[j]? = Us0[j]?) ∧ orderX ops D σ.nx σ.fr Us = true ∧ Q (Us.foldl Upd.app σ) ∧
        ∀ j o U, k ≤ j → ops[j]? = some o → Us[j]? = some U → ∃ Us', (∀ i, i < j → Us'[i]? = Us[i]?) ∧ OpG C ops σ.nx (frAt σ.nx (isDep D · j) (isDep D j) σ.fr 0 ops Us') (HAt σ ops D Us' j (reads o.op)) o.guard o.dst o.op U ∧ U.fresh σ := by
    intro rest
    induction rest with
    | nil =>
      intro k Us0 hl hr h
      refine ⟨Us0, by simpa using hl, fun _ _ => rfl, h.1, h.2, fun j o U hj ho hU => ?_⟩
      have := (List.getElem?_eq_some_iff.1 hU).1
      omega
    | cons o rest ih =>
      intro k Us0 hl hr h
      simp only [anyRun] at h
      obtain ⟨U, hU, hf, hn⟩ := gK_elim h
      obtain ⟨Us, h1, h2, h3, h4, h5⟩ := ih (k + 1) (Us0 ++ [U]) (by simp [hl]) (fun j => by have := hr (j + 1); simpa [Nat.add_assoc, Nat.add_comm 1 j] using this) hn
      refine ⟨Us, by simp [h1]; omega, fun j hj => ?_, h3, h4, fun j o' U' hj ho' hU' => ?_⟩
      · rw [h2 j (by omega), List.getElem?_append_left (by omega)]
      · rcases Nat.lt_or_ge k j with hlt | hge
        · exact h5 j o' U' hlt ho' hU'
        · have hjk : j = k := by omega
          subst hjk
          have e1 : o' = o := by
            have := hr 0
            simp only [List.getElem?_cons_zero, Nat.add_zero] at this
            rw [ho'] at this; cases this; rfl
          have e2 : U' = U := by
            rw [h2 j (by omega), List.getElem?_append_right (by omega), hl] at hU'
            simp at hU'; exact hU'.symm
          subst e1 e2
          exact ⟨Us0, fun i hi => by rw [h2 i (by omega), List.getElem?_append_left (by omega)], hU, hf⟩
  obtain ⟨Us, h1, _, h3, h4, h5⟩ := key ops 0 [] rfl (by simp) h
  refine ⟨Us, ⟨by simpa using h1, h3, hd, hs, fun k o U ho hU => ?_⟩, h4⟩
  obtain ⟨Us', h6, h7, h8⟩ := h5 k o U (Nat.zero_le _) ho hU
  exact ⟨Us', _, _, h6, fun _ _ e => e, fun _ _ e => e, h7, h8⟩

theorem depOk_spec (h : depOk ops D = true) {k : Nat} {o : Oper} (ho : ops[k]? = some o) :
    (∀ e ∈ o.after, Region.binds .any e = true → e.on < k) ∧ (∀ j, isDep D j k = true → ∃ e ∈ o.after, Region.binds .any e = true ∧ (e.on = j ∨ isDep D j e.on = true)) := by
  unfold depOk at h
  rw [List.all_eq_true] at h
  have := h k (List.mem_range.2 (List.getElem?_eq_some_iff.1 ho).1)
  rw [ho] at this
  simp only [Bool.and_eq_true, List.all_eq_true, List.any_eq_true, Bool.or_eq_true, decide_eq_true_eq, Bool.not_eq_true', beq_iff_eq] at this
  obtain ⟨h1, h2⟩ := this
  refine ⟨fun e he hb => ?_, fun j hj => ?_⟩
  · rcases h1 e (by simpa using he) with h4 | h4
    · rw [hb] at h4; cases h4
    · exact h4
  · obtain ⟨e, he, hb, h4⟩ := h2 j (by simpa [isDep] using hj)
    exact ⟨e, by simpa using he, hb, h4⟩

theorem dstsOk_spec (h : dstsOk ops = true) {j k : Nat} {o o' : Oper} {d : Nat} (hj : ops[j]? = some o) (hk : ops[k]? = some o') (h1 : o.dst = some d) (h2 : o'.dst = some d) : j = k := by
  unfold dstsOk at h
  rw [List.all_eq_true] at h
  have := h j (List.mem_range.2 (List.getElem?_eq_some_iff.1 hj).1)
  rw [List.all_eq_true] at this
  have := this k (List.mem_range.2 (List.getElem?_eq_some_iff.1 hk).1)
  simpa [hj, hk, h1, h2] using this

theorem orderOk_spec (h : orderOk ops D Us = true) {j k : Nat} {o : Oper} {U : Upd} (hj : Us[j]? = some U) (hk : ops[k]? = some o) (hjl : j < ops.length) (hM : U.isM = true) (hr : reads o.op = true) (hne : j ≠ k) :
    isDep D j k = true ∨ isDep D k j = true := by
  unfold orderOk at h
  rw [List.all_eq_true] at h
  have := h j (List.mem_range.2 hjl)
  rw [hj] at this
  simp only [Option.any_some, hM, Bool.not_true, Bool.false_or, List.all_eq_true] at this
  have := this k (List.mem_range.2 (List.getElem?_eq_some_iff.1 hk).1)
  simpa [hk, hr, hne] using this

theorem orderX_spec {nx : Nat} {fr : Nat → Option PV} (h : orderX ops D nx fr Us = true) {j k : Nat} {o : Oper} {U : Upd} (hj : Us[j]? = some U) (hk : ops[k]? = some o) (hjl : j < ops.length) (hM : U.isM = true) (hr : reads o.op = true) (hne : j ≠ k) :
    (isDep D j k = true ∨ isDep D k j = true) ∨ ∀ c ∈ U.chg nx, masked nx D k 0 ops c.1 = true ∨ ∃ i, ptrAt nx fr ops D Us k o.op = some i ∧ c.1 ≠ i := by
  unfold orderX at h
  split at h
  · rename_i h0
    exact .inl (orderOk_spec h0 hj hk hjl hM hr hne)
  · unfold orderOk1 at h
    rw [List.all_eq_true] at h
    have := h j (List.mem_range.2 hjl)
    rw [hj] at this
    simp only [Option.any_some, hM, Bool.not_true, Bool.false_or, List.all_eq_true] at this
    have := this k (List.mem_range.2 (List.getElem?_eq_some_iff.1 hk).1)
    simp only [hk, hr, Option.any_some, Bool.not_true, Bool.or_false, Bool.or_eq_true, beq_iff_eq, hne, false_or, Option.all_some, List.all_eq_true] at this
    rcases this with this | this
    · exact .inl this
    · refine .inr fun c hc => ?_
      have := this c hc
      simp only [Option.bind_some, Option.any_eq_true, Bool.not_eq_true', decide_eq_false_iff_not] at this
      exact this

/-- The state behind a set of the operations. -/
def St.behind (σ : St) (ops : List Oper) (Us : List Upd) (S : Nat → Bool) : St :=
  ⟨frAt σ.nx S (fun _ => true) σ.fr 0 ops Us, applyC σ.H (collect σ.nx S 0 Us), fun d => σ.us d || (List.range Us.length).any fun j => S j && (Us[j]?).any (·.tag == some d), σ.nx, σ.gh⟩

/-- Everything that one of them waits for has come up. -/
def Shut (ops : List Oper) (S : Nat → Bool) : Prop := ∀ k o, ops[k]? = some o → S k = true → ∀ e ∈ o.after, Region.binds .any e = true → S e.on = true

theorem dep_in (h : depOk ops D = true) {S : Nat → Bool} (hS : Shut ops S) : ∀ (k : Nat) (o : Oper), ops[k]? = some o → (∀ e ∈ o.after, Region.binds .any e = true → S e.on = true) → ∀ j, isDep D j k = true → S j = true := by
  intro k
  induction k using Nat.strongRecOn with
  | _ k ih =>
    intro o ho hr j hj
    obtain ⟨h1, h2⟩ := depOk_spec h ho
    obtain ⟨e, he, hb, hcase⟩ := h2 j hj
    rcases hcase with rfl | hcase
    · exact hr e he hb
    · have hlt := h1 e he hb
      have hk := (List.getElem?_eq_some_iff.1 ho).1
      have ho' : ops[e.on]? = some ops[e.on] := List.getElem?_eq_getElem (by omega)
      exact ih e.on hlt _ ho' (fun e' he' hb' => hS e.on _ ho' (hr e he hb) e' he' hb') j hcase

theorem dep_lt (h : depOk ops D = true) : ∀ (k : Nat) (o : Oper), ops[k]? = some o → ∀ j, isDep D j k = true → j < k := by
  intro k
  induction k using Nat.strongRecOn with
  | _ k ih =>
    intro o ho j hj
    obtain ⟨h1, h2⟩ := depOk_spec h ho
    obtain ⟨e, he, hb, hcase⟩ := h2 j hj
    have hlt := h1 e he hb
    rcases hcase with rfl | hcase
    · exact hlt
    · have hk := (List.getElem?_eq_some_iff.1 ho).1
      have := ih e.on hlt _ (List.getElem?_eq_getElem (by omega)) j hcase
      omega
end
end Go.Vm
end

section
namespace Go.Vm
open Go Go.RowKit
set_option linter.unusedSimpArgs false
set_option linter.unusedVariables false
section
variable {C : Ctx} {φ φ' : Id → Option Value} {F : Bool → Nat → Prop} {F0 F1 : Nat → Prop} {σ : St} {a : Act} {w w' : World} {P : Program} {ops : List Oper} {D : List (List Nat)} {Us : List Upd}

theorem collect_congr {nx : Nat} {v : Nat → Bool} : ∀ (Us Us' : List Upd) (k : Nat), (∀ j, v (k + j) = true → Us'[j]? = Us[j]?) → collect nx v k Us' = collect nx v k Us
  | [], [], k, h => rfl
  | [], U' :: Us', k, h => by
    have h0 : v k = false := by
      cases hv : v k with
      | false => rfl
      | true => have := h 0 hv; simp at this
    simp only [collect, h0, Bool.false_eq_true, if_false, List.nil_append]
    exact collect_congr [] Us' (k + 1) fun j hj => by have := h (j + 1) (by rwa [Nat.add_comm j 1, ← Nat.add_assoc]); simpa using this
  | U :: Us, [], k, h => by
    have h0 : v k = false := by
      cases hv : v k with
      | false => rfl
      | true => have := h 0 hv; simp at this
    simp only [collect, h0, Bool.false_eq_true, if_false, List.nil_append]
    exact collect_congr Us [] (k + 1) fun j hj => by have := h (j + 1) (by rwa [Nat.add_comm j 1, ← Nat.add_assoc]); simpa using this
  | U :: Us, U' :: Us', k, h => by
    simp only [collect]
    rw [collect_congr Us Us' (k + 1) fun j hj => by have := h (j + 1) (by rwa [Nat.add_comm j 1, ← Nat.add_assoc]); simpa using this]
    cases hv : v k with
    | false => rfl
    | true => have := h 0 hv; simp at this; rw [this]

theorem frAt_congr {nx : Nat} {v late : Nat → Bool} {fr : Nat → Option PV} {t : Nat} : ∀ (ops : List Oper) (Us Us' : List Upd) (k : Nat), (∀ j, v (k + j) = true → Us'[j]? = Us[j]?) → frAt nx v late fr k ops Us' t = frAt nx v late fr k ops Us t
  | [], _, _, _, _ => rfl
  | o :: ops, Us, Us', k, h => by
    simp only [frAt]
    rw [frAt_congr ops Us.tail Us'.tail (k + 1) fun j hj => by have := h (j + 1) (by rwa [Nat.add_comm j 1, ← Nat.add_assoc]); cases Us <;> cases Us' <;> simp at this ⊢ <;> try exact this]
    cases hv : v k with
    | false => rfl
    | true =>
      have h0 := h 0 hv
      have : Us'.head? = Us.head? := by rw [List.head?_eq_getElem?, List.head?_eq_getElem?]; exact h0
      rw [this]

theorem told_op (T : Told C ops D σ Us) {k : Nat} {o : Oper} {U : Upd} (ho : ops[k]? = some o) (hU : Us[k]? = some U) :
    ∃ fr Hv, (∀ t p, fr t = some p → frAt σ.nx (isDep D · k) (isDep D k) σ.fr 0 ops Us t = some p) ∧ (∀ i b, Hv i = some b → HAt σ ops D Us k (reads o.op) i = some b) ∧ OpG C ops σ.nx fr Hv o.guard o.dst o.op U ∧ U.fresh σ := by
  obtain ⟨Us', fr, Hv, hp, hfr, hH, hop, hf⟩ := T.op k o U ho hU
  have hv : ∀ j, isDep D (0 + j) k = true → Us'[j]? = Us[j]? := fun j hj => hp j (dep_lt T.deps k o ho j (by simpa using hj))
  have e1 : frAt σ.nx (isDep D · k) (isDep D k) σ.fr 0 ops Us' = frAt σ.nx (isDep D · k) (isDep D k) σ.fr 0 ops Us := funext fun t => frAt_congr ops Us Us' 0 hv
  have e2 : HAt σ ops D Us' k (reads o.op) = HAt σ ops D Us k (reads o.op) := by
    funext i
    unfold HAt
    rw [collect_congr (v := (isDep D · k)) Us Us' 0 hv]
  rw [e1] at hfr
  rw [e2] at hH
  exact ⟨fr, Hv, hfr, hH, hop, hf⟩
theorem told_chg (T : Told C ops D σ Us) {k : Nat} {o : Oper} {U : Upd} (ho : ops[k]? = some o) (hU : Us[k]? = some U) :
    U.dst = o.dst ∧ ∀ c ∈ U.chg σ.nx, (∃ t, U.tag = some t ∧ c.1.1 = σ.nx + t) ∨ (HAt σ ops D Us k (reads o.op) c.1 ≠ none ∧ U.isM = true ∧ reads o.op = true) := by
  obtain ⟨fr, Hv, _, hH, hop, _⟩ := told_op T ho hU
  obtain ⟨h1, h2⟩ := opG_chg hop
  refine ⟨h1, fun c hc => (h2 c hc).imp id fun ⟨h3, h4⟩ => ⟨fun e => h3 ?_, h4⟩⟩
  cases hv : Hv c.1 with
  | none => rfl
  | some b => rw [hH _ _ hv] at e; cases e

theorem upd_of (T : Told C ops D σ Us) {k : Nat} {o : Oper} (ho : ops[k]? = some o) : ∃ U, Us[k]? = some U := by
  have := (List.getElem?_eq_some_iff.1 ho).1
  exact ⟨_, List.getElem?_eq_getElem (by rw [T.len]; exact this)⟩

theorem oper_of (T : Told C ops D σ Us) {k : Nat} {U : Upd} (hU : Us[k]? = some U) : ∃ o, ops[k]? = some o := by
  have := (List.getElem?_eq_some_iff.1 hU).1
  exact ⟨_, List.getElem?_eq_getElem (by rw [← T.len]; exact this)⟩

theorem load_isM {nx : Nat} {fr : Nat → Option PV} {ops : List Oper} {D : List (List Nat)} {Us : List Upd} {k : Nat} {op : Op} {i : Id} {ρ : Operand → Option PV} {H : Id → Option Blk} {d : Option Nat} {U : Upd} (hp : ptrAt nx fr ops D Us k op = some i) (hU : OpU C nx ρ H d op U) : U.isM = false := by
  cases op with
  | load t x =>
    unfold OpU at hU
    simp only [opK, vAddK, addK] at hU
    split at hU
    · split at hU
      · subst hU; rfl
      · rw [← hU.2]; rfl
    · split at hU
      · exact hU.elim
      · rw [← hU.2]; rfl
    · exact hU.elim
  | _ => simp [ptrAt] at hp
theorem ev_le {fr fr' : Nat → Option PV} (h : ∀ t p, fr t = some p → fr' t = some p) {x : Operand} {p : PV} (hx : ev fr x = some p) : ev fr' x = some p := by
  cases x with
  | tmp t => exact h t p hx
  | const v => exact hx
  | func f => exact hx
  | global g => exact hx
/-- A load only looks at its own block. -/
theorem load_only {nx : Nat} {fr fr' : Nat → Option PV} {ops : List Oper} {D : List (List Nat)} {Us : List Upd} {k : Nat} {op : Op} {i : Id} {H : Id → Option Blk} {d : Option Nat} {U : Upd} (hle : ∀ t p, fr' t = some p → frAt nx (isDep D · k) (isDep D k) fr 0 ops Us t = some p) (hp : ptrAt nx fr ops D Us k op = some i)
    (hU : OpU C nx (ev fr') H d op U) : OpU C nx (ev fr') (fun j => if j = i then H j else none) d op U := by
  cases op with
  | load t x =>
    simp only [ptrAt] at hp
    split at hp
    · rename_i j off hx
      cases hp
      have e : vAll C.P (nx + d.getD 0, 0) (ev fr') (fun j => if j = i then H j else none) (.load t x) = vAll C.P (nx + d.getD 0, 0) (ev fr') H (.load t x) := by
        cases hx' : ev fr' x with
        | none => simp only [vAll, vAdd, vMore, hx', Option.bind_none]
        | some q =>
          have := ev_le hle hx'
          rw [hx] at this
          cases this
          simp only [vAll, vAdd, vMore, hx', Option.bind_some, behind, if_true]
      unfold OpU at hU ⊢
      simp only [opK, vAddK] at hU ⊢
      rw [e]
      exact hU
    · cases hp
  | _ => simp [ptrAt] at hp
theorem load_onlyG {nx : Nat} {fr fr' : Nat → Option PV} {ops : List Oper} {D : List (List Nat)} {Us : List Upd} {k : Nat} {op : Op} {i : Id} {H : Id → Option Blk} {g : Option (Nat × Bool)} {d : Option Nat} {U : Upd} (hle : ∀ t p, fr' t = some p → frAt nx (isDep D · k) (isDep D k) fr 0 ops Us t = some p) (hp : ptrAt nx fr ops D Us k op = some i)
    (hU : OpG C ops nx fr' H g d op U) : OpG C ops nx fr' (fun j => if j = i then H j else none) g d op U := by
  unfold OpG at *
  cases g with
  | none => exact load_only hle hp hU
  | some gw =>
    obtain ⟨g, want⟩ := gw
    simp only [gK] at hU ⊢
    split at hU
    · split at hU
      · rename_i hv
        rw [if_pos hv]
        exact load_only hle hp hU
      · rename_i hv
        rw [if_neg hv]
        exact hU
    · exact hU.elim

/-- What a name that an operation changes can be, as another sees it. -/
theorem apart_names (T : Told C ops D σ Us) {j k : Nat} {o o' : Oper} {U V : Upd} (hj : ops[j]? = some o) (hU : Us[j]? = some U) (hk : ops[k]? = some o') (hV : Us[k]? = some V) (hne : j ≠ k) (h1 : isDep D j k = false) (h2 : isDep D k j = false) :
    ∀ c ∈ U.chg σ.nx, ∀ e ∈ V.chg σ.nx, c.1 ≠ e.1 := by
  intro c hc e he heq
  obtain ⟨hud, huc⟩ := told_chg T hj hU
  obtain ⟨hvd, hvc⟩ := told_chg T hk hV
  have hm : ∀ {q : Nat} {rd : Bool} {i : Id}, HAt σ ops D Us q rd i ≠ none → masked σ.nx D q 0 ops i = false := by
    intro q rd i h
    unfold HAt at h
    cases rd with
    | false => simp at h
    | true =>
      cases hm : masked σ.nx D q 0 ops i with
      | false => rfl
      | true => simp [hm] at h
  rcases huc c hc with ⟨t, ht, hct⟩ | ⟨hcn, hcM, hcr⟩ <;> rcases hvc e he with ⟨t', ht', het⟩ | ⟨hen, heM, her⟩
  · have : t = t' := by rw [heq] at hct; omega
    subst this
    exact hne (dstsOk_spec T.dsts hj hk (by rw [← hud]; exact tag_dst ht) (by rw [← hvd]; exact tag_dst ht'))
  · have := masked_spec ops 0 (hm hen) j o t hj (by rw [← hud]; exact tag_dst ht) (by simpa using h1) (by omega)
    exact this (by rw [← heq]; exact hct)
  · have := masked_spec ops 0 (hm hcn) k o' t' hk (by rw [← hvd]; exact tag_dst ht') (by simpa using h2) (by omega)
    exact this (by rw [heq]; exact het)
  · rcases orderX_spec T.order hU hk (List.getElem?_eq_some_iff.1 hj).1 hcM her hne with (h | h) | h
    · rw [h1] at h; cases h
    · rw [h2] at h; cases h
    · rcases h c hc with h3 | ⟨i, hp, _⟩
      · rw [heq, hm hen] at h3
        cases h3
      · obtain ⟨_, _, _, _, hop0, _⟩ := told_op T hk hV
        rcases opG_cases hop0 with hop | hop
        · rw [load_isM hp hop] at heM
          cases heM
        · rw [hop] at he
          simp [Upd.chg] at he

theorem frAt_get (T : Told C ops D σ Us) {S late : Nat → Bool} {t : Nat} : (∃ j o U, ops[j]? = some o ∧ Us[j]? = some U ∧ o.dst = some t ∧ frAt σ.nx S late σ.fr 0 ops Us t = if S j then U.v σ.nx else if late j then σ.fr t else none) ∨
    ((∀ (j : Nat) (o : Oper), ops[j]? = some o → o.dst ≠ some t) ∧ frAt σ.nx S late σ.fr 0 ops Us t = σ.fr t) := by
  by_cases h : ∃ (j : Nat) (o : Oper), ops[j]? = some o ∧ o.dst = some t
  · obtain ⟨j, o, ho, hd⟩ := h
    obtain ⟨U, hU⟩ := upd_of T ho
    refine .inl ⟨j, o, U, ho, hU, hd, ?_⟩
    rw [frAt_hit ops 0 Us j o ho hd fun i o' hi ho' hd' => absurd (dstsOk_spec T.dsts ho' ho hd' hd) (by omega)]
    simp [hU]
  · refine .inr ⟨fun j o ho hd => h ⟨j, o, ho, hd⟩, frAt_miss ops 0 Us fun j o ho hd => h ⟨j, o, ho, hd⟩⟩

/-- One more operation comes up. -/
theorem behind_step (T : Told C ops D σ Us) {S : Nat → Bool} {k : Nat} {o : Oper} {U : Upd} (ho : ops[k]? = some o) (hU : Us[k]? = some U) (hS : Shut ops S) (hk : S k = false) (hr : ∀ e ∈ o.after, Region.binds .any e = true → S e.on = true)
    (hR : Rel C (σ.behind ops Us S) a w) {K : Act → World → Prop} {Q : Exit → Act → World → Prop} (hK : ∀ a' w', Rel C (σ.behind ops Us fun j => j == k || S j) a' w' → K a' w') : if Region.wanted o (yielded ops.toArray a.tmps) then o.wpIn (fz C) 0 C.P a w K Q else (∀ f, o.about C.P w a.eval = some f → (fz C).fn f) ∧ K (a.put o.dst undef) w := by
  obtain ⟨frv, Hv0, hfrv, hHv0, hop, hf⟩ := told_op T ho hU
  obtain ⟨hud, huc⟩ := told_chg T ho hU
  have hdep := dep_in T.deps hS k o ho hr
  obtain ⟨φ, F0, F1, h⟩ := hR
  -- what another operation of S that k does not wait for has changed
  have hoth : ∀ j V, Us[j]? = some V → S j = true → isDep D j k = false → j ≠ k ∧ ∃ o', ops[j]? = some o' ∧ isDep D k j = false := by
    intro j V hV hj hd
    obtain ⟨o', ho'⟩ := oper_of T hV
    refine ⟨(by rintro rfl; rw [hk] at hj; cases hj), o', ho', ?_⟩
    cases hkj : isDep D k j with
    | false => rfl
    | true =>
      have := dep_in T.deps hS j o' ho' (hS j o' ho' hj) k hkj
      rw [hk] at this; cases this
  have hHle0 : ∀ {i b}, (∀ i', ptrAt σ.nx σ.fr ops D Us k o.op = some i' → i = i') → HAt σ ops D Us k (reads o.op) i = some b → (σ.behind ops Us S).H i = some b := by
    intro i b hpi hi
    unfold HAt at hi
    split at hi
    · rename_i hrd
      split at hi
      · cases hi
      · rename_i hm
        simp only [St.behind]
        rw [← hi, applyC_at i _ σ.H σ.H rfl, applyC_at i (collect σ.nx (isDep D · k) 0 Us) σ.H σ.H rfl]
        rw [collect_at i (v := S) (v' := (isDep D · k)) Us 0 ?_]
        intro j V hV hne c hc hci
        simp only [Nat.zero_add] at hne
        have hdj : isDep D j k = false := by
          cases hd : isDep D j k with
          | false => rfl
          | true => rw [hdep j hd, hd] at hne; exact absurd rfl hne
        have hSj : S j = true := by
          cases hs : S j with
          | true => rfl
          | false => rw [hs, hdj] at hne; exact absurd rfl hne
        obtain ⟨hjk, o', ho', hkj⟩ := hoth j V hV hSj hdj
        obtain ⟨hvd, hvc⟩ := told_chg T ho' hV
        rcases hvc c hc with ⟨t, ht, hct⟩ | ⟨_, hM, _⟩
        · have := masked_spec ops 0 (by simpa using hm) j o' t ho' (by rw [← hvd]; exact tag_dst ht) (by simpa using hdj) (by omega)
          exact this (by rw [← hci]; exact hct)
        · rcases orderX_spec T.order hV ho (List.getElem?_eq_some_iff.1 ho').1 hM hrd hjk with (h' | h') | h'
          · rw [hdj] at h'; cases h'
          · rw [hkj] at h'; cases h'
          · rcases h' c hc with h3 | ⟨i', hp, hne'⟩
            · rw [hci] at h3
              exact hm h3
            · exact hne' (hci.trans (hpi i' hp))
    · cases hi
  obtain ⟨Hv, hop, hHle⟩ : ∃ Hv, OpG C ops σ.nx frv Hv o.guard o.dst o.op U ∧ ∀ {i b}, Hv i = some b → (σ.behind ops Us S).H i = some b := by
    cases hp : ptrAt σ.nx σ.fr ops D Us k o.op with
    | none => exact ⟨_, hop, fun {i b} hi => hHle0 (fun i' h' => by rw [hp] at h'; cases h') (hHv0 _ _ hi)⟩
    | some i' =>
      refine ⟨_, load_onlyG hfrv hp hop, fun {i b} hi => ?_⟩
      split at hi
      · rename_i hii
        exact hHle0 (fun i2 h2 => by rw [hp] at h2; cases h2; exact hii) (hHv0 _ _ hi)
      · cases hi
  have hfrle : ∀ t p, frAt σ.nx (isDep D · k) (isDep D k) σ.fr 0 ops Us t = some p → frAt σ.nx S (fun _ => true) σ.fr 0 ops Us t = some p := by
    intro t p hp
    rcases frAt_get T (S := (isDep D · k)) (late := isDep D k) (t := t) with ⟨j, o', V, ho', hV, hd, he⟩ | ⟨hno, he⟩
    · rw [he] at hp
      split at hp
      · rename_i hdj
        rw [frAt_hit ops 0 Us j o' ho' hd fun i o'' hi ho'' hd' => absurd (dstsOk_spec T.dsts ho'' ho' hd' hd) (by omega)]
        simp only [Nat.zero_add, hdep j hdj, if_true, hV, Option.bind_some]
        exact hp
      · rename_i hdj
        split at hp
        · rename_i hkj
          rw [frAt_hit ops 0 Us j o' ho' hd fun i o'' hi ho'' hd' => absurd (dstsOk_spec T.dsts ho'' ho' hd' hd) (by omega)]
          have hSj : S j = false := by
            cases hSj : S j with
            | false => rfl
            | true =>
              obtain ⟨_, _, _, h3⟩ := hoth j V hV hSj (by simpa using hdj)
              rw [hkj] at h3; cases h3
          simp only [Nat.zero_add, hSj, Bool.false_eq_true, if_false, if_true]
          exact hp
        · cases hp
    · rw [he] at hp
      rw [frAt_miss ops 0 Us hno]
      exact hp
  have V : View φ w (Fs F0 F1) a (σ.behind ops Us S) (ev frv) Hv := by
    refine ⟨fun {x p} hx => ?_, hHle⟩
    exact ev_rep h (x := x) (ev_le (fun t p hp => hfrle t p (hfrv t p hp)) hx)
  have hfS : U.fresh (σ.behind ops Us S) := by
    rw [fresh_iff] at hf ⊢
    intro d hd
    simp only [St.behind, hf d hd, Bool.false_or, List.any_eq_false, List.mem_range]
    intro j hj hcon
    simp only [Bool.and_eq_true, Option.any_eq_true, beq_iff_eq] at hcon
    obtain ⟨hSj, W, hW, hWt⟩ := hcon
    obtain ⟨o', ho'⟩ := oper_of T hW
    obtain ⟨hwd, _⟩ := told_chg T ho' hW
    have := dstsOk_spec T.dsts ho' ho (by rw [← hwd]; exact tag_dst hWt) (by rw [← hud]; exact tag_dst hd)
    subst this
    rw [hk] at hSj; cases hSj
  have hnext : ∀ a' w', Rel C (U.app (σ.behind ops Us S)) a' w' → K a' w' := fun a' w' hR' => hK a' w' (Rel.of_le (σ := U.app (σ.behind ops Us S)) (τ := σ.behind ops Us fun j => j == k || S j) ⟨?_, ?_, ?_, app_nx (σ.behind ops Us S) U, fun t p hp => by rw [app_gh]; exact hp⟩ hR')
  · have run : OpU C σ.nx (ev frv) Hv o.dst o.op U → o.wpIn (fz C) 0 C.P a w K Q := fun hop => fz_op (fun c e => by rw [e] at hop; exact opK_defer hop) (opU_sound h V hop hfS hnext)
    unfold OpG at hop
    cases hg : o.guard with
    | none =>
      rw [hg] at hop
      rw [if_pos (by simp [Region.wanted, hg])]
      exact run hop
    | some gw =>
      obtain ⟨g, want⟩ := gw
      rw [hg] at hop
      simp only [gK] at hop
      split at hop
      · rename_i v hv
        have hv' : gslot ops (σ.behind ops Us S).fr g = some v := by
          unfold gslot at hv
          split at hv
          · rename_i t ht
            have e : gslot ops (σ.behind ops Us S).fr g = gval ((σ.behind ops Us S).fr t) := by unfold gslot; rw [ht]
            rw [e]
            cases hp : frv t with
            | none => rw [hp] at hv; simp [gval] at hv
            | some p =>
              rw [hp] at hv
              show gval (frAt σ.nx S (fun _ => true) σ.fr 0 ops Us t) = some v
              rw [hfrle t p (hfrv t p hp)]
              exact hv
          · cases hv
        have hy := yielded_of h hv'
        split at hop
        · rename_i hvw
          rw [if_pos (by simp [Region.wanted, hg, hy, hvw])]
          exact run hop
        · rename_i hvw
          rw [if_neg (by simp [Region.wanted, hg, hy, hvw])]
          refine ⟨fun _ _ => trivial, hnext _ _ ?_⟩
          have := h.skip hop.1
          obtain ⟨_, rfl⟩ := hop
          cases hd : o.dst with
          | none => rw [hd] at this; exact ⟨φ, F0, F1, this⟩
          | some d => rw [hd] at this; exact ⟨φ, F0, F1, this⟩
      · exact hop.elim
  · intro t p hp
    simp only [St.behind] at hp
    rw [app_fr]
    rcases frAt_get T (S := fun j => j == k || S j) (late := fun _ => true) (t := t) with ⟨j, o', V', ho', hV', hd, he⟩ | ⟨hno, he⟩
    · rw [he] at hp
      split at hp
      · rename_i hjS
        by_cases hjk : j = k
        · subst hjk
          rw [ho] at ho'; cases ho'
          rw [hU] at hV'; cases hV'
          rw [if_pos (by rw [hud]; exact hd)]
          exact hp
        · have hne : U.dst ≠ some t := by
            rw [hud]; intro hd'
            exact hjk (dstsOk_spec T.dsts ho' ho hd hd')
          rw [if_neg hne]
          have hSj : S j = true := by simpa [hjk] using hjS
          simp only [St.behind]
          rw [frAt_hit ops 0 Us j o' ho' hd fun i o'' hi ho'' hd' => absurd (dstsOk_spec T.dsts ho'' ho' hd' hd) (by omega)]
          simp only [Nat.zero_add, hSj, if_true, hV', Option.bind_some]
          exact hp
      · rename_i hjS
        simp only [Bool.or_eq_true, beq_iff_eq, not_or, Bool.not_eq_true] at hjS
        have hne : U.dst ≠ some t := by
          rw [hud]; intro hd'
          exact hjS.1 (dstsOk_spec T.dsts ho' ho hd hd')
        rw [if_neg hne]
        simp only [St.behind]
        rw [frAt_hit ops 0 Us j o' ho' hd fun i o'' hi ho'' hd' => absurd (dstsOk_spec T.dsts ho'' ho' hd' hd) (by omega)]
        simp only [Nat.zero_add, hjS.2, Bool.false_eq_true, if_false, if_true] at hp ⊢
        exact hp
    · rw [he] at hp
      rw [if_neg (by rw [hud]; exact hno k o ho)]
      simp only [St.behind]
      rw [frAt_miss ops 0 Us hno]
      exact hp
  · intro i b hb
    rw [app_H]
    simp only [St.behind] at hb ⊢
    rw [collect_add (S := S) (S' := fun j => j == k || S j) i Us 0 k σ.H hU (by simpa using hk) (by simp) (fun j hj => by simp [hj]) ?_]
    · exact hb
    · intro j V' hj hV' hSj c hc e he
      simp only [Nat.zero_add] at hSj
      have hdj : isDep D j k = false := by
        cases hd : isDep D j k with
        | false => rfl
        | true => have := dep_lt T.deps k o ho j hd; omega
      obtain ⟨hjk, o', ho', hkj⟩ := hoth j V' hV' hSj hdj
      exact apart_names T ho' hV' ho hU hjk hdj hkj c hc e he
  · intro d hd
    rw [app_us] at hd
    simp only [St.behind, Bool.or_eq_true, List.any_eq_true, List.mem_range, Bool.and_eq_true] at hd ⊢
    rcases hd with (hd | ⟨j, hj, hSj, ht⟩) | hd
    · exact .inl hd
    · exact .inr ⟨j, hj, .inr hSj, ht⟩
    · refine .inr ⟨k, (List.getElem?_eq_some_iff.1 hU).1, .inl (by simp), ?_⟩
      rw [hU]; simpa using hd

theorem collect_none {nx : Nat} : ∀ (Us : List Upd) (k : Nat), collect nx (fun _ => false) k Us = []
  | [], _ => rfl
  | U :: Us, k => by simp [collect, collect_none Us (k + 1)]

theorem foldl_gh : ∀ (Us : List Upd) (σ : St), (Us.foldl Upd.app σ).gh = σ.gh
  | [], _ => rfl
  | U :: Us, σ => by rw [List.foldl_cons, foldl_gh Us, app_gh]

/-- Behind all of them: as in text order. -/
theorem behind_all (T : Told C ops D σ Us) {S : Nat → Bool} (hS : ∀ j, j < ops.length → S j = true) (hS' : ∀ j, ops.length ≤ j → S j = false) : Wk C (σ.behind ops Us S) (Us.foldl Upd.app σ) := by
  have hSe : S = fun j => decide (j < Us.length) := by
    funext j
    rw [T.len]
    by_cases h : j < ops.length
    · rw [hS j h]; simp [h]
    · rw [hS' j (by omega)]; simp [h]
  -- the first m of them
  have key : ∀ m, m ≤ Us.length → (∀ t p, (∀ (j : Nat) (o : Oper), m ≤ j → ops[j]? = some o → o.dst ≠ some t) → ((Us.take m).foldl Upd.app σ).fr t = some p → frAt σ.nx (fun j => decide (j < m)) (fun _ => true) σ.fr 0 ops Us t = some p) ∧
      (∀ i b, ((Us.take m).foldl Upd.app σ).H i = some b → applyC σ.H (collect σ.nx (fun j => decide (j < m)) 0 Us) i = some b) ∧
      (∀ d, (σ.us d = true ∨ ∃ j, j < m ∧ (Us[j]?).any (·.tag == some d) = true) → ((Us.take m).foldl Upd.app σ).us d = true) ∧ ((Us.take m).foldl Upd.app σ).nx = σ.nx := by
    intro m
    induction m with
    | zero =>
      intro _
      refine ⟨fun t p hno hp => ?_, fun i b hb => ?_, fun d hd => ?_, rfl⟩
      · rw [frAt_miss ops 0 Us fun j o ho => hno j o (Nat.zero_le _) ho]
        simpa using hp
      · simp only [Nat.not_lt_zero, decide_false, collect_none]
        simpa [applyC] using hb
      · rcases hd with hd | ⟨j, hj, _⟩
        · simpa using hd
        · omega
    | succ m ih =>
      intro hm
      obtain ⟨ih1, ih2, ih3, ih4⟩ := ih (by omega)
      have hU : Us[m]? = some Us[m] := List.getElem?_eq_getElem (by omega)
      generalize Us[m] = U at hU
      obtain ⟨o, ho⟩ := oper_of T hU
      obtain ⟨hud, huc⟩ := told_chg T ho hU
      rw [List.take_add_one, hU]
      simp only [Option.toList_some, List.foldl_append, List.foldl_cons, List.foldl_nil]
      refine ⟨fun t p hno hp => ?_, fun i b hb => ?_, fun d hd => ?_, ?_⟩
      · rw [app_fr, ih4] at hp
        split at hp
        · rename_i hd
          rw [frAt_hit ops 0 Us m o ho (by rw [← hud]; exact hd) fun i o' hi ho' hd' => absurd (dstsOk_spec T.dsts ho' ho hd' (by rw [← hud]; exact hd)) (by omega)]
          simp [hU, hp]
        · rename_i hd
          have h1 := ih1 t p (fun j o' hj ho' => by
            rcases Nat.eq_or_lt_of_le hj with rfl | hj
            · rw [ho] at ho'; cases ho'; rw [← hud]; exact hd
            · exact hno j o' hj ho') hp
          rcases frAt_get T (S := fun j => decide (j < m)) (late := fun _ => true) (t := t) with ⟨j, o', V', ho', hV', hd', he⟩ | ⟨hno', he⟩
          · rw [he] at h1
            split at h1
            · rename_i hjm
              rw [frAt_hit ops 0 Us j o' ho' hd' fun i o'' hi ho'' hd'' => absurd (dstsOk_spec T.dsts ho'' ho' hd'' hd') (by omega)]
              have : j < m + 1 := by have := of_decide_eq_true hjm; omega
              simp [this, hV', h1]
            · rename_i hjm
              have hjm' : m ≤ j := by simpa using hjm
              rcases Nat.eq_or_lt_of_le hjm' with rfl | hlt
              · rw [ho] at ho'; cases ho'; rw [hud] at hd; exact absurd hd' hd
              · exact absurd hd' (hno j o' hlt ho')
          · rw [he] at h1
            rw [frAt_miss ops 0 Us hno']
            exact h1
      · rw [app_H, ih4] at hb
        have := applyC_mono (U.chg σ.nx) ih2 i b hb
        rw [collect_add (S := fun j => decide (j < m)) (S' := fun j => decide (j < m + 1)) i Us 0 m σ.H hU (by simp) (by simp) (fun j hj => by simp; omega) (fun j V hj _ hs => by simp at hs; omega)] at this
        exact this
      · rw [app_us]
        rcases hd with hd | ⟨j, hj, ht⟩
        · rw [ih3 d (.inl hd)]; rfl
        · rcases Nat.eq_or_lt_of_le (Nat.lt_succ_iff.1 hj) with rfl | hj
          · rw [hU] at ht
            simp only [Option.any_some] at ht
            rw [ht]; simp
          · rw [ih3 d (.inr ⟨j, hj, ht⟩)]; rfl
      · rw [app_nx]; exact ih4
  obtain ⟨h1, h2, h3, h4⟩ := key Us.length (Nat.le_refl _)
  rw [List.take_length] at h1 h2 h3 h4
  refine Wk.of_le ⟨fun t p hp => ?_, fun i b hb => ?_, fun d hd => ?_, h4.symm, fun t p hp => by rw [foldl_gh] at hp; exact hp⟩
  · simp only [St.behind, hSe]
    exact h1 t p (fun j o hj ho => by have := (List.getElem?_eq_some_iff.1 ho).1; rw [T.len] at hj; omega) hp
  · simp only [St.behind, hSe]
    exact h2 i b hb
  · simp only [St.behind, Bool.or_eq_true, List.any_eq_true, List.mem_range, Bool.and_eq_true] at hd
    refine h3 d (hd.imp id ?_)
    rintro ⟨j, hj, _, ht⟩
    exact ⟨j, hj, ht⟩

theorem Rel.drawn (h : Rel C σ a w) : Rel C σ a { w with drawn := w.drawn + 1 } := by
  obtain ⟨φ, F0, F1, h⟩ := h
  exact ⟨φ, F0, F1, h.below ⟨rfl, rfl, rfl, Nat.le_refl _, fun _ _ => rfl⟩⟩

theorem region_any {id : Nat} {Q : St → Prop} {Q' : Exit → Act → World → Prop} (hm : C.P.follows .mixedOrders = true) (hQ : ∀ σ a w, Rel C σ a w → Q σ → Q' .normal a w) (hd : depOk ops D = true) (hs : dstsOk ops = true)
    (h : Rel C σ a w) (hr : ∃ Us, Told C ops D σ Us ∧ Q (Us.foldl Upd.app σ)) : (Code.region id ops.toArray true).wpIn (fz C) 0 C.P Q' a w := by
  obtain ⟨Us, T, hq⟩ := hr
  have done : ∀ (listed : Array Bool), listed.size = ops.length → Region.ready .any ops.toArray listed = [] → ∀ j, j < ops.length → listed.getD j false = true := by
    intro listed hsz hrd j
    induction j using Nat.strongRecOn with
    | _ j ih =>
      intro hj
      apply Classical.byContradiction
      intro hne
      have ho : ops[j]? = some ops[j] := List.getElem?_eq_getElem hj
      have : j ∈ Region.ready .any ops.toArray listed := by
        refine mem_ready.2 ⟨?_, ops[j], by simp [ho], fun e he hb => ?_⟩
        · have hj' : j < listed.size := by omega
          simp only [Array.getD_eq_getD_getElem?, Array.getElem?_eq_getElem hj', Option.getD_some] at hne ⊢
          simpa using hne
        · have := (depOk_spec hd ho).1 e he hb
          exact ih e.on this (by omega)
      rw [hrd] at this
      cases this
  have key : ∀ (fuel : Nat) (listed : Array Bool) (a : Act) (w : World), listed.size = ops.length → listed.toList.count false = fuel → Shut ops (fun j => listed.getD j false) → Rel C (σ.behind ops Us fun j => listed.getD j false) a w →
      wpAnyIn (fz C) 0 C.P .any ops.toArray Q' fuel listed a w := by
    intro fuel
    have fin : ∀ (listed : Array Bool) (a : Act) (w : World), listed.size = ops.length → Rel C (σ.behind ops Us fun j => listed.getD j false) a w → Region.ready .any ops.toArray listed = [] → Q' .normal a w := by
      intro listed a w hsz hR hrd
      refine hQ _ _ _ (behind_all T (done listed hsz hrd) (fun j hj => ?_) C (.refl _) a w hR) hq
      simp [Array.getD_eq_getD_getElem?, Array.getElem?_eq_none (show listed.size ≤ j by omega)]
    induction fuel with
    | zero =>
      intro listed a w hsz hc hsh hR
      have hrd : Region.ready .any ops.toArray listed = [] := by
        cases hrd : Region.ready .any ops.toArray listed with
        | nil => rfl
        | cons j l =>
          have hj : j ∈ Region.ready .any ops.toArray listed := by rw [hrd]; simp
          have h0 := (mem_ready.1 hj).1
          obtain ⟨o, ho, _⟩ := (mem_ready.1 hj).2
          have hj' : j < listed.size := by
            have := (Array.getElem?_eq_some_iff.1 ho).1
            simp at this; omega
          simp only [Array.getD_eq_getD_getElem?, Array.getElem?_eq_getElem hj', Option.getD_some] at h0
          have := List.count_pos_iff.2 (show false ∈ listed.toList by rw [← h0]; simp)
          omega
      exact ⟨hrd, fin listed a w hsz hR hrd⟩
    | succ fuel ih =>
      intro listed a w hsz hc hsh hR
      refine ⟨fin listed a w hsz hR, fun j hj => ?_⟩
      obtain ⟨h0, o, ho, hall⟩ := mem_ready.1 hj
      have ho' : ops[j]? = some o := by simpa using ho
      have hjl := (List.getElem?_eq_some_iff.1 ho').1
      have hj' : j < listed.size := by omega
      obtain ⟨U, hU⟩ := upd_of T ho'
      have hjf : listed.getD j false = false := by
        simp only [Array.getD_eq_getD_getElem?, Array.getElem?_eq_getElem hj', Option.getD_some] at h0 ⊢
        exact h0
      have hset : ∀ i, (listed.setIfInBounds j true).getD i false = (i == j || listed.getD i false) := by
        intro i
        by_cases hij : i = j
        · subst hij
          simp [Array.getD_eq_getD_getElem?, Array.getElem?_setIfInBounds_self_of_lt hj']
        · simp [Array.getD_eq_getD_getElem?, Array.getElem?_setIfInBounds_ne (Ne.symm hij), hij]
      unfold wpOpIn
      rw [show ops.toArray[j]? = some o from ho]
      simp only
      refine behind_step T ho' hU hsh hjf hall hR fun a' w' hR' => ih _ a' w' (by simpa using hsz) ?_ ?_ ?_
      · have hjt : j < listed.toList.length := by simpa using hj'
        have h0' : listed[j] = false := by
          simpa only [Array.getD_eq_getD_getElem?, Array.getElem?_eq_getElem hj', Option.getD_some] using h0
        have : (listed.setIfInBounds j true).toList = listed.toList.set j true := by simp
        rw [this, List.count_set hjt]
        simp [h0', hc]
      · intro k o'' ho'' hk e he hb
        simp only [hset, Bool.or_eq_true, beq_iff_eq] at hk ⊢
        rcases hk with rfl | hk
        · rw [ho'] at ho''; cases ho''
          exact .inr (hall e he hb)
        · exact .inr (hsh k o'' ho'' hk e he hb)
      · simpa only [hset] using hR'
  refine wpIn_region_any hm (key _ _ a _ (by simp) (by simp) ?_ ?_)
  · intro k o ho hk
    simp only [Array.getD_eq_getD_getElem?, Array.getElem?_replicate] at hk
    split at hk <;> simp at hk
  · refine Rel.of_le (σ := σ) (τ := σ.behind ops Us fun j => (Array.replicate ops.toArray.size false).getD j false) ⟨fun t p hp => ?_, fun i b hb => ?_, fun d hd => ?_, rfl, fun _ _ e => e⟩ h.drawn
    · rcases frAt_get T (S := fun j => (Array.replicate ops.toArray.size false).getD j false) (late := fun _ => true) (t := t) with ⟨j, o, U, _, _, _, he⟩ | ⟨_, he⟩
      · simp only [St.behind] at hp
        rw [he] at hp
        simp only [Array.getD_eq_getD_getElem?, Array.getElem?_replicate] at hp
        split at hp <;> simpa using hp
      · simp only [St.behind] at hp
        rw [he] at hp
        exact hp
    · have hv : (fun j => (Array.replicate ops.toArray.size false).getD j false) = fun _ => false := by
        funext j
        simp only [Array.getD_eq_getD_getElem?, Array.getElem?_replicate]
        split <;> rfl
      simp only [St.behind, hv, collect_none] at hb
      exact hb
    · simp only [St.behind, hd, Bool.true_or]

theorem vwp_told {id : Nat} {Q : Post} (hm : C.P.follows .mixedOrders = true) (hd : depOk ops D = true) (hs : dstsOk ops = true) (h : ∃ Us, Told C ops D σ Us ∧ Q .normal (Us.foldl Upd.app σ)) : vwp C (.region id ops.toArray true) Q σ := by
  intro C₁ l a w r
  refine region_any (C := C₁) (Q := Q .normal) (by rw [l.P]; exact hm) (fun σ a w r q => ⟨C₁, σ, .refl _, r, q⟩) hd hs r ?_
  obtain ⟨Us, T, hq⟩ := h
  exact ⟨Us, ⟨T.len, T.order, T.deps, T.dsts, fun k o U ho hU => by have := T.op k o U ho hU; unfold OpG at this ⊢; rw [l.core]; exact this⟩, hq⟩
theorem vwp_any {id : Nat} {Q : Post} (hm : C.P.follows .mixedOrders = true) (hd : depOk ops D = true) (hs : dstsOk ops = true) (h : anyRun C ops D σ 0 ops [] (Q .normal)) : vwp C (.region id ops.toArray true) Q σ :=
  fun C₁ l a w r => region_any (C := C₁) (Q := Q .normal) (by rw [l.P]; exact hm) (fun σ a w r q => ⟨C₁, σ, .refl _, r, q⟩) hd hs r (anyRun_told hd hs (by rw [l.core]; exact h))

theorem vwp_seq_any {id : Nat} {Q : Post} {y : Code} (hm : C.P.follows .mixedOrders = true) (D : List (List Nat)) (hd : depOk ops D = true) (hs : dstsOk ops = true) (h : ∀ K : St → Prop, (∀ σ, vwp C y Q σ → K σ) → anyRun C ops D σ 0 ops [] K) :
    vwp C (.seq (.region id ops.toArray true) y) Q σ :=
  vwp_seq fun K hK => vwp_any hm hd hs (h K hK)
end
end Go.Vm
end
