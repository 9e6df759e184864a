/-
  Abstract states over the model's worlds, and that a step of them is a step of the program: part VmAJ of a framework. Conditions: each theorem's own premises. By an AI agent.
-/
import Derived.Test.YtcdbbiognijleaaGreatVmAI
import Derived.Deep.Draws
import Derived.Shelf.Strings.Builder1
import Derived.RangeFuncSeq
import Derived.RangeFuncCalls
import Derived.RangeFuncRecord
section
namespace Go.Vm
open Go Go.RowKit
set_option linter.unusedSimpArgs false
set_option linter.unusedVariables false

/-! ### Regions that draw their order, with what each operation waits for told beforehand -/
inductive Sr where
  | dep (j : Nat)
  | old
  | dead

def frF (nx : Nat) (fr : Nat → Option PV) (Us : List Upd) : List (Nat × Sr) → Nat → Option PV
  | [], t => fr t
  | (d, .dep j) :: l, t => if t = d then (Us[j]?).bind (Upd.v nx) else frF nx fr Us l t
  | (d, .old) :: l, t => if t = d then fr t else frF nx fr Us l t
  | (d, .dead) :: l, t => if t = d then none else frF nx fr Us l t

def maskF (nx : Nat) : List Nat → Id → Bool
  | [], _ => false
  | d :: l, i => i.1 == nx + d || maskF nx l i

def chgAt (nx : Nat) : Option Upd → List (Id × Option Blk)
  | some U => U.chg nx
  | none => []

def collectF (nx : Nat) (Us : List Upd) : List Nat → List (Id × Option Blk)
  | [] => []
  | j :: l => chgAt nx Us[j]? ++ collectF nx Us l

def HF (σ : St) (Us : List Upd) (b dk : List Nat) (rd : Bool) (i : Id) : Option Blk :=
  if rd then (if maskF σ.nx b i then none else applyC σ.H (collectF σ.nx Us dk) i) else none

abbrev Info := List (Nat × Sr) × List Nat × List Nat

def finF (σ : St) : List Upd → St
  | [] => σ
  | U :: Us => U.app (finF σ Us)

/-- Us: what has been told, the last one first. -/
def anyRunF (C : Core) (ops : List Oper) (D : List (List Nat)) (σ : St) : List Info → List Oper → List Upd → (St → Prop) → Prop
  | [], [], Us, Q => orderX ops D σ.nx σ.fr Us.reverse = true ∧ Q (finF σ Us)
  | (r, b, dk) :: I, o :: rest, Us, Q => gK C ops σ.nx (frF σ.nx σ.fr Us r) (HF σ Us b dk (reads o.op)) o.guard o.dst o.op (hold (fun U => U.fresh σ ∧ anyRunF C ops D σ I rest (U :: Us) Q) (tok _))
  | _, _, _, _ => False

def rdFrom (D : List (List Nat)) (k : Nat) : Nat → List Oper → List (Nat × Sr)
  | _, [] => []
  | j, o :: ops =>
    match o.dst with
    | some d => (d, if isDep D j k then .dep j else if isDep D k j then .old else .dead) :: rdFrom D k (j + 1) ops
    | none => rdFrom D k (j + 1) ops

def badFrom (D : List (List Nat)) (k : Nat) : Nat → List Oper → List Nat
  | _, [] => []
  | j, o :: ops =>
    match o.dst with
    | some d => if !isDep D j k && j != k then d :: badFrom D k (j + 1) ops else badFrom D k (j + 1) ops
    | none => badFrom D k (j + 1) ops

def depsFrom (D : List (List Nat)) (k : Nat) : Nat → Nat → List Nat
  | _, 0 => []
  | j, n + 1 => if isDep D j k then j :: depsFrom D k (j + 1) n else depsFrom D k (j + 1) n

def flipS (k : Nat) : Sr → Sr
  | .dep j => .dep (k - 1 - j)
  | .old => .old
  | .dead => .dead

def infoFrom (ops : List Oper) (D : List (List Nat)) : Nat → Nat → List Info
  | _, 0 => []
  | k, n + 1 => ((rdFrom D k 0 ops).map fun e => (e.1, flipS k e.2), badFrom D k 0 ops, (depsFrom D k 0 ops.length).map (k - 1 - ·)) :: infoFrom ops D (k + 1) n

theorem frF_eq {nx : Nat} {fr : Nat → Option PV} {Us : List Upd} {D : List (List Nat)} {k t : Nat} : ∀ (ops : List Oper) (j : Nat), frAt nx (isDep D · k) (isDep D k) fr j ops (Us.drop j) t = frF nx fr Us (rdFrom D k j ops) t
  | [], j => rfl
  | o :: ops, j => by
    have ih := frF_eq (nx := nx) (fr := fr) (Us := Us) (D := D) (k := k) (t := t) ops (j + 1)
    have ht : (Us.drop j).tail = Us.drop (j + 1) := by rw [List.tail_drop]
    have hh : (Us.drop j).head? = Us[j]? := by rw [List.head?_drop]
    simp only [frAt, rdFrom, ht, hh]
    cases hd : o.dst with
    | none => simp only [reduceCtorEq, if_false]; exact ih
    | some d =>
      simp only [Option.some.injEq]
      by_cases htd : d = t
      · subst htd
        simp only [if_true]
        cases h1 : isDep D j k with
        | true => simp only [if_true, frF]
        | false =>
          cases h2 : isDep D k j with
          | true => simp only [if_true, Bool.false_eq_true, if_false, frF]
          | false => simp only [Bool.false_eq_true, if_false, frF, if_true]
      · have htd' : ¬ t = d := fun e => htd e.symm
        simp only [if_neg htd]
        cases h1 : isDep D j k with
        | true => simp only [if_true, frF, if_neg htd']; exact ih
        | false =>
          cases h2 : isDep D k j with
          | true => simp only [if_true, Bool.false_eq_true, if_false, frF, if_neg htd']; exact ih
          | false => simp only [Bool.false_eq_true, if_false, frF, if_neg htd']; exact ih

theorem maskF_eq {nx : Nat} {D : List (List Nat)} {k : Nat} {i : Id} : ∀ (ops : List Oper) (j : Nat), masked nx D k j ops i = maskF nx (badFrom D k j ops) i
  | [], j => rfl
  | o :: ops, j => by
    have ih := maskF_eq (nx := nx) (D := D) (k := k) (i := i) ops (j + 1)
    simp only [masked, badFrom]
    cases hd : o.dst with
    | none => simp only [Bool.false_or]; exact ih
    | some d =>
      simp only
      cases h1 : (!isDep D j k && j != k) with
      | true =>
        simp only [if_true, maskF, Bool.and_assoc, h1, Bool.and_true, ih]
      | false =>
        simp only [Bool.false_eq_true, if_false, Bool.and_assoc, h1, Bool.and_false, Bool.false_or, ih]

theorem collectF_eq {nx : Nat} {Us : List Upd} {D : List (List Nat)} {k : Nat} : ∀ (n j : Nat), Us.length ≤ j + n → collect nx (isDep D · k) j (Us.drop j) = collectF nx Us (depsFrom D k j n)
  | 0, j, h => by rw [List.drop_eq_nil_of_le (by omega)]; rfl
  | n + 1, j, h => by
    have ih := collectF_eq (nx := nx) (Us := Us) (D := D) (k := k) n (j + 1) (by omega)
    simp only [depsFrom]
    by_cases hj : j < Us.length
    · rw [List.drop_eq_getElem_cons hj, collect, ih]
      cases isDep D j k with
      | true => simp only [if_true, collectF, chgAt, List.getElem?_eq_getElem hj]
      | false => simp only [Bool.false_eq_true, if_false, List.nil_append]
    · have hn : Us[j]? = none := List.getElem?_eq_none (by omega)
      rw [List.drop_eq_nil_of_le (by omega)] at ih ⊢
      cases isDep D j k with
      | true =>
        simp only [if_true, collectF, chgAt, hn, List.nil_append]
        exact ih
      | false =>
        simp only [Bool.false_eq_true, if_false]
        exact ih

section
variable {C : Ctx} {σ : St} {ops : List Oper} {D : List (List Nat)}

theorem finF_eq (σ : St) : ∀ Us : List Upd, finF σ Us = Us.reverse.foldl Upd.app σ
  | [] => rfl
  | U :: Us => by rw [finF, finF_eq σ Us, List.reverse_cons, List.foldl_append]; rfl

theorem rdFrom_dep {k : Nat} : ∀ (l : List Oper) (j0 : Nat), ∀ e ∈ rdFrom D k j0 l, ∀ j, e.2 = .dep j → isDep D j k = true
  | [], j0, e, he, j, _ => by simp [rdFrom] at he
  | o :: l, j0, e, he, j, hj => by
    simp only [rdFrom] at he
    split at he
    · rcases List.mem_cons.1 he with rfl | he
      · simp only at hj
        split at hj
        · rename_i h1; cases hj; exact h1
        · split at hj <;> cases hj
      · exact rdFrom_dep l (j0 + 1) e he j hj
    · exact rdFrom_dep l (j0 + 1) e he j hj

theorem depsFrom_dep {k : Nat} : ∀ (n j0 : Nat), ∀ j ∈ depsFrom D k j0 n, isDep D j k = true
  | 0, j0, j, hj => by simp [depsFrom] at hj
  | n + 1, j0, j, hj => by
    simp only [depsFrom] at hj
    split at hj
    · rename_i h
      rcases List.mem_cons.1 hj with rfl | hj
      · exact h
      · exact depsFrom_dep n (j0 + 1) j hj
    · exact depsFrom_dep n (j0 + 1) j hj

theorem frF_flip {nx : Nat} {fr : Nat → Option PV} {Us V : List Upd} {k t : Nat} (hV : ∀ j, j < k → V[k - 1 - j]? = Us[j]?) : ∀ (r : List (Nat × Sr)), (∀ e ∈ r, ∀ j, e.2 = .dep j → j < k) → frF nx fr V (r.map fun e => (e.1, flipS k e.2)) t = frF nx fr Us r t
  | [], _ => rfl
  | (d, s) :: r, h => by
    have ih := frF_flip (nx := nx) (fr := fr) (t := t) hV r fun e he => h e (List.mem_cons_of_mem _ he)
    cases s with
    | dep j =>
      have hj := h (d, .dep j) (by simp) j rfl
      show (if t = d then (V[k - 1 - j]?).bind (Upd.v nx) else frF nx fr V (r.map fun e => (e.1, flipS k e.2)) t) = (if t = d then (Us[j]?).bind (Upd.v nx) else frF nx fr Us r t)
      rw [hV j hj, ih]
    | old =>
      show (if t = d then fr t else frF nx fr V (r.map fun e => (e.1, flipS k e.2)) t) = (if t = d then fr t else frF nx fr Us r t)
      rw [ih]
    | dead =>
      show (if t = d then none else frF nx fr V (r.map fun e => (e.1, flipS k e.2)) t) = (if t = d then none else frF nx fr Us r t)
      rw [ih]

theorem collectF_flip {nx : Nat} {Us V : List Upd} {k : Nat} (hV : ∀ j, j < k → V[k - 1 - j]? = Us[j]?) : ∀ (l : List Nat), (∀ j ∈ l, j < k) → collectF nx V (l.map (k - 1 - ·)) = collectF nx Us l
  | [], _ => rfl
  | j :: l, h => by
    have ih := collectF_flip (nx := nx) hV l fun i hi => h i (List.mem_cons_of_mem _ hi)
    simp only [List.map_cons, collectF, hV j (h j (by simp)), ih]

theorem gK_mono {C : Core} {ops : List Oper} {nx : Nat} {fr : Nat → Option PV} {H : Id → Option Blk} {g : Option (Nat × Bool)} {d : Option Nat} {op : Op} {K K' : Upd → Prop} (hk : ∀ U, K U → K' U) (h : gK C ops nx fr H g d op K) : gK C ops nx fr H g d op K' := by
  cases g with
  | none => exact opK_mono hk h
  | some gw =>
    obtain ⟨g, want⟩ := gw
    simp only [gK] at h ⊢
    split at h
    · split at h
      · rename_i hv
        rw [if_pos hv]
        exact opK_mono hk h
      · rename_i hv
        rw [if_neg hv]
        exact ⟨h.1, hk _ h.2⟩
    · exact h.elim
theorem anyRunF_ok {Q : St → Prop} (hdep : depOk ops D = true) : ∀ (rest : List Oper) (k : Nat) (V : List Upd), V.length = k → (∀ j, rest[j]? = ops[k + j]?) → k + rest.length = ops.length → anyRunF C ops D σ (infoFrom ops D k rest.length) rest V Q → anyRun C ops D σ k rest V.reverse Q
  | [], k, V, _, _, _, h => by
    simp only [List.length_nil, infoFrom, anyRunF, finF_eq] at h
    exact h
  | o :: rest, k, V, hl, hr, hn, h => by
    simp only [List.length_cons, infoFrom, anyRunF] at h
    have ho : ops[k]? = some o := by have := hr 0; simpa using this.symm
    have hlt : ∀ j, isDep D j k = true → j < k := fun j hj => dep_lt hdep k o ho j hj
    have hV : ∀ j, j < k → V[k - 1 - j]? = V.reverse[j]? := by
      intro j hj
      rw [List.getElem?_reverse (by omega), hl]
    have e1 : frF σ.nx σ.fr V ((rdFrom D k 0 ops).map fun e => (e.1, flipS k e.2)) = frAt σ.nx (isDep D · k) (isDep D k) σ.fr 0 ops V.reverse := funext fun t => by
      rw [frF_flip hV _ fun e he j hj => hlt j (rdFrom_dep ops 0 e he j hj)]
      have := frF_eq (nx := σ.nx) (fr := σ.fr) (Us := V.reverse) (D := D) (k := k) (t := t) ops 0
      rw [List.drop_zero] at this
      exact this.symm
    have e2 : HF σ V (badFrom D k 0 ops) ((depsFrom D k 0 ops.length).map (k - 1 - ·)) (reads o.op) = HAt σ ops D V.reverse k (reads o.op) := funext fun i => by
      have h1 := maskF_eq (nx := σ.nx) (D := D) (k := k) (i := i) ops 0
      have h2 := collectF_eq (nx := σ.nx) (Us := V.reverse) (D := D) (k := k) ops.length 0 (by simp at hn ⊢; omega)
      rw [List.drop_zero] at h2
      unfold HF HAt
      rw [h1, h2, collectF_flip hV _ fun j hj => hlt j (depsFrom_dep _ _ j hj)]
    rw [e1, e2] at h
    obtain ⟨U, hU, hf, hn'⟩ := gK_elim h
    have := anyRunF_ok hdep rest (k + 1) (U :: V) (by simp [hl]) (fun j => by have := hr (j + 1); simpa [Nat.add_assoc, Nat.add_comm 1 j] using this) (by simp at hn; omega) hn'
    rw [List.reverse_cons] at this
    have key : gK C ops σ.nx (frAt σ.nx (isDep D · k) (isDep D k) σ.fr 0 ops V.reverse) (HAt σ ops D V.reverse k (reads o.op)) o.guard o.dst o.op fun U => U.fresh σ ∧ anyRun C ops D σ (k + 1) rest (V.reverse ++ [U]) Q := gK_mono (fun W hW => by subst hW; exact ⟨hf, this⟩) hU
    exact key

theorem vwp_anyF {id : Nat} {Q : Post} (D : List (List Nat)) (I : List Info) (hm : C.P.follows .mixedOrders = true) (hd : depOk ops D = true) (hs : dstsOk ops = true) (hI : infoFrom ops D 0 ops.length = I) (h : anyRunF C ops D σ I ops [] (Q .normal)) : vwp C (.region id ops.toArray true) Q σ :=
  vwp_any hm hd hs (anyRunF_ok hd ops 0 [] rfl (by simp) (by simp) (hI ▸ h))

theorem vwp_seq_anyF {id : Nat} {Q : Post} {y : Code} (D : List (List Nat)) (I : List Info) (hm : C.P.follows .mixedOrders = true) (hd : depOk ops D = true) (hs : dstsOk ops = true) (hI : infoFrom ops D 0 ops.length = I) (h : ∀ K : St → Prop, (∀ σ, vwp C y Q σ → K σ) → anyRunF C ops D σ I ops [] K) : vwp C (.seq (.region id ops.toArray true) y) Q σ :=
  vwp_seq_any hm D hd hs fun K hK => anyRunF_ok hd ops 0 [] rfl (by simp) (by simp) (hI ▸ h K hK)
end
end Go.Vm
end

section
namespace Go.Vm
open Go Go.RowKit
set_option linter.unusedSimpArgs false
set_option linter.unusedVariables false

/-! ### Regions that draw their order, run in text order -/
noncomputable def memN (t : Nat) (l : List Nat) : Bool := List.rec (motive := fun _ => Bool) false (fun a _ ih => cond (Nat.beq a t) true ih) l
theorem memN_iff {t : Nat} : ∀ {l : List Nat}, memN t l = true ↔ t ∈ l
  | [] => by simp [memN]
  | a :: l => by
    show cond (Nat.beq a t) true (memN t l) = true ↔ _
    rw [List.mem_cons]
    cases h : Nat.beq a t with
    | true => simp [Nat.eq_of_beq_eq_true h]
    | false =>
      have : t ≠ a := fun e => by rw [e, Nat.beq_refl] at h; cases h
      simp only [cond_false, this, false_or]
      exact memN_iff
noncomputable def maskN (nx : Nat) (i : Nat) (l : List Nat) : Bool := List.rec (motive := fun _ => Bool) false (fun d _ ih => cond (Nat.beq i (Nat.add nx d)) true ih) l
theorem maskN_iff {nx i : Nat} : ∀ {l : List Nat}, maskN nx i l = true ↔ ∃ d ∈ l, i = nx + d
  | [] => by simp [maskN]
  | a :: l => by
    show cond (Nat.beq i (nx + a)) true (maskN nx i l) = true ↔ _
    cases h : Nat.beq i (nx + a) with
    | true => simp only [cond_true, true_iff]; exact ⟨a, by simp, Nat.eq_of_beq_eq_true h⟩
    | false =>
      have hne : i ≠ nx + a := fun e => by rw [e, Nat.beq_refl] at h; cases h
      simp only [cond_false]
      rw [maskN_iff]
      constructor
      · rintro ⟨d, hd, e⟩; exact ⟨d, List.mem_cons_of_mem _ hd, e⟩
      · rintro ⟨d, hd, e⟩
        rcases List.mem_cons.1 hd with rfl | hd
        · exact absurd e hne
        · exact ⟨d, hd, e⟩
/-- What an operation may read of the frame. -/
noncomputable def frM (rs : List Nat) (fr : Nat → Option PV) (t : Nat) : Option PV := cond (memN t rs) (fr t) none
noncomputable def HM (nx : Nat) (bs : List Nat) (rd : Bool) (H : Id → Option Blk) (i : Id) : Option Blk := cond rd (cond (maskN nx i.1 bs) none (H i)) none

/-- Slots to read, names to mask, and that the operation must not change memory. -/
abbrev Fast := List Nat × List Nat × Bool
def slotOk (ops : List Oper) (D : List (List Nat)) (k t : Nat) : Bool :=
  (List.range ops.length).all fun j => ((ops[j]?).bind (·.dst)) != some t || isDep D j k || (isDep D k j && decide (k < j))
def maskOk (ops : List Oper) (D : List (List Nat)) (k : Nat) (bs : List Nat) : Bool :=
  (List.range ops.length).all fun j => j == k || isDep D j k || match (ops[j]?).bind (·.dst) with | some d => bs.contains d | none => true
def quietOk (ops : List Oper) (D : List (List Nat)) (j : Nat) : Bool :=
  (List.range ops.length).all fun k => j == k || !((ops[k]?).any (reads ·.op)) || isDep D j k || isDep D k j
def fastOk (ops : List Oper) (D : List (List Nat)) (I : List Fast) : Bool :=
  (List.range ops.length).all fun k =>
    match I[k]? with
    | some (rs, bs, nm) => (rs.all (slotOk ops D k)) && maskOk ops D k bs && (nm || quietOk ops D k)
    | none => false

section
variable {C : Ctx} {σ : St} {ops : List Oper} {D : List (List Nat)} {Us : List Upd}

theorem take_nx : ∀ (m : Nat), ((Us.take m).foldl Upd.app σ).nx = σ.nx := by
  intro m
  have : ∀ (l : List Upd) (σ : St), (l.foldl Upd.app σ).nx = σ.nx := by
    intro l
    induction l with
    | nil => intro σ; rfl
    | cons U l ih => intro σ; rw [List.foldl_cons, ih, app_nx]
  exact this _ _
theorem take_succ {m : Nat} {U : Upd} (h : Us[m]? = some U) : (Us.take (m + 1)).foldl Upd.app σ = U.app ((Us.take m).foldl Upd.app σ) := by
  rw [List.take_add_one, h]
  simp
theorem take_fr_miss {t : Nat} : ∀ (m : Nat), m ≤ Us.length → (∀ j U, j < m → Us[j]? = some U → U.dst ≠ some t) → ((Us.take m).foldl Upd.app σ).fr t = σ.fr t
  | 0, _, _ => rfl
  | m + 1, hm, h => by
    have hU : Us[m]? = some Us[m] := List.getElem?_eq_getElem (by omega)
    rw [take_succ hU, app_fr, if_neg (h m _ (by omega) hU)]
    exact take_fr_miss m (by omega) fun j U hj hU' => h j U (by omega) hU'
theorem take_fr_hit {t j : Nat} {U : Upd} (hU : Us[j]? = some U) (hd : U.dst = some t) : ∀ (m : Nat), m ≤ Us.length → j < m → (∀ i V, i < m → i ≠ j → Us[i]? = some V → V.dst ≠ some t) → ((Us.take m).foldl Upd.app σ).fr t = U.v σ.nx
  | 0, _, hj, _ => by omega
  | m + 1, hm, hj, h => by
    have hV : Us[m]? = some Us[m] := List.getElem?_eq_getElem (by omega)
    rw [take_succ hV, app_fr]
    by_cases hjm : j = m
    · subst hjm
      rw [hU] at hV
      cases hV
      rw [if_pos hd, take_nx]
    · rw [if_neg (h m _ (by omega) (fun e => hjm e.symm) hV)]
      exact take_fr_hit hU hd m (by omega) (by omega) fun i V hi hne hV' => h i V (by omega) hne hV'
theorem take_H : ∀ (m : Nat), m ≤ Us.length → ∀ i b, ((Us.take m).foldl Upd.app σ).H i = some b → applyC σ.H (collect σ.nx (fun j => decide (j < m)) 0 Us) i = some b
  | 0, _, i, b, hb => by
    simp only [Nat.not_lt_zero, decide_false, collect_none]
    simpa [applyC] using hb
  | m + 1, hm, i, b, hb => by
    have hU : Us[m]? = some Us[m] := List.getElem?_eq_getElem (by omega)
    rw [take_succ hU, app_H, take_nx] at hb
    have := applyC_mono (Us[m].chg σ.nx) (take_H m (by omega)) i b hb
    rw [collect_add (S := fun j => decide (j < m)) (S' := fun j => decide (j < m + 1)) i Us 0 m σ.H hU (by simp) (by simp) (fun j hj => by simp; omega) (fun j V hj _ hs => by simp at hs; omega)] at this
    exact this
theorem take_us {d : Nat} (h : σ.us d = true) : ∀ (m : Nat), m ≤ Us.length → ((Us.take m).foldl Upd.app σ).us d = true
  | 0, _ => h
  | m + 1, hm => by
    have hU : Us[m]? = some Us[m] := List.getElem?_eq_getElem (by omega)
    rw [take_succ hU, app_us, take_us h m (by omega)]
    rfl

theorem fastOk_spec {I : List Fast} (h : fastOk ops D I = true) {k : Nat} {o : Oper} (ho : ops[k]? = some o) : ∃ rs bs nm, I[k]? = some (rs, bs, nm) ∧ (∀ t ∈ rs, slotOk ops D k t = true) ∧ maskOk ops D k bs = true ∧ (nm = true ∨ quietOk ops D k = true) := by
  unfold fastOk at h
  rw [List.all_eq_true] at h
  have := h k (List.mem_range.2 (List.getElem?_eq_some_iff.1 ho).1)
  split at this
  · rename_i rs bs nm hI
    simp only [Bool.and_eq_true, List.all_eq_true, Bool.or_eq_true] at this
    exact ⟨rs, bs, nm, hI, this.1.1, this.1.2, this.2⟩
  · cases this

/-- What has run in text order, each operation behind what it may see, is told. -/
theorem told_seq {I : List Fast} (hd : depOk ops D = true) (hs : dstsOk ops = true) (hI : fastOk ops D I = true) (hl : Us.length = ops.length)
    (h : ∀ k o U, ops[k]? = some o → Us[k]? = some U → ∃ rs bs nm, I[k]? = some (rs, bs, nm) ∧ (nm = true → U.isM = false) ∧
      OpG C ops σ.nx (frM rs ((Us.take k).foldl Upd.app σ).fr) (HM σ.nx bs (reads o.op) ((Us.take k).foldl Upd.app σ).H) o.guard o.dst o.op U ∧ U.fresh ((Us.take k).foldl Upd.app σ)) : Told C ops D σ Us := by
  have hdst : ∀ {j : Nat} {U : Upd} {o : Oper}, ops[j]? = some o → Us[j]? = some U → U.dst = o.dst := by
    intro j U o ho hU
    obtain ⟨rs, bs, nm, _, _, hop, _⟩ := h j o U ho hU
    exact (opG_chg hop).1
  have hoper : ∀ {j : Nat} {U : Upd}, Us[j]? = some U → ∃ o, ops[j]? = some o := by
    intro j U hU
    have := (List.getElem?_eq_some_iff.1 hU).1
    exact ⟨_, List.getElem?_eq_getElem (by omega)⟩
  have hord : orderOk ops D Us = true := by
    unfold orderOk
    rw [List.all_eq_true]
    intro j hj
    rw [List.mem_range] at hj
    have ho : ops[j]? = some ops[j] := List.getElem?_eq_getElem hj
    have hU : Us[j]? = some (Us[j]'(by omega)) := List.getElem?_eq_getElem (by omega)
    obtain ⟨rs, bs, nm, hi, hnm, _, _⟩ := h j _ _ ho hU
    obtain ⟨rs', bs', nm', hi', _, _, hq⟩ := fastOk_spec hI ho
    rw [hi] at hi'
    cases hi'
    rcases hq with hq | hq
    · rw [hU]
      simp [hnm hq]
    · unfold quietOk at hq
      rw [hq, Bool.or_true]
  refine ⟨hl, ?_, hd, hs, fun k o U ho hU => ?_⟩
  · unfold orderX; rw [hord]
  obtain ⟨rs, bs, nm, hi, hnm, hop, hf⟩ := h k o U ho hU
  obtain ⟨rs', bs', nm', hi', hrs, hbs, _⟩ := fastOk_spec hI ho
  rw [hi] at hi'
  cases hi'
  have hk : k < ops.length := (List.getElem?_eq_some_iff.1 ho).1
  refine ⟨Us, _, _, fun _ _ => rfl, fun t p hp => ?_, fun i b hb => ?_, hop, ?_⟩
  · unfold frM at hp
    cases hm : memN t rs with
    | false => rw [hm] at hp; cases hp
    | true =>
      rw [hm, cond_true] at hp
      have hso := hrs t (memN_iff.1 hm)
      unfold slotOk at hso
      rw [List.all_eq_true] at hso
      by_cases hex : ∃ (j : Nat) (o' : Oper), ops[j]? = some o' ∧ o'.dst = some t
      · obtain ⟨j, o', ho', hd'⟩ := hex
        have hj : j < ops.length := (List.getElem?_eq_some_iff.1 ho').1
        have hV : Us[j]? = some (Us[j]'(by omega)) := List.getElem?_eq_getElem (by omega)
        have huniq : ∀ i V, i ≠ j → Us[i]? = some V → V.dst ≠ some t := by
          intro i V hne hV' he
          obtain ⟨o'', ho''⟩ := hoper hV'
          exact hne (dstsOk_spec hs ho'' ho' (by rw [← hdst ho'' hV']; exact he) hd')
        have hj2 := hso j (List.mem_range.2 hj)
        rw [frAt_hit ops 0 Us j o' ho' hd' fun i o'' hi ho'' hd'' => absurd (dstsOk_spec hs ho'' ho' hd'' hd') (by omega)]
        simp only [ho', Option.bind_some, hd', bne_self_eq_false, Bool.false_or, Bool.or_eq_true, Bool.and_eq_true, decide_eq_true_eq] at hj2
        simp only [Nat.zero_add]
        rcases hj2 with hj2 | ⟨hj2, hlt⟩
        · rw [if_pos hj2, hV, Option.bind_some]
          have hjk : j < k := dep_lt hd k o ho j hj2
          rw [take_fr_hit hV (by rw [hdst ho' hV]; exact hd') k (by omega) hjk fun i V _ hne hV' => huniq i V hne hV'] at hp
          exact hp
        · have hnd : isDep D j k = false := by
            cases h2 : isDep D j k with
            | false => rfl
            | true => have := dep_lt hd k o ho j h2; omega
          rw [hnd, if_neg (by simp), if_pos hj2]
          rw [take_fr_miss k (by omega) fun i V hi hV' => huniq i V (by omega) hV'] at hp
          exact hp
      · rw [frAt_miss ops 0 Us fun j o' ho' hd' => hex ⟨j, o', ho', hd'⟩]
        rw [take_fr_miss k (by omega) fun i V hi hV' he => ?_] at hp
        · exact hp
        · obtain ⟨o'', ho''⟩ := hoper hV'
          exact hex ⟨i, o'', ho'', by rw [← hdst ho'' hV']; exact he⟩
  · unfold HM at hb
    cases hr : reads o.op with
    | false => rw [hr] at hb; cases hb
    | true =>
      rw [hr, cond_true] at hb
      cases hmk : maskN σ.nx i.1 bs with
      | true => rw [hmk] at hb; cases hb
      | false =>
        rw [hmk, cond_false] at hb
        have hnot : ∀ d, d ∈ bs → i.1 ≠ σ.nx + d := fun d hd' he => by
          have : maskN σ.nx i.1 bs = true := maskN_iff.2 ⟨d, hd', he⟩
          rw [hmk] at this; cases this
        unfold maskOk at hbs
        rw [List.all_eq_true] at hbs
        have hbad : ∀ j o' d, ops[j]? = some o' → o'.dst = some d → j ≠ k → isDep D j k = false → i.1 ≠ σ.nx + d := by
          intro j o' d ho' hd' hne hdep
          have := hbs j (List.mem_range.2 (List.getElem?_eq_some_iff.1 ho').1)
          simp only [ho', Option.bind_some, hd', Bool.or_eq_true, beq_iff_eq, hne, hdep, Bool.false_eq_true, false_or] at this
          exact hnot d (by simpa using this)
        have hmasked : masked σ.nx D k 0 ops i = false := by
          have : ∀ (l : List Oper) (q : Nat), (∀ j o', l[j]? = some o' → ops[q + j]? = some o') → masked σ.nx D k q l i = false := by
            intro l
            induction l with
            | nil => intro q _; rfl
            | cons o' l ih =>
              intro q hq
              simp only [masked]
              rw [ih (q + 1) fun j o'' ho'' => by have := hq (j + 1) o'' (by simpa using ho''); rw [Nat.add_assoc, Nat.add_comm 1 j]; exact this, Bool.or_false]
              cases hd' : o'.dst with
              | none => rfl
              | some d =>
                simp only
                cases h1 : isDep D q k with
                | true => simp
                | false =>
                  by_cases hqk : q = k
                  · simp [hqk]
                  · have := hbad q o' d (by simpa using hq 0 o' rfl) hd' hqk h1
                    simp [this]
          exact this ops 0 fun j o' ho' => by simpa using ho'
        unfold HAt
        rw [if_pos rfl, hmasked, if_neg (by simp)]
        have := take_H k (by omega) i b hb
        rw [← this, applyC_at i _ σ.H σ.H rfl, applyC_at i (collect σ.nx (fun j => decide (j < k)) 0 Us) σ.H σ.H rfl]
        rw [collect_at i (v := (isDep D · k)) (v' := fun j => decide (j < k)) Us 0 ?_]
        intro j V hV hne c hc hci
        simp only [Nat.zero_add] at hne
        obtain ⟨o', ho'⟩ := hoper hV
        have hdj : isDep D j k = false := by
          cases h1 : isDep D j k with
          | false => rfl
          | true => rw [h1] at hne; exact absurd (by simpa using dep_lt hd k o ho j h1) (by simpa using hne)
        have hjk : j < k := by
          rw [hdj] at hne
          by_cases h2 : j < k
          · exact h2
          · simp [h2] at hne
        obtain ⟨_, _, _, _, _, hop', _⟩ := h j o' V ho' hV
        rcases (opG_chg hop').2 c hc with ⟨t, ht, hct⟩ | ⟨_, hM, _⟩
        · exact hbad j o' t ho' (by rw [← hdst ho' hV]; exact tag_dst ht) (by omega) hdj (by rw [← hci]; exact hct)
        · rcases orderOk_spec hord hV ho (List.getElem?_eq_some_iff.1 ho').1 hM hr (by omega) with h' | h'
          · rw [hdj] at h'; cases h'
          · have := dep_lt hd j o' ho' k h'
            omega
  · rw [fresh_iff] at hf ⊢
    intro d hd'
    cases hu : σ.us d with
    | false => rfl
    | true =>
      have h1 := hf d hd'
      rw [take_us hu k (by omega)] at h1
      cases h1
end
end Go.Vm
end

section
namespace Go.Vm
open Go Go.RowKit
set_option linter.unusedSimpArgs false
set_option linter.unusedVariables false

theorem upd_app {α β : Type} [DecidableEq α] (f : α → β) (i : α) (b : β) (j : α) : upd f i b j = if j = i then b else f j := rfl

theorem bindB_nil (s : Nat) (H : Id → Option Blk) : bindB s [] H = H := by funext i; simp [bindB]
theorem bindB_one (s : Nat) (b : Blk) (H : Id → Option Blk) : bindB s [b] H = upd H (s, 0) (some (b.ren s)) := by
  funext ⟨i1, i2⟩
  simp only [bindB, upd]
  by_cases h : i1 = s
  · subst h
    cases i2 with
    | zero => simp
    | succ i2 => simp
  · simp [h]

/-! ### States, told by lists -/
def lookF (t : Nat) : List (Nat × PV) → Option PV
  | [] => none
  | (k, p) :: l => if t = k then some p else lookF t l
def lookH (i : Id) : List (Id × Blk) → Option Blk
  | [] => none
  | (k, b) :: l => if i = k then some b else lookH i l
def inU (d : Nat) : List Nat → Bool
  | [] => false
  | k :: l => if d = k then true else inU d l

def St.of (fr : List (Nat × PV)) (H : List (Id × Blk)) (u : List Nat) : St := ⟨fun t => lookF t fr, fun i => lookH i H, fun d => inU d u, 1, fun _ => none⟩

theorem lookF_mem {t : Nat} {p : PV} : ∀ {l : List (Nat × PV)}, lookF t l = some p → (t, p) ∈ l
  | [], h => by simp [lookF] at h
  | (k, q) :: l, h => by
    simp only [lookF] at h
    split at h
    · rename_i hk; subst hk; cases h; simp
    · exact List.mem_cons_of_mem _ (lookF_mem h)
theorem lookH_mem {i : Id} {b : Blk} : ∀ {l : List (Id × Blk)}, lookH i l = some b → (i, b) ∈ l
  | [], h => by simp [lookH] at h
  | (k, q) :: l, h => by
    simp only [lookH] at h
    split at h
    · rename_i hk; subst hk; cases h; simp
    · exact List.mem_cons_of_mem _ (lookH_mem h)
theorem inU_mem {d : Nat} : ∀ {l : List Nat}, d ∈ l → inU d l = true
  | k :: l, h => by
    simp only [inU]
    split
    · rfl
    · rename_i hk
      exact inU_mem ((List.mem_cons.1 h).resolve_left hk)

/-- Weaker, by names anew (m: old, new), some rows frozen (z). -/
theorem wk_conv {C : Ctx} {σ : St} (z : List Id) (m : List (Id × Id)) {fr : List (Nat × PV)} {H : List (Id × Blk)} {u : List Nat}
    (hm1 : (m.map (·.1)).Nodup) (hm2 : (m.map (·.2)).Nodup) (hu : ∀ e ∈ m, (e.2.1 = 0 ∧ e.1 = e.2) ∨ ∃ d ∈ u, e.2.1 = 1 + d)
    (hf : ∀ e ∈ fr, ∃ p, σ.fr e.1 = some p ∧ ConvV σ.H (· ∈ z) (fun i j => (i, j) ∈ m) p e.2)
    (hH : ∀ e ∈ H, ∃ i b, (i, e.1) ∈ m ∧ i ∉ z ∧ σ.H i = some b ∧ ConvB σ.H (· ∈ z) (fun i j => (i, j) ∈ m) b e.2) : Wk C σ (St.of fr H u) := by
  rintro C₁ l a w ⟨φ, F0, F1, h⟩
  have i1 : ∀ {l : List (Id × Id)}, (l.map (·.2)).Nodup → ∀ i i' j, (i, j) ∈ l → (i', j) ∈ l → i = i' := by
    intro l
    induction l with
    | nil => intro _ i i' j h; simp at h
    | cons c l ih =>
      intro hn i i' j h1 h2
      simp only [List.map_cons, List.nodup_cons, List.mem_map, not_exists, not_and] at hn
      rcases List.mem_cons.1 h1 with e1 | e1 <;> rcases List.mem_cons.1 h2 with e2 | e2
      · rw [← e1] at e2; cases e2; rfl
      · exact absurd (by rw [← e1]) (hn.1 _ e2)
      · exact absurd (by rw [← e2]) (hn.1 _ e1)
      · exact ih hn.2 i i' j e1 e2
  have i2 : ∀ {l : List (Id × Id)}, (l.map (·.1)).Nodup → ∀ i j j', (i, j) ∈ l → (i, j') ∈ l → j = j' := by
    intro l
    induction l with
    | nil => intro _ i i' j h; simp at h
    | cons c l ih =>
      intro hn i j j' h1 h2
      simp only [List.map_cons, List.nodup_cons, List.mem_map, not_exists, not_and] at hn
      rcases List.mem_cons.1 h1 with e1 | e1 <;> rcases List.mem_cons.1 h2 with e2 | e2
      · rw [← e1] at e2; cases e2; rfl
      · exact absurd (by rw [← e1]) (hn.1 _ e2)
      · exact absurd (by rw [← e2]) (hn.1 _ e1)
      · exact ih hn.2 i j j' e1 e2
  obtain ⟨φ', F0', F1', hR, _⟩ := h.conv (τ := St.of fr H u) (· ∈ z) (fun i j => (i, j) ∈ m) (i1 hm2) (i2 hm1) (fun t p hp => hf (t, p) (lookF_mem hp)) (fun t p hp => by cases hp) (fun j b hb => hH (j, b) (lookH_mem hb))
    (fun i j hg => (hu (i, j) hg).elim (fun hh => .inl (by simp only [St.of]; have := hh.1; simp only at this; omega)) fun ⟨d, hd, hj⟩ => .inr ⟨d, inU_mem hd, hj⟩) (Nat.le_refl _) C₁.φi (fun i j u hg hj hu' => (hu (i, j) hg).elim (fun hh => by
      have e : i = j := hh.2
      subst e
      obtain ⟨i1, i2⟩ := i
      simp only at hj
      subst hj
      exact h.keep i2 u hu') fun ⟨d, _, he⟩ => (by simp only at he; omega))
  exact ⟨φ', F0', F1', hR⟩

section
variable {σ : St} {H : Id → Option Blk} {Z : Id → Prop} {G : Id → Id → Prop}
theorem hf_nil {P : (Nat × PV) → Prop} : ∀ e ∈ ([] : List (Nat × PV)), P e := by simp
theorem hf_cons {t : Nat} {q p : PV} {l : List (Nat × PV)} (h : σ.fr t = some p) (hc : ConvV H Z G p q) (hl : ∀ e ∈ l, ∃ p, σ.fr e.1 = some p ∧ ConvV H Z G p e.2) : ∀ e ∈ (t, q) :: l, ∃ p, σ.fr e.1 = some p ∧ ConvV H Z G p e.2 := by
  intro e he
  rcases List.mem_cons.1 he with rfl | he
  · exact ⟨p, h, hc⟩
  · exact hl e he
theorem hh_nil {P : (Id × Blk) → Prop} : ∀ e ∈ ([] : List (Id × Blk)), P e := by simp
theorem hh_cons {z : List Id} {m : List (Id × Id)} {i j : Id} {b c : Blk} {l : List (Id × Blk)} (hm : (i, j) ∈ m) (hz : i ∉ z) (hb : σ.H i = some b) (hc : ConvB H Z G b c)
    (hl : ∀ e ∈ l, ∃ i b, (i, e.1) ∈ m ∧ i ∉ z ∧ σ.H i = some b ∧ ConvB H Z G b e.2) : ∀ e ∈ (j, c) :: l, ∃ i b, (i, e.1) ∈ m ∧ i ∉ z ∧ σ.H i = some b ∧ ConvB H Z G b e.2 := by
  intro e he
  rcases List.mem_cons.1 he with rfl | he
  · exact ⟨i, b, hm, hz, hb, hc⟩
  · exact hl e he
theorem ConvB.free {b : Blk} (h : PC.frees b.kids = true) : ConvB H Z G b b := by
  cases b with
  | box ty cs => exact .box (ConvL.free h)
  | arr ty z n cs => exact .arr (ConvL.free h)
  | mp ty es => exact .mp rfl (ConvL.free h)
end

/-! ### Results that bear no names -/
theorem ConvV.self {H : Id → Option Blk} {Z : Id → Prop} {G : Id → Id → Prop} : ∀ {p : PV}, (match p with | .one p => p.free | .agg ps => PC.frees ps | _ => false) = true → ConvV H Z G p p
  | .one p, h => .one (.free h)
  | .agg ps, h => .agg (.free h)
  | .tup _, h => by cases h
  | .may _ _, h => by cases h
  | .full _, h => by cases h
theorem ConvVs.self {H : Id → Option Blk} {Z : Id → Prop} {G : Id → Id → Prop} : ∀ {ps : List PV}, PV.frees ps = true → ConvVs H Z G ps ps
  | [], _ => .nil
  | p :: ps, h => by
    simp only [PV.frees, Bool.and_eq_true] at h
    refine .cons ?_ (ConvVs.self h.2)
    cases p with
    | one p => exact .one (.free h.1)
    | agg ps => exact .agg (.free h.1)
    | tup vs => simp [PV.free] at h
    | may b p => simp [PV.free] at h
    | full p => simp [PV.free] at h

theorem ret_free {P : Program} {rs : List ResultVar} {r : PV} {σ : St} {vs : List PV} (hv : resOf P σ rs = some vs) (hf : PV.frees vs = true) (hr : pack vs = r) : RetOk P rs r [] σ := by
  subst hr
  refine ⟨vs, fun _ => False, fun _ _ => False, hv, fun _ _ _ h => h.elim, fun _ _ _ h => h.elim, fun _ _ h => h.elim, ?_, by simp⟩
  match vs, hf with
  | [], _ => exact .tup .nil
  | [v], h =>
    simp only [PV.frees, Bool.and_true] at h
    refine ConvV.free h ?_
    rintro vs rfl
    simp [PV.free] at h
  | v :: v' :: vs, h => exact .tup (ConvVs.self h)

theorem splice_zero {α : Type} (xs : List α) : splice xs 0 [] = xs := by simp [splice]
theorem splice_step {α : Type} (x y : α) (xs ys : List α) : splice (x :: xs) 0 (y :: ys) = y :: splice xs 0 ys := by simp [splice, Nat.add_comm]
theorem splice_skip {α : Type} (x : α) (xs ys : List α) (k : Nat) : splice (x :: xs) (k + 1) ys = x :: splice xs k ys := by simp [splice, Nat.add_right_comm]

/-! ### Rows told by a list of anything -/
section
variable {α : Type} (l : List α) (f : α → PC) (g : α → List PC) (s : Nat) (H : Id → Option Blk) (k : Nat)
theorem rens_map : PC.rens s (l.map f) = l.map fun a => (f a).ren s := by induction l with | nil => rfl | cons a l ih => simp only [List.map_cons, PC.rens, ih]
theorem weaks_map : PC.weaks (l.map f) = l.map fun a => (f a).weak := by induction l with | nil => rfl | cons a l ih => simp only [List.map_cons, PC.weaks, ih]
theorem frees_map : PC.frees (l.map f) = l.all fun a => (f a).free := by induction l with | nil => rfl | cons a l ih => simp only [List.map_cons, PC.frees, List.all_cons, ih]
theorem stricts_map : PC.stricts (l.map f) = l.all fun a => (f a).strict := by induction l with | nil => rfl | cons a l ih => simp only [List.map_cons, PC.stricts, List.all_cons, ih]
theorem clo_map : (l.map f).map (clo H k) = l.map fun a => clo H k (f a) := by rw [List.map_map]; rfl
theorem all_tt : (l.all fun _ => true) = true := by induction l with | nil => rfl | cons a l ih => simp only [List.all_cons, ih, Bool.and_self]
theorem rens_append (a b : List PC) : PC.rens s (a ++ b) = PC.rens s a ++ PC.rens s b := by induction a with | nil => rfl | cons x a ih => simp only [List.cons_append, PC.rens, ih]
theorem weaks_append (a b : List PC) : PC.weaks (a ++ b) = PC.weaks a ++ PC.weaks b := by induction a with | nil => rfl | cons x a ih => simp only [List.cons_append, PC.weaks, ih]
theorem frees_append (a b : List PC) : PC.frees (a ++ b) = (PC.frees a && PC.frees b) := by induction a with | nil => rfl | cons x a ih => simp only [List.cons_append, PC.frees, ih, Bool.and_assoc]
theorem stricts_append (a b : List PC) : PC.stricts (a ++ b) = (PC.stricts a && PC.stricts b) := by induction a with | nil => rfl | cons x a ih => simp only [List.cons_append, PC.stricts, ih, Bool.and_assoc]
theorem rens_flatMap : PC.rens s (l.flatMap g) = l.flatMap fun a => PC.rens s (g a) := by induction l with | nil => rfl | cons a l ih => simp only [List.flatMap_cons, rens_append, ih]
theorem weaks_flatMap : PC.weaks (l.flatMap g) = l.flatMap fun a => PC.weaks (g a) := by induction l with | nil => rfl | cons a l ih => simp only [List.flatMap_cons, weaks_append, ih]
theorem frees_flatMap : PC.frees (l.flatMap g) = l.all fun a => PC.frees (g a) := by induction l with | nil => rfl | cons a l ih => simp only [List.flatMap_cons, frees_append, List.all_cons, ih]
theorem stricts_flatMap : PC.stricts (l.flatMap g) = l.all fun a => PC.stricts (g a) := by induction l with | nil => rfl | cons a l ih => simp only [List.flatMap_cons, stricts_append, List.all_cons, ih]
theorem iobs_map (M : List Id) : PC.iobs M s (l.map f) = l.map fun a => (f a).iob M s := by induction l with | nil => rfl | cons a l ih => simp only [List.map_cons, PC.iobs, ih]
theorem iocs_map (M : List Id) : PC.iocs M (l.map f) = l.map fun a => (f a).ioc M := by induction l with | nil => rfl | cons a l ih => simp only [List.map_cons, PC.iocs, ih]
theorem tag0s_map : PC.tag0s (l.map f) = l.all fun a => (f a).tag0 := by induction l with | nil => rfl | cons a l ih => simp only [List.map_cons, PC.tag0s, List.all_cons, ih]
theorem iobs_append (M : List Id) (a b : List PC) : PC.iobs M s (a ++ b) = PC.iobs M s a ++ PC.iobs M s b := by induction a with | nil => rfl | cons x a ih => simp only [List.cons_append, PC.iobs, ih]
theorem iocs_append (M : List Id) (a b : List PC) : PC.iocs M (a ++ b) = PC.iocs M a ++ PC.iocs M b := by induction a with | nil => rfl | cons x a ih => simp only [List.cons_append, PC.iocs, ih]
theorem tag0s_append (a b : List PC) : PC.tag0s (a ++ b) = (PC.tag0s a && PC.tag0s b) := by induction a with | nil => rfl | cons x a ih => simp only [List.cons_append, PC.tag0s, ih, Bool.and_assoc]
theorem iobs_flatMap (M : List Id) : PC.iobs M s (l.flatMap g) = l.flatMap fun a => PC.iobs M s (g a) := by induction l with | nil => rfl | cons a l ih => simp only [List.flatMap_cons, iobs_append, ih]
theorem iocs_flatMap (M : List Id) : PC.iocs M (l.flatMap g) = l.flatMap fun a => PC.iocs M (g a) := by induction l with | nil => rfl | cons a l ih => simp only [List.flatMap_cons, iocs_append, ih]
theorem tag0s_flatMap : PC.tag0s (l.flatMap g) = l.all fun a => PC.tag0s (g a) := by induction l with | nil => rfl | cons a l ih => simp only [List.flatMap_cons, tag0s_append, List.all_cons, ih]
theorem clo_flatMap : (l.flatMap g).map (clo H k) = l.flatMap fun a => (g a).map (clo H k) := by induction l with | nil => rfl | cons a l ih => simp only [List.flatMap_cons, List.map_append, ih]
end

theorem pickB_true (a b : Bool) : pickB true a b = a := rfl
theorem pickB_false (a b : Bool) : pickB false a b = b := rfl
theorem pickB_and (v a : Bool) : pickB v a false = (v && a) := by cases v <;> rfl
theorem pickB_or (v b : Bool) : pickB v true b = (v || b) := by cases v <;> rfl
theorem beq_true' (b : Bool) : (b == true) = b := by cases b <;> rfl
theorem beq_false' (b : Bool) : (b == false) = !b := by cases b <;> rfl

attribute [push_cast] anyRunF gK finF frF HF maskF collectF chgAt reads Upd.chg Upd.v bchg Bool.and_false Bool.false_and Bool.not_not ne_eq not_false_eq_true hold1 hold2 hold3 Option.isSome_some Option.isSome_none Array.getInternal_eq_getElem List.all_cons List.all_nil Option.isNone_none Option.isNone_some beq_self_eq_true iobs_map iocs_map tag0s_map iobs_append iocs_append tag0s_append iobs_flatMap iocs_flatMap tag0s_flatMap vappS St.iod applyC ioChg outId PC.iob PC.iobs PV.iob PV.iobs Blk.iob PC.ioc PC.iocs PV.ioc Blk.ioc PC.tag0 PC.tag0s PV.tag0 tag0B strictBO nodup pos inId hide gets lowOf highOf vrow isNilC vnil List.getElem_toArray List.getElem_cons_zero List.getElem_cons_succ rowZ rens_map weaks_map frees_map stricts_map clo_map all_tt rens_append weaks_append frees_append stricts_append rens_flatMap weaks_flatMap frees_flatMap stricts_flatMap clo_flatMap List.map_append gcond unm mayK mayD mayAdd mayAddK mayRow mayRowK mayPickK mayCall vpick boolOf pickB_true pickB_false pickB_and pickB_or Bool.not_true Bool.not_false Bool.not_or_self Bool.or_not_self Bool.true_or Bool.or_true Bool.false_or Bool.or_false Bool.true_and Bool.and_true beq_true' beq_false' eqScalar eqFieldsT vbinA vconv valK bytesOf isAggT elemT fieldT isBool placesT placeOf vfill List.getElem?_toArray Option.some.injEq
  seqRun opK vAddK addK heapK mvK callK vAdd ev upd_app St.enter Option.map_some Option.map_none Option.bind_some Option.bind_none PV.cells Upd.fresh Upd.app cst List.getElem?_cons_zero List.getElem?_cons_succ List.getElem?_nil
  Option.getD_some Option.getD_none Nat.zero_add and_true true_and if_true if_false behind Blk.cells Blk.kids takeT callOf argsOf List.drop_zero List.drop_succ_cons List.length_cons List.length_nil Nat.le_refl List.take_succ_cons List.take_zero
  cloV clo List.map_cons List.map_nil List.append_nil List.nil_append List.cons_append PV.frees PV.free PC.frees PC.free PC.weak PC.weaks Bool.and_true Bool.true_and Bool.and_self Prod.mk.injEq asB asI asS vbin vbinI vbinS or_self or_false false_or true_or or_true St.called
  bindB_nil bindB_one PV.ren PC.ren PV.rens PC.rens Blk.ren shiftA vun vstore setB partsOf onesOf vlen lenOk vidx vapp baseOf newsOf kill vcut gslot gval dOk St.skip St.of lookF lookH inU resOf pack
  Bool.false_eq_true Nat.succ_ne_zero strictB PV.strict PV.stricts PC.strict PC.stricts splice_zero splice_step splice_skip
end Go.Vm
end

section
namespace Go.Vm
open Go Go.RowKit
set_option linter.unusedSimpArgs false
set_option linter.unusedVariables false

/-! ### Calls that are handed blocks of the caller's own -/
def St.enterIO (args : List PV) (Hin : List Blk) : St := ⟨fun t => args[t]?, fun i => if i.1 = 0 then Hin[i.2]? else none, fun _ => false, 1, fun _ => none⟩

def RetOkIO (P : Program) (rs : List ResultVar) (n : Nat) (r : PV) (B : List (Option Blk)) (σ : St) : Prop :=
  ∃ (vs : List PV) (Z : Id → Prop) (G : Id → Id → Prop), resOf P σ rs = some vs ∧ (∀ i i' j, G i j → G i' j → i = i') ∧ (∀ i j j', G i j → G i j' → j = j') ∧ (∀ i j, G i j → j.1 = 0 ∧ (∃ b, B[j.2]? = some (some b)) ∧ (j.2 < n → i = j)) ∧
    ConvV σ.H Z G (pack vs) r ∧ ∀ j b', B[j]? = some (some b') → ∃ i b, G i (0, j) ∧ ¬ Z i ∧ σ.H i = some b ∧ ConvB σ.H Z G b b'

def retIO (P : Program) (rs : List ResultVar) (n : Nat) (r : PV) (B : List (Option Blk)) : Post
  | .normal, σ => RetOkIO P rs n r B σ
  | .ret, σ => RetOkIO P rs n r B σ
  | _, _ => False

section
variable {C : Ctx} {φ φ' : Id → Option Value} {F : Bool → Nat → Prop} {F0 F1 : Nat → Prop} {σ τ : St} {a : Act} {w : World} {P : Program}

theorem vcallIO_ofCR (cu : Bool) {gw : World} {gb : Nat} {f : FuncId} {fn : Func} {c : Code} {args : List PV} {Hin : List Blk} {r : PV} {B : List (Option Blk)} {n : Nat} (rs : List ResultVar) (hf : P.funcs[f]? = some fn) (hb : fn.body = some c) (hname : (fn.name == "runtime.NumGoroutine") = false) (hnt : fn.ntmps = n)
    (hrs : fn.results.toList = rs) (hn : args.length ≤ n) (hlen : Hin.length ≤ B.length)
    (h : ∀ C : Ctx, C.P = P → C.nt = n → C.gw = gw → C.gb = gb → C.cut = cu → C.ro = none → vwp C c (retIO P rs Hin.length r B) (St.enterIO args Hin)) : VCallIO P gw gb f args Hin r B := by
  subst hnt hrs
  refine ⟨⟨fn, hf, hname, by simp [hb]⟩, hlen, fun w xs F φ0 hgb hgl hlt h0 hh hap hdom hinj hr => ?_⟩
  have hlt0 : ∀ j u g, φ0 (0, j) = some u → blkOf u = some g → g < w.heap.size := by
    intro j u g hu hg
    exact holds_lt (hh j _ (List.getElem?_eq_getElem (hdom j u hu))) hu hg
  let C₀ : Ctx := ⟨⟨P, fn.ntmps, gw, gb, cu⟩, w, fun g => g < w.heap.size ∧ ¬ Handed φ0 g, F, φ0, none, [], #[], fun g hg => ⟨hlt g hg, fun ⟨j, u, hu, hb⟩ => (hap j u g hu hb).1 hg⟩, fun g hg => ⟨Nat.lt_of_lt_of_le hg hgb, fun ⟨j, u, hu, hb⟩ => Nat.not_lt.2 (hap j u g hu hb).2 hg⟩, fun _ => False, fun _ => False, none, fun _ h => h.elim, fun _ h => h.elim, fun _ h => h.elim, fun _ _ h => h, fun _ _ h => h, fun _ h => by cases h⟩
  have hinit : RelX C₀ φ0 F (fun _ => False) (St.enterIO args Hin) { tmps := xs ++ Array.replicate (fn.ntmps - xs.size) undef, defers := [] } w := by
    have hl := repVs_len _ _ hr
    have hg := repVs_get _ _ hr
    have hs : xs.size = args.length := by simpa using hl
    have hz : ∀ (i : Id) u, φ0 i = some u → ∃ j, i = (0, j) := by
      rintro ⟨i1, i2⟩ u hu
      have := h0 (i1, i2) (by rw [hu]; simp)
      simp only at this
      subst this
      exact ⟨i2, rfl⟩
    refine ⟨?_, rfl, fun t p hp => ?_, fun i b hi => ?_, fun i j u v g _ _ hu hv hg hg' => ?_, fun i u g _ hu hg => ?_, fun g hg => hg.elim, fun g hg => .inl hg, fun g hg => hg.elim, hlt, rfl, rfl, rfl, Nat.le_refl _, fun _ _ => rfl, fun _ h => h.1, hgb, hgl, fun j u hu => hu, Nat.le_refl _, fun i hi => .inl (by simp only [St.enterIO]; have := h0 i hi; omega), fun t p hp => (by cases hp)⟩
    · show (xs ++ Array.replicate (fn.ntmps - xs.size) undef).size = fn.ntmps; simp only [Array.size_append, Array.size_replicate]; omega
    · obtain ⟨v, hv, hr'⟩ := hg t p hp
      refine ⟨v, ?_, hr'⟩
      have hv' : xs[t]? = some v := by simpa using hv
      rw [Array.getElem?_append_left (Array.getElem?_eq_some_iff.1 hv').1]
      exact hv'
    · simp only [St.enterIO] at hi
      split at hi
      · rename_i hi0
        obtain ⟨i1, i2⟩ := i
        simp only at hi0
        subst hi0
        exact hh i2 b hi
      · cases hi
    · obtain ⟨i2, rfl⟩ := hz i u hu
      obtain ⟨j2, rfl⟩ := hz j v hv
      rw [hinj i2 j2 u v g hu hv hg hg']
    · obtain ⟨i2, rfl⟩ := hz i u hu
      exact ⟨(hap i2 u g hu hg).1, fun hk => hk.2 ⟨i2, u, hu, hg⟩, (hap i2 u g hu hg).2⟩
  refine callsIn_wide.1 (callsIn_of_wp_marks (F := fz C₀) (n := 0) hf hb trivial (wpIn_mono (h C₀ rfl rfl rfl rfl rfl rfl C₀ (.refl _) _ _ ⟨_, _, _, hinit⟩) ?_))
  rintro e a' w₁ ⟨C₂, σ', l, ⟨φ, F0, F1, hR₁⟩, hq⟩
  have back : ∀ R : Ending → World → Prop, (∀ w' df, RelX { C₀ with df := df } φ F0 F1 { σ' with gh := fun _ => none } a' w' → ∃ v, (results fn a'.tmps).run P w' = .ok v w' ∧ R (.returned v) w') → LeavesInM (fz C₀) 0 P fn a'.tmps R a'.defers .returning w₁ := by
    intro R hR
    obtain ⟨rs, e1, e2, e3⟩ := l.df
    rw [hR₁.defs, e1, show C₀.df = [] from rfl, List.append_nil]
    refine leaves_marks rs w₁ e2 (fun r hr => (hR₁.kept r (e3 r hr).2.2.1).trans (e3 r hr).2.2.2.1) fun w' hos htp hout hsz hw => ?_
    refine hR w' C₂.df (hR₁.turn l (· ∈ rs) (fun g hg => ?_) hos htp hout (Nat.le_of_eq hsz.symm) (fun g _ hg => hw g hg) (fun g hg hs => ?_) hgb (fun _ h => h))
    · obtain ⟨h1, h2, h3, h4, _, h6⟩ := e3 g hg
      refine ⟨fun h0 => ?_, ?_, fun i u hi hu hg' => (hR₁.apart i u g hi hu hg').2.1 h3⟩
      · rcases hR₁.ini g h0 with h5 | h5
        · rw [l.Fi] at h5
          have := hlt g h5
          have h1 : w.heap.size ≤ g := h1
          omega
        · exact h6 (hR₁.new1 g h5 h3)
      · rw [show C₂.gb = C₀.gb from by rw [show C₂.gb = C₂.toCore.gb from rfl, l.core]]
        exact Nat.le_trans hgb h1
    · have h1 : w.heap.size ≤ g := (e3 g hs).1
      have hg : g < w.heap.size := hg.1
      omega
  have main : ∀ w' df, RelX { C₀ with df := df } φ F0 F1 { σ' with gh := fun _ => none } a' w' → RetOkIO P fn.results.toList Hin.length r B σ' → ∃ v, (results fn a'.tmps).run P w' = .ok v w' ∧ ∃ (x : Value) (ψ : Id → Option Value) (X : Nat → Prop), Ending.returned v = .returned x ∧ w'.os = w.os ∧ w'.tape = w.tape ∧ w'.output = w.output ∧ w.heap.size ≤ w'.heap.size ∧
      (∀ g, g < w.heap.size → ¬ Handed φ0 g → w'.heap[g]? = w.heap[g]?) ∧ (∀ g, X g → (w.heap.size ≤ g ∨ Handed φ0 g) ∧ g < w'.heap.size) ∧
      repV ψ w' (Fs (fun g => F g ∨ X g) X) r x ∧ (∀ j b, B[j]? = some (some b) → holds ψ w' (Fs (fun g => F g ∨ X g) X) (0, j) b) ∧ (∀ i, ψ i ≠ none → i.1 = 0) ∧
      (∀ j u, ψ (0, j) = some u → ∃ b, B[j]? = some (some b)) ∧
      (∀ j u g, ψ (0, j) = some u → blkOf u = some g → (w.heap.size ≤ g ∨ Handed φ0 g) ∧ ¬ X g) ∧
      (∀ j k u v g, ψ (0, j) = some u → ψ (0, k) = some v → blkOf u = some g → blkOf v = some g → j = k) ∧
      (∀ j u, j < Hin.length → ψ (0, j) = some u → φ0 (0, j) = some u) := by
    rintro w' df hR ⟨vs, Z, G, hvs, hG1, hG2, hG0, hcv, hB⟩
    obtain ⟨xs', hrun, hreps⟩ := results_run hR _ vs ((resOf_gh _).trans hvs)
    have hx := pack_rep hreps
    obtain ⟨χ, hχ⟩ := exists_names G hG1 φ
    obtain ⟨φ', F0', F1', hT, hV, hφ'⟩ := hR.conv (τ := ⟨fun _ => none, fun j => if j.1 = 0 then (B[j.2]?).join else none, fun _ => false, 1, fun _ => none⟩) Z G hG1 hG2 (fun t p' hp => by cases hp) (fun t p' hp => by cases hp)
      (fun j b' hj => by
        simp only at hj
        split at hj
        · rename_i h0
          obtain ⟨j1, j2⟩ := j
          simp only at h0
          subst h0
          refine hB j2 b' ?_
          simp only at hj
          cases hb' : B[j2]? with
          | none => rw [hb'] at hj; cases hj
          | some o => rw [hb'] at hj; simp at hj; rw [hj]
        · cases hj)
      (fun i j hg => .inl (by have := (hG0 i j hg).1; simp only; omega)) (Nat.le_refl _) χ (fun i j u hg _ hu => (hχ j u).2 ⟨i, hg, hu⟩)
    have hF : ∀ t g, Fs F0' F1' t g → Fs (fun g => F g ∨ F1' g) F1' t g := by
      intro t g hg
      cases t
      · exact hT.ini g hg
      · exact hg
    have hH : ∀ j u, φ' (0, j) = some u → ∃ b, B[j]? = some (some b) := by
      intro j u hu
      obtain ⟨i, hg, _⟩ := (hφ' _ u).1 hu
      exact (hG0 i _ hg).2.1
    have hk : ∀ g, ¬ (g < w.heap.size ∧ ¬ Handed φ0 g) → w.heap.size ≤ g ∨ Handed φ0 g := by
      intro g hg
      by_cases h1 : g < w.heap.size
      · right
        apply Classical.byContradiction
        intro h2
        exact hg ⟨h1, h2⟩
      · left; omega
    refine ⟨_, ?_, _, φ', F1', rfl, hR.os, hR.tape, hR.output, hR.big, fun g hg hng => hR.kept g ⟨hg, hng⟩, fun g hg => ⟨hk g (hT.new1 g hg), hT.lt0 g (hT.sub g hg)⟩,
      repV_mono (fun _ _ e => e) (fun _ _ _ => rfl) hF _ _ (hV _ _ _ hcv hx), fun j b hj => ?_, fun i hi => ?_, hH, fun j u g hu hg => ?_, fun j k u v g hu hv hg hg' => ?_, fun j u hj hu => ?_⟩
    · unfold results
      simp only [Array.mapM_eq_mapM_toList]
      simp only [map_eq_pure_bind, Sem.run_bind, Sem.run_pure]
      have key : ∀ m : Sem (List Value), m.run P w' = .ok xs' w' → ((m.run P w').andThen fun a w' => Result.ok a.toArray w').andThen (fun a w' => Result.ok (if h : a.size = 1 then a[0] else Value.tuple a) w') =
          Result.ok (if h : xs'.toArray.size = 1 then xs'.toArray[0] else Value.tuple xs'.toArray) w' := by
        intro m hm; rw [hm]; rfl
      exact key _ hrun
    · exact holds_mono (hT.heap (0, j) b (by simp [hj])) (fun _ _ e => e) hF (fun _ _ _ => rfl) (fun _ _ _ _ => rfl)
    · obtain ⟨u, hu⟩ := Option.ne_none_iff_exists'.1 hi
      obtain ⟨i', hg, _⟩ := (hφ' _ u).1 hu
      exact (hG0 i' _ hg).1
    · obtain ⟨b, hb'⟩ := hH j u hu
      obtain ⟨h1, h2, _⟩ := hT.apart (0, j) u g (by simp [hb']) hu hg
      exact ⟨hk g h2, fun hx => h1 (hT.sub g hx)⟩
    · obtain ⟨b, hb'⟩ := hH j u hu
      obtain ⟨b2, hb2'⟩ := hH k v hv
      have := hT.inj (0, j) (0, k) u v g (by simp [hb']) (by simp [hb2']) hu hv hg hg'
      simpa using this
    · obtain ⟨i, hg, hu'⟩ := (hφ' _ u).1 hu
      have := (hG0 i _ hg).2.2 hj
      subst this
      exact hR.keep j u hu'
  cases e
  case normal => exact back _ fun w' df hR => main w' df hR hq
  case ret => exact back _ fun w' df hR => main w' df hR hq
  all_goals exact hq.elim
end

section
variable {C : Ctx} {φ : Id → Option Value} {F0 F1 : Nat → Prop} {σ : St} {a : Act} {w : World} {P : Program}

theorem nodup_fst {l : List (Id × Id)} (hn : (l.map (·.1)).Nodup) : ∀ i j j', (i, j) ∈ l → (i, j') ∈ l → j = j' := by
  induction l with
  | nil => intro i i' j h; simp at h
  | cons c l ih =>
    intro i j j' h1 h2
    simp only [List.map_cons, List.nodup_cons, List.mem_map, not_exists, not_and] at hn
    rcases List.mem_cons.1 h1 with e1 | e1 <;> rcases List.mem_cons.1 h2 with e2 | e2
    · rw [← e1] at e2; cases e2; rfl
    · exact absurd (by rw [← e1]) (hn.1 _ e2)
    · exact absurd (by rw [← e2]) (hn.1 _ e1)
    · exact ih hn.2 i j j' e1 e2

theorem nodup_snd {l : List (Id × Id)} (hn : (l.map (·.2)).Nodup) : ∀ i i' j, (i, j) ∈ l → (i', j) ∈ l → i = i' := by
  induction l with
  | nil => intro i i' j h; simp at h
  | cons c l ih =>
    intro i i' j h1 h2
    simp only [List.map_cons, List.nodup_cons, List.mem_map, not_exists, not_and] at hn
    rcases List.mem_cons.1 h1 with e1 | e1 <;> rcases List.mem_cons.1 h2 with e2 | e2
    · rw [← e1] at e2; cases e2; rfl
    · exact absurd (by rw [← e1]) (hn.1 _ e2)
    · exact absurd (by rw [← e2]) (hn.1 _ e1)
    · exact ih hn.2 i i' j e1 e2

theorem ret_conv {rs : List ResultVar} {r : PV} {B : List Blk} {vs : List PV} (z : List Id) (m : List (Id × Id)) (hv : resOf P σ rs = some vs) (hm1 : (m.map (·.1)).Nodup) (hm2 : (m.map (·.2)).Nodup) (h0 : ∀ e ∈ m, e.2.1 = 0 ∧ e.2.2 < B.length)
    (hc : ConvV σ.H (· ∈ z) (fun i j => (i, j) ∈ m) (pack vs) r) (hB : ∀ (j : Nat) b', B[j]? = some b' → ∃ i b, (i, ((0, 0 + j) : Id)) ∈ m ∧ i ∉ z ∧ σ.H i = some b ∧ ConvB σ.H (· ∈ z) (fun i j => (i, j) ∈ m) b b') : RetOk P rs r B σ :=
  ⟨vs, (· ∈ z), fun i j => (i, j) ∈ m, hv, nodup_snd hm2, nodup_fst hm1, fun i j h => h0 (i, j) h, hc, fun j b' hj => by simpa using hB j b' hj⟩

theorem rb_nil {P : Nat → Blk → Prop} : ∀ (j : Nat) b', ([] : List Blk)[j]? = some b' → P j b' := by intro j b' h; simp at h
theorem rb_cons {H : Id → Option Blk} {z : List Id} {m : List (Id × Id)} {k : Nat} {b0 : Blk} {B : List Blk} (h : ∃ i b, (i, ((0, k) : Id)) ∈ m ∧ i ∉ z ∧ H i = some b ∧ ConvB H (· ∈ z) (fun i j => (i, j) ∈ m) b b0)
    (ht : ∀ (j : Nat) b', B[j]? = some b' → ∃ i b, (i, ((0, k + 1 + j) : Id)) ∈ m ∧ i ∉ z ∧ H i = some b ∧ ConvB H (· ∈ z) (fun i j => (i, j) ∈ m) b b') : ∀ (j : Nat) b', (b0 :: B)[j]? = some b' → ∃ i b, (i, ((0, k + j) : Id)) ∈ m ∧ i ∉ z ∧ H i = some b ∧ ConvB H (· ∈ z) (fun i j => (i, j) ∈ m) b b' := by
  intro j b' hj
  cases j with
  | zero => simp at hj; subst hj; exact h
  | succ j =>
    have := ht j b' (by simpa using hj)
    rwa [show k + 1 + j = k + (j + 1) by omega] at this

end
attribute [push_cast] St.enterIO
end Go.Vm
end

section
namespace Go.Vm
open Go Go.RowKit
set_option linter.unusedSimpArgs false
set_option linter.unusedVariables false

section
variable {α : Type} {l : List α} {i : Int}
theorem wrap_next {n : Int} (h0 : 0 ≤ i) (h1 : i < n) (hn : n ≤ 9223372036854775807) : IntKind.wrap .i64 (i + 1) = i + 1 := by
  rw [IntKind.wrap_i64]; omega
end

section
variable {α : Type} [Inhabited α] {l : List α} {i : Int}
def atI (l : List α) (i : Int) : α := l.getD i.toNat default

theorem drop_atI (h0 : 0 ≤ i) (h1 : i < (l.length : Int)) : l.drop i.toNat = atI l i :: l.drop (i.toNat + 1) := by
  have hl : i.toNat < l.length := by omega
  rw [List.drop_eq_getElem_cons hl]
  simp [atI, List.getD, List.getElem?_eq_getElem hl]
theorem dropI_map (f : α → PC) (h0 : 0 ≤ i) (h1 : i < (l.length : Int)) : List.drop (i.toNat * 1) (l.map f) = f (atI l i) :: List.drop (i.toNat + 1) (l.map f) := by
  rw [Nat.mul_one, ← List.map_drop, drop_atI h0 h1, List.map_cons, List.map_drop]
theorem atI_mem (h0 : 0 ≤ i) (h1 : i < (l.length : Int)) : atI l i ∈ l := by
  have hl : i.toNat < l.length := by omega
  have : atI l i = l[i.toNat] := by simp [atI, List.getD, List.getElem?_eq_getElem hl]
  rw [this]; exact List.getElem_mem hl
end

/-! ### A row that is filled from its head on -/
section
variable {α : Type} {f : α → PC} {z x y : PC} {l : List α} {k : Nat}
theorem rowZ_one (n : Nat) : rowZ [z] n = List.replicate n z := by
  induction n with
  | zero => rfl
  | succ n ih => rw [rowZ, ih]; rfl
end

/-! ### Strings of bytes -/
end Go.Vm
end

section
namespace Go.Vm
open Go Go.RowKit
set_option linter.unusedVariables false
set_option linter.unusedSimpArgs false

/-! ### Ranges over functions: the two sides -/

/-- What the loop grants its iterator: what may turn between two yields, and what a yield gives. -/
structure ProtoOk (P : Program) (gb : Nat) (T : Proto) (xs : List (List PV)) : Prop where
  apart : ∀ o Y Z W, T.J o Y Z W → ∀ g, Y g → g < W.heap.size ∧ ¬ T.hd g ∧ gb ≤ g ∧ ¬ Z g ∧ ¬ T.F g
  yield : ∀ (k : Nat) (Y Z Z' : Nat → Prop) (W : World) (x : List PV) (vs : Array Value), xs[k]? = some x → T.J (some k) Y Z W → (∀ g, Z g → Z' g) → (∀ g, Z' g → Z g ∨ ((T.hd g ∨ T.w.heap.size ≤ g) ∧ g < W.heap.size ∧ ¬ Y g)) → T.w.heap.size ≤ W.heap.size →
    repVs (fun _ => none) W (Fs (fun g => T.F g ∨ Z' g) Z') x vs.toList →
    YieldAt Fence.wide 0 P T.l vs W fun e W' => Turned (fun g => Y g ∨ g = T.l) W W' ∧ ∃ Y', (∀ g, Y' g → Y g ∨ W.heap.size ≤ g) ∧
      ((e = .returned (.bool true) ∧ T.J (some (k + 1)) Y' Z' W') ∨ (e = .returned (.bool false) ∧ T.J none Y' Z' W'))

/-- WHAT AN ITERATOR (the function f; args: what it has captured; Hin: the blocks that it is handed) GIVES, ONE AFTER THE OTHER: xs. -/
structure VIterG (P : Program) (gw : World) (gb : Nat) (f : FuncId) (args : List PV) (Hin : List Blk) (xs : List (List PV)) : Prop where
  callable : Callable P f
  run : ∀ (vs : Array Value) (φ0 : Id → Option Value) (T : Proto) (Y0 : Nat → Prop), T.hd = Handed φ0 → gb ≤ T.w.heap.size → (∀ g, g < gb → T.w.heap[g]? = gw.heap[g]?) → (∀ g, T.F g → g < T.w.heap.size) →
    (∀ i, φ0 i ≠ none → i.1 = 0) → (∀ j b, Hin[j]? = some b → holds φ0 T.w (Fs T.F fun _ => False) (0, j) b) →
    (∀ j u g, φ0 (0, j) = some u → blkOf u = some g → ¬ T.F g ∧ gb ≤ g ∧ g ≠ T.l) → (∀ j u, φ0 (0, j) = some u → j < Hin.length) →
    (∀ j k u v g, φ0 (0, j) = some u → φ0 (0, k) = some v → blkOf u = some g → blkOf v = some g → j = k) →
    T.l < T.w.heap.size → gb ≤ T.l → ¬ T.F T.l →
    repVs φ0 T.w (Fs T.F fun _ => False) args vs.toList → ProtoOk P gb T xs → T.J (some 0) Y0 (fun _ => False) T.w →
    CallsIn Fence.wide 0 P f (#[.func (.yield T.l) #[] #[]] ++ vs) T.w fun e w' => (∃ v, e = .returned v) ∧ ((∃ Y Z, T.J (some xs.length) Y Z w') ∨ ∃ Y Z, T.J none Y Z w')

section
variable {C C' : Ctx} {φ φ' : Id → Option Value} {F0 F1 : Nat → Prop} {σ τ : St} {a : Act} {w w' : World}

theorem core_nt (h : C'.toCore = C.toCore) : C'.nt = C.nt := by rw [show C'.nt = C'.toCore.nt from rfl, h]
theorem core_gb (h : C'.toCore = C.toCore) : C'.gb = C.gb := by rw [show C'.gb = C'.toCore.gb from rfl, h]
theorem core_gw (h : C'.toCore = C.toCore) : C'.gw = C.gw := by rw [show C'.gw = C'.toCore.gw from rfl, h]
theorem core_P (h : C'.toCore = C.toCore) : C'.P = C.P := by rw [show C'.P = C'.toCore.P from rfl, h]

/-- The context anew, in a world where only that has turned which is not the call's own, nor read. -/
theorem RelX.re (h : RelX C φ F0 F1 σ a w) {S : Nat → Prop} (hT : Turned S w w') (hcore : C'.toCore = C.toCore) (hφi : ∀ j u, φ (0, j) = some u → C'.φi (0, j) = some u) (hFi : ∀ g, F0 g → C'.Fi g ∨ F1 g)
    (hS : ∀ g, S g → g < w.heap.size → ¬ F0 g ∧ C.gb ≤ g ∧ ∀ i u, σ.H i ≠ none → φ i = some u → blkOf u ≠ some g)
    (hos : w'.os = C'.w0.os) (htp : w'.tape = C'.w0.tape) (hout : w'.output = C'.w0.output) (hbig : C'.w0.heap.size ≤ w'.heap.size) (hkept : ∀ g, C'.K0 g → w'.heap[g]? = C'.w0.heap[g]?) (hk0 : ∀ g, C'.K0 g → g < C'.w0.heap.size) (hgb : C.gb ≤ C'.w0.heap.size)
    (hap : ∀ i u g, σ.H i ≠ none → φ i = some u → blkOf u = some g → ¬ C'.K0 g) (hnew : ∀ g, F1 g → C'.K0 g → C'.Zr g) (gh' : Nat → Option PV) (hgh : ∀ t p, gh' t = some p → ∃ x, C'.ex[t]? = some x ∧ repV φ w' (Fs F0 F1) p x) :
    RelX C' φ F0 F1 { σ with gh := gh' } { a with defers := C'.df } w' := by
  have hwF : ∀ t g, Fs F0 F1 t g → w'.heap[g]? = w.heap[g]? := fun t g hg => hT.heap g (h.lt0 g (Fs_f0 h.sub t g hg)) fun hs => (hS g hs (h.lt0 g (Fs_f0 h.sub t g hg))).1 (Fs_f0 h.sub t g hg)
  refine ⟨h.size.trans (core_nt hcore).symm, rfl, fun t p hp => (h.frame t p hp).imp fun x hx => ⟨hx.1, repV_mono (fun _ _ e => e) hwF (fun _ _ e => e) p x hx.2⟩, fun i b hi => ?_, h.inj, fun i u g hi hu hg => ?_, h.sub, hFi, hnew, fun g hg => Nat.lt_of_lt_of_le (h.lt0 g hg) hT.size,
    hos, htp, hout, hbig, hkept, hk0, core_gb hcore ▸ hgb, fun g hg => ?_, hφi, h.nx1, h.ids, hgh⟩
  · have hh := h.heap i b hi
    exact holds_mono hh (fun _ _ e => e) (fun _ _ e => e) hwF fun u g hu hg => hT.heap g (holds_lt hh hu hg) fun hs => (hS g hs (holds_lt hh hu hg)).2.2 i u (by rw [hi]; simp) hu hg
  · obtain ⟨h1, h2, h3⟩ := h.apart i u g hi hu hg
    exact ⟨h1, hap i u g hi hu hg, core_gb hcore ▸ h3⟩
  · have h1 : g < C.gb := core_gb hcore ▸ hg
    exact (hT.heap g (Nat.lt_of_lt_of_le h1 (Nat.le_trans h.gbig h.big)) fun hs => by have := (hS g hs (Nat.lt_of_lt_of_le h1 (Nat.le_trans h.gbig h.big))).2.1; omega).trans ((h.glob g h1).trans (by rw [core_gw hcore]))

/-- More is only read from now on. -/
theorem RelX.addF (h : RelX C φ F0 F1 σ a w) (X : Nat → Prop) (hlt : ∀ g, X g → g < w.heap.size) (hk : ∀ g, X g → C.K0 g → C.Zr g) (hap : ∀ i u g, σ.H i ≠ none → φ i = some u → blkOf u = some g → ¬ X g) :
    RelX C φ (fun g => F0 g ∨ X g) (fun g => F1 g ∨ X g) σ a w := by
  have hF : ∀ t g, Fs F0 F1 t g → Fs (fun g => F0 g ∨ X g) (fun g => F1 g ∨ X g) t g := by
    intro t g hg; cases t <;> exact .inl hg
  refine ⟨h.size, h.defs, fun t p hp => (h.frame t p hp).imp fun x hx => ⟨hx.1, repV_mono (fun _ _ e => e) (fun _ _ _ => rfl) hF p x hx.2⟩, fun i b hi => holds_mono (h.heap i b hi) (fun _ _ e => e) hF (fun _ _ _ => rfl) (fun _ _ _ _ => rfl), h.inj, fun i u g hi hu hg => ?_, ?_, ?_, ?_, ?_,
    h.os, h.tape, h.output, h.big, h.kept, h.k0lt, h.gbig, h.glob, h.keep, h.nx1, h.ids, fun t p hp => (h.ghost t p hp).imp fun x hx => ⟨hx.1, repV_mono (fun _ _ e => e) (fun _ _ _ => rfl) hF p x hx.2⟩⟩
  · obtain ⟨h1, h2, h3⟩ := h.apart i u g hi hu hg
    exact ⟨fun h4 => h4.elim h1 (hap i u g hi hu hg), h2, h3⟩
  · rintro g (hg | hg)
    · exact .inl (h.sub g hg)
    · exact .inr hg
  · rintro g (hg | hg)
    · exact (h.ini g hg).imp id .inl
    · exact .inr (.inr hg)
  · rintro g (hg | hg)
    · exact h.new1 g hg
    · exact hk g hg
  · rintro g (hg | hg)
    · exact h.lt0 g hg
    · exact hlt g hg

theorem F1_eb (h : RelX C φ F0 F1 σ a w) {g : Nat} (hg : F1 g) : ¬ C.Eb g := fun he => C.zeb g (h.new1 g hg (C.ebk g he)) he
theorem F0_eb (h : RelX C φ F0 F1 σ a w) {g : Nat} (hg : F0 g) : ¬ C.Eb g := (h.ini g hg).elim (C.fie g) (F1_eb h)

theorem PInv.turnW {T : Proto} {ex : Array Value} {Eb Zr K0 Fi : Nat → Prop} {w0 w1 : World} (h : PInv T ex Eb Zr K0 Fi w0) {S : Nat → Prop} (hT : Turned S w0 w1) (hS : ∀ g, g < w0.heap.size → S g → (T.hd g ∨ T.w.heap.size ≤ g) ∧ ¬ Eb g ∧ ¬ Zr g) : PInv T ex Eb Zr K0 Fi w1 := by
  obtain ⟨o, Y, Z, e1, e2, e3, e4⟩ := h.at_
  refine ⟨h.low, h.zn, h.fz, Nat.le_trans h.size hT.size, hT.os.trans h.os, hT.tape.trans h.tape, hT.output.trans h.output, h.lE, o, Y, Z, e1, e2, e3, T.turn _ _ _ _ _ e4 ⟨hT.os, hT.tape, hT.output, hT.size, fun g hg hn => hT.heap g hg fun hs => ?_⟩⟩
  obtain ⟨h1, h2, h3⟩ := hS g hg hs
  exact hn ⟨h1, fun hy => h2 (e2 g hy), fun hz => h3 (e3 g hz)⟩

/-- What is owed, in the world as it is now. -/
theorem RelX.pinv (h : RelX C φ F0 F1 σ a w) {T : Proto} (hp : C.pr = some T) : PInv T C.ex C.Eb C.Zr C.K0 C.Fi w := by
  have hi := C.jok T hp
  obtain ⟨o, Y, Z, e1, e2, e3, e4⟩ := hi.at_
  refine ⟨hi.low, hi.zn, hi.fz, Nat.le_trans hi.size h.big, h.os.trans hi.os, h.tape.trans hi.tape, h.output.trans hi.output, hi.lE, o, Y, Z, e1, e2, e3, T.turn _ _ _ _ _ e4 ⟨h.os, h.tape, h.output, h.big, fun g hg hn => ?_⟩⟩
  apply h.kept
  apply Classical.byContradiction
  intro hk
  refine hn ⟨?_, fun hy => hk (C.ebk g (e2 g hy)), fun hz => hk (C.zrk g (e3 g hz))⟩
  apply Classical.byContradiction
  intro h1
  simp only [not_or, Nat.not_le] at h1
  exact hk (hi.low g h1.2 h1.1)

def ghk (o : Option Nat) : Nat → Option PV := fun t => if t = 0 then some (.one (.c (kval o))) else none
theorem kval_inj {o o' : Option Nat} (h : kval o = kval o') : o = o' := by
  cases o <;> cases o' <;> simp only [kval, Value.int.injEq, true_and] at h
  · rfl
  · omega
  · omega
  · have : (_ : Nat) = _ := Int.ofNat.inj h
    rw [this]

/-- A yield, seen from the iterator. -/
theorem RelX.yielded (h : RelX C φ F0 F1 σ a w) {T : Proto} (hp : C.pr = some T) {xs : List (List PV)} (hok : ProtoOk C.P C.gb T xs) {k : Nat} (hk : σ.gh 0 = some (.one (.c (kval (some k))))) {x : List PV} {vs : Array Value} (hx : xs[k]? = some x)
    (hr : repVs (fun _ => none) w (Fs F0 F1) x vs.toList) :
    YieldAt Fence.wide 0 C.P T.l vs w fun e w' => ∃ b : Bool, e = .returned (.bool b) ∧ ∃ C', Later C C' ∧ RelX C' φ F0 F1 { σ with gh := ghk (if b then some (k + 1) else none) } a w' := by
  have hi := h.pinv hp
  have hi0 := C.jok T hp
  obtain ⟨o, Y, Z, e1, e2, e3, e4⟩ := hi.at_
  obtain ⟨x0, hx0, hr0⟩ := h.ghost 0 _ hk
  simp only [repV, rep] at hr0
  have ho : o = some k := by
    rw [e1] at hx0
    simp only [List.size_toArray, List.length_cons, List.length_nil, Nat.zero_add, Nat.lt_add_one, getElem?_pos, List.getElem_toArray, List.getElem_cons_zero, Option.some.injEq] at hx0
    exact kval_inj (hx0.trans hr0.1)
  subst ho
  have hF1n : ∀ g, F1 g → T.hd g ∨ T.w.heap.size ≤ g := by
    intro g hg
    apply Classical.byContradiction
    intro h1
    have h2 := h1
    simp only [not_or, Nat.not_le] at h1
    exact h2 (hi.zn g (h.new1 g hg (hi.low g h1.2 h1.1)))
  have hYK : ∀ g, Y g → C.K0 g := fun g hy => C.ebk g (e2 g hy)
  have hZ' : ∀ g, C.Zr g ∨ F1 g → (T.hd g ∨ T.w.heap.size ≤ g) ∧ g < w.heap.size ∧ ¬ C.Eb g := by
    rintro g (hg | hg)
    · exact ⟨hi.zn g hg, Nat.lt_of_lt_of_le (h.k0lt g (C.zrk g hg)) h.big, C.zeb g hg⟩
    · exact ⟨hF1n g hg, h.lt0 g (h.sub g hg), F1_eb h hg⟩
  have hap0 := hok.apart _ _ _ _ e4
  have hyield := hok.yield k Y Z (fun g => C.Zr g ∨ F1 g) w x vs hx e4 (fun g hg => .inl (e3 g hg)) (fun g hg => .inr ⟨(hZ' g hg).1, (hZ' g hg).2.1, fun hy => (hZ' g hg).2.2 (e2 g hy)⟩) hi.size
    (repVs_mono (fun _ _ e => e) (fun _ _ _ => rfl) (fun t g hg => by
      cases t
      · rcases h.ini g hg with h1 | h1
        · exact (hi.fz g h1).imp id .inl
        · exact .inr (.inr h1)
      · exact .inr hg) _ _ hr)
  obtain ⟨fn, tmps, assign, body, hy, hR⟩ := hyield
  refine ⟨fn, tmps, assign, body, hy, hR.mono ?_⟩
  rintro e w' ⟨hT, Y', hY', hcase⟩
  have key : ∀ (b : Bool) (o' : Option Nat), T.J o' Y' (fun g => C.Zr g ∨ F1 g) w' → (if b then some (k + 1) else none) = o' → ∃ C', Later C C' ∧ RelX C' φ F0 F1 { σ with gh := ghk (if b then some (k + 1) else none) } a w' := by
    intro b o' hJ' hb
    have hap := hok.apart _ _ _ _ hJ'
    have hown : ∀ i u g, σ.H i ≠ none → φ i = some u → blkOf u = some g → ¬ Y' g ∧ g < w.heap.size := by
      intro i u g hn hu hg
      obtain ⟨h1, h2, h3⟩ := h.apart i u g hn hu hg
      obtain ⟨b, hb⟩ := Option.ne_none_iff_exists'.1 hn
      have hlt := holds_lt (h.heap i b hb) hu hg
      refine ⟨fun hy => ?_, hlt⟩
      rcases hY' g hy with h4 | h4
      · exact h2 (hYK g h4)
      · omega
    let C' : Ctx := { C with
        w0 := w'
        K0 := fun g => C.K0 g ∨ (C.Zr g ∨ F1 g) ∨ Y' g
        Zr := fun g => C.Zr g ∨ F1 g
        Eb := fun g => C.Eb g ∨ Y' g
        ex := #[kval o']
        fik := fun g hg => .inl (C.fik g hg)
        gbk := fun g hg => .inl (C.gbk g hg)
        zrk := fun g hg => .inr (.inl hg)
        ebk := fun g hg => hg.elim (fun h => .inl (C.ebk g h)) fun h => .inr (.inr h)
        zeb := fun g hg he => he.elim (hZ' g hg).2.2 fun hy => (hap g hy).2.2.2.1 hg
        fie := fun g hg he => he.elim (C.fie g hg) fun hy => (hi.fz g hg).elim (hap g hy).2.2.2.2 fun hz => (hap g hy).2.2.2.1 (.inl hz)
        geb := fun g hg he => he.elim (C.geb g hg) fun hy => by have := (hap g hy).2.2.1; omega
        jok := fun T' hT' => by
            rw [hp] at hT'
            cases hT'
            exact ⟨fun g h1 h2 => .inl (hi.low g h1 h2), fun g hg => (hZ' g hg).1, fun g hg => (hi.fz g hg).imp id .inl, Nat.le_trans hi.size hT.size, hT.os.trans hi.os, hT.tape.trans hi.tape, hT.output.trans hi.output, .inl hi.lE,
              o', Y', _, rfl, fun g hg => .inr hg, fun g hg => hg, hJ'⟩ }
    refine ⟨C', ⟨rfl, rfl, rfl, rfl, rfl, Nat.le_trans h.big hT.size, hT.os.trans h.os, hT.tape.trans h.tape, hT.output.trans h.output, fun g hg => .inl hg, fun g hg he => ⟨?_, ?_⟩, fun g hg => .inl hg, fun g hg => .inl hg, fun g hg hk => hg.elim id fun h1 => h.new1 g h1 hk, [], rfl, List.nodup_nil, fun r hr => by cases hr⟩, ?_⟩
    · refine (hT.heap g (Nat.lt_of_lt_of_le (h.k0lt g hg) h.big) ?_).trans (h.kept g hg)
      rintro (hy | rfl)
      · exact he (e2 g hy)
      · exact he hi.lE
    · rintro (h1 | h1)
      · exact he h1
      · rcases hY' g h1 with h2 | h2
        · exact he (e2 g h2)
        · have := h.k0lt g hg; have := h.big; omega
    · have := h.re (C' := C') (S := fun g => Y g ∨ g = T.l) hT rfl h.keep h.ini ?_ rfl rfl rfl (Nat.le_refl _) (fun _ _ => rfl) ?_ (Nat.le_trans h.gbig (Nat.le_trans h.big hT.size)) ?_ ?_ (ghk (if b then some (k + 1) else none)) ?_
      · have ed : ({ a with defers := C'.df } : Act) = a := by
          show ({ a with defers := C.df } : Act) = a
          rw [← h.defs]
        rw [ed] at this
        exact this
      · intro g hg hlt
        have he : C.Eb g := by
          rcases hg with hg | rfl
          · exact e2 g hg
          · exact hi.lE
        refine ⟨fun h0 => F0_eb h h0 he, Nat.le_of_not_lt fun h1 => C.geb g h1 he, fun i u hn hu hg' => (h.apart i u g hn hu hg').2.1 (C.ebk g he)⟩
      · rintro g (hg | hg | hg)
        · exact Nat.lt_of_lt_of_le (h.k0lt g hg) (Nat.le_trans h.big hT.size)
        · exact Nat.lt_of_lt_of_le (hZ' g hg).2.1 hT.size
        · exact (hap g hg).1
      · intro i u g hn hu hg
        obtain ⟨h1, h2, h3⟩ := h.apart i u g hn hu hg
        rintro (h4 | (h4 | h4) | h4)
        · exact h2 h4
        · exact h2 (C.zrk g h4)
        · exact h1 (h.sub g h4)
        · exact (hown i u g hn hu hg).1 h4
      · exact fun g hg _ => .inr hg
      · intro t p ht
        unfold ghk at ht
        split at ht
        · rename_i h0
          subst h0
          cases ht
          refine ⟨kval o', rfl, ?_⟩
          simp only [repV, rep]
          rw [hb]
          refine ⟨rfl, ?_⟩
          cases o' <;> rfl
        · cases ht
  rcases hcase with ⟨rfl, hJ'⟩ | ⟨rfl, hJ'⟩
  · exact ⟨true, rfl, key true _ hJ' rfl⟩
  · exact ⟨false, rfl, key false _ hJ' rfl⟩
end
end Go.Vm
end
