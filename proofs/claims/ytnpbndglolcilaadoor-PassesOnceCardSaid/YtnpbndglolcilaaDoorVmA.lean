/-
  Abstract states over the model's worlds, and that a step of them is a step of the program: part A of a framework. Conditions: each theorem's own premises. By an AI agent.
-/
import Derived.Orders
import Derived.Tactics
import Derived.Laws.AppendOwn
import Derived.Laws.Sem
import Derived.Below
namespace Go.Vm
open Go Go.RowKit

abbrev Id := Nat × Nat

/-- A pure cell. -/
inductive PC where
  | c (v : Value)
  | ifc
  | sl (t : Bool) (n : Nat) (xs : List PC)
  | at (t : Bool) (ys : List PC)
  | loc (i : Id) (off : Nat)
  | own (i : Id)
  | fn (f : FuncId) (caps : List PC)

/-- What a slot holds. -/
inductive PV where
  | one (p : PC)
  | agg (ps : List PC)
  | tup (vs : List PV)
  | may (b : Bool) (p : PV)

/-- A block of the call's own. -/
inductive Blk where
  | box (ty : TypeId) (cells : List PC)
  | arr (ty : TypeId) (size n : Nat) (cells : List PC)

def Blk.cells : Blk → List PC
  | .box _ cs => cs
  | .arr _ _ _ cs => cs

def blkOf : Value → Option Nat
  | .pointer (some a) => some a.block
  | .slice (some a) _ _ => some a.block
  | _ => none

def isSl : Value → Bool
  | .slice _ _ _ => true
  | _ => false

mutual
/-- The value x stands for the pure cell in the world w. -/
def rep (φ : Id → Option Value) (w : World) (F : Bool → Nat → Prop) : PC → Value → Prop
  | .c v, x => x = v ∧ v.oneCell' = true
  | .ifc, x => ∃ t v, x = .iface t v
  | .sl t n xs, x => ∃ A cap, x = .slice A n cap ∧ n ≤ cap ∧ ((n = 0 ∧ xs = []) ∨ ∃ ad, A = some ad ∧ F t ad.block ∧ repAt φ w F ad xs)
  | .at t ys, x => ∃ ad, x = .pointer (some ad) ∧ F t ad.block ∧ repAt φ w F ad ys
  | .loc i off, x => ∃ u g, φ i = some u ∧ blkOf u = some g ∧ x = .pointer (some ⟨g, off, none⟩)
  | .own i, x => φ i = some x ∧ isSl x = true
  | .fn f caps, x => ∃ vs, x = .func (.func f) #[] vs ∧ reps φ w F caps vs.toList
def repAt (φ : Id → Option Value) (w : World) (F : Bool → Nat → Prop) (ad : Addr) : List PC → Prop
  | [] => True
  | p :: ps => (∃ v, w.cell? ad = some v ∧ rep φ w F p v) ∧ repAt φ w F (ad.add 1) ps
def reps (φ : Id → Option Value) (w : World) (F : Bool → Nat → Prop) : List PC → List Value → Prop
  | [], vs => vs = []
  | p :: ps, vs => ∃ v vs', vs = v :: vs' ∧ rep φ w F p v ∧ reps φ w F ps vs'
end

mutual
def repV (φ : Id → Option Value) (w : World) (F : Bool → Nat → Prop) : PV → Value → Prop
  | .one p, x => rep φ w F p x
  | .agg ps, x => ∃ vs, x = .agg vs ∧ reps φ w F ps vs.toList
  | .tup vs, x => ∃ xs, x = .tuple xs ∧ repVs φ w F vs xs.toList
  | .may b p, x => (b = true → repV φ w F p x) ∧ (b = false → x = undef)
def repVs (φ : Id → Option Value) (w : World) (F : Bool → Nat → Prop) : List PV → List Value → Prop
  | [], vs => vs = []
  | p :: ps, vs => ∃ v vs', vs = v :: vs' ∧ repV φ w F p v ∧ repVs φ w F ps vs'
end

theorem add_add (a : Addr) (i j : Nat) : (a.add i).add j = a.add (i + j) := by
  unfold Addr.add
  by_cases hi : i = 0 <;> by_cases hj : j = 0 <;> simp_all [Nat.add_assoc]

theorem add_block (a : Addr) (i : Nat) : (a.add i).block = a.block := by unfold Addr.add; split <;> rfl

section
variable {φ φ' : Id → Option Value} {w w' : World} {F F' : Bool → Nat → Prop}

mutual
theorem rep_mono (hφ : ∀ i u, φ i = some u → φ' i = some u) (hw : ∀ t g, F t g → w'.heap[g]? = w.heap[g]?) (hF : ∀ t g, F t g → F' t g) :
    ∀ (p : PC) (x : Value), rep φ w F p x → rep φ' w' F' p x
  | .c v, x, h => by simp only [rep] at h ⊢; exact h
  | .ifc, x, h => by simp only [rep] at h ⊢; exact h
  | .sl t n xs, x, h => by
    simp only [rep] at h ⊢
    obtain ⟨A, cap, hx, hn, h⟩ := h
    refine ⟨A, cap, hx, hn, ?_⟩
    rcases h with h | ⟨ad, ha, hf, h⟩
    · exact .inl h
    · exact .inr ⟨ad, ha, hF _ _ hf, repAt_mono hφ hw hF ad (hw _ _ hf) xs h⟩
  | .at t ys, x, h => by
    simp only [rep] at h ⊢
    obtain ⟨ad, hx, hf, h⟩ := h
    exact ⟨ad, hx, hF _ _ hf, repAt_mono hφ hw hF ad (hw _ _ hf) ys h⟩
  | .loc i off, x, h => by
    simp only [rep] at h ⊢
    obtain ⟨u, g, hu, hg, hx⟩ := h
    exact ⟨u, g, hφ _ _ hu, hg, hx⟩
  | .own i, x, h => by
    simp only [rep] at h ⊢
    exact ⟨hφ _ _ h.1, h.2⟩
  | .fn f caps, x, h => by
    simp only [rep] at h ⊢
    obtain ⟨vs, hx, h⟩ := h
    exact ⟨vs, hx, reps_mono hφ hw hF caps _ h⟩
theorem repAt_mono (hφ : ∀ i u, φ i = some u → φ' i = some u) (hw : ∀ t g, F t g → w'.heap[g]? = w.heap[g]?) (hF : ∀ t g, F t g → F' t g)
    (ad : Addr) (hb : w'.heap[ad.block]? = w.heap[ad.block]?) : ∀ (ps : List PC), repAt φ w F ad ps → repAt φ' w' F' ad ps
  | [], _ => by simp [repAt]
  | p :: ps, h => by
    simp only [repAt] at h ⊢
    obtain ⟨⟨v, hv, hr⟩, h⟩ := h
    exact ⟨⟨v, (World.cell?_of_block hb).trans hv, rep_mono hφ hw hF p v hr⟩, repAt_mono hφ hw hF (ad.add 1) (by rw [add_block]; exact hb) ps h⟩
theorem reps_mono (hφ : ∀ i u, φ i = some u → φ' i = some u) (hw : ∀ t g, F t g → w'.heap[g]? = w.heap[g]?) (hF : ∀ t g, F t g → F' t g) :
    ∀ (ps : List PC) (vs : List Value), reps φ w F ps vs → reps φ' w' F' ps vs
  | [], vs, h => by simp only [reps] at h ⊢; exact h
  | p :: ps, vs, h => by
    simp only [reps] at h ⊢
    obtain ⟨v, vs', he, hr, h⟩ := h
    exact ⟨v, vs', he, rep_mono hφ hw hF p v hr, reps_mono hφ hw hF ps vs' h⟩
end

mutual
theorem repV_mono (hφ : ∀ i u, φ i = some u → φ' i = some u) (hw : ∀ t g, F t g → w'.heap[g]? = w.heap[g]?) (hF : ∀ t g, F t g → F' t g) :
    ∀ (p : PV) (x : Value), repV φ w F p x → repV φ' w' F' p x
  | .one p, x, h => by simp only [repV] at h ⊢; exact rep_mono hφ hw hF p x h
  | .agg ps, x, h => by
    simp only [repV] at h ⊢
    obtain ⟨vs, hx, h⟩ := h
    exact ⟨vs, hx, reps_mono hφ hw hF ps _ h⟩
  | .tup vs, x, h => by
    simp only [repV] at h ⊢
    obtain ⟨xs, hx, h⟩ := h
    exact ⟨xs, hx, repVs_mono hφ hw hF vs _ h⟩
  | .may b p, x, h => by
    simp only [repV] at h ⊢
    exact ⟨fun e => repV_mono hφ hw hF p x (h.1 e), h.2⟩
theorem repVs_mono (hφ : ∀ i u, φ i = some u → φ' i = some u) (hw : ∀ t g, F t g → w'.heap[g]? = w.heap[g]?) (hF : ∀ t g, F t g → F' t g) :
    ∀ (ps : List PV) (xs : List Value), repVs φ w F ps xs → repVs φ' w' F' ps xs
  | [], xs, h => by simp only [repVs] at h ⊢; exact h
  | p :: ps, xs, h => by
    simp only [repVs] at h ⊢
    obtain ⟨v, vs', he, hr, h⟩ := h
    exact ⟨v, vs', he, repV_mono hφ hw hF p v hr, repVs_mono hφ hw hF ps vs' h⟩
end

theorem rep_one : ∀ (p : PC) (x : Value), rep φ w F p x → x.oneCell' = true
  | .c v, x, h => by simp only [rep] at h; rw [h.1]; exact h.2
  | .ifc, x, h => by simp only [rep] at h; obtain ⟨t, v, rfl⟩ := h; rfl
  | .sl t n xs, x, h => by simp only [rep] at h; obtain ⟨A, cap, rfl, _⟩ := h; rfl
  | .at t ys, x, h => by simp only [rep] at h; obtain ⟨A, rfl, _⟩ := h; rfl
  | .loc i off, x, h => by simp only [rep] at h; obtain ⟨u, g, _, _, rfl⟩ := h; rfl
  | .own i, x, h => by
    simp only [rep] at h
    cases x <;> simp_all [isSl, Value.oneCell']
  | .fn f caps, x, h => by simp only [rep] at h; obtain ⟨vs, rfl, _⟩ := h; rfl

theorem reps_length : ∀ (ps : List PC) (vs : List Value), reps φ w F ps vs → vs.length = ps.length
  | [], vs, h => by simp only [reps] at h; rw [h]; rfl
  | p :: ps, vs, h => by
    simp only [reps] at h
    obtain ⟨v, vs', rfl, _, h⟩ := h
    simp [reps_length ps vs' h]

theorem reps_one : ∀ (ps : List PC) (vs : List Value), reps φ w F ps vs → ∀ v ∈ vs, v.oneCell' = true
  | [], vs, h => by simp only [reps] at h; rw [h]; simp
  | p :: ps, vs, h => by
    simp only [reps] at h
    obtain ⟨v, vs', rfl, hr, h⟩ := h
    intro u hu
    rcases List.mem_cons.1 hu with rfl | hu
    · exact rep_one p _ hr
    · exact reps_one ps vs' h u hu

theorem reps_get : ∀ (ps : List PC) (vs : List Value), reps φ w F ps vs → ∀ (j : Nat) (p : PC), ps[j]? = some p → ∃ v, vs[j]? = some v ∧ rep φ w F p v
  | [], vs, _, j, p, hp => by simp at hp
  | q :: ps, vs, h, j, p, hp => by
    simp only [reps] at h
    obtain ⟨v, vs', rfl, hr, h⟩ := h
    cases j with
    | zero => simp at hp; subst hp; exact ⟨v, rfl, hr⟩
    | succ j => simpa using reps_get ps vs' h j p (by simpa using hp)

theorem reps_of_get : ∀ (ps : List PC) (vs : List Value), vs.length = ps.length → (∀ (j : Nat) (p : PC) (v : Value), ps[j]? = some p → vs[j]? = some v → rep φ w F p v) → reps φ w F ps vs
  | [], vs, hl, _ => by simp only [reps]; simpa using hl
  | p :: ps, vs, hl, h => by
    cases vs with
    | nil => simp at hl
    | cons v vs =>
      simp only [reps]
      exact ⟨v, vs, rfl, h 0 p v rfl rfl, reps_of_get ps vs (by simpa using hl) fun j q u hq hu => h (j + 1) q u (by simpa using hq) (by simpa using hu)⟩

theorem reps_append {ps qs : List PC} {vs us : List Value} (h : reps φ w F ps vs) (h' : reps φ w F qs us) : reps φ w F (ps ++ qs) (vs ++ us) := by
  refine reps_of_get _ _ (by simp [reps_length _ _ h, reps_length _ _ h']) fun j p v hp hv => ?_
  have hl := reps_length _ _ h
  rw [List.getElem?_append] at hp hv
  split at hp
  · rename_i hj
    rw [if_pos (by omega)] at hv
    obtain ⟨u, hu, hr⟩ := reps_get _ _ h j p hp
    rw [hv] at hu; cases hu; exact hr
  · rename_i hj
    rw [if_neg (by omega)] at hv
    obtain ⟨u, hu, hr⟩ := reps_get _ _ h' _ p hp
    rw [hl] at hv
    rw [hv] at hu; cases hu; exact hr

theorem reps_drop {ps : List PC} {vs : List Value} (h : reps φ w F ps vs) (n : Nat) : reps φ w F (ps.drop n) (vs.drop n) := by
  refine reps_of_get _ _ (by simp [reps_length _ _ h]) fun j p v hp hv => ?_
  rw [List.getElem?_drop] at hp hv
  obtain ⟨u, hu, hr⟩ := reps_get _ _ h _ p hp
  rw [hv] at hu; cases hu; exact hr

theorem reps_take {ps : List PC} {vs : List Value} (h : reps φ w F ps vs) (n : Nat) : reps φ w F (ps.take n) (vs.take n) := by
  refine reps_of_get _ _ (by simp [reps_length _ _ h]) fun j p v hp hv => ?_
  rw [List.getElem?_take] at hp hv
  split at hp
  · rename_i hj
    rw [if_pos hj] at hv
    obtain ⟨u, hu, hr⟩ := reps_get _ _ h _ p hp
    rw [hv] at hu; cases hu; exact hr
  · cases hp

theorem repAt_get : ∀ (ps : List PC) (ad : Addr), repAt φ w F ad ps → ∀ (j : Nat) (p : PC), ps[j]? = some p → ∃ v, w.cell? (ad.add j) = some v ∧ rep φ w F p v
  | [], ad, _, j, p, hp => by simp at hp
  | q :: ps, ad, h, j, p, hp => by
    simp only [repAt] at h
    obtain ⟨⟨v, hv, hr⟩, h⟩ := h
    cases j with
    | zero => simp at hp; subst hp; exact ⟨v, hv, hr⟩
    | succ j =>
      obtain ⟨u, hu, hr'⟩ := repAt_get ps (ad.add 1) h j p (by simpa using hp)
      rw [add_add, Nat.add_comm] at hu
      exact ⟨u, hu, hr'⟩

theorem repAt_of_get : ∀ (ps : List PC) (ad : Addr), (∀ (j : Nat) (p : PC), ps[j]? = some p → ∃ v, w.cell? (ad.add j) = some v ∧ rep φ w F p v) → repAt φ w F ad ps
  | [], ad, _ => by simp [repAt]
  | q :: ps, ad, h => by
    simp only [repAt]
    refine ⟨?_, repAt_of_get ps (ad.add 1) fun j p hp => ?_⟩
    · exact h 0 q rfl
    · obtain ⟨v, hv, hr⟩ := h (j + 1) p (by simpa using hp)
      rw [add_add, Nat.add_comm 1 j]
      exact ⟨v, hv, hr⟩

theorem repAt_drop {ps : List PC} {ad : Addr} (h : repAt φ w F ad ps) (n : Nat) : repAt φ w F (ad.add n) (ps.drop n) := by
  refine repAt_of_get _ _ fun j p hp => ?_
  rw [List.getElem?_drop] at hp
  rw [add_add]
  exact repAt_get _ _ h _ p hp

theorem repAt_take {ps : List PC} {ad : Addr} (h : repAt φ w F ad ps) (n : Nat) : repAt φ w F ad (ps.take n) := by
  refine repAt_of_get _ _ fun j p hp => ?_
  rw [List.getElem?_take] at hp
  split at hp
  · exact repAt_get _ _ h _ p hp
  · cases hp
end
end Go.Vm
