/-
  Abstract states over the model's worlds, and that a step of them is a step of the program: part VmAA of a framework. Conditions: each theorem's own premises. By an AI agent.
-/
import Derived.Orders
import Derived.Tactics
import Derived.Laws.AppendOwn
import Derived.Laws.Sem
import Derived.Below
import Derived.Laws.StructEq
import Derived.Laws.BitsLemmas
import Derived.Laws.Rows
section
namespace Go.Vm
open Go Go.RowKit
set_option linter.unusedSimpArgs false

abbrev Id := Nat × Nat

/-- A pure cell. -/
inductive PC where
  | c (v : Value)
  | ifc
  | any
  | emp
  | sl (t : Bool) (n : Nat) (xs : List PC)
  | at (t : Bool) (ys : List PC)
  | loc (i : Id) (off : Nat)
  | vw (i : Id) (off n : Nat)
  | cut (i : Id) (n : Nat)
  | rmp (t : Bool) (ks : List Value) (ps : List PC)
  | own (i : Id)
  | fn (f : FuncId) (caps : List PC)
  | mth (f : FuncId) (caps : List PC)

/-- What a slot holds. -/
inductive PV where
  | one (p : PC)
  | agg (ps : List PC)
  | tup (vs : List PV)
  | may (b : Bool) (p : PV)
  | full (p : PC)

/-- A block of the call's own. -/
inductive Blk where
  | box (ty : TypeId) (cells : List PC)
  | arr (ty : TypeId) (size n : Nat) (cells : List PC)
  | mp (ty : TypeId) (es : List (Value × PC))

def Blk.cells : Blk → List PC
  | .box _ cs => cs
  | .arr _ _ _ cs => cs
  | .mp _ _ => []
/-- All that stands in a block. -/
def Blk.kids : Blk → List PC
  | .box _ cs => cs
  | .arr _ _ _ cs => cs
  | .mp _ es => es.map (·.2)

def blkOf : Value → Option Nat
  | .pointer (some a) => some a.block
  | .slice (some a) _ _ => some a.block
  | .map (some g) => some g
  | _ => none

def isSl : Value → Bool
  | .slice _ _ _ => true
  | .map (some _) => true
  | .func (.yield _) _ _ => true
  | _ => false

mutual
/-- The value x stands for the pure cell in the world w. -/
def rep (φ : Id → Option Value) (w : World) (F : Bool → Nat → Prop) : PC → Value → Prop
  | .c v, x => x = v ∧ v.oneCell' = true
  | .ifc, x => ∃ t v, x = .iface t v
  | .any, x => x.oneCell' = true
  | .emp, x => ∃ A, x = .slice A 0 0
  | .sl t n xs, x => ∃ A cap, x = .slice A n cap ∧ n ≤ cap ∧ ((n = 0 ∧ xs = []) ∨ ∃ ad, A = some ad ∧ F t ad.block ∧ repAt φ w F ad xs)
  | .at t ys, x => ∃ ad, x = .pointer (some ad) ∧ F t ad.block ∧ repAt φ w F ad ys
  | .loc i off, x => ∃ u g, φ i = some u ∧ blkOf u = some g ∧ x = .pointer (some ⟨g, off, none⟩)
  | .vw i off n, x => ∃ u A cap, φ i = some u ∧ x = .slice A n cap ∧ n ≤ cap ∧ (n = 0 ∨ ∃ g, blkOf u = some g ∧ A = some ⟨g, off, none⟩)
  | .cut i n, x => ∃ A N cap, φ i = some (.slice A N cap) ∧ n ≤ N ∧ x = .slice A n cap
  | .rmp t ks ps, x => ∃ g ents clock, x = .map (some g) ∧ F t g ∧ w.heap[g]? = some (.map ents clock) ∧ ents.toList.map (·.key) = ks ∧ reps φ w F ps (ents.toList.map (·.val))
  | .own i, x => φ i = some x ∧ isSl x = true
  | .fn f caps, x => ∃ vs, x = .func (.func f) #[] vs ∧ reps φ w F caps vs.toList
  | .mth f caps, x => ∃ vs, x = .func (.func f) vs #[] ∧ reps φ w F caps vs.toList
def repAt (φ : Id → Option Value) (w : World) (F : Bool → Nat → Prop) (ad : Addr) : List PC → Prop
  | [] => True
  | p :: ps => (∃ v, w.cell? ad = some v ∧ rep φ w F p v) ∧ repAt φ w F (ad.add 1) ps
def reps (φ : Id → Option Value) (w : World) (F : Bool → Nat → Prop) : List PC → List Value → Prop
  | [], vs => vs = []
  | p :: ps, vs => ∃ v vs', vs = v :: vs' ∧ rep φ w F p v ∧ reps φ w F ps vs'
end

mutual
def repV (φ : Id → Option Value) (w : World) (F : Bool → Nat → Prop) : PV → Value → Prop
  | .one p, x => rep φ w F p x
  | .agg ps, x => ∃ vs, x = .agg vs ∧ reps φ w F ps vs.toList
  | .tup vs, x => ∃ xs, x = .tuple xs ∧ repVs φ w F vs xs.toList
  | .may b p, x => (b = true → repV φ w F p x) ∧ (b = false → x = undef)
  | .full p, x => rep φ w F p x ∧ ∃ A n, x = .slice A n n
def repVs (φ : Id → Option Value) (w : World) (F : Bool → Nat → Prop) : List PV → List Value → Prop
  | [], vs => vs = []
  | p :: ps, vs => ∃ v vs', vs = v :: vs' ∧ repV φ w F p v ∧ repVs φ w F ps vs'
end

theorem add_add (a : Addr) (i j : Nat) : (a.add i).add j = a.add (i + j) := by
  unfold Addr.add
  by_cases hi : i = 0 <;> by_cases hj : j = 0 <;> simp_all [Nat.add_assoc]

theorem add_block (a : Addr) (i : Nat) : (a.add i).block = a.block := by unfold Addr.add; split <;> rfl

section
variable {φ φ' : Id → Option Value} {w w' : World} {F F' : Bool → Nat → Prop}

mutual
theorem rep_mono (hφ : ∀ i u, φ i = some u → φ' i = some u) (hw : ∀ t g, F t g → w'.heap[g]? = w.heap[g]?) (hF : ∀ t g, F t g → F' t g) :
    ∀ (p : PC) (x : Value), rep φ w F p x → rep φ' w' F' p x
  | .c v, x, h => by simp only [rep] at h ⊢; exact h
  | .ifc, x, h => by simp only [rep] at h ⊢; exact h
  | .any, x, h => by simp only [rep] at h ⊢; exact h
  | .emp, x, h => by simp only [rep] at h ⊢; exact h
  | .sl t n xs, x, h => by
    simp only [rep] at h ⊢
    obtain ⟨A, cap, hx, hn, h⟩ := h
    refine ⟨A, cap, hx, hn, ?_⟩
    rcases h with h | ⟨ad, ha, hf, h⟩
    · exact .inl h
    · exact .inr ⟨ad, ha, hF _ _ hf, repAt_mono hφ hw hF ad (hw _ _ hf) xs h⟩
  | .at t ys, x, h => by
    simp only [rep] at h ⊢
    obtain ⟨ad, hx, hf, h⟩ := h
    exact ⟨ad, hx, hF _ _ hf, repAt_mono hφ hw hF ad (hw _ _ hf) ys h⟩
  | .loc i off, x, h => by
    simp only [rep] at h ⊢
    obtain ⟨u, g, hu, hg, hx⟩ := h
    exact ⟨u, g, hφ _ _ hu, hg, hx⟩
  | .vw i off n, x, h => by
    simp only [rep] at h ⊢
    obtain ⟨u, A, cap, hu, hx⟩ := h
    exact ⟨u, A, cap, hφ _ _ hu, hx⟩
  | .cut i n, x, h => by
    simp only [rep] at h ⊢
    obtain ⟨A, N, cap, hu, hx⟩ := h
    exact ⟨A, N, cap, hφ _ _ hu, hx⟩
  | .rmp t ks ps, x, h => by
    simp only [rep] at h ⊢
    obtain ⟨g, ents, clock, hx, hf, hh, hk, hr⟩ := h
    exact ⟨g, ents, clock, hx, hF _ _ hf, (hw _ _ hf).trans hh, hk, reps_mono hφ hw hF ps _ hr⟩
  | .own i, x, h => by
    simp only [rep] at h ⊢
    exact ⟨hφ _ _ h.1, h.2⟩
  | .fn f caps, x, h => by
    simp only [rep] at h ⊢
    obtain ⟨vs, hx, h⟩ := h
    exact ⟨vs, hx, reps_mono hφ hw hF caps _ h⟩
  | .mth f caps, x, h => by
    simp only [rep] at h ⊢
    obtain ⟨vs, hx, h⟩ := h
    exact ⟨vs, hx, reps_mono hφ hw hF caps _ h⟩
theorem repAt_mono (hφ : ∀ i u, φ i = some u → φ' i = some u) (hw : ∀ t g, F t g → w'.heap[g]? = w.heap[g]?) (hF : ∀ t g, F t g → F' t g)
    (ad : Addr) (hb : w'.heap[ad.block]? = w.heap[ad.block]?) : ∀ (ps : List PC), repAt φ w F ad ps → repAt φ' w' F' ad ps
  | [], _ => by simp [repAt]
  | p :: ps, h => by
    simp only [repAt] at h ⊢
    obtain ⟨⟨v, hv, hr⟩, h⟩ := h
    exact ⟨⟨v, (World.cell?_of_block hb).trans hv, rep_mono hφ hw hF p v hr⟩, repAt_mono hφ hw hF (ad.add 1) (by rw [add_block]; exact hb) ps h⟩
theorem reps_mono (hφ : ∀ i u, φ i = some u → φ' i = some u) (hw : ∀ t g, F t g → w'.heap[g]? = w.heap[g]?) (hF : ∀ t g, F t g → F' t g) :
    ∀ (ps : List PC) (vs : List Value), reps φ w F ps vs → reps φ' w' F' ps vs
  | [], vs, h => by simp only [reps] at h ⊢; exact h
  | p :: ps, vs, h => by
    simp only [reps] at h ⊢
    obtain ⟨v, vs', he, hr, h⟩ := h
    exact ⟨v, vs', he, rep_mono hφ hw hF p v hr, reps_mono hφ hw hF ps vs' h⟩
end

mutual
theorem repV_mono (hφ : ∀ i u, φ i = some u → φ' i = some u) (hw : ∀ t g, F t g → w'.heap[g]? = w.heap[g]?) (hF : ∀ t g, F t g → F' t g) :
    ∀ (p : PV) (x : Value), repV φ w F p x → repV φ' w' F' p x
  | .one p, x, h => by simp only [repV] at h ⊢; exact rep_mono hφ hw hF p x h
  | .agg ps, x, h => by
    simp only [repV] at h ⊢
    obtain ⟨vs, hx, h⟩ := h
    exact ⟨vs, hx, reps_mono hφ hw hF ps _ h⟩
  | .tup vs, x, h => by
    simp only [repV] at h ⊢
    obtain ⟨xs, hx, h⟩ := h
    exact ⟨xs, hx, repVs_mono hφ hw hF vs _ h⟩
  | .may b p, x, h => by
    simp only [repV] at h ⊢
    exact ⟨fun e => repV_mono hφ hw hF p x (h.1 e), h.2⟩
  | .full p, x, h => by
    simp only [repV] at h ⊢
    exact ⟨rep_mono hφ hw hF p x h.1, h.2⟩
theorem repVs_mono (hφ : ∀ i u, φ i = some u → φ' i = some u) (hw : ∀ t g, F t g → w'.heap[g]? = w.heap[g]?) (hF : ∀ t g, F t g → F' t g) :
    ∀ (ps : List PV) (xs : List Value), repVs φ w F ps xs → repVs φ' w' F' ps xs
  | [], xs, h => by simp only [repVs] at h ⊢; exact h
  | p :: ps, xs, h => by
    simp only [repVs] at h ⊢
    obtain ⟨v, vs', he, hr, h⟩ := h
    exact ⟨v, vs', he, repV_mono hφ hw hF p v hr, repVs_mono hφ hw hF ps vs' h⟩
end

theorem rep_one : ∀ (p : PC) (x : Value), rep φ w F p x → x.oneCell' = true
  | .c v, x, h => by simp only [rep] at h; rw [h.1]; exact h.2
  | .ifc, x, h => by simp only [rep] at h; obtain ⟨t, v, rfl⟩ := h; rfl
  | .any, x, h => by simpa only [rep] using h
  | .emp, x, h => by simp only [rep] at h; obtain ⟨A, rfl⟩ := h; rfl
  | .sl t n xs, x, h => by simp only [rep] at h; obtain ⟨A, cap, rfl, _⟩ := h; rfl
  | .at t ys, x, h => by simp only [rep] at h; obtain ⟨A, rfl, _⟩ := h; rfl
  | .loc i off, x, h => by simp only [rep] at h; obtain ⟨u, g, _, _, rfl⟩ := h; rfl
  | .vw i off n, x, h => by simp only [rep] at h; obtain ⟨u, A, cap, _, rfl, _⟩ := h; rfl
  | .cut i n, x, h => by simp only [rep] at h; obtain ⟨A, N, cap, _, _, rfl⟩ := h; rfl
  | .rmp t ks ps, x, h => by simp only [rep] at h; obtain ⟨g, ents, clock, rfl, _⟩ := h; rfl
  | .own i, x, h => by
    simp only [rep] at h
    cases x <;> simp_all [isSl, Value.oneCell']
  | .fn f caps, x, h => by simp only [rep] at h; obtain ⟨vs, rfl, _⟩ := h; rfl
  | .mth f caps, x, h => by simp only [rep] at h; obtain ⟨vs, rfl, _⟩ := h; rfl

theorem reps_length : ∀ (ps : List PC) (vs : List Value), reps φ w F ps vs → vs.length = ps.length
  | [], vs, h => by simp only [reps] at h; rw [h]; rfl
  | p :: ps, vs, h => by
    simp only [reps] at h
    obtain ⟨v, vs', rfl, _, h⟩ := h
    simp [reps_length ps vs' h]

theorem reps_one : ∀ (ps : List PC) (vs : List Value), reps φ w F ps vs → ∀ v ∈ vs, v.oneCell' = true
  | [], vs, h => by simp only [reps] at h; rw [h]; simp
  | p :: ps, vs, h => by
    simp only [reps] at h
    obtain ⟨v, vs', rfl, hr, h⟩ := h
    intro u hu
    rcases List.mem_cons.1 hu with rfl | hu
    · exact rep_one p _ hr
    · exact reps_one ps vs' h u hu

theorem reps_get : ∀ (ps : List PC) (vs : List Value), reps φ w F ps vs → ∀ (j : Nat) (p : PC), ps[j]? = some p → ∃ v, vs[j]? = some v ∧ rep φ w F p v
  | [], vs, _, j, p, hp => by simp at hp
  | q :: ps, vs, h, j, p, hp => by
    simp only [reps] at h
    obtain ⟨v, vs', rfl, hr, h⟩ := h
    cases j with
    | zero => simp at hp; subst hp; exact ⟨v, rfl, hr⟩
    | succ j => simpa using reps_get ps vs' h j p (by simpa using hp)

theorem reps_of_get : ∀ (ps : List PC) (vs : List Value), vs.length = ps.length → (∀ (j : Nat) (p : PC) (v : Value), ps[j]? = some p → vs[j]? = some v → rep φ w F p v) → reps φ w F ps vs
  | [], vs, hl, _ => by simp only [reps]; simpa using hl
  | p :: ps, vs, hl, h => by
    cases vs with
    | nil => simp at hl
    | cons v vs =>
      simp only [reps]
      exact ⟨v, vs, rfl, h 0 p v rfl rfl, reps_of_get ps vs (by simpa using hl) fun j q u hq hu => h (j + 1) q u (by simpa using hq) (by simpa using hu)⟩

theorem reps_append {ps qs : List PC} {vs us : List Value} (h : reps φ w F ps vs) (h' : reps φ w F qs us) : reps φ w F (ps ++ qs) (vs ++ us) := by
  refine reps_of_get _ _ (by simp [reps_length _ _ h, reps_length _ _ h']) fun j p v hp hv => ?_
  have hl := reps_length _ _ h
  rw [List.getElem?_append] at hp hv
  split at hp
  · rename_i hj
    rw [if_pos (by omega)] at hv
    obtain ⟨u, hu, hr⟩ := reps_get _ _ h j p hp
    rw [hv] at hu; cases hu; exact hr
  · rename_i hj
    rw [if_neg (by omega)] at hv
    obtain ⟨u, hu, hr⟩ := reps_get _ _ h' _ p hp
    rw [hl] at hv
    rw [hv] at hu; cases hu; exact hr

theorem reps_drop {ps : List PC} {vs : List Value} (h : reps φ w F ps vs) (n : Nat) : reps φ w F (ps.drop n) (vs.drop n) := by
  refine reps_of_get _ _ (by simp [reps_length _ _ h]) fun j p v hp hv => ?_
  rw [List.getElem?_drop] at hp hv
  obtain ⟨u, hu, hr⟩ := reps_get _ _ h _ p hp
  rw [hv] at hu; cases hu; exact hr

theorem reps_take {ps : List PC} {vs : List Value} (h : reps φ w F ps vs) (n : Nat) : reps φ w F (ps.take n) (vs.take n) := by
  refine reps_of_get _ _ (by simp [reps_length _ _ h]) fun j p v hp hv => ?_
  rw [List.getElem?_take] at hp hv
  split at hp
  · rename_i hj
    rw [if_pos hj] at hv
    obtain ⟨u, hu, hr⟩ := reps_get _ _ h _ p hp
    rw [hv] at hu; cases hu; exact hr
  · cases hp

theorem repAt_get : ∀ (ps : List PC) (ad : Addr), repAt φ w F ad ps → ∀ (j : Nat) (p : PC), ps[j]? = some p → ∃ v, w.cell? (ad.add j) = some v ∧ rep φ w F p v
  | [], ad, _, j, p, hp => by simp at hp
  | q :: ps, ad, h, j, p, hp => by
    simp only [repAt] at h
    obtain ⟨⟨v, hv, hr⟩, h⟩ := h
    cases j with
    | zero => simp at hp; subst hp; exact ⟨v, hv, hr⟩
    | succ j =>
      obtain ⟨u, hu, hr'⟩ := repAt_get ps (ad.add 1) h j p (by simpa using hp)
      rw [add_add, Nat.add_comm] at hu
      exact ⟨u, hu, hr'⟩

theorem repAt_of_get : ∀ (ps : List PC) (ad : Addr), (∀ (j : Nat) (p : PC), ps[j]? = some p → ∃ v, w.cell? (ad.add j) = some v ∧ rep φ w F p v) → repAt φ w F ad ps
  | [], ad, _ => by simp [repAt]
  | q :: ps, ad, h => by
    simp only [repAt]
    refine ⟨?_, repAt_of_get ps (ad.add 1) fun j p hp => ?_⟩
    · exact h 0 q rfl
    · obtain ⟨v, hv, hr⟩ := h (j + 1) p (by simpa using hp)
      rw [add_add, Nat.add_comm 1 j]
      exact ⟨v, hv, hr⟩

theorem repAt_drop {ps : List PC} {ad : Addr} (h : repAt φ w F ad ps) (n : Nat) : repAt φ w F (ad.add n) (ps.drop n) := by
  refine repAt_of_get _ _ fun j p hp => ?_
  rw [List.getElem?_drop] at hp
  rw [add_add]
  exact repAt_get _ _ h _ p hp

theorem repAt_take {ps : List PC} {ad : Addr} (h : repAt φ w F ad ps) (n : Nat) : repAt φ w F ad (ps.take n) := by
  refine repAt_of_get _ _ fun j p hp => ?_
  rw [List.getElem?_take] at hp
  split at hp
  · exact repAt_get _ _ h _ p hp
  · cases hp
end
end Go.Vm
end

section
namespace Go.Vm
open Go Go.RowKit
set_option linter.unusedSimpArgs false

structure St where
  fr : Nat → Option PV
  H : Id → Option Blk
  us : Nat → Bool
  nx : Nat
  gh : Nat → Option PV

def upd {α β : Type} [DecidableEq α] (f : α → β) (i : α) (b : β) : α → β := fun j => if j = i then b else f j

theorem upd_self {α β : Type} [DecidableEq α] (f : α → β) (i : α) (b : β) : upd f i b i = b := by simp [upd]
theorem upd_ne {α β : Type} [DecidableEq α] (f : α → β) {i j : α} (b : β) (h : j ≠ i) : upd f i b j = f j := by simp [upd, h]

/-- What is fixed while a body runs. -/
structure Core where
  P : Program
  nt : Nat
  gw : World
  gb : Nat
  cut : Bool

/-- The heap of W' is that of W, but for what may have turned. -/
structure Turned (S : Nat → Prop) (W W' : World) : Prop where
  os : W'.os = W.os
  tape : W'.tape = W.tape
  output : W'.output = W.output
  size : W.heap.size ≤ W'.heap.size
  heap : ∀ g, g < W.heap.size → ¬ S g → W'.heap[g]? = W.heap[g]?

theorem Turned.refl (S : Nat → Prop) (W : World) : Turned S W W := ⟨rfl, rfl, rfl, Nat.le_refl _, fun _ _ _ => rfl⟩
theorem Turned.trans {S S' S'' : Nat → Prop} {W W' W'' : World} (h : Turned S W W') (h' : Turned S' W' W'') (h1 : ∀ g, g < W.heap.size → S g → S'' g) (h2 : ∀ g, g < W.heap.size → S' g → S'' g) : Turned S'' W W'' :=
  ⟨h'.os.trans h.os, h'.tape.trans h.tape, h'.output.trans h.output, Nat.le_trans h.size h'.size, fun g hg hs =>
    (h'.heap g (Nat.lt_of_lt_of_le hg h.size) fun e => hs (h2 g hg e)).trans (h.heap g hg fun e => hs (h1 g hg e))⟩

/-- What an iterator's frame owes its loop: w, the world at its call; hd, the blocks that it was handed; F, those that it only reads; l, the loop's record; J, what holds at a yield (of this number; none: the loop has ended) of the loop's blocks and those that were yielded. -/
structure Proto where
  J : Option Nat → (Nat → Prop) → (Nat → Prop) → World → Prop
  l : Nat
  w : World
  hd : Nat → Prop
  F : Nat → Prop
  turn : ∀ o Y Z W W', J o Y Z W → Turned (fun g => (hd g ∨ w.heap.size ≤ g) ∧ ¬ Y g ∧ ¬ Z g) W W' → J o Y Z W'

def kval : Option Nat → Value
  | some k => .int .i64 k
  | none => .int .i64 (-1)
/-- The name of yield. -/
def yid : Id := (0, 1000000)

structure PInv (T : Proto) (ex : Array Value) (Eb Zr K0 Fi : Nat → Prop) (w0 : World) : Prop where
  low : ∀ g, g < T.w.heap.size → ¬ T.hd g → K0 g
  zn : ∀ g, Zr g → T.hd g ∨ T.w.heap.size ≤ g
  fz : ∀ g, Fi g → T.F g ∨ Zr g
  size : T.w.heap.size ≤ w0.heap.size
  os : w0.os = T.w.os
  tape : w0.tape = T.w.tape
  output : w0.output = T.w.output
  lE : Eb T.l
  at_ : ∃ o Y Z, ex = #[kval o] ∧ (∀ g, Y g → Eb g) ∧ (∀ g, Z g → Zr g) ∧ T.J o Y Z w0

structure Ctx extends Core where
  w0 : World
  K0 : Nat → Prop
  Fi : Nat → Prop
  φi : Id → Option Value
  ro : Option Nat
  df : List Deferred
  ex : Array Value
  fik : ∀ g, Fi g → K0 g
  gbk : ∀ g, g < gb → K0 g
  Zr : Nat → Prop
  Eb : Nat → Prop
  pr : Option Proto
  zrk : ∀ g, Zr g → K0 g
  ebk : ∀ g, Eb g → K0 g
  zeb : ∀ g, Zr g → ¬ Eb g
  fie : ∀ g, Fi g → ¬ Eb g
  geb : ∀ g, g < gb → ¬ Eb g
  jok : ∀ T, pr = some T → PInv T ex Eb Zr K0 Fi w0

instance : CoeOut Ctx Core := ⟨Ctx.toCore⟩

def Fs (F0 F1 : Nat → Prop) : Bool → Nat → Prop
  | true => F1
  | false => F0

def holds (φ : Id → Option Value) (w : World) (F : Bool → Nat → Prop) (i : Id) : Blk → Prop
  | .box ty cells => ∃ g vs, φ i = some (.pointer (some ⟨g, 0, none⟩)) ∧ w.heap[g]? = some (.cells vs.toArray ty (0, 0)) ∧ reps φ w F cells vs
  | .arr ty size n cells => ∃ v vs, φ i = some v ∧ w.ownsRow 0 ty size v n vs ∧ reps φ w F cells vs
  | .mp _ es => ∃ g ents clock, φ i = some (.map (some g)) ∧ w.heap[g]? = some (.map ents clock) ∧ ents.toList.map (·.key) = es.map (·.1) ∧ reps φ w F (es.map (·.2)) (ents.toList.map (·.val))

structure RelX (C : Ctx) (φ : Id → Option Value) (F0 F1 : Nat → Prop) (σ : St) (a : Act) (w : World) : Prop where
  size : a.tmps.size = C.nt
  defs : a.defers = C.df
  frame : ∀ t p, σ.fr t = some p → ∃ x, a.tmps[t]? = some x ∧ repV φ w (Fs F0 F1) p x
  heap : ∀ i b, σ.H i = some b → holds φ w (Fs F0 F1) i b
  inj : ∀ i j u v g, σ.H i ≠ none → σ.H j ≠ none → φ i = some u → φ j = some v → blkOf u = some g → blkOf v = some g → i = j
  apart : ∀ i u g, σ.H i ≠ none → φ i = some u → blkOf u = some g → ¬ F0 g ∧ ¬ C.K0 g ∧ C.gb ≤ g
  sub : ∀ g, F1 g → F0 g
  ini : ∀ g, F0 g → C.Fi g ∨ F1 g
  new1 : ∀ g, F1 g → C.K0 g → C.Zr g
  lt0 : ∀ g, F0 g → g < w.heap.size
  os : w.os = C.w0.os
  tape : w.tape = C.w0.tape
  output : w.output = C.w0.output
  big : C.w0.heap.size ≤ w.heap.size
  kept : ∀ g, C.K0 g → w.heap[g]? = C.w0.heap[g]?
  k0lt : ∀ g, C.K0 g → g < C.w0.heap.size
  gbig : C.gb ≤ C.w0.heap.size
  glob : ∀ g, g < C.gb → w.heap[g]? = C.gw.heap[g]?
  keep : ∀ j u, φ (0, j) = some u → C.φi (0, j) = some u
  nx1 : 1 ≤ σ.nx
  ids : ∀ i, φ i ≠ none → i.1 < σ.nx ∨ ∃ d, σ.us d = true ∧ i.1 = σ.nx + d
  ghost : ∀ t p, σ.gh t = some p → ∃ x, C.ex[t]? = some x ∧ repV φ w (Fs F0 F1) p x

def Rel (C : Ctx) (σ : St) (a : Act) (w : World) : Prop := ∃ φ F0 F1, RelX C φ F0 F1 σ a w

section
variable {C : Ctx} {φ φ' : Id → Option Value} {F0 F1 : Nat → Prop} {σ : St} {a : Act} {w w' : World}

theorem Fs_f0 (h : ∀ g, F1 g → F0 g) (t : Bool) (g : Nat) (hg : Fs F0 F1 t g) : F0 g := by
  cases t
  · exact hg
  · exact h g hg

theorem blkOf_own {v : Value} {n size : Nat} {e : TypeId} {xs : List Value} (h : w.ownsRow 0 e size v n xs) {g : Nat} (hg : blkOf v = some g) : g < w.heap.size := by
  obtain ⟨_, ⟨rfl, _⟩ | ⟨g', cap, cur, rfl, _, hc, _⟩⟩ := h
  · simp [blkOf] at hg
  · simp [blkOf] at hg
    subst hg
    exact (Array.getElem?_eq_some_iff.1 hc).1

theorem holds_lt {F : Bool → Nat → Prop} {i : Id} {b : Blk} (h : holds φ w F i b) {u : Value} {g : Nat} (hu : φ i = some u) (hg : blkOf u = some g) : g < w.heap.size := by
  cases b with
  | box ty cells =>
    obtain ⟨g', vs, hp, hh, _⟩ := h
    rw [hu] at hp; cases hp
    simp [blkOf] at hg
    subst hg
    exact (Array.getElem?_eq_some_iff.1 hh).1
  | arr ty size n cells =>
    obtain ⟨v, vs, hp, hh, _⟩ := h
    rw [hu] at hp; cases hp
    exact blkOf_own hh hg
  | mp ty es =>
    obtain ⟨g', ents, clock, hp, hh, _⟩ := h
    rw [hu] at hp; cases hp
    simp [blkOf] at hg
    subst hg
    exact (Array.getElem?_eq_some_iff.1 hh).1

theorem ownsRow_block {e : TypeId} {size n : Nat} {v : Value} {xs : List Value} (h : w.ownsRow 0 e size v n xs) (hw : ∀ g, blkOf v = some g → w'.heap[g]? = w.heap[g]?) : w'.ownsRow 0 e size v n xs := by
  obtain ⟨hl, h⟩ := h
  refine ⟨hl, ?_⟩
  rcases h with h | ⟨g, cap, cur, rfl, h0, hc, h1⟩
  · exact .inl h
  · exact .inr ⟨g, cap, cur, rfl, h0, (hw g rfl).trans hc, h1⟩

/-- A block of the call's own holds what it held, in a world that has this block as it was, and all that is only read. -/
theorem holds_mono {F F' : Bool → Nat → Prop} {i : Id} {b : Blk} (h : holds φ w F i b) (hφ : ∀ i u, φ i = some u → φ' i = some u) (hF : ∀ t g, F t g → F' t g)
    (hw : ∀ t g, F t g → w'.heap[g]? = w.heap[g]?) (hb : ∀ u g, φ i = some u → blkOf u = some g → w'.heap[g]? = w.heap[g]?) : holds φ' w' F' i b := by
  cases b with
  | box ty cells =>
    obtain ⟨g, vs, hp, hh, hr⟩ := h
    exact ⟨g, vs, hφ _ _ hp, (hb _ g hp rfl).trans hh, reps_mono hφ hw hF _ _ hr⟩
  | arr ty size n cells =>
    obtain ⟨v, vs, hp, hh, hr⟩ := h
    exact ⟨v, vs, hφ _ _ hp, ownsRow_block hh (fun g hg => hb v g hp hg), reps_mono hφ hw hF _ _ hr⟩
  | mp ty es =>
    obtain ⟨g, ents, clock, hp, hh, hk, hr⟩ := h
    exact ⟨g, ents, clock, hφ _ _ hp, (hb _ g hp rfl).trans hh, hk, reps_mono hφ hw hF _ _ hr⟩

/-- New blocks, all else as it was; some of the new ones are only read from now on. -/
theorem RelX.grow (h : RelX C φ F0 F1 σ a w) (hb : Below w.heap.size w w') (X : Nat → Prop) (hX : ∀ g, X g → w.heap.size ≤ g ∧ g < w'.heap.size) :
    RelX C φ (fun g => F0 g ∨ X g) (fun g => F1 g ∨ X g) σ a w' := by
  have hF : ∀ t g, Fs F0 F1 t g → Fs (fun g => F0 g ∨ X g) (fun g => F1 g ∨ X g) t g := by
    intro t g hg; cases t <;> exact .inl hg
  have hold : ∀ g, g < w.heap.size → w'.heap[g]? = w.heap[g]? := hb.block
  have hw : ∀ t g, Fs F0 F1 t g → w'.heap[g]? = w.heap[g]? := fun t g hg => hold g (h.lt0 g (Fs_f0 h.sub t g hg))
  refine ⟨h.size, h.defs, fun t p hp => ?_, fun i b hi => ?_, h.inj, fun i u g hi hu hg => ?_, ?_, ?_, ?_, ?_, hb.os.trans h.os, hb.tape.trans h.tape, hb.output.trans h.output, Nat.le_trans h.big hb.size, ?_, h.k0lt, h.gbig, ?_, h.keep, h.nx1, h.ids, fun t p hp => (h.ghost t p hp).imp fun x hx => ⟨hx.1, repV_mono (fun _ _ e => e) hw hF p x hx.2⟩⟩
  · obtain ⟨x, hx, hr⟩ := h.frame t p hp
    exact ⟨x, hx, repV_mono (fun _ _ e => e) hw hF p x hr⟩
  · have hh := h.heap i b hi
    exact holds_mono hh (fun _ _ e => e) hF hw fun u g hu hg => hold g (holds_lt hh hu hg)
  · obtain ⟨h0, h1, h2⟩ := h.apart i u g hi hu hg
    refine ⟨?_, h1, h2⟩
    rintro (h3 | h3)
    · exact h0 h3
    · obtain ⟨b, hb'⟩ := Option.ne_none_iff_exists'.1 hi
      have := holds_lt (h.heap i b hb') hu hg
      have := (hX g h3).1
      omega
  · rintro g (h0 | h0)
    · exact .inl (h.sub g h0)
    · exact .inr h0
  · rintro g (h0 | h0)
    · exact (h.ini g h0).imp id .inl
    · exact .inr (.inr h0)
  · rintro g (h0 | h0)
    · exact h.new1 g h0
    · intro hk
      have := h.k0lt g hk
      have := (hX g h0).1
      have := h.big
      omega
  · rintro g (h0 | h0)
    · exact Nat.lt_of_lt_of_le (h.lt0 g h0) hb.size
    · exact (hX g h0).2
  · intro g hg
    exact (hold g (Nat.lt_of_lt_of_le (h.k0lt g hg) h.big)).trans (h.kept g hg)
  · intro g hg
    exact (hold g (Nat.lt_of_lt_of_le hg (Nat.le_trans h.gbig h.big))).trans (h.glob g hg)

theorem RelX.below (h : RelX C φ F0 F1 σ a w) (hb : Below w.heap.size w w') : RelX C φ F0 F1 σ a w' := by
  have := h.grow hb (fun _ => False) (fun g hg => hg.elim)
  simpa using this

/-- A slot is written. -/
theorem RelX.put (h : RelX C φ F0 F1 σ a w) {d : Nat} {p : PV} {x : Value} (hd : d < C.nt) (hr : repV φ w (Fs F0 F1) p x) :
    RelX C φ F0 F1 { σ with fr := upd σ.fr d (some p) } (a.put (some d) x) w := by
  refine ⟨by simp [Act.put, h.size], h.defs, fun t q hq => ?_, h.heap, h.inj, h.apart, h.sub, h.ini, h.new1, h.lt0, h.os, h.tape, h.output, h.big, h.kept, h.k0lt, h.gbig, h.glob, h.keep, h.nx1, h.ids, h.ghost⟩
  simp only [Act.put]
  by_cases ht : t = d
  · subst ht
    simp only [upd, if_pos] at hq
    cases hq
    exact ⟨x, by rw [Array.getElem?_setIfInBounds_self_of_lt (by rw [h.size]; exact hd)], hr⟩
  · simp only [upd, if_neg ht] at hq
    obtain ⟨y, hy, hr'⟩ := h.frame t q hq
    exact ⟨y, by rw [Array.getElem?_setIfInBounds_ne (by omega)]; exact hy, hr'⟩

/-- A slot is forgotten. -/
theorem RelX.drop (h : RelX C φ F0 F1 σ a w) (d : Nat) (x : Value) : RelX C φ F0 F1 { σ with fr := upd σ.fr d none } (a.put (some d) x) w := by
  refine ⟨by simp [Act.put, h.size], h.defs, fun t q hq => ?_, h.heap, h.inj, h.apart, h.sub, h.ini, h.new1, h.lt0, h.os, h.tape, h.output, h.big, h.kept, h.k0lt, h.gbig, h.glob, h.keep, h.nx1, h.ids, h.ghost⟩
  simp only [Act.put]
  by_cases ht : t = d
  · subst ht
    simp [upd] at hq
  · simp only [upd, if_neg ht] at hq
    obtain ⟨y, hy, hr'⟩ := h.frame t q hq
    exact ⟨y, by rw [Array.getElem?_setIfInBounds_ne (by omega)]; exact hy, hr'⟩

/-- A new block takes its name. -/
theorem RelX.bind (h : RelX C φ F0 F1 σ a w) {i : Id} {d : Nat} {v : Value} {b : Blk} (hi : i.1 = σ.nx + d) (hn : φ i = none)
    (hh : holds (upd φ i (some v)) w (Fs F0 F1) i b)
    (hv : ∀ g, blkOf v = some g → ¬ F0 g ∧ ¬ C.K0 g ∧ C.gb ≤ g ∧ ∀ j u, σ.H j ≠ none → φ j = some u → blkOf u ≠ some g) :
    RelX C (upd φ i (some v)) F0 F1 { σ with H := upd σ.H i (some b), us := upd σ.us d true } a w := by
  have hφ : ∀ j u, φ j = some u → upd φ i (some v) j = some u := by
    intro j u hu
    by_cases hj : j = i
    · subst hj; rw [hn] at hu; cases hu
    · rw [upd_ne _ _ hj]; exact hu
  have hid : ∀ t g, Fs F0 F1 t g → w.heap[g]? = w.heap[g]? := fun _ _ _ => rfl
  refine ⟨h.size, h.defs, fun t p hp => ?_, fun j c hj => ?_, fun j k u v' g hj hk hu hv' hg hg' => ?_, fun j u g hj hu hg => ?_, h.sub, h.ini, h.new1, h.lt0, h.os, h.tape, h.output, h.big, h.kept, h.k0lt, h.gbig, h.glob, fun j u hu => ?_, h.nx1, fun j hj => ?_, fun t p hp => (h.ghost t p hp).imp fun x hx => ⟨hx.1, repV_mono hφ hid (fun _ _ e => e) p x hx.2⟩⟩
  · obtain ⟨x, hx, hr⟩ := h.frame t p hp
    exact ⟨x, hx, repV_mono hφ hid (fun _ _ e => e) p x hr⟩
  · by_cases hji : j = i
    · subst hji
      simp only [upd_self] at hj
      cases hj
      exact hh
    · simp only [upd_ne _ _ hji] at hj
      exact holds_mono (h.heap j c hj) hφ (fun _ _ e => e) hid fun _ _ _ _ => rfl
  · by_cases hji : j = i <;> by_cases hki : k = i
    · rw [hji, hki]
    · subst hji
      simp only [upd_self] at hu; cases hu
      simp only [upd_ne _ _ hki] at hk hv'
      exact absurd hg' ((hv g hg).2.2.2 k v' hk hv')
    · subst hki
      simp only [upd_self] at hv'; cases hv'
      simp only [upd_ne _ _ hji] at hj hu
      exact absurd hg ((hv g hg').2.2.2 j u hj hu)
    · simp only [upd_ne _ _ hji] at hj hu
      simp only [upd_ne _ _ hki] at hk hv'
      exact h.inj j k u v' g hj hk hu hv' hg hg'
  · by_cases hji : j = i
    · subst hji
      simp only [upd_self] at hu; cases hu
      exact ⟨(hv g hg).1, (hv g hg).2.1, (hv g hg).2.2.1⟩
    · simp only [upd_ne _ _ hji] at hj hu
      exact h.apart j u g hj hu hg
  · refine h.keep j u ?_
    rwa [upd_ne] at hu
    rintro rfl
    have := h.nx1
    simp only at hi
    omega
  · by_cases hji : j = i
    · subst hji
      exact .inr ⟨d, by simp [upd], hi⟩
    · rw [upd_ne _ _ hji] at hj
      rcases h.ids j hj with h0 | ⟨e, he, h0⟩
      · exact .inl h0
      · refine .inr ⟨e, ?_, h0⟩
        by_cases hed : e = d
        · subst hed; simp [upd]
        · show upd σ.us d true e = true
          rw [upd_ne _ _ hed]; exact he

theorem RelX.fresh (h : RelX C φ F0 F1 σ a w) {d j : Nat} (hd : σ.us d = false) : φ (σ.nx + d, j) = none := by
  apply Classical.byContradiction
  intro hne
  rcases h.ids _ hne with h0 | ⟨e, he, h0⟩
  · simp at h0; omega
  · simp at h0
    subst h0
    rw [hd] at he; cases he

/-- Between two regions the names are told anew. -/
theorem RelX.next (h : RelX C φ F0 F1 σ a w) (hus : ∀ d, σ.us d = true → d < C.nt) : RelX C φ F0 F1 { σ with us := fun _ => false, nx := σ.nx + C.nt } a w := by
  refine ⟨h.size, h.defs, h.frame, h.heap, h.inj, h.apart, h.sub, h.ini, h.new1, h.lt0, h.os, h.tape, h.output, h.big, h.kept, h.k0lt, h.gbig, h.glob, h.keep, by have := h.nx1; simp only; omega, fun i hi => ?_, h.ghost⟩
  left
  rcases h.ids i hi with h0 | ⟨d, hd, h0⟩
  · simp; omega
  · have := hus d hd
    simp; omega

/-- Less is known. -/
structure St.le (σ τ : St) : Prop where
  fr : ∀ t p, τ.fr t = some p → σ.fr t = some p
  H : ∀ i b, τ.H i = some b → σ.H i = some b
  us : ∀ d, σ.us d = true → τ.us d = true
  nx : σ.nx = τ.nx
  gh : ∀ t p, τ.gh t = some p → σ.gh t = some p

theorem RelX.weaken {τ : St} (h : RelX C φ F0 F1 σ a w) (hl : St.le σ τ) : RelX C φ F0 F1 τ a w := by
  have hH : ∀ i, τ.H i ≠ none → σ.H i ≠ none := by
    intro i hi
    obtain ⟨b, hb⟩ := Option.ne_none_iff_exists'.1 hi
    rw [hl.H i b hb]; simp
  exact ⟨h.size, h.defs, fun t p hp => h.frame t p (hl.fr t p hp), fun i b hb => h.heap i b (hl.H i b hb), fun i j u v g hi hj => h.inj i j u v g (hH i hi) (hH j hj),
    fun i u g hi => h.apart i u g (hH i hi), h.sub, h.ini, h.new1, h.lt0, h.os, h.tape, h.output, h.big, h.kept, h.k0lt, h.gbig, h.glob, h.keep, hl.nx ▸ h.nx1, fun i hi => by
      rw [← hl.nx]
      exact (h.ids i hi).imp id fun ⟨d, hd, e⟩ => ⟨d, hl.us d hd, e⟩, fun t p hp => h.ghost t p (hl.gh t p hp)⟩
end
end Go.Vm
end

section
namespace Go.Vm
open Go Go.RowKit
set_option linter.unusedSimpArgs false

/-! ### What an operation gives -/

def szT (P : Program) (t : TypeId) : Option Nat := (P.info? t).map (·.size)
def zeroT (P : Program) (t : TypeId) : Option Value := (P.info? t).bind (·.zero)
def bytesT (P : Program) (t : TypeId) : Option Nat := (P.info? t).map (·.bytes)
def isAggT (P : Program) (t : TypeId) : Option Bool :=
  match P.underlying t with
  | some (.struct _) => some true
  | some (.array _ _) => some true
  | some _ => some false
  | none => none
def elemT (P : Program) (t : TypeId) : Option TypeId :=
  match P.underlying t with
  | some (.slice e) => some e
  | _ => none
def fieldT (P : Program) (t : TypeId) (f : Nat) : Option Field :=
  match P.underlying t with
  | some (.struct fs) => fs[f]?
  | _ => none

def cst (v : Value) : Option PV :=
  match v with
  | .agg cs => if cs.toList.all (fun u => u.oneCell') then some (.agg (cs.toList.map .c)) else none
  | .tuple _ => none
  | v => some (.one (.c v))

def ev (fr : Nat → Option PV) : Operand → Option PV
  | .tmp t => fr t
  | .const v => cst v
  | .func f => some (.one (.fn f []))
  | .global _ => none

def PV.cells : PV → Option (List PC)
  | .one p => some [p]
  | .agg ps => some ps
  | .tup _ => none
  | .may _ _ => none
  | .full p => some [p]

/-- A value of type t, out of the cells that begin there. -/
def takeT (P : Program) (t : TypeId) (ys : List PC) : Option PV :=
  match isAggT P t with
  | some true =>
    match szT P t with
    | some s => if s ≤ ys.length then some (.agg (ys.take s)) else none
    | none => none
  | some false =>
    match ys with
    | p :: _ => some (.one p)
    | [] => none
  | none => none

/-- The cells behind an address. -/
def behind (H : Id → Option Blk) : PV → Option (List PC)
  | .one (.loc i off) =>
    match H i with
    | some b => some (b.cells.drop off)
    | none => none
  | .one (.at _ ys) => some ys
  | _ => none

def shiftA (n : Nat) : PV → Option PV
  | .one (.loc i off) => some (.one (.loc i (off + n)))
  | .one (.at t ys) => some (.one (.at t (ys.drop n)))
  | _ => none

def asI : PV → Option (IntKind × Int)
  | .one (.c (.int k n)) => some (k, n)
  | _ => none
def asB : PV → Option Bool
  | .one (.c (.bool b)) => some b
  | _ => none
def asS : PV → Option ByteArray
  | .one (.c (.string s)) => some s
  | _ => none

def byteAt (s : ByteArray) (j : Nat) : UInt8 := s.data.toList.getD j 0

def vbinI (op : BinOp) (k : IntKind) (a b : Int) : Option Value :=
  match op with
  | .add => some (.int k (k.wrap (a + b)))
  | .sub => some (.int k (k.wrap (a - b)))
  | .mul => some (.int k (k.wrap (a * b)))
  | .quo => if b = 0 then none else some (.int k (k.wrap (a.tdiv b)))
  | .rem => if b = 0 then none else some (.int k (a.tmod b))
  | .and => some (.int k (bits .and k a b))
  | .or => some (.int k (bits .or k a b))
  | .xor => some (.int k (bits .xor k a b))
  | .andNot => some (.int k (bits .andNot k a b))
  | .eql => some (.bool (a == b))
  | .neq => some (.bool (a != b))
  | .lss => some (.bool (decide (a < b)))
  | .leq => some (.bool (decide (a ≤ b)))
  | .gtr => some (.bool (decide (b < a)))
  | .geq => some (.bool (decide (b ≤ a)))
  | .shl => if 0 ≤ b ∧ b ≤ k.bits then some (.int k (k.wrap (a * 2 ^ b.toNat))) else none
  | .shr => if 0 ≤ b ∧ b ≤ k.bits then some (.int k (a / 2 ^ b.toNat)) else none

def vbinS (op : BinOp) (a b : ByteArray) : Option Value :=
  match op with
  | .add => if a.size + b.size ≤ 9223372036854775807 then some (.string (a ++ b)) else none
  | .eql => some (.bool (a.toList == b.toList))
  | .neq => some (.bool (!(a.toList == b.toList)))
  | _ => none

def isBool (P : Program) (t : TypeId) : Bool :=
  match P.underlying t with
  | some .bool => true
  | _ => false

def vbin (P : Program) (op : BinOp) (t : TypeId) (x y : Value) : Option Value :=
  match x, y with
  | .int k a, .int k' b => if k = k' ∨ op = .shl ∨ op = .shr then vbinI op k a b else none
  | .string a, .string b => vbinS op a b
  | .bool a, .bool b =>
    match op with
    | .eql => if isBool P t then some (.bool (a == b)) else none
    | .neq => if isBool P t then some (.bool (!(a == b))) else none
    | _ => none
  | _, _ => none

def vun (op : UnOp) (x : Value) : Option Value :=
  match op, x with
  | .neg, .int k n => some (.int k (k.wrap (0 - n)))
  | .xor, .int k n => some (.int k (bits .xor k (if k.signed then -1 else k.max) n))
  | .not, .bool b => some (.bool !b)
  | _, _ => none

theorem run_vbinI {P : Program} {w : World} {op : BinOp} {t : TypeId} {k k' : IntKind} {a b : Int} {v : Value} (hk : k = k' ∨ op = .shl ∨ op = .shr) (h : vbinI op k a b = some v) :
    (binOp op t (.int k a) (.int k' b)).run P w = .ok v w := by
  by_cases h1 : op = .shl
  · subst h1
    simp only [vbinI] at h
    split at h
    · cases h; rw [binOp_shl, shift_shl _ _ _ _ (by omega) (by omega)]; rfl
    · cases h
  by_cases h2 : op = .shr
  · subst h2
    simp only [vbinI] at h
    split at h
    · cases h; rw [binOp_shr, shift_shr _ _ _ _ (by omega) (by omega)]; rfl
    · cases h
  obtain rfl : k = k' := by rcases hk with hk | hk | hk <;> first | exact hk | exact absurd hk h1 | exact absurd hk h2
  cases op <;> simp only [vbinI] at h <;> first
    | (cases h; simp [go_sem, Op.intArith]; done)
    | exact absurd rfl h1
    | exact absurd rfl h2
    | (split at h; · cases h
       · cases h; simp_all [go_sem, Op.intDiv])
    | (cases h; simp [binOp, Op.intCmp]; done)

theorem run_vbinS {P : Program} {w : World} {op : BinOp} {t : TypeId} {a b : ByteArray} {v : Value} (h : vbinS op a b = some v) :
    (binOp op t (.string a) (.string b)).run P w = .ok v w := by
  cases op <;> simp only [vbinS] at h <;> first
    | (cases h; done)
    | (cases h; simp [binOp, Op.stringOp]; done)
    | (split at h
       · cases h
         have e : ¬ ((a.size + b.size : Nat) : Int) > IntKind.i64.max := by
           have : IntKind.i64.max = 9223372036854775807 := rfl
           omega
         simp only [binOp, Op.stringOp, if_neg e]
         rfl
       · cases h)

theorem run_vbin {P : Program} {w : World} {op : BinOp} {t : TypeId} {x y : Value} {v : Value} (h : vbin P op t x y = some v) :
    (binOp op t x y).run P w = .ok v w := by
  unfold vbin at h
  split at h
  · split at h
    · exact run_vbinI ‹_› h
    · cases h
  · exact run_vbinS h
  · split at h
    all_goals first
      | cases h; done
      | (split at h
         · rename_i hb
           have hu : P.underlying t = some .bool := by
             unfold isBool at hb
             split at hb
             · assumption
             · cases hb
           cases h
           simp [binOp, Op.equal, Op.maxDepth, run_equalIn_bool' w 9999 t _ _ hu]
         · cases h)
  · cases h

theorem run_vun {P : Program} {w : World} {op : UnOp} {x v : Value} (h : vun op x = some v) : (Op.unary op x).run P w = .ok v w := by
  unfold vun at h
  split at h
  · cases h; simp [Op.unary, Op.intArith]
  · cases h; simp [Op.unary, intBits_xor]
  · cases h; simp [Op.unary]
  · cases h

theorem eqGuard_plain {P : Program} {w : World} {op : BinOp} {t : TypeId} {x y : Operand} {u v r : Value} (h : vbin P op t u v = some r) : (eqGuard op t x y u v).run P w = .ok () w := by
  unfold vbin at h
  split at h
  · simp [go_sem]
  · simp [go_sem]
  · simp [go_sem]
  · cases h
end Go.Vm
end

section
namespace Go.Vm
open Go Go.RowKit
set_option linter.unusedSimpArgs false

theorem run_typeInfo' {P : Program} {t : TypeId} {i : TypeInfo} (h : P.info? t = some i) (w : World) : (typeInfo t).run P w = .ok i w := by
  simp [typeInfo, h]
theorem run_sizeOf' {P : Program} {t : TypeId} {s : Nat} (h : szT P t = some s) (w : World) : (sizeOf t).run P w = .ok s w := by
  unfold szT at h
  obtain ⟨i, hi, rfl⟩ := Option.map_eq_some_iff.1 h
  simp [sizeOf, run_typeInfo' hi]
theorem run_zeroValue' {P : Program} {t : TypeId} {z : Value} (h : zeroT P t = some z) (w : World) : (zeroValue t).run P w = .ok z w := by
  unfold zeroT at h
  obtain ⟨i, hi, hz⟩ := Option.bind_eq_some_iff.1 h
  simp [zeroValue, run_typeInfo' hi, hz]
theorem run_isAgg' {P : Program} {t : TypeId} {b : Bool} (h : isAggT P t = some b) (w : World) : (isAgg t).run P w = .ok b w := by
  unfold isAggT at h
  cases hu : P.underlying t with
  | none => rw [hu] at h; cases h
  | some d =>
    rw [hu] at h
    simp only [isAgg, Sem.run_bind, run_underlying hu, Result.andThen_ok]
    cases d <;> simp_all

section
variable {C : Ctx} {φ φ' : Id → Option Value} {F : Bool → Nat → Prop} {F0 F1 : Nat → Prop} {σ : St} {a : Act} {w w' : World} {P : Program}

theorem repAt_vals : ∀ (ys : List PC) (ad : Addr), repAt φ w F ad ys → ∃ vs, reps φ w F ys vs ∧ ∀ j v, vs[j]? = some v → w.cell? (ad.add j) = some v
  | [], ad, _ => ⟨[], by simp [reps], by simp⟩
  | p :: ys, ad, h => by
    simp only [repAt] at h
    obtain ⟨⟨v, hv, hr⟩, h⟩ := h
    obtain ⟨vs, hvs, hc⟩ := repAt_vals ys (ad.add 1) h
    refine ⟨v :: vs, by simp only [reps]; exact ⟨v, vs, rfl, hr, hvs⟩, fun j u hu => ?_⟩
    cases j with
    | zero => simp at hu; subst hu; exact hv
    | succ j =>
      have := hc j u (by simpa using hu)
      rwa [add_add, Nat.add_comm] at this

theorem run_takeT {t : TypeId} {ad : Addr} {ys : List PC} {p : PV} (h : repAt φ w F ad ys) (hp : takeT P t ys = some p) :
    ∃ x, (loadVar t ad).run P w = .ok x w ∧ repV φ w F p x := by
  unfold takeT at hp
  split at hp
  · rename_i hagg
    split at hp
    · rename_i s hs
      split at hp
      · cases hp
        rename_i hle
        obtain ⟨vs, hr, hc⟩ := repAt_vals _ _ (repAt_take h s)
        have hl := reps_length _ _ hr
        have hl' : vs.length = s := by rw [hl, List.length_take]; omega
        refine ⟨.agg vs.toArray, ?_, by simp only [repV]; exact ⟨_, rfl, by simpa using hr⟩⟩
        have := run_loadCells_list (P := P) w ad vs hc
        rw [hl'] at this
        simp [loadVar, run_isAgg' hagg, run_sizeOf' hs, this]
      · cases hp
    · cases hp
  · rename_i hagg
    split at hp
    · cases hp
      simp only [repAt] at h
      obtain ⟨⟨v, hv, hr⟩, _⟩ := h
      exact ⟨v, by simp [loadVar, run_isAgg' hagg, hv], by simpa [repV] using hr⟩
    · cases hp
  · cases hp

theorem holds_repAt {i : Id} {b : Blk} (h : holds φ w F i b) {u : Value} {g : Nat} (hu : φ i = some u) (hg : blkOf u = some g) : repAt φ w F ⟨g, 0, none⟩ b.cells := by
  cases b with
  | box ty cells =>
    obtain ⟨g', vs, hp, hh, hr⟩ := h
    rw [hu] at hp; cases hp
    simp [blkOf] at hg
    subst hg
    refine repAt_of_get _ _ fun j p hp => ?_
    obtain ⟨v, hv, hr'⟩ := reps_get _ _ hr j p hp
    refine ⟨v, ?_, hr'⟩
    rw [Addr.add_lit, cell_of_row w g' _ _ ty (0, 0) hh]
    simpa using hv
  | arr ty size n cells =>
    obtain ⟨v, vs, hp, hh, hr⟩ := h
    rw [hu] at hp; cases hp
    obtain ⟨hl, ⟨rfl, _⟩ | ⟨g', cap, cur, rfl, _, hc, _, _, _, ht⟩⟩ := hh
    · simp [blkOf] at hg
    · simp [blkOf] at hg
      subst hg
      refine repAt_of_get _ _ fun j p hp => ?_
      obtain ⟨v, hv, hr'⟩ := reps_get _ _ hr j p hp
      refine ⟨v, ?_, hr'⟩
      rw [Addr.add_lit, cell_of_row w g' _ _ ty (0, 0) hc]
      rw [← ht, List.getElem?_take] at hv
      split at hv
      · simpa using hv
      · cases hv
  | mp ty es => exact trivial

theorem behind_rep (h : RelX C φ F0 F1 σ a w) {H : Id → Option Blk} (hle : ∀ {i b}, H i = some b → σ.H i = some b) {p : PV} {x : Value} {ys : List PC} (hr : repV φ w (Fs F0 F1) p x) (hb : behind H p = some ys) :
    ∃ ad, x = .pointer (some ad) ∧ repAt φ w (Fs F0 F1) ad ys := by
  unfold behind at hb
  split at hb
  · rename_i i off
    split at hb
    · rename_i b hi
      cases hb
      simp only [repV, rep] at hr
      obtain ⟨u, g, hu, hg, rfl⟩ := hr
      refine ⟨_, rfl, ?_⟩
      have := repAt_drop (holds_repAt (h.heap i b (hle hi)) hu hg) off
      rwa [Addr.add_lit, Nat.zero_add] at this
    · cases hb
  · cases hb
    simp only [repV, rep] at hr
    obtain ⟨ad, rfl, _, h⟩ := hr
    exact ⟨ad, rfl, h⟩
  · cases hb

theorem shiftA_rep {p q : PV} {x : Value} {n : Nat} (hr : repV φ w F p x) (hs : shiftA n p = some q) : ∃ ad, x = .pointer (some ad) ∧ repV φ w F q (.pointer (some (ad.add n))) := by
  unfold shiftA at hs
  split at hs
  · cases hs
    simp only [repV, rep] at hr ⊢
    obtain ⟨u, g, hu, hg, rfl⟩ := hr
    exact ⟨_, rfl, u, g, hu, hg, by rw [Addr.add_lit]⟩
  · cases hs
    simp only [repV, rep] at hr ⊢
    obtain ⟨ad, rfl, hf, h⟩ := hr
    exact ⟨ad, rfl, ad.add n, rfl, by rw [add_block]; exact hf, repAt_drop h n⟩
  · cases hs

theorem cst_rep {v : Value} {p : PV} (h : cst v = some p) : repV φ w F p v := by
  unfold cst at h
  split at h
  · rename_i cs
    split at h
    · cases h
      rename_i hall
      simp only [repV]
      refine ⟨cs, rfl, reps_of_get _ _ (by simp) fun j q u hq hu => ?_⟩
      rw [List.getElem?_map] at hq
      rw [hu] at hq
      simp at hq
      subst hq
      simp only [rep]
      exact ⟨trivial, List.all_eq_true.1 hall u (List.mem_of_getElem? hu)⟩
    · cases h
  · cases h
  · cases h
    simp only [repV, rep]
    refine ⟨trivial, ?_⟩
    cases v <;> simp_all [Value.oneCell']

theorem ev_rep (h : RelX C φ F0 F1 σ a w) {x : Operand} {p : PV} (hx : ev σ.fr x = some p) : repV φ w (Fs F0 F1) p (a.eval x) := by
  cases x with
  | tmp t =>
    obtain ⟨v, hv, hr⟩ := h.frame t p hx
    simp only [Act.eval, Array.getD_eq_getD_getElem?, hv, Option.getD_some]
    exact hr
  | const v => exact cst_rep hx
  | func f =>
    simp only [ev] at hx
    cases hx
    simp only [repV, rep, Act.eval]
    exact ⟨#[], rfl, by simp [reps]⟩
  | global g => simp [ev] at hx

/-- Part of what is known of a state. -/
structure View (φ : Id → Option Value) (w : World) (F : Bool → Nat → Prop) (a : Act) (σ : St) (ρ : Operand → Option PV) (H : Id → Option Blk) : Prop where
  ev : ∀ {x p}, ρ x = some p → repV φ w F p (a.eval x)
  heap : ∀ {i b}, H i = some b → σ.H i = some b

theorem RelX.view (h : RelX C φ F0 F1 σ a w) : View φ w (Fs F0 F1) a σ (ev σ.fr) σ.H := ⟨fun hx => ev_rep h hx, fun e => e⟩

theorem asI_rep {p : PV} {x : Value} {k : IntKind} {n : Int} (hr : repV φ w F p x) (h : asI p = some (k, n)) : x = .int k n := by
  unfold asI at h
  split at h
  · cases h
    simp only [repV, rep] at hr
    exact hr.1
  · cases h
theorem asB_rep {p : PV} {x : Value} {b : Bool} (hr : repV φ w F p x) (h : asB p = some b) : x = .bool b := by
  unfold asB at h
  split at h
  · cases h
    simp only [repV, rep] at hr
    exact hr.1
  · cases h
theorem asS_rep {p : PV} {x : Value} {s : ByteArray} (hr : repV φ w F p x) (h : asS p = some s) : x = .string s := by
  unfold asS at h
  split at h
  · cases h
    simp only [repV, rep] at hr
    exact hr.1
  · cases h

theorem cells_rep {p : PV} {x : Value} {ps : List PC} (hr : repV φ w F p x) (h : p.cells = some ps) : reps φ w F ps x.cells.toList := by
  unfold PV.cells at h
  split at h
  · cases h
    simp only [repV] at hr
    have h1 := rep_one _ _ hr
    have : x.cells = #[x] := by cases x <;> simp_all [Value.cells, Value.oneCell']
    rw [this]
    simp only [reps]
    exact ⟨x, [], rfl, hr, rfl⟩
  · cases h
    simp only [repV] at hr
    obtain ⟨vs, rfl, hr⟩ := hr
    exact hr
  · cases h
  · cases h
  · cases h
    simp only [repV] at hr
    have h1 := rep_one _ _ hr.1
    have : x.cells = #[x] := by cases x <;> simp_all [Value.cells, Value.oneCell']
    rw [this]
    simp only [reps]
    exact ⟨x, [], rfl, hr.1, rfl⟩

end
end Go.Vm
end

section
namespace Go.Vm
open Go Go.RowKit
set_option linter.unusedSimpArgs false

def splice {α : Type} (xs : List α) (off : Nat) (ys : List α) : List α := xs.take off ++ ys ++ xs.drop (off + ys.length)

theorem splice_length {α : Type} (xs : List α) (off : Nat) (ys : List α) (h : off + ys.length ≤ xs.length) : (splice xs off ys).length = xs.length := by
  simp [splice]; omega

theorem splice_nil {α : Type} (xs : List α) (off : Nat) : splice xs off [] = xs := by simp [splice]

theorem splice_cons {α : Type} (xs : List α) (off : Nat) (y : α) (ys : List α) (h : off + (y :: ys).length ≤ xs.length) :
    splice xs off (y :: ys) = splice (xs.set off y) (off + 1) ys := by
  simp only [splice, List.length_cons] at h ⊢
  apply List.ext_getElem?
  intro j
  simp only [List.getElem?_append, List.length_append, List.length_take, List.length_cons, List.length_set, List.getElem?_take, List.getElem?_drop, List.getElem?_set]
  have h1 : min off xs.length = off := by omega
  have h2 : min (off + 1) xs.length = off + 1 := by omega
  rw [h1, h2]
  by_cases c1 : j < off
  · rw [if_pos (by omega), if_pos c1, if_pos c1, if_pos (by omega), if_pos (by omega), if_pos (by omega), if_neg (by omega)]
  · by_cases c2 : j = off
    · subst c2
      rw [if_pos (by omega), if_neg (by omega), if_pos (by omega), if_pos (by omega), if_pos (by omega), if_pos rfl, if_pos (by omega)]
      simp
    · by_cases c3 : j < off + (ys.length + 1)
      · rw [if_pos (by omega), if_neg (by omega), if_pos (by omega), if_neg (by omega)]
        obtain ⟨q, hq⟩ : ∃ q, j - off = q + 1 := ⟨j - off - 1, by omega⟩
        rw [hq, List.getElem?_cons_succ]
        congr 1
        omega
      · rw [if_neg (by omega), if_neg (by omega), if_neg (by omega)]
        congr 1
        omega

theorem fold_splice {α : Type} (off : Nat) : ∀ (ys : List α) (k : Nat) (xs : Array α), off + k + ys.length ≤ xs.size →
    ((ys.zipIdx k).foldl (fun cs (c, j) => cs.setIfInBounds (off + j) c) xs).toList = splice xs.toList (off + k) ys
  | [], k, xs, _ => by simp [splice]
  | y :: ys, k, xs, h => by
    simp only [List.zipIdx_cons, List.foldl_cons, List.length_cons] at h ⊢
    rw [fold_splice off ys (k + 1) _ (by simp; omega)]
    rw [splice_cons _ _ _ _ (by simp; omega)]
    simp [Nat.add_assoc]

theorem reps_splice {φ : Id → Option Value} {w : World} {F : Bool → Nat → Prop} {ps qs : List PC} {vs us : List Value} {off : Nat} (h : reps φ w F ps vs) (h' : reps φ w F qs us) :
    reps φ w F (splice ps off qs) (splice vs off us) := by
  unfold splice
  rw [reps_length _ _ h']
  exact reps_append (reps_append (reps_take h _) h') (reps_drop h _)

def vfill (place : Nat → Option (Nat × Nat)) (cells : List PC) : List (Nat × PV) → Option (List PC)
  | [] => some cells
  | (k, p) :: rest =>
    match place k, p.cells with
    | some (off, size), some ps => if ps.length = size ∧ off + ps.length ≤ cells.length then vfill place (splice cells off ps) rest else none
    | _, _ => none

section
variable {φ : Id → Option Value} {w : World} {F : Bool → Nat → Prop}
theorem vfill_rep (place : Nat → Option (Nat × Nat)) : ∀ (parts : List (Nat × PV)) (vals : List (Nat × Value)) (cells cells' : List PC) (vs : Array Value),
    parts.map (·.1) = vals.map (·.1) → (∀ (j : Nat) (p : Nat × PV) (v : Nat × Value), parts[j]? = some p → vals[j]? = some v → repV φ w F p.2 v.2) →
    reps φ w F cells vs.toList → vfill place cells parts = some cells' → ∃ us, Instr.fill place vs vals = some us ∧ reps φ w F cells' us.toList
  | [], vals, cells, cells', vs, hm, _, hr, h => by
    obtain rfl : vals = [] := by simpa using hm.symm
    simp only [vfill] at h
    cases h
    exact ⟨vs, by simp [Instr.fill], hr⟩
  | (k, p) :: parts, vals, cells, cells', vs, hm, hp, hr, h => by
    cases vals with
    | nil => simp at hm
    | cons v vals =>
      obtain ⟨k', v⟩ := v
      simp only [List.map_cons, List.cons.injEq] at hm
      obtain ⟨rfl, hm⟩ := hm
      simp only [vfill] at h
      split at h
      · rename_i off size ps hpl hps
        split at h
        · rename_i hc
          have hv := cells_rep (hp 0 _ _ rfl rfl) hps
          have hlv : v.cells.size = ps.length := by rw [← Array.length_toList, reps_length _ _ hv]
          have hlc : vs.size = cells.length := by rw [← Array.length_toList, reps_length _ _ hr]
          have hfold := fold_splice off v.cells.toList 0 vs (by rw [Array.length_toList]; omega)
          simp only [Nat.add_zero] at hfold
          have e2 : v.cells.zipIdx.foldl (fun cs (x : Value × Nat) => match x with | (c, j) => cs.setIfInBounds (off + j) c) vs = (v.cells.toList.zipIdx 0).foldl (fun cs (x : Value × Nat) => match x with | (c, j) => cs.setIfInBounds (off + j) c) vs := by
            rw [← Array.foldl_toList]
            simp
          obtain ⟨us, hu, hr'⟩ := vfill_rep place parts vals _ cells' (v.cells.zipIdx.foldl (fun cs (x : Value × Nat) => match x with | (c, j) => cs.setIfInBounds (off + j) c) vs) hm
            (fun j q u hq hu => hp (j + 1) q u hq hu) (by rw [e2, hfold]; exact reps_splice hr hv) h
          refine ⟨us, ?_, hr'⟩
          simp only [Instr.fill, hpl]
          rw [if_neg (by simp; omega)]
          exact hu
        · cases h
      · cases h
end
end Go.Vm
end

section
namespace Go.Vm
open Go Go.RowKit
set_option linter.unusedVariables false
set_option linter.unusedSimpArgs false

def partsOf (ρ : Operand → Option PV) : List (Nat × Operand) → Option (List (Nat × PV))
  | [] => some []
  | (k, x) :: rest =>
    match ρ x, partsOf ρ rest with
    | some p, some ps => some ((k, p) :: ps)
    | _, _ => none

def onesOf : List (Nat × PV) → Option (List PC)
  | [] => some []
  | (_, .one p) :: rest =>
    match onesOf rest with
    | some ps => some (p :: ps)
    | none => none
  | _ => none

def zeroCellsT (P : Program) (t : TypeId) : Option (List PC) :=
  match zeroT P t with
  | some z => if z.cells.toList.all (fun u => u.oneCell') then some (z.cells.toList.map .c) else none
  | none => none

def placeOf (P : Program) (fs : Array Field) (k : Nat) : Option (Nat × Nat) :=
  match fs[k]? with
  | some f => (szT P f.type).map fun s => (f.offset, s)
  | none => none
def placesT (P : Program) (t : TypeId) : Option (Nat → Option (Nat × Nat)) :=
  match P.underlying t with
  | some (.struct fs) => if fs.toList.all (fun f => (szT P f.type).isSome) then some (placeOf P fs) else none
  | some (.array _ e) =>
    match szT P e with
    | some s => some fun k => some (k * s, s)
    | none => none
  | _ => none

/-- n zero elements. -/
def rowZ (cs : List PC) : Nat → List PC
  | 0 => []
  | n + 1 => cs ++ rowZ cs n

theorem rowZ_eq (cs : List PC) (n : Nat) (h : 0 < cs.length) : rowZ cs n = (List.range (n * cs.length)).map fun q => cs.getD (q % cs.length) (.c undef) := by
  induction n with
  | zero => simp [rowZ]
  | succ n ih =>
    rw [rowZ, ih]
    have hs : (n + 1) * cs.length = n * cs.length + cs.length := Nat.succ_mul _ _
    apply List.ext_getElem?
    intro j
    rw [List.getElem?_append, List.getElem?_map, List.getElem?_map]
    by_cases hj : j < cs.length
    · rw [if_pos hj]
      rw [List.getElem?_range (by omega)]
      simp [Nat.mod_eq_of_lt hj, List.getD, List.getElem?_eq_getElem hj]
    · rw [if_neg hj]
      by_cases hj2 : j < (n + 1) * cs.length
      · rw [List.getElem?_range hj2, List.getElem?_range (by omega)]
        simp only [Option.map_some]
        rw [Nat.mod_eq_sub_mod (show cs.length ≤ j by omega)]
      · rw [List.getElem?_eq_none (by simp; omega), List.getElem?_eq_none (by simp; omega)]

def vlen (H : Id → Option Blk) : PV → Option Nat
  | .one (.sl _ n _) => some n
  | .one (.own i) =>
    match H i with
    | some (.arr _ _ n _) => some n
    | _ => none
  | .one (.c (.slice none 0 0)) => some 0
  | .one (.c (.string s)) => some s.size
  | _ => none

def lenOk (P : Program) (t : TypeId) : PV → Bool
  | .one (.c (.string _)) => match P.underlying t with | some .string => true | _ => false
  | _ => match P.underlying t with | some (.slice _) => true | _ => false

def vidx (P : Program) (H : Id → Option Blk) (t : TypeId) (j : Int) : PV → Option PV
  | .one (.sl b n xs) =>
    match elemT P t with
    | some e =>
      match szT P e with
      | some s => if 0 ≤ j ∧ j < n then some (.one (.at b (xs.drop (j.toNat * s)))) else none
      | none => none
    | none => none
  | .one (.own i) =>
    match elemT P t with
    | some e =>
      match szT P e, H i with
      | some s, some (.arr _ _ n _) => if 0 ≤ j ∧ j < n then some (.one (.loc i (j.toNat * s))) else none
      | _, _ => none
    | none => none
  | _ => none

/-- Are two scalars of type t alike? -/
def eqScalar (P : Program) (t : TypeId) (u v : Value) : Option Bool :=
  match u, v, P.underlying t with
  | .int k a, .int k' b, some (.int _) => if k = k' then some (a == b) else none
  | .string a, .string b, some .string => some (a.toList == b.toList)
  | .bool a, .bool b, some .bool => some (a == b)
  | _, _, _ => none

def eqFieldsT (P : Program) (ps qs : List PC) : List Field → Option Bool
  | [] => some true
  | f :: fs =>
    if f.name ≠ "_" then
      match ps[f.offset]?, qs[f.offset]?, isAggT P f.type with
      | some (.c u), some (.c v), some false =>
        match eqScalar P f.type u v, eqFieldsT P ps qs fs with
        | some b, some r => some (b && r)
        | _, _ => none
      | _, _, _ => none
    else none

def eqOkT (P : Program) (t : TypeId) : Bool := !(P.stoodInHeld t) && !(P.eqGuardType P.depth t)

/-- Two structs of scalars, compared. -/
def vbinA (P : Program) (op : BinOp) (t : TypeId) (ps qs : List PC) : Option Value :=
  match P.underlying t with
  | some (.struct fs) =>
    if eqOkT P t = true then
      match eqFieldsT P ps qs fs.toList, op with
      | some b, .eql => some (.bool b)
      | some b, .neq => some (.bool (!b))
      | _, _ => none
    else none
  | _ => none

def isKeyB : TypeDesc → Value → Bool
  | .bool, .bool _ => true
  | .int k, .int k' _ => k' == k
  | .string, .string _ => true
  | _, _ => false
def keyOf : PV → Option Value
  | .one (.c v) => some v
  | _ => none
/-- What lies at a key. -/
def findE (d : TypeDesc) (k : Value) : List (Value × PC) → Option (Option PC)
  | [] => some none
  | e :: es =>
    match Instr.sameNow d k e.1 with
    | some true => some (some e.2)
    | some false => findE d k es
    | none => none
def vlook (P : Program) (H : Id → Option Blk) (t : TypeId) (m k : Option PV) : Option (PC × Bool) :=
  match m, k.bind keyOf, P.underlying t with
  | some (.one (.own j)), some kv, some (.map kt vt) =>
    match H j, P.underlying kt with
    | some (.mp _ es), some d =>
      if isKeyB d kv = true then
        match findE d kv es with
        | some (some p) => some (p, true)
        | some none =>
          match zeroT P vt with
          | some z => if z.oneCell' = true then some (.c z, false) else none
          | none => none
        | none => none
      else none
    | _, _ => none
  | _, _, _ => none

/-- What an operation gives that only computes, reads, or makes one block. -/
def vAdd (P : Program) (i : Id) (ρ : Operand → Option PV) (H : Id → Option Blk) : Op → Option (PV × Option Blk)
  | .move x => (ρ x).map (·, none)
  | .assign x => (ρ x).map (·, none)
  | .pick c x y =>
    match (ρ c).bind asB with
    | some true => (ρ x).map (·, none)
    | some false => (ρ y).map (·, none)
    | none => none
  | .alloc t => (zeroCellsT P t).map fun cs => (.one (.loc i 0), some (.box t cs))
  | .box t x => ((ρ x).bind PV.cells).map fun cs => (.one (.loc i 0), some (.box t cs))
  | .load t x => ((ρ x).bind (behind H)).bind fun ys => (takeT P t ys).map (·, none)
  | .nilCheck x =>
    match ρ x with
    | some (.one (.loc j o)) => some (.one (.loc j o), none)
    | some (.one (.at t ys)) => some (.one (.at t ys), none)
    | _ => none
  | .binOp op t x y _ =>
    match ρ x, ρ y with
    | some (.one (.c u)), some (.one (.c v)) => (vbin P op t u v).map fun r => (.one (.c r), none)
    | some (.agg ps), some (.agg qs) => (vbinA P op t ps qs).map fun r => (.one (.c r), none)
    | _, _ => none
  | .unOp op _ x =>
    match ρ x with
    | some (.one (.c u)) => (vun op u).map fun r => (.one (.c r), none)
    | _ => none
  | .convert s d x =>
    match (ρ x).bind asI, P.underlying s, P.underlying d with
    | some (_, n), some _, some (.int k) => some (.one (.c (.int k (k.wrap n))), none)
    | _, _, _ => none
  | .extract x j =>
    match ρ x with
    | some (.tup vs) => (vs[j]?).map (·, none)
    | _ => none
  | .fieldAddr s x f =>
    match fieldT P s f with
    | some fd =>
      match szT P fd.type with
      | some (_ + 1) => ((ρ x).bind (shiftA fd.offset)).map (·, none)
      | _ => none
    | none => none
  | .field t x f =>
    match fieldT P t f, ρ x with
    | some fd, some (.agg ps) => (takeT P fd.type (ps.drop fd.offset)).map (·, none)
    | _, _ => none
  | .indexAddr t x j =>
    match ρ x, (ρ j).bind asI with
    | some p, some (_, k) => (vidx P H t k p).map (·, none)
    | _, _ => none
  | .index t x j =>
    match (ρ x).bind asS, (ρ j).bind asI, P.underlying t with
    | some s, some (_, k), some .string => if 0 ≤ k ∧ k < s.size then some (.one (.c (.int .u8 (byteAt s k.toNat).toNat)), none) else none
    | _, _, _ => none
  | .slice t x lo hi mx =>
    match (ρ x).bind asS, P.underlying t, mx with
    | some s, some .string, none =>
      match (match lo with | some l => (ρ l).bind asI | none => some (.i64, 0)), (match hi with | some h => (ρ h).bind asI | none => some (.i64, s.size)) with
      | some (_, l), some (_, h) => if 0 ≤ l ∧ l ≤ h ∧ h ≤ s.size then some (.one (.c (.string (s.extract l.toNat h.toNat))), none) else none
      | _, _ => none
    | _, _, _ => none
  | .build t parts =>
    match zeroCellsT P t, placesT P t, partsOf ρ parts.toList with
    | some cs, some pl, some ps => (vfill pl cs ps).map fun cs' => (.agg cs', none)
    | _, _, _ => none
  | .buildSlice t len parts =>
    match elemT P t with
    | some e =>
      match szT P e, zeroCellsT P e, partsOf ρ parts.toList with
      | some s, some cs, some ps =>
        if len * s ≤ 16777216 ∧ 0 < len ∧ 0 < s ∧ cs.length = s then
          (vfill (fun k => some (k * s, s)) (rowZ cs len) ps).map fun cs' => (.one (.own i), some (.arr e s len cs'))
        else if len = 0 ∧ ps.isEmpty = true then some (.one (.own i), some (.arr e s 0 [])) else none
      | _, _, _ => none
    | none => none
  | .makeMap t none => some (.one (.own i), some (.mp t []))
  | .lookup t m k ok => (vlook P H t (ρ m) (ρ k)).map fun x => (if ok = true then .tup [.one x.1, .one (.c (.bool x.2))] else .one x.1, none)
  | .makeSlice t n m =>
    match elemT P t, (ρ n).bind asI, (ρ m).bind asI with
    | some e, some (_, n'), some (_, m') =>
      match szT P e, bytesT P e, zeroCellsT P e with
      | some s, some b, some cs =>
        if 0 ≤ n' ∧ n' ≤ m' ∧ b * m' ≤ 140737488355328 ∧ m' ≤ 140737488355328 ∧ 0 < s ∧ cs.length = s then
          some (.one (.own i), some (.arr e s n'.toNat (rowZ cs n'.toNat)))
        else none
      | _, _, _ => none
    | _, _, _ => none
  | .call c =>
    match c.callee with
    | .builtin .len =>
      match c.args.toList, c.argTypes.toList with
      | [x], [t] =>
        match ρ x with
        | some p => if lenOk P t p then (vlen H p).map fun (n : Nat) => (PV.one (.c (.int .i64 (n : Int))), none) else none
        | none => none
      | _, _ => none
    | .builtin .min =>
      match c.args.toList with
      | [x, y] =>
        match (ρ x).bind asI, (ρ y).bind asI with
        | some (k, p), some (_, q) => some (.one (.c (.int k (if q < p then q else p))), none)
        | _, _ => none
      | _ => none
    | .builtin .max =>
      match c.args.toList with
      | [x, y] =>
        match (ρ x).bind asI, (ρ y).bind asI with
        | some (k, p), some (_, q) => some (.one (.c (.int k (if q > p then q else p))), none)
        | _, _ => none
      | _ => none
    | _ => none
  | .makeFunc (.func f) first caps =>
    if first.size = 0 then
      match partsOf ρ (caps.toList.map (0, ·)) with
      | some ps =>
        match onesOf ps with
        | some cs => some (.one (.fn f cs), none)
        | none => none
      | none => none
    else none
  | _ => none

/-- What it has come to. -/
def AddOut (φ : Id → Option Value) (w : World) (F : Bool → Nat → Prop) (i : Id) (p : PV) : Option Blk → Value → World → Prop
  | none, x, w' => w' = w ∧ repV φ w F p x
  | some b, x, w' => ∃ v, Below w.heap.size w w' ∧ holds (upd φ i (some v)) w' F i b ∧ (∀ g, blkOf v = some g → w.heap.size ≤ g) ∧ repV (upd φ i (some v)) w' F p x

section
variable {ρ : Operand → Option PV} {H : Id → Option Blk} {C : Ctx} {φ φ' : Id → Option Value} {F : Bool → Nat → Prop} {F0 F1 : Nat → Prop} {σ : St} {a : Act} {w w' : World} {P : Program} {i : Id} {o : Oper} {p : PV} {ob : Option Blk}

theorem partsOf_rep (h : RelX C φ F0 F1 σ a w) (V : View φ w (Fs F0 F1) a σ ρ H) : ∀ (l : List (Nat × Operand)) (ps : List (Nat × PV)), partsOf ρ l = some ps →
    ps.map (·.1) = (l.map fun x => (x.1, a.eval x.2)).map (·.1) ∧ ∀ (j : Nat) (p : Nat × PV) (v : Nat × Value), ps[j]? = some p → (l.map fun x => (x.1, a.eval x.2))[j]? = some v → repV φ w (Fs F0 F1) p.2 v.2
  | [], ps, hp => by simp [partsOf] at hp; subst hp; simp
  | (k, x) :: l, ps, hp => by
    simp only [partsOf] at hp
    split at hp
    · rename_i p ps' hx hl
      cases hp
      obtain ⟨h1, h2⟩ := partsOf_rep h V l ps' hl
      refine ⟨by simp [h1], fun j p v hq hv => ?_⟩
      cases j with
      | zero => simp at hq hv; subst hq hv; exact V.ev hx
      | succ j => exact h2 j p v (by simpa using hq) (by simpa using hv)
    · cases hp

theorem zero_rep {t : TypeId} {cs : List PC} (h : zeroCellsT P t = some cs) : ∃ z, zeroT P t = some z ∧ cs = z.cells.toList.map .c ∧ reps φ w F cs z.cells.toList := by
  unfold zeroCellsT at h
  split at h
  · rename_i z hz
    split at h
    · cases h
      rename_i hall
      refine ⟨z, hz, rfl, reps_of_get _ _ (by simp) fun j q u hq hu => ?_⟩
      rw [List.getElem?_map, hu] at hq
      simp at hq
      subst hq
      simp only [rep]
      exact ⟨trivial, List.all_eq_true.1 hall u (List.mem_of_getElem? hu)⟩
    · cases h
  · cases h

theorem upd_le (hn : φ i = none) (v : Value) : ∀ j u, φ j = some u → upd φ i (some v) j = some u := by
  intro j u hu
  by_cases hj : j = i
  · subst hj; rw [hn] at hu; cases hu
  · rw [upd_ne _ _ hj]; exact hu

theorem below_alloc1 (w : World) (o : Obj) : Below w.heap.size w (w.alloc o) := (Below.refl _ _).alloc (Nat.le_refl _) o

/-- A box of the call's own is made. -/
theorem box_out (h : RelX C φ F0 F1 σ a w) (hn : φ i = none) {t : TypeId} {cs : List PC} {vs : Array Value} (hr : reps φ w (Fs F0 F1) cs vs.toList) :
    AddOut φ w (Fs F0 F1) i (.one (.loc i 0)) (some (.box t cs)) (.pointer (some ⟨w.heap.size, 0, none⟩)) (w.alloc (.cells vs t)) := by
  refine ⟨.pointer (some ⟨w.heap.size, 0, none⟩), below_alloc1 _ _, ⟨w.heap.size, vs.toList, upd_self _ _ _, ?_, ?_⟩, fun g hg => ?_, ?_⟩
  · simpa using heap_alloc_new w (.cells vs t)
  · refine reps_mono (upd_le hn _) (fun tb g hg => ?_) (fun _ _ e => e) _ _ hr
    exact (below_alloc1 w (.cells vs t)).block g (h.lt0 g (Fs_f0 h.sub tb g hg))
  · simp [blkOf] at hg; omega
  · simp only [repV, rep]
    exact ⟨_, w.heap.size, upd_self _ _ _, rfl, rfl⟩

/-- A row of the call's own is made. -/
theorem row_outC (h : RelX C φ F0 F1 σ a w) (hn : φ i = none) {e : TypeId} {s n c : Nat} {cs : List PC} {vs : Array Value} (hr : reps φ w (Fs F0 F1) cs (vs.toList.take (n * s))) (hl : vs.size = c * s) (hnc : n ≤ c) (hm : c ≤ maxLen) :
    AddOut φ w (Fs F0 F1) i (.one (.own i)) (some (.arr e s n cs)) (.slice (some ⟨w.heap.size, 0, none⟩) n c) (w.alloc (.cells vs e)) := by
  have hnc' : n * s ≤ c * s := Nat.mul_le_mul_right _ hnc
  refine ⟨.slice (some ⟨w.heap.size, 0, none⟩) n c, below_alloc1 _ _, ⟨_, vs.toList.take (n * s), upd_self _ _ _, ⟨by rw [List.length_take, Array.length_toList, hl, Nat.min_eq_left hnc'], .inr ⟨w.heap.size, c, vs, rfl, Nat.zero_le _, heap_alloc_new w _, hnc, hm, hl, rfl⟩⟩, ?_⟩, fun g hg => ?_, ?_⟩
  · refine reps_mono (upd_le hn _) (fun tb g hg => ?_) (fun _ _ e => e) _ _ hr
    exact (below_alloc1 w (.cells vs e)).block g (h.lt0 g (Fs_f0 h.sub tb g hg))
  · simp [blkOf] at hg; omega
  · simp only [repV, rep]
    exact ⟨upd_self _ _ _, rfl⟩
theorem row_out (h : RelX C φ F0 F1 σ a w) (hn : φ i = none) {e : TypeId} {s n : Nat} {cs : List PC} {vs : Array Value} (hr : reps φ w (Fs F0 F1) cs vs.toList) (hl : vs.size = n * s) (hm : n ≤ maxLen) :
    AddOut φ w (Fs F0 F1) i (.one (.own i)) (some (.arr e s n cs)) (.slice (some ⟨w.heap.size, 0, none⟩) n n) (w.alloc (.cells vs e)) := by
  refine ⟨.slice (some ⟨w.heap.size, 0, none⟩) n n, below_alloc1 _ _, ⟨_, vs.toList, upd_self _ _ _, ⟨by simpa using hl, .inr ⟨w.heap.size, n, vs, rfl, Nat.zero_le _, heap_alloc_new w _, Nat.le_refl _, hm, hl, ?_⟩⟩, ?_⟩, fun g hg => ?_, ?_⟩
  · rw [List.take_of_length_le (by simp [hl])]
  · refine reps_mono (upd_le hn _) (fun tb g hg => ?_) (fun _ _ e => e) _ _ hr
    exact (below_alloc1 w (.cells vs e)).block g (h.lt0 g (Fs_f0 h.sub tb g hg))
  · simp [blkOf] at hg; omega
  · simp only [repV, rep]
    exact ⟨upd_self _ _ _, rfl⟩
end
end Go.Vm
end
