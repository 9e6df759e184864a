/-
  Abstract states over the model's worlds, and that a step of them is a step of the program: part B of a framework. Conditions: each theorem's own premises. By an AI agent.
-/
import Derived.Test.YtnpbndglolcilaaDoorVmA
section
namespace Go.Vm
open Go Go.RowKit

def splice {α : Type} (xs : List α) (off : Nat) (ys : List α) : List α := xs.take off ++ ys ++ xs.drop (off + ys.length)

theorem splice_length {α : Type} (xs : List α) (off : Nat) (ys : List α) (h : off + ys.length ≤ xs.length) : (splice xs off ys).length = xs.length := by
  simp [splice]; omega

theorem splice_nil {α : Type} (xs : List α) (off : Nat) : splice xs off [] = xs := by simp [splice]

theorem splice_cons {α : Type} (xs : List α) (off : Nat) (y : α) (ys : List α) (h : off + (y :: ys).length ≤ xs.length) :
    splice xs off (y :: ys) = splice (xs.set off y) (off + 1) ys := by
  simp only [splice, List.length_cons] at h ⊢
  apply List.ext_getElem?
  intro j
  simp only [List.getElem?_append, List.length_append, List.length_take, List.length_cons, List.length_set, List.getElem?_take, List.getElem?_drop, List.getElem?_set]
  have h1 : min off xs.length = off := by omega
  have h2 : min (off + 1) xs.length = off + 1 := by omega
  rw [h1, h2]
  by_cases c1 : j < off
  · rw [if_pos (by omega), if_pos c1, if_pos c1, if_pos (by omega), if_pos (by omega), if_pos (by omega), if_neg (by omega)]
  · by_cases c2 : j = off
    · subst c2
      rw [if_pos (by omega), if_neg (by omega), if_pos (by omega), if_pos (by omega), if_pos (by omega), if_pos rfl, if_pos (by omega)]
      simp
    · by_cases c3 : j < off + (ys.length + 1)
      · rw [if_pos (by omega), if_neg (by omega), if_pos (by omega), if_neg (by omega)]
        obtain ⟨q, hq⟩ : ∃ q, j - off = q + 1 := ⟨j - off - 1, by omega⟩
        rw [hq, List.getElem?_cons_succ]
        congr 1
        omega
      · rw [if_neg (by omega), if_neg (by omega), if_neg (by omega)]
        congr 1
        omega

theorem fold_splice {α : Type} (off : Nat) : ∀ (ys : List α) (k : Nat) (xs : Array α), off + k + ys.length ≤ xs.size →
    ((ys.zipIdx k).foldl (fun cs (c, j) => cs.setIfInBounds (off + j) c) xs).toList = splice xs.toList (off + k) ys
  | [], k, xs, _ => by simp [splice]
  | y :: ys, k, xs, h => by
    simp only [List.zipIdx_cons, List.foldl_cons, List.length_cons] at h ⊢
    rw [fold_splice off ys (k + 1) _ (by simp; omega)]
    rw [splice_cons _ _ _ _ (by simp; omega)]
    simp [Nat.add_assoc]

theorem reps_splice {φ : Id → Option Value} {w : World} {F : Bool → Nat → Prop} {ps qs : List PC} {vs us : List Value} {off : Nat} (h : reps φ w F ps vs) (h' : reps φ w F qs us) :
    reps φ w F (splice ps off qs) (splice vs off us) := by
  unfold splice
  rw [reps_length _ _ h']
  exact reps_append (reps_append (reps_take h _) h') (reps_drop h _)

def vfill (place : Nat → Option (Nat × Nat)) (cells : List PC) : List (Nat × PV) → Option (List PC)
  | [] => some cells
  | (k, p) :: rest =>
    match place k, p.cells with
    | some (off, size), some ps => if ps.length = size ∧ off + ps.length ≤ cells.length then vfill place (splice cells off ps) rest else none
    | _, _ => none

section
variable {φ : Id → Option Value} {w : World} {F : Bool → Nat → Prop}
theorem vfill_rep (place : Nat → Option (Nat × Nat)) : ∀ (parts : List (Nat × PV)) (vals : List (Nat × Value)) (cells cells' : List PC) (vs : Array Value),
    parts.map (·.1) = vals.map (·.1) → (∀ (j : Nat) (p : Nat × PV) (v : Nat × Value), parts[j]? = some p → vals[j]? = some v → repV φ w F p.2 v.2) →
    reps φ w F cells vs.toList → vfill place cells parts = some cells' → ∃ us, Instr.fill place vs vals = some us ∧ reps φ w F cells' us.toList
  | [], vals, cells, cells', vs, hm, _, hr, h => by
    obtain rfl : vals = [] := by simpa using hm.symm
    simp only [vfill] at h
    cases h
    exact ⟨vs, by simp [Instr.fill], hr⟩
  | (k, p) :: parts, vals, cells, cells', vs, hm, hp, hr, h => by
    cases vals with
    | nil => simp at hm
    | cons v vals =>
      obtain ⟨k', v⟩ := v
      simp only [List.map_cons, List.cons.injEq] at hm
      obtain ⟨rfl, hm⟩ := hm
      simp only [vfill] at h
      split at h
      · rename_i off size ps hpl hps
        split at h
        · rename_i hc
          have hv := cells_rep (hp 0 _ _ rfl rfl) hps
          have hlv : v.cells.size = ps.length := by rw [← Array.length_toList, reps_length _ _ hv]
          have hlc : vs.size = cells.length := by rw [← Array.length_toList, reps_length _ _ hr]
          have hfold := fold_splice off v.cells.toList 0 vs (by rw [Array.length_toList]; omega)
          simp only [Nat.add_zero] at hfold
          have e2 : v.cells.zipIdx.foldl (fun cs (x : Value × Nat) => match x with | (c, j) => cs.setIfInBounds (off + j) c) vs = (v.cells.toList.zipIdx 0).foldl (fun cs (x : Value × Nat) => match x with | (c, j) => cs.setIfInBounds (off + j) c) vs := by
            rw [← Array.foldl_toList]
            simp
          obtain ⟨us, hu, hr'⟩ := vfill_rep place parts vals _ cells' (v.cells.zipIdx.foldl (fun cs (x : Value × Nat) => match x with | (c, j) => cs.setIfInBounds (off + j) c) vs) hm
            (fun j q u hq hu => hp (j + 1) q u hq hu) (by rw [e2, hfold]; exact reps_splice hr hv) h
          refine ⟨us, ?_, hr'⟩
          simp only [Instr.fill, hpl]
          rw [if_neg (by simp; omega)]
          exact hu
        · cases h
      · cases h
end
end Go.Vm
end

section
namespace Go.Vm
open Go Go.RowKit
set_option linter.unusedVariables false
set_option linter.unusedSimpArgs false

def partsOf (ρ : Operand → Option PV) : List (Nat × Operand) → Option (List (Nat × PV))
  | [] => some []
  | (k, x) :: rest =>
    match ρ x, partsOf ρ rest with
    | some p, some ps => some ((k, p) :: ps)
    | _, _ => none

def onesOf : List (Nat × PV) → Option (List PC)
  | [] => some []
  | (_, .one p) :: rest =>
    match onesOf rest with
    | some ps => some (p :: ps)
    | none => none
  | _ => none

def zeroCellsT (P : Program) (t : TypeId) : Option (List PC) :=
  match zeroT P t with
  | some z => if z.cells.toList.all (fun u => u.oneCell') then some (z.cells.toList.map .c) else none
  | none => none

def placeOf (P : Program) (fs : Array Field) (k : Nat) : Option (Nat × Nat) :=
  match fs[k]? with
  | some f => (szT P f.type).map fun s => (f.offset, s)
  | none => none
def placesT (P : Program) (t : TypeId) : Option (Nat → Option (Nat × Nat)) :=
  match P.underlying t with
  | some (.struct fs) => if fs.toList.all (fun f => (szT P f.type).isSome) then some (placeOf P fs) else none
  | _ => none

/-- n zero elements. -/
def rowZ (cs : List PC) : Nat → List PC
  | 0 => []
  | n + 1 => cs ++ rowZ cs n

theorem rowZ_eq (cs : List PC) (n : Nat) (h : 0 < cs.length) : rowZ cs n = (List.range (n * cs.length)).map fun q => cs.getD (q % cs.length) (.c undef) := by
  induction n with
  | zero => simp [rowZ]
  | succ n ih =>
    rw [rowZ, ih]
    have hs : (n + 1) * cs.length = n * cs.length + cs.length := Nat.succ_mul _ _
    apply List.ext_getElem?
    intro j
    rw [List.getElem?_append, List.getElem?_map, List.getElem?_map]
    by_cases hj : j < cs.length
    · rw [if_pos hj]
      rw [List.getElem?_range (by omega)]
      simp [Nat.mod_eq_of_lt hj, List.getD, List.getElem?_eq_getElem hj]
    · rw [if_neg hj]
      by_cases hj2 : j < (n + 1) * cs.length
      · rw [List.getElem?_range hj2, List.getElem?_range (by omega)]
        simp only [Option.map_some]
        rw [Nat.mod_eq_sub_mod (show cs.length ≤ j by omega)]
      · rw [List.getElem?_eq_none (by simp; omega), List.getElem?_eq_none (by simp; omega)]

def vlen (H : Id → Option Blk) : PV → Option Nat
  | .one (.sl _ n _) => some n
  | .one (.own i) =>
    match H i with
    | some (.arr _ _ n _) => some n
    | _ => none
  | .one (.c (.slice none 0 0)) => some 0
  | .one (.c (.string s)) => some s.size
  | _ => none

def lenOk (P : Program) (t : TypeId) : PV → Bool
  | .one (.c (.string _)) => match P.underlying t with | some .string => true | _ => false
  | _ => match P.underlying t with | some (.slice _) => true | _ => false

def vidx (P : Program) (H : Id → Option Blk) (t : TypeId) (j : Int) : PV → Option PV
  | .one (.sl b n xs) =>
    match elemT P t with
    | some e =>
      match szT P e with
      | some s => if 0 ≤ j ∧ j < n then some (.one (.at b (xs.drop (j.toNat * s)))) else none
      | none => none
    | none => none
  | .one (.own i) =>
    match elemT P t with
    | some e =>
      match szT P e, H i with
      | some s, some (.arr _ _ n _) => if 0 ≤ j ∧ j < n then some (.one (.loc i (j.toNat * s))) else none
      | _, _ => none
    | none => none
  | _ => none

/-- Are two scalars of type t alike? -/
def eqScalar (P : Program) (t : TypeId) (u v : Value) : Option Bool :=
  match u, v, P.underlying t with
  | .int k a, .int k' b, some (.int _) => if k = k' then some (a == b) else none
  | .string a, .string b, some .string => some (a.toList == b.toList)
  | .bool a, .bool b, some .bool => some (a == b)
  | _, _, _ => none

def eqFieldsT (P : Program) (ps qs : List PC) : List Field → Option Bool
  | [] => some true
  | f :: fs =>
    if f.name ≠ "_" then
      match ps[f.offset]?, qs[f.offset]?, isAggT P f.type with
      | some (.c u), some (.c v), some false =>
        match eqScalar P f.type u v, eqFieldsT P ps qs fs with
        | some b, some r => some (b && r)
        | _, _ => none
      | _, _, _ => none
    else none

def eqOkT (P : Program) (t : TypeId) : Bool := !(P.stoodInHeld t) && !(P.eqGuardType P.depth t)

/-- Two structs of scalars, compared. -/
def vbinA (P : Program) (op : BinOp) (t : TypeId) (ps qs : List PC) : Option Value :=
  match P.underlying t with
  | some (.struct fs) =>
    if eqOkT P t = true then
      match eqFieldsT P ps qs fs.toList, op with
      | some b, .eql => some (.bool b)
      | some b, .neq => some (.bool (!b))
      | _, _ => none
    else none
  | _ => none

/-- What an operation gives that only computes, reads, or makes one block. -/
def vAdd (P : Program) (i : Id) (ρ : Operand → Option PV) (H : Id → Option Blk) : Op → Option (PV × Option Blk)
  | .move x => (ρ x).map (·, none)
  | .assign x => (ρ x).map (·, none)
  | .pick c x y =>
    match (ρ c).bind asB with
    | some true => (ρ x).map (·, none)
    | some false => (ρ y).map (·, none)
    | none => none
  | .alloc t => (zeroCellsT P t).map fun cs => (.one (.loc i 0), some (.box t cs))
  | .box t x => ((ρ x).bind PV.cells).map fun cs => (.one (.loc i 0), some (.box t cs))
  | .load t x => ((ρ x).bind (behind H)).bind fun ys => (takeT P t ys).map (·, none)
  | .nilCheck x =>
    match ρ x with
    | some (.one (.loc j o)) => some (.one (.loc j o), none)
    | some (.one (.at t ys)) => some (.one (.at t ys), none)
    | _ => none
  | .binOp op t x y _ =>
    match ρ x, ρ y with
    | some (.one (.c u)), some (.one (.c v)) => (vbin P op t u v).map fun r => (.one (.c r), none)
    | some (.agg ps), some (.agg qs) => (vbinA P op t ps qs).map fun r => (.one (.c r), none)
    | _, _ => none
  | .unOp op _ x =>
    match ρ x with
    | some (.one (.c u)) => (vun op u).map fun r => (.one (.c r), none)
    | _ => none
  | .convert s d x =>
    match (ρ x).bind asI, P.underlying s, P.underlying d with
    | some (_, n), some _, some (.int k) => some (.one (.c (.int k (k.wrap n))), none)
    | _, _, _ => none
  | .extract x j =>
    match ρ x with
    | some (.tup vs) => (vs[j]?).map (·, none)
    | _ => none
  | .fieldAddr s x f =>
    match fieldT P s f with
    | some fd =>
      match szT P fd.type with
      | some (_ + 1) => ((ρ x).bind (shiftA fd.offset)).map (·, none)
      | _ => none
    | none => none
  | .field t x f =>
    match fieldT P t f, ρ x with
    | some fd, some (.agg ps) => (takeT P fd.type (ps.drop fd.offset)).map (·, none)
    | _, _ => none
  | .indexAddr t x j =>
    match ρ x, (ρ j).bind asI with
    | some p, some (_, k) => (vidx P H t k p).map (·, none)
    | _, _ => none
  | .index t x j =>
    match (ρ x).bind asS, (ρ j).bind asI, P.underlying t with
    | some s, some (_, k), some .string => if 0 ≤ k ∧ k < s.size then some (.one (.c (.int .u8 (byteAt s k.toNat).toNat)), none) else none
    | _, _, _ => none
  | .slice t x lo hi mx =>
    match (ρ x).bind asS, P.underlying t, mx with
    | some s, some .string, none =>
      match (match lo with | some l => (ρ l).bind asI | none => some (.i64, 0)), (match hi with | some h => (ρ h).bind asI | none => some (.i64, s.size)) with
      | some (_, l), some (_, h) => if 0 ≤ l ∧ l ≤ h ∧ h ≤ s.size then some (.one (.c (.string (s.extract l.toNat h.toNat))), none) else none
      | _, _ => none
    | _, _, _ => none
  | .build t parts =>
    match zeroCellsT P t, placesT P t, partsOf ρ parts.toList with
    | some cs, some pl, some ps => (vfill pl cs ps).map fun cs' => (.agg cs', none)
    | _, _, _ => none
  | .buildSlice t len parts =>
    match elemT P t with
    | some e =>
      match szT P e, zeroCellsT P e, partsOf ρ parts.toList with
      | some s, some cs, some ps =>
        if len * s ≤ 16777216 ∧ 0 < len ∧ 0 < s ∧ cs.length = s then
          (vfill (fun k => some (k * s, s)) (rowZ cs len) ps).map fun cs' => (.one (.own i), some (.arr e s len cs'))
        else none
      | _, _, _ => none
    | none => none
  | .makeSlice t n m =>
    match elemT P t, (ρ n).bind asI, (ρ m).bind asI with
    | some e, some (_, n'), some (_, m') =>
      match szT P e, bytesT P e, zeroCellsT P e with
      | some s, some b, some cs =>
        if 0 ≤ n' ∧ n' = m' ∧ b * n' ≤ 140737488355328 ∧ n' ≤ 140737488355328 ∧ 0 < s ∧ cs.length = s then
          some (.one (.own i), some (.arr e s n'.toNat (rowZ cs n'.toNat)))
        else none
      | _, _, _ => none
    | _, _, _ => none
  | .call c =>
    match c.callee with
    | .builtin .len =>
      match c.args.toList, c.argTypes.toList with
      | [x], [t] =>
        match ρ x with
        | some p => if lenOk P t p then (vlen H p).map fun (n : Nat) => (PV.one (.c (.int .i64 (n : Int))), none) else none
        | none => none
      | _, _ => none
    | .builtin .min =>
      match c.args.toList with
      | [x, y] =>
        match (ρ x).bind asI, (ρ y).bind asI with
        | some (k, p), some (_, q) => some (.one (.c (.int k (if q < p then q else p))), none)
        | _, _ => none
      | _ => none
    | .builtin .max =>
      match c.args.toList with
      | [x, y] =>
        match (ρ x).bind asI, (ρ y).bind asI with
        | some (k, p), some (_, q) => some (.one (.c (.int k (if q > p then q else p))), none)
        | _, _ => none
      | _ => none
    | _ => none
  | .makeFunc (.func f) first caps =>
    if first.size = 0 then
      match partsOf ρ (caps.toList.map (0, ·)) with
      | some ps =>
        match onesOf ps with
        | some cs => some (.one (.fn f cs), none)
        | none => none
      | none => none
    else none
  | _ => none

/-- What it has come to. -/
def AddOut (φ : Id → Option Value) (w : World) (F : Bool → Nat → Prop) (i : Id) (p : PV) : Option Blk → Value → World → Prop
  | none, x, w' => w' = w ∧ repV φ w F p x
  | some b, x, w' => ∃ v, Below w.heap.size w w' ∧ holds (upd φ i (some v)) w' F i b ∧ (∀ g, blkOf v = some g → w.heap.size ≤ g) ∧ repV (upd φ i (some v)) w' F p x

section
variable {ρ : Operand → Option PV} {H : Id → Option Blk} {C : Ctx} {φ φ' : Id → Option Value} {F : Bool → Nat → Prop} {F0 F1 : Nat → Prop} {σ : St} {a : Act} {w w' : World} {P : Program} {i : Id} {o : Oper} {p : PV} {ob : Option Blk}

theorem partsOf_rep (h : RelX C φ F0 F1 σ a w) (V : View φ w (Fs F0 F1) a σ ρ H) : ∀ (l : List (Nat × Operand)) (ps : List (Nat × PV)), partsOf ρ l = some ps →
    ps.map (·.1) = (l.map fun x => (x.1, a.eval x.2)).map (·.1) ∧ ∀ (j : Nat) (p : Nat × PV) (v : Nat × Value), ps[j]? = some p → (l.map fun x => (x.1, a.eval x.2))[j]? = some v → repV φ w (Fs F0 F1) p.2 v.2
  | [], ps, hp => by simp [partsOf] at hp; subst hp; simp
  | (k, x) :: l, ps, hp => by
    simp only [partsOf] at hp
    split at hp
    · rename_i p ps' hx hl
      cases hp
      obtain ⟨h1, h2⟩ := partsOf_rep h V l ps' hl
      refine ⟨by simp [h1], fun j p v hq hv => ?_⟩
      cases j with
      | zero => simp at hq hv; subst hq hv; exact V.ev hx
      | succ j => exact h2 j p v (by simpa using hq) (by simpa using hv)
    · cases hp

theorem zero_rep {t : TypeId} {cs : List PC} (h : zeroCellsT P t = some cs) : ∃ z, zeroT P t = some z ∧ cs = z.cells.toList.map .c ∧ reps φ w F cs z.cells.toList := by
  unfold zeroCellsT at h
  split at h
  · rename_i z hz
    split at h
    · cases h
      rename_i hall
      refine ⟨z, hz, rfl, reps_of_get _ _ (by simp) fun j q u hq hu => ?_⟩
      rw [List.getElem?_map, hu] at hq
      simp at hq
      subst hq
      simp only [rep]
      exact ⟨trivial, List.all_eq_true.1 hall u (List.mem_of_getElem? hu)⟩
    · cases h
  · cases h

theorem upd_le (hn : φ i = none) (v : Value) : ∀ j u, φ j = some u → upd φ i (some v) j = some u := by
  intro j u hu
  by_cases hj : j = i
  · subst hj; rw [hn] at hu; cases hu
  · rw [upd_ne _ _ hj]; exact hu

theorem below_alloc1 (w : World) (o : Obj) : Below w.heap.size w (w.alloc o) := (Below.refl _ _).alloc (Nat.le_refl _) o

/-- A box of the call's own is made. -/
theorem box_out (h : RelX C φ F0 F1 σ a w) (hn : φ i = none) {t : TypeId} {cs : List PC} {vs : Array Value} (hr : reps φ w (Fs F0 F1) cs vs.toList) :
    AddOut φ w (Fs F0 F1) i (.one (.loc i 0)) (some (.box t cs)) (.pointer (some ⟨w.heap.size, 0, none⟩)) (w.alloc (.cells vs t)) := by
  refine ⟨.pointer (some ⟨w.heap.size, 0, none⟩), below_alloc1 _ _, ⟨w.heap.size, vs.toList, upd_self _ _ _, ?_, ?_⟩, fun g hg => ?_, ?_⟩
  · simpa using heap_alloc_new w (.cells vs t)
  · refine reps_mono (upd_le hn _) (fun tb g hg => ?_) (fun _ _ e => e) _ _ hr
    exact (below_alloc1 w (.cells vs t)).block g (h.lt0 g (Fs_f0 h.sub tb g hg))
  · simp [blkOf] at hg; omega
  · simp only [repV, rep]
    exact ⟨_, w.heap.size, upd_self _ _ _, rfl, rfl⟩

/-- A row of the call's own is made. -/
theorem row_out (h : RelX C φ F0 F1 σ a w) (hn : φ i = none) {e : TypeId} {s n : Nat} {cs : List PC} {vs : Array Value} (hr : reps φ w (Fs F0 F1) cs vs.toList) (hl : vs.size = n * s) (hm : n ≤ maxLen) :
    AddOut φ w (Fs F0 F1) i (.one (.own i)) (some (.arr e s n cs)) (.slice (some ⟨w.heap.size, 0, none⟩) n n) (w.alloc (.cells vs e)) := by
  refine ⟨.slice (some ⟨w.heap.size, 0, none⟩) n n, below_alloc1 _ _, ⟨_, vs.toList, upd_self _ _ _, ⟨by simpa using hl, .inr ⟨w.heap.size, n, vs, rfl, Nat.zero_le _, heap_alloc_new w _, Nat.le_refl _, hm, hl, ?_⟩⟩, ?_⟩, fun g hg => ?_, ?_⟩
  · rw [List.take_of_length_le (by simp [hl])]
  · refine reps_mono (upd_le hn _) (fun tb g hg => ?_) (fun _ _ e => e) _ _ hr
    exact (below_alloc1 w (.cells vs e)).block g (h.lt0 g (Fs_f0 h.sub tb g hg))
  · simp [blkOf] at hg; omega
  · simp only [repV, rep]
    exact ⟨upd_self _ _ _, rfl⟩
end
end Go.Vm
end

section
namespace Go.Vm
open Go Go.RowKit
set_option linter.unusedVariables false
set_option linter.unusedSimpArgs false
section
variable {ρ : Operand → Option PV} {H : Id → Option Blk} {C : Ctx} {φ φ' : Id → Option Value} {F : Bool → Nat → Prop} {F0 F1 : Nat → Prop} {σ : St} {a : Act} {w w' : World} {P : Program} {i : Id} {p : PV} {ob : Option Blk}

theorem none_out {x : Value} (h : repV φ w F p x) : AddOut φ w F i p none x w := ⟨rfl, h⟩

def Runs (C : Ctx) (φ : Id → Option Value) (F : Bool → Nat → Prop) (i : Id) (a : Act) (w : World) (o : Oper) (p : PV) (ob : Option Blk) : Prop :=
  ∃ x w', (execOp a.eval o).run C.P w = .ok (.value x) w' ∧ AddOut φ w F i p ob x w'

variable {d : Option Tmp} {ty : TypeId} {pos : String} {af : Array Edge} {gd : Option (Nat × Bool)}

theorem vAdd_pick (h : RelX C φ F0 F1 σ a w) (V : View φ w (Fs F0 F1) a σ ρ H) {c x y : Operand} (hv : vAdd C.P i ρ H (.pick c x y) = some (p, ob)) :
    Runs C φ (Fs F0 F1) i a w ⟨d, .pick c x y, ty, pos, af, gd⟩ p ob := by
  simp only [vAdd] at hv
  split at hv
  · rename_i hc
    obtain ⟨pc, hc1, hc2⟩ := Option.bind_eq_some_iff.1 hc
    obtain ⟨q, hq, he⟩ := Option.map_eq_some_iff.1 hv
    cases he
    exact ⟨_, w, by simp [execOp, asB_rep (V.ev hc1) hc2, asBool], none_out (V.ev hq)⟩
  · rename_i hc
    obtain ⟨pc, hc1, hc2⟩ := Option.bind_eq_some_iff.1 hc
    obtain ⟨q, hq, he⟩ := Option.map_eq_some_iff.1 hv
    cases he
    exact ⟨_, w, by simp [execOp, asB_rep (V.ev hc1) hc2, asBool], none_out (V.ev hq)⟩
  · cases hv

theorem vAdd_alloc (h : RelX C φ F0 F1 σ a w) (V : View φ w (Fs F0 F1) a σ ρ H) (hn : φ i = none) {t : TypeId} (hv : vAdd C.P i ρ H (.alloc t) = some (p, ob)) :
    Runs C φ (Fs F0 F1) i a w ⟨d, .alloc t, ty, pos, af, gd⟩ p ob := by
  simp only [vAdd] at hv
  obtain ⟨cs, hc, he⟩ := Option.map_eq_some_iff.1 hv
  cases he
  obtain ⟨z, hz, rfl, hr⟩ := zero_rep (φ := φ) (w := w) (F := Fs F0 F1) hc
  refine ⟨_, _, ?_, box_out h hn hr⟩
  simp [execOp, Instr.alloc, run_zeroValue' hz, newVar, newRow]

theorem vAdd_box (h : RelX C φ F0 F1 σ a w) (V : View φ w (Fs F0 F1) a σ ρ H) (hn : φ i = none) {t : TypeId} {x : Operand} (hv : vAdd C.P i ρ H (.box t x) = some (p, ob)) :
    Runs C φ (Fs F0 F1) i a w ⟨d, .box t x, ty, pos, af, gd⟩ p ob := by
  simp only [vAdd] at hv
  obtain ⟨cs, hc, he⟩ := Option.map_eq_some_iff.1 hv
  cases he
  obtain ⟨q, hq, hc⟩ := Option.bind_eq_some_iff.1 hc
  refine ⟨_, _, ?_, box_out h hn (cells_rep (V.ev hq) hc)⟩
  simp [execOp, Instr.box, newVar, newRow]

theorem vAdd_load (h : RelX C φ F0 F1 σ a w) (V : View φ w (Fs F0 F1) a σ ρ H) {t : TypeId} {x : Operand} (hv : vAdd C.P i ρ H (.load t x) = some (p, ob)) :
    Runs C φ (Fs F0 F1) i a w ⟨d, .load t x, ty, pos, af, gd⟩ p ob := by
  simp only [vAdd] at hv
  obtain ⟨ys, hy, hv⟩ := Option.bind_eq_some_iff.1 hv
  obtain ⟨q, hq, hy⟩ := Option.bind_eq_some_iff.1 hy
  obtain ⟨r, hr, he⟩ := Option.map_eq_some_iff.1 hv
  cases he
  obtain ⟨ad, hx, hy⟩ := behind_rep h V.heap (V.ev hq) hy
  obtain ⟨v, hl, hr⟩ := run_takeT (P := C.P) hy hr
  exact ⟨v, w, by simp [execOp, Instr.loadAt, hx, Instr.sureAddr, hl], none_out hr⟩

theorem vAdd_nilCheck (h : RelX C φ F0 F1 σ a w) (V : View φ w (Fs F0 F1) a σ ρ H) {x : Operand} (hv : vAdd C.P i ρ H (.nilCheck x) = some (p, ob)) :
    Runs C φ (Fs F0 F1) i a w ⟨d, .nilCheck x, ty, pos, af, gd⟩ p ob := by
  simp only [vAdd] at hv
  split at hv
  · rename_i j off hx
    cases hv
    have hr := V.ev hx
    have hr' := hr
    simp only [repV, rep] at hr
    obtain ⟨u, g, _, _, hx⟩ := hr
    exact ⟨a.eval x, w, by simp [execOp, hx], none_out hr'⟩
  · rename_i t ys hx
    cases hv
    have hr := V.ev hx
    have hr' := hr
    simp only [repV, rep] at hr
    obtain ⟨ad, hx, _⟩ := hr
    exact ⟨a.eval x, w, by simp [execOp, hx], none_out hr'⟩
  · cases hv

theorem vbin_one {op : BinOp} {t : TypeId} {u v r : Value} (h : vbin P op t u v = some r) : r.oneCell' = true := by
  unfold vbin at h
  split at h
  · split at h
    · cases op <;> simp only [vbinI] at h <;> first
        | (cases h; rfl)
        | (split at h <;> cases h; rfl)
    · cases h
  · cases op <;> simp only [vbinS] at h <;> first
      | (cases h; rfl)
      | (cases h; done)
      | (split at h <;> cases h; rfl)
  · split at h
    · split at h
      · cases h; rfl
      · cases h
    · split at h
      · cases h; rfl
      · cases h
    · cases h
  · cases h

theorem run_eqScalar {t : TypeId} {u v : Value} {b : Bool} (d : Nat) (h : eqScalar P t u v = some b) : (Op.equalIn (d + 1) t u v).run P w = .ok b w := by
  unfold eqScalar at h
  split at h
  · rename_i hu
    split at h
    · rename_i hk
      cases h
      subst hk
      exact run_equalIn_int w d t _ _ _ _ hu
    · cases h
  · rename_i hu
    cases h
    exact run_equalIn_string w d t _ _ hu
  · rename_i hu
    cases h
    exact run_equalIn_bool' w d t _ _ hu
  · cases h

theorem run_eqFieldsT {ps qs : List PC} {xs ys : Array Value} (hx : reps φ w F ps xs.toList) (hy : reps φ w F qs ys.toList) (d : Nat) : ∀ (fs : List Field) (b : Bool), eqFieldsT P ps qs fs = some b → (Op.eqFields (d + 1) xs ys fs).run P w = .ok b w
  | [], b, h => by simp only [eqFieldsT] at h; cases h; simp [Op.eqFields]
  | f :: fs, b, h => by
    simp only [eqFieldsT] at h
    split at h
    · rename_i hn
      split at h
      · rename_i u v hu hv ha
        split at h
        · rename_i b1 r hb hr
          cases h
          obtain ⟨x', hx1, hx2⟩ := reps_get _ _ hx _ _ hu
          obtain ⟨y', hy1, hy2⟩ := reps_get _ _ hy _ _ hv
          simp only [rep] at hx2 hy2
          obtain ⟨rfl, _⟩ := hx2
          obtain ⟨rfl, _⟩ := hy2
          have hx1' : xs[f.offset]? = some x' := by simpa using hx1
          have hy1' : ys[f.offset]? = some y' := by simpa using hy1
          simp only [Op.eqFields, if_pos hn, part, Sem.run_bind, run_isAgg' ha, Result.andThen_ok, Bool.false_eq_true, if_false, hx1', hy1', Sem.run_pure, run_eqScalar d hb]
          cases b1
          · simp
          · simpa using run_eqFieldsT hx hy d fs r hr
        · cases h
      · cases h
    · cases h

theorem run_vbinA {op : BinOp} {t : TypeId} {ps qs : List PC} {r : Value} {xs ys : Array Value} (h : vbinA P op t ps qs = some r) (hx : reps φ w F ps xs.toList) (hy : reps φ w F qs ys.toList) :
    ∃ b, r = .bool b ∧ (∀ x y, (eqGuard op t x y (.agg xs) (.agg ys)).run P w = .ok () w) ∧ (binOp op t (.agg xs) (.agg ys)).run P w = .ok r w := by
  unfold vbinA at h
  split at h
  · rename_i fs hu
    split at h
    · rename_i hok
      simp only [eqOkT, Bool.and_eq_true, Bool.not_eq_true'] at hok
      have hfo : P.fieldsOf t = fs := by simp [Program.fieldsOf, hu]
      have heq : ∀ b, eqFieldsT P ps qs fs.toList = some b → (Op.equalIn 10000 t (.agg xs) (.agg ys)).run P w = .ok b w := by
        intro b hb
        rw [run_equalIn_agg w 9999 t xs ys (by rw [hfo]; exact hu) hok.1, hfo]
        exact run_eqFieldsT hx hy 9998 _ _ hb
      split at h
      · rename_i b hb
        cases h
        exact ⟨b, rfl, fun x y => run_eqGuard_agg w _ t x y xs ys hok.2, by rw [run_eql_struct, heq b hb]; rfl⟩
      · rename_i b hb
        cases h
        exact ⟨_, rfl, fun x y => run_eqGuard_agg w _ t x y xs ys hok.2, by rw [run_neq_struct, heq b hb]; rfl⟩
      · cases h
    · cases h
  · cases h

theorem vAdd_binOp (h : RelX C φ F0 F1 σ a w) (V : View φ w (Fs F0 F1) a σ ρ H) {op : BinOp} {t t' : TypeId} {x y : Operand} (hv : vAdd C.P i ρ H (.binOp op t x y t') = some (p, ob)) :
    Runs C φ (Fs F0 F1) i a w ⟨d, .binOp op t x y t', ty, pos, af, gd⟩ p ob := by
  simp only [vAdd] at hv
  split at hv
  · rename_i u v hx hy
    obtain ⟨r, hr, he⟩ := Option.map_eq_some_iff.1 hv
    cases he
    have hx' := V.ev hx
    have hy' := V.ev hy
    simp only [repV, rep] at hx' hy'
    refine ⟨r, w, ?_, none_out (by simp only [repV, rep]; exact ⟨trivial, vbin_one hr⟩)⟩
    simp [execOp, hx'.1, hy'.1, eqGuard_plain hr, run_vbin hr]
  · rename_i ps qs hx hy
    obtain ⟨r, hr, he⟩ := Option.map_eq_some_iff.1 hv
    cases he
    have hx' := V.ev hx
    have hy' := V.ev hy
    simp only [repV] at hx' hy'
    obtain ⟨xs, hx', hxr⟩ := hx'
    obtain ⟨ys, hy', hyr⟩ := hy'
    obtain ⟨b, hrb, hg, hrun⟩ := run_vbinA (w := w) hr hxr hyr
    refine ⟨r, w, ?_, none_out (by simp only [repV, rep]; exact ⟨trivial, by rw [hrb]; rfl⟩)⟩
    simp [execOp, hx', hy', hg x y, hrun]
  · cases hv

theorem vAdd_unOp (h : RelX C φ F0 F1 σ a w) (V : View φ w (Fs F0 F1) a σ ρ H) {op : UnOp} {t : TypeId} {x : Operand} (hv : vAdd C.P i ρ H (.unOp op t x) = some (p, ob)) :
    Runs C φ (Fs F0 F1) i a w ⟨d, .unOp op t x, ty, pos, af, gd⟩ p ob := by
  simp only [vAdd] at hv
  split at hv
  · rename_i u hx
    obtain ⟨r, hr, he⟩ := Option.map_eq_some_iff.1 hv
    cases he
    have hx' := V.ev hx
    simp only [repV, rep] at hx'
    refine ⟨r, w, ?_, none_out (by
      simp only [repV, rep]
      refine ⟨trivial, ?_⟩
      unfold vun at hr
      split at hr <;> cases hr <;> rfl)⟩
    simp [execOp, hx'.1, run_vun hr]
  · cases hv

theorem vAdd_convert (h : RelX C φ F0 F1 σ a w) (V : View φ w (Fs F0 F1) a σ ρ H) {s t : TypeId} {x : Operand} (hv : vAdd C.P i ρ H (.convert s t x) = some (p, ob)) :
    Runs C φ (Fs F0 F1) i a w ⟨d, .convert s t x, ty, pos, af, gd⟩ p ob := by
  simp only [vAdd] at hv
  split at hv
  · rename_i k0 n d' k hx hs hd
    cases hv
    obtain ⟨q, hq, hx⟩ := Option.bind_eq_some_iff.1 hx
    refine ⟨.int k (k.wrap n), w, ?_, none_out (by simp only [repV, rep]; exact ⟨trivial, rfl⟩)⟩
    simp [execOp, asI_rep (V.ev hq) hx, convert, run_underlying hs, run_underlying hd, Conv.intToInt]
  · cases hv

theorem repVs_get : ∀ (ps : List PV) (xs : List Value), repVs φ w F ps xs → ∀ (j : Nat) (p : PV), ps[j]? = some p → ∃ v, xs[j]? = some v ∧ repV φ w F p v
  | [], xs, _, j, p, hp => by simp at hp
  | q :: ps, xs, h, j, p, hp => by
    simp only [repVs] at h
    obtain ⟨v, vs', rfl, hr, h⟩ := h
    cases j with
    | zero => simp at hp; subst hp; exact ⟨v, rfl, hr⟩
    | succ j => simpa using repVs_get ps vs' h j p (by simpa using hp)

theorem vAdd_extract (h : RelX C φ F0 F1 σ a w) (V : View φ w (Fs F0 F1) a σ ρ H) {x : Operand} {j : Nat} (hv : vAdd C.P i ρ H (.extract x j) = some (p, ob)) :
    Runs C φ (Fs F0 F1) i a w ⟨d, .extract x j, ty, pos, af, gd⟩ p ob := by
  simp only [vAdd] at hv
  split at hv
  · rename_i vs hx
    obtain ⟨r, hr, he⟩ := Option.map_eq_some_iff.1 hv
    cases he
    have hx' := V.ev hx
    simp only [repV] at hx'
    obtain ⟨xs, hx', hrs⟩ := hx'
    obtain ⟨v, hv, hr'⟩ := repVs_get _ _ hrs j _ hr
    exact ⟨v, w, by
      have : xs[j]? = some v := by simpa using hv
      simp [execOp, hx', Instr.extract, this], none_out hr'⟩
  · cases hv

theorem vAdd_fieldAddr (h : RelX C φ F0 F1 σ a w) (V : View φ w (Fs F0 F1) a σ ρ H) {s : TypeId} {x : Operand} {f : Nat} (hv : vAdd C.P i ρ H (.fieldAddr s x f) = some (p, ob)) :
    Runs C φ (Fs F0 F1) i a w ⟨d, .fieldAddr s x f, ty, pos, af, gd⟩ p ob := by
  simp only [vAdd] at hv
  split at hv
  · rename_i fd hf
    split at hv
    · rename_i m hs
      obtain ⟨q, hq, he⟩ := Option.map_eq_some_iff.1 hv
      cases he
      obtain ⟨r, hr, hq⟩ := Option.bind_eq_some_iff.1 hq
      obtain ⟨ad, hx, hr'⟩ := shiftA_rep (V.ev hr) hq
      refine ⟨_, w, ?_, none_out hr'⟩
      unfold fieldT at hf
      split at hf
      · rename_i fs hu
        simp [execOp, Instr.fieldAt, run_underlying hu, hf, hx, Instr.sureAddr, fieldPlace, run_sizeOf' hs]
      · cases hf
    · cases hv
  · cases hv

theorem vAdd_field (h : RelX C φ F0 F1 σ a w) (V : View φ w (Fs F0 F1) a σ ρ H) {t : TypeId} {x : Operand} {f : Nat} (hv : vAdd C.P i ρ H (.field t x f) = some (p, ob)) :
    Runs C φ (Fs F0 F1) i a w ⟨d, .field t x f, ty, pos, af, gd⟩ p ob := by
  simp only [vAdd] at hv
  split at hv
  · rename_i fd ps hf hx
    obtain ⟨q, hq, he⟩ := Option.map_eq_some_iff.1 hv
    cases he
    have hx' := V.ev hx
    simp only [repV] at hx'
    obtain ⟨vs, hx', hrs⟩ := hx'
    unfold fieldT at hf
    split at hf
    · rename_i fs hu
      unfold takeT at hq
      split at hq
      · rename_i hagg
        split at hq
        · rename_i sz hs
          split at hq
          · cases hq
            rename_i hle
            refine ⟨.agg (vs.extract fd.offset (fd.offset + sz)), w, ?_, none_out ?_⟩
            · simp [execOp, Instr.field, run_underlying hu, hf, hx', asAgg, part, run_isAgg' hagg, run_sizeOf' hs]
            · simp only [repV]
              refine ⟨_, rfl, ?_⟩
              have := reps_take (reps_drop hrs fd.offset) sz
              simpa [Array.toList_extract, List.extract_eq_take_drop] using this
          · cases hq
        · cases hq
      · rename_i hagg
        split at hq
        · rename_i q qs hd
          cases hq
          have hq0 : ps[fd.offset]? = some q := by
            have : (ps.drop fd.offset)[0]? = some q := by rw [hd]; rfl
            simpa using this
          obtain ⟨v, hv, hr⟩ := reps_get _ _ hrs _ _ hq0
          refine ⟨v, w, ?_, none_out (by simpa [repV] using hr)⟩
          have hv' : vs[fd.offset]? = some v := by simpa using hv
          simp [execOp, Instr.field, run_underlying hu, hf, hx', asAgg, part, run_isAgg' hagg, hv']
        · cases hq
      · cases hq
    · cases hf
  · cases hv
end
end Go.Vm
end

section
namespace Go.Vm
open Go Go.RowKit
set_option linter.unusedVariables false
set_option linter.unusedSimpArgs false
section
variable {ρ : Operand → Option PV} {H : Id → Option Blk} {C : Ctx} {φ φ' : Id → Option Value} {F : Bool → Nat → Prop} {F0 F1 : Nat → Prop} {σ : St} {a : Act} {w w' : World} {P : Program} {i : Id} {p : PV} {ob : Option Blk}
variable {d : Option Tmp} {ty : TypeId} {pos : String} {af : Array Edge} {gd : Option (Nat × Bool)}

theorem run_indexAt' {t e : TypeId} {s : Nat} (hu : P.underlying t = some (.slice e)) (hs : szT P e = some s) (ad : Addr) (len cap : Nat) (k : IntKind) (j : Int) (h0 : 0 ≤ j) (h1 : j < len) (w : World) :
    (Instr.indexAt t (.slice (some ad) len cap) (.int k j)).run P w = .ok (.pointer (some (ad.add (j.toNat * s)))) w := by
  simp [Instr.indexAt, run_underlying hu, asIntOf, h0, h1, run_sizeOf' hs]

theorem elemT_spec {t e : TypeId} (h : elemT P t = some e) : P.underlying t = some (.slice e) := by
  unfold elemT at h
  split at h
  · cases h; assumption
  · cases h

theorem vAdd_indexAddr (h : RelX C φ F0 F1 σ a w) (V : View φ w (Fs F0 F1) a σ ρ H) {t : TypeId} {x j : Operand} (hv : vAdd C.P i ρ H (.indexAddr t x j) = some (p, ob)) :
    Runs C φ (Fs F0 F1) i a w ⟨d, .indexAddr t x j, ty, pos, af, gd⟩ p ob := by
  simp only [vAdd] at hv
  split at hv
  · rename_i q k n hx hj
    obtain ⟨r, hr, he⟩ := Option.map_eq_some_iff.1 hv
    cases he
    obtain ⟨qj, hqj, hj⟩ := Option.bind_eq_some_iff.1 hj
    have hxr := V.ev hx
    have hjr := asI_rep (V.ev hqj) hj
    unfold vidx at hr
    split at hr
    · split at hr
      · rename_i e he
        split at hr
        · rename_i s hs
          split at hr
          · cases hr
            rename_i hb
            simp only [repV, rep] at hxr
            obtain ⟨A, cap, hxe, hle, hd⟩ := hxr
            rcases hd with ⟨hz, _⟩ | ⟨ad, rfl, hF, hat⟩
            · omega
            · refine ⟨_, w, ?_, none_out (p := .one (.at _ _)) (x := .pointer (some (ad.add (n.toNat * s)))) ?_⟩
              · simp only [execOp, hxe, hjr, Sem.run_bind, run_indexAt' (elemT_spec he) hs _ _ _ _ _ hb.1 hb.2, Result.andThen_ok, Sem.run_pure]
              · simp only [repV, rep]
                exact ⟨_, rfl, by rw [add_block]; exact hF, repAt_drop hat _⟩
          · cases hr
        · cases hr
      · cases hr
    · split at hr
      · rename_i e he
        split at hr
        · rename_i s _ sz m _ hs hH
          split at hr
          · cases hr
            rename_i hb
            simp only [repV, rep] at hxr
            obtain ⟨hφ, _⟩ := hxr
            have hh := h.heap _ _ (V.heap hH)
            obtain ⟨v, vs, hv', ⟨hl, ho⟩, hrs⟩ := hh
            rw [hφ] at hv'
            cases hv'
            rcases ho with ⟨_, hz⟩ | ⟨g, cap, cur, hve, _, hc, hn, _, _, _⟩
            · omega
            · refine ⟨_, w, ?_, none_out (p := .one (.loc _ (n.toNat * s))) (x := .pointer (some ((⟨g, 0, none⟩ : Addr).add (n.toNat * s)))) ?_⟩
              · simp only [execOp, hve, hjr, Sem.run_bind, run_indexAt' (elemT_spec he) hs _ _ _ _ _ hb.1 hb.2, Result.andThen_ok, Sem.run_pure]
              · simp only [repV, rep]
                exact ⟨_, g, hφ, by rw [hve]; rfl, by rw [Addr.add_lit, Nat.zero_add]⟩
          · cases hr
        · cases hr
      · cases hr
    · cases hr
  · cases hv

theorem vAdd_index (h : RelX C φ F0 F1 σ a w) (V : View φ w (Fs F0 F1) a σ ρ H) {t : TypeId} {x j : Operand} (hv : vAdd C.P i ρ H (.index t x j) = some (p, ob)) :
    Runs C φ (Fs F0 F1) i a w ⟨d, .index t x j, ty, pos, af, gd⟩ p ob := by
  simp only [vAdd] at hv
  split at hv
  · rename_i s k n hx hj hu
    split at hv
    · cases hv
      rename_i hb
      obtain ⟨qx, hqx, hx⟩ := Option.bind_eq_some_iff.1 hx
      obtain ⟨qj, hqj, hj⟩ := Option.bind_eq_some_iff.1 hj
      refine ⟨_, w, ?_, none_out (p := .one (.c (.int .u8 (byteAt s n.toNat).toNat))) (x := .int .u8 (byteAt s n.toNat).toNat) (by simp only [repV, rep]; exact ⟨trivial, rfl⟩)⟩
      have hlt : n.toNat < s.size := by omega
      have hg : s[n.toNat]? = some (byteAt s n.toNat) := by
        have h1 : s[n.toNat]? = some (s[n.toNat]'hlt) := getElem?_pos s n.toNat hlt
        rw [h1]
        congr 1
        unfold byteAt
        have h2 : n.toNat < s.data.toList.length := by simpa using hlt
        rw [List.getD_eq_getElem?_getD, List.getElem?_eq_getElem h2]
        simp
        rfl
      simp [execOp, asS_rep (V.ev hqx) hx, asI_rep (V.ev hqj) hj, Instr.index, asIntOf, run_underlying hu, hb.1, hg]
    · cases hv
  · cases hv

theorem vAdd_slice (h : RelX C φ F0 F1 σ a w) (V : View φ w (Fs F0 F1) a σ ρ H) {t : TypeId} {x : Operand} {lo hi mx : Option Operand} (hv : vAdd C.P i ρ H (.slice t x lo hi mx) = some (p, ob)) :
    Runs C φ (Fs F0 F1) i a w ⟨d, .slice t x lo hi mx, ty, pos, af, gd⟩ p ob := by
  simp only [vAdd] at hv
  split at hv
  · rename_i s hx hu
    split at hv
    · rename_i k1 l k2 hh hl hh'
      split at hv
      · cases hv
        rename_i hb
        obtain ⟨qx, hqx, hx⟩ := Option.bind_eq_some_iff.1 hx
        refine ⟨_, w, ?_, none_out (p := .one (.c (.string (s.extract l.toNat hh.toNat)))) (x := .string (s.extract l.toNat hh.toNat)) (by simp only [repV, rep]; exact ⟨trivial, rfl⟩)⟩
        have e1 : ∀ y : Nat, hh ≤ y → ∀ v : Value, v = .int .i64 hh ∨ (∃ k, v = .int k hh) → True := fun _ _ _ _ => trivial
        cases lo with
        | none =>
          simp at hl
          obtain ⟨_, rfl⟩ := hl
          cases hi with
          | none =>
            simp at hh'
            obtain ⟨_, rfl⟩ := hh'
            simp [execOp, asS_rep (V.ev hqx) hx, Instr.sliceAt, Instr.slice, run_underlying hu, Instr.sliceBounds]
          | some hi =>
            simp only at hh'
            obtain ⟨qh, hqh, hh'⟩ := Option.bind_eq_some_iff.1 hh'
            simp [execOp, asS_rep (V.ev hqx) hx, Instr.sliceAt, Instr.slice, run_underlying hu, Instr.sliceBounds, Instr.sliceBound, asI_rep (V.ev hqh) hh', asIntOf, hb.2.1, hb.2.2]
        | some lo =>
          simp only at hl
          obtain ⟨ql, hql, hl⟩ := Option.bind_eq_some_iff.1 hl
          cases hi with
          | none =>
            simp at hh'
            obtain ⟨_, rfl⟩ := hh'
            have h2 : l ≤ (s.size : Int) := hb.2.1
            simp [execOp, asS_rep (V.ev hqx) hx, Instr.sliceAt, Instr.slice, run_underlying hu, Instr.sliceBounds, Instr.sliceBound, asI_rep (V.ev hql) hl, asIntOf, hb.1, h2]
          | some hi =>
            simp only at hh'
            obtain ⟨qh, hqh, hh'⟩ := Option.bind_eq_some_iff.1 hh'
            have h3 : 0 ≤ hh := by omega
            have h4 : l ≤ max hh 0 := by omega
            simp [execOp, asS_rep (V.ev hqx) hx, Instr.sliceAt, Instr.slice, run_underlying hu, Instr.sliceBounds, Instr.sliceBound, asI_rep (V.ev hql) hl, asI_rep (V.ev hqh) hh', asIntOf, hb.1, hb.2.2, h3, h4]
      · cases hv
    · cases hv
  · cases hv
end
end Go.Vm
end
