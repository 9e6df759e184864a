/-
  Abstract states over the model's worlds, and that a step of them is a step of the program: part F of a framework. Conditions: each theorem's own premises. By an AI agent.
-/
import Derived.Test.YtnpbndglolcilaaDoorVmE
namespace Go.Vm
open Go Go.RowKit
set_option linter.unusedVariables false
set_option linter.unusedSimpArgs false

def partsOf (ρ : Operand → Option PV) : List (Nat × Operand) → Option (List (Nat × PV))
  | [] => some []
  | (k, x) :: rest =>
    match ρ x, partsOf ρ rest with
    | some p, some ps => some ((k, p) :: ps)
    | _, _ => none

def onesOf : List (Nat × PV) → Option (List PC)
  | [] => some []
  | (_, .one p) :: rest =>
    match onesOf rest with
    | some ps => some (p :: ps)
    | none => none
  | _ => none

def zeroCellsT (P : Program) (t : TypeId) : Option (List PC) :=
  match zeroT P t with
  | some z => if z.cells.toList.all (fun u => u.oneCell') then some (z.cells.toList.map .c) else none
  | none => none

def placeOf (P : Program) (fs : Array Field) (k : Nat) : Option (Nat × Nat) :=
  match fs[k]? with
  | some f => (szT P f.type).map fun s => (f.offset, s)
  | none => none
def placesT (P : Program) (t : TypeId) : Option (Nat → Option (Nat × Nat)) :=
  match P.underlying t with
  | some (.struct fs) => if fs.toList.all (fun f => (szT P f.type).isSome) then some (placeOf P fs) else none
  | _ => none

/-- n zero elements. -/
def rowZ (cs : List PC) : Nat → List PC
  | 0 => []
  | n + 1 => cs ++ rowZ cs n

theorem rowZ_eq (cs : List PC) (n : Nat) (h : 0 < cs.length) : rowZ cs n = (List.range (n * cs.length)).map fun q => cs.getD (q % cs.length) (.c undef) := by
  induction n with
  | zero => simp [rowZ]
  | succ n ih =>
    rw [rowZ, ih]
    have hs : (n + 1) * cs.length = n * cs.length + cs.length := Nat.succ_mul _ _
    apply List.ext_getElem?
    intro j
    rw [List.getElem?_append, List.getElem?_map, List.getElem?_map]
    by_cases hj : j < cs.length
    · rw [if_pos hj]
      rw [List.getElem?_range (by omega)]
      simp [Nat.mod_eq_of_lt hj, List.getD, List.getElem?_eq_getElem hj]
    · rw [if_neg hj]
      by_cases hj2 : j < (n + 1) * cs.length
      · rw [List.getElem?_range hj2, List.getElem?_range (by omega)]
        simp only [Option.map_some]
        rw [Nat.mod_eq_sub_mod (show cs.length ≤ j by omega)]
      · rw [List.getElem?_eq_none (by simp; omega), List.getElem?_eq_none (by simp; omega)]

def vlen (H : Id → Option Blk) : PV → Option Nat
  | .one (.sl _ n _) => some n
  | .one (.own i) =>
    match H i with
    | some (.arr _ _ n _) => some n
    | _ => none
  | .one (.c (.slice none 0 0)) => some 0
  | .one (.c (.string s)) => some s.size
  | _ => none

def lenOk (P : Program) (t : TypeId) : PV → Bool
  | .one (.c (.string _)) => match P.underlying t with | some .string => true | _ => false
  | _ => match P.underlying t with | some (.slice _) => true | _ => false

def vidx (P : Program) (H : Id → Option Blk) (t : TypeId) (j : Int) : PV → Option PV
  | .one (.sl b n xs) =>
    match elemT P t with
    | some e =>
      match szT P e with
      | some s => if 0 ≤ j ∧ j < n then some (.one (.at b (xs.drop (j.toNat * s)))) else none
      | none => none
    | none => none
  | .one (.own i) =>
    match elemT P t with
    | some e =>
      match szT P e, H i with
      | some s, some (.arr _ _ n _) => if 0 ≤ j ∧ j < n then some (.one (.loc i (j.toNat * s))) else none
      | _, _ => none
    | none => none
  | _ => none

/-- Are two scalars of type t alike? -/
def eqScalar (P : Program) (t : TypeId) (u v : Value) : Option Bool :=
  match u, v, P.underlying t with
  | .int k a, .int k' b, some (.int _) => if k = k' then some (a == b) else none
  | .string a, .string b, some .string => some (a.toList == b.toList)
  | .bool a, .bool b, some .bool => some (a == b)
  | _, _, _ => none

def eqFieldsT (P : Program) (ps qs : List PC) : List Field → Option Bool
  | [] => some true
  | f :: fs =>
    if f.name ≠ "_" then
      match ps[f.offset]?, qs[f.offset]?, isAggT P f.type with
      | some (.c u), some (.c v), some false =>
        match eqScalar P f.type u v, eqFieldsT P ps qs fs with
        | some b, some r => some (b && r)
        | _, _ => none
      | _, _, _ => none
    else none

def eqOkT (P : Program) (t : TypeId) : Bool := !(P.stoodInHeld t) && !(P.eqGuardType P.depth t)

/-- Two structs of scalars, compared. -/
def vbinA (P : Program) (op : BinOp) (t : TypeId) (ps qs : List PC) : Option Value :=
  match P.underlying t with
  | some (.struct fs) =>
    if eqOkT P t = true then
      match eqFieldsT P ps qs fs.toList, op with
      | some b, .eql => some (.bool b)
      | some b, .neq => some (.bool (!b))
      | _, _ => none
    else none
  | _ => none

/-- What an operation gives that only computes, reads, or makes one block. -/
def vAdd (P : Program) (i : Id) (ρ : Operand → Option PV) (H : Id → Option Blk) : Op → Option (PV × Option Blk)
  | .move x => (ρ x).map (·, none)
  | .assign x => (ρ x).map (·, none)
  | .pick c x y =>
    match (ρ c).bind asB with
    | some true => (ρ x).map (·, none)
    | some false => (ρ y).map (·, none)
    | none => none
  | .alloc t => (zeroCellsT P t).map fun cs => (.one (.loc i 0), some (.box t cs))
  | .box t x => ((ρ x).bind PV.cells).map fun cs => (.one (.loc i 0), some (.box t cs))
  | .load t x => ((ρ x).bind (behind H)).bind fun ys => (takeT P t ys).map (·, none)
  | .nilCheck x =>
    match ρ x with
    | some (.one (.loc j o)) => some (.one (.loc j o), none)
    | some (.one (.at t ys)) => some (.one (.at t ys), none)
    | _ => none
  | .binOp op t x y _ =>
    match ρ x, ρ y with
    | some (.one (.c u)), some (.one (.c v)) => (vbin P op t u v).map fun r => (.one (.c r), none)
    | some (.agg ps), some (.agg qs) => (vbinA P op t ps qs).map fun r => (.one (.c r), none)
    | _, _ => none
  | .unOp op _ x =>
    match ρ x with
    | some (.one (.c u)) => (vun op u).map fun r => (.one (.c r), none)
    | _ => none
  | .convert s d x =>
    match (ρ x).bind asI, P.underlying s, P.underlying d with
    | some (_, n), some _, some (.int k) => some (.one (.c (.int k (k.wrap n))), none)
    | _, _, _ => none
  | .extract x j =>
    match ρ x with
    | some (.tup vs) => (vs[j]?).map (·, none)
    | _ => none
  | .fieldAddr s x f =>
    match fieldT P s f with
    | some fd =>
      match szT P fd.type with
      | some (_ + 1) => ((ρ x).bind (shiftA fd.offset)).map (·, none)
      | _ => none
    | none => none
  | .field t x f =>
    match fieldT P t f, ρ x with
    | some fd, some (.agg ps) => (takeT P fd.type (ps.drop fd.offset)).map (·, none)
    | _, _ => none
  | .indexAddr t x j =>
    match ρ x, (ρ j).bind asI with
    | some p, some (_, k) => (vidx P H t k p).map (·, none)
    | _, _ => none
  | .index t x j =>
    match (ρ x).bind asS, (ρ j).bind asI, P.underlying t with
    | some s, some (_, k), some .string => if 0 ≤ k ∧ k < s.size then some (.one (.c (.int .u8 (byteAt s k.toNat).toNat)), none) else none
    | _, _, _ => none
  | .slice t x lo hi mx =>
    match (ρ x).bind asS, P.underlying t, mx with
    | some s, some .string, none =>
      match (match lo with | some l => (ρ l).bind asI | none => some (.i64, 0)), (match hi with | some h => (ρ h).bind asI | none => some (.i64, s.size)) with
      | some (_, l), some (_, h) => if 0 ≤ l ∧ l ≤ h ∧ h ≤ s.size then some (.one (.c (.string (s.extract l.toNat h.toNat))), none) else none
      | _, _ => none
    | _, _, _ => none
  | .build t parts =>
    match zeroCellsT P t, placesT P t, partsOf ρ parts.toList with
    | some cs, some pl, some ps => (vfill pl cs ps).map fun cs' => (.agg cs', none)
    | _, _, _ => none
  | .buildSlice t len parts =>
    match elemT P t with
    | some e =>
      match szT P e, zeroCellsT P e, partsOf ρ parts.toList with
      | some s, some cs, some ps =>
        if len * s ≤ 16777216 ∧ 0 < len ∧ 0 < s ∧ cs.length = s then
          (vfill (fun k => some (k * s, s)) (rowZ cs len) ps).map fun cs' => (.one (.own i), some (.arr e s len cs'))
        else none
      | _, _, _ => none
    | none => none
  | .makeSlice t n m =>
    match elemT P t, (ρ n).bind asI, (ρ m).bind asI with
    | some e, some (_, n'), some (_, m') =>
      match szT P e, bytesT P e, zeroCellsT P e with
      | some s, some b, some cs =>
        if 0 ≤ n' ∧ n' = m' ∧ b * n' ≤ 140737488355328 ∧ n' ≤ 140737488355328 ∧ 0 < s ∧ cs.length = s then
          some (.one (.own i), some (.arr e s n'.toNat (rowZ cs n'.toNat)))
        else none
      | _, _, _ => none
    | _, _, _ => none
  | .call c =>
    match c.callee with
    | .builtin .len =>
      match c.args.toList, c.argTypes.toList with
      | [x], [t] =>
        match ρ x with
        | some p => if lenOk P t p then (vlen H p).map fun (n : Nat) => (PV.one (.c (.int .i64 (n : Int))), none) else none
        | none => none
      | _, _ => none
    | .builtin .min =>
      match c.args.toList with
      | [x, y] =>
        match (ρ x).bind asI, (ρ y).bind asI with
        | some (k, p), some (_, q) => some (.one (.c (.int k (if q < p then q else p))), none)
        | _, _ => none
      | _ => none
    | .builtin .max =>
      match c.args.toList with
      | [x, y] =>
        match (ρ x).bind asI, (ρ y).bind asI with
        | some (k, p), some (_, q) => some (.one (.c (.int k (if q > p then q else p))), none)
        | _, _ => none
      | _ => none
    | _ => none
  | .makeFunc (.func f) first caps =>
    if first.size = 0 then
      match partsOf ρ (caps.toList.map (0, ·)) with
      | some ps =>
        match onesOf ps with
        | some cs => some (.one (.fn f cs), none)
        | none => none
      | none => none
    else none
  | _ => none

/-- What it has come to. -/
def AddOut (φ : Id → Option Value) (w : World) (F : Bool → Nat → Prop) (i : Id) (p : PV) : Option Blk → Value → World → Prop
  | none, x, w' => w' = w ∧ repV φ w F p x
  | some b, x, w' => ∃ v, Below w.heap.size w w' ∧ holds (upd φ i (some v)) w' F i b ∧ (∀ g, blkOf v = some g → w.heap.size ≤ g) ∧ repV (upd φ i (some v)) w' F p x

section
variable {ρ : Operand → Option PV} {H : Id → Option Blk} {C : Ctx} {φ φ' : Id → Option Value} {F : Bool → Nat → Prop} {F0 F1 : Nat → Prop} {σ : St} {a : Act} {w w' : World} {P : Program} {i : Id} {o : Oper} {p : PV} {ob : Option Blk}

theorem partsOf_rep (h : RelX C φ F0 F1 σ a w) (V : View φ w (Fs F0 F1) a σ ρ H) : ∀ (l : List (Nat × Operand)) (ps : List (Nat × PV)), partsOf ρ l = some ps →
    ps.map (·.1) = (l.map fun x => (x.1, a.eval x.2)).map (·.1) ∧ ∀ (j : Nat) (p : Nat × PV) (v : Nat × Value), ps[j]? = some p → (l.map fun x => (x.1, a.eval x.2))[j]? = some v → repV φ w (Fs F0 F1) p.2 v.2
  | [], ps, hp => by simp [partsOf] at hp; subst hp; simp
  | (k, x) :: l, ps, hp => by
    simp only [partsOf] at hp
    split at hp
    · rename_i p ps' hx hl
      cases hp
      obtain ⟨h1, h2⟩ := partsOf_rep h V l ps' hl
      refine ⟨by simp [h1], fun j p v hq hv => ?_⟩
      cases j with
      | zero => simp at hq hv; subst hq hv; exact V.ev hx
      | succ j => exact h2 j p v (by simpa using hq) (by simpa using hv)
    · cases hp

theorem zero_rep {t : TypeId} {cs : List PC} (h : zeroCellsT P t = some cs) : ∃ z, zeroT P t = some z ∧ cs = z.cells.toList.map .c ∧ reps φ w F cs z.cells.toList := by
  unfold zeroCellsT at h
  split at h
  · rename_i z hz
    split at h
    · cases h
      rename_i hall
      refine ⟨z, hz, rfl, reps_of_get _ _ (by simp) fun j q u hq hu => ?_⟩
      rw [List.getElem?_map, hu] at hq
      simp at hq
      subst hq
      simp only [rep]
      exact ⟨trivial, List.all_eq_true.1 hall u (List.mem_of_getElem? hu)⟩
    · cases h
  · cases h

theorem upd_le (hn : φ i = none) (v : Value) : ∀ j u, φ j = some u → upd φ i (some v) j = some u := by
  intro j u hu
  by_cases hj : j = i
  · subst hj; rw [hn] at hu; cases hu
  · rw [upd_ne _ _ hj]; exact hu

theorem below_alloc1 (w : World) (o : Obj) : Below w.heap.size w (w.alloc o) := (Below.refl _ _).alloc (Nat.le_refl _) o

/-- A box of the call's own is made. -/
theorem box_out (h : RelX C φ F0 F1 σ a w) (hn : φ i = none) {t : TypeId} {cs : List PC} {vs : Array Value} (hr : reps φ w (Fs F0 F1) cs vs.toList) :
    AddOut φ w (Fs F0 F1) i (.one (.loc i 0)) (some (.box t cs)) (.pointer (some ⟨w.heap.size, 0, none⟩)) (w.alloc (.cells vs t)) := by
  refine ⟨.pointer (some ⟨w.heap.size, 0, none⟩), below_alloc1 _ _, ⟨w.heap.size, vs.toList, upd_self _ _ _, ?_, ?_⟩, fun g hg => ?_, ?_⟩
  · simpa using heap_alloc_new w (.cells vs t)
  · refine reps_mono (upd_le hn _) (fun tb g hg => ?_) (fun _ _ e => e) _ _ hr
    exact (below_alloc1 w (.cells vs t)).block g (h.lt0 g (Fs_f0 h.sub tb g hg))
  · simp [blkOf] at hg; omega
  · simp only [repV, rep]
    exact ⟨_, w.heap.size, upd_self _ _ _, rfl, rfl⟩

/-- A row of the call's own is made. -/
theorem row_out (h : RelX C φ F0 F1 σ a w) (hn : φ i = none) {e : TypeId} {s n : Nat} {cs : List PC} {vs : Array Value} (hr : reps φ w (Fs F0 F1) cs vs.toList) (hl : vs.size = n * s) (hm : n ≤ maxLen) :
    AddOut φ w (Fs F0 F1) i (.one (.own i)) (some (.arr e s n cs)) (.slice (some ⟨w.heap.size, 0, none⟩) n n) (w.alloc (.cells vs e)) := by
  refine ⟨.slice (some ⟨w.heap.size, 0, none⟩) n n, below_alloc1 _ _, ⟨_, vs.toList, upd_self _ _ _, ⟨by simpa using hl, .inr ⟨w.heap.size, n, vs, rfl, Nat.zero_le _, heap_alloc_new w _, Nat.le_refl _, hm, hl, ?_⟩⟩, ?_⟩, fun g hg => ?_, ?_⟩
  · rw [List.take_of_length_le (by simp [hl])]
  · refine reps_mono (upd_le hn _) (fun tb g hg => ?_) (fun _ _ e => e) _ _ hr
    exact (below_alloc1 w (.cells vs e)).block g (h.lt0 g (Fs_f0 h.sub tb g hg))
  · simp [blkOf] at hg; omega
  · simp only [repV, rep]
    exact ⟨upd_self _ _ _, rfl⟩
end
end Go.Vm
