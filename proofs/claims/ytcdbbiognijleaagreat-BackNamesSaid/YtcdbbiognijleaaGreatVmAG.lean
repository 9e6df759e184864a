/-
  Abstract states over the model's worlds, and that a step of them is a step of the program: part VmAG of a framework. Conditions: each theorem's own premises. By an AI agent.
-/
import Derived.Test.YtcdbbiognijleaaGreatVmAF
import Derived.Laws.BytesString
import Derived.WideLaws
import Derived.Lib.SliceRun
import Derived.WalkSpells
import Derived.CallsIn
import Derived.TacticsIn
section
namespace Go.Vm
open Go Go.RowKit
set_option linter.unusedVariables false
set_option linter.unusedSimpArgs false

/-- What is not looked at before it is wanted. -/
def Tok {α : Type} (_ : α) : Type := Unit
def tok {α : Type} (K : α) : Tok K := Unit.unit
def hold {α : Type} (K : α) (_ : Tok K) : α := K
theorem hold1 {α : Type} (K : α → Prop) (t : Tok K) (x : α) : hold K t x = K x := rfl
theorem hold2 {α β : Type} (K : α → β → Prop) (t : Tok K) (x : α) (y : β) : hold K t x y = K x y := rfl
theorem hold3 {α β γ : Type} (K : α → β → γ → Prop) (t : Tok K) (x : α) (y : β) (z : γ) : hold K t x y z = K x y z := rfl

/-- What an operation changes. -/
inductive Upd where
  | val (d : Option Nat) (p : PV)
  | new (d : Nat) (p : PV) (b : Blk)
  | call (d : Nat) (r : PV) (B : List Blk)
  | heap (i : Id) (b : Blk)
  | mv (d : Nat) (k : Option Id) (b : Blk)
  | io (d : Nat) (M : List Id) (r : PV) (B : List (Option Blk))

def Upd.app (σ : St) : Upd → St
  | .val none _ => σ
  | .val (some d) p => { σ with fr := upd σ.fr d (some p) }
  | .new d p b => { σ with fr := upd σ.fr d (some p), H := upd σ.H (σ.nx + d, 0) (some b), us := upd σ.us d true }
  | .call d r B => σ.called d r B
  | .heap i b => { σ with H := upd σ.H i (some b) }
  | .mv d k b => { σ with fr := upd σ.fr d (some (.one (.own (σ.nx + d, 0)))), H := upd (kill σ.H k) (σ.nx + d, 0) (some b), us := upd σ.us d true }
  | .io d M r B => σ.iod d M r B

/-- Its name is free. -/
def Upd.fresh (σ : St) : Upd → Prop
  | .val _ _ => True
  | .new d _ _ => σ.us d = false
  | .call d _ _ => σ.us d = false
  | .heap _ _ => True
  | .mv d _ _ => σ.us d = false
  | .io d _ _ _ => σ.us d = false

def setB (b : Blk) (off : Nat) (ps : List PC) : Blk :=
  match b with
  | .box ty cs => .box ty (splice cs off ps)
  | .arr ty z n cs => .arr ty z n (splice cs off ps)
  | .mp ty es => .mp ty es

/-- A store: where, and what lies there then. -/
def vstore (P : Program) (ρ : Operand → Option PV) (H : Id → Option Blk) (t : TypeId) (x y : Operand) : Option (Id × Blk) :=
  match ρ x, (ρ y).bind PV.cells, szT P t with
  | some (.one (.loc i off)), some ps, some s =>
    match H i with
    | some b => if ps.length = s ∧ 0 < s ∧ off + s ≤ b.cells.length then some (i, setB b off ps) else none
    | none => none
  | _, _, _ => none

/-- A map with one entry more. -/
def vmapUpd (P : Program) (ρ : Operand → Option PV) (H : Id → Option Blk) (t : TypeId) (m k x : Operand) : Option (Id × Blk) :=
  match ρ m, (ρ k).bind keyOf, P.underlying t, (ρ x).bind oneP with
  | some (.one (.own j)), some kv, some (.map kt _), some p =>
    match H j, P.underlying kt with
    | some (.mp mt es), some d =>
      match findE d kv es with
      | some none => if isKeyB d kv = true then some (j, .mp mt (es ++ [(kv, p)])) else none
      | _ => none
    | _, _ => none
  | _, _, _, _ => none

def vmapAll (P : Program) (ρ : Operand → Option PV) (H : Id → Option Blk) (t : TypeId) (m k x : Operand) : Option (Id × Blk) :=
  match vmapUpd P ρ H t m k x with
  | some y => some y
  | none => vmapUpdK P ρ H t m k x

def bytesOf : List PC → Option (List Int)
  | [] => some []
  | .c (.int .u8 n) :: ps =>
    match bytesOf ps with
    | some ns => some (n :: ns)
    | none => none
  | _ => none
def ofBytes (ns : List Int) : ByteArray := ns.foldl (fun r n => r.push (UInt8.ofNat n.toNat)) ByteArray.empty

/-- A row of bytes made a string. -/
def vconv (P : Program) (ρ : Operand → Option PV) (H : Id → Option Blk) (s t : TypeId) (x : Operand) : Option ByteArray :=
  match (ρ x).bind (newsOf H 1), elemT P s, P.underlying t with
  | some (_, ys), some e, some .string =>
    match P.underlying e, bytesOf ys with
    | some (.int .u8), some ns => some (ofBytes ns)
    | _, _ => none
  | _, _, _ => none

def boolOf : PV → Option (Bool × Bool)
  | .one (.c (.bool b)) => some (true, b)
  | .may c (.one (.c (.bool b))) => some (c, b)
  | .tup [] => some (false, false)
  | _ => none

def pickB (v a b : Bool) : Bool := if v then a else b

/-- What an 'and' or an 'or' comes to; c0: it is only looked at if c0. -/
def vpick (c0 : Bool) (ρ : Operand → Option PV) (c x y : Operand) : Option Bool :=
  match (ρ c).bind boolOf, (ρ x).bind boolOf, (ρ y).bind boolOf with
  | some (cc, v), some (cx, bx), some (cy, b') =>
    if (!c0 || cc) = true ∧ (!(c0 && v) || cx) = true ∧ (!(c0 && !v) || cy) = true then some (pickB v bx b') else none
  | _, _, _ => none

/-- Part of a row that is read. -/
def vrow (P : Program) (ρ : Operand → Option PV) (t : TypeId) (b : Bool) (n : Nat) (xs : List PC) (lo hi : Option Operand) : Option PV :=
  match elemT P t, lowOf ρ lo, highOf ρ n hi with
  | some e, some l, some h =>
    match szT P e with
    | some s => if 0 ≤ l ∧ l ≤ h ∧ h ≤ n then some (.one (.sl b (h - l).toNat ((xs.drop (l.toNat * s)).take ((h - l).toNat * s)))) else none
    | none => none
  | _, _, _ => none

def isNilC : Operand → Nat
  | .const .nilIface => 1
  | .const (.slice none 0 0) => 2
  | _ => 0

/-- Whether a slice is nil. -/
def nilSl (H : Id → Option Blk) : PC → Option Bool
  | .c (.slice a _ _) => some a.isNone
  | .sl _ (_ + 1) _ => some false
  | .vw _ _ (_ + 1) => some false
  | .own i =>
    match H i with
    | some (.arr _ _ (_ + 1) _) => some false
    | _ => none
  | .cut i _ =>
    match H i with
    | some (.arr _ _ (_ + 1) _) => some false
    | _ => none
  | _ => none
def vnilS (P : Program) (H : Id → Option Blk) (op : BinOp) (t : TypeId) (p : Option PV) : Option Bool :=
  match P.underlying t with
  | some (.slice _) =>
    match p with
    | some (.one q) =>
      match nilSl H q, op with
      | some b, .eql => some b
      | some b, .neq => some (!b)
      | _, _ => none
    | _ => none
  | _ => none

/-- An interface value, compared with nil. -/
def vnilI (P : Program) (op : BinOp) (t : TypeId) (p : Option PV) : Option Bool :=
  match P.underlying t with
  | some (.interface _) =>
    match p, op with
    | some (.one .ifc), .eql => some false
    | some (.one .ifc), .neq => some true
    | some (.one (.c .nilIface)), .eql => some true
    | some (.one (.c .nilIface)), .neq => some false
    | _, _ => none
  | _ => none
def vnil (P : Program) (H : Id → Option Blk) (op : BinOp) (t : TypeId) (p : Option PV) : Nat → Option Bool
  | 1 => vnilI P op t p
  | _ => vnilS P H op t p

def valK (nt : Nat) (d : Option Nat) (K : Upd → Prop) (p : PV) : Prop :=
  match d with
  | none => False
  | some d => d < nt ∧ K (.val (some d) p)

def addK (nt : Nat) (d : Option Nat) (K : Upd → Prop) : Option (PV × Option Blk) → Prop
  | some (p, none) =>
    match d with
    | none => K (.val none p)
    | some d => d < nt ∧ K (.val (some d) p)
  | some (p, some b) =>
    match d with
    | none => False
    | some d => d < nt ∧ K (.new d p b)
  | none => False

def vAddK (P : Program) (nt nx : Nat) (ρ : Operand → Option PV) (H : Id → Option Blk) (d : Option Nat) (op : Op) (K : Upd → Prop) : Prop :=
  addK nt d K (vAll P (nx + d.getD 0, 0) ρ H op)

def heapK (K : Upd → Prop) : Option (Id × Blk) → Prop
  | some (i, b) => K (.heap i b)
  | none => False

def mvK (nt : Nat) (d : Option Nat) (K : Upd → Prop) : Option (Option Id × Blk) → Prop
  | some (i, b) =>
    match d with
    | none => False
    | some d => d < nt ∧ K (.mv d i b)
  | none => False

/-- What copy comes to: its block is written. -/
def copyK (nt : Nat) (d : Option Nat) (K : Upd → Prop) : Option (Nat × Option (Id × Blk)) → Prop
  | some (k, none) => valK nt d K (.one (.c (.int .i64 k)))
  | some (k, some (i, b)) =>
    match d with
    | none => False
    | some d => d < nt ∧ K (.io d [i] (.one (.c (.int .i64 k))) [some b])
  | none => False

/-- What append in place comes to: its block is written. -/
def inK (nt : Nat) (d : Option Nat) (K : Upd → Prop) : Id × Nat × Blk → Prop
  | (i, n, b) =>
    match d with
    | none => False
    | some d => d < nt ∧ K (.io d [i] (.one (.cut (0, 0) n)) [some b])

/-- What clear comes to: its block is written. -/
def clearK (d : Option Nat) (K : Upd → Prop) : Option (Option (Id × Blk)) → Prop
  | some none =>
    match d with
    | none => K (.val none (.one .emp))
    | some _ => False
  | some (some (i, b)) =>
    match d with
    | none => K (.heap i b)
    | some _ => False
  | none => False

/-- A callee's contract is asked for. -/
def callE (P : Program) (gw : World) (gb : Nat) (f : FuncId) (args : List PV) (sh : Bool) (K : PV → List Blk → Prop) : Prop :=
  ∃ r B, VCall P gw gb f args r B ∧ ((r.strict = true ∧ strictB B = true) ∨ sh = true) ∧ K r B

theorem callE_intro {P : Program} {gw : World} {gb : Nat} {f : FuncId} {args : List PV} {sh : Bool} {K : PV → List Blk → Prop} {r : PV} {B : List Blk} (h : VCall P gw gb f args r B) (hs : (r.strict = true ∧ strictB B = true) ∨ sh = true) (hk : K r B) :
    callE P gw gb f args sh K := ⟨r, B, h, hs, hk⟩

/-- A contract is asked for of a callee that is handed blocks. -/
def ioE (P : Program) (gw : World) (gb : Nat) (f : FuncId) (ps : List PV) (H : Id → Option Blk) (K : List Id → PV → List (Option Blk) → Prop) : Prop :=
  (∃ kd M bs args r B, (ps.map fun p => (cloV (hide M H) kd p).ioc M) = args ∧ args.all PV.tag0 = true ∧ gets H M = some bs ∧ tag0B (bs.map (Blk.ioc M)) = true ∧ nodup M = true ∧
    VCallIO P gw gb f args (bs.map (Blk.ioc M)) r B ∧ ((r.strict = true ∧ strictBO B = true) ∨ (ps.map (PV.ioc M)).all PV.tag0 = true) ∧ K M r B) ∨
  ∃ r B, VCall P gw gb f (ps.map (clrV H 8)) r B ∧ PV.frees (ps.map (clrV H 8)) = true ∧ (r.strict = true ∧ strictB B = true) ∧ K [] r (B.map some)

theorem ioE_introK {P : Program} {gw : World} {gb : Nat} {f : FuncId} {ps args : List PV} {H : Id → Option Blk} {K : List Id → PV → List (Option Blk) → Prop} {bs Hin : List Blk} {r : PV} {B : List (Option Blk)} (kd : Nat) (M : List Id) (h : VCallIO P gw gb f args Hin r B)
    (h1 : gets H M = some bs) (h2 : bs.map (Blk.ioc M) = Hin) (h3 : (ps.map fun p => (cloV (hide M H) kd p).ioc M) = args) (h4 : (args.all PV.tag0 && tag0B Hin && nodup M) = true) (hs : (r.strict = true ∧ strictBO B = true) ∨ (ps.map (PV.ioc M)).all PV.tag0 = true) (hk : K M r B) :
    ioE P gw gb f ps H K := by
  subst h2
  simp only [Bool.and_eq_true] at h4
  exact .inl ⟨kd, M, bs, args, r, B, h3, h4.1.1, h1, h4.1.2, h4.2, h, hs, hk⟩

theorem ioE_read {P : Program} {gw : World} {gb : Nat} {f : FuncId} {ps : List PV} {H : Id → Option Blk} {K : List Id → PV → List (Option Blk) → Prop} {r : PV} {B : List Blk} (h : VCall P gw gb f (ps.map (clrV H 8)) r B) (hf : PV.frees (ps.map (clrV H 8)) = true)
    (hs : r.strict = true ∧ strictB B = true) (hk : K [] r (B.map some)) : ioE P gw gb f ps H K := .inr ⟨r, B, h, hf, hs, hk⟩

def callK (C : Core) (H : Id → Option Blk) (d : Option Nat) (K : Upd → Prop) : Option (FuncId × List PV) → Prop
  | some (f, ps) =>
    match d with
    | none => False
    | some d => d < C.nt ∧ ((PV.frees (ps.map (cloV H 4)) = true ∧ callE C.P C.gw C.gb f (ps.map (cloV H 4)) (PV.frees ps) (hold (fun r B => K (.call d r B)) (tok _))) ∨ ioE C.P C.gw C.gb f ps H (hold (fun M r B => K (.io d M r B)) (tok _)))
  | none => False

def opK (C : Core) (nx : Nat) (ρ : Operand → Option PV) (H : Id → Option Blk) (d : Option Nat) (op : Op) (K : Upd → Prop) : Prop :=
  match op with
  | .call c =>
    match c.callee with
    | .value _ => callK C H d K (callOf ρ c)
    | .builtin .append =>
      match appC C.P ρ H c with
      | some x => inK C.nt d K x
      | none =>
        match appE C.P ρ H c with
        | some none => valK C.nt d K (.one .emp)
        | some (some b) => mvK C.nt d K (some (none, b))
        | none => mvK C.nt d K (vapp C.P ρ H c)
    | .builtin .copy => copyK C.nt d K (vcopy C.P ρ H c)
    | .builtin .clear => clearK d K (vclear C.P ρ H c)
    | _ => vAddK C.P C.nt nx ρ H d op K
  | .store t x y =>
    match d with
    | none => heapK K (vstore C.P ρ H t x y)
    | some _ => False
  | .mapUpdate t m k x =>
    match d with
    | none => heapK K (vmapAll C.P ρ H t m k x)
    | some _ => False
  | .insert t m k x =>
    match d with
    | none => heapK K (vmapAll C.P ρ H t m k x)
    | some _ => False
  | .pick c x y =>
    match vpick true ρ c x y with
    | some b => valK C.nt d K (.one (.c (.bool b)))
    | none => False
  | .binOp bop t x y _ =>
    match isNilC y with
    | 0 => vAddK C.P C.nt nx ρ H d op K
    | k + 1 =>
      match vnil C.P H bop t (ρ x) (k + 1) with
      | some b => valK C.nt d K (.one (.c (.bool b)))
      | none => False
  | .convert s t x =>
    match vconv C.P ρ H s t x with
    | some b => valK C.nt d K (.one (.c (.string b)))
    | none => vAddK C.P C.nt nx ρ H d op K
  | .slice t x lo hi mx =>
    match ρ x, mx with
    | some (.one (.sl b n xs)), none =>
      match vrow C.P ρ t b n xs lo hi with
      | some p => valK C.nt d K p
      | none => False
    | some (.one (.own _)), _ =>
      match C.cut with
      | true => vAddK C.P C.nt nx ρ H d op K
      | false =>
        match vcut C.P ρ H op with
        | some x => mvK C.nt d K (some (some x.1, x.2))
        | none => vAddK C.P C.nt nx ρ H d op K
    | _, _ => vAddK C.P C.nt nx ρ H d op K
  | _ => vAddK C.P C.nt nx ρ H d op K

def OpU (C : Core) (nx : Nat) (ρ : Operand → Option PV) (H : Id → Option Blk) (d : Option Nat) (op : Op) (U : Upd) : Prop := opK C nx ρ H d op (· = U)

section
variable {ρ : Operand → Option PV} {H : Id → Option Blk} {C : Ctx} {φ φ' : Id → Option Value} {F : Bool → Nat → Prop} {F0 F1 : Nat → Prop} {σ : St} {a : Act} {w w' : World} {P : Program}
  {nt nx : Nat} {d : Option Nat} {op : Op} {K : Upd → Prop}

theorem vAddK_elim (h : vAddK P nt nx ρ H d op K) : ∃ U, vAddK P nt nx ρ H d op (· = U) ∧ K U := by
  unfold vAddK addK at *
  split at h
  · split at h
    · exact ⟨_, by simp_all, h⟩
    · exact ⟨_, by simp_all, h.2⟩
  · split at h
    · exact h.elim
    · exact ⟨_, by simp_all, h.2⟩
  · exact h.elim

theorem mvK_elim {o} (h : mvK nt d K o) : ∃ U, mvK nt d (· = U) o ∧ K U := by
  unfold mvK at *
  split at h
  · split at h
    · exact h.elim
    · exact ⟨_, by simp_all, h.2⟩
  · exact h.elim

theorem copyK_elim {o} (h : copyK nt d K o) : ∃ U, copyK nt d (· = U) o ∧ K U := by
  unfold copyK valK at *
  split at h
  · split at h
    · exact h.elim
    · exact ⟨_, ⟨h.1, rfl⟩, h.2⟩
  · split at h
    · exact h.elim
    · exact ⟨_, ⟨h.1, rfl⟩, h.2⟩
  · exact h.elim

theorem inK_elim {o} (h : inK nt d K o) : ∃ U, inK nt d (· = U) o ∧ K U := by
  obtain ⟨i, n, b⟩ := o
  unfold inK at *
  simp only at h ⊢
  split at h
  · exact h.elim
  · exact ⟨_, ⟨h.1, rfl⟩, h.2⟩

theorem clearK_elim {o} (h : clearK d K o) : ∃ U, clearK d (· = U) o ∧ K U := by
  unfold clearK at *
  split at h
  · split at h
    · exact ⟨_, rfl, h⟩
    · exact h.elim
  · split at h
    · exact ⟨_, rfl, h⟩
    · exact h.elim
  · exact h.elim

theorem opK_elim (h : opK C nx ρ H d op K) : ∃ U, OpU C nx ρ H d op U ∧ K U := by
  unfold OpU
  unfold opK at *
  split at h
  · split at h
    · unfold callK at *
      split at h
      · split at h
        · exact h.elim
        · obtain ⟨h1, ⟨h2, r, B, h3, h4, h5⟩ | ⟨kd, M, bs, args, r, B, e1, e2, e3, e4, e5, e6, e7, h5⟩ | ⟨r, B, q1, q2, q3, h5⟩⟩ := h
          · exact ⟨_, ⟨h1, .inl ⟨h2, r, B, h3, h4, rfl⟩⟩, h5⟩
          · exact ⟨_, ⟨h1, .inr (.inl ⟨kd, M, bs, args, r, B, e1, e2, e3, e4, e5, e6, e7, rfl⟩)⟩, h5⟩
          · exact ⟨_, ⟨h1, .inr (.inr ⟨r, B, q1, q2, q3, rfl⟩)⟩, h5⟩
      · exact h.elim
    · split at h
      · exact inK_elim h
      · split at h
        · unfold valK at *
          split at h
          · exact h.elim
          · exact ⟨_, ⟨h.1, rfl⟩, h.2⟩
        · exact mvK_elim h
        · exact mvK_elim h
    · exact copyK_elim h
    · exact clearK_elim h
    · rename_i hx1 hx2 hx3 hx4
      obtain ⟨U, hU, hK⟩ := vAddK_elim h
      refine ⟨U, ?_, hK⟩
      first
        | exact hU
        | (split
           · rename_i hc; exact absurd hc (hx1 _)
           · rename_i hc; exact absurd hc hx2
           · rename_i hc; exact absurd hc hx3
           · rename_i hc; exact absurd hc hx4
           · exact hU)
  · split at h
    · unfold heapK at *
      split at h
      · exact ⟨_, rfl, h⟩
      · exact h.elim
    · exact h.elim
  · split at h
    · unfold heapK at *
      split at h
      · exact ⟨_, rfl, h⟩
      · exact h.elim
    · exact h.elim
  · split at h
    · unfold heapK at *
      split at h
      · exact ⟨_, rfl, h⟩
      · exact h.elim
    · exact h.elim
  · split at h
    · unfold valK at *
      split at h
      · exact h.elim
      · exact ⟨_, ⟨h.1, rfl⟩, h.2⟩
    · exact h.elim
  · split at h
    · exact vAddK_elim h
    · split at h
      · unfold valK at *
        split at h
        · exact h.elim
        · exact ⟨_, ⟨h.1, rfl⟩, h.2⟩
      · exact h.elim
  · split at h
    · unfold valK at *
      split at h
      · exact h.elim
      · exact ⟨_, ⟨h.1, rfl⟩, h.2⟩
    · exact vAddK_elim h
  · split at h
    · split at h
      · unfold valK at *
        split at h
        · exact h.elim
        · exact ⟨_, ⟨h.1, rfl⟩, h.2⟩
      · exact h.elim
    · split at h
      · exact vAddK_elim h
      · split at h
        · exact mvK_elim h
        · exact vAddK_elim h
    · exact vAddK_elim h
  · exact vAddK_elim h

theorem bytesOf_vals : ∀ (ys : List PC) (ns : List Int) (vs : List Value), bytesOf ys = some ns → reps φ w F ys vs → vs = ns.map (Value.int .u8)
  | [], ns, vs, h, hr => by
    simp only [bytesOf] at h; cases h
    simpa only [reps, List.map_nil] using hr
  | .c (.int .u8 n) :: ps, ns, vs, h, hr => by
    simp only [bytesOf] at h
    split at h
    · rename_i ns' hns
      cases h
      simp only [reps, rep] at hr
      obtain ⟨v, vs', rfl, ⟨rfl, _⟩, hr⟩ := hr
      rw [bytesOf_vals ps ns' vs' hns hr, List.map_cons]
    · cases h

variable {ty : TypeId} {pos : String} {af : Array Edge} {gd : Option (Nat × Bool)} {K' : Act → World → Prop} {Q : Exit → Act → World → Prop} {U : Upd}

theorem value_wp {d : Option Nat} {x : Value} {w' : World} (hr : (execOp a.eval ⟨d, op, ty, pos, af, gd⟩).run C.P w = .ok (.value x) w') (h : K' (a.put d x) w') : Oper.wp C.P ⟨d, op, ty, pos, af, gd⟩ a w K' Q := by
  unfold Oper.wp
  rw [hr, Oper.upon_value]
  exact h

theorem boolOf_rep {p : PV} {x : Value} {c b : Bool} (hr : repV φ w F p x) (h : boolOf p = some (c, b)) (hc : c = true) : x = .bool b := by
  unfold boolOf at h
  split at h
  · cases h
    simp only [repV, rep] at hr
    exact hr.1
  · cases h
    simp only [repV, rep] at hr
    exact (hr.1 hc).1
  · cases h
    cases hc
  · cases h

theorem vpick_run {c x y : Operand} {c0 b : Bool} {d : Option Nat} (V : View φ w (Fs F0 F1) a σ ρ H) (h0 : c0 = true) (h : vpick c0 ρ c x y = some b) : (execOp a.eval ⟨d, .pick c x y, ty, pos, af, gd⟩).run C.P w = .ok (.value (.bool b)) w := by
  subst h0
  unfold vpick at h
  split at h
  · rename_i cc v cx bx cy b' hc hx hy
    split at h
    · rename_i hcond
      cases h
      obtain ⟨pc, hpc, hc⟩ := Option.bind_eq_some_iff.1 hc
      obtain ⟨px, hpx, hx⟩ := Option.bind_eq_some_iff.1 hx
      obtain ⟨py, hpy, hy⟩ := Option.bind_eq_some_iff.1 hy
      simp only [Bool.not_true, Bool.false_or, Bool.true_and] at hcond
      have e := boolOf_rep (V.ev hpc) hc hcond.1
      cases v
      · have := boolOf_rep (V.ev hpy) hy (by simpa using hcond.2.2)
        simp [execOp, e, asBool, this, pickB]
      · have := boolOf_rep (V.ev hpx) hx (by simpa using hcond.2.1)
        simp [execOp, e, asBool, this, pickB]
    · cases h
  · cases h

theorem vrow_run {t : TypeId} {x : Operand} {lo hi : Option Operand} {b : Bool} {n : Nat} {xs : List PC} {p : PV} {d : Option Nat} (V : View φ w (Fs F0 F1) a σ ρ H) (hx : ρ x = some (.one (.sl b n xs))) (hp : vrow C.P ρ t b n xs lo hi = some p) :
    ∃ y, (execOp a.eval ⟨d, .slice t x lo hi none, ty, pos, af, gd⟩).run C.P w = .ok (.value y) w ∧ repV φ w (Fs F0 F1) p y := by
  unfold vrow at hp
  split at hp
  · rename_i e l h he hl hh
    split at hp
    · rename_i s hs
      split at hp
      · rename_i hc
        cases hp
        obtain ⟨h0, h1, h2⟩ := hc
        have hr := V.ev hx
        simp only [repV, rep] at hr
        obtain ⟨A, cap, hxe, hncap, hrow⟩ := hr
        have hlv : ∀ l' : Operand, lo = some l' → ∃ k, a.eval l' = .int k l := by
          rintro l' rfl
          simp only [lowOf] at hl
          obtain ⟨⟨k, l2⟩, hk, rfl⟩ := Option.map_eq_some_iff.1 hl
          obtain ⟨q, hq, hk⟩ := Option.bind_eq_some_iff.1 hk
          exact ⟨k, asI_rep (V.ev hq) hk⟩
        have hlo : lo = none → l = 0 := by rintro rfl; simpa [lowOf] using hl.symm
        have hhv : ∀ h' : Operand, hi = some h' → ∃ k, a.eval h' = .int k h := by
          rintro h' rfl
          simp only [highOf] at hh
          obtain ⟨⟨k, l2⟩, hk, rfl⟩ := Option.map_eq_some_iff.1 hh
          obtain ⟨q, hq, hk⟩ := Option.bind_eq_some_iff.1 hk
          exact ⟨k, asI_rep (V.ev hq) hk⟩
        have hhi : hi = none → h = n := by rintro rfl; simpa [highOf] using hh.symm
        have hnc : (n : Int) ≤ cap := by omega
        refine ⟨.slice (if cap = l.toNat then A else A.map (·.add (l.toNat * s))) (h - l).toNat (cap - l.toNat), ?_, ?_⟩
        · have e3 : h.toNat - l.toNat = (h - l).toNat := by omega
          simp only [execOp, Option.map_none, hxe, Instr.sliceAt, Sem.run_bind, run_underlying (elemT_spec he), Result.andThen_ok, Instr.slice, Instr.sliceBounds, Instr.sliceBound, asIntOf, Sem.run_pure]
          cases lo with
          | none =>
            have := hlo rfl
            subst this
            cases hi with
            | none =>
              have := hhi rfl
              subst this
              simp [run_sizeOf' hs]
            | some h' =>
              obtain ⟨k, hk⟩ := hhv h' rfl
              have hcap : h ≤ (cap : Int) := by omega
              simp [hk, run_sizeOf' hs, h1, hcap]
          | some l' =>
            obtain ⟨k1, hk1⟩ := hlv l' rfl
            cases hi with
            | none =>
              have := hhi rfl
              subst this
              simp [hk1, run_sizeOf' hs, h0, h1]
              omega
            | some h' =>
              obtain ⟨k, hk⟩ := hhv h' rfl
              have hcap : h ≤ (cap : Int) := by omega
              have hh0 : 0 ≤ h := by omega
              have hmax : l ≤ max h 0 := by omega
              simp [hk, hk1, run_sizeOf' hs, h0, hh0, hmax, hcap, e3]
        · simp only [repV, rep]
          refine ⟨_, _, rfl, by omega, ?_⟩
          rcases hrow with ⟨hn0, hxs⟩ | ⟨ad, rfl, hF, hat⟩
          · left
            subst hxs
            exact ⟨by omega, by simp⟩
          · by_cases hcl : cap = l.toNat
            · left
              have : (h - l).toNat = 0 := by omega
              exact ⟨this, by simp [this]⟩
            · right
              rw [if_neg hcl]
              exact ⟨ad.add (l.toNat * s), rfl, by rw [add_block]; exact hF, repAt_take (repAt_drop hat _) _⟩
      · cases hp
    · cases hp
  · cases hp

theorem methodsAt_of {P : Program} {t : TypeId} {ms : Array (String × TypeId)} (h : P.underlying t = some (.interface ms)) : P.underlying t = some (.interface (P.methodsAt t)) := by
  rw [h]; simp [Program.methodsAt, h]

theorem vnilI_run {bop : BinOp} {t yt : TypeId} {x y : Operand} {b : Bool} {d : Option Nat} (V : View φ w (Fs F0 F1) a σ ρ H) (hy : isNilC y = 1) (h : vnilI C.P bop t (ρ x) = some b) : (execOp a.eval ⟨d, .binOp bop t x y yt, ty, pos, af, gd⟩).run C.P w = .ok (.value (.bool b)) w := by
  unfold isNilC at hy
  split at hy
  · have hyc : a.eval (.const .nilIface) = .nilIface := rfl
    unfold vnilI at h
    split at h
    · rename_i ms hms
      have hm := methodsAt_of hms
      split at h
      · rename_i hx
        cases h
        have hr := V.ev hx
        simp only [repV, rep] at hr
        obtain ⟨u, v, hr⟩ := hr
        simp [execOp, hr, hyc, eqGuard_at_iface, run_eql_held_nil, hm]
      · rename_i hx
        cases h
        have hr := V.ev hx
        simp only [repV, rep] at hr
        obtain ⟨u, v, hr⟩ := hr
        simp [execOp, hr, hyc, eqGuard_at_iface, run_neq_held_nil, hm]
      · rename_i hx
        cases h
        have hr := V.ev hx
        simp only [repV, rep] at hr
        simp [execOp, hr.1, hyc, eqGuard_nil_constR, run_eql_nil_nil, hm]
      · rename_i hx
        cases h
        have hr := V.ev hx
        simp only [repV, rep] at hr
        simp [execOp, hr.1, hyc, eqGuard_nil_constR, run_neq_nil_nil, hm]
      · cases h
    · cases h
  · cases hy
  · cases hy

theorem eqGuard_at_sl {op : BinOp} {t : TypeId} {x y : Operand} {A : Option Addr} {n c : Nat} {v : Value} : eqGuard op t x y (.slice A n c) v = pure () := by cases op <;> rfl
theorem nilSl_rep (h : RelX C φ F0 F1 σ a w) (V : View φ w (Fs F0 F1) a σ ρ H) {q : PC} {v : Value} {b : Bool} (hb : nilSl H q = some b) (hr : rep φ w (Fs F0 F1) q v) : ∃ A n c, v = .slice A n c ∧ A.isNone = b := by
  have own : ∀ {i e z m cs x}, H i = some (.arr e z (m + 1) cs) → φ i = some x → ∃ g n c, x = .slice (some ⟨g, 0, none⟩) n c := by
    intro i e z m cs x hH hx
    obtain ⟨v, vs, hv, hrow, _⟩ := h.heap _ _ (V.heap hH)
    rw [hx] at hv; cases hv
    obtain ⟨_, ⟨_, h0⟩ | ⟨g, cap, cur, rfl, _⟩⟩ := hrow
    · cases h0
    · exact ⟨_, _, _, rfl⟩
  unfold nilSl at hb
  split at hb
  · cases hb
    simp only [rep] at hr
    exact ⟨_, _, _, hr.1, rfl⟩
  · cases hb
    simp only [rep] at hr
    obtain ⟨A, cap, rfl, _, ⟨h0, _⟩ | ⟨ad, rfl, _⟩⟩ := hr
    · cases h0
    · exact ⟨_, _, _, rfl, rfl⟩
  · cases hb
    simp only [rep] at hr
    obtain ⟨u, A, cap, _, rfl, _, h0 | ⟨g, _, rfl⟩⟩ := hr
    · cases h0
    · exact ⟨_, _, _, rfl, rfl⟩
  · split at hb
    · rename_i hH
      cases hb
      simp only [rep] at hr
      obtain ⟨g, n, c, rfl⟩ := own hH hr.1
      exact ⟨_, _, _, rfl, rfl⟩
    · cases hb
  · split at hb
    · rename_i hH
      cases hb
      simp only [rep] at hr
      obtain ⟨A, N, cap, hφ, _, rfl⟩ := hr
      obtain ⟨g, n, c, hx⟩ := own hH hφ
      cases hx
      exact ⟨_, _, _, rfl, rfl⟩
    · cases hb
  · cases hb

theorem vnilS_run {bop : BinOp} {t yt : TypeId} {x y : Operand} {b : Bool} {d : Option Nat} (hR : RelX C φ F0 F1 σ a w) (V : View φ w (Fs F0 F1) a σ ρ H) (hy : isNilC y = 2) (h : vnilS C.P H bop t (ρ x) = some b) : (execOp a.eval ⟨d, .binOp bop t x y yt, ty, pos, af, gd⟩).run C.P w = .ok (.value (.bool b)) w := by
  unfold isNilC at hy
  split at hy
  · cases hy
  · have hyc : a.eval (.const (.slice none 0 0)) = .slice none 0 0 := rfl
    unfold vnilS at h
    split at h
    · rename_i e he
      split at h
      · rename_i q hx
        have hr := V.ev hx
        simp only [repV] at hr
        split at h
        · rename_i b' hq
          cases h
          obtain ⟨A, n, c, hv, rfl⟩ := nilSl_rep hR V hq hr
          simp [execOp, hv, hyc, eqGuard_at_sl, Lib.run_eql_slice_nil _ _ _ _ _ _ _ _ he]
        · rename_i b' hq
          cases h
          obtain ⟨A, n, c, hv, rfl⟩ := nilSl_rep hR V hq hr
          simp [execOp, hv, hyc, eqGuard_at_sl, run_neq_slice_nil_any _ _ _ _ _ _ _ _ he]
        · cases h
      · cases h
    · cases h
  · cases hy

theorem vnil_run {bop : BinOp} {t yt : TypeId} {x y : Operand} {b : Bool} {d : Option Nat} {k : Nat} (hR : RelX C φ F0 F1 σ a w) (V : View φ w (Fs F0 F1) a σ ρ H) (hy : isNilC y = k + 1) (h : vnil C.P H bop t (ρ x) (k + 1) = some b) : (execOp a.eval ⟨d, .binOp bop t x y yt, ty, pos, af, gd⟩).run C.P w = .ok (.value (.bool b)) w := by
  have h2 : k + 1 = 1 ∨ k + 1 = 2 := by
    unfold isNilC at hy
    split at hy <;> omega
  rcases h2 with h2 | h2
  · rw [h2] at h hy; exact vnilI_run V hy h
  · rw [h2] at h hy; exact vnilS_run hR V hy h

theorem vAddK_sound (h : RelX C φ F0 F1 σ a w) (V : View φ w (Fs F0 F1) a σ ρ H) (hu : vAddK C.P C.nt σ.nx ρ H d op (· = U)) (hf : U.fresh σ) (hK : ∀ a' w', Rel C (U.app σ) a' w' → K' a' w') :
    Oper.wp C.P ⟨d, op, ty, pos, af, gd⟩ a w K' Q := by
  unfold vAddK addK at hu
  split at hu
  · rename_i p hv
    obtain ⟨x, w', hr, rfl, hx⟩ := vAll_sound (i := (σ.nx + d.getD 0, 0)) h V (by simp) ⟨d, op, ty, pos, af, gd⟩ hv
    refine value_wp hr (hK _ _ ?_)
    split at hu
    · subst hu
      exact ⟨φ, F0, F1, by simpa [Upd.app, Act.put] using h⟩
    · obtain ⟨hd, rfl⟩ := hu
      exact ⟨φ, F0, F1, h.put hd hx⟩
  · rename_i p b hv
    split at hu
    · exact hu.elim
    · rename_i d
      obtain ⟨hd, rfl⟩ := hu
      have hn : φ (σ.nx + d, 0) = none := h.fresh hf
      obtain ⟨x, w', hr, v, hb, hh, hg, hx⟩ := vAll_sound (i := (σ.nx + d, 0)) h V (fun _ => hn) ⟨some d, op, ty, pos, af, gd⟩ hv
      refine value_wp hr (hK _ _ ⟨_, F0, F1, ((h.below hb).bind rfl hn hh fun g hg' => ?_).put hd hx⟩)
      have h1 := hg g hg'
      refine ⟨fun h0 => ?_, fun h0 => ?_, Nat.le_trans (Nat.le_trans h.gbig h.big) h1, fun j u hj hu he => ?_⟩
      · have := h.lt0 g h0; omega
      · have := h.k0lt g h0; have := h.big; omega
      · obtain ⟨c, hc⟩ := Option.ne_none_iff_exists'.1 hj
        have := holds_lt (h.heap j c hc) hu he
        omega
  · exact hu.elim

theorem mvK_sound {o : Option (Option Id × Blk)} (hu : mvK C.nt d (· = U) o) (hs : ∀ i b t, o = some (i, b) → d = some t → σ.us t = false → ∃ x w' φ', (execOp a.eval ⟨some t, op, ty, pos, af, gd⟩).run C.P w = .ok (.value x) w' ∧
      RelX C φ' F0 F1 { σ with H := upd (kill σ.H i) (σ.nx + t, 0) (some b), us := upd σ.us t true } a w' ∧ repV φ' w' (Fs F0 F1) (.one (.own (σ.nx + t, 0))) x) (hf : U.fresh σ) (hK : ∀ a' w', Rel C (U.app σ) a' w' → K' a' w') :
    Oper.wp C.P ⟨d, op, ty, pos, af, gd⟩ a w K' Q := by
  unfold mvK at hu
  split at hu
  · split at hu
    · exact hu.elim
    · obtain ⟨hd, rfl⟩ := hu
      obtain ⟨x, w', φ', hr, hR, hx⟩ := hs _ _ _ rfl rfl hf
      exact value_wp hr (hK _ _ ⟨_, _, _, hR.put hd hx⟩)
  · exact hu.elim

theorem mapUpd_run (h : RelX C φ F0 F1 σ a w) (V : View φ w (Fs F0 F1) a σ ρ H) {t : TypeId} {m k x : Operand} {i : Id} {b : Blk} (hv : vmapUpd C.P ρ H t m k x = some (i, b)) :
    ∃ w', (Instr.mapUpdate t (a.eval m) (a.eval k) (a.eval x)).run C.P w = .ok () w' ∧ RelX C φ F0 F1 { σ with H := upd σ.H i (some b) } a w' := by
  unfold vmapUpd at hv
  split at hv
  · rename_i j kv kt vt p hm hk hu hx
    obtain ⟨pk, hpk, hkv⟩ := Option.bind_eq_some_iff.1 hk
    obtain ⟨px, hpx, hxv⟩ := Option.bind_eq_some_iff.1 hx
    have hmr := V.ev hm
    have hkr := keyOf_rep hkv (V.ev hpk)
    have hxr : rep φ w (Fs F0 F1) p (a.eval x) := by
      have := V.ev hpx
      unfold oneP at hxv
      split at hxv
      · cases hxv; simpa only [repV] using this
      · cases hxv
    simp only [repV, rep] at hmr
    split at hv
    · rename_i mt es dk hH hd
      have hHj := V.heap hH
      obtain ⟨g, ents, clock, hp, hheap, hkeys, hvals⟩ := h.heap _ _ hHj
      have hme : a.eval m = .map (some g) := Option.some.inj (hmr.1.symm.trans hp)
      split at hv
      · rename_i hfe
        split at hv
        rotate_left
        · cases hv
        rename_i hc
        cases hv
        have hkey := isKeyB_ok hc
        have h1 := findE_rep 0 hkeys hvals _ hfe
        refine ⟨{ w with heap := w.heap.setIfInBounds g (.map (ents.push { key := kv, val := a.eval x, born := clock }) (clock + 1)) }, ?_, ?_⟩
        · rw [hme, hkr]
          simp [Instr.mapUpdate, run_underlying hu, Go.MapKept.run_getObj_map hheap, Go.MapKept.run_checkKey hd hkey, Go.MapKept.run_findKey hd h1, Go.MapKept.run_setObj_map _ hheap, Result.andThen]
        · have hset := Go.MapKept.heap_set (o' := .map (ents.push { key := kv, val := a.eval x, born := clock }) (clock + 1)) hheap
          obtain ⟨hg0, _, _⟩ := h.apart _ _ g (by rw [hHj]; simp) hp rfl
          have hne : ∀ t' k, Fs F0 F1 t' k → k ≠ g := by
            rintro t' k hk rfl
            exact hg0 (Fs_f0 h.sub t' k hk)
          refine h.write (by rw [hHj]; simp) hp rfl rfl rfl rfl (by simp) (fun k hk => hset.2 k hk) ⟨g, _, _, hp, hset.1, ?_, ?_⟩
          · simp [hkeys]
          · have hr := reps_append hvals (show reps φ w (Fs F0 F1) [p] [a.eval x] by simp only [reps]; exact ⟨_, _, rfl, hxr, rfl⟩)
            have := reps_mono (φ' := φ) (w' := { w with heap := w.heap.setIfInBounds g (.map (ents.push { key := kv, val := a.eval x, born := clock }) (clock + 1)) }) (F' := Fs F0 F1) (fun _ _ e => e) (fun t' k hk => hset.2 k (hne t' k hk)) (fun _ _ e => e) _ _ hr
            simpa using this
      · cases hv
    · cases hv
  · cases hv

theorem mapAll_run (h : RelX C φ F0 F1 σ a w) (V : View φ w (Fs F0 F1) a σ ρ H) {t : TypeId} {m k x : Operand} {i : Id} {b : Blk} (hv : vmapAll C.P ρ H t m k x = some (i, b)) :
    ∃ w', (Instr.mapUpdate t (a.eval m) (a.eval k) (a.eval x)).run C.P w = .ok () w' ∧ RelX C φ F0 F1 { σ with H := upd σ.H i (some b) } a w' := by
  unfold vmapAll at hv
  split at hv
  · rename_i y hy; cases hv; exact mapUpd_run h V hy
  · exact mapUpdK_run h V hv

theorem iobs_allC {M : List Id} {s : Nat} : ∀ (cs : List PC), allC cs = true → PC.iobs M s cs = cs
  | [], _ => rfl
  | p :: ps, h => by
    cases p with
    | c v =>
      simp only [allC] at h
      simp only [PC.iobs, PC.iob, iobs_allC ps h]
    | _ => simp [allC] at h

/-- WHAT IS SAID OF AN OPERATION IS WHAT IT DOES. -/
theorem opU_sound (h : RelX C φ F0 F1 σ a w) (V : View φ w (Fs F0 F1) a σ ρ H) (hu : OpU C σ.nx ρ H d op U) (hf : U.fresh σ) (hK : ∀ a' w', Rel C (U.app σ) a' w' → K' a' w') :
    Oper.wp C.P ⟨d, op, ty, pos, af, gd⟩ a w K' Q := by
  unfold OpU opK at hu
  split at hu
  · rename_i c
    split at hu
    · unfold callK at hu
      split at hu
      · rename_i f ps hc
        split at hu
        · exact hu.elim
        · obtain ⟨hd, ⟨hfr, r, B, hv, hs, rfl⟩ | ⟨kd, M, bs, args, r, B, e1, e2, e3, e4, e5, hv, hs, rfl⟩ | ⟨r, B, hv, hfr, hs, rfl⟩⟩ := hu
          · rcases hs with hs | hs
            · exact call_ok h V hc hv hfr hs hd hf hK
            · exact call_ok_share h V hc hv hs hfr hd hf hK
          · exact io_ok h V hc e1 e2 e3 e4 e5 hv hs hd hf hK
          · exact read_ok h V hc hv hfr hs hd hf hK
      · exact hu.elim
    · rename_i hcal
      split at hu
      · rename_i o hv
        obtain ⟨i, k, b⟩ := o
        unfold inK at hu
        simp only at hu
        split at hu
        · exact hu.elim
        rename_i d
        obtain ⟨hd, rfl⟩ := hu
        obtain ⟨w', x, hrun, hi, hR, hx, e, n, cs, rfl, hcs⟩ := appC_run (d := some d) (ty := ty) (pos := pos) (af := af) (gd := gd) h V hcal hv
        refine value_wp hrun (hK _ _ ⟨φ, F0, F1, ?_⟩)
        have hput := hR.put (d := d) (p := .one (.cut i k)) (x := x) hd hx
        refine hput.weaken ⟨fun t p hp => ?_, fun j b' hj => ?_, fun d' hd' => ?_, rfl, fun t p hp => hp⟩
        · simpa [Upd.app, St.iod, PV.iob, PC.iob, outId] using hp
        · have hb : (Blk.iob [i] (σ.nx + d) (.arr e 1 n cs)) = .arr e 1 n cs := by
            simp only [Blk.iob]
            congr 1
            exact iobs_allC cs hcs
          simpa [Upd.app, St.iod, ioChg, applyC, outId, hb] using hj
        · simp only [Upd.app, St.iod]
          by_cases hdd : d' = d
          · subst hdd; exact upd_self _ _ _
          · rw [upd_ne _ _ hdd]; exact hd'
      rename_i hvC
      split at hu
      · rename_i hv
        unfold valK at hu
        split at hu
        · exact hu.elim
        · rename_i d
          obtain ⟨hd, rfl⟩ := hu
          obtain ⟨y, hrun, hy⟩ := appE_none (d := some d) (ty := ty) (pos := pos) (af := af) (gd := gd) h V hcal hv
          exact value_wp hrun (hK _ _ ⟨φ, F0, F1, h.put hd hy⟩)
      · rename_i b0 hv
        exact mvK_sound hu (fun i b t he hd hus => by cases he; subst hd; exact appE_some h V hcal hv hus) hf hK
      · exact mvK_sound hu (fun i b t hv hd hus => by subst hd; exact append_ok h V hcal hv hus) hf hK
    · rename_i hcal
      unfold copyK at hu
      split at hu
      · rename_i k hv
        unfold valK at hu
        split at hu
        · exact hu.elim
        · rename_i d
          obtain ⟨hd, rfl⟩ := hu
          obtain ⟨w', hrun, rfl⟩ := vcopy_run (d := some d) (ty := ty) (pos := pos) (af := af) (gd := gd) h V hcal hv
          exact value_wp hrun (hK _ _ ⟨φ, F0, F1, h.put hd (by simp only [repV, rep]; exact ⟨trivial, rfl⟩)⟩)
      · rename_i k i b hv
        split at hu
        · exact hu.elim
        · rename_i d
          obtain ⟨hd, rfl⟩ := hu
          obtain ⟨w', hrun, hi, _, hR, e, n, cs, rfl, hcs⟩ := vcopy_run (d := some d) (ty := ty) (pos := pos) (af := af) (gd := gd) h V hcal hv
          refine value_wp hrun (hK _ _ ⟨φ, F0, F1, ?_⟩)
          have hput := hR.put (d := d) (p := .one (.c (.int .i64 k))) (x := .int .i64 k) hd (by simp only [repV, rep]; exact ⟨trivial, rfl⟩)
          refine hput.weaken ⟨fun t p hp => ?_, fun j b' hj => ?_, fun d' hd' => ?_, rfl, fun t p hp => hp⟩
          · simpa [Upd.app, St.iod, PV.iob, PC.iob] using hp
          · have hb : (Blk.iob [i] (σ.nx + d) (.arr e 1 n cs)) = .arr e 1 n cs := by
              simp only [Blk.iob]
              congr 1
              exact iobs_allC cs hcs
            simpa [Upd.app, St.iod, ioChg, applyC, outId, hb] using hj
          · simp only [Upd.app, St.iod]
            by_cases hdd : d' = d
            · subst hdd; exact upd_self _ _ _
            · rw [upd_ne _ _ hdd]; exact hd'
      · exact hu.elim
    · rename_i hcal
      unfold clearK at hu
      split at hu
      · rename_i hv
        split at hu
        · subst hu
          obtain ⟨w', hrun, rfl⟩ := vclear_run (d := none) (ty := ty) (pos := pos) (af := af) (gd := gd) h V hcal hv
          exact value_wp hrun (hK _ _ ⟨φ, F0, F1, by simpa [Act.put, Upd.app] using h⟩)
        · exact hu.elim
      · rename_i i b hv
        split at hu
        · subst hu
          obtain ⟨w', hrun, hR⟩ := vclear_run (d := none) (ty := ty) (pos := pos) (af := af) (gd := gd) h V hcal hv
          exact value_wp hrun (hK _ _ ⟨φ, F0, F1, by simpa [Act.put, Upd.app, ClearPost] using hR⟩)
        · exact hu.elim
      · exact hu.elim
    · exact vAddK_sound h V hu hf hK
  · rename_i t x y
    split at hu
    · unfold heapK at hu
      split at hu
      rotate_left
      · exact hu.elim
      rename_i i b hv
      subst hu
      unfold vstore at hv
      split at hv
      · rename_i i' off ps s hx hy hs
        split at hv
        · rename_i b' hH
          split at hv
          · rename_i hc
            cases hv
            obtain ⟨q, hq, hps⟩ := Option.bind_eq_some_iff.1 hy
            obtain ⟨w', hr, hR⟩ := store_run h (V.ev hx) (V.heap hH) (V.ev hq) hps hs hc.1 hc.2.1 hc.2.2
            have hR := hR (setB b' off ps) (by cases b' <;> rfl)
            unfold Oper.wp
            simp only [execOp, Sem.run_bind, hr, Result.andThen_ok, Sem.run_pure, Oper.upon_skip]
            exact hK _ _ ⟨_, _, _, by simpa [Act.put, Upd.app] using hR⟩
          · cases hv
        · cases hv
      · cases hv
    · exact hu.elim
  · rename_i t m k x
    split at hu
    · unfold heapK at hu
      split at hu
      rotate_left
      · exact hu.elim
      rename_i i b hv
      subst hu
      obtain ⟨w', hr, hR⟩ := mapAll_run h V hv
      unfold Oper.wp
      simp only [execOp, Sem.run_bind, hr, Result.andThen_ok, Sem.run_pure, Oper.upon_skip]
      exact hK _ _ ⟨_, _, _, by simpa [Act.put, Upd.app] using hR⟩
    · exact hu.elim
  · rename_i t m k x
    split at hu
    · unfold heapK at hu
      split at hu
      rotate_left
      · exact hu.elim
      rename_i i b hv
      subst hu
      obtain ⟨w', hr, hR⟩ := mapAll_run h V hv
      unfold Oper.wp
      simp only [execOp, Sem.run_bind, hr, Result.andThen_ok, Sem.run_pure, Oper.upon_skip]
      exact hK _ _ ⟨_, _, _, by simpa [Act.put, Upd.app] using hR⟩
    · exact hu.elim
  · rename_i co x y
    split at hu
    · rename_i b hb
      unfold valK at hu
      split at hu
      · exact hu.elim
      · rename_i d
        obtain ⟨hd, rfl⟩ := hu
        exact value_wp (vpick_run V rfl hb) (hK _ _ ⟨φ, F0, F1, h.put hd (by simp only [repV, rep]; exact ⟨trivial, rfl⟩)⟩)
    · exact hu.elim
  · rename_i bop t x y yt
    split at hu
    · exact vAddK_sound h V hu hf hK
    · rename_i hy
      split at hu
      · rename_i b hb
        unfold valK at hu
        split at hu
        · exact hu.elim
        · rename_i d
          obtain ⟨hd, rfl⟩ := hu
          exact value_wp (vnil_run h V hy hb) (hK _ _ ⟨φ, F0, F1, h.put hd (by simp only [repV, rep]; exact ⟨trivial, rfl⟩)⟩)
      · exact hu.elim
  · rename_i s t x
    split at hu
    · rename_i b hb
      unfold valK at hu
      split at hu
      · exact hu.elim
      · rename_i d
        obtain ⟨hd, rfl⟩ := hu
        unfold vconv at hb
        split at hb
        · rename_i m ys e hx he ht
          split at hb
          · rename_i ns hu8 hns
            cases hb
            obtain ⟨q, hq, hx⟩ := Option.bind_eq_some_iff.1 hx
            obtain ⟨A, c, news, hxe, hA, hl, hr⟩ := newsOf_rep h V (V.ev hq) hx
            refine value_wp (x := .string (ofBytes ns)) (w' := w) ?_ (hK _ _ ⟨φ, F0, F1, h.put hd (by simp only [repV, rep]; exact ⟨trivial, rfl⟩)⟩)
            have hrun : (convert s t (a.eval x)).run C.P w = .ok (.string (ofBytes ns)) w := by
              rw [hxe, run_convert_bytes_string w s t e A m c (elemT_spec he) hu8 ht]
              have hnv : news = ns.map (Value.int .u8) := bytesOf_vals _ _ _ hns hr
              rcases hA with rfl | ⟨ad, rfl, hcell⟩
              · have hn : news = [] := List.eq_nil_of_length_eq_zero (by simpa using hl)
                have hns0 : ns = [] := by rw [hn] at hnv; simpa using hnv.symm
                subst hns0
                cases A with
                | none => rfl
                | some ad => exact run_bytesToString w ad 0 c [] (by simp [loadCells, loadCellsFrom])
              · refine run_bytesToString w ad m c ns ?_
                have := run_loadCells_list (P := C.P) w ad news hcell
                rw [show news.length = m by simpa using hl] at this
                rw [this, hnv]
            simp only [execOp, Sem.run_bind, hrun, Result.andThen_ok, Sem.run_pure]
          · cases hb
        · cases hb
    · exact vAddK_sound h V hu hf hK
  · rename_i t x lo hi mx
    split at hu
    · rename_i b n xs hx
      split at hu
      · rename_i p hp
        unfold valK at hu
        split at hu
        · exact hu.elim
        · rename_i d
          obtain ⟨hd, rfl⟩ := hu
          obtain ⟨y, hrun, hy⟩ := vrow_run (d := some d) (ty := ty) (pos := pos) (af := af) (gd := gd) V hx hp
          exact value_wp hrun (hK _ _ ⟨φ, F0, F1, h.put hd hy⟩)
      · exact hu.elim
    · split at hu
      · exact vAddK_sound h V hu hf hK
      · split at hu
        · rename_i q hq
          refine mvK_sound (F0 := F0) (F1 := F1) hu (fun i b t' hv hd hus => ?_) hf hK
          subst hd
          cases hv
          obtain ⟨x', φ', hr, hR, hx⟩ := cut_ok (i := q.1) (b := q.2) h V hq hus (ty := ty) (pos := pos) (af := af) (gd := gd)
          exact ⟨x', w, φ', hr, hR, hx⟩
        · exact vAddK_sound h V hu hf hK
    · exact vAddK_sound h V hu hf hK
  · exact vAddK_sound h V hu hf hK
end
end Go.Vm
end

section
namespace Go.Vm
open Go Go.RowKit
set_option linter.unusedVariables false
set_option linter.unusedSimpArgs false

/-- The operation is not wanted: its slot holds nothing. -/
def St.skip (σ : St) : Option Nat → St
  | none => σ
  | some d => { σ with fr := upd σ.fr d (some (.tup [])) }

/-- What a guard reads. -/
def gval : Option PV → Option (Option Bool)
  | some (.one (.c (.bool b))) => some (some b)
  | some (.one (.c v)) => some none
  | some (.tup _) => some none
  | _ => none

def gslot (ops : List Oper) (fr : Nat → Option PV) (g : Nat) : Option (Option Bool) :=
  match (ops[g]?).bind (·.dst) with
  | some t => gval (fr t)
  | none => none

def dOk (nt : Nat) : Option Nat → Prop
  | none => True
  | some d => d < nt

/-- The condition under which a guarded operation runs. -/
def gcond (ops : List Oper) (fr : Nat → Option PV) (g : Nat) (want : Bool) : Option Bool :=
  match ((ops[g]?).bind (·.dst)).bind fr with
  | some (.one (.c (.bool v))) => some (v == want)
  | some (.may c (.one (.c (.bool v)))) => some (c && (v == want))
  | some (.tup []) => some false
  | _ => none

/-- What is known if c. -/
def unm (c : Bool) (ρ : Operand → Option PV) (x : Operand) : Option PV :=
  match ρ x with
  | some (.may b p) => if (!c || b) = true then some p else none
  | q => q

def mayAddK (C : Core) (σ : St) (c : Bool) (d : Nat) (K : St → Prop) : Option (PV × Option Blk) → Prop
  | some (p, none) => d < C.nt ∧ K { σ with fr := upd σ.fr d (some (.may c p)) }
  | _ => False

def mayAdd (C : Core) (σ : St) (c : Bool) (d : Nat) (op : Op) (K : St → Prop) : Prop :=
  mayAddK C σ c d K (vAdd C.P (0, 0) (unm c (ev σ.fr)) σ.H op)

/-- A row that is built if c: it is only read. -/
def mayRowK (C : Core) (σ : St) (c : Bool) (d : Nat) (K : St → Prop) : Option (PV × Option Blk) → Prop
  | some (.one (.own j), some (.arr _ _ n cs)) => d < C.nt ∧ σ.us d = false ∧ j = (σ.nx + d, 0) ∧ PC.frees cs = true ∧ K { σ with fr := upd σ.fr d (some (.may c (.one (.sl true n cs)))) }
  | _ => False

def mayRow (C : Core) (σ : St) (c : Bool) (d : Nat) (op : Op) (K : St → Prop) : Prop :=
  mayRowK C σ c d K (vAdd C.P (σ.nx + d, 0) (unm c (ev σ.fr)) σ.H op)

def mayPickK (C : Core) (σ : St) (c : Bool) (d : Nat) (K : St → Prop) : Option Bool → Prop
  | some b => d < C.nt ∧ K { σ with fr := upd σ.fr d (some (.may c (.one (.c (.bool b))))) }
  | none => False

def mayCall (C : Core) (σ : St) (c : Bool) (d : Nat) (K : St → Prop) : Option (FuncId × List PV) → Prop
  | some (f, ps) => d < C.nt ∧ σ.us d = false ∧ PV.frees (ps.map (cloV σ.H 4)) = true ∧
    callE C.P C.gw C.gb f (ps.map (cloV σ.H 4)) (PV.frees ps) (hold (fun r B => B = [] ∧ K { σ with fr := upd σ.fr d (some (.may c (r.ren (σ.nx + d)))), us := upd σ.us d true }) (tok _))
  | none => False

def mayD (C : Core) (σ : St) (c : Bool) (d : Nat) (op : Op) (K : St → Prop) : Prop :=
  match op with
  | .pick x y z =>
    mayPickK C σ c d K (vpick c (ev σ.fr) x y z)
  | .buildSlice .. => mayRow C σ c d op K
  | .call cc =>
    match cc.callee with
    | .value _ => mayCall C σ c d K (callOf (unm c (ev σ.fr)) cc)
    | _ => mayAdd C σ c d op K
  | _ => mayAdd C σ c d op K

/-- An operation that runs if c. -/
def mayK (C : Core) (σ : St) (c : Bool) (d : Option Nat) (op : Op) (K : St → Prop) : Prop :=
  match d with
  | none => False
  | some d => mayD C σ c d op K

/-- A guarded operation: it runs, or it is left out, or either. -/
def guardR (C : Core) (ops : List Oper) (d : Option Nat) (op : Op) (g : Nat) (want : Bool) (σ : St) (R : St → Prop) : Prop :=
  (match gslot ops σ.fr g with
    | some v => if v = some want then opK C σ.nx (ev σ.fr) σ.H d op (hold (fun U => U.fresh σ ∧ R (U.app σ)) (tok _)) else dOk C.nt d ∧ R (σ.skip d)
    | none => False) ∨
  (match gcond ops σ.fr g want with
    | some c => mayK C σ c d op R
    | none => False)

theorem guardR_may {C : Core} {ops : List Oper} {d : Option Nat} {op : Op} {g : Nat} {want c : Bool} {σ : St} {R : St → Prop} (h : gcond ops σ.fr g want = some c) (hm : mayK C σ c d op R) : guardR C ops d op g want σ R := by
  unfold guardR
  rw [h]
  exact .inr hm

theorem guardR_run {C : Core} {ops : List Oper} {d : Option Nat} {op : Op} {g : Nat} {want : Bool} {σ : St} {R : St → Prop} (h : gslot ops σ.fr g = some (some want))
    (ht : opK C σ.nx (ev σ.fr) σ.H d op (hold (fun U => U.fresh σ ∧ R (U.app σ)) (tok _))) : guardR C ops d op g want σ R := by
  unfold guardR
  rw [h]
  left
  simp only [if_true]
  exact ht

theorem guardR_skip {C : Core} {ops : List Oper} {d : Option Nat} {op : Op} {g : Nat} {want : Bool} {v : Option Bool} {σ : St} {R : St → Prop} (h : gslot ops σ.fr g = some v)
    (hv : v ≠ some want) (hf : dOk C.nt d ∧ R (σ.skip d)) : guardR C ops d op g want σ R := by
  unfold guardR
  rw [h]
  left
  simp only [if_neg hv]
  exact hf

/-- The operations of a region, in text order. -/
def seqRun (C : Core) (ops : List Oper) : List Oper → St → (St → Prop) → Prop
  | [], σ, Q => Q σ
  | o :: rest, σ, Q =>
    match o.guard with
    | none => opK C σ.nx (ev σ.fr) σ.H o.dst o.op (hold (fun U => U.fresh σ ∧ seqRun C ops rest (U.app σ) Q) (tok _))
    | some (g, want) => guardR C ops o.dst o.op g want σ (hold (fun σ' => seqRun C ops rest σ' Q) (tok _))

section
variable {C : Ctx} {φ φ' : Id → Option Value} {F : Bool → Nat → Prop} {F0 F1 : Nat → Prop} {σ : St} {a : Act} {w w' : World} {P : Program}

theorem yielded_of (h : RelX C φ F0 F1 σ a w) {ops : List Oper} {g : Nat} {v : Option Bool} (hg : gslot ops σ.fr g = some v) : yielded ops.toArray a.tmps g = v := by
  unfold gslot at hg
  split at hg
  · rename_i t ht
    unfold yielded
    have ht' : (ops.toArray[g]?).bind (·.dst) = some t := by simpa using ht
    rw [ht']
    unfold gval at hg
    split at hg
    · rename_i b hb
      cases hg
      obtain ⟨x, hx, hr⟩ := h.frame t _ hb
      simp only [repV, rep] at hr
      simp [hx, hr.1]
    · rename_i u hne hb
      cases hg
      obtain ⟨x, hx, hr⟩ := h.frame t _ hb
      simp only [repV, rep] at hr
      obtain ⟨rfl, _⟩ := hr
      simp only [Option.bind_some, hx]
      cases x <;> simp_all
    · rename_i hb
      cases hg
      obtain ⟨x, hx, hr⟩ := h.frame t _ hb
      simp only [repV] at hr
      obtain ⟨xs, rfl, _⟩ := hr
      simp [hx]
    · cases hg
  · cases hg

theorem RelX.skip (h : RelX C φ F0 F1 σ a w) {d : Option Nat} (hd : dOk C.nt d) : RelX C φ F0 F1 (σ.skip d) (a.put d undef) w := by
  cases d with
  | none => simpa [St.skip, Act.put] using h
  | some d => exact h.put hd (by simp only [repV, repVs]; exact ⟨#[], rfl, rfl⟩)

theorem yielded_iff (h : RelX C φ F0 F1 σ a w) {ops : List Oper} {g : Nat} {want c : Bool} (hg : gcond ops σ.fr g want = some c) : yielded ops.toArray a.tmps g = some want ↔ c = true := by
  unfold gcond at hg
  have key : ∀ p, ((ops[g]?).bind (·.dst)).bind σ.fr = some p → ∃ x, yielded ops.toArray a.tmps g = (match x with | .bool b => some b | _ => none) ∧ repV φ w (Fs F0 F1) p x := by
    intro p hp
    obtain ⟨t, ht, hp⟩ := Option.bind_eq_some_iff.1 hp
    obtain ⟨x, hx, hr⟩ := h.frame t p hp
    refine ⟨x, ?_, hr⟩
    unfold yielded
    have ht' : (ops.toArray[g]?).bind (·.dst) = some t := by simpa using ht
    rw [ht', Option.bind_some, hx]
    cases x <;> rfl
  split at hg
  · rename_i v hv
    cases hg
    obtain ⟨x, hy, hr⟩ := key _ hv
    simp only [repV, rep] at hr
    rw [hy, hr.1]
    simp
  · rename_i c1 v hv
    cases hg
    obtain ⟨x, hy, hr⟩ := key _ hv
    simp only [repV, rep] at hr
    cases c1
    · rw [hy, hr.2 rfl]
      simp [undef]
    · rw [hy, (hr.1 rfl).1]
      simp
  · rename_i hv
    cases hg
    obtain ⟨x, hy, hr⟩ := key _ hv
    simp only [repV, repVs] at hr
    obtain ⟨xs, rfl, _⟩ := hr
    rw [hy]
    simp
  · cases hg

theorem unm_view (h : RelX C φ F0 F1 σ a w) {c : Bool} (hc : c = true) : View φ w (Fs F0 F1) a σ (unm c (ev σ.fr)) σ.H := by
  refine ⟨fun {x p} hx => ?_, fun e => e⟩
  unfold unm at hx
  split at hx
  · rename_i b q hq
    split at hx
    · rename_i hb
      cases hx
      have := ev_rep h hq
      simp only [repV] at this
      exact this.1 (by simpa [hc] using hb)
    · cases hx
  · exact ev_rep h hx

theorem RelX.undef (h : RelX C φ F0 F1 σ a w) {d : Nat} {p : PV} (hd : d < C.nt) : RelX C φ F0 F1 { σ with fr := upd σ.fr d (some (.may false p)) } (a.put (some d) undef) w :=
  h.put hd (by simp only [repV]; exact ⟨fun e => (by cases e), fun _ => trivial⟩)

theorem Rel.may {d : Nat} {p : PV} (h : Rel C { σ with fr := upd σ.fr d (some p) } a w) : Rel C { σ with fr := upd σ.fr d (some (.may true p)) } a w := by
  obtain ⟨φ, F0, F1, h⟩ := h
  refine ⟨φ, F0, F1, h.size, h.defs, fun t q hq => ?_, h.heap, h.inj, h.apart, h.sub, h.ini, h.new1, h.lt0, h.os, h.tape, h.output, h.big, h.kept, h.k0lt, h.gbig, h.glob, h.keep, h.nx1, h.ids, h.ghost⟩
  by_cases ht : t = d
  · subst ht
    simp only [upd_self] at hq
    cases hq
    obtain ⟨x, hx, hr⟩ := h.frame t p (by simp [upd_self])
    refine ⟨x, hx, ?_⟩
    simp only [repV]
    exact ⟨fun _ => hr, fun e => by cases e⟩
  · simp only [upd_ne _ _ ht] at hq
    exact h.frame t q (by simp only [upd_ne _ _ ht]; exact hq)

theorem mayAdd_run (h : RelX C φ F0 F1 σ a w) {c : Bool} (hc : c = true) {d : Nat} {op : Op} {ty : TypeId} {pos : String} {af : Array Edge} {gd : Option (Nat × Bool)} {K : St → Prop} {K' : Act → World → Prop} {Q' : Exit → Act → World → Prop} (hs : mayAdd C σ c d op K)
    (hK : ∀ σ' a' w', Rel C σ' a' w' → K σ' → K' a' w') : Oper.wp C.P ⟨some d, op, ty, pos, af, gd⟩ a w K' Q' := by
  unfold mayAdd mayAddK at hs
  split at hs
  · rename_i p hv
    obtain ⟨x, w', hr, rfl, hx⟩ := vAdd_sound (i := (0, 0)) h (unm_view h hc) (by simp) ⟨some d, op, ty, pos, af, gd⟩ hv
    refine value_wp hr (hK _ _ _ ⟨φ, F0, F1, h.put hs.1 ?_⟩ hs.2)
    simp only [repV]
    exact ⟨fun _ => hx, fun e => by rw [hc] at e; cases e⟩
  · exact hs.elim

theorem mayRow_run (h : RelX C φ F0 F1 σ a w) {c : Bool} (hc : c = true) {d : Nat} {op : Op} {ty : TypeId} {pos : String} {af : Array Edge} {gd : Option (Nat × Bool)} {K : St → Prop} {K' : Act → World → Prop} {Q' : Exit → Act → World → Prop} (hs : mayRow C σ c d op K)
    (hK : ∀ σ' a' w', Rel C σ' a' w' → K σ' → K' a' w') : Oper.wp C.P ⟨some d, op, ty, pos, af, gd⟩ a w K' Q' := by
  unfold mayRow mayRowK at hs
  split at hs
  · rename_i j e s n cs hv
    obtain ⟨hd, hus, rfl, hfr, hk⟩ := hs
    obtain ⟨x, w', hr, v, hb, hh, hg, hx⟩ := vAdd_sound (i := (σ.nx + d, 0)) h (unm_view h hc) (fun _ => h.fresh hus) ⟨some d, op, ty, pos, af, gd⟩ hv
    have hX : ∀ g, blkOf v = some g → w.heap.size ≤ g ∧ g < w'.heap.size := fun g hg' => ⟨hg g hg', holds_lt hh (upd_self _ _ _) hg'⟩
    have hR := h.grow hb (fun g => blkOf v = some g) hX
    refine value_wp hr (hK _ _ _ ⟨_, _, _, hR.put hd ?_⟩ hk)
    simp only [repV]
    refine ⟨fun _ => ?_, fun e => by rw [hc] at e; cases e⟩
    simp only [repV, rep] at hx ⊢
    obtain ⟨hx, _⟩ := hx
    rw [upd_self] at hx
    cases hx
    have hh' := hh
    obtain ⟨u, vs, hu, ⟨hl, ho⟩, hrs⟩ := hh
    rw [upd_self] at hu
    cases hu
    rcases ho with ⟨rfl, rfl⟩ | ⟨g, cap, cur, rfl, _, hcur, hn, _⟩
    · refine ⟨none, 0, rfl, Nat.le_refl _, .inl ⟨rfl, ?_⟩⟩
      exact List.length_eq_zero_iff.1 (by rw [← reps_length _ _ hrs, hl]; simp)
    · exact ⟨_, cap, rfl, hn, .inr ⟨_, rfl, .inr rfl, free_repAt (fun t g hg => by cases t <;> exact .inl hg) cs _ hfr (holds_repAt hh' (upd_self _ _ _) rfl)⟩⟩
  · exact hs.elim

theorem mayK_run (h : RelX C φ F0 F1 σ a w) {c : Bool} (hc : c = true) {o : Oper} {K : St → Prop} {K' : Act → World → Prop} {Q' : Exit → Act → World → Prop} (hs : mayK C σ c o.dst o.op K) (hK : ∀ σ' a' w', Rel C σ' a' w' → K σ' → K' a' w') : o.wp C.P a w K' Q' := by
  obtain ⟨d, op, ty, pos, af, gd⟩ := o
  cases d with
  | none => exact hs.elim
  | some d =>
    simp only [mayK] at hs
    cases op
    case pick x y z =>
      simp only [mayD] at hs
      unfold mayPickK at hs
      split at hs
      · rename_i b hb
        refine value_wp (vpick_run h.view hc hb) (hK _ _ _ ⟨φ, F0, F1, h.put hs.1 ?_⟩ hs.2)
        simp only [repV, rep]
        exact ⟨fun _ => ⟨trivial, rfl⟩, fun e => by rw [hc] at e; cases e⟩
      · exact hs.elim
    case buildSlice => exact mayRow_run h hc hs hK
    case call cc =>
      simp only [mayD] at hs
      split at hs
      · unfold mayCall at hs
        split at hs
        · rename_i f ps hcall
          obtain ⟨hd, hus, hfr, r, B, hv, hst, rfl, hk⟩ := hs
          have fin : ∀ a' w', Rel C (σ.called d r []) a' w' → K' a' w' := by
            intro a' w' hR
            refine hK _ _ _ ?_ hk
            have hB : bindB (σ.nx + d) [] σ.H = σ.H := by funext i; simp [bindB]
            unfold St.called at hR
            rw [hB] at hR
            subst hc
            exact Rel.may (σ := { σ with us := upd σ.us d true }) hR
          rcases hst with hst | hst
          · exact call_ok h (unm_view h hc) hcall hv hfr hst hd hus fin
          · exact call_ok_share h (unm_view h hc) hcall hv hst hfr hd hus fin
        · exact hs.elim
      · exact mayAdd_run h hc hs hK
    all_goals exact mayAdd_run h hc hs hK

theorem mayK_skip (h : RelX C φ F0 F1 σ a w) {c : Bool} (hc : c = false) {d : Option Nat} {op : Op} {K : St → Prop} (hs : mayK C σ c d op K) : ∃ σ', Rel C σ' (a.put d undef) w ∧ K σ' := by
  subst hc
  cases d with
  | none => exact hs.elim
  | some d =>
    simp only [mayK] at hs
    have add : ∀ op : Op, mayAdd C σ false d op K → ∃ σ', Rel C σ' (a.put (some d) undef) w ∧ K σ' := by
      intro op hs
      unfold mayAdd mayAddK at hs
      split at hs
      · exact ⟨_, ⟨φ, F0, F1, h.undef hs.1⟩, hs.2⟩
      · exact hs.elim
    cases op
    case pick x y z =>
      simp only [mayD] at hs
      unfold mayPickK at hs
      split at hs
      · exact ⟨_, ⟨φ, F0, F1, h.undef hs.1⟩, hs.2⟩
      · exact hs.elim
    case buildSlice =>
      simp only [mayD] at hs
      unfold mayRow mayRowK at hs
      split at hs
      · exact ⟨_, ⟨φ, F0, F1, h.undef hs.1⟩, hs.2.2.2.2⟩
      · exact hs.elim
    case call cc =>
      simp only [mayD] at hs
      split at hs
      · unfold mayCall at hs
        split at hs
        · rename_i f ps hcall
          obtain ⟨hd, hus, hfr, r, B, hv, hst, rfl, hk⟩ := hs
          refine ⟨_, ⟨φ, F0, F1, ((h.undef (p := r.ren (σ.nx + d)) hd).weaken (τ := { σ with fr := upd σ.fr d (some (.may false (r.ren (σ.nx + d)))), us := upd σ.us d true }) ⟨fun _ _ e => e, fun _ _ e => e, fun e he => ?_, rfl, fun _ _ e => e⟩)⟩, hk⟩
          by_cases hed : e = d
          · subst hed; exact upd_self _ _ _
          · simp only [upd_ne _ _ hed]; exact he
        · exact hs.elim
      · exact add _ hs
    all_goals (simp only [mayD] at hs; exact add _ hs)

/-- The fence: every function; in a round, or not. -/
def fz (C : Ctx) : Fence := { Fence.wide with round := C.ro }
theorem callsIn_fz {n : Nat} {f : FuncId} {args : Array Value} {R : Ending → World → Prop} : CallsIn (fz C) n C.P f args w R ↔ Calls C.P f args w R := callsIn_wide (n := n)
theorem rowsIn_fz {n : Nat} {row : String} {args : Array Value} {R : Value → World → Prop} (h : Rows C.P row args w R) : RowsIn (fz C) n C.P row args w R :=
  fun c cs _ => let ⟨v, w', r, s⟩ := h c cs; ⟨v, w', r, stepsIn_wide.2 s⟩
theorem fz_upon {o : Oper} {K : Act → World → Prop} {Q : Exit → Act → World → Prop} (r : Result Next) (h : o.upon C.P a K Q r) : o.uponIn (fz C) 0 C.P a K Q r := by
  cases r with
  | ok x w' =>
    cases x <;> first
      | exact h
      | exact h.elim
      | exact ⟨fun e => (by cases e), callsIn_fz.2 (Calls.mono h fun e w'' he => by cases e <;> exact he)⟩
      | exact ⟨fun e => (by cases e), rowsIn_fz h⟩
  | halt x w' => cases x <;> first | exact h | exact h.elim
theorem fz_op {o : Oper} (hd : ∀ c, o.op ≠ .defer c) {K : Act → World → Prop} {Q : Exit → Act → World → Prop} (h : o.wp C.P a w K Q) : o.wpIn (fz C) 0 C.P a w K Q := by
  refine ⟨fun _ _ => trivial, ?_⟩
  rw [Oper.semAt_eq _ _ _ hd]
  exact fz_upon _ h
theorem vAdd_defer {i : Id} {ρ : Operand → Option PV} {H : Id → Option Blk} {c : Call} : vAdd P i ρ H (.defer c) = none := rfl
theorem vAll_defer {i : Id} {ρ : Operand → Option PV} {H : Id → Option Blk} {c : Call} : vAll P i ρ H (.defer c) = none := rfl
theorem opK_defer {ρ : Operand → Option PV} {H : Id → Option Blk} {nx : Nat} {d : Option Nat} {c : Call} {K : Upd → Prop} (h : opK C nx ρ H d (.defer c) K) : False := by
  simp only [opK, vAddK, vAll_defer, addK] at h
theorem mayK_defer {σ : St} {c : Bool} {d : Option Nat} {cl : Call} {K : St → Prop} (h : mayK C σ c d (.defer cl) K) : False := by
  cases d with
  | none => exact h
  | some d => simp only [mayK, mayD, mayAdd, vAdd_defer, mayAddK] at h

theorem seqRun_soundA {ops l2 : List Oper} {Q : St → Prop} {Q' : Exit → Act → World → Prop} (hQ : ∀ σ a w, Rel C σ a w → Q σ → wpListIn (fz C) 0 C.P ops.toArray Q' l2 a w) : ∀ (l : List Oper) (σ : St) (a : Act) (w : World), Rel C σ a w → seqRun C ops l σ Q → wpListIn (fz C) 0 C.P ops.toArray Q' (l ++ l2) a w
  | [], σ, a, w, h, hs => hQ _ _ _ h (by simpa only [seqRun] using hs)
  | o :: rest, σ, a, w, h, hs => by
    rw [List.cons_append]
    have run : (opK C σ.nx (ev σ.fr) σ.H o.dst o.op fun U => U.fresh σ ∧ seqRun C ops rest (U.app σ) Q) → o.wpIn (fz C) 0 C.P a w (wpListIn (fz C) 0 C.P ops.toArray Q' (rest ++ l2)) Q' := by
      intro ho
      obtain ⟨U, hU, hf, hn⟩ := opK_elim ho
      obtain ⟨φ, F0, F1, h⟩ := h
      refine fz_op (fun c e => by rw [e] at ho; exact opK_defer ho) ?_
      exact opU_sound h h.view hU hf fun a' w' hR => seqRun_soundA hQ rest _ a' w' hR hn
    unfold wpListIn
    simp only [seqRun] at hs
    split at hs
    · rename_i hg
      rw [if_pos (by simp [Region.wanted, hg])]
      exact run hs
    · rename_i g want hg
      unfold guardR at hs
      rcases hs with hs | hs
      · split at hs
        · rename_i v hv
          obtain ⟨φ, F0, F1, h'⟩ := h
          have hy := yielded_of h' hv
          split at hs
          · rename_i hvw
            rw [if_pos (by simp [Region.wanted, hg, hy, hvw])]
            exact run hs
          · rename_i hvw
            rw [if_neg (by simp [Region.wanted, hg, hy, hvw])]
            exact ⟨fun _ _ => trivial, seqRun_soundA hQ rest _ _ _ ⟨φ, F0, F1, h'.skip hs.1⟩ hs.2⟩
        · exact hs.elim
      · split at hs
        · rename_i c hc
          have hrec : ∀ σ' a' w', Rel C σ' a' w' → seqRun C ops rest σ' Q → wpListIn (fz C) 0 C.P ops.toArray Q' (rest ++ l2) a' w' := fun σ' a' w' hR hn => seqRun_soundA hQ rest σ' a' w' hR hn
          obtain ⟨φ, F0, F1, h'⟩ := h
          have hy := yielded_iff h' hc
          cases hcb : c with
          | true =>
            rw [if_pos (by simp only [Region.wanted, hg]; rw [beq_iff_eq]; exact hy.2 hcb)]
            exact fz_op (fun c e => by rw [e] at hs; exact mayK_defer hs) (mayK_run h' hcb hs hrec)
          | false =>
            rw [if_neg (by
              simp only [Region.wanted, hg]
              rw [beq_iff_eq]
              intro e
              have := hy.1 e
              rw [hcb] at this; cases this)]
            obtain ⟨σ', hR, hn⟩ := mayK_skip h' hcb hs
            exact ⟨fun _ _ => trivial, hrec _ _ _ hR hn⟩
        · exact hs.elim

theorem seqRun_sound {ops : List Oper} {Q : St → Prop} {Q' : Exit → Act → World → Prop} (hQ : ∀ σ a w, Rel C σ a w → Q σ → Q' .normal a w) (l : List Oper) (σ : St) (a : Act) (w : World) (h : Rel C σ a w) (hs : seqRun C ops l σ Q) : wpListIn (fz C) 0 C.P ops.toArray Q' l a w := by
  have := seqRun_soundA (l2 := []) (Q' := Q') (fun σ a w r q => hQ σ a w r q) l σ a w h hs
  rwa [List.append_nil] at this

theorem region_seq {ops : Array Oper} {id : Nat} {Q : St → Prop} {Q' : Exit → Act → World → Prop} (hQ : ∀ σ a w, Rel C σ a w → Q σ → Q' .normal a w) (h : Rel C σ a w) (hs : seqRun C ops.toList ops.toList σ Q) :
    (Code.region id ops false).wpIn (fz C) 0 C.P Q' a w :=
  wpIn_region_list (by simpa using seqRun_sound hQ ops.toList σ a w h hs)
end
end Go.Vm
end
