/-
  Abstract states over the model's worlds, and that a step of them is a step of the program: part F of a framework. Conditions: each theorem's own premises. By an AI agent.
-/
import Derived.Test.YtnpbndglolcilaaDoorVmE
import Derived.Laws.BytesString
import Derived.WideLaws
section
namespace Go.Vm
open Go Go.RowKit
set_option linter.unusedVariables false
set_option linter.unusedSimpArgs false

/-- What is not looked at before it is wanted. -/
def Tok {α : Type} (_ : α) : Type := Unit
def tok {α : Type} (K : α) : Tok K := Unit.unit
def hold {α : Type} (K : α) (_ : Tok K) : α := K
theorem hold1 {α : Type} (K : α → Prop) (t : Tok K) (x : α) : hold K t x = K x := rfl
theorem hold2 {α β : Type} (K : α → β → Prop) (t : Tok K) (x : α) (y : β) : hold K t x y = K x y := rfl
theorem hold3 {α β γ : Type} (K : α → β → γ → Prop) (t : Tok K) (x : α) (y : β) (z : γ) : hold K t x y z = K x y z := rfl

/-- What an operation changes. -/
inductive Upd where
  | val (d : Option Nat) (p : PV)
  | new (d : Nat) (p : PV) (b : Blk)
  | call (d : Nat) (r : PV) (B : List Blk)
  | heap (i : Id) (b : Blk)
  | mv (d : Nat) (k : Option Id) (b : Blk)
  | io (d : Nat) (M : List Id) (r : PV) (B : List (Option Blk))

def Upd.app (σ : St) : Upd → St
  | .val none _ => σ
  | .val (some d) p => { σ with fr := upd σ.fr d (some p) }
  | .new d p b => { σ with fr := upd σ.fr d (some p), H := upd σ.H (σ.nx + d, 0) (some b), us := upd σ.us d true }
  | .call d r B => σ.called d r B
  | .heap i b => { σ with H := upd σ.H i (some b) }
  | .mv d k b => { σ with fr := upd σ.fr d (some (.one (.own (σ.nx + d, 0)))), H := upd (kill σ.H k) (σ.nx + d, 0) (some b), us := upd σ.us d true }
  | .io d M r B => σ.iod d M r B

/-- Its name is free. -/
def Upd.fresh (σ : St) : Upd → Prop
  | .val _ _ => True
  | .new d _ _ => σ.us d = false
  | .call d _ _ => σ.us d = false
  | .heap _ _ => True
  | .mv d _ _ => σ.us d = false
  | .io d _ _ _ => σ.us d = false

def setB (b : Blk) (off : Nat) (ps : List PC) : Blk :=
  match b with
  | .box ty cs => .box ty (splice cs off ps)
  | .arr ty z n cs => .arr ty z n (splice cs off ps)

/-- A store: where, and what lies there then. -/
def vstore (P : Program) (ρ : Operand → Option PV) (H : Id → Option Blk) (t : TypeId) (x y : Operand) : Option (Id × Blk) :=
  match ρ x, (ρ y).bind PV.cells, szT P t with
  | some (.one (.loc i off)), some ps, some s =>
    match H i with
    | some b => if ps.length = s ∧ off + s ≤ b.cells.length then some (i, setB b off ps) else none
    | none => none
  | _, _, _ => none

def bytesOf : List PC → Option (List Int)
  | [] => some []
  | .c (.int .u8 n) :: ps =>
    match bytesOf ps with
    | some ns => some (n :: ns)
    | none => none
  | _ => none
def ofBytes (ns : List Int) : ByteArray := ns.foldl (fun r n => r.push (UInt8.ofNat n.toNat)) ByteArray.empty

/-- A row of bytes made a string. -/
def vconv (P : Program) (ρ : Operand → Option PV) (H : Id → Option Blk) (s t : TypeId) (x : Operand) : Option ByteArray :=
  match (ρ x).bind (newsOf H 1), elemT P s, P.underlying t with
  | some (_, ys), some e, some .string =>
    match P.underlying e, bytesOf ys with
    | some (.int .u8), some ns => some (ofBytes ns)
    | _, _ => none
  | _, _, _ => none

def boolOf : PV → Option (Bool × Bool)
  | .one (.c (.bool b)) => some (true, b)
  | .may c (.one (.c (.bool b))) => some (c, b)
  | .tup [] => some (false, false)
  | _ => none

def pickB (v a b : Bool) : Bool := if v then a else b

/-- What an 'and' or an 'or' comes to; c0: it is only looked at if c0. -/
def vpick (c0 : Bool) (ρ : Operand → Option PV) (c x y : Operand) : Option Bool :=
  match (ρ c).bind boolOf, (ρ x).bind boolOf, (ρ y).bind boolOf with
  | some (cc, v), some (cx, bx), some (cy, b') =>
    if (!c0 || cc) = true ∧ (!(c0 && v) || cx) = true ∧ (!(c0 && !v) || cy) = true then some (pickB v bx b') else none
  | _, _, _ => none

def lowOf (ρ : Operand → Option PV) : Option Operand → Option Int
  | none => some 0
  | some l => ((ρ l).bind asI).map (·.2)
def highOf (ρ : Operand → Option PV) (n : Nat) : Option Operand → Option Int
  | none => some n
  | some h => ((ρ h).bind asI).map (·.2)

/-- Part of a row that is read. -/
def vrow (P : Program) (ρ : Operand → Option PV) (t : TypeId) (b : Bool) (n : Nat) (xs : List PC) (lo hi : Option Operand) : Option PV :=
  match elemT P t, lowOf ρ lo, highOf ρ n hi with
  | some e, some l, some h =>
    match szT P e with
    | some s => if 0 ≤ l ∧ l ≤ h ∧ h ≤ n then some (.one (.sl b (h - l).toNat ((xs.drop (l.toNat * s)).take ((h - l).toNat * s)))) else none
    | none => none
  | _, _, _ => none

def isNilC : Operand → Bool
  | .const .nilIface => true
  | _ => false

/-- An interface value, compared with nil. -/
def vnil (P : Program) (op : BinOp) (t : TypeId) (p : Option PV) : Option Bool :=
  match P.underlying t with
  | some (.interface _) =>
    match p, op with
    | some (.one .ifc), .eql => some false
    | some (.one .ifc), .neq => some true
    | some (.one (.c .nilIface)), .eql => some true
    | some (.one (.c .nilIface)), .neq => some false
    | _, _ => none
  | _ => none

def valK (nt : Nat) (d : Option Nat) (K : Upd → Prop) (p : PV) : Prop :=
  match d with
  | none => False
  | some d => d < nt ∧ K (.val (some d) p)

def addK (nt : Nat) (d : Option Nat) (K : Upd → Prop) : Option (PV × Option Blk) → Prop
  | some (p, none) =>
    match d with
    | none => K (.val none p)
    | some d => d < nt ∧ K (.val (some d) p)
  | some (p, some b) =>
    match d with
    | none => False
    | some d => d < nt ∧ K (.new d p b)
  | none => False

def vAddK (P : Program) (nt nx : Nat) (ρ : Operand → Option PV) (H : Id → Option Blk) (d : Option Nat) (op : Op) (K : Upd → Prop) : Prop :=
  addK nt d K (vAdd P (nx + d.getD 0, 0) ρ H op)

def heapK (K : Upd → Prop) : Option (Id × Blk) → Prop
  | some (i, b) => K (.heap i b)
  | none => False

def mvK (nt : Nat) (d : Option Nat) (K : Upd → Prop) : Option (Option Id × Blk) → Prop
  | some (i, b) =>
    match d with
    | none => False
    | some d => d < nt ∧ K (.mv d i b)
  | none => False

/-- A callee's contract is asked for. -/
def callE (P : Program) (gw : World) (gb : Nat) (f : FuncId) (args : List PV) (sh : Bool) (K : PV → List Blk → Prop) : Prop :=
  ∃ r B, VCall P gw gb f args r B ∧ ((r.strict = true ∧ strictB B = true) ∨ sh = true) ∧ K r B

theorem callE_intro {P : Program} {gw : World} {gb : Nat} {f : FuncId} {args : List PV} {sh : Bool} {K : PV → List Blk → Prop} {r : PV} {B : List Blk} (h : VCall P gw gb f args r B) (hs : (r.strict = true ∧ strictB B = true) ∨ sh = true) (hk : K r B) :
    callE P gw gb f args sh K := ⟨r, B, h, hs, hk⟩

/-- What stands behind the call is looked at when its contract is there. -/
@[congr] theorem callE_congr {P P' : Program} {gw gw' : World} {gb gb' : Nat} {f f' : FuncId} {args args' : List PV} {sh sh' : Bool} (K : PV → List Blk → Prop) (h1 : P = P') (h2 : gw = gw') (h3 : gb = gb') (h4 : f = f') (h5 : args = args') (h6 : sh = sh') :
    callE P gw gb f args sh K = callE P' gw' gb' f' args' sh' K := by subst h1 h2 h3 h4 h5 h6; rfl

/-- A contract is asked for of a callee that is handed blocks. -/
def ioE (P : Program) (gw : World) (gb : Nat) (f : FuncId) (ps : List PV) (H : Id → Option Blk) (K : List Id → PV → List (Option Blk) → Prop) : Prop :=
  ∃ M bs args r B, (ps.map fun p => (cloV (hide M H) 4 p).ioc M) = args ∧ args.all PV.tag0 = true ∧ gets H M = some bs ∧ tag0B (bs.map (Blk.ioc M)) = true ∧ nodup M = true ∧
    VCallIO P gw gb f args (bs.map (Blk.ioc M)) r B ∧ ((r.strict = true ∧ strictBO B = true) ∨ (ps.map (PV.ioc M)).all PV.tag0 = true) ∧ K M r B

theorem ioE_intro {P : Program} {gw : World} {gb : Nat} {f : FuncId} {ps args : List PV} {H : Id → Option Blk} {K : List Id → PV → List (Option Blk) → Prop} {bs Hin : List Blk} {r : PV} {B : List (Option Blk)} (M : List Id) (h : VCallIO P gw gb f args Hin r B)
    (h1 : gets H M = some bs) (h2 : bs.map (Blk.ioc M) = Hin) (h3 : (ps.map fun p => (cloV (hide M H) 4 p).ioc M) = args) (h4 : (args.all PV.tag0 && tag0B Hin && nodup M) = true) (hs : (r.strict = true ∧ strictBO B = true) ∨ (ps.map (PV.ioc M)).all PV.tag0 = true) (hk : K M r B) :
    ioE P gw gb f ps H K := by
  subst h2
  simp only [Bool.and_eq_true] at h4
  exact ⟨M, bs, args, r, B, h3, h4.1.1, h1, h4.1.2, h4.2, h, hs, hk⟩

@[congr] theorem ioE_congr {P P' : Program} {gw gw' : World} {gb gb' : Nat} {f f' : FuncId} {ps ps' : List PV} {H : Id → Option Blk} (K : List Id → PV → List (Option Blk) → Prop) (h1 : P = P') (h2 : gw = gw') (h3 : gb = gb') (h4 : f = f') (h5 : ps = ps') :
    ioE P gw gb f ps H K = ioE P' gw' gb' f' ps' H K := by subst h1 h2 h3 h4 h5; rfl

def callK (C : Ctx) (H : Id → Option Blk) (d : Option Nat) (K : Upd → Prop) : Option (FuncId × List PV) → Prop
  | some (f, ps) =>
    match d with
    | none => False
    | some d => d < C.nt ∧ ((PV.frees (ps.map (cloV H 4)) = true ∧ callE C.P C.gw C.gb f (ps.map (cloV H 4)) (PV.frees ps) (hold (fun r B => K (.call d r B)) (tok _))) ∨ ioE C.P C.gw C.gb f ps H (hold (fun M r B => K (.io d M r B)) (tok _)))
  | none => False

def opK (C : Ctx) (nx : Nat) (ρ : Operand → Option PV) (H : Id → Option Blk) (d : Option Nat) (op : Op) (K : Upd → Prop) : Prop :=
  match op with
  | .call c =>
    match c.callee with
    | .value _ => callK C H d K (callOf ρ c)
    | .builtin .append => mvK C.nt d K (vapp C.P ρ H c)
    | _ => vAddK C.P C.nt nx ρ H d op K
  | .store t x y =>
    match d with
    | none => heapK K (vstore C.P ρ H t x y)
    | some _ => False
  | .pick c x y =>
    match vpick true ρ c x y with
    | some b => valK C.nt d K (.one (.c (.bool b)))
    | none => False
  | .binOp bop t x y _ =>
    match isNilC y with
    | true =>
      match vnil C.P bop t (ρ x) with
      | some b => valK C.nt d K (.one (.c (.bool b)))
      | none => False
    | false => vAddK C.P C.nt nx ρ H d op K
  | .convert s t x =>
    match vconv C.P ρ H s t x with
    | some b => valK C.nt d K (.one (.c (.string b)))
    | none => vAddK C.P C.nt nx ρ H d op K
  | .slice t x lo hi mx =>
    match ρ x, mx with
    | some (.one (.sl b n xs)), none =>
      match vrow C.P ρ t b n xs lo hi with
      | some p => valK C.nt d K p
      | none => False
    | some (.one (.own _)), _ => mvK C.nt d K ((vcut C.P ρ H op).map fun x => (some x.1, x.2))
    | _, _ => vAddK C.P C.nt nx ρ H d op K
  | _ => vAddK C.P C.nt nx ρ H d op K

/-- What stands behind an operation is looked at when the operation has been told. -/
@[congr] theorem valK_congr {nt nt' : Nat} {d d' : Option Nat} {p p' : PV} (K : Upd → Prop) (h1 : nt = nt') (h2 : d = d') (h3 : p = p') : valK nt d K p = valK nt' d' K p' := by subst h1 h2 h3; rfl
@[congr] theorem addK_congr {nt nt' : Nat} {d d' : Option Nat} {o o' : Option (PV × Option Blk)} (K : Upd → Prop) (h1 : nt = nt') (h2 : d = d') (h3 : o = o') : addK nt d K o = addK nt' d' K o' := by subst h1 h2 h3; rfl
@[congr] theorem heapK_congr {o o' : Option (Id × Blk)} (K : Upd → Prop) (h : o = o') : heapK K o = heapK K o' := by subst h; rfl
@[congr] theorem mvK_congr {nt nt' : Nat} {d d' : Option Nat} {o o' : Option (Option Id × Blk)} (K : Upd → Prop) (h1 : nt = nt') (h2 : d = d') (h3 : o = o') : mvK nt d K o = mvK nt' d' K o' := by subst h1 h2 h3; rfl
@[congr] theorem vAddK_congr {P : Program} {nt nx : Nat} {ρ : Operand → Option PV} {H : Id → Option Blk} {d d' : Option Nat} {op : Op} (K : Upd → Prop) (h2 : d = d') : vAddK P nt nx ρ H d op K = vAddK P nt nx ρ H d' op K := by subst h2; rfl
@[congr] theorem callK_congr {C : Ctx} {H : Id → Option Blk} {d d' : Option Nat} {o o' : Option (FuncId × List PV)} (K : Upd → Prop) (h2 : d = d') (h3 : o = o') : callK C H d K o = callK C H d' K o' := by subst h2 h3; rfl
@[congr] theorem opK_congr {C : Ctx} {nx nx' : Nat} {ρ : Operand → Option PV} {H : Id → Option Blk} {d d' : Option Nat} {op : Op} (K : Upd → Prop) (h1 : nx = nx') (h2 : d = d') : opK C nx ρ H d op K = opK C nx' ρ H d' op K := by subst h1 h2; rfl

def OpU (C : Ctx) (nx : Nat) (ρ : Operand → Option PV) (H : Id → Option Blk) (d : Option Nat) (op : Op) (U : Upd) : Prop := opK C nx ρ H d op (· = U)

section
variable {ρ : Operand → Option PV} {H : Id → Option Blk} {C : Ctx} {φ φ' : Id → Option Value} {F : Bool → Nat → Prop} {F0 F1 : Nat → Prop} {σ : St} {a : Act} {w w' : World} {P : Program}
  {nt nx : Nat} {d : Option Nat} {op : Op} {K : Upd → Prop}

theorem vAddK_elim (h : vAddK P nt nx ρ H d op K) : ∃ U, vAddK P nt nx ρ H d op (· = U) ∧ K U := by
  unfold vAddK addK at *
  split at h
  · split at h
    · exact ⟨_, by simp_all, h⟩
    · exact ⟨_, by simp_all, h.2⟩
  · split at h
    · exact h.elim
    · exact ⟨_, by simp_all, h.2⟩
  · exact h.elim

theorem mvK_elim {o} (h : mvK nt d K o) : ∃ U, mvK nt d (· = U) o ∧ K U := by
  unfold mvK at *
  split at h
  · split at h
    · exact h.elim
    · exact ⟨_, by simp_all, h.2⟩
  · exact h.elim

theorem opK_elim (h : opK C nx ρ H d op K) : ∃ U, OpU C nx ρ H d op U ∧ K U := by
  unfold OpU
  unfold opK at *
  split at h
  · split at h
    · unfold callK at *
      split at h
      · split at h
        · exact h.elim
        · obtain ⟨h1, ⟨h2, r, B, h3, h4, h5⟩ | ⟨M, bs, args, r, B, e1, e2, e3, e4, e5, e6, e7, h5⟩⟩ := h
          · exact ⟨_, ⟨h1, .inl ⟨h2, r, B, h3, h4, rfl⟩⟩, h5⟩
          · exact ⟨_, ⟨h1, .inr ⟨M, bs, args, r, B, e1, e2, e3, e4, e5, e6, e7, rfl⟩⟩, h5⟩
      · exact h.elim
    · exact mvK_elim h
    · rename_i hx1 hx2
      obtain ⟨U, hU, hK⟩ := vAddK_elim h
      refine ⟨U, ?_, hK⟩
      first
        | exact hU
        | (split
           · rename_i hc; exact absurd hc (hx1 _)
           · rename_i hc; exact absurd hc hx2
           · exact hU)
  · split at h
    · unfold heapK at *
      split at h
      · exact ⟨_, rfl, h⟩
      · exact h.elim
    · exact h.elim
  · split at h
    · unfold valK at *
      split at h
      · exact h.elim
      · exact ⟨_, ⟨h.1, rfl⟩, h.2⟩
    · exact h.elim
  · split at h
    · split at h
      · unfold valK at *
        split at h
        · exact h.elim
        · exact ⟨_, ⟨h.1, rfl⟩, h.2⟩
      · exact h.elim
    · exact vAddK_elim h
  · split at h
    · unfold valK at *
      split at h
      · exact h.elim
      · exact ⟨_, ⟨h.1, rfl⟩, h.2⟩
    · exact vAddK_elim h
  · split at h
    · split at h
      · unfold valK at *
        split at h
        · exact h.elim
        · exact ⟨_, ⟨h.1, rfl⟩, h.2⟩
      · exact h.elim
    · exact mvK_elim h
    · exact vAddK_elim h
  · exact vAddK_elim h

theorem bytesOf_vals : ∀ (ys : List PC) (ns : List Int) (vs : List Value), bytesOf ys = some ns → reps φ w F ys vs → vs = ns.map (Value.int .u8)
  | [], ns, vs, h, hr => by
    simp only [bytesOf] at h; cases h
    simpa only [reps, List.map_nil] using hr
  | .c (.int .u8 n) :: ps, ns, vs, h, hr => by
    simp only [bytesOf] at h
    split at h
    · rename_i ns' hns
      cases h
      simp only [reps, rep] at hr
      obtain ⟨v, vs', rfl, ⟨rfl, _⟩, hr⟩ := hr
      rw [bytesOf_vals ps ns' vs' hns hr, List.map_cons]
    · cases h

variable {ty : TypeId} {pos : String} {af : Array Edge} {gd : Option (Nat × Bool)} {K' : Act → World → Prop} {Q : Exit → Act → World → Prop} {U : Upd}

theorem value_wp {d : Option Nat} {x : Value} {w' : World} (hr : (execOp a.eval ⟨d, op, ty, pos, af, gd⟩).run C.P w = .ok (.value x) w') (h : K' (a.put d x) w') : Oper.wp C.P ⟨d, op, ty, pos, af, gd⟩ a w K' Q := by
  unfold Oper.wp
  rw [hr, Oper.upon_value]
  exact h

theorem boolOf_rep {p : PV} {x : Value} {c b : Bool} (hr : repV φ w F p x) (h : boolOf p = some (c, b)) (hc : c = true) : x = .bool b := by
  unfold boolOf at h
  split at h
  · cases h
    simp only [repV, rep] at hr
    exact hr.1
  · cases h
    simp only [repV, rep] at hr
    exact (hr.1 hc).1
  · cases h
    cases hc
  · cases h

theorem vpick_run {c x y : Operand} {c0 b : Bool} {d : Option Nat} (V : View φ w (Fs F0 F1) a σ ρ H) (h0 : c0 = true) (h : vpick c0 ρ c x y = some b) : (execOp a.eval ⟨d, .pick c x y, ty, pos, af, gd⟩).run C.P w = .ok (.value (.bool b)) w := by
  subst h0
  unfold vpick at h
  split at h
  · rename_i cc v cx bx cy b' hc hx hy
    split at h
    · rename_i hcond
      cases h
      obtain ⟨pc, hpc, hc⟩ := Option.bind_eq_some_iff.1 hc
      obtain ⟨px, hpx, hx⟩ := Option.bind_eq_some_iff.1 hx
      obtain ⟨py, hpy, hy⟩ := Option.bind_eq_some_iff.1 hy
      simp only [Bool.not_true, Bool.false_or, Bool.true_and] at hcond
      have e := boolOf_rep (V.ev hpc) hc hcond.1
      cases v
      · have := boolOf_rep (V.ev hpy) hy (by simpa using hcond.2.2)
        simp [execOp, e, asBool, this, pickB]
      · have := boolOf_rep (V.ev hpx) hx (by simpa using hcond.2.1)
        simp [execOp, e, asBool, this, pickB]
    · cases h
  · cases h

theorem vrow_run {t : TypeId} {x : Operand} {lo hi : Option Operand} {b : Bool} {n : Nat} {xs : List PC} {p : PV} {d : Option Nat} (V : View φ w (Fs F0 F1) a σ ρ H) (hx : ρ x = some (.one (.sl b n xs))) (hp : vrow C.P ρ t b n xs lo hi = some p) :
    ∃ y, (execOp a.eval ⟨d, .slice t x lo hi none, ty, pos, af, gd⟩).run C.P w = .ok (.value y) w ∧ repV φ w (Fs F0 F1) p y := by
  unfold vrow at hp
  split at hp
  · rename_i e l h he hl hh
    split at hp
    · rename_i s hs
      split at hp
      · rename_i hc
        cases hp
        obtain ⟨h0, h1, h2⟩ := hc
        have hr := V.ev hx
        simp only [repV, rep] at hr
        obtain ⟨A, cap, hxe, hncap, hrow⟩ := hr
        have hlv : ∀ l' : Operand, lo = some l' → ∃ k, a.eval l' = .int k l := by
          rintro l' rfl
          simp only [lowOf] at hl
          obtain ⟨⟨k, l2⟩, hk, rfl⟩ := Option.map_eq_some_iff.1 hl
          obtain ⟨q, hq, hk⟩ := Option.bind_eq_some_iff.1 hk
          exact ⟨k, asI_rep (V.ev hq) hk⟩
        have hlo : lo = none → l = 0 := by rintro rfl; simpa [lowOf] using hl.symm
        have hhv : ∀ h' : Operand, hi = some h' → ∃ k, a.eval h' = .int k h := by
          rintro h' rfl
          simp only [highOf] at hh
          obtain ⟨⟨k, l2⟩, hk, rfl⟩ := Option.map_eq_some_iff.1 hh
          obtain ⟨q, hq, hk⟩ := Option.bind_eq_some_iff.1 hk
          exact ⟨k, asI_rep (V.ev hq) hk⟩
        have hhi : hi = none → h = n := by rintro rfl; simpa [highOf] using hh.symm
        have hnc : (n : Int) ≤ cap := by omega
        refine ⟨.slice (if cap = l.toNat then A else A.map (·.add (l.toNat * s))) (h - l).toNat (cap - l.toNat), ?_, ?_⟩
        · have e3 : h.toNat - l.toNat = (h - l).toNat := by omega
          simp only [execOp, Option.map_none, hxe, Instr.sliceAt, Sem.run_bind, run_underlying (elemT_spec he), Result.andThen_ok, Instr.slice, Instr.sliceBounds, Instr.sliceBound, asIntOf, Sem.run_pure]
          cases lo with
          | none =>
            have := hlo rfl
            subst this
            cases hi with
            | none =>
              have := hhi rfl
              subst this
              simp [run_sizeOf' hs]
            | some h' =>
              obtain ⟨k, hk⟩ := hhv h' rfl
              have hcap : h ≤ (cap : Int) := by omega
              simp [hk, run_sizeOf' hs, h1, hcap]
          | some l' =>
            obtain ⟨k1, hk1⟩ := hlv l' rfl
            cases hi with
            | none =>
              have := hhi rfl
              subst this
              simp [hk1, run_sizeOf' hs, h0, h1]
              omega
            | some h' =>
              obtain ⟨k, hk⟩ := hhv h' rfl
              have hcap : h ≤ (cap : Int) := by omega
              have hh0 : 0 ≤ h := by omega
              have hmax : l ≤ max h 0 := by omega
              simp [hk, hk1, run_sizeOf' hs, h0, hh0, hmax, hcap, e3]
        · simp only [repV, rep]
          refine ⟨_, _, rfl, by omega, ?_⟩
          rcases hrow with ⟨hn0, hxs⟩ | ⟨ad, rfl, hF, hat⟩
          · left
            subst hxs
            exact ⟨by omega, by simp⟩
          · by_cases hcl : cap = l.toNat
            · left
              have : (h - l).toNat = 0 := by omega
              exact ⟨this, by simp [this]⟩
            · right
              rw [if_neg hcl]
              exact ⟨ad.add (l.toNat * s), rfl, by rw [add_block]; exact hF, repAt_take (repAt_drop hat _) _⟩
      · cases hp
    · cases hp
  · cases hp

theorem methodsAt_of {P : Program} {t : TypeId} {ms : Array (String × TypeId)} (h : P.underlying t = some (.interface ms)) : P.underlying t = some (.interface (P.methodsAt t)) := by
  rw [h]; simp [Program.methodsAt, h]

theorem vnil_run {bop : BinOp} {t yt : TypeId} {x y : Operand} {b : Bool} {d : Option Nat} (V : View φ w (Fs F0 F1) a σ ρ H) (hy : isNilC y = true) (h : vnil C.P bop t (ρ x) = some b) : (execOp a.eval ⟨d, .binOp bop t x y yt, ty, pos, af, gd⟩).run C.P w = .ok (.value (.bool b)) w := by
  unfold isNilC at hy
  split at hy
  · have hyc : a.eval (.const .nilIface) = .nilIface := rfl
    unfold vnil at h
    split at h
    · rename_i ms hms
      have hm := methodsAt_of hms
      split at h
      · rename_i hx
        cases h
        have hr := V.ev hx
        simp only [repV, rep] at hr
        obtain ⟨u, v, hr⟩ := hr
        simp [execOp, hr, hyc, eqGuard_at_iface, run_eql_held_nil, hm]
      · rename_i hx
        cases h
        have hr := V.ev hx
        simp only [repV, rep] at hr
        obtain ⟨u, v, hr⟩ := hr
        simp [execOp, hr, hyc, eqGuard_at_iface, run_neq_held_nil, hm]
      · rename_i hx
        cases h
        have hr := V.ev hx
        simp only [repV, rep] at hr
        simp [execOp, hr.1, hyc, eqGuard_nil_constR, run_eql_nil_nil, hm]
      · rename_i hx
        cases h
        have hr := V.ev hx
        simp only [repV, rep] at hr
        simp [execOp, hr.1, hyc, eqGuard_nil_constR, run_neq_nil_nil, hm]
      · cases h
    · cases h
  · cases hy

theorem vAddK_sound (h : RelX C φ F0 F1 σ a w) (V : View φ w (Fs F0 F1) a σ ρ H) (hu : vAddK C.P C.nt σ.nx ρ H d op (· = U)) (hf : U.fresh σ) (hK : ∀ a' w', Rel C (U.app σ) a' w' → K' a' w') :
    Oper.wp C.P ⟨d, op, ty, pos, af, gd⟩ a w K' Q := by
  unfold vAddK addK at hu
  split at hu
  · rename_i p hv
    obtain ⟨x, w', hr, rfl, hx⟩ := vAdd_sound (i := (σ.nx + d.getD 0, 0)) h V (by simp) ⟨d, op, ty, pos, af, gd⟩ hv
    refine value_wp hr (hK _ _ ?_)
    split at hu
    · subst hu
      exact ⟨φ, F0, F1, by simpa [Upd.app, Act.put] using h⟩
    · obtain ⟨hd, rfl⟩ := hu
      exact ⟨φ, F0, F1, h.put hd hx⟩
  · rename_i p b hv
    split at hu
    · exact hu.elim
    · rename_i d
      obtain ⟨hd, rfl⟩ := hu
      have hn : φ (σ.nx + d, 0) = none := h.fresh hf
      obtain ⟨x, w', hr, v, hb, hh, hg, hx⟩ := vAdd_sound (i := (σ.nx + d, 0)) h V (fun _ => hn) ⟨some d, op, ty, pos, af, gd⟩ hv
      refine value_wp hr (hK _ _ ⟨_, F0, F1, ((h.below hb).bind rfl hn hh fun g hg' => ?_).put hd hx⟩)
      have h1 := hg g hg'
      refine ⟨fun h0 => ?_, fun h0 => ?_, Nat.le_trans (Nat.le_trans h.gbig h.big) h1, fun j u hj hu he => ?_⟩
      · have := h.lt0 g h0; omega
      · have := h.k0lt g h0; have := h.big; omega
      · obtain ⟨c, hc⟩ := Option.ne_none_iff_exists'.1 hj
        have := holds_lt (h.heap j c hc) hu he
        omega
  · exact hu.elim

theorem mvK_sound {o : Option (Option Id × Blk)} (hu : mvK C.nt d (· = U) o) (hs : ∀ i b t, o = some (i, b) → d = some t → σ.us t = false → ∃ x w' φ', (execOp a.eval ⟨some t, op, ty, pos, af, gd⟩).run C.P w = .ok (.value x) w' ∧
      RelX C φ' F0 F1 { σ with H := upd (kill σ.H i) (σ.nx + t, 0) (some b), us := upd σ.us t true } a w' ∧ repV φ' w' (Fs F0 F1) (.one (.own (σ.nx + t, 0))) x) (hf : U.fresh σ) (hK : ∀ a' w', Rel C (U.app σ) a' w' → K' a' w') :
    Oper.wp C.P ⟨d, op, ty, pos, af, gd⟩ a w K' Q := by
  unfold mvK at hu
  split at hu
  · split at hu
    · exact hu.elim
    · obtain ⟨hd, rfl⟩ := hu
      obtain ⟨x, w', φ', hr, hR, hx⟩ := hs _ _ _ rfl rfl hf
      exact value_wp hr (hK _ _ ⟨_, _, _, hR.put hd hx⟩)
  · exact hu.elim

/-- WHAT IS SAID OF AN OPERATION IS WHAT IT DOES. -/
theorem opU_sound (h : RelX C φ F0 F1 σ a w) (V : View φ w (Fs F0 F1) a σ ρ H) (hu : OpU C σ.nx ρ H d op U) (hf : U.fresh σ) (hK : ∀ a' w', Rel C (U.app σ) a' w' → K' a' w') :
    Oper.wp C.P ⟨d, op, ty, pos, af, gd⟩ a w K' Q := by
  unfold OpU opK at hu
  split at hu
  · rename_i c
    split at hu
    · unfold callK at hu
      split at hu
      · rename_i f ps hc
        split at hu
        · exact hu.elim
        · obtain ⟨hd, ⟨hfr, r, B, hv, hs, rfl⟩ | ⟨M, bs, args, r, B, e1, e2, e3, e4, e5, hv, hs, rfl⟩⟩ := hu
          · rcases hs with hs | hs
            · exact call_ok h V hc hv hfr hs hd hf hK
            · exact call_ok_share h V hc hv hs hfr hd hf hK
          · exact io_ok h V hc e1 e2 e3 e4 e5 hv hs hd hf hK
      · exact hu.elim
    · rename_i hcal
      exact mvK_sound hu (fun i b t hv hd hus => by subst hd; exact append_ok h V hcal hv hus) hf hK
    · exact vAddK_sound h V hu hf hK
  · rename_i t x y
    split at hu
    · unfold heapK at hu
      split at hu
      rotate_left
      · exact hu.elim
      rename_i i b hv
      subst hu
      unfold vstore at hv
      split at hv
      · rename_i i' off ps s hx hy hs
        split at hv
        · rename_i b' hH
          split at hv
          · rename_i hc
            cases hv
            obtain ⟨q, hq, hps⟩ := Option.bind_eq_some_iff.1 hy
            obtain ⟨w', hr, hR⟩ := store_run h (V.ev hx) (V.heap hH) (V.ev hq) hps hs hc.1 hc.2
            have hR := hR (setB b' off ps) (by cases b' <;> rfl)
            unfold Oper.wp
            simp only [execOp, Sem.run_bind, hr, Result.andThen_ok, Sem.run_pure, Oper.upon_skip]
            exact hK _ _ ⟨_, _, _, by simpa [Act.put, Upd.app] using hR⟩
          · cases hv
        · cases hv
      · cases hv
    · exact hu.elim
  · rename_i co x y
    split at hu
    · rename_i b hb
      unfold valK at hu
      split at hu
      · exact hu.elim
      · rename_i d
        obtain ⟨hd, rfl⟩ := hu
        exact value_wp (vpick_run V rfl hb) (hK _ _ ⟨φ, F0, F1, h.put hd (by simp only [repV, rep]; exact ⟨trivial, rfl⟩)⟩)
    · exact hu.elim
  · rename_i bop t x y yt
    split at hu
    · rename_i hy
      split at hu
      · rename_i b hb
        unfold valK at hu
        split at hu
        · exact hu.elim
        · rename_i d
          obtain ⟨hd, rfl⟩ := hu
          exact value_wp (vnil_run V hy hb) (hK _ _ ⟨φ, F0, F1, h.put hd (by simp only [repV, rep]; exact ⟨trivial, rfl⟩)⟩)
      · exact hu.elim
    · exact vAddK_sound h V hu hf hK
  · rename_i s t x
    split at hu
    · rename_i b hb
      unfold valK at hu
      split at hu
      · exact hu.elim
      · rename_i d
        obtain ⟨hd, rfl⟩ := hu
        unfold vconv at hb
        split at hb
        · rename_i m ys e hx he ht
          split at hb
          · rename_i ns hu8 hns
            cases hb
            obtain ⟨q, hq, hx⟩ := Option.bind_eq_some_iff.1 hx
            obtain ⟨A, c, news, hxe, hA, hl, hr⟩ := newsOf_rep h V (V.ev hq) hx
            refine value_wp (x := .string (ofBytes ns)) (w' := w) ?_ (hK _ _ ⟨φ, F0, F1, h.put hd (by simp only [repV, rep]; exact ⟨trivial, rfl⟩)⟩)
            have hrun : (convert s t (a.eval x)).run C.P w = .ok (.string (ofBytes ns)) w := by
              rw [hxe, run_convert_bytes_string w s t e A m c (elemT_spec he) hu8 ht]
              have hnv : news = ns.map (Value.int .u8) := bytesOf_vals _ _ _ hns hr
              rcases hA with rfl | ⟨ad, rfl, hcell⟩
              · have hn : news = [] := List.eq_nil_of_length_eq_zero (by simpa using hl)
                have hns0 : ns = [] := by rw [hn] at hnv; simpa using hnv.symm
                subst hns0
                cases A with
                | none => rfl
                | some ad => exact run_bytesToString w ad 0 c [] (by simp [loadCells, loadCellsFrom])
              · refine run_bytesToString w ad m c ns ?_
                have := run_loadCells_list (P := C.P) w ad news hcell
                rw [show news.length = m by simpa using hl] at this
                rw [this, hnv]
            simp only [execOp, Sem.run_bind, hrun, Result.andThen_ok, Sem.run_pure]
          · cases hb
        · cases hb
    · exact vAddK_sound h V hu hf hK
  · rename_i t x lo hi mx
    split at hu
    · rename_i b n xs hx
      split at hu
      · rename_i p hp
        unfold valK at hu
        split at hu
        · exact hu.elim
        · rename_i d
          obtain ⟨hd, rfl⟩ := hu
          obtain ⟨y, hrun, hy⟩ := vrow_run (d := some d) (ty := ty) (pos := pos) (af := af) (gd := gd) V hx hp
          exact value_wp hrun (hK _ _ ⟨φ, F0, F1, h.put hd hy⟩)
      · exact hu.elim
    · refine mvK_sound (F0 := F0) (F1 := F1) hu (fun i b t' hv hd hus => ?_) hf hK
      subst hd
      obtain ⟨q, hq, he⟩ := Option.map_eq_some_iff.1 hv
      cases he
      obtain ⟨x', φ', hr, hR, hx⟩ := cut_ok (i := q.1) (b := q.2) h V hq hus (ty := ty) (pos := pos) (af := af) (gd := gd)
      exact ⟨x', w, φ', hr, hR, hx⟩
    · exact vAddK_sound h V hu hf hK
  · exact vAddK_sound h V hu hf hK
end
end Go.Vm
end

section
namespace Go.Vm
open Go Go.RowKit
set_option linter.unusedVariables false
set_option linter.unusedSimpArgs false

/-- The operation is not wanted: its slot holds nothing. -/
def St.skip (σ : St) : Option Nat → St
  | none => σ
  | some d => { σ with fr := upd σ.fr d (some (.tup [])) }

/-- What a guard reads. -/
def gval : Option PV → Option (Option Bool)
  | some (.one (.c (.bool b))) => some (some b)
  | some (.one (.c v)) => some none
  | some (.tup _) => some none
  | _ => none

def gslot (ops : List Oper) (fr : Nat → Option PV) (g : Nat) : Option (Option Bool) :=
  match (ops[g]?).bind (·.dst) with
  | some t => gval (fr t)
  | none => none

def dOk (nt : Nat) : Option Nat → Prop
  | none => True
  | some d => d < nt

/-- The condition under which a guarded operation runs. -/
def gcond (ops : List Oper) (fr : Nat → Option PV) (g : Nat) (want : Bool) : Option Bool :=
  match ((ops[g]?).bind (·.dst)).bind fr with
  | some (.one (.c (.bool v))) => some (v == want)
  | some (.may c (.one (.c (.bool v)))) => some (c && (v == want))
  | some (.tup []) => some false
  | _ => none

/-- What is known if c. -/
def unm (c : Bool) (ρ : Operand → Option PV) (x : Operand) : Option PV :=
  match ρ x with
  | some (.may b p) => if (!c || b) = true then some p else none
  | q => q

def mayAddK (C : Ctx) (σ : St) (c : Bool) (d : Nat) (K : St → Prop) : Option (PV × Option Blk) → Prop
  | some (p, none) => d < C.nt ∧ K { σ with fr := upd σ.fr d (some (.may c p)) }
  | _ => False

def mayAdd (C : Ctx) (σ : St) (c : Bool) (d : Nat) (op : Op) (K : St → Prop) : Prop :=
  mayAddK C σ c d K (vAdd C.P (0, 0) (unm c (ev σ.fr)) σ.H op)

/-- A row that is built if c: it is only read. -/
def mayRowK (C : Ctx) (σ : St) (c : Bool) (d : Nat) (K : St → Prop) : Option (PV × Option Blk) → Prop
  | some (.one (.own j), some (.arr _ _ n cs)) => d < C.nt ∧ σ.us d = false ∧ j = (σ.nx + d, 0) ∧ PC.frees cs = true ∧ K { σ with fr := upd σ.fr d (some (.may c (.one (.sl true n cs)))) }
  | _ => False

def mayRow (C : Ctx) (σ : St) (c : Bool) (d : Nat) (op : Op) (K : St → Prop) : Prop :=
  mayRowK C σ c d K (vAdd C.P (σ.nx + d, 0) (unm c (ev σ.fr)) σ.H op)

def mayPickK (C : Ctx) (σ : St) (c : Bool) (d : Nat) (K : St → Prop) : Option Bool → Prop
  | some b => d < C.nt ∧ K { σ with fr := upd σ.fr d (some (.may c (.one (.c (.bool b))))) }
  | none => False

def mayCall (C : Ctx) (σ : St) (c : Bool) (d : Nat) (K : St → Prop) : Option (FuncId × List PV) → Prop
  | some (f, ps) => d < C.nt ∧ σ.us d = false ∧ PV.frees (ps.map (cloV σ.H 4)) = true ∧
    callE C.P C.gw C.gb f (ps.map (cloV σ.H 4)) (PV.frees ps) (hold (fun r B => B = [] ∧ K { σ with fr := upd σ.fr d (some (.may c (r.ren (σ.nx + d)))), us := upd σ.us d true }) (tok _))
  | none => False

def mayD (C : Ctx) (σ : St) (c : Bool) (d : Nat) (op : Op) (K : St → Prop) : Prop :=
  match op with
  | .pick x y z =>
    mayPickK C σ c d K (vpick c (ev σ.fr) x y z)
  | .buildSlice .. => mayRow C σ c d op K
  | .call cc =>
    match cc.callee with
    | .value _ => mayCall C σ c d K (callOf (unm c (ev σ.fr)) cc)
    | _ => mayAdd C σ c d op K
  | _ => mayAdd C σ c d op K

/-- An operation that runs if c. -/
def mayK (C : Ctx) (σ : St) (c : Bool) (d : Option Nat) (op : Op) (K : St → Prop) : Prop :=
  match d with
  | none => False
  | some d => mayD C σ c d op K

@[congr] theorem mayAddK_congr {C : Ctx} {σ σ' : St} {c c' : Bool} {d : Nat} {o o' : Option (PV × Option Blk)} (K : St → Prop) (h1 : σ = σ') (h2 : c = c') (h3 : o = o') : mayAddK C σ c d K o = mayAddK C σ' c' d K o' := by subst h1 h2 h3; rfl
@[congr] theorem mayRowK_congr {C : Ctx} {σ σ' : St} {c c' : Bool} {d : Nat} {o o' : Option (PV × Option Blk)} (K : St → Prop) (h1 : σ = σ') (h2 : c = c') (h3 : o = o') : mayRowK C σ c d K o = mayRowK C σ' c' d K o' := by subst h1 h2 h3; rfl
@[congr] theorem mayPickK_congr {C : Ctx} {σ σ' : St} {c c' : Bool} {d : Nat} {o o' : Option Bool} (K : St → Prop) (h1 : σ = σ') (h2 : c = c') (h3 : o = o') : mayPickK C σ c d K o = mayPickK C σ' c' d K o' := by subst h1 h2 h3; rfl
@[congr] theorem mayCall_congr {C : Ctx} {σ σ' : St} {c c' : Bool} {d : Nat} {o o' : Option (FuncId × List PV)} (K : St → Prop) (h1 : σ = σ') (h2 : c = c') (h3 : o = o') : mayCall C σ c d K o = mayCall C σ' c' d K o' := by subst h1 h2 h3; rfl
@[congr] theorem mayK_congr {C : Ctx} {σ σ' : St} {c c' : Bool} {d : Option Nat} {op : Op} (K : St → Prop) (h1 : σ = σ') (h2 : c = c') : mayK C σ c d op K = mayK C σ' c' d op K := by subst h1 h2; rfl
@[congr] theorem mayD_congr {C : Ctx} {σ σ' : St} {c c' : Bool} {d : Nat} {op : Op} (K : St → Prop) (h1 : σ = σ') (h2 : c = c') : mayD C σ c d op K = mayD C σ' c' d op K := by subst h1 h2; rfl
@[congr] theorem mayAdd_congr {C : Ctx} {σ σ' : St} {c c' : Bool} {d : Nat} {op : Op} (K : St → Prop) (h1 : σ = σ') (h2 : c = c') : mayAdd C σ c d op K = mayAdd C σ' c' d op K := by subst h1 h2; rfl
@[congr] theorem mayRow_congr {C : Ctx} {σ σ' : St} {c c' : Bool} {d : Nat} {op : Op} (K : St → Prop) (h1 : σ = σ') (h2 : c = c') : mayRow C σ c d op K = mayRow C σ' c' d op K := by subst h1 h2; rfl

/-- A guarded operation: it runs, or it is left out, or either. -/
def guardR (C : Ctx) (ops : List Oper) (d : Option Nat) (op : Op) (g : Nat) (want : Bool) (σ : St) (R : St → Prop) : Prop :=
  (match gslot ops σ.fr g with
    | some v => if v = some want then opK C σ.nx (ev σ.fr) σ.H d op (hold (fun U => U.fresh σ ∧ R (U.app σ)) (tok _)) else dOk C.nt d ∧ R (σ.skip d)
    | none => False) ∨
  (match gcond ops σ.fr g want with
    | some c => mayK C σ c d op R
    | none => False)

@[congr] theorem guardR_congr {C : Ctx} {ops : List Oper} {d : Option Nat} {op : Op} {g : Nat} {want : Bool} {σ σ' : St} (R : St → Prop) (h : σ = σ') : guardR C ops d op g want σ R = guardR C ops d op g want σ' R := by subst h; rfl

theorem guardR_may {C : Ctx} {ops : List Oper} {d : Option Nat} {op : Op} {g : Nat} {want c : Bool} {σ : St} {R : St → Prop} (h : gcond ops σ.fr g want = some c) (hm : mayK C σ c d op R) : guardR C ops d op g want σ R := by
  unfold guardR
  rw [h]
  exact .inr hm

theorem guardR_run {C : Ctx} {ops : List Oper} {d : Option Nat} {op : Op} {g : Nat} {want : Bool} {σ : St} {R : St → Prop} (h : gslot ops σ.fr g = some (some want))
    (ht : opK C σ.nx (ev σ.fr) σ.H d op (hold (fun U => U.fresh σ ∧ R (U.app σ)) (tok _))) : guardR C ops d op g want σ R := by
  unfold guardR
  rw [h]
  left
  simp only [if_true]
  exact ht

theorem guardR_skip {C : Ctx} {ops : List Oper} {d : Option Nat} {op : Op} {g : Nat} {want : Bool} {v : Option Bool} {σ : St} {R : St → Prop} (h : gslot ops σ.fr g = some v)
    (hv : v ≠ some want) (hf : dOk C.nt d ∧ R (σ.skip d)) : guardR C ops d op g want σ R := by
  unfold guardR
  rw [h]
  left
  simp only [if_neg hv]
  exact hf

theorem guardR_split {C : Ctx} {ops : List Oper} {d : Option Nat} {op : Op} {g : Nat} {want : Bool} {v : Option Bool} {σ : St} {R : St → Prop} (h : gslot ops σ.fr g = some v)
    (ht : v = some want → opK C σ.nx (ev σ.fr) σ.H d op (hold (fun U => U.fresh σ ∧ R (U.app σ)) (tok _))) (hf : v ≠ some want → dOk C.nt d ∧ R (σ.skip d)) : guardR C ops d op g want σ R := by
  unfold guardR
  rw [h]
  left
  by_cases hv : v = some want
  · simp only [if_pos hv]; exact ht hv
  · simp only [if_neg hv]; exact hf hv

/-- The operations of a region, in text order. -/
def seqRun (C : Ctx) (ops : List Oper) : List Oper → St → (St → Prop) → Prop
  | [], σ, Q => Q σ
  | o :: rest, σ, Q =>
    match o.guard with
    | none => opK C σ.nx (ev σ.fr) σ.H o.dst o.op (hold (fun U => U.fresh σ ∧ seqRun C ops rest (U.app σ) Q) (tok _))
    | some (g, want) => guardR C ops o.dst o.op g want σ (hold (fun σ' => seqRun C ops rest σ' Q) (tok _))

section
variable {C : Ctx} {φ φ' : Id → Option Value} {F : Bool → Nat → Prop} {F0 F1 : Nat → Prop} {σ : St} {a : Act} {w w' : World} {P : Program}

theorem yielded_of (h : RelX C φ F0 F1 σ a w) {ops : List Oper} {g : Nat} {v : Option Bool} (hg : gslot ops σ.fr g = some v) : yielded ops.toArray a.tmps g = v := by
  unfold gslot at hg
  split at hg
  · rename_i t ht
    unfold yielded
    have ht' : (ops.toArray[g]?).bind (·.dst) = some t := by simpa using ht
    rw [ht']
    unfold gval at hg
    split at hg
    · rename_i b hb
      cases hg
      obtain ⟨x, hx, hr⟩ := h.frame t _ hb
      simp only [repV, rep] at hr
      simp [hx, hr.1]
    · rename_i u hne hb
      cases hg
      obtain ⟨x, hx, hr⟩ := h.frame t _ hb
      simp only [repV, rep] at hr
      obtain ⟨rfl, _⟩ := hr
      simp only [Option.bind_some, hx]
      cases x <;> simp_all
    · rename_i hb
      cases hg
      obtain ⟨x, hx, hr⟩ := h.frame t _ hb
      simp only [repV] at hr
      obtain ⟨xs, rfl, _⟩ := hr
      simp [hx]
    · cases hg
  · cases hg

theorem RelX.skip (h : RelX C φ F0 F1 σ a w) {d : Option Nat} (hd : dOk C.nt d) : RelX C φ F0 F1 (σ.skip d) (a.put d undef) w := by
  cases d with
  | none => simpa [St.skip, Act.put] using h
  | some d => exact h.put hd (by simp only [repV, repVs]; exact ⟨#[], rfl, rfl⟩)

theorem yielded_iff (h : RelX C φ F0 F1 σ a w) {ops : List Oper} {g : Nat} {want c : Bool} (hg : gcond ops σ.fr g want = some c) : yielded ops.toArray a.tmps g = some want ↔ c = true := by
  unfold gcond at hg
  have key : ∀ p, ((ops[g]?).bind (·.dst)).bind σ.fr = some p → ∃ x, yielded ops.toArray a.tmps g = (match x with | .bool b => some b | _ => none) ∧ repV φ w (Fs F0 F1) p x := by
    intro p hp
    obtain ⟨t, ht, hp⟩ := Option.bind_eq_some_iff.1 hp
    obtain ⟨x, hx, hr⟩ := h.frame t p hp
    refine ⟨x, ?_, hr⟩
    unfold yielded
    have ht' : (ops.toArray[g]?).bind (·.dst) = some t := by simpa using ht
    rw [ht', Option.bind_some, hx]
    cases x <;> rfl
  split at hg
  · rename_i v hv
    cases hg
    obtain ⟨x, hy, hr⟩ := key _ hv
    simp only [repV, rep] at hr
    rw [hy, hr.1]
    simp
  · rename_i c1 v hv
    cases hg
    obtain ⟨x, hy, hr⟩ := key _ hv
    simp only [repV, rep] at hr
    cases c1
    · rw [hy, hr.2 rfl]
      simp [undef]
    · rw [hy, (hr.1 rfl).1]
      simp
  · rename_i hv
    cases hg
    obtain ⟨x, hy, hr⟩ := key _ hv
    simp only [repV, repVs] at hr
    obtain ⟨xs, rfl, _⟩ := hr
    rw [hy]
    simp
  · cases hg

theorem unm_view (h : RelX C φ F0 F1 σ a w) {c : Bool} (hc : c = true) : View φ w (Fs F0 F1) a σ (unm c (ev σ.fr)) σ.H := by
  refine ⟨fun {x p} hx => ?_, fun e => e⟩
  unfold unm at hx
  split at hx
  · rename_i b q hq
    split at hx
    · rename_i hb
      cases hx
      have := ev_rep h hq
      simp only [repV] at this
      exact this.1 (by simpa [hc] using hb)
    · cases hx
  · exact ev_rep h hx

theorem RelX.undef (h : RelX C φ F0 F1 σ a w) {d : Nat} {p : PV} (hd : d < C.nt) : RelX C φ F0 F1 { σ with fr := upd σ.fr d (some (.may false p)) } (a.put (some d) undef) w :=
  h.put hd (by simp only [repV]; exact ⟨fun e => (by cases e), fun _ => trivial⟩)

theorem Rel.may {d : Nat} {p : PV} (h : Rel C { σ with fr := upd σ.fr d (some p) } a w) : Rel C { σ with fr := upd σ.fr d (some (.may true p)) } a w := by
  obtain ⟨φ, F0, F1, h⟩ := h
  refine ⟨φ, F0, F1, h.size, h.defs, fun t q hq => ?_, h.heap, h.inj, h.apart, h.sub, h.ini, h.new1, h.lt0, h.os, h.tape, h.output, h.big, h.kept, h.k0lt, h.gbig, h.glob, h.keep, h.nx1, h.ids⟩
  by_cases ht : t = d
  · subst ht
    simp only [upd_self] at hq
    cases hq
    obtain ⟨x, hx, hr⟩ := h.frame t p (by simp [upd_self])
    refine ⟨x, hx, ?_⟩
    simp only [repV]
    exact ⟨fun _ => hr, fun e => by cases e⟩
  · simp only [upd_ne _ _ ht] at hq
    exact h.frame t q (by simp only [upd_ne _ _ ht]; exact hq)

theorem mayAdd_run (h : RelX C φ F0 F1 σ a w) {c : Bool} (hc : c = true) {d : Nat} {op : Op} {ty : TypeId} {pos : String} {af : Array Edge} {gd : Option (Nat × Bool)} {K : St → Prop} {K' : Act → World → Prop} {Q' : Exit → Act → World → Prop} (hs : mayAdd C σ c d op K)
    (hK : ∀ σ' a' w', Rel C σ' a' w' → K σ' → K' a' w') : Oper.wp C.P ⟨some d, op, ty, pos, af, gd⟩ a w K' Q' := by
  unfold mayAdd mayAddK at hs
  split at hs
  · rename_i p hv
    obtain ⟨x, w', hr, rfl, hx⟩ := vAdd_sound (i := (0, 0)) h (unm_view h hc) (by simp) ⟨some d, op, ty, pos, af, gd⟩ hv
    refine value_wp hr (hK _ _ _ ⟨φ, F0, F1, h.put hs.1 ?_⟩ hs.2)
    simp only [repV]
    exact ⟨fun _ => hx, fun e => by rw [hc] at e; cases e⟩
  · exact hs.elim

theorem mayRow_run (h : RelX C φ F0 F1 σ a w) {c : Bool} (hc : c = true) {d : Nat} {op : Op} {ty : TypeId} {pos : String} {af : Array Edge} {gd : Option (Nat × Bool)} {K : St → Prop} {K' : Act → World → Prop} {Q' : Exit → Act → World → Prop} (hs : mayRow C σ c d op K)
    (hK : ∀ σ' a' w', Rel C σ' a' w' → K σ' → K' a' w') : Oper.wp C.P ⟨some d, op, ty, pos, af, gd⟩ a w K' Q' := by
  unfold mayRow mayRowK at hs
  split at hs
  · rename_i j e s n cs hv
    obtain ⟨hd, hus, rfl, hfr, hk⟩ := hs
    obtain ⟨x, w', hr, v, hb, hh, hg, hx⟩ := vAdd_sound (i := (σ.nx + d, 0)) h (unm_view h hc) (fun _ => h.fresh hus) ⟨some d, op, ty, pos, af, gd⟩ hv
    have hX : ∀ g, blkOf v = some g → w.heap.size ≤ g ∧ g < w'.heap.size := fun g hg' => ⟨hg g hg', holds_lt hh (upd_self _ _ _) hg'⟩
    have hR := h.grow hb (fun g => blkOf v = some g) hX
    refine value_wp hr (hK _ _ _ ⟨_, _, _, hR.put hd ?_⟩ hk)
    simp only [repV]
    refine ⟨fun _ => ?_, fun e => by rw [hc] at e; cases e⟩
    simp only [repV, rep] at hx ⊢
    obtain ⟨hx, _⟩ := hx
    rw [upd_self] at hx
    cases hx
    have hh' := hh
    obtain ⟨u, vs, hu, ⟨hl, ho⟩, hrs⟩ := hh
    rw [upd_self] at hu
    cases hu
    rcases ho with ⟨rfl, rfl⟩ | ⟨g, cap, cur, rfl, _, hcur, hn, _⟩
    · refine ⟨none, 0, rfl, Nat.le_refl _, .inl ⟨rfl, ?_⟩⟩
      exact List.length_eq_zero_iff.1 (by rw [← reps_length _ _ hrs, hl]; simp)
    · exact ⟨_, cap, rfl, hn, .inr ⟨_, rfl, .inr rfl, free_repAt (fun t g hg => by cases t <;> exact .inl hg) cs _ hfr (holds_repAt hh' (upd_self _ _ _) rfl)⟩⟩
  · exact hs.elim

theorem mayK_run (h : RelX C φ F0 F1 σ a w) {c : Bool} (hc : c = true) {o : Oper} {K : St → Prop} {K' : Act → World → Prop} {Q' : Exit → Act → World → Prop} (hs : mayK C σ c o.dst o.op K) (hK : ∀ σ' a' w', Rel C σ' a' w' → K σ' → K' a' w') : o.wp C.P a w K' Q' := by
  obtain ⟨d, op, ty, pos, af, gd⟩ := o
  cases d with
  | none => exact hs.elim
  | some d =>
    simp only [mayK] at hs
    cases op
    case pick x y z =>
      simp only [mayD] at hs
      unfold mayPickK at hs
      split at hs
      · rename_i b hb
        refine value_wp (vpick_run h.view hc hb) (hK _ _ _ ⟨φ, F0, F1, h.put hs.1 ?_⟩ hs.2)
        simp only [repV, rep]
        exact ⟨fun _ => ⟨trivial, rfl⟩, fun e => by rw [hc] at e; cases e⟩
      · exact hs.elim
    case buildSlice => exact mayRow_run h hc hs hK
    case call cc =>
      simp only [mayD] at hs
      split at hs
      · unfold mayCall at hs
        split at hs
        · rename_i f ps hcall
          obtain ⟨hd, hus, hfr, r, B, hv, hst, rfl, hk⟩ := hs
          have fin : ∀ a' w', Rel C (σ.called d r []) a' w' → K' a' w' := by
            intro a' w' hR
            refine hK _ _ _ ?_ hk
            have hB : bindB (σ.nx + d) [] σ.H = σ.H := by funext i; simp [bindB]
            unfold St.called at hR
            rw [hB] at hR
            subst hc
            exact Rel.may (σ := { σ with us := upd σ.us d true }) hR
          rcases hst with hst | hst
          · exact call_ok h (unm_view h hc) hcall hv hfr hst hd hus fin
          · exact call_ok_share h (unm_view h hc) hcall hv hst hfr hd hus fin
        · exact hs.elim
      · exact mayAdd_run h hc hs hK
    all_goals exact mayAdd_run h hc hs hK

theorem mayK_skip (h : RelX C φ F0 F1 σ a w) {c : Bool} (hc : c = false) {d : Option Nat} {op : Op} {K : St → Prop} (hs : mayK C σ c d op K) : ∃ σ', Rel C σ' (a.put d undef) w ∧ K σ' := by
  subst hc
  cases d with
  | none => exact hs.elim
  | some d =>
    simp only [mayK] at hs
    have add : ∀ op : Op, mayAdd C σ false d op K → ∃ σ', Rel C σ' (a.put (some d) undef) w ∧ K σ' := by
      intro op hs
      unfold mayAdd mayAddK at hs
      split at hs
      · exact ⟨_, ⟨φ, F0, F1, h.undef hs.1⟩, hs.2⟩
      · exact hs.elim
    cases op
    case pick x y z =>
      simp only [mayD] at hs
      unfold mayPickK at hs
      split at hs
      · exact ⟨_, ⟨φ, F0, F1, h.undef hs.1⟩, hs.2⟩
      · exact hs.elim
    case buildSlice =>
      simp only [mayD] at hs
      unfold mayRow mayRowK at hs
      split at hs
      · exact ⟨_, ⟨φ, F0, F1, h.undef hs.1⟩, hs.2.2.2.2⟩
      · exact hs.elim
    case call cc =>
      simp only [mayD] at hs
      split at hs
      · unfold mayCall at hs
        split at hs
        · rename_i f ps hcall
          obtain ⟨hd, hus, hfr, r, B, hv, hst, rfl, hk⟩ := hs
          refine ⟨_, ⟨φ, F0, F1, ((h.undef (p := r.ren (σ.nx + d)) hd).weaken (τ := { σ with fr := upd σ.fr d (some (.may false (r.ren (σ.nx + d)))), us := upd σ.us d true }) ⟨fun _ _ e => e, fun _ _ e => e, fun e he => ?_, rfl⟩)⟩, hk⟩
          by_cases hed : e = d
          · subst hed; exact upd_self _ _ _
          · simp only [upd_ne _ _ hed]; exact he
        · exact hs.elim
      · exact add _ hs
    all_goals (simp only [mayD] at hs; exact add _ hs)

theorem seqRun_sound {ops : List Oper} {Q : St → Prop} {Q' : Exit → Act → World → Prop} (hQ : ∀ σ a w, Rel C σ a w → Q σ → Q' .normal a w) : ∀ (l : List Oper) (σ : St) (a : Act) (w : World), Rel C σ a w → seqRun C ops l σ Q → wpList C.P ops.toArray Q' l a w
  | [], σ, a, w, h, hs => hQ _ _ _ h (by simpa only [seqRun] using hs)
  | o :: rest, σ, a, w, h, hs => by
    have run : (opK C σ.nx (ev σ.fr) σ.H o.dst o.op fun U => U.fresh σ ∧ seqRun C ops rest (U.app σ) Q) → o.wp C.P a w (wpList C.P ops.toArray Q' rest) Q' := by
      intro ho
      obtain ⟨U, hU, hf, hn⟩ := opK_elim ho
      obtain ⟨φ, F0, F1, h⟩ := h
      exact opU_sound h h.view hU hf fun a' w' hR => seqRun_sound hQ rest _ a' w' hR hn
    unfold wpList
    simp only [seqRun] at hs
    split at hs
    · rename_i hg
      rw [if_pos (by simp [Region.wanted, hg])]
      exact .inl (run hs)
    · rename_i g want hg
      unfold guardR at hs
      rcases hs with hs | hs
      · split at hs
        · rename_i v hv
          obtain ⟨φ, F0, F1, h'⟩ := h
          have hy := yielded_of h' hv
          split at hs
          · rename_i hvw
            rw [if_pos (by simp [Region.wanted, hg, hy, hvw])]
            exact .inl (run hs)
          · rename_i hvw
            rw [if_neg (by simp [Region.wanted, hg, hy, hvw])]
            exact seqRun_sound hQ rest _ _ _ ⟨φ, F0, F1, h'.skip hs.1⟩ hs.2
        · exact hs.elim
      · split at hs
        · rename_i c hc
          have hrec : ∀ σ' a' w', Rel C σ' a' w' → seqRun C ops rest σ' Q → wpList C.P ops.toArray Q' rest a' w' := fun σ' a' w' hR hn => seqRun_sound hQ rest σ' a' w' hR hn
          obtain ⟨φ, F0, F1, h'⟩ := h
          have hy := yielded_iff h' hc
          cases hcb : c with
          | true =>
            rw [if_pos (by simp only [Region.wanted, hg]; rw [beq_iff_eq]; exact hy.2 hcb)]
            exact .inl (mayK_run h' hcb hs hrec)
          | false =>
            rw [if_neg (by
              simp only [Region.wanted, hg]
              rw [beq_iff_eq]
              intro e
              have := hy.1 e
              rw [hcb] at this; cases this)]
            obtain ⟨σ', hR, hn⟩ := mayK_skip h' hcb hs
            exact hrec _ _ _ hR hn
        · exact hs.elim

theorem region_seq {ops : Array Oper} {id : Nat} {Q : St → Prop} {Q' : Exit → Act → World → Prop} (hQ : ∀ σ a w, Rel C σ a w → Q σ → Q' .normal a w) (h : Rel C σ a w) (hs : seqRun C ops.toList ops.toList σ Q) :
    (Code.region id ops false).wp C.P Q' a w :=
  wp_region_list (by simpa using seqRun_sound hQ ops.toList σ a w h hs)
end
end Go.Vm
end
