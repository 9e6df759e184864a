/-
  Abstract states over the model's worlds, and that a step of them is a step of the program: part C of a framework. Conditions: each theorem's own premises. By an AI agent.
-/
import Derived.Test.YtnpbndglolcilaaDoorVmB
import Derived.Laws.StructEq
import Derived.Laws.BitsLemmas
import Derived.Laws.Rows
namespace Go.Vm
open Go Go.RowKit

/-! ### What an operation gives -/

def szT (P : Program) (t : TypeId) : Option Nat := (P.info? t).map (·.size)
def zeroT (P : Program) (t : TypeId) : Option Value := (P.info? t).bind (·.zero)
def bytesT (P : Program) (t : TypeId) : Option Nat := (P.info? t).map (·.bytes)
def isAggT (P : Program) (t : TypeId) : Option Bool :=
  match P.underlying t with
  | some (.struct _) => some true
  | some (.array _ _) => some true
  | some _ => some false
  | none => none
def elemT (P : Program) (t : TypeId) : Option TypeId :=
  match P.underlying t with
  | some (.slice e) => some e
  | _ => none
def fieldT (P : Program) (t : TypeId) (f : Nat) : Option Field :=
  match P.underlying t with
  | some (.struct fs) => fs[f]?
  | _ => none

def cst (v : Value) : Option PV :=
  match v with
  | .agg cs => if cs.toList.all (fun u => u.oneCell') then some (.agg (cs.toList.map .c)) else none
  | .tuple _ => none
  | v => some (.one (.c v))

def ev (fr : Nat → Option PV) : Operand → Option PV
  | .tmp t => fr t
  | .const v => cst v
  | .func f => some (.one (.fn f []))
  | .global _ => none

def PV.cells : PV → Option (List PC)
  | .one p => some [p]
  | .agg ps => some ps
  | .tup _ => none
  | .may _ _ => none

/-- A value of type t, out of the cells that begin there. -/
def takeT (P : Program) (t : TypeId) (ys : List PC) : Option PV :=
  match isAggT P t with
  | some true =>
    match szT P t with
    | some s => if s ≤ ys.length then some (.agg (ys.take s)) else none
    | none => none
  | some false =>
    match ys with
    | p :: _ => some (.one p)
    | [] => none
  | none => none

/-- The cells behind an address. -/
def behind (H : Id → Option Blk) : PV → Option (List PC)
  | .one (.loc i off) =>
    match H i with
    | some b => some (b.cells.drop off)
    | none => none
  | .one (.at _ ys) => some ys
  | _ => none

def shiftA (n : Nat) : PV → Option PV
  | .one (.loc i off) => some (.one (.loc i (off + n)))
  | .one (.at t ys) => some (.one (.at t (ys.drop n)))
  | _ => none

def asI : PV → Option (IntKind × Int)
  | .one (.c (.int k n)) => some (k, n)
  | _ => none
def asB : PV → Option Bool
  | .one (.c (.bool b)) => some b
  | _ => none
def asS : PV → Option ByteArray
  | .one (.c (.string s)) => some s
  | _ => none

def byteAt (s : ByteArray) (j : Nat) : UInt8 := s.data.toList.getD j 0

def vbinI (op : BinOp) (k : IntKind) (a b : Int) : Option Value :=
  match op with
  | .add => some (.int k (k.wrap (a + b)))
  | .sub => some (.int k (k.wrap (a - b)))
  | .mul => some (.int k (k.wrap (a * b)))
  | .quo => if b = 0 then none else some (.int k (k.wrap (a.tdiv b)))
  | .rem => if b = 0 then none else some (.int k (a.tmod b))
  | .and => some (.int k (bits .and k a b))
  | .or => some (.int k (bits .or k a b))
  | .xor => some (.int k (bits .xor k a b))
  | .andNot => some (.int k (bits .andNot k a b))
  | .eql => some (.bool (a == b))
  | .neq => some (.bool (a != b))
  | .lss => some (.bool (decide (a < b)))
  | .leq => some (.bool (decide (a ≤ b)))
  | .gtr => some (.bool (decide (b < a)))
  | .geq => some (.bool (decide (b ≤ a)))
  | .shl => if 0 ≤ b ∧ b ≤ k.bits then some (.int k (k.wrap (a * 2 ^ b.toNat))) else none
  | .shr => if 0 ≤ b ∧ b ≤ k.bits then some (.int k (a / 2 ^ b.toNat)) else none

def vbinS (op : BinOp) (a b : ByteArray) : Option Value :=
  match op with
  | .add => if a.size + b.size ≤ 9223372036854775807 then some (.string (a ++ b)) else none
  | .eql => some (.bool (a.toList == b.toList))
  | .neq => some (.bool (!(a.toList == b.toList)))
  | _ => none

def isBool (P : Program) (t : TypeId) : Bool :=
  match P.underlying t with
  | some .bool => true
  | _ => false

def vbin (P : Program) (op : BinOp) (t : TypeId) (x y : Value) : Option Value :=
  match x, y with
  | .int k a, .int k' b => if k = k' ∨ op = .shl ∨ op = .shr then vbinI op k a b else none
  | .string a, .string b => vbinS op a b
  | .bool a, .bool b =>
    match op with
    | .eql => if isBool P t then some (.bool (a == b)) else none
    | .neq => if isBool P t then some (.bool (!(a == b))) else none
    | _ => none
  | _, _ => none

def vun (op : UnOp) (x : Value) : Option Value :=
  match op, x with
  | .neg, .int k n => some (.int k (k.wrap (0 - n)))
  | .xor, .int k n => some (.int k (bits .xor k (if k.signed then -1 else k.max) n))
  | .not, .bool b => some (.bool !b)
  | _, _ => none

theorem run_vbinI {P : Program} {w : World} {op : BinOp} {t : TypeId} {k k' : IntKind} {a b : Int} {v : Value} (hk : k = k' ∨ op = .shl ∨ op = .shr) (h : vbinI op k a b = some v) :
    (binOp op t (.int k a) (.int k' b)).run P w = .ok v w := by
  by_cases h1 : op = .shl
  · subst h1
    simp only [vbinI] at h
    split at h
    · cases h; rw [binOp_shl, shift_shl _ _ _ _ (by omega) (by omega)]; rfl
    · cases h
  by_cases h2 : op = .shr
  · subst h2
    simp only [vbinI] at h
    split at h
    · cases h; rw [binOp_shr, shift_shr _ _ _ _ (by omega) (by omega)]; rfl
    · cases h
  obtain rfl : k = k' := by rcases hk with hk | hk | hk <;> first | exact hk | exact absurd hk h1 | exact absurd hk h2
  cases op <;> simp only [vbinI] at h <;> first
    | (cases h; simp [go_sem, Op.intArith]; done)
    | exact absurd rfl h1
    | exact absurd rfl h2
    | (split at h; · cases h
       · cases h; simp_all [go_sem, Op.intDiv])
    | (cases h; simp [binOp, Op.intCmp]; done)

theorem run_vbinS {P : Program} {w : World} {op : BinOp} {t : TypeId} {a b : ByteArray} {v : Value} (h : vbinS op a b = some v) :
    (binOp op t (.string a) (.string b)).run P w = .ok v w := by
  cases op <;> simp only [vbinS] at h <;> first
    | (cases h; done)
    | (cases h; simp [binOp, Op.stringOp]; done)
    | (split at h
       · cases h
         have e : ¬ ((a.size + b.size : Nat) : Int) > IntKind.i64.max := by
           have : IntKind.i64.max = 9223372036854775807 := rfl
           omega
         simp only [binOp, Op.stringOp, if_neg e]
         rfl
       · cases h)

theorem run_vbin {P : Program} {w : World} {op : BinOp} {t : TypeId} {x y : Value} {v : Value} (h : vbin P op t x y = some v) :
    (binOp op t x y).run P w = .ok v w := by
  unfold vbin at h
  split at h
  · split at h
    · exact run_vbinI ‹_› h
    · cases h
  · exact run_vbinS h
  · split at h
    all_goals first
      | cases h; done
      | (split at h
         · rename_i hb
           have hu : P.underlying t = some .bool := by
             unfold isBool at hb
             split at hb
             · assumption
             · cases hb
           cases h
           simp [binOp, Op.equal, Op.maxDepth, run_equalIn_bool' w 9999 t _ _ hu]
         · cases h)
  · cases h

theorem run_vun {P : Program} {w : World} {op : UnOp} {x v : Value} (h : vun op x = some v) : (Op.unary op x).run P w = .ok v w := by
  unfold vun at h
  split at h
  · cases h; simp [Op.unary, Op.intArith]
  · cases h; simp [Op.unary, intBits_xor]
  · cases h; simp [Op.unary]
  · cases h

theorem eqGuard_plain {P : Program} {w : World} {op : BinOp} {t : TypeId} {x y : Operand} {u v r : Value} (h : vbin P op t u v = some r) : (eqGuard op t x y u v).run P w = .ok () w := by
  unfold vbin at h
  split at h
  · simp [go_sem]
  · simp [go_sem]
  · simp [go_sem]
  · cases h
end Go.Vm
