/-
  Abstract states over the model's worlds, and that a step of them is a step of the program: part VmAL of a framework. Conditions: each theorem's own premises. By an AI agent.
-/
import Derived.Test.YtcdbbiognijleaaGreatVmAK
import Derived.Test.YtcdbbiognijleaaGreatVmAJ
section
namespace Go.Vm
open Go Go.RowKit
set_option linter.unusedSimpArgs false
set_option linter.unusedVariables false

/-! ### What an operation comes to, computed -/
abbrev Cx := FuncId → List PV → Option (PV × List Blk)
/-- Calls that are handed blocks; which functions are handed the caller's rows too. -/
structure Io where
  run : FuncId → List PV → List Blk → Option (PV × List (Option Blk))
  md : FuncId → Nat
  it : FuncId → List PV → List Blk → Option (List (List PV)) := fun _ _ _ => none

def valO (nt : Nat) (d : Option Nat) (p : PV) : Option Upd :=
  match d with
  | none => none
  | some d => if d < nt then some (.val (some d) p) else none
def addO (nt : Nat) (d : Option Nat) : Option (PV × Option Blk) → Option Upd
  | some (p, none) =>
    match d with
    | none => some (.val none p)
    | some d => if d < nt then some (.val (some d) p) else none
  | some (p, some b) =>
    match d with
    | none => none
    | some d => if d < nt then some (.new d p b) else none
  | none => none
def vAddO (P : Program) (nt nx : Nat) (ρ : Operand → Option PV) (H : Id → Option Blk) (d : Option Nat) (op : Op) : Option Upd :=
  addO nt d (vAll P (nx + d.getD 0, 0) ρ H op)
def heapO : Option (Id × Blk) → Option Upd
  | some (i, b) => some (.heap i b)
  | none => none
def mvO (nt : Nat) (d : Option Nat) : Option (Option Id × Blk) → Option Upd
  | some (i, b) =>
    match d with
    | none => none
    | some d => if d < nt then some (.mv d i b) else none
  | none => none

def copyO (nt : Nat) (d : Option Nat) : Option (Nat × Option (Id × Blk)) → Option Upd
  | some (k, none) => valO nt d (.one (.c (.int .i64 k)))
  | some (k, some (i, b)) =>
    match d with
    | none => none
    | some d => if d < nt then some (.io d [i] (.one (.c (.int .i64 k))) [some b]) else none
  | none => none

def inO (nt : Nat) (d : Option Nat) : Id × Nat × Blk → Option Upd
  | (i, n, b) =>
    match d with
    | none => none
    | some d => if d < nt then some (.io d [i] (.one (.cut (0, 0) n)) [some b]) else none
def clearO (d : Option Nat) : Option (Option (Id × Blk)) → Option Upd
  | some none =>
    match d with
    | none => some (.val none (.one .emp))
    | some _ => none
  | some (some (i, b)) =>
    match d with
    | none => some (.heap i b)
    | some _ => none
  | none => none

mutual
/-- The blocks that a cell names. -/
def PC.ids : PC → List Id
  | .loc i _ => [i]
  | .vw i _ _ => [i]
  | .cut i _ => [i]
  | .rmp _ _ ps => PC.idss ps
  | .own i => [i]
  | .fn _ cs => PC.idss cs
  | .mth _ cs => PC.idss cs
  | .sl _ _ cs => PC.idss cs
  | .at _ cs => PC.idss cs
  | .c _ => []
  | .ifc => []
  | .any => []
  | .emp => []
def PC.idss : List PC → List Id
  | [] => []
  | p :: ps => p.ids ++ PC.idss ps
end
/-- The blocks that an argument hands on: not the rows, which are only read. -/
def PC.lent (H : Id → Option Blk) : PC → List Id
  | .own i =>
    match H i with
    | some (.mp _ _) => [i]
    | _ => []
  | p => p.ids
def PV.lent (H : Id → Option Blk) : PV → List Id
  | .one p => p.lent H
  | .agg ps => ps.flatMap (PC.lent H)
  | _ => []
def reach (H : Id → Option Blk) : Nat → List Id → List Id → List Id
  | _, [], acc => acc.reverse
  | 0, _, acc => acc.reverse
  | n + 1, i :: todo, acc =>
    if acc.contains i then reach H n todo acc
    else match H i with
      | some b => reach H n (PC.idss b.kids ++ todo) (i :: acc)
      | none => reach H n todo (i :: acc)

def PV.idAll : PV → List Id
  | .one p => p.ids
  | .agg ps => PC.idss ps
  | _ => []
def lentOf (all : Bool) (H : Id → Option Blk) (ps : List PV) : List Id :=
  match all with
  | true => ps.flatMap PV.idAll
  | false => ps.flatMap (PV.lent H)
def kdOf : Bool → Nat
  | true => 0
  | false => 4
def ioO (all : Bool) (io : Io) (f : FuncId) (d : Nat) (ps : List PV) (H : Id → Option Blk) : Option Upd :=
  let M := reach H 100000 (lentOf all H ps) []
  match gets H M with
  | none => none
  | some bs =>
    let args := ps.map fun p => (cloV (hide M H) (kdOf all) p).ioc M
    let Hin := bs.map (Blk.ioc M)
    if (args.all PV.tag0 && tag0B Hin && nodup M) = true then
      match io.run f args Hin with
      | some (r, B) => if (r.strict && strictBO B) = true ∨ (ps.map (PV.ioc M)).all PV.tag0 = true then some (.io d M r B) else none
      | none => none
    else none

/-- A call that only reads. -/
def roO (cx : Cx) (f : FuncId) (d : Nat) (ps : List PV) (H : Id → Option Blk) : Option Upd :=
  if PV.frees (ps.map (clrV H 8)) = true then
    match cx f (ps.map (clrV H 8)) with
    | some (r, B) => if (r.strict && strictB B) = true then some (.io d [] r (B.map some)) else none
    | none => none
  else none
def callO (cx : Cx) (io : Io) (nt : Nat) (H : Id → Option Blk) (d : Option Nat) : Option (FuncId × List PV) → Option Upd
  | some (f, ps) =>
    match d with
    | none => none
    | some d =>
      if d < nt then
        match io.md f with
        | 1 => ioO true io f d ps H
        | 2 => ioO false io f d ps H
        | 3 => roO cx f d ps H
        | 4 =>
          if (PV.frees ps && PV.frees (ps.map (cloV H 4))) = true then
            match cx f (ps.map (cloV H 4)) with
            | some (r, B) => some (.call d r B)
            | none => none
          else ioO true io f d ps H
        | _ =>
          if PV.frees (ps.map (cloV H 4)) = true then
            match cx f (ps.map (cloV H 4)) with
            | some (r, B) => if (r.strict && strictB B) = true ∨ PV.frees ps = true then some (.call d r B) else none
            | none => none
          else ioO true io f d ps H
      else none
  | none => none

def opO (P : Program) (nt : Nat) (cx : Cx) (io : Io) (nx : Nat) (ρ : Operand → Option PV) (H : Id → Option Blk) (d : Option Nat) (op : Op) : Option Upd :=
  match op with
  | .call c =>
    match c.callee with
    | .value _ => callO cx io nt H d (callOf ρ c)
    | .builtin .append =>
      match appC P ρ H c with
      | some x => inO nt d x
      | none =>
        match appE P ρ H c with
        | some none => valO nt d (.one .emp)
        | some (some b) => mvO nt d (some (none, b))
        | none => mvO nt d (vapp P ρ H c)
    | .builtin .copy => copyO nt d (vcopy P ρ H c)
    | .builtin .clear => clearO d (vclear P ρ H c)
    | _ => vAddO P nt nx ρ H d op
  | .store t x y =>
    match d with
    | none => heapO (vstore P ρ H t x y)
    | some _ => none
  | .mapUpdate t m k x =>
    match d with
    | none => heapO (vmapAll P ρ H t m k x)
    | some _ => none
  | .insert t m k x =>
    match d with
    | none => heapO (vmapAll P ρ H t m k x)
    | some _ => none
  | .pick c x y =>
    match vpick true ρ c x y with
    | some b => valO nt d (.one (.c (.bool b)))
    | none => none
  | .binOp bop t x y _ =>
    match isNilC y with
    | 0 => vAddO P nt nx ρ H d op
    | k + 1 =>
      match vnil P H bop t (ρ x) (k + 1) with
      | some b => valO nt d (.one (.c (.bool b)))
      | none => none
  | .convert s t x =>
    match vconv P ρ H s t x with
    | some b => valO nt d (.one (.c (.string b)))
    | none => vAddO P nt nx ρ H d op
  | .slice t x lo hi mx =>
    match ρ x, mx with
    | some (.one (.sl b n xs)), none =>
      match vrow P ρ t b n xs lo hi with
      | some p => valO nt d p
      | none => none
    | some (.one (.own _)), _ => vAddO P nt nx ρ H d op
    | _, _ => vAddO P nt nx ρ H d op
  | _ => vAddO P nt nx ρ H d op

/-- The contracts that the evaluator may use. -/
structure Knows (P : Program) (gw : World) (gb : Nat) (cx : Cx) (io : Io) : Prop where
  cx : ∀ f args r B, cx f args = some (r, B) → VCall P gw gb f args r B
  it : ∀ f args Hin xs, io.it f args Hin = some xs → VIterG P gw gb f args Hin xs
  io : ∀ f args Hin r B, io.run f args Hin = some (r, B) → VCallIO P gw gb f args Hin r B

section
variable {C : Core} {cx : Cx} {io : Io} {nt nx : Nat} {ρ : Operand → Option PV} {H : Id → Option Blk} {d : Option Nat} {op : Op} {U : Upd} {K : Upd → Prop}

theorem valO_ok {p : PV} (h : valO nt d p = some U) (hK : K U) : valK nt d K p := by
  unfold valO at h
  unfold valK
  cases d with
  | none => cases h
  | some d =>
    simp only at h ⊢
    split at h
    · cases h; exact ⟨‹_›, hK⟩
    · cases h
theorem addO_ok {o : Option (PV × Option Blk)} (h : addO nt d o = some U) (hK : K U) : addK nt d K o := by
  unfold addO at h
  unfold addK
  split at h
  · split at h
    · cases h; exact hK
    · split at h
      · cases h; exact ⟨‹_›, hK⟩
      · cases h
  · split at h
    · cases h
    · split at h
      · cases h; exact ⟨‹_›, hK⟩
      · cases h
  · cases h
theorem heapO_ok {o : Option (Id × Blk)} (h : heapO o = some U) (hK : K U) : heapK K o := by
  unfold heapO at h
  unfold heapK
  split at h
  · cases h; exact hK
  · cases h
theorem mvO_ok {o : Option (Option Id × Blk)} (h : mvO nt d o = some U) (hK : K U) : mvK nt d K o := by
  unfold mvO at h
  unfold mvK
  split at h
  · split at h
    · cases h
    · split at h
      · cases h; exact ⟨‹_›, hK⟩
      · cases h
  · cases h
theorem copyO_ok {o} (h : copyO nt d o = some U) (hK : K U) : copyK nt d K o := by
  unfold copyO at h
  unfold copyK
  split at h
  · exact valO_ok h hK
  · split at h
    · cases h
    · split at h
      · cases h; exact ⟨‹_›, hK⟩
      · cases h
  · cases h
theorem inO_ok {o} (h : inO nt d o = some U) (hK : K U) : inK nt d K o := by
  obtain ⟨i, n, b⟩ := o
  unfold inO at h
  unfold inK
  simp only at h ⊢
  split at h
  · cases h
  · split at h
    · cases h; exact ⟨‹_›, hK⟩
    · cases h
theorem clearO_ok {o} (h : clearO d o = some U) (hK : K U) : clearK d K o := by
  unfold clearO at h
  unfold clearK
  split at h
  · split at h
    · cases h; exact hK
    · cases h
  · split at h
    · cases h; exact hK
    · cases h
  · cases h
theorem ioO_ok (hk : Knows C.P C.gw C.gb cx io) {all : Bool} {f : FuncId} {ps : List PV} {d : Nat} (h : ioO all io f d ps H = some U) (hK : K U) : ioE C.P C.gw C.gb f ps H (hold (fun M r B => K (.io d M r B)) (tok _)) := by
  unfold ioO at h
  simp only at h
  split at h
  · cases h
  · rename_i bs hb
    split at h
    · rename_i ht
      split at h
      · rename_i r B hc
        split at h
        · rename_i hs
          cases h
          refine ioE_introK _ _ (hk.io _ _ _ _ _ hc) hb rfl rfl ht ?_ hK
          rcases hs with hs | hs
          · left
            rwa [Bool.and_eq_true] at hs
          · exact .inr hs
        · cases h
      · cases h
    · cases h
theorem callO_ok (hk : Knows C.P C.gw C.gb cx io) {o : Option (FuncId × List PV)} (h : callO cx io C.nt H d o = some U) (hK : K U) : callK C H d K o := by
  unfold callO at h
  unfold callK
  split at h
  · rename_i f ps
    split at h
    · cases h
    · rename_i d
      split at h
      · rename_i hd
        refine ⟨hd, ?_⟩
        split at h
        · exact .inr (ioO_ok hk h hK)
        · exact .inr (ioO_ok hk h hK)
        · right
          unfold roO at h
          split at h
          · rename_i hf
            split at h
            · rename_i r B hc
              split at h
              · rename_i hs
                cases h
                rw [Bool.and_eq_true] at hs
                exact ioE_read (hk.cx _ _ _ _ hc) hf hs hK
              · cases h
            · cases h
          · cases h
        · split at h
          · rename_i hf
            rw [Bool.and_eq_true] at hf
            left
            refine ⟨hf.2, ?_⟩
            split at h
            · rename_i r B hc
              cases h
              exact callE_intro (hk.cx _ _ _ _ hc) (.inr hf.1) hK
            · cases h
          · exact .inr (ioO_ok hk h hK)
        · split at h
          · rename_i hf
            left
            refine ⟨hf, ?_⟩
            split at h
            · rename_i r B hc
              split at h
              · rename_i hs
                cases h
                refine callE_intro (hk.cx _ _ _ _ hc) ?_ hK
                rcases hs with hs | hs
                · left
                  rwa [Bool.and_eq_true] at hs
                · exact .inr hs
              · cases h
            · cases h
          · exact .inr (ioO_ok hk h hK)
      · cases h
  · cases h
theorem opO_ok (hk : Knows C.P C.gw C.gb cx io) (hcu : C.cut = true) (h : opO C.P C.nt cx io nx ρ H d op = some U) (hK : K U) : opK C nx ρ H d op K := by
  cases op
  case call c =>
    simp only [opO] at h; simp only [opK]
    split at h
    · rename_i hc; simp only [hc]; exact callO_ok hk h hK
    · rename_i hc; simp only [hc]
      split at h
      · rename_i x hc; simp only [hc]; exact inO_ok h hK
      · rename_i hc; simp only [hc]
        split at h
        · rename_i he; simp only [he]; exact valO_ok h hK
        · rename_i b he; simp only [he]; exact mvO_ok h hK
        · rename_i he; simp only [he]; exact mvO_ok h hK
    · rename_i hc; simp only [hc]; exact copyO_ok h hK
    · rename_i hc; simp only [hc]; exact clearO_ok h hK
    · rename_i h1 h2 h3 h4
      split
      · rename_i hc; exact absurd hc (h1 _)
      · rename_i hc; exact absurd hc h2
      · rename_i hc; exact absurd hc h3
      · rename_i hc; exact absurd hc h4
      · exact addO_ok h hK
  case store t x y =>
    simp only [opO] at h; simp only [opK]
    cases d with
    | none => exact heapO_ok h hK
    | some _ => cases h
  case mapUpdate t m k x =>
    simp only [opO] at h; simp only [opK]
    cases d with
    | none => exact heapO_ok h hK
    | some _ => cases h
  case insert t m k x =>
    simp only [opO] at h; simp only [opK]
    cases d with
    | none => exact heapO_ok h hK
    | some _ => cases h
  case pick c x y =>
    simp only [opO] at h; simp only [opK]
    cases hv : vpick true ρ c x y with
    | none => rw [hv] at h; cases h
    | some b => rw [hv] at h; exact valO_ok h hK
  case binOp bop t x y ty =>
    simp only [opO] at h; simp only [opK]
    cases hn : isNilC y with
    | zero => simp only [hn] at h; exact addO_ok h hK
    | succ k =>
      simp only [hn] at h
      cases hv : vnil C.P H bop t (ρ x) (k + 1) with
      | none => rw [hv] at h; cases h
      | some b =>
        rw [hv] at h
        show match vnil C.P H bop t (ρ x) (k + 1) with
          | some b => valK C.nt d K (.one (.c (.bool b)))
          | none => False
        rw [hv]
        exact valO_ok h hK
  case convert s t x =>
    simp only [opO] at h; simp only [opK]
    cases hv : vconv C.P ρ H s t x with
    | none => rw [hv] at h; exact addO_ok h hK
    | some b => rw [hv] at h; exact valO_ok h hK
  case slice t x lo hi mx =>
    simp only [opO] at h; simp only [opK]
    split at h
    · rename_i hx
      simp only [hx]
      split at h
      · rename_i hv; simp only [hv]; exact valO_ok h hK
      · cases h
    · rename_i hx; simp only [hx, hcu]; exact addO_ok h hK
    · rename_i h1 h2
      split
      · rename_i hx; exact (‹∀ (b : Bool) (n : Nat) (xs : List PC), ρ x = some (PV.one (PC.sl b n xs)) → _ → False› _ _ _ hx rfl).elim
      · rename_i hx; exact (‹∀ (i : Id), ρ x = some (PV.one (PC.own i)) → False› _ hx).elim
      · exact addO_ok h hK
  all_goals
    simp only [opO] at h; simp only [opK]
    exact addO_ok h hK
end
end Go.Vm
end

section
namespace Go.Vm
open Go Go.RowKit
set_option linter.unusedSimpArgs false
set_option linter.unusedVariables false

/-! ### The same, faster: the operations that come most often -/
theorem wrap_i64 {m : Nat} (h : Nat.ble m 9223372036854775807 = true) : IntKind.wrap .i64 (Int.ofNat m) = Int.ofNat m := by
  have h := Nat.le_of_ble_eq_true h
  have e1 : (2 : Int) ^ IntKind.i64.bits = 18446744073709551616 := rfl
  have e2 : (2 : Int) ^ (IntKind.i64.bits - 1) = 9223372036854775808 := rfl
  have e3 : IntKind.i64.signed = true := rfl
  have e4 : (Int.ofNat m) % 18446744073709551616 = Int.ofNat m := by
    rw [Int.ofNat_eq_natCast]; omega
  unfold IntKind.wrap
  simp only [e1, e2, e3, e4, Bool.true_and]
  rw [if_neg]
  simp only [ge_iff_le, decide_eq_true_eq, Int.ofNat_eq_natCast]; omega
noncomputable def fAdd (a b : Int) : Option Value :=
  Int.casesOn (motive := fun _ => Option Value) a (fun m => Int.casesOn (motive := fun _ => Option Value) b
    (fun n => cond (Nat.ble (Nat.add m n) 9223372036854775807) (some (.int .i64 (.ofNat (Nat.add m n)))) (vbinI .add .i64 a b)) (fun _ => vbinI .add .i64 a b)) (fun _ => vbinI .add .i64 a b)
noncomputable def fSub (a b : Int) : Option Value :=
  Int.casesOn (motive := fun _ => Option Value) a (fun m => Int.casesOn (motive := fun _ => Option Value) b
    (fun n => cond (Nat.ble n m) (cond (Nat.ble m 9223372036854775807) (some (.int .i64 (.ofNat (Nat.sub m n)))) (vbinI .sub .i64 a b)) (vbinI .sub .i64 a b)) (fun _ => vbinI .sub .i64 a b)) (fun _ => vbinI .sub .i64 a b)
noncomputable def fCmp (op : BinOp) (F : Nat → Nat → Bool) (a b : Int) : Option Value :=
  Int.casesOn (motive := fun _ => Option Value) a (fun m => Int.casesOn (motive := fun _ => Option Value) b
    (fun n => some (.bool (F m n))) (fun _ => vbinI op .i64 a b)) (fun _ => vbinI op .i64 a b)
noncomputable def arI (op : BinOp) : Int → Int → Option Value :=
  BinOp.casesOn (motive := fun _ => Int → Int → Option Value) op
    fAdd fSub (vbinI .mul .i64) (vbinI .quo .i64) (vbinI .rem .i64) (vbinI .and .i64) (vbinI .or .i64) (vbinI .xor .i64) (vbinI .shl .i64) (vbinI .shr .i64) (vbinI .andNot .i64)
    (fCmp .eql Nat.beq) (fCmp .neq fun m n => not (Nat.beq m n)) (fCmp .lss Nat.blt) (fCmp .leq Nat.ble) (fCmp .gtr fun m n => Nat.blt n m) (fCmp .geq fun m n => Nat.ble n m)
theorem blt_iff (m n : Nat) : Nat.blt m n = decide (m < n) := by
  by_cases h : m < n
  · rw [decide_eq_true h]; exact Nat.ble_eq_true_of_le h
  · rw [decide_eq_false h]
    cases hb : Nat.blt m n with
    | false => rfl
    | true => exact absurd (Nat.le_of_ble_eq_true hb) h
theorem ble_iff (m n : Nat) : Nat.ble m n = decide (m ≤ n) := by
  by_cases h : m ≤ n
  · rw [decide_eq_true h]; exact Nat.ble_eq_true_of_le h
  · rw [decide_eq_false h]
    cases hb : Nat.ble m n with
    | false => rfl
    | true => exact absurd (Nat.le_of_ble_eq_true hb) h
theorem beq_iff (m n : Nat) : Nat.beq m n = decide (m = n) := by
  by_cases h : m = n
  · subst h; rw [decide_eq_true rfl]; exact Nat.beq_refl m
  · rw [decide_eq_false h]
    cases hb : Nat.beq m n with
    | false => rfl
    | true => exact absurd (Nat.eq_of_beq_eq_true hb) h
theorem arI_eq (op : BinOp) (a b : Int) : arI op a b = vbinI op .i64 a b := by
  cases op
  case add =>
    show fAdd a b = _
    unfold fAdd
    cases a <;> cases b <;> try rfl
    rename_i m n
    simp only
    cases h : Nat.ble (Nat.add m n) 9223372036854775807 with
    | false => rfl
    | true =>
      show some (Value.int .i64 (.ofNat (m + n))) = some (.int .i64 (IntKind.wrap .i64 (Int.ofNat m + Int.ofNat n)))
      rw [show Int.ofNat m + Int.ofNat n = Int.ofNat (m + n) from rfl, wrap_i64 (m := m + n) h]
  case sub =>
    show fSub a b = _
    unfold fSub
    cases a <;> cases b <;> try rfl
    rename_i m n
    simp only
    cases h : Nat.ble n m with
    | false => rfl
    | true =>
      cases h' : Nat.ble m 9223372036854775807 with
      | false => rfl
      | true =>
        have h1 := Nat.le_of_ble_eq_true h
        have h2 := Nat.le_of_ble_eq_true h'
        show some (Value.int .i64 (.ofNat (m - n))) = some (.int .i64 (IntKind.wrap .i64 (Int.ofNat m - Int.ofNat n)))
        rw [show Int.ofNat m - Int.ofNat n = Int.ofNat (m - n) from by simp only [Int.ofNat_eq_natCast]; omega, wrap_i64 (Nat.ble_eq_true_of_le (by omega))]
  case eql =>
    show fCmp .eql Nat.beq a b = _
    unfold fCmp
    cases a <;> cases b <;> try rfl
    rename_i m n
    show some (Value.bool (Nat.beq m n)) = some (.bool (Int.ofNat m == Int.ofNat n))
    rw [beq_iff]
    by_cases h : m = n
    · subst h; simp
    · rw [decide_eq_false h]
      congr 2
      symm
      rw [beq_eq_false_iff_ne]
      simp only [Int.ofNat_eq_natCast, ne_eq]; omega
  case neq =>
    show fCmp .neq _ a b = _
    unfold fCmp
    cases a <;> cases b <;> try rfl
    rename_i m n
    show some (Value.bool (!(Nat.beq m n))) = some (.bool (Int.ofNat m != Int.ofNat n))
    rw [beq_iff]
    by_cases h : m = n
    · subst h; simp
    · rw [decide_eq_false h]
      congr 2
      symm
      show (Int.ofNat m != Int.ofNat n) = true
      rw [bne_iff_ne]
      simp only [Int.ofNat_eq_natCast, ne_eq]; omega
  case lss =>
    show fCmp .lss Nat.blt a b = _
    unfold fCmp
    cases a <;> cases b <;> try rfl
    rename_i m n
    show some (Value.bool (Nat.blt m n)) = some (.bool (decide (Int.ofNat m < Int.ofNat n)))
    rw [blt_iff]
    simp only [Int.ofNat_eq_natCast, Int.ofNat_lt]
  case leq =>
    show fCmp .leq Nat.ble a b = _
    unfold fCmp
    cases a <;> cases b <;> try rfl
    rename_i m n
    show some (Value.bool (Nat.ble m n)) = some (.bool (decide (Int.ofNat m ≤ Int.ofNat n)))
    rw [ble_iff]
    simp only [Int.ofNat_eq_natCast, Int.ofNat_le]
  case gtr =>
    show fCmp .gtr _ a b = _
    unfold fCmp
    cases a <;> cases b <;> try rfl
    rename_i m n
    show some (Value.bool (Nat.blt n m)) = some (.bool (decide (Int.ofNat n < Int.ofNat m)))
    rw [blt_iff]
    simp only [Int.ofNat_eq_natCast, Int.ofNat_lt]
  case geq =>
    show fCmp .geq _ a b = _
    unfold fCmp
    cases a <;> cases b <;> try rfl
    rename_i m n
    show some (Value.bool (Nat.ble n m)) = some (.bool (decide (Int.ofNat n ≤ Int.ofNat m)))
    rw [ble_iff]
    simp only [Int.ofNat_eq_natCast, Int.ofNat_le]
  all_goals rfl

/-- The value, or else what is told otherwise. -/
noncomputable def vO (nt : Nat) (d : Option Nat) (fb : Option Upd) (o : Option PV) : Option Upd := Option.casesOn (motive := fun _ => Option Upd) o fb (fun p => valO nt d p)
noncomputable def cO (nt : Nat) (d : Option Nat) (fb : Option Upd) (o : Option Value) : Option Upd := Option.casesOn (motive := fun _ => Option Upd) o fb (fun v => valO nt d (.one (.c v)))
noncomputable def i64Of (p : Option PV) : Option Int :=
  match p with
  | some (.one (.c (.int .i64 a))) => some a
  | _ => none
noncomputable def bBin (nt : Nat) (d : Option Nat) (fb : Option Upd) (bop : BinOp) (px py : Option PV) : Option Upd :=
  Option.casesOn (motive := fun _ => Option Upd) (i64Of px) fb fun a => Option.casesOn (motive := fun _ => Option Upd) (i64Of py) fb fun b => cO nt d fb (arI bop a b)
noncomputable def bLoad (P : Program) (nt : Nat) (d : Option Nat) (fb : Option Upd) (H : Id → Option Blk) (t : TypeId) (px : Option PV) : Option Upd :=
  Option.casesOn (motive := fun _ => Option Upd) px fb fun p => Option.casesOn (motive := fun _ => Option Upd) (behind H p) fb fun ys => vO nt d fb (takeT P t ys)
noncomputable def tupG (p : Option PV) (j : Nat) : Option PV :=
  match p with
  | some (.tup vs) => vs[j]?
  | _ => none
noncomputable def bIdx (P : Program) (nt : Nat) (d : Option Nat) (fb : Option Upd) (H : Id → Option Blk) (t : TypeId) (px pj : Option PV) : Option Upd :=
  Option.casesOn (motive := fun _ => Option Upd) px fb fun p => Option.casesOn (motive := fun _ => Option Upd) (i64Of pj) fb fun k => vO nt d fb (vidx P H t k p)
noncomputable def bField (P : Program) (nt : Nat) (d : Option Nat) (fb : Option Upd) (fd : Option Field) (px : Option PV) : Option Upd :=
  match fd with
  | some fd =>
    match px with
    | some (.agg ps) => vO nt d fb (takeT P fd.type (ps.drop fd.offset))
    | _ => fb
  | none => fb
noncomputable def bStore (d : Option Nat) (o : Option (Id × Blk)) : Option Upd :=
  match d with
  | none => heapO o
  | some _ => none
noncomputable def bCall (cx : Cx) (io : Io) (nt : Nat) (ρ : Operand → Option PV) (H : Id → Option Blk) (d : Option Nat) (fb : Option Upd) (c : Call) : Option Upd :=
  match c.callee with
  | .value _ => callO cx io nt H d (callOf ρ c)
  | _ => fb
noncomputable def bNil (fb g : Option Upd) (n : Nat) : Option Upd := Nat.casesOn (motive := fun _ => Option Upd) n g (fun _ => fb)

noncomputable def opF (P : Program) (nt : Nat) (cx : Cx) (io : Io) (nx : Nat) (ρ : Operand → Option PV) (H : Id → Option Blk) (d : Option Nat) (op : Op) : Option Upd :=
  match op with
  | .move x => vO nt d (opO P nt cx io nx ρ H d op) (ρ x)
  | .assign x => vO nt d (opO P nt cx io nx ρ H d op) (ρ x)
  | .binOp bop t x y ty => bNil (opO P nt cx io nx ρ H d op) (bBin nt d (opO P nt cx io nx ρ H d op) bop (ρ x) (ρ y)) (isNilC y)
  | .load t x => bLoad P nt d (opO P nt cx io nx ρ H d op) H t (ρ x)
  | .extract x j => vO nt d (opO P nt cx io nx ρ H d op) (tupG (ρ x) j)
  | .indexAddr t x j => bIdx P nt d (opO P nt cx io nx ρ H d op) H t (ρ x) (ρ j)
  | .field t x f => bField P nt d (opO P nt cx io nx ρ H d op) (fieldT P t f) (ρ x)
  | .store t x y => bStore d (vstore P ρ H t x y)
  | .call c => bCall cx io nt ρ H d (opO P nt cx io nx ρ H d op) c
  | op => opO P nt cx io nx ρ H d op

section
variable {P : Program} {nt : Nat} {cx : Cx} {io : Io} {nx : Nat} {ρ : Operand → Option PV} {H : Id → Option Blk} {d : Option Nat} {op : Op} {U : Upd} {fb : Option Upd}
theorem addO_val {p : PV} (h : valO nt d p = some U) : addO nt d (some (p, none)) = some U := by
  unfold valO at h
  cases d with
  | none => cases h
  | some d => exact h
theorem vO_ok {o : Option PV} (hfb : fb = some U → opO P nt cx io nx ρ H d op = some U) (hv : ∀ p, o = some p → valO nt d p = some U → opO P nt cx io nx ρ H d op = some U) (h : vO nt d fb o = some U) : opO P nt cx io nx ρ H d op = some U := by
  unfold vO at h
  cases o with
  | none => exact hfb h
  | some p => exact hv p rfl h
theorem i64Of_some {p : Option PV} {a : Int} (h : i64Of p = some a) : p = some (.one (.c (.int .i64 a))) := by
  unfold i64Of at h
  split at h
  · cases h; rfl
  · cases h
theorem opF_ok (h : opF P nt cx io nx ρ H d op = some U) : opO P nt cx io nx ρ H d op = some U := by
  cases op
  case move x =>
    refine vO_ok id (fun p hp hv => ?_) h
    simp only [opO, vAddO, vAll, vAdd, hp, Option.map_some]
    exact addO_val hv
  case assign x =>
    refine vO_ok id (fun p hp hv => ?_) h
    simp only [opO, vAddO, vAll, vAdd, hp, Option.map_some]
    exact addO_val hv
  case binOp bop t x y ty =>
    simp only [opF, bNil] at h
    cases hn : isNilC y with
    | succ k => rw [hn] at h; exact h
    | zero =>
      rw [hn] at h
      simp only [bBin] at h
      cases ha : i64Of (ρ x) with
      | none => rw [ha] at h; exact h
      | some a =>
        cases hb : i64Of (ρ y) with
        | none => rw [ha, hb] at h; exact h
        | some b =>
          rw [ha, hb] at h
          simp only [cO, arI_eq] at h
          cases hv : vbinI bop .i64 a b with
          | none => rw [hv] at h; exact h
          | some v =>
            rw [hv] at h
            simp only [opO, hn, vAddO, vAll, vAdd, i64Of_some ha, i64Of_some hb, vbin, true_or, if_true, hv, Option.map_some]
            exact addO_val h
  case load t x =>
    simp only [opF, bLoad] at h
    cases hx : ρ x with
    | none => rw [hx] at h; exact h
    | some p =>
      rw [hx] at h
      simp only at h
      cases hb : behind H p with
      | none => rw [hb] at h; exact h
      | some ys =>
        rw [hb] at h
        refine vO_ok id (fun q hq hv => ?_) h
        simp only [opO, vAddO, vAll, vAdd, hx, Option.bind_some, hb, hq, Option.map_some]
        exact addO_val hv
  case extract x j =>
    refine vO_ok id (fun p hp hv => ?_) h
    unfold tupG at hp
    split at hp
    · rename_i vs hx
      simp only [opO, vAddO, vAll, vAdd, hx, hp, Option.map_some]
      exact addO_val hv
    · cases hp
  case indexAddr t x j =>
    simp only [opF, bIdx] at h
    cases hx : ρ x with
    | none => rw [hx] at h; exact h
    | some p =>
      rw [hx] at h
      simp only at h
      cases hj : i64Of (ρ j) with
      | none => rw [hj] at h; exact h
      | some k =>
        rw [hj] at h
        refine vO_ok id (fun q hq hv => ?_) h
        simp only [opO, vAddO, vAll, vAdd, hx, i64Of_some hj, Option.bind_some, asI, hq, Option.map_some]
        exact addO_val hv
  case field t x f =>
    simp only [opF, bField] at h
    cases hf : fieldT P t f with
    | none => rw [hf] at h; exact h
    | some fd =>
      rw [hf] at h
      simp only at h
      split at h
      · rename_i ps hx
        refine vO_ok id (fun q hq hv => ?_) h
        simp only [opO, vAddO, vAll, vAdd, hf, hx, hq, Option.map_some]
        exact addO_val hv
      · exact h
  case store t x y => exact h
  case call c =>
    simp only [opF, bCall] at h
    split at h
    · rename_i hc
      simp only [opO, hc]
      exact h
    · exact h
  all_goals exact h
end
end Go.Vm
end

section
namespace Go.Vm
open Go Go.RowKit
set_option linter.unusedSimpArgs false
set_option linter.unusedVariables false

/-! ### States that are computed with -/
inductive Tr (α : Type) where
  | leaf
  | node (l : Tr α) (v : Option α) (r : Tr α)
namespace Tr
variable {α : Type}
noncomputable def left : Tr α → Tr α := fun t => Tr.rec (motive := fun _ => Tr α) .leaf (fun l _ _ _ _ => l) t
noncomputable def mid : Tr α → Option α := fun t => Tr.rec (motive := fun _ => Option α) none (fun _ v _ _ _ => v) t
noncomputable def right : Tr α → Tr α := fun t => Tr.rec (motive := fun _ => Tr α) .leaf (fun _ _ r _ _ => r) t
/-- Keys from 1 on: 1 is here, odd ones left, even ones right. -/
noncomputable def getP (t : Tr α) : Nat → Option α := Tr.rec (motive := fun _ => Nat → Option α) (fun _ => none)
  (fun _ v _ gl gr k => Bool.rec (motive := fun _ => Option α) (Bool.rec (motive := fun _ => Option α) (gr (Nat.div k 2)) (gl (Nat.div k 2)) (Nat.beq (Nat.mod k 2) 1)) v (Nat.beq k 1)) t
/-- The tree, looked at before it is handed on. -/
noncomputable def frc (t : Tr α) (F : Tr α → Tr α) : Tr α := Tr.rec (motive := fun _ => Tr α) (F .leaf) (fun l v r _ _ => F (.node l v r)) t
theorem frc_eq (t : Tr α) (F : Tr α → Tr α) : frc t F = F t := by cases t <;> rfl
noncomputable def setP (f : Nat) : Tr α → Nat → Option α → Tr α := Nat.rec (motive := fun _ => Tr α → Nat → Option α → Tr α) (fun t _ _ => t)
  (fun _ ih t k v => Tr.rec (motive := fun _ => Tr α)
    (Bool.rec (motive := fun _ => Tr α) (Bool.rec (motive := fun _ => Tr α) (frc (ih .leaf (Nat.div k 2) v) fun r => .node .leaf none r) (frc (ih .leaf (Nat.div k 2) v) fun l => .node l none .leaf) (Nat.beq (Nat.mod k 2) 1)) (Tr.node .leaf v .leaf) (Nat.beq k 1))
    (fun l m r _ _ => Bool.rec (motive := fun _ => Tr α) (Bool.rec (motive := fun _ => Tr α) (frc (ih r (Nat.div k 2) v) fun r => .node l m r) (frc (ih l (Nat.div k 2) v) fun l => .node l m r) (Nat.beq (Nat.mod k 2) 1)) (Tr.node l v r) (Nat.beq k 1)) t) f
noncomputable def get (t : Tr α) (n : Nat) : Option α := getP t (Nat.succ n)
noncomputable def set (_ : Nat) (t : Tr α) (n : Nat) (v : Option α) : Option (Tr α) := some (setP (Nat.succ n) t (Nat.succ n) v)
theorem getP_leaf (k : Nat) : getP (.leaf : Tr α) k = none := rfl
theorem getP_node (l r : Tr α) (v : Option α) (k : Nat) : getP (.node l v r) k = if k = 1 then v else if k % 2 = 1 then l.getP (k / 2) else r.getP (k / 2) := by
  have hb : getP (.node l v r) k = cond (Nat.beq k 1) v (cond (Nat.beq (k % 2) 1) (l.getP (k / 2)) (r.getP (k / 2))) := by
    show Bool.rec (motive := fun _ => Option α) (Bool.rec (motive := fun _ => Option α) (r.getP (k / 2)) (l.getP (k / 2)) (Nat.beq (k % 2) 1)) v (Nat.beq k 1) = _
    cases Nat.beq k 1 <;> cases Nat.beq (k % 2) 1 <;> rfl
  rw [hb]
  by_cases h1 : k = 1
  · subst h1; rfl
  · have e1 : Nat.beq k 1 = false := by cases h : Nat.beq k 1 with | false => rfl | true => exact absurd (Nat.eq_of_beq_eq_true h) h1
    rw [e1, if_neg h1]
    by_cases h2 : k % 2 = 1
    · rw [if_pos h2, h2]; rfl
    · have e2 : Nat.beq (k % 2) 1 = false := by cases h : Nat.beq (k % 2) 1 with | false => rfl | true => exact absurd (Nat.eq_of_beq_eq_true h) h2
      rw [e2, if_neg h2]; rfl
theorem getP_eq (t : Tr α) (k : Nat) : t.getP k = if k = 1 then t.mid else if k % 2 = 1 then t.left.getP (k / 2) else t.right.getP (k / 2) := by
  cases t with
  | leaf =>
    show none = if k = 1 then none else if k % 2 = 1 then none else none
    split <;> simp
  | node l v r => exact getP_node l r v k
theorem setP_succ (f : Nat) (t : Tr α) (k : Nat) (v : Option α) : setP (f + 1) t k v = if k = 1 then .node t.left v t.right else if k % 2 = 1 then .node (setP f t.left (k / 2) v) t.mid t.right else .node t.left t.mid (setP f t.right (k / 2) v) := by
  have hs : setP (f + 1) t k v = cond (Nat.beq k 1) (Tr.node t.left v t.right) (cond (Nat.beq (k % 2) 1) (Tr.node (setP f t.left (k / 2) v) t.mid t.right) (Tr.node t.left t.mid (setP f t.right (k / 2) v))) := by
    cases t with
    | leaf =>
      show Bool.rec (motive := fun _ => Tr α) (Bool.rec (motive := fun _ => Tr α) (frc (setP f .leaf (k / 2) v) fun r => .node .leaf none r) (frc (setP f .leaf (k / 2) v) fun l => .node l none .leaf) (Nat.beq (k % 2) 1)) (Tr.node .leaf v .leaf) (Nat.beq k 1) = _
      rw [frc_eq, frc_eq]
      cases Nat.beq k 1 <;> cases Nat.beq (k % 2) 1 <;> rfl
    | node l m r =>
      show Bool.rec (motive := fun _ => Tr α) (Bool.rec (motive := fun _ => Tr α) (frc (setP f r (k / 2) v) fun r => .node l m r) (frc (setP f l (k / 2) v) fun l => .node l m r) (Nat.beq (k % 2) 1)) (Tr.node l v r) (Nat.beq k 1) = _
      rw [frc_eq, frc_eq]
      cases Nat.beq k 1 <;> cases Nat.beq (k % 2) 1 <;> rfl
  rw [hs]
  by_cases h1 : k = 1
  · subst h1; rfl
  · have e1 : Nat.beq k 1 = false := by cases h : Nat.beq k 1 with | false => rfl | true => exact absurd (Nat.eq_of_beq_eq_true h) h1
    rw [e1, if_neg h1]
    by_cases h2 : k % 2 = 1
    · rw [if_pos h2, h2]; rfl
    · have e2 : Nat.beq (k % 2) 1 = false := by cases h : Nat.beq (k % 2) 1 with | false => rfl | true => exact absurd (Nat.eq_of_beq_eq_true h) h2
      rw [e2, if_neg h2]; rfl
theorem getP_setP : ∀ (f : Nat) (t : Tr α) (k : Nat) (v : Option α) (m : Nat), 0 < k → k ≤ f → 0 < m → (setP f t k v).getP m = if m = k then v else t.getP m
  | 0, t, k, v, m, hk, hf, hm => by omega
  | f + 1, t, k, v, m, hk, hf, hm => by
    rw [setP_succ, getP_eq t m]
    by_cases h1 : k = 1
    · subst h1
      rw [if_pos rfl, getP_node]
      by_cases hm1 : m = 1
      · rw [if_pos hm1, if_pos hm1]
      · rw [if_neg hm1, if_neg hm1, if_neg hm1]
    · rw [if_neg h1]
      by_cases h2 : k % 2 = 1
      · rw [if_pos h2, getP_node]
        by_cases hm1 : m = 1
        · rw [if_pos hm1, if_neg (by omega), if_pos hm1]
        · rw [if_neg hm1, if_neg hm1]
          by_cases hm2 : m % 2 = 1
          · rw [if_pos hm2, if_pos hm2, getP_setP f t.left (k / 2) v (m / 2) (by omega) (by omega) (by omega)]
            by_cases hmk : m = k
            · rw [if_pos hmk, if_pos (by omega)]
            · rw [if_neg hmk, if_neg (by omega)]
          · rw [if_neg hm2, if_neg hm2, if_neg (by omega)]
      · rw [if_neg h2, getP_node]
        by_cases hm1 : m = 1
        · rw [if_pos hm1, if_neg (by omega), if_pos hm1]
        · rw [if_neg hm1, if_neg hm1]
          by_cases hm2 : m % 2 = 1
          · rw [if_pos hm2, if_pos hm2, if_neg (by omega)]
          · rw [if_neg hm2, if_neg hm2, getP_setP f t.right (k / 2) v (m / 2) (by omega) (by omega) (by omega)]
            by_cases hmk : m = k
            · rw [if_pos hmk, if_pos (by omega)]
            · rw [if_neg hmk, if_neg (by omega)]
theorem get_set {f : Nat} {t t' : Tr α} {n : Nat} {v : Option α} (h : t.set f n v = some t') (m : Nat) : t'.get m = if m = n then v else t.get m := by
  cases h
  show (setP (n + 1) t (n + 1) v).getP (m + 1) = _
  rw [getP_setP _ _ _ _ _ (by omega) (by omega) (by omega)]
  by_cases hmn : m = n
  · subst hmn; rw [if_pos rfl, if_pos rfl]
  · rw [if_neg (by omega), if_neg hmn]; rfl

noncomputable def mapT {β : Type} (f : α → β) (t : Tr α) : Tr β := Tr.rec (motive := fun _ => Tr β) .leaf (fun _ v _ l r => .node l (v.map f) r) t
theorem getP_mapT {β : Type} (f : α → β) : ∀ (t : Tr α) (k : Nat), getP (mapT f t) k = (getP t k).map f
  | .leaf, k => rfl
  | .node l v r, k => by
    show getP (.node (mapT f l) (v.map f) (mapT f r)) k = _
    rw [getP_node, getP_node]
    split
    · rfl
    · split
      · exact getP_mapT f l _
      · exact getP_mapT f r _
theorem get_mapT {β : Type} (f : α → β) (t : Tr α) (n : Nat) : (mapT f t).get n = (t.get n).map f := getP_mapT f t _

/-! By paths that are known beforehand -/
inductive Pth where
  | e
  | l (p : Pth)
  | r (p : Pth)
noncomputable def pathP (f : Nat) : Nat → Pth := Nat.rec (motive := fun _ => Nat → Pth) (fun _ => .e) (fun _ ih k => cond (Nat.beq k 1) .e (cond (Nat.beq (Nat.mod k 2) 1) (.l (ih (Nat.div k 2))) (.r (ih (Nat.div k 2))))) f
noncomputable def path (n : Nat) : Pth := pathP (Nat.succ n) (Nat.succ n)
def unpath : Pth → Nat
  | .e => 1
  | .l p => 2 * unpath p + 1
  | .r p => 2 * unpath p
theorem unpath_pathP : ∀ (f k : Nat), 0 < k → k ≤ f → unpath (pathP f k) = k
  | 0, k, hk, hf => by omega
  | f + 1, k, hk, hf => by
    show unpath (cond (Nat.beq k 1) .e (cond (Nat.beq (k % 2) 1) (.l (pathP f (k / 2))) (.r (pathP f (k / 2))))) = k
    by_cases h1 : k = 1
    · subst h1; rfl
    · have e1 : Nat.beq k 1 = false := by cases h : Nat.beq k 1 with | false => rfl | true => exact absurd (Nat.eq_of_beq_eq_true h) h1
      have ih := unpath_pathP f (k / 2) (by omega) (by omega)
      rw [e1]
      by_cases h2 : k % 2 = 1
      · rw [h2]
        show 2 * unpath (pathP f (k / 2)) + 1 = k
        rw [ih]; omega
      · have e2 : Nat.beq (k % 2) 1 = false := by cases h : Nat.beq (k % 2) 1 with | false => rfl | true => exact absurd (Nat.eq_of_beq_eq_true h) h2
        rw [e2]
        show 2 * unpath (pathP f (k / 2)) = k
        rw [ih]; omega
theorem path_inj {n m : Nat} (h : path n = path m) : n = m := by
  have := congrArg unpath h
  unfold path at this
  rw [unpath_pathP _ _ (by omega) (Nat.le_refl _), unpath_pathP _ _ (by omega) (Nat.le_refl _)] at this
  omega
noncomputable def getQ (p : Pth) : Tr α → Option α := Pth.rec (motive := fun _ => Tr α → Option α)
  (fun t => Tr.rec (motive := fun _ => Option α) none (fun _ v _ _ _ => v) t)
  (fun _ ih t => Tr.rec (motive := fun _ => Option α) none (fun l _ _ _ _ => ih l) t)
  (fun _ ih t => Tr.rec (motive := fun _ => Option α) none (fun _ _ r _ _ => ih r) t) p
noncomputable def setQ (v : Option α) (p : Pth) : Tr α → Tr α := Pth.rec (motive := fun _ => Tr α → Tr α)
  (fun t => Tr.rec (motive := fun _ => Tr α) (.node .leaf v .leaf) (fun l _ r _ _ => .node l v r) t)
  (fun _ ih t => Tr.rec (motive := fun _ => Tr α) (frc (ih .leaf) fun l => .node l none .leaf) (fun l m r _ _ => frc (ih l) fun l => .node l m r) t)
  (fun _ ih t => Tr.rec (motive := fun _ => Tr α) (frc (ih .leaf) fun r => .node .leaf none r) (fun l m r _ _ => frc (ih r) fun r => .node l m r) t) p
theorem getQ_leaf (p : Pth) : getQ p (.leaf : Tr α) = none := by cases p <;> rfl
theorem getQ_same {v : Option α} : ∀ (p : Pth) (t : Tr α), getQ p (setQ v p t) = v
  | .e, t => by cases t <;> rfl
  | .l p, t => by
    cases t with
    | leaf =>
      show getQ (.l p) (frc (setQ v p .leaf) fun l => .node l none .leaf) = _
      rw [frc_eq]
      exact getQ_same p .leaf
    | node l m r =>
      show getQ (.l p) (frc (setQ v p l) fun l => .node l m r) = _
      rw [frc_eq]
      exact getQ_same p l
  | .r p, t => by
    cases t with
    | leaf =>
      show getQ (.r p) (frc (setQ v p .leaf) fun r => .node .leaf none r) = _
      rw [frc_eq]
      exact getQ_same p .leaf
    | node l m r =>
      show getQ (.r p) (frc (setQ v p r) fun r => .node l m r) = _
      rw [frc_eq]
      exact getQ_same p r
theorem getQ_other {v : Option α} : ∀ (p q : Pth) (t : Tr α), q ≠ p → getQ q (setQ v p t) = getQ q t
  | .e, q, t, h => by
    cases q with
    | e => exact absurd rfl h
    | l q => cases t <;> first | exact getQ_leaf q | rfl
    | r q => cases t <;> first | exact getQ_leaf q | rfl
  | .l p, q, t, h => by
    cases t with
    | leaf =>
      show getQ q (frc (setQ v p .leaf) fun l => .node l none .leaf) = _
      rw [frc_eq]
      cases q with
      | l q => exact (getQ_other p q .leaf fun e => h (by rw [e])).trans (getQ_leaf q)
      | e => rfl
      | r q => exact getQ_leaf q
    | node l m r =>
      show getQ q (frc (setQ v p l) fun l => .node l m r) = _
      rw [frc_eq]
      cases q with
      | l q => exact getQ_other p q l fun e => h (by rw [e])
      | e => rfl
      | r q => rfl
  | .r p, q, t, h => by
    cases t with
    | leaf =>
      show getQ q (frc (setQ v p .leaf) fun r => .node .leaf none r) = _
      rw [frc_eq]
      cases q with
      | r q => exact (getQ_other p q .leaf fun e => h (by rw [e])).trans (getQ_leaf q)
      | e => rfl
      | l q => exact getQ_leaf q
    | node l m r =>
      show getQ q (frc (setQ v p r) fun r => .node l m r) = _
      rw [frc_eq]
      cases q with
      | r q => exact getQ_other p q r fun e => h (by rw [e])
      | e => rfl
      | l q => rfl
noncomputable def getF (t : Tr α) (n : Nat) : Option α := getQ (path n) t
noncomputable def setF (t : Tr α) (n : Nat) (v : Option α) : Tr α := setQ v (path n) t
theorem getF_setF (t : Tr α) (n : Nat) (v : Option α) (m : Nat) : (t.setF n v).getF m = if m = n then v else t.getF m := by
  unfold getF setF
  by_cases h : m = n
  · subst h; rw [if_pos rfl]; exact getQ_same _ _
  · rw [if_neg h]; exact getQ_other _ _ _ fun e => h (path_inj e)
end Tr

structure S where
  fr : Tr PV
  H : Tr (Tr Blk)
  us : List Nat
  nx : Nat
  al : Bool
noncomputable def getH (H : Tr (Tr Blk)) (i : Id) : Option Blk :=
  match H.get i.1 with
  | some t => t.get i.2
  | none => none
noncomputable def S.absG (g : Nat → Option PV) (s : S) : St := ⟨s.fr.getF, getH s.H, fun d => memN d s.us, s.nx, g⟩
noncomputable abbrev S.abs (s : S) : St := s.absG fun _ => none

noncomputable def setH (H : Tr (Tr Blk)) (i : Id) (b : Option Blk) : Option (Tr (Tr Blk)) :=
  match ((H.get i.1).getD .leaf).set 64 i.2 b with
  | some t => H.set 64 i.1 (some t)
  | none => none
theorem getH_setH {H H' : Tr (Tr Blk)} {i : Id} {b : Option Blk} (h : setH H i b = some H') : getH H' = upd (getH H) i b := by
  unfold setH at h
  split at h
  · rename_i t ht
    funext j
    have h1 := Tr.get_set h j.1
    have h2 := Tr.get_set ht j.2
    show (match H'.get j.1 with | some t => t.get j.2 | none => none) = if j = i then b else (match H.get j.1 with | some t => t.get j.2 | none => none)
    rw [h1]
    by_cases hj : j.1 = i.1
    · rw [if_pos hj]
      show t.get j.2 = _
      rw [h2]
      by_cases hj2 : j.2 = i.2
      · rw [if_pos hj2, if_pos (Prod.ext hj hj2)]
      · rw [if_neg hj2, if_neg (fun e => hj2 (by rw [e])), hj]
        cases H.get i.1 <;> rfl
    · rw [if_neg hj, if_neg (fun e => hj (by rw [e]))]
  · cases h
noncomputable def chgH : Tr (Tr Blk) → List (Id × Option Blk) → Option (Tr (Tr Blk))
  | H, [] => some H
  | H, c :: L =>
    match setH H c.1 c.2 with
    | some H' => chgH H' L
    | none => none
theorem getH_chgH : ∀ {L : List (Id × Option Blk)} {H H' : Tr (Tr Blk)}, chgH H L = some H' → getH H' = applyC (getH H) L
  | [], H, H', h => by cases h; rfl
  | c :: L, H, H', h => by
    unfold chgH at h
    split at h
    · rename_i H1 h1
      rw [getH_chgH h, getH_setH h1]; rfl
    · cases h

/-- What changes: frame, blocks, names that are taken. -/
noncomputable def S.app (s : S) (U : Upd) : Option S :=
  match s with
  | ⟨fr, H, us, nx, al⟩ =>
    match U with
    | .val none _ => some ⟨fr, H, us, nx, al⟩
    | .val (some d) p => some ⟨fr.setF d (some p), H, us, nx, al⟩
    | .heap i b =>
      match setH H i (some b) with
      | some H' => some ⟨fr, H', us, nx, al⟩
      | none => none
    | .new d p b =>
      match chgH H ((Upd.new d p b).chg nx) with
      | some H' => some ⟨fr.setF d ((Upd.new d p b).v nx), H', d :: us, nx, true⟩
      | none => none
    | .call d r B =>
      match chgH H ((Upd.call d r B).chg nx) with
      | some H' => some ⟨fr.setF d ((Upd.call d r B).v nx), H', d :: us, nx, true⟩
      | none => none
    | .mv d k b =>
      match chgH H ((Upd.mv d k b).chg nx) with
      | some H' => some ⟨fr.setF d ((Upd.mv d k b).v nx), H', d :: us, nx, true⟩
      | none => none
    | .io d M r B =>
      match chgH H ((Upd.io d M r B).chg nx) with
      | some H' => some ⟨fr.setF d ((Upd.io d M r B).v nx), H', d :: us, nx, true⟩
      | none => none
theorem memN_cons (d : Nat) (us : List Nat) : (fun m => memN m (d :: us)) = upd (fun m => memN m us) d true := by
  funext m
  show cond (Nat.beq d m) true (memN m us) = if m = d then true else memN m us
  cases h : Nat.beq d m with
  | true => rw [if_pos (Nat.eq_of_beq_eq_true h).symm]; rfl
  | false => rw [if_neg (fun e => by rw [e, Nat.beq_refl] at h; cases h)]; rfl
theorem S.app_ok {g : Nat → Option PV} {s s' : S} {U : Upd} (h : s.app U = some s') : (s'.absG g) = U.app (s.absG g) := by
  obtain ⟨fr, H, us, nx, al⟩ := s
  have hst : ∀ (σ τ : St), σ.fr = τ.fr → σ.H = τ.H → σ.us = τ.us → σ.nx = τ.nx → σ.gh = τ.gh → σ = τ := by
    intro σ τ h1 h2 h3 h4 h5
    cases σ; cases τ
    simp only at h1 h2 h3 h4 h5
    subst h1 h2 h3 h4 h5
    rfl
  have hfr : ∀ d v, (fr.setF d v).getF = upd fr.getF d v := by intro d v; funext m; rw [Tr.getF_setF]; rfl
  unfold S.app at h
  cases U with
  | val d p =>
    cases d with
    | none => cases h; rfl
    | some d =>
      cases h
      exact hst _ _ (hfr d _) rfl rfl rfl rfl
  | heap i b =>
    simp only at h
    split at h
    · rename_i H' hH
      cases h
      exact hst _ _ rfl (getH_setH hH) rfl rfl rfl
    · cases h
  | _ =>
    simp only at h
    split at h
    · rename_i H' hH
      cases h
      refine hst _ _ (hfr _ _) ?_ (memN_cons _ _) rfl rfl
      rw [app_H]
      exact getH_chgH hH
    · cases h
noncomputable def freshB (s : S) (U : Upd) : Bool :=
  match U.tag with
  | some d => !(memN d s.us)
  | none => true
theorem freshB_ok {g : Nat → Option PV} {s : S} {U : Upd} (h : freshB s U = true) : U.fresh (s.absG g) := by
  unfold freshB at h
  cases U <;> simp only [Upd.tag] at h <;> first | trivial | (show memN _ s.us = false; simpa using h)
end Go.Vm
end
