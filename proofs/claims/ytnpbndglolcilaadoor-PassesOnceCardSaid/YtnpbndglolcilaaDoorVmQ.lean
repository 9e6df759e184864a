/-
  Abstract states over the model's worlds, and that a step of them is a step of the program: part Q of a framework. Conditions: each theorem's own premises. By an AI agent.
-/
import Derived.Test.YtnpbndglolcilaaDoorVmP
import Derived.Laws.BytesString
namespace Go.Vm
open Go Go.RowKit
set_option linter.unusedVariables false
set_option linter.unusedSimpArgs false

/-- What an operation changes. -/
inductive Upd where
  | val (d : Option Nat) (p : PV)
  | new (d : Nat) (p : PV) (b : Blk)
  | call (d : Nat) (r : PV) (B : List Blk)
  | heap (i : Id) (b : Blk)
  | mv (d : Nat) (k : Option Id) (b : Blk)

def Upd.app (σ : St) : Upd → St
  | .val none _ => σ
  | .val (some d) p => { σ with fr := upd σ.fr d (some p) }
  | .new d p b => { σ with fr := upd σ.fr d (some p), H := upd σ.H (σ.nx + d, 0) (some b), us := upd σ.us d true }
  | .call d r B => σ.called d r B
  | .heap i b => { σ with H := upd σ.H i (some b) }
  | .mv d k b => { σ with fr := upd σ.fr d (some (.one (.own (σ.nx + d, 0)))), H := upd (kill σ.H k) (σ.nx + d, 0) (some b), us := upd σ.us d true }

/-- Its name is free. -/
def Upd.fresh (σ : St) : Upd → Prop
  | .val _ _ => True
  | .new d _ _ => σ.us d = false
  | .call d _ _ => σ.us d = false
  | .heap _ _ => True
  | .mv d _ _ => σ.us d = false

def setB (b : Blk) (off : Nat) (ps : List PC) : Blk :=
  match b with
  | .box ty cs => .box ty (splice cs off ps)
  | .arr ty z n cs => .arr ty z n (splice cs off ps)

/-- A store: where, and what lies there then. -/
def vstore (P : Program) (ρ : Operand → Option PV) (H : Id → Option Blk) (t : TypeId) (x y : Operand) : Option (Id × Blk) :=
  match ρ x, (ρ y).bind PV.cells, szT P t with
  | some (.one (.loc i off)), some ps, some s =>
    match H i with
    | some b => if ps.length = s ∧ off + s ≤ b.cells.length then some (i, setB b off ps) else none
    | none => none
  | _, _, _ => none

def bytesOf : List PC → Option (List Int)
  | [] => some []
  | .c (.int .u8 n) :: ps =>
    match bytesOf ps with
    | some ns => some (n :: ns)
    | none => none
  | _ => none
def ofBytes (ns : List Int) : ByteArray := ns.foldl (fun r n => r.push (UInt8.ofNat n.toNat)) ByteArray.empty

/-- A row of bytes made a string. -/
def vconv (P : Program) (ρ : Operand → Option PV) (H : Id → Option Blk) (s t : TypeId) (x : Operand) : Option ByteArray :=
  match (ρ x).bind (newsOf H 1), elemT P s, P.underlying t with
  | some (_, ys), some e, some .string =>
    match P.underlying e, bytesOf ys with
    | some (.int .u8), some ns => some (ofBytes ns)
    | _, _ => none
  | _, _, _ => none

def boolOf : PV → Option (Bool × Bool)
  | .one (.c (.bool b)) => some (true, b)
  | .may c (.one (.c (.bool b))) => some (c, b)
  | .tup [] => some (false, false)
  | _ => none

def pickB (v a b : Bool) : Bool := if v then a else b

/-- What an 'and' or an 'or' comes to; c0: it is only looked at if c0. -/
def vpick (c0 : Bool) (ρ : Operand → Option PV) (c x y : Operand) : Option Bool :=
  match (ρ c).bind boolOf, (ρ x).bind boolOf, (ρ y).bind boolOf with
  | some (cc, v), some (cx, bx), some (cy, b') =>
    if (!c0 || cc) = true ∧ (!(c0 && v) || cx) = true ∧ (!(c0 && !v) || cy) = true then some (pickB v bx b') else none
  | _, _, _ => none

def valK (nt : Nat) (d : Option Nat) (K : Upd → Prop) (p : PV) : Prop :=
  match d with
  | none => False
  | some d => d < nt ∧ K (.val (some d) p)

def vAddK (P : Program) (nt nx : Nat) (ρ : Operand → Option PV) (H : Id → Option Blk) (d : Option Nat) (op : Op) (K : Upd → Prop) : Prop :=
  match vAdd P (nx + d.getD 0, 0) ρ H op with
  | some (p, none) =>
    match d with
    | none => K (.val none p)
    | some d => d < nt ∧ K (.val (some d) p)
  | some (p, some b) =>
    match d with
    | none => False
    | some d => d < nt ∧ K (.new d p b)
  | none => False

def mvK (nt : Nat) (d : Option Nat) (K : Upd → Prop) : Option (Option Id × Blk) → Prop
  | some (i, b) =>
    match d with
    | none => False
    | some d => d < nt ∧ K (.mv d i b)
  | none => False

/-- A callee's contract is asked for. -/
def callE (P : Program) (gw : World) (gb : Nat) (f : FuncId) (args : List PV) (sh : Bool) (K : PV → List Blk → Prop) : Prop :=
  ∃ r B, VCall P gw gb f args r B ∧ ((r.strict = true ∧ strictB B = true) ∨ sh = true) ∧ K r B

theorem callE_intro {P : Program} {gw : World} {gb : Nat} {f : FuncId} {args : List PV} {sh : Bool} {K : PV → List Blk → Prop} {r : PV} {B : List Blk} (h : VCall P gw gb f args r B) (hs : (r.strict = true ∧ strictB B = true) ∨ sh = true) (hk : K r B) :
    callE P gw gb f args sh K := ⟨r, B, h, hs, hk⟩

/-- What stands behind the call is looked at when its contract is there. -/
@[congr] theorem callE_congr {P P' : Program} {gw gw' : World} {gb gb' : Nat} {f f' : FuncId} {args args' : List PV} {sh sh' : Bool} (K : PV → List Blk → Prop) (h1 : P = P') (h2 : gw = gw') (h3 : gb = gb') (h4 : f = f') (h5 : args = args') (h6 : sh = sh') :
    callE P gw gb f args sh K = callE P' gw' gb' f' args' sh' K := by subst h1 h2 h3 h4 h5 h6; rfl

def callK (C : Ctx) (H : Id → Option Blk) (d : Option Nat) (K : Upd → Prop) : Option (FuncId × List PV) → Prop
  | some (f, ps) =>
    match d with
    | none => False
    | some d => d < C.nt ∧ PV.frees (ps.map (cloV H 4)) = true ∧ callE C.P C.gw C.gb f (ps.map (cloV H 4)) (PV.frees ps) fun r B => K (.call d r B)
  | none => False

def opK (C : Ctx) (nx : Nat) (ρ : Operand → Option PV) (H : Id → Option Blk) (d : Option Nat) (op : Op) (K : Upd → Prop) : Prop :=
  match op with
  | .call c =>
    match c.callee with
    | .value _ => callK C H d K (callOf ρ c)
    | .builtin .append => mvK C.nt d K (vapp C.P ρ H c)
    | _ => vAddK C.P C.nt nx ρ H d op K
  | .store t x y =>
    match d, vstore C.P ρ H t x y with
    | none, some (i, b) => K (.heap i b)
    | _, _ => False
  | .pick c x y =>
    match vpick true ρ c x y with
    | some b => valK C.nt d K (.one (.c (.bool b)))
    | none => False
  | .convert s t x =>
    match vconv C.P ρ H s t x with
    | some b => valK C.nt d K (.one (.c (.string b)))
    | none => vAddK C.P C.nt nx ρ H d op K
  | .slice t x lo hi mx =>
    match ρ x with
    | some (.one (.own _)) => mvK C.nt d K ((vcut C.P ρ H op).map fun x => (some x.1, x.2))
    | _ => vAddK C.P C.nt nx ρ H d op K
  | _ => vAddK C.P C.nt nx ρ H d op K

def OpU (C : Ctx) (nx : Nat) (ρ : Operand → Option PV) (H : Id → Option Blk) (d : Option Nat) (op : Op) (U : Upd) : Prop := opK C nx ρ H d op (· = U)

section
variable {ρ : Operand → Option PV} {H : Id → Option Blk} {C : Ctx} {φ φ' : Id → Option Value} {F : Bool → Nat → Prop} {F0 F1 : Nat → Prop} {σ : St} {a : Act} {w w' : World} {P : Program}
  {nt nx : Nat} {d : Option Nat} {op : Op} {K : Upd → Prop}

theorem vAddK_elim (h : vAddK P nt nx ρ H d op K) : ∃ U, vAddK P nt nx ρ H d op (· = U) ∧ K U := by
  unfold vAddK at *
  split at h
  · split at h
    · exact ⟨_, by simp_all, h⟩
    · exact ⟨_, by simp_all, h.2⟩
  · split at h
    · exact h.elim
    · exact ⟨_, by simp_all, h.2⟩
  · exact h.elim

theorem mvK_elim {o} (h : mvK nt d K o) : ∃ U, mvK nt d (· = U) o ∧ K U := by
  unfold mvK at *
  split at h
  · split at h
    · exact h.elim
    · exact ⟨_, by simp_all, h.2⟩
  · exact h.elim

theorem opK_elim (h : opK C nx ρ H d op K) : ∃ U, OpU C nx ρ H d op U ∧ K U := by
  unfold OpU
  unfold opK at *
  split at h
  · split at h
    · unfold callK at *
      split at h
      · split at h
        · exact h.elim
        · obtain ⟨h1, h2, r, B, h3, h4, h5⟩ := h
          exact ⟨_, ⟨h1, h2, r, B, h3, h4, rfl⟩, h5⟩
      · exact h.elim
    · exact mvK_elim h
    · rename_i hx1 hx2
      obtain ⟨U, hU, hK⟩ := vAddK_elim h
      refine ⟨U, ?_, hK⟩
      first
        | exact hU
        | (split
           · rename_i hc; exact absurd hc (hx1 _)
           · rename_i hc; exact absurd hc hx2
           · exact hU)
  · split at h
    · exact ⟨_, rfl, h⟩
    · exact h.elim
  · split at h
    · unfold valK at *
      split at h
      · exact h.elim
      · exact ⟨_, ⟨h.1, rfl⟩, h.2⟩
    · exact h.elim
  · split at h
    · unfold valK at *
      split at h
      · exact h.elim
      · exact ⟨_, ⟨h.1, rfl⟩, h.2⟩
    · exact vAddK_elim h
  · split at h
    · exact mvK_elim h
    · rename_i hx
      obtain ⟨U, hU, hK⟩ := vAddK_elim h
      refine ⟨U, ?_, hK⟩
      first
        | exact hU
        | (split
           · rename_i hc; exact absurd hc (hx _)
           · exact hU)
  · exact vAddK_elim h

theorem bytesOf_vals : ∀ (ys : List PC) (ns : List Int) (vs : List Value), bytesOf ys = some ns → reps φ w F ys vs → vs = ns.map (Value.int .u8)
  | [], ns, vs, h, hr => by
    simp only [bytesOf] at h; cases h
    simpa only [reps, List.map_nil] using hr
  | .c (.int .u8 n) :: ps, ns, vs, h, hr => by
    simp only [bytesOf] at h
    split at h
    · rename_i ns' hns
      cases h
      simp only [reps, rep] at hr
      obtain ⟨v, vs', rfl, ⟨rfl, _⟩, hr⟩ := hr
      rw [bytesOf_vals ps ns' vs' hns hr, List.map_cons]
    · cases h

variable {ty : TypeId} {pos : String} {af : Array Edge} {gd : Option (Nat × Bool)} {K' : Act → World → Prop} {Q : Exit → Act → World → Prop} {U : Upd}

theorem value_wp {d : Option Nat} {x : Value} {w' : World} (hr : (execOp a.eval ⟨d, op, ty, pos, af, gd⟩).run C.P w = .ok (.value x) w') (h : K' (a.put d x) w') : Oper.wp C.P ⟨d, op, ty, pos, af, gd⟩ a w K' Q := by
  unfold Oper.wp
  rw [hr, Oper.upon_value]
  exact h

theorem boolOf_rep {p : PV} {x : Value} {c b : Bool} (hr : repV φ w F p x) (h : boolOf p = some (c, b)) (hc : c = true) : x = .bool b := by
  unfold boolOf at h
  split at h
  · cases h
    simp only [repV, rep] at hr
    exact hr.1
  · cases h
    simp only [repV, rep] at hr
    exact (hr.1 hc).1
  · cases h
    cases hc
  · cases h

theorem vpick_run {c x y : Operand} {c0 b : Bool} {d : Option Nat} (V : View φ w (Fs F0 F1) a σ ρ H) (h0 : c0 = true) (h : vpick c0 ρ c x y = some b) : (execOp a.eval ⟨d, .pick c x y, ty, pos, af, gd⟩).run C.P w = .ok (.value (.bool b)) w := by
  subst h0
  unfold vpick at h
  split at h
  · rename_i cc v cx bx cy b' hc hx hy
    split at h
    · rename_i hcond
      cases h
      obtain ⟨pc, hpc, hc⟩ := Option.bind_eq_some_iff.1 hc
      obtain ⟨px, hpx, hx⟩ := Option.bind_eq_some_iff.1 hx
      obtain ⟨py, hpy, hy⟩ := Option.bind_eq_some_iff.1 hy
      simp only [Bool.not_true, Bool.false_or, Bool.true_and] at hcond
      have e := boolOf_rep (V.ev hpc) hc hcond.1
      cases v
      · have := boolOf_rep (V.ev hpy) hy (by simpa using hcond.2.2)
        simp [execOp, e, asBool, this, pickB]
      · have := boolOf_rep (V.ev hpx) hx (by simpa using hcond.2.1)
        simp [execOp, e, asBool, this, pickB]
    · cases h
  · cases h

theorem vAddK_sound (h : RelX C φ F0 F1 σ a w) (V : View φ w (Fs F0 F1) a σ ρ H) (hu : vAddK C.P C.nt σ.nx ρ H d op (· = U)) (hf : U.fresh σ) (hK : ∀ a' w', Rel C (U.app σ) a' w' → K' a' w') :
    Oper.wp C.P ⟨d, op, ty, pos, af, gd⟩ a w K' Q := by
  unfold vAddK at hu
  split at hu
  · rename_i p hv
    obtain ⟨x, w', hr, rfl, hx⟩ := vAdd_sound (i := (σ.nx + d.getD 0, 0)) h V (by simp) ⟨d, op, ty, pos, af, gd⟩ hv
    refine value_wp hr (hK _ _ ?_)
    split at hu
    · subst hu
      exact ⟨φ, F0, F1, by simpa [Upd.app, Act.put] using h⟩
    · obtain ⟨hd, rfl⟩ := hu
      exact ⟨φ, F0, F1, h.put hd hx⟩
  · rename_i p b hv
    split at hu
    · exact hu.elim
    · rename_i d
      obtain ⟨hd, rfl⟩ := hu
      have hn : φ (σ.nx + d, 0) = none := h.fresh hf
      obtain ⟨x, w', hr, v, hb, hh, hg, hx⟩ := vAdd_sound (i := (σ.nx + d, 0)) h V (fun _ => hn) ⟨some d, op, ty, pos, af, gd⟩ hv
      refine value_wp hr (hK _ _ ⟨_, F0, F1, ((h.below hb).bind rfl hn hh fun g hg' => ?_).put hd hx⟩)
      have h1 := hg g hg'
      refine ⟨fun h0 => ?_, fun h0 => ?_, Nat.le_trans (Nat.le_trans h.gbig h.big) h1, fun j u hj hu he => ?_⟩
      · have := h.lt0 g h0; omega
      · have := h.k0lt g h0; have := h.big; omega
      · obtain ⟨c, hc⟩ := Option.ne_none_iff_exists'.1 hj
        have := holds_lt (h.heap j c hc) hu he
        omega
  · exact hu.elim

theorem mvK_sound {o : Option (Option Id × Blk)} (hu : mvK C.nt d (· = U) o) (hs : ∀ i b t, o = some (i, b) → d = some t → σ.us t = false → ∃ x w' φ', (execOp a.eval ⟨some t, op, ty, pos, af, gd⟩).run C.P w = .ok (.value x) w' ∧
      RelX C φ' F0 F1 { σ with H := upd (kill σ.H i) (σ.nx + t, 0) (some b), us := upd σ.us t true } a w' ∧ repV φ' w' (Fs F0 F1) (.one (.own (σ.nx + t, 0))) x) (hf : U.fresh σ) (hK : ∀ a' w', Rel C (U.app σ) a' w' → K' a' w') :
    Oper.wp C.P ⟨d, op, ty, pos, af, gd⟩ a w K' Q := by
  unfold mvK at hu
  split at hu
  · split at hu
    · exact hu.elim
    · obtain ⟨hd, rfl⟩ := hu
      obtain ⟨x, w', φ', hr, hR, hx⟩ := hs _ _ _ rfl rfl hf
      exact value_wp hr (hK _ _ ⟨_, _, _, hR.put hd hx⟩)
  · exact hu.elim

/-- WHAT IS SAID OF AN OPERATION IS WHAT IT DOES. -/
theorem opU_sound (h : RelX C φ F0 F1 σ a w) (V : View φ w (Fs F0 F1) a σ ρ H) (hu : OpU C σ.nx ρ H d op U) (hf : U.fresh σ) (hK : ∀ a' w', Rel C (U.app σ) a' w' → K' a' w') :
    Oper.wp C.P ⟨d, op, ty, pos, af, gd⟩ a w K' Q := by
  unfold OpU opK at hu
  split at hu
  · rename_i c
    split at hu
    · unfold callK at hu
      split at hu
      · rename_i f ps hc
        split at hu
        · exact hu.elim
        · obtain ⟨hd, hfr, r, B, hv, hs, rfl⟩ := hu
          rcases hs with hs | hs
          · exact call_ok h V hc hv hfr hs hd hf hK
          · exact call_ok_share h V hc hv hs hfr hd hf hK
      · exact hu.elim
    · rename_i hcal
      exact mvK_sound hu (fun i b t hv hd hus => by subst hd; exact append_ok h V hcal hv hus) hf hK
    · exact vAddK_sound h V hu hf hK
  · rename_i t x y
    split at hu
    · rename_i i b hv
      subst hu
      unfold vstore at hv
      split at hv
      · rename_i i' off ps s hx hy hs
        split at hv
        · rename_i b' hH
          split at hv
          · rename_i hc
            cases hv
            obtain ⟨q, hq, hps⟩ := Option.bind_eq_some_iff.1 hy
            obtain ⟨w', hr, hR⟩ := store_run h (V.ev hx) (V.heap hH) (V.ev hq) hps hs hc.1 hc.2
            have hR := hR (setB b' off ps) (by cases b' <;> rfl)
            unfold Oper.wp
            simp only [execOp, Sem.run_bind, hr, Result.andThen_ok, Sem.run_pure, Oper.upon_skip]
            exact hK _ _ ⟨_, _, _, by simpa [Act.put, Upd.app] using hR⟩
          · cases hv
        · cases hv
      · cases hv
    · exact hu.elim
  · rename_i co x y
    split at hu
    · rename_i b hb
      unfold valK at hu
      split at hu
      · exact hu.elim
      · rename_i d
        obtain ⟨hd, rfl⟩ := hu
        exact value_wp (vpick_run V rfl hb) (hK _ _ ⟨φ, F0, F1, h.put hd (by simp only [repV, rep]; exact ⟨trivial, rfl⟩)⟩)
    · exact hu.elim
  · rename_i s t x
    split at hu
    · rename_i b hb
      unfold valK at hu
      split at hu
      · exact hu.elim
      · rename_i d
        obtain ⟨hd, rfl⟩ := hu
        unfold vconv at hb
        split at hb
        · rename_i m ys e hx he ht
          split at hb
          · rename_i ns hu8 hns
            cases hb
            obtain ⟨q, hq, hx⟩ := Option.bind_eq_some_iff.1 hx
            obtain ⟨A, c, news, hxe, hA, hl, hr⟩ := newsOf_rep h V (V.ev hq) hx
            refine value_wp (x := .string (ofBytes ns)) (w' := w) ?_ (hK _ _ ⟨φ, F0, F1, h.put hd (by simp only [repV, rep]; exact ⟨trivial, rfl⟩)⟩)
            have hrun : (convert s t (a.eval x)).run C.P w = .ok (.string (ofBytes ns)) w := by
              rw [hxe, run_convert_bytes_string w s t e A m c (elemT_spec he) hu8 ht]
              have hnv : news = ns.map (Value.int .u8) := bytesOf_vals _ _ _ hns hr
              rcases hA with rfl | ⟨ad, rfl, hcell⟩
              · have hn : news = [] := List.eq_nil_of_length_eq_zero (by simpa using hl)
                have hns0 : ns = [] := by rw [hn] at hnv; simpa using hnv.symm
                subst hns0
                cases A with
                | none => rfl
                | some ad => exact run_bytesToString w ad 0 c [] (by simp [loadCells, loadCellsFrom])
              · refine run_bytesToString w ad m c ns ?_
                have := run_loadCells_list (P := C.P) w ad news hcell
                rw [show news.length = m by simpa using hl] at this
                rw [this, hnv]
            simp only [execOp, Sem.run_bind, hrun, Result.andThen_ok, Sem.run_pure]
          · cases hb
        · cases hb
    · exact vAddK_sound h V hu hf hK
  · rename_i t x lo hi mx
    split at hu
    · refine mvK_sound (F0 := F0) (F1 := F1) hu (fun i b t' hv hd hus => ?_) hf hK
      subst hd
      obtain ⟨q, hq, he⟩ := Option.map_eq_some_iff.1 hv
      cases he
      obtain ⟨x', φ', hr, hR, hx⟩ := cut_ok (i := q.1) (b := q.2) h V hq hus (ty := ty) (pos := pos) (af := af) (gd := gd)
      exact ⟨x', w, φ', hr, hR, hx⟩
    · exact vAddK_sound h V hu hf hK
  · exact vAddK_sound h V hu hf hK
end
end Go.Vm
