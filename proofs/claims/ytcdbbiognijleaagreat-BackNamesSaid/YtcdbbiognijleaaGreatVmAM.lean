/-
  Abstract states over the model's worlds, and that a step of them is a step of the program: part VmAM of a framework. Conditions: each theorem's own premises. By an AI agent.
-/
import Derived.Test.YtcdbbiognijleaaGreatVmAL
section
namespace Go.Vm
open Go Go.RowKit
set_option linter.unusedSimpArgs false
set_option linter.unusedVariables false
variable {gG : Nat → Option PV}

/-! ### Regions, computed -/
noncomputable def dOkB (nt : Nat) : Option Nat → Bool
  | none => true
  | some d => decide (d < nt)
noncomputable def S.skip (s : S) (o : Option Nat) : Option S :=
  match s with
  | ⟨fr, H, us, nx, al⟩ =>
    match o with
    | none => some ⟨fr, H, us, nx, al⟩
    | some d => some ⟨fr.setF d (some (.tup [])), H, us, nx, al⟩
theorem S.skip_ok {s s' : S} {d : Option Nat} (h : s.skip d = some s') : (s'.absG gG) = (s.absG gG).skip d := by
  obtain ⟨fr, H, us, nx, al⟩ := s
  cases d with
  | none => cases h; rfl
  | some d =>
    cases h
    have e : (fr.setF d (some (.tup []))).getF = upd fr.getF d (some (.tup [])) := by funext m; rw [Tr.getF_setF]; rfl
    show (⟨(fr.setF d (some (.tup []))).getF, getH H, fun d => memN d us, nx, gG⟩ : St) = _
    rw [e]; rfl
theorem dOkB_ok {nt : Nat} {d : Option Nat} (h : dOkB nt d = true) : dOk nt d := by
  cases d with
  | none => trivial
  | some d =>
    have h : decide (d < nt) = true := h
    show d < nt
    exact of_decide_eq_true h

noncomputable def stepS (P : Program) (nt : Nat) (cx : Cx) (io : Io) (s : S) (d : Option Nat) (op : Op) : Option S :=
  match opF P nt cx io s.nx (ev s.fr.getF) (getH s.H) d op with
  | some U => cond (freshB s U) (s.app U) none
  | none => none
noncomputable def operS (P : Program) (nt : Nat) (cx : Cx) (io : Io) (ops : List Oper) (o : Oper) (s : S) : Option S :=
  match o.guard with
  | none => stepS P nt cx io s o.dst o.op
  | some (g, want) =>
    match gslot ops s.fr.getF g with
    | some v => if v = some want then stepS P nt cx io s o.dst o.op else if dOkB nt o.dst = true then s.skip o.dst else none
    | none => none
noncomputable def seqS (P : Program) (nt : Nat) (cx : Cx) (io : Io) (ops : List Oper) : List Oper → S → Option S
  | [], s => some s
  | o :: rest, s =>
    match operS P nt cx io ops o s with
    | some s' => seqS P nt cx io ops rest s'
    | none => none

section
variable {C : Core} {cx : Cx} {io : Io}
theorem stepS_ok (hk : Knows C.P C.gw C.gb cx io) (hcu : C.cut = true) {s s' : S} {d : Option Nat} {op : Op} {K : St → Prop} (h : stepS C.P C.nt cx io s d op = some s') (hK : K (s'.absG gG)) :
    opK C (s.absG gG).nx (ev (s.absG gG).fr) (s.absG gG).H d op (fun U => U.fresh (s.absG gG) ∧ K (U.app (s.absG gG))) := by
  unfold stepS at h
  split at h
  · rename_i U hU
    cases hf : freshB s U with
    | false => rw [hf] at h; cases h
    | true =>
      rw [hf] at h
      exact opO_ok hk hcu (opF_ok hU) ⟨freshB_ok hf, by rw [← S.app_ok h]; exact hK⟩
  · cases h
theorem seqS_ok (hk : Knows C.P C.gw C.gb cx io) (hcu : C.cut = true) {ops : List Oper} {Q : St → Prop} : ∀ {l : List Oper} {s s' : S}, seqS C.P C.nt cx io ops l s = some s' → Q (s'.absG gG) → seqRun C ops l (s.absG gG) Q
  | [], s, s', h, hQ => by cases h; exact hQ
  | o :: rest, s, s', h, hQ => by
    unfold seqS at h
    split at h
    · rename_i s1 h1
      have ih := seqS_ok hk hcu h hQ
      unfold operS at h1
      unfold seqRun
      split at h1
      · rename_i hg
        rw [hg]
        exact stepS_ok (K := fun σ => seqRun C ops rest σ Q) hk hcu h1 ih
      · rename_i g want hg
        rw [hg]
        split at h1
        · rename_i v hv
          by_cases hw : v = some want
          · subst hw
            rw [if_pos rfl] at h1
            exact guardR_run hv (stepS_ok (K := fun σ => seqRun C ops rest σ Q) hk hcu h1 ih)
          · rw [if_neg hw] at h1
            split at h1
            · rename_i hd
              exact guardR_skip hv hw ⟨dOkB_ok hd, by rw [← S.skip_ok h1]; exact ih⟩
            · cases h1
        · cases h1
    · cases h

/-- What each operation waits for. -/
noncomputable def depsO : List Oper → List (List Nat) → List (List Nat)
  | [], acc => acc
  | o :: ops, acc => depsO ops (acc ++ [(o.after.toList.flatMap fun e => if Region.binds .any e = true then e.on :: acc.getD e.on [] else []).eraseDups])

/-- The operation, or nothing if its guard says no. -/
noncomputable def gO (P : Program) (nt : Nat) (cx : Cx) (io : Io) (ops : List Oper) (nx : Nat) (fr : Nat → Option PV) (H : Id → Option Blk) (d : Option Nat) (op : Op) : Option (Nat × Bool) → Option Upd
  | none => opF P nt cx io nx (ev fr) H d op
  | some (g, want) =>
    match gslot ops fr g with
    | some (some b) => if (b == want) = true then opF P nt cx io nx (ev fr) H d op else if dOkB nt d = true then some (.val d (.tup [])) else none
    | some none => if dOkB nt d = true then some (.val d (.tup [])) else none
    | none => none
theorem gO_ok {C : Core} (hk : Knows C.P C.gw C.gb cx io) (hcu : C.cut = true) {ops : List Oper} {nx : Nat} {fr : Nat → Option PV} {H : Id → Option Blk} {d : Option Nat} {op : Op} {g : Option (Nat × Bool)} {U : Upd} {K : Upd → Prop}
    (h : gO C.P C.nt cx io ops nx fr H d op g = some U) (hK : K U) : gK C ops nx fr H g d op K := by
  cases g with
  | none => exact opO_ok hk hcu (opF_ok h) hK
  | some gw =>
    obtain ⟨g, want⟩ := gw
    simp only [gO] at h
    simp only [gK]
    split at h
    · rename_i b hb
      simp only [hb]
      split at h
      · rename_i hbw
        rw [if_pos (by rw [beq_iff_eq] at hbw; rw [hbw])]
        exact opO_ok hk hcu (opF_ok h) hK
      · rename_i hbw
        split at h
        · rename_i hd
          cases h
          rw [if_neg (by intro e; cases e; simp at hbw)]
          exact ⟨dOkB_ok hd, hK⟩
        · cases h
    · rename_i hb
      simp only [hb]
      split at h
      · rename_i hd
        cases h
        rw [if_neg (by simp)]
        exact ⟨dOkB_ok hd, hK⟩
      · cases h
    · cases h

noncomputable def anyS (P : Program) (nt : Nat) (cx : Cx) (io : Io) (ops : List Oper) (s : S) : List Info → List Oper → List Upd → Option (List Upd)
  | [], [], Us => some Us
  | (r, b, dk) :: I, o :: rest, Us =>
    match gO P nt cx io ops s.nx (frF s.nx s.fr.getF Us r) (HF s.abs Us b dk (reads o.op)) o.dst o.op o.guard with
    | some U => if freshB s U = true then anyS P nt cx io ops s I rest (U :: Us) else none
    | none => none
  | _, _, _ => none
noncomputable def appsS (s : S) : List Upd → Option S
  | [] => some s
  | U :: Us =>
    match appsS s Us with
    | some s' => s'.app U
    | none => none
theorem appsS_ok {s : S} : ∀ {Us : List Upd} {s' : S}, appsS s Us = some s' → (s'.absG gG) = finF (s.absG gG) Us
  | [], s', h => by cases h; rfl
  | U :: Us, s', h => by
    unfold appsS at h
    split at h
    · rename_i s1 h1
      rw [S.app_ok h, appsS_ok h1]; rfl
    · cases h
theorem anyS_ok (hk : Knows C.P C.gw C.gb cx io) (hcu : C.cut = true) {ops : List Oper} {D : List (List Nat)} {Q : St → Prop} {s s' : S} : ∀ {I : List Info} {l : List Oper} {Us Vs : List Upd}, anyS C.P C.nt cx io ops s I l Us = some Vs →
    orderX ops D s.nx s.fr.getF Vs.reverse = true → appsS s Vs = some s' → Q (s'.absG gG) → anyRunF C ops D (s.absG gG) I l Us Q
  | [], [], Us, Vs, h, ho, ha, hQ => by
    cases h
    exact ⟨ho, by rw [← appsS_ok ha]; exact hQ⟩
  | (r, b, dk) :: I, o :: rest, Us, Vs, h, ho, ha, hQ => by
    unfold anyS at h
    split at h
    · rename_i U hU
      split at h
      · rename_i hf
        exact gO_ok hk hcu hU ⟨freshB_ok hf, anyS_ok hk hcu h ho ha hQ⟩
      · cases h
    · cases h
  | [], _ :: _, Us, Vs, h, _, _, _ => by simp [anyS] at h
  | _ :: _, [], Us, Vs, h, _, _, _ => by simp [anyS] at h

/-! In text order, on the plain state -/
noncomputable def fastS (P : Program) (nt : Nat) (cx : Cx) (io : Io) (ops : List Oper) : List Oper → List Fast → S → Option S
  | [], _, s => some s
  | o :: rest, (rs, bs, nm) :: I, s =>
    match gO P nt cx io ops s.nx (frM rs s.fr.getF) (HM s.nx bs (reads o.op) (getH s.H)) o.dst o.op o.guard with
    | some U =>
      match freshB s U && !(U.isM && nm) with
      | true =>
        match s.app U with
        | some s' => fastS P nt cx io ops rest I s'
        | none => none
      | false => none
    | none => none
  | _ :: _, [], _ => none
theorem fastS_ok {C : Ctx} {cx : Cx} {io : Io} (hk : Knows C.P C.gw C.gb cx io) (hcu : C.cut = true) {ops : List Oper} : ∀ {l : List Oper} {I : List Fast} {s s' : S}, fastS C.P C.nt cx io ops l I s = some s' →
    ∃ Us : List Upd, Us.length = l.length ∧ (s'.absG gG) = Us.foldl (fun σ U => U.app σ) (s.absG gG) ∧ ∀ k o U, l[k]? = some o → Us[k]? = some U → ∃ rs bs nm, I[k]? = some (rs, bs, nm) ∧ (nm = true → U.isM = false) ∧
      OpG C.toCore ops s.nx (frM rs ((Us.take k).foldl (fun σ U => U.app σ) (s.absG gG)).fr) (HM s.nx bs (reads o.op) ((Us.take k).foldl (fun σ U => U.app σ) (s.absG gG)).H) o.guard o.dst o.op U ∧ U.fresh ((Us.take k).foldl (fun σ U => U.app σ) (s.absG gG))
  | [], I, s, s', h => by
    cases h
    exact ⟨[], rfl, rfl, fun k o U ho => by simp at ho⟩
  | o :: rest, [], s, s', h => by cases h
  | o :: rest, (rs, bs, nm) :: I, s, s', h => by
    unfold fastS at h
    split at h
    · rename_i U hU
      split at h
      · rename_i hf
        rw [Bool.and_eq_true] at hf
        split at h
        · rename_i s1 h1
          obtain ⟨Us, hl, hs, hall⟩ := fastS_ok hk hcu h
          have e1 := S.app_ok (g := gG) h1
          have en : s1.nx = s.nx := by
            have := congrArg St.nx e1
            rw [app_nx] at this
            exact this
          refine ⟨U :: Us, by simp [hl], by rw [hs, e1]; rfl, fun k o' V ho hV => ?_⟩
          cases k with
          | zero =>
            simp only [List.getElem?_cons_zero, Option.some.injEq] at ho hV
            subst ho hV
            refine ⟨rs, bs, nm, rfl, fun hn => ?_, gO_ok hk hcu hU rfl, freshB_ok hf.1⟩
            have := hf.2
            rw [hn] at this
            simpa using this
          | succ k =>
            simp only [List.getElem?_cons_succ] at ho hV
            obtain ⟨rs', bs', nm', hi, hn, hop, hfr⟩ := hall k o' V ho hV
            rw [en, e1] at hop
            rw [e1] at hfr
            exact ⟨rs', bs', nm', by simpa using hi, hn, hop, hfr⟩
        · cases h
      · cases h
    · cases h

noncomputable def slotsOf (ops : List Oper) (o : Oper) : List Nat :=
  (o.op.operands.toList.filterMap fun x => match x with | .tmp t => some t | _ => none) ++ (match o.guard with | some (g, _) => ((ops[g]?).bind (·.dst)).toList | none => [])
/-! ### Static tables of regions that draw their order, made quickly -/
noncomputable def getN (l : List (List Nat)) : Nat → List Nat := List.rec (motive := fun _ => Nat → List Nat) (fun _ => []) (fun a _ ih k => cond (Nat.beq k 0) a (ih (Nat.sub k 1))) l
theorem getN_eq : ∀ (l : List (List Nat)) (k : Nat), getN l k = l.getD k []
  | [], k => by simp [getN]
  | a :: l, 0 => rfl
  | a :: l, k + 1 => by
    show getN l k = _
    rw [getN_eq l k]
    simp
noncomputable def insN (a : Nat) (l : List Nat) : List Nat := cond (memN a l) l (a :: l)
theorem mem_insN {a j : Nat} {l : List Nat} (h : j ∈ insN a l) : j = a ∨ j ∈ l := by
  unfold insN at h
  cases hm : memN a l with
  | true => rw [hm] at h; exact .inr h
  | false => rw [hm] at h; exact List.mem_cons.1 h
noncomputable def unionN (xs l : List Nat) : List Nat := List.rec (motive := fun _ => List Nat) l (fun a _ ih => insN a ih) xs
theorem mem_unionN {j : Nat} {l : List Nat} : ∀ {xs : List Nat}, j ∈ unionN xs l → j ∈ xs ∨ j ∈ l
  | [], h => .inr h
  | a :: xs, h => by
    rcases mem_insN (show j ∈ insN a (unionN xs l) from h) with rfl | h
    · exact .inl (by simp)
    · exact (mem_unionN h).imp (List.mem_cons_of_mem _) id
noncomputable def depsOf (acc : List (List Nat)) (es : List Edge) : List Nat := List.rec (motive := fun _ => List Nat) [] (fun e _ ih => cond (Region.binds .any e) (insN e.on (unionN (getN acc e.on) ih)) ih) es
theorem mem_depsOf {acc : List (List Nat)} {j : Nat} : ∀ {es : List Edge}, j ∈ depsOf acc es → ∃ e ∈ es, Region.binds .any e = true ∧ (e.on = j ∨ j ∈ getN acc e.on)
  | [], h => by cases h
  | e :: es, h => by
    have h : j ∈ cond (Region.binds .any e) (insN e.on (unionN (getN acc e.on) (depsOf acc es))) (depsOf acc es) := h
    cases hb : Region.binds .any e with
    | false =>
      rw [hb] at h
      obtain ⟨e', h1, h2⟩ := mem_depsOf (show j ∈ depsOf acc es from h)
      exact ⟨e', List.mem_cons_of_mem _ h1, h2⟩
    | true =>
      rw [hb] at h
      rcases mem_insN (show j ∈ insN e.on _ from h) with rfl | h
      · exact ⟨e, by simp, hb, .inl rfl⟩
      · rcases mem_unionN h with h | h
        · exact ⟨e, by simp, hb, .inr h⟩
        · obtain ⟨e', h1, h2⟩ := mem_depsOf h
          exact ⟨e', List.mem_cons_of_mem _ h1, h2⟩
noncomputable def depsF : List Oper → List (List Nat) → List (List Nat)
  | [], acc => acc
  | o :: ops, acc => depsF ops (acc ++ [depsOf acc o.after.toList])
theorem depsF_spec : ∀ (ops : List Oper) (acc : List (List Nat)), ∃ D', depsF ops acc = acc ++ D' ∧ ∀ m o, ops[m]? = some o → (acc ++ D')[acc.length + m]? = some (depsOf ((acc ++ D').take (acc.length + m)) o.after.toList)
  | [], acc => ⟨[], by simp [depsF], fun m o h => by simp at h⟩
  | o :: ops, acc => by
    obtain ⟨D', h1, h2⟩ := depsF_spec ops (acc ++ [depsOf acc o.after.toList])
    refine ⟨depsOf acc o.after.toList :: D', by rw [depsF, h1, List.append_assoc]; rfl, fun m o' hm => ?_⟩
    cases m with
    | zero =>
      simp only [List.getElem?_cons_zero, Option.some.injEq] at hm
      subst hm
      rw [Nat.add_zero, List.take_left, List.getElem?_append_right (Nat.le_refl _), Nat.sub_self]
      rfl
    | succ m =>
      have := h2 m o' (by simpa using hm)
      rw [List.append_assoc, List.length_append, List.length_cons, List.length_nil, Nat.zero_add, Nat.add_assoc, Nat.add_comm 1 m] at this
      exact this
noncomputable def edgeOk (k : Nat) (es : List Edge) : Bool := List.rec (motive := fun _ => Bool) true (fun e _ ih => cond (Region.binds .any e) (cond (Nat.blt e.on k) ih false) ih) es
theorem edgeOk_ok {k : Nat} : ∀ {es : List Edge}, edgeOk k es = true → ∀ e ∈ es, Region.binds .any e = true → e.on < k
  | [], _, e, he, _ => by cases he
  | a :: es, h, e, he, hb => by
    have h : cond (Region.binds .any a) (cond (Nat.blt a.on k) (edgeOk k es) false) (edgeOk k es) = true := h
    cases ha : Region.binds .any a with
    | false =>
      rw [ha] at h
      rcases List.mem_cons.1 he with rfl | he
      · rw [ha] at hb; cases hb
      · exact edgeOk_ok (show edgeOk k es = true from h) e he hb
    | true =>
      rw [ha] at h
      cases hl : Nat.blt a.on k with
      | false => rw [hl] at h; cases h
      | true =>
        rw [hl] at h
        rcases List.mem_cons.1 he with rfl | he
        · exact Nat.le_of_ble_eq_true hl
        · exact edgeOk_ok (show edgeOk k es = true from h) e he hb
noncomputable def edgesOk : Nat → List Oper → Bool
  | _, [] => true
  | k, o :: ops => cond (edgeOk k o.after.toList) (edgesOk (k + 1) ops) false
theorem edgesOk_ok : ∀ {ops : List Oper} {k : Nat}, edgesOk k ops = true → ∀ m o, ops[m]? = some o → ∀ e ∈ o.after.toList, Region.binds .any e = true → e.on < k + m
  | [], k, _, m, o, ho => by simp at ho
  | a :: ops, k, h, m, o, ho => by
    unfold edgesOk at h
    cases ha : edgeOk k a.after.toList with
    | false => rw [ha] at h; cases h
    | true =>
      rw [ha] at h
      cases m with
      | zero =>
        simp only [List.getElem?_cons_zero, Option.some.injEq] at ho
        subst ho
        intro e he hb
        have := edgeOk_ok ha e he hb
        omega
      | succ m =>
        intro e he hb
        have := edgesOk_ok (show edgesOk (k + 1) ops = true from h) m o (by simpa using ho) e he hb
        omega
theorem depsF_ok {ops : List Oper} (h : edgesOk 0 ops = true) : depOk ops (depsF ops []) = true := by
  obtain ⟨D', h1, h2⟩ := depsF_spec ops []
  rw [List.nil_append] at h1
  rw [h1]
  unfold depOk
  rw [List.all_eq_true]
  intro k hk
  split
  · rfl
  · rename_i o ho
    have hE := edgesOk_ok h k o ho
    have hD := h2 k o ho
    simp only [List.nil_append, List.length_nil, Nat.zero_add] at hD hE
    rw [Bool.and_eq_true, List.all_eq_true, List.all_eq_true]
    refine ⟨fun e he => ?_, fun j hj => ?_⟩
    · cases hb : Region.binds .any e with
      | false => rfl
      | true => simp [hE e he hb]
    · rw [List.any_eq_true]
      have hj' : j ∈ depsOf (D'.take k) o.after.toList := by
        rw [List.getD_eq_getElem?_getD, hD] at hj
        exact hj
      obtain ⟨e, he, hb, hor⟩ := mem_depsOf hj'
      refine ⟨e, he, ?_⟩
      rw [hb, Bool.true_and, Bool.or_eq_true]
      rcases hor with hor | hor
      · left; simpa using hor
      · right
        rw [getN_eq, List.getD_eq_getElem?_getD, List.getElem?_take, if_pos (hE e he hb)] at hor
        unfold isDep
        rw [List.getD_eq_getElem?_getD]
        simpa using hor
/-- Who writes which slot. -/
noncomputable def dstsL : Nat → List Oper → List (Nat × Nat)
  | _, [] => []
  | j, o :: ops =>
    match o.dst with
    | some d => (d, j) :: dstsL (j + 1) ops
    | none => dstsL (j + 1) ops
theorem dstsL_mem {d j : Nat} : ∀ {ops : List Oper} {i : Nat}, (d, j) ∈ dstsL i ops ↔ ∃ m, j = i + m ∧ (ops[m]?).bind (·.dst) = some d
  | [], i => by simp [dstsL]
  | o :: ops, i => by
    have ih := dstsL_mem (d := d) (j := j) (ops := ops) (i := i + 1)
    have hsplit : (∃ m, j = i + m ∧ ((o :: ops)[m]?).bind (·.dst) = some d) ↔ (j = i ∧ o.dst = some d) ∨ ∃ m, j = i + 1 + m ∧ (ops[m]?).bind (·.dst) = some d := by
      constructor
      · rintro ⟨m, h1, h2⟩
        cases m with
        | zero => exact .inl ⟨by omega, by simpa using h2⟩
        | succ m => exact .inr ⟨m, by omega, by simpa using h2⟩
      · rintro (⟨h1, h2⟩ | ⟨m, h1, h2⟩)
        · exact ⟨0, by omega, by simpa using h2⟩
        · exact ⟨m + 1, by omega, by simpa using h2⟩
    rw [hsplit]
    unfold dstsL
    cases hd : o.dst with
    | none => simp only [reduceCtorEq, and_false, false_or]; exact ih
    | some d' =>
      simp only [List.mem_cons, Prod.mk.injEq, Option.some.injEq]
      rw [ih]
      constructor
      · rintro (⟨rfl, rfl⟩ | h)
        · exact .inl ⟨rfl, rfl⟩
        · exact .inr h
      · rintro (⟨rfl, rfl⟩ | h)
        · exact .inl ⟨rfl, rfl⟩
        · exact .inr h
noncomputable def keysN (W : List (Nat × Nat)) : List Nat := List.rec (motive := fun _ => List Nat) [] (fun e _ ih => e.1 :: ih) W
noncomputable def diffN (W : List Nat) : Bool := List.rec (motive := fun _ => Bool) true (fun a l ih => cond (memN a l) false ih) W
theorem keysN_mem {d : Nat} : ∀ {W : List (Nat × Nat)}, d ∈ keysN W ↔ ∃ j, (d, j) ∈ W
  | [] => by simp [keysN]
  | e :: W => by
    show d ∈ e.1 :: keysN W ↔ _
    rw [List.mem_cons, keysN_mem]
    constructor
    · rintro (rfl | ⟨j, h⟩)
      · exact ⟨e.2, by simp⟩
      · exact ⟨j, List.mem_cons_of_mem _ h⟩
    · rintro ⟨j, h⟩
      rcases List.mem_cons.1 h with h | h
      · exact .inl (by rw [← h])
      · exact .inr ⟨j, h⟩
theorem diffN_ok {d j k : Nat} : ∀ {W : List (Nat × Nat)}, diffN (keysN W) = true → (d, j) ∈ W → (d, k) ∈ W → j = k
  | [], _, h, _ => by cases h
  | e :: W, h, h1, h2 => by
    have h : cond (memN e.1 (keysN W)) false (diffN (keysN W)) = true := h
    cases hm : memN e.1 (keysN W) with
    | true => rw [hm] at h; cases h
    | false =>
      rw [hm] at h
      have hno : ∀ m, (e.1, m) ∉ W := fun m hmem => by
        have := memN_iff.2 (keysN_mem.2 ⟨m, hmem⟩)
        rw [hm] at this; cases this
      rcases List.mem_cons.1 h1 with h1 | h1 <;> rcases List.mem_cons.1 h2 with h2 | h2
      · rw [← h2] at h1; cases h1; rfl
      · exact absurd h2 (by rw [← h1] at hno; exact hno k)
      · exact absurd h1 (by rw [← h2] at hno; exact hno j)
      · exact diffN_ok (show diffN (keysN W) = true from h) h1 h2
theorem dstsF_ok {ops : List Oper} (h : diffN (keysN (dstsL 0 ops)) = true) : dstsOk ops = true := by
  unfold dstsOk
  rw [List.all_eq_true]
  intro j hj
  rw [List.all_eq_true]
  intro k hk
  by_cases hjk : j = k
  · simp [hjk]
  · cases hd : (ops[j]?).bind (·.dst) with
    | none => simp
    | some d =>
      have hne : (some d != (ops[k]?).bind (·.dst)) = true := by
        rw [bne_iff_ne]
        intro e
        exact hjk (diffN_ok h (dstsL_mem.2 ⟨j, by omega, hd⟩) (dstsL_mem.2 ⟨k, by omega, e.symm⟩))
      rw [hne, Bool.or_true]
noncomputable def lookW (t : Nat) (W : List (Nat × Nat)) : Option Nat := List.rec (motive := fun _ => Option Nat) none (fun e _ ih => cond (Nat.beq e.1 t) (some e.2) ih) W
theorem lookW_none {t : Nat} : ∀ {W : List (Nat × Nat)}, lookW t W = none → ∀ j, (t, j) ∉ W
  | [], _, j, h => by cases h
  | e :: W, h, j, hm => by
    have h : cond (Nat.beq e.1 t) (some e.2) (lookW t W) = none := h
    cases hb : Nat.beq e.1 t with
    | true => rw [hb] at h; cases h
    | false =>
      rw [hb] at h
      rcases List.mem_cons.1 hm with hm | hm
      · rw [← hm, Nat.beq_refl] at hb; cases hb
      · exact lookW_none (show lookW t W = none from h) j hm
theorem lookW_some {t j : Nat} : ∀ {W : List (Nat × Nat)}, lookW t W = some j → (t, j) ∈ W
  | [], h => by cases h
  | e :: W, h => by
    have h : cond (Nat.beq e.1 t) (some e.2) (lookW t W) = some j := h
    cases hb : Nat.beq e.1 t with
    | true =>
      rw [hb] at h
      have h : some e.2 = some j := h
      cases h
      rw [← Nat.eq_of_beq_eq_true hb]
      simp
    | false =>
      rw [hb] at h
      exact List.mem_cons_of_mem _ (lookW_some (show lookW t W = some j from h))
noncomputable def slotF (D : List (List Nat)) (W : List (Nat × Nat)) (k t : Nat) : Bool :=
  match lookW t W with
  | none => true
  | some j => cond (memN j (getN D k)) true (cond (memN k (getN D j)) (Nat.blt k j) false)
theorem isDep_iff {D : List (List Nat)} {j k : Nat} : isDep D j k = memN j (getN D k) := by
  unfold isDep
  rw [getN_eq]
  cases h : memN j (D.getD k []) with
  | true => simpa using memN_iff.1 h
  | false =>
    cases hc : (D.getD k []).contains j with
    | false => rfl
    | true =>
      have := memN_iff.2 (show j ∈ D.getD k [] by simpa using hc)
      rw [h] at this; cases this
theorem slotF_ok {ops : List Oper} {D : List (List Nat)} {k t : Nat} (hd : diffN (keysN (dstsL 0 ops)) = true) (h : slotF D (dstsL 0 ops) k t = true) : slotOk ops D k t = true := by
  unfold slotOk
  rw [List.all_eq_true]
  intro j hj
  by_cases hjt : (ops[j]?).bind (·.dst) = some t
  · have hm : (t, j) ∈ dstsL 0 ops := dstsL_mem.2 ⟨j, by omega, hjt⟩
    unfold slotF at h
    split at h
    · rename_i hn
      exact absurd hm (lookW_none hn j)
    · rename_i j' hj'
      have := diffN_ok hd hm (lookW_some hj')
      subst this
      rw [isDep_iff, isDep_iff]
      cases h1 : memN j (getN D k) with
      | true => simp
      | false =>
        rw [h1] at h
        cases h2 : memN k (getN D j) with
        | false => rw [h2] at h; cases h
        | true =>
          rw [h2] at h
          have h : Nat.blt k j = true := h
          have := Nat.le_of_ble_eq_true h
          simp only [Bool.false_eq_true, Bool.or_false, Bool.true_and, Bool.or_eq_true, decide_eq_true_eq]
          right; omega
  · have : ((ops[j]?).bind (·.dst) != some t) = true := by rw [bne_iff_ne]; exact hjt
    rw [this]; simp
noncomputable def badF (Dk : List Nat) (k : Nat) (W : List (Nat × Nat)) : List Nat := List.rec (motive := fun _ => List Nat) [] (fun e _ ih => cond (memN e.2 Dk) ih (cond (Nat.beq e.2 k) ih (e.1 :: ih))) W
theorem badF_mem {Dk : List Nat} {k d j : Nat} (h1 : memN j Dk = false) (h2 : j ≠ k) : ∀ {W : List (Nat × Nat)}, (d, j) ∈ W → d ∈ badF Dk k W
  | [], h => by cases h
  | e :: W, h => by
    show d ∈ cond (memN e.2 Dk) (badF Dk k W) (cond (Nat.beq e.2 k) (badF Dk k W) (e.1 :: badF Dk k W))
    rcases List.mem_cons.1 h with h | h
    · rw [← h]
      have : Nat.beq j k = false := by cases hb : Nat.beq j k with | false => rfl | true => exact absurd (Nat.eq_of_beq_eq_true hb) h2
      rw [h1, this]
      simp
    · have ih := badF_mem h1 h2 h
      cases memN e.2 Dk with
      | true => exact ih
      | false =>
        cases Nat.beq e.2 k with
        | true => exact ih
        | false => exact List.mem_cons_of_mem _ ih
theorem badF_ok {ops : List Oper} {D : List (List Nat)} {k : Nat} : maskOk ops D k (badF (getN D k) k (dstsL 0 ops)) = true := by
  unfold maskOk
  rw [List.all_eq_true]
  intro j hj
  by_cases hjk : j = k
  · simp [hjk]
  · rw [isDep_iff]
    cases h1 : memN j (getN D k) with
    | true => simp
    | false =>
      cases hd : (ops[j]?).bind (·.dst) with
      | none => simp
      | some d =>
        have := badF_mem h1 hjk (dstsL_mem.2 ⟨j, by omega, hd⟩ : (d, j) ∈ dstsL 0 ops)
        simp [this]
noncomputable def fastN (ops : List Oper) (D : List (List Nat)) (W : List (Nat × Nat)) : List Oper → Nat → List Fast
  | [], _ => []
  | o :: l, k => ((slotsOf ops o).filter (slotF D W k), badF (getN D k) k W, !quietOk ops D k) :: fastN ops D W l (k + 1)
theorem fastN_get {ops : List Oper} {D : List (List Nat)} {W : List (Nat × Nat)} : ∀ {l : List Oper} {i m : Nat} {o : Oper}, l[m]? = some o → (fastN ops D W l i)[m]? = some ((slotsOf ops o).filter (slotF D W (i + m)), badF (getN D (i + m)) (i + m) W, !quietOk ops D (i + m))
  | [], i, m, o, h => by simp at h
  | a :: l, i, 0, o, h => by
    simp only [List.getElem?_cons_zero, Option.some.injEq] at h
    subst h
    rfl
  | a :: l, i, m + 1, o, h => by
    have := fastN_get (ops := ops) (D := D) (W := W) (l := l) (i := i + 1) (m := m) (o := o) (by simpa using h)
    rw [show i + 1 + m = i + (m + 1) by omega] at this
    exact this
theorem fastN_ok {ops : List Oper} {D : List (List Nat)} (hd : diffN (keysN (dstsL 0 ops)) = true) : fastOk ops D (fastN ops D (dstsL 0 ops) ops 0) = true := by
  unfold fastOk
  rw [List.all_eq_true]
  intro k hk
  rw [List.mem_range] at hk
  have ho : ops[k]? = some ops[k] := List.getElem?_eq_getElem hk
  rw [fastN_get ho]
  simp only [Nat.zero_add]
  rw [badF_ok]
  have h1 : ((slotsOf ops ops[k]).filter (slotF D (dstsL 0 ops) k)).all (slotOk ops D k) = true := by
    rw [List.all_eq_true]
    intro t ht
    exact slotF_ok hd (List.mem_filter.1 ht).2
  rw [h1]
  cases quietOk ops D k <;> rfl

noncomputable def slowS (P : Program) (nt : Nat) (cx : Cx) (io : Io) (ops : List Oper) (s : S) : Option S :=
    let D := depsO ops []
    if (depOk ops D && dstsOk ops) = true then
      match anyS P nt cx io ops s (infoFrom ops D 0 ops.length) ops [] with
      | some Us => if orderX ops D s.nx s.fr.getF Us.reverse = true then appsS s Us else none
      | none => none
    else none
noncomputable def drawS (P : Program) (nt : Nat) (cx : Cx) (io : Io) (ops : List Oper) (s : S) : Option S :=
  cond (edgesOk 0 ops) (cond (diffN (keysN (dstsL 0 ops)))
    (Option.rec (motive := fun _ => Option S) (slowS P nt cx io ops s) (fun s' => some s') (fastS P nt cx io ops ops (fastN ops (depsF ops []) (dstsL 0 ops) ops 0) s))
    (slowS P nt cx io ops s)) (slowS P nt cx io ops s)
noncomputable def regS (P : Program) (nt : Nat) (cx : Cx) (io : Io) (ops : List Oper) (draw : Bool) (s : S) : Option S :=
  match draw with
  | false => seqS P nt cx io ops ops s
  | true => drawS P nt cx io ops s
end
theorem slowS_ok {C : Ctx} {cx : Cx} {io : Io} (hk : Knows C.P C.gw C.gb cx io) (hcu : C.cut = true) (hm : C.P.follows .mixedOrders = true) {id : Nat} {ops : Array Oper} {Q : Post} {s s' : S}
    (h : slowS C.P C.nt cx io ops.toList s = some s') (hQ : Q .normal (s'.absG gG)) : vwp C (.region id ops true) Q (s.absG gG) := by
  unfold slowS at h
  simp only at h
  split at h
  · rename_i hd
    rw [Bool.and_eq_true] at hd
    split at h
    · rename_i Us hU
      split at h
      · rename_i ho
        have := vwp_anyF (C := C) (ops := ops.toList) (id := id) (Q := Q) (σ := (s.absG gG)) _ _ hm hd.1 hd.2 rfl (anyS_ok hk hcu hU ho h hQ)
        simpa using this
      · cases h
    · cases h
  · cases h
theorem drawS_ok {C : Ctx} {cx : Cx} {io : Io} (hk : Knows C.P C.gw C.gb cx io) (hcu : C.cut = true) (hm : C.P.follows .mixedOrders = true) {id : Nat} {ops : Array Oper} {Q : Post} {s s' : S}
    (h : drawS C.P C.nt cx io ops.toList s = some s') (hQ : Q .normal (s'.absG gG)) : vwp C (.region id ops true) Q (s.absG gG) := by
  unfold drawS at h
  cases hg : edgesOk 0 ops.toList with
  | false => rw [hg] at h; exact slowS_ok hk hcu hm h hQ
  | true =>
    rw [hg] at h
    cases hd : diffN (keysN (dstsL 0 ops.toList)) with
    | false => rw [hd] at h; exact slowS_ok hk hcu hm h hQ
    | true =>
      rw [hd] at h
      simp only [cond_true] at h
      cases h1 : fastS C.P C.nt cx io ops.toList ops.toList (fastN ops.toList (depsF ops.toList []) (dstsL 0 ops.toList) ops.toList 0) s with
      | none => rw [h1] at h; exact slowS_ok hk hcu hm h hQ
      | some s1 =>
        rw [h1] at h
        cases h
        obtain ⟨Us, hl, hs, hall⟩ := fastS_ok hk hcu h1
        have T : Told C.toCore ops.toList (depsF ops.toList []) (s.absG gG) Us := told_seq (depsF_ok hg) (dstsF_ok hd) (fastN_ok hd) hl hall
        have := vwp_told (C := C) (id := id) (Q := Q) hm (depsF_ok hg) (dstsF_ok hd) ⟨Us, T, by rw [hs] at hQ; exact hQ⟩
        simpa using this
theorem regS_ok {C : Ctx} {cx : Cx} {io : Io} (hk : Knows C.P C.gw C.gb cx io) (hcu : C.cut = true) (hm : C.P.follows .mixedOrders = true) {id : Nat} {ops : Array Oper} {draw : Bool} {Q : Post} {s s' : S}
    (h : regS C.P C.nt cx io ops.toList draw s = some s') (hQ : Q .normal (s'.absG gG)) : vwp C (.region id ops draw) Q (s.absG gG) := by
  unfold regS at h
  cases draw with
  | false =>
    have := vwp_regionG (C := C) (ops := ops.toList) (id := id) (Q := Q) (σ := (s.absG gG)) (seqS_ok hk hcu h hQ)
    simpa using this
  | true => exact drawS_ok hk hcu hm h hQ
end Go.Vm
end

section
namespace Go.Vm
open Go Go.RowKit
set_option linter.unusedSimpArgs false
set_option linter.unusedVariables false

/-! ### Names anew, computed -/
noncomputable def lookM (i : Id) : List (Id × Id) → Option Id
  | [] => none
  | (a, b) :: m => if a = i then some b else lookM i m
theorem lookM_mem {i j : Id} : ∀ {m : List (Id × Id)}, lookM i m = some j → (i, j) ∈ m
  | [], h => by cases h
  | (a, b) :: m, h => by
    unfold lookM at h
    split at h
    · rename_i e; cases h; subst e; simp
    · exact List.mem_cons_of_mem _ (lookM_mem h)
mutual
noncomputable def rnC (m : List (Id × Id)) : PC → Option PC
  | .c v => some (.c v)
  | .ifc => some .ifc
  | .any => some .any
  | .emp => some .emp
  | .sl t n xs =>
    match rnCs m xs with
    | some xs' => some (.sl t n xs')
    | none => none
  | .at t xs =>
    match rnCs m xs with
    | some xs' => some (.at t xs')
    | none => none
  | .loc i off =>
    match lookM i m with
    | some j => some (.loc j off)
    | none => none
  | .vw i off n =>
    match lookM i m with
    | some j => some (.vw j off n)
    | none => none
  | .cut i n =>
    match lookM i m with
    | some j => some (.cut j n)
    | none => none
  | .rmp t ks xs =>
    match rnCs m xs with
    | some xs' => some (.rmp t ks xs')
    | none => none
  | .own i =>
    match lookM i m with
    | some j => some (.own j)
    | none => none
  | .fn f xs =>
    match rnCs m xs with
    | some xs' => some (.fn f xs')
    | none => none
  | .mth f xs =>
    match rnCs m xs with
    | some xs' => some (.mth f xs')
    | none => none
noncomputable def rnCs (m : List (Id × Id)) : List PC → Option (List PC)
  | [] => some []
  | p :: ps =>
    match rnC m p, rnCs m ps with
    | some p', some ps' => some (p' :: ps')
    | _, _ => none
end
section
variable {H : Id → Option Blk} {Z : Id → Prop} {m : List (Id × Id)}
mutual
theorem rnC_ok : ∀ {p p' : PC}, rnC m p = some p' → Conv H Z (fun i j => (i, j) ∈ m) p p'
  | .c v, p', h => by unfold rnC at h; cases h; exact .free rfl
  | .ifc, p', h => by unfold rnC at h; cases h; exact .free rfl
  | .any, p', h => by unfold rnC at h; cases h; exact .free rfl
  | .emp, p', h => by unfold rnC at h; cases h; exact .free rfl
  | .sl t n xs, p', h => by
    unfold rnC at h
    split at h
    · rename_i xs' hx; cases h; exact .sl id (rnCs_ok hx)
    · cases h
  | .at t xs, p', h => by
    unfold rnC at h
    split at h
    · rename_i xs' hx; cases h; exact .at id (rnCs_ok hx)
    · cases h
  | .loc i off, p', h => by
    unfold rnC at h
    split at h
    · rename_i j hj; cases h; exact .loc (lookM_mem hj)
    · cases h
  | .vw i off n, p', h => by
    unfold rnC at h
    split at h
    · rename_i j hj; cases h; exact .vw (lookM_mem hj)
    · cases h
  | .cut i n, p', h => by
    unfold rnC at h
    split at h
    · rename_i j hj; cases h; exact .cut (lookM_mem hj)
    · cases h
  | .rmp t ks xs, p', h => by
    unfold rnC at h
    split at h
    · rename_i xs' hx; cases h; exact .rmp id (rnCs_ok hx)
    · cases h
  | .own i, p', h => by
    unfold rnC at h
    split at h
    · rename_i j hj; cases h; exact .own (lookM_mem hj)
    · cases h
  | .fn f xs, p', h => by
    unfold rnC at h
    split at h
    · rename_i xs' hx; cases h; exact .fn (rnCs_ok hx)
    · cases h
  | .mth f xs, p', h => by
    unfold rnC at h
    split at h
    · rename_i xs' hx; cases h; exact .mth (rnCs_ok hx)
    · cases h
theorem rnCs_ok : ∀ {ps ps' : List PC}, rnCs m ps = some ps' → ConvL H Z (fun i j => (i, j) ∈ m) ps ps'
  | [], ps', h => by unfold rnCs at h; cases h; exact .nil
  | p :: ps, ps', h => by
    unfold rnCs at h
    split at h
    · rename_i q qs hq hqs; cases h; exact .cons (rnC_ok hq) (rnCs_ok hqs)
    · cases h
end
end
mutual
noncomputable def rnV (m : List (Id × Id)) : PV → Option PV
  | .one p =>
    match rnC m p with
    | some p' => some (.one p')
    | none => none
  | .agg ps =>
    match rnCs m ps with
    | some ps' => some (.agg ps')
    | none => none
  | .tup vs =>
    match rnVs m vs with
    | some vs' => some (.tup vs')
    | none => none
  | .may _ _ => none
  | .full p =>
    match rnC m p with
    | some p' => some (.one p')
    | none => none
noncomputable def rnVs (m : List (Id × Id)) : List PV → Option (List PV)
  | [] => some []
  | p :: ps =>
    match rnV m p, rnVs m ps with
    | some p', some ps' => some (p' :: ps')
    | _, _ => none
end
section
variable {H : Id → Option Blk} {Z : Id → Prop} {m : List (Id × Id)}
mutual
theorem rnV_ok : ∀ {p p' : PV}, rnV m p = some p' → ConvV H Z (fun i j => (i, j) ∈ m) p p'
  | .one p, p', h => by
    unfold rnV at h
    split at h
    · rename_i q hq; cases h; exact .one (rnC_ok hq)
    · cases h
  | .agg ps, p', h => by
    unfold rnV at h
    split at h
    · rename_i q hq; cases h; exact .agg (rnCs_ok hq)
    · cases h
  | .tup vs, p', h => by
    unfold rnV at h
    split at h
    · rename_i q hq; cases h; exact .tup (rnVs_ok hq)
    · cases h
  | .may _ _, p', h => by unfold rnV at h; cases h
  | .full p, p', h => by
    unfold rnV at h
    split at h
    · rename_i q hq; cases h; exact .full (rnC_ok hq)
    · cases h
theorem rnVs_ok : ∀ {ps ps' : List PV}, rnVs m ps = some ps' → ConvVs H Z (fun i j => (i, j) ∈ m) ps ps'
  | [], ps', h => by unfold rnVs at h; cases h; exact .nil
  | p :: ps, ps', h => by
    unfold rnVs at h
    split at h
    · rename_i q qs hq hqs; cases h; exact .cons (rnV_ok hq) (rnVs_ok hqs)
    · cases h
end
end
noncomputable def rnE (m : List (Id × Id)) : List (Value × PC) → Option (List (Value × PC))
  | [] => some []
  | e :: es =>
    match rnC m e.2, rnE m es with
    | some p, some es' => some ((e.1, p) :: es')
    | _, _ => none
theorem rnE_ok {H : Id → Option Blk} {Z : Id → Prop} {m : List (Id × Id)} : ∀ {es es' : List (Value × PC)}, rnE m es = some es' → es.map (·.1) = es'.map (·.1) ∧ ConvL H Z (fun i j => (i, j) ∈ m) (es.map (·.2)) (es'.map (·.2))
  | [], es', h => by cases h; exact ⟨rfl, .nil⟩
  | e :: es, es', h => by
    unfold rnE at h
    split at h
    · rename_i p es1 hp he
      cases h
      obtain ⟨h1, h2⟩ := rnE_ok (H := H) (Z := Z) he
      exact ⟨by rw [List.map_cons, List.map_cons, h1], .cons (rnC_ok hp) h2⟩
    · cases h
noncomputable def rnB (m : List (Id × Id)) : Blk → Option Blk
  | .box ty cs =>
    match rnCs m cs with
    | some cs' => some (.box ty cs')
    | none => none
  | .arr ty z n cs =>
    match rnCs m cs with
    | some cs' => some (.arr ty z n cs')
    | none => none
  | .mp ty es =>
    match rnE m es with
    | some es' => some (.mp ty es')
    | none => none
theorem rnB_ok {H : Id → Option Blk} {Z : Id → Prop} {m : List (Id × Id)} {b b' : Blk} (h : rnB m b = some b') : ConvB H Z (fun i j => (i, j) ∈ m) b b' := by
  cases b with
  | box ty cs =>
    unfold rnB at h
    simp only at h
    split at h
    · rename_i q hq; cases h; exact .box (rnCs_ok hq)
    · cases h
  | arr ty z n cs =>
    unfold rnB at h
    simp only at h
    split at h
    · rename_i q hq; cases h; exact .arr (rnCs_ok hq)
    · cases h
  | mp ty es =>
    unfold rnB at h
    simp only at h
    split at h
    · rename_i q hq; cases h; exact .mp (rnE_ok (H := H) (Z := Z) hq).1 (rnE_ok hq).2
    · cases h

noncomputable def nodupB : List Id → Bool
  | [] => true
  | i :: l => !l.contains i && nodupB l
theorem nodupB_ok : ∀ {l : List Id}, nodupB l = true → l.Nodup
  | [], _ => List.nodup_nil
  | i :: l, h => by
    unfold nodupB at h
    rw [Bool.and_eq_true] at h
    refine List.nodup_cons.2 ⟨?_, nodupB_ok h.2⟩
    have := h.1
    simpa using this

noncomputable def PV.ids : PV → List Id
  | .one p => p.ids
  | .agg ps => PC.idss ps
  | _ => []
/-- Between two rounds the names are told anew. -/
theorem RelX.nextN {C : Ctx} {φ : Id → Option Value} {F0 F1 : Nat → Prop} {σ : St} {a : Act} {w : World} (n : Nat) (h : RelX C φ F0 F1 σ a w) (hus : ∀ d, σ.us d = true → d < n) : RelX C φ F0 F1 { σ with us := fun _ => false, nx := σ.nx + n } a w := by
  refine ⟨h.size, h.defs, h.frame, h.heap, h.inj, h.apart, h.sub, h.ini, h.new1, h.lt0, h.os, h.tape, h.output, h.big, h.kept, h.k0lt, h.gbig, h.glob, h.keep, by have := h.nx1; simp only; omega, fun i hi => ?_, h.ghost⟩
  left
  rcases h.ids i hi with h0 | ⟨d, hd, h0⟩
  · simp; omega
  · have := hus d hd
    simp; omega
noncomputable def ltAll (n : Nat) (l : List Nat) : Bool := List.rec (motive := fun _ => Bool) true (fun a _ ih => cond (Nat.blt a n) ih false) l
theorem ltAll_ok {n : Nat} : ∀ {l : List Nat}, ltAll n l = true → ∀ d, memN d l = true → d < n
  | [], _, d, hd => by cases hd
  | a :: l, h, d, hd => by
    have h : cond (Nat.blt a n) (ltAll n l) false = true := h
    cases hb : Nat.blt a n with
    | false => rw [hb] at h; cases h
    | true =>
      rw [hb] at h
      rcases List.mem_cons.1 (memN_iff.1 hd) with rfl | hm
      · exact Nat.le_of_ble_eq_true hb
      · exact ltAll_ok h d (memN_iff.2 hm)
noncomputable def tidyS (nt : Nat) (s : S) : Option S :=
  match s with
  | ⟨fr, H, us, nx, al⟩ => cond al (cond (ltAll nt us) (cond (Nat.beq (Nat.add nx nt) 0) none (some ⟨fr, H, [], Nat.add nx nt, false⟩)) none) (some ⟨fr, H, us, nx, al⟩)
theorem tidyS_ok {g : Nat → Option PV} {C : Ctx} {nt : Nat} {s s' : S} (h : tidyS nt s = some s') : Wk C (s.absG g) (s'.absG g) := by
  obtain ⟨fr, H, us, nx, al⟩ := s
  unfold tidyS at h
  simp only at h
  cases al with
  | false => cases h; exact fun _ _ _ _ r => r
  | true =>
    simp only [cond_true] at h
    cases hu : ltAll nt us with
    | false => rw [hu] at h; cases h
    | true =>
      rw [hu] at h
      cases hz : Nat.beq (Nat.add nx nt) 0 with
      | true => rw [hz] at h; cases h
      | false =>
        rw [hz] at h
        cases h
        rintro C₁ _ a w ⟨φ, F0, F1, r⟩
        exact ⟨φ, F0, F1, r.nextN nt (ltAll_ok hu)⟩
end Go.Vm
end
