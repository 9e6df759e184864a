/-
  Abstract states over the model's worlds, and that a step of them is a step of the program: part VmAH of a framework. Conditions: each theorem's own premises. By an AI agent.
-/
import Derived.Test.YtahbpfahgggjhaaGreatVmAG
import Derived.OrdersIn
section
namespace Go.Vm
open Go Go.RowKit
set_option linter.unusedVariables false
section
variable {C : Ctx} {φ φ' : Id → Option Value} {F : Bool → Nat → Prop} {F0 F1 : Nat → Prop} {σ : St} {a : Act} {w w' : World} {P : Program} {ops : List Oper} {D : List (List Nat)} {Us : List Upd}

theorem collect_congr {nx : Nat} {v : Nat → Bool} : ∀ (Us Us' : List Upd) (k : Nat), (∀ j, v (k + j) = true → Us'[j]? = Us[j]?) → collect nx v k Us' = collect nx v k Us
  | [], [], k, h => rfl
  | [], U' :: Us', k, h => by
    have h0 : v k = false := by
      cases hv : v k with
      | false => rfl
      | true => have := h 0 hv; simp at this
    simp only [collect, h0, Bool.false_eq_true, if_false, List.nil_append]
    exact collect_congr [] Us' (k + 1) fun j hj => by have := h (j + 1) (by rwa [Nat.add_comm j 1, ← Nat.add_assoc]); simpa using this
  | U :: Us, [], k, h => by
    have h0 : v k = false := by
      cases hv : v k with
      | false => rfl
      | true => have := h 0 hv; simp at this
    simp only [collect, h0, Bool.false_eq_true, if_false, List.nil_append]
    exact collect_congr Us [] (k + 1) fun j hj => by have := h (j + 1) (by rwa [Nat.add_comm j 1, ← Nat.add_assoc]); simpa using this
  | U :: Us, U' :: Us', k, h => by
    simp only [collect]
    rw [collect_congr Us Us' (k + 1) fun j hj => by have := h (j + 1) (by rwa [Nat.add_comm j 1, ← Nat.add_assoc]); simpa using this]
    cases hv : v k with
    | false => rfl
    | true => have := h 0 hv; simp at this; rw [this]

theorem frAt_congr {nx : Nat} {v late : Nat → Bool} {fr : Nat → Option PV} {t : Nat} : ∀ (ops : List Oper) (Us Us' : List Upd) (k : Nat), (∀ j, v (k + j) = true → Us'[j]? = Us[j]?) → frAt nx v late fr k ops Us' t = frAt nx v late fr k ops Us t
  | [], _, _, _, _ => rfl
  | o :: ops, Us, Us', k, h => by
    simp only [frAt]
    rw [frAt_congr ops Us.tail Us'.tail (k + 1) fun j hj => by have := h (j + 1) (by rwa [Nat.add_comm j 1, ← Nat.add_assoc]); cases Us <;> cases Us' <;> simp at this ⊢ <;> try exact this]
    cases hv : v k with
    | false => rfl
    | true =>
      have h0 := h 0 hv
      have : Us'.head? = Us.head? := by rw [List.head?_eq_getElem?, List.head?_eq_getElem?]; exact h0
      rw [this]

theorem told_op (T : Told C ops D σ Us) {k : Nat} {o : Oper} {U : Upd} (ho : ops[k]? = some o) (hU : Us[k]? = some U) :
    ∃ fr Hv, (∀ t p, fr t = some p → frAt σ.nx (isDep D · k) (isDep D k) σ.fr 0 ops Us t = some p) ∧ (∀ i b, Hv i = some b → HAt σ ops D Us k (reads o.op) i = some b) ∧ OpG C ops σ.nx fr Hv o.guard o.dst o.op U ∧ U.fresh σ := by
  obtain ⟨Us', fr, Hv, hp, hfr, hH, hop, hf⟩ := T.op k o U ho hU
  have hv : ∀ j, isDep D (0 + j) k = true → Us'[j]? = Us[j]? := fun j hj => hp j (dep_lt T.deps k o ho j (by simpa using hj))
  have e1 : frAt σ.nx (isDep D · k) (isDep D k) σ.fr 0 ops Us' = frAt σ.nx (isDep D · k) (isDep D k) σ.fr 0 ops Us := funext fun t => frAt_congr ops Us Us' 0 hv
  have e2 : HAt σ ops D Us' k (reads o.op) = HAt σ ops D Us k (reads o.op) := by
    funext i
    unfold HAt
    rw [collect_congr (v := (isDep D · k)) Us Us' 0 hv]
  rw [e1] at hfr
  rw [e2] at hH
  exact ⟨fr, Hv, hfr, hH, hop, hf⟩
theorem told_chg (T : Told C ops D σ Us) {k : Nat} {o : Oper} {U : Upd} (ho : ops[k]? = some o) (hU : Us[k]? = some U) :
    U.dst = o.dst ∧ ∀ c ∈ U.chg σ.nx, (∃ t, U.tag = some t ∧ c.1.1 = σ.nx + t) ∨ (HAt σ ops D Us k (reads o.op) c.1 ≠ none ∧ U.isM = true ∧ reads o.op = true) := by
  obtain ⟨fr, Hv, _, hH, hop, _⟩ := told_op T ho hU
  obtain ⟨h1, h2⟩ := opG_chg hop
  refine ⟨h1, fun c hc => (h2 c hc).imp id fun ⟨h3, h4⟩ => ⟨fun e => h3 ?_, h4⟩⟩
  cases hv : Hv c.1 with
  | none => rfl
  | some b => rw [hH _ _ hv] at e; cases e

theorem upd_of (T : Told C ops D σ Us) {k : Nat} {o : Oper} (ho : ops[k]? = some o) : ∃ U, Us[k]? = some U := by
  have := (List.getElem?_eq_some_iff.1 ho).1
  exact ⟨_, List.getElem?_eq_getElem (by rw [T.len]; exact this)⟩

theorem oper_of (T : Told C ops D σ Us) {k : Nat} {U : Upd} (hU : Us[k]? = some U) : ∃ o, ops[k]? = some o := by
  have := (List.getElem?_eq_some_iff.1 hU).1
  exact ⟨_, List.getElem?_eq_getElem (by rw [← T.len]; exact this)⟩

theorem load_isM {nx : Nat} {fr : Nat → Option PV} {ops : List Oper} {D : List (List Nat)} {Us : List Upd} {k : Nat} {op : Op} {i : Id} {ρ : Operand → Option PV} {H : Id → Option Blk} {d : Option Nat} {U : Upd} (hp : ptrAt nx fr ops D Us k op = some i) (hU : OpU C nx ρ H d op U) : U.isM = false := by
  cases op with
  | load t x =>
    unfold OpU at hU
    simp only [opK, vAddK, addK] at hU
    split at hU
    · split at hU
      · subst hU; rfl
      · rw [← hU.2]; rfl
    · split at hU
      · exact hU.elim
      · rw [← hU.2]; rfl
    · exact hU.elim
  | _ => simp [ptrAt] at hp
theorem ev_le {fr fr' : Nat → Option PV} (h : ∀ t p, fr t = some p → fr' t = some p) {x : Operand} {p : PV} (hx : ev fr x = some p) : ev fr' x = some p := by
  cases x with
  | tmp t => exact h t p hx
  | const v => exact hx
  | func f => exact hx
  | global g => exact hx
/-- A load only looks at its own block. -/
theorem load_only {nx : Nat} {fr fr' : Nat → Option PV} {ops : List Oper} {D : List (List Nat)} {Us : List Upd} {k : Nat} {op : Op} {i : Id} {H : Id → Option Blk} {d : Option Nat} {U : Upd} (hle : ∀ t p, fr' t = some p → frAt nx (isDep D · k) (isDep D k) fr 0 ops Us t = some p) (hp : ptrAt nx fr ops D Us k op = some i)
    (hU : OpU C nx (ev fr') H d op U) : OpU C nx (ev fr') (fun j => if j = i then H j else none) d op U := by
  cases op with
  | load t x =>
    simp only [ptrAt] at hp
    split at hp
    · rename_i j off hx
      cases hp
      have e : vAll C.P (nx + d.getD 0, 0) (ev fr') (fun j => if j = i then H j else none) (.load t x) = vAll C.P (nx + d.getD 0, 0) (ev fr') H (.load t x) := by
        cases hx' : ev fr' x with
        | none => simp only [vAll, vAdd, vMore, hx', Option.bind_none]
        | some q =>
          have := ev_le hle hx'
          rw [hx] at this
          cases this
          simp only [vAll, vAdd, vMore, hx', Option.bind_some, behind, if_true]
      unfold OpU at hU ⊢
      simp only [opK, vAddK] at hU ⊢
      rw [e]
      exact hU
    · cases hp
  | _ => simp [ptrAt] at hp
theorem load_onlyG {nx : Nat} {fr fr' : Nat → Option PV} {ops : List Oper} {D : List (List Nat)} {Us : List Upd} {k : Nat} {op : Op} {i : Id} {H : Id → Option Blk} {g : Option (Nat × Bool)} {d : Option Nat} {U : Upd} (hle : ∀ t p, fr' t = some p → frAt nx (isDep D · k) (isDep D k) fr 0 ops Us t = some p) (hp : ptrAt nx fr ops D Us k op = some i)
    (hU : OpG C ops nx fr' H g d op U) : OpG C ops nx fr' (fun j => if j = i then H j else none) g d op U := by
  unfold OpG at *
  cases g with
  | none => exact load_only hle hp hU
  | some gw =>
    obtain ⟨g, want⟩ := gw
    simp only [gK] at hU ⊢
    split at hU
    · split at hU
      · rename_i hv
        rw [if_pos hv]
        exact load_only hle hp hU
      · rename_i hv
        rw [if_neg hv]
        exact hU
    · exact hU.elim

/-- What a name that an operation changes can be, as another sees it. -/
theorem apart_names (T : Told C ops D σ Us) {j k : Nat} {o o' : Oper} {U V : Upd} (hj : ops[j]? = some o) (hU : Us[j]? = some U) (hk : ops[k]? = some o') (hV : Us[k]? = some V) (hne : j ≠ k) (h1 : isDep D j k = false) (h2 : isDep D k j = false) :
    ∀ c ∈ U.chg σ.nx, ∀ e ∈ V.chg σ.nx, c.1 ≠ e.1 := by
  intro c hc e he heq
  obtain ⟨hud, huc⟩ := told_chg T hj hU
  obtain ⟨hvd, hvc⟩ := told_chg T hk hV
  have hm : ∀ {q : Nat} {rd : Bool} {i : Id}, HAt σ ops D Us q rd i ≠ none → masked σ.nx D q 0 ops i = false := by
    intro q rd i h
    unfold HAt at h
    cases rd with
    | false => simp at h
    | true =>
      cases hm : masked σ.nx D q 0 ops i with
      | false => rfl
      | true => simp [hm] at h
  rcases huc c hc with ⟨t, ht, hct⟩ | ⟨hcn, hcM, hcr⟩ <;> rcases hvc e he with ⟨t', ht', het⟩ | ⟨hen, heM, her⟩
  · have : t = t' := by rw [heq] at hct; omega
    subst this
    exact hne (dstsOk_spec T.dsts hj hk (by rw [← hud]; exact tag_dst ht) (by rw [← hvd]; exact tag_dst ht'))
  · have := masked_spec ops 0 (hm hen) j o t hj (by rw [← hud]; exact tag_dst ht) (by simpa using h1) (by omega)
    exact this (by rw [← heq]; exact hct)
  · have := masked_spec ops 0 (hm hcn) k o' t' hk (by rw [← hvd]; exact tag_dst ht') (by simpa using h2) (by omega)
    exact this (by rw [heq]; exact het)
  · rcases orderX_spec T.order hU hk (List.getElem?_eq_some_iff.1 hj).1 hcM her hne with (h | h) | h
    · rw [h1] at h; cases h
    · rw [h2] at h; cases h
    · rcases h c hc with h3 | ⟨i, hp, _⟩
      · rw [heq, hm hen] at h3
        cases h3
      · obtain ⟨_, _, _, _, hop0, _⟩ := told_op T hk hV
        rcases opG_cases hop0 with hop | hop
        · rw [load_isM hp hop] at heM
          cases heM
        · rw [hop] at he
          simp [Upd.chg] at he

theorem frAt_get (T : Told C ops D σ Us) {S late : Nat → Bool} {t : Nat} : (∃ j o U, ops[j]? = some o ∧ Us[j]? = some U ∧ o.dst = some t ∧ frAt σ.nx S late σ.fr 0 ops Us t = if S j then U.v σ.nx else if late j then σ.fr t else none) ∨
    ((∀ (j : Nat) (o : Oper), ops[j]? = some o → o.dst ≠ some t) ∧ frAt σ.nx S late σ.fr 0 ops Us t = σ.fr t) := by
  by_cases h : ∃ (j : Nat) (o : Oper), ops[j]? = some o ∧ o.dst = some t
  · obtain ⟨j, o, ho, hd⟩ := h
    obtain ⟨U, hU⟩ := upd_of T ho
    refine .inl ⟨j, o, U, ho, hU, hd, ?_⟩
    rw [frAt_hit ops 0 Us j o ho hd fun i o' hi ho' hd' => absurd (dstsOk_spec T.dsts ho' ho hd' hd) (by omega)]
    simp [hU]
  · refine .inr ⟨fun j o ho hd => h ⟨j, o, ho, hd⟩, frAt_miss ops 0 Us fun j o ho hd => h ⟨j, o, ho, hd⟩⟩

/-- One more operation comes up. -/
theorem behind_step (T : Told C ops D σ Us) {S : Nat → Bool} {k : Nat} {o : Oper} {U : Upd} (ho : ops[k]? = some o) (hU : Us[k]? = some U) (hS : Shut ops S) (hk : S k = false) (hr : ∀ e ∈ o.after, Region.binds .any e = true → S e.on = true)
    (hR : Rel C (σ.behind ops Us S) a w) {K : Act → World → Prop} {Q : Exit → Act → World → Prop} (hK : ∀ a' w', Rel C (σ.behind ops Us fun j => j == k || S j) a' w' → K a' w') : if Region.wanted o (yielded ops.toArray a.tmps) then o.wpIn (fz C) 0 C.P a w K Q else (∀ f, o.about C.P w a.eval = some f → (fz C).fn f) ∧ K (a.put o.dst undef) w := by
  obtain ⟨frv, Hv0, hfrv, hHv0, hop, hf⟩ := told_op T ho hU
  obtain ⟨hud, huc⟩ := told_chg T ho hU
  have hdep := dep_in T.deps hS k o ho hr
  obtain ⟨φ, F0, F1, h⟩ := hR
  -- what another operation of S that k does not wait for has changed
  have hoth : ∀ j V, Us[j]? = some V → S j = true → isDep D j k = false → j ≠ k ∧ ∃ o', ops[j]? = some o' ∧ isDep D k j = false := by
    intro j V hV hj hd
    obtain ⟨o', ho'⟩ := oper_of T hV
    refine ⟨(by rintro rfl; rw [hk] at hj; cases hj), o', ho', ?_⟩
    cases hkj : isDep D k j with
    | false => rfl
    | true =>
      have := dep_in T.deps hS j o' ho' (hS j o' ho' hj) k hkj
      rw [hk] at this; cases this
  have hHle0 : ∀ {i b}, (∀ i', ptrAt σ.nx σ.fr ops D Us k o.op = some i' → i = i') → HAt σ ops D Us k (reads o.op) i = some b → (σ.behind ops Us S).H i = some b := by
    intro i b hpi hi
    unfold HAt at hi
    split at hi
    · rename_i hrd
      split at hi
      · cases hi
      · rename_i hm
        simp only [St.behind]
        rw [← hi, applyC_at i _ σ.H σ.H rfl, applyC_at i (collect σ.nx (isDep D · k) 0 Us) σ.H σ.H rfl]
        rw [collect_at i (v := S) (v' := (isDep D · k)) Us 0 ?_]
        intro j V hV hne c hc hci
        simp only [Nat.zero_add] at hne
        have hdj : isDep D j k = false := by
          cases hd : isDep D j k with
          | false => rfl
          | true => rw [hdep j hd, hd] at hne; exact absurd rfl hne
        have hSj : S j = true := by
          cases hs : S j with
          | true => rfl
          | false => rw [hs, hdj] at hne; exact absurd rfl hne
        obtain ⟨hjk, o', ho', hkj⟩ := hoth j V hV hSj hdj
        obtain ⟨hvd, hvc⟩ := told_chg T ho' hV
        rcases hvc c hc with ⟨t, ht, hct⟩ | ⟨_, hM, _⟩
        · have := masked_spec ops 0 (by simpa using hm) j o' t ho' (by rw [← hvd]; exact tag_dst ht) (by simpa using hdj) (by omega)
          exact this (by rw [← hci]; exact hct)
        · rcases orderX_spec T.order hV ho (List.getElem?_eq_some_iff.1 ho').1 hM hrd hjk with (h' | h') | h'
          · rw [hdj] at h'; cases h'
          · rw [hkj] at h'; cases h'
          · rcases h' c hc with h3 | ⟨i', hp, hne'⟩
            · rw [hci] at h3
              exact hm h3
            · exact hne' (hci.trans (hpi i' hp))
    · cases hi
  obtain ⟨Hv, hop, hHle⟩ : ∃ Hv, OpG C ops σ.nx frv Hv o.guard o.dst o.op U ∧ ∀ {i b}, Hv i = some b → (σ.behind ops Us S).H i = some b := by
    cases hp : ptrAt σ.nx σ.fr ops D Us k o.op with
    | none => exact ⟨_, hop, fun {i b} hi => hHle0 (fun i' h' => by rw [hp] at h'; cases h') (hHv0 _ _ hi)⟩
    | some i' =>
      refine ⟨_, load_onlyG hfrv hp hop, fun {i b} hi => ?_⟩
      split at hi
      · rename_i hii
        exact hHle0 (fun i2 h2 => by rw [hp] at h2; cases h2; exact hii) (hHv0 _ _ hi)
      · cases hi
  have hfrle : ∀ t p, frAt σ.nx (isDep D · k) (isDep D k) σ.fr 0 ops Us t = some p → frAt σ.nx S (fun _ => true) σ.fr 0 ops Us t = some p := by
    intro t p hp
    rcases frAt_get T (S := (isDep D · k)) (late := isDep D k) (t := t) with ⟨j, o', V, ho', hV, hd, he⟩ | ⟨hno, he⟩
    · rw [he] at hp
      split at hp
      · rename_i hdj
        rw [frAt_hit ops 0 Us j o' ho' hd fun i o'' hi ho'' hd' => absurd (dstsOk_spec T.dsts ho'' ho' hd' hd) (by omega)]
        simp only [Nat.zero_add, hdep j hdj, if_true, hV, Option.bind_some]
        exact hp
      · rename_i hdj
        split at hp
        · rename_i hkj
          rw [frAt_hit ops 0 Us j o' ho' hd fun i o'' hi ho'' hd' => absurd (dstsOk_spec T.dsts ho'' ho' hd' hd) (by omega)]
          have hSj : S j = false := by
            cases hSj : S j with
            | false => rfl
            | true =>
              obtain ⟨_, _, _, h3⟩ := hoth j V hV hSj (by simpa using hdj)
              rw [hkj] at h3; cases h3
          simp only [Nat.zero_add, hSj, Bool.false_eq_true, if_false, if_true]
          exact hp
        · cases hp
    · rw [he] at hp
      rw [frAt_miss ops 0 Us hno]
      exact hp
  have V : View φ w (Fs F0 F1) a (σ.behind ops Us S) (ev frv) Hv := by
    refine ⟨fun {x p} hx => ?_, hHle⟩
    exact ev_rep h (x := x) (ev_le (fun t p hp => hfrle t p (hfrv t p hp)) hx)
  have hfS : U.fresh (σ.behind ops Us S) := by
    rw [fresh_iff] at hf ⊢
    intro d hd
    simp only [St.behind, hf d hd, Bool.false_or, List.any_eq_false, List.mem_range]
    intro j hj hcon
    simp only [Bool.and_eq_true, Option.any_eq_true, beq_iff_eq] at hcon
    obtain ⟨hSj, W, hW, hWt⟩ := hcon
    obtain ⟨o', ho'⟩ := oper_of T hW
    obtain ⟨hwd, _⟩ := told_chg T ho' hW
    have := dstsOk_spec T.dsts ho' ho (by rw [← hwd]; exact tag_dst hWt) (by rw [← hud]; exact tag_dst hd)
    subst this
    rw [hk] at hSj; cases hSj
  have hnext : ∀ a' w', Rel C (U.app (σ.behind ops Us S)) a' w' → K a' w' := fun a' w' hR' => hK a' w' (Rel.of_le (σ := U.app (σ.behind ops Us S)) (τ := σ.behind ops Us fun j => j == k || S j) ⟨?_, ?_, ?_, app_nx (σ.behind ops Us S) U, fun t p hp => by rw [app_gh]; exact hp⟩ hR')
  · have run : OpU C σ.nx (ev frv) Hv o.dst o.op U → o.wpIn (fz C) 0 C.P a w K Q := fun hop => fz_op (fun c e => by rw [e] at hop; exact opK_defer hop) (opU_sound h V hop hfS hnext)
    unfold OpG at hop
    cases hg : o.guard with
    | none =>
      rw [hg] at hop
      rw [if_pos (by simp [Region.wanted, hg])]
      exact run hop
    | some gw =>
      obtain ⟨g, want⟩ := gw
      rw [hg] at hop
      simp only [gK] at hop
      split at hop
      · rename_i v hv
        have hv' : gslot ops (σ.behind ops Us S).fr g = some v := by
          unfold gslot at hv
          split at hv
          · rename_i t ht
            have e : gslot ops (σ.behind ops Us S).fr g = gval ((σ.behind ops Us S).fr t) := by unfold gslot; rw [ht]
            rw [e]
            cases hp : frv t with
            | none => rw [hp] at hv; simp [gval] at hv
            | some p =>
              rw [hp] at hv
              show gval (frAt σ.nx S (fun _ => true) σ.fr 0 ops Us t) = some v
              rw [hfrle t p (hfrv t p hp)]
              exact hv
          · cases hv
        have hy := yielded_of h hv'
        split at hop
        · rename_i hvw
          rw [if_pos (by simp [Region.wanted, hg, hy, hvw])]
          exact run hop
        · rename_i hvw
          rw [if_neg (by simp [Region.wanted, hg, hy, hvw])]
          refine ⟨fun _ _ => trivial, hnext _ _ ?_⟩
          have := h.skip hop.1
          obtain ⟨_, rfl⟩ := hop
          cases hd : o.dst with
          | none => rw [hd] at this; exact ⟨φ, F0, F1, this⟩
          | some d => rw [hd] at this; exact ⟨φ, F0, F1, this⟩
      · exact hop.elim
  · intro t p hp
    simp only [St.behind] at hp
    rw [app_fr]
    rcases frAt_get T (S := fun j => j == k || S j) (late := fun _ => true) (t := t) with ⟨j, o', V', ho', hV', hd, he⟩ | ⟨hno, he⟩
    · rw [he] at hp
      split at hp
      · rename_i hjS
        by_cases hjk : j = k
        · subst hjk
          rw [ho] at ho'; cases ho'
          rw [hU] at hV'; cases hV'
          rw [if_pos (by rw [hud]; exact hd)]
          exact hp
        · have hne : U.dst ≠ some t := by
            rw [hud]; intro hd'
            exact hjk (dstsOk_spec T.dsts ho' ho hd hd')
          rw [if_neg hne]
          have hSj : S j = true := by simpa [hjk] using hjS
          simp only [St.behind]
          rw [frAt_hit ops 0 Us j o' ho' hd fun i o'' hi ho'' hd' => absurd (dstsOk_spec T.dsts ho'' ho' hd' hd) (by omega)]
          simp only [Nat.zero_add, hSj, if_true, hV', Option.bind_some]
          exact hp
      · rename_i hjS
        simp only [Bool.or_eq_true, beq_iff_eq, not_or, Bool.not_eq_true] at hjS
        have hne : U.dst ≠ some t := by
          rw [hud]; intro hd'
          exact hjS.1 (dstsOk_spec T.dsts ho' ho hd hd')
        rw [if_neg hne]
        simp only [St.behind]
        rw [frAt_hit ops 0 Us j o' ho' hd fun i o'' hi ho'' hd' => absurd (dstsOk_spec T.dsts ho'' ho' hd' hd) (by omega)]
        simp only [Nat.zero_add, hjS.2, Bool.false_eq_true, if_false, if_true] at hp ⊢
        exact hp
    · rw [he] at hp
      rw [if_neg (by rw [hud]; exact hno k o ho)]
      simp only [St.behind]
      rw [frAt_miss ops 0 Us hno]
      exact hp
  · intro i b hb
    rw [app_H]
    simp only [St.behind] at hb ⊢
    rw [collect_add (S := S) (S' := fun j => j == k || S j) i Us 0 k σ.H hU (by simpa using hk) (by simp) (fun j hj => by simp [hj]) ?_]
    · exact hb
    · intro j V' hj hV' hSj c hc e he
      simp only [Nat.zero_add] at hSj
      have hdj : isDep D j k = false := by
        cases hd : isDep D j k with
        | false => rfl
        | true => have := dep_lt T.deps k o ho j hd; omega
      obtain ⟨hjk, o', ho', hkj⟩ := hoth j V' hV' hSj hdj
      exact apart_names T ho' hV' ho hU hjk hdj hkj c hc e he
  · intro d hd
    rw [app_us] at hd
    simp only [St.behind, Bool.or_eq_true, List.any_eq_true, List.mem_range, Bool.and_eq_true] at hd ⊢
    rcases hd with (hd | ⟨j, hj, hSj, ht⟩) | hd
    · exact .inl hd
    · exact .inr ⟨j, hj, .inr hSj, ht⟩
    · refine .inr ⟨k, (List.getElem?_eq_some_iff.1 hU).1, .inl (by simp), ?_⟩
      rw [hU]; simpa using hd

theorem collect_none {nx : Nat} : ∀ (Us : List Upd) (k : Nat), collect nx (fun _ => false) k Us = []
  | [], _ => rfl
  | U :: Us, k => by simp [collect, collect_none Us (k + 1)]

theorem foldl_gh : ∀ (Us : List Upd) (σ : St), (Us.foldl Upd.app σ).gh = σ.gh
  | [], _ => rfl
  | U :: Us, σ => by rw [List.foldl_cons, foldl_gh Us, app_gh]

/-- Behind all of them: as in text order. -/
theorem behind_all (T : Told C ops D σ Us) {S : Nat → Bool} (hS : ∀ j, j < ops.length → S j = true) (hS' : ∀ j, ops.length ≤ j → S j = false) : Wk C (σ.behind ops Us S) (Us.foldl Upd.app σ) := by
  have hSe : S = fun j => decide (j < Us.length) := by
    funext j
    rw [T.len]
    by_cases h : j < ops.length
    · rw [hS j h]; simp [h]
    · rw [hS' j (by omega)]; simp [h]
  -- the first m of them
  have key : ∀ m, m ≤ Us.length → (∀ t p, (∀ (j : Nat) (o : Oper), m ≤ j → ops[j]? = some o → o.dst ≠ some t) → ((Us.take m).foldl Upd.app σ).fr t = some p → frAt σ.nx (fun j => decide (j < m)) (fun _ => true) σ.fr 0 ops Us t = some p) ∧
      (∀ i b, ((Us.take m).foldl Upd.app σ).H i = some b → applyC σ.H (collect σ.nx (fun j => decide (j < m)) 0 Us) i = some b) ∧
      (∀ d, (σ.us d = true ∨ ∃ j, j < m ∧ (Us[j]?).any (·.tag == some d) = true) → ((Us.take m).foldl Upd.app σ).us d = true) ∧ ((Us.take m).foldl Upd.app σ).nx = σ.nx := by
    intro m
    induction m with
    | zero =>
      intro _
      refine ⟨fun t p hno hp => ?_, fun i b hb => ?_, fun d hd => ?_, rfl⟩
      · rw [frAt_miss ops 0 Us fun j o ho => hno j o (Nat.zero_le _) ho]
        simpa using hp
      · simp only [Nat.not_lt_zero, decide_false, collect_none]
        simpa [applyC] using hb
      · rcases hd with hd | ⟨j, hj, _⟩
        · simpa using hd
        · omega
    | succ m ih =>
      intro hm
      obtain ⟨ih1, ih2, ih3, ih4⟩ := ih (by omega)
      have hU : Us[m]? = some Us[m] := List.getElem?_eq_getElem (by omega)
      generalize Us[m] = U at hU
      obtain ⟨o, ho⟩ := oper_of T hU
      obtain ⟨hud, huc⟩ := told_chg T ho hU
      rw [List.take_add_one, hU]
      simp only [Option.toList_some, List.foldl_append, List.foldl_cons, List.foldl_nil]
      refine ⟨fun t p hno hp => ?_, fun i b hb => ?_, fun d hd => ?_, ?_⟩
      · rw [app_fr, ih4] at hp
        split at hp
        · rename_i hd
          rw [frAt_hit ops 0 Us m o ho (by rw [← hud]; exact hd) fun i o' hi ho' hd' => absurd (dstsOk_spec T.dsts ho' ho hd' (by rw [← hud]; exact hd)) (by omega)]
          simp [hU, hp]
        · rename_i hd
          have h1 := ih1 t p (fun j o' hj ho' => by
            rcases Nat.eq_or_lt_of_le hj with rfl | hj
            · rw [ho] at ho'; cases ho'; rw [← hud]; exact hd
            · exact hno j o' hj ho') hp
          rcases frAt_get T (S := fun j => decide (j < m)) (late := fun _ => true) (t := t) with ⟨j, o', V', ho', hV', hd', he⟩ | ⟨hno', he⟩
          · rw [he] at h1
            split at h1
            · rename_i hjm
              rw [frAt_hit ops 0 Us j o' ho' hd' fun i o'' hi ho'' hd'' => absurd (dstsOk_spec T.dsts ho'' ho' hd'' hd') (by omega)]
              have : j < m + 1 := by have := of_decide_eq_true hjm; omega
              simp [this, hV', h1]
            · rename_i hjm
              have hjm' : m ≤ j := by simpa using hjm
              rcases Nat.eq_or_lt_of_le hjm' with rfl | hlt
              · rw [ho] at ho'; cases ho'; rw [hud] at hd; exact absurd hd' hd
              · exact absurd hd' (hno j o' hlt ho')
          · rw [he] at h1
            rw [frAt_miss ops 0 Us hno']
            exact h1
      · rw [app_H, ih4] at hb
        have := applyC_mono (U.chg σ.nx) ih2 i b hb
        rw [collect_add (S := fun j => decide (j < m)) (S' := fun j => decide (j < m + 1)) i Us 0 m σ.H hU (by simp) (by simp) (fun j hj => by simp; omega) (fun j V hj _ hs => by simp at hs; omega)] at this
        exact this
      · rw [app_us]
        rcases hd with hd | ⟨j, hj, ht⟩
        · rw [ih3 d (.inl hd)]; rfl
        · rcases Nat.eq_or_lt_of_le (Nat.lt_succ_iff.1 hj) with rfl | hj
          · rw [hU] at ht
            simp only [Option.any_some] at ht
            rw [ht]; simp
          · rw [ih3 d (.inr ⟨j, hj, ht⟩)]; rfl
      · rw [app_nx]; exact ih4
  obtain ⟨h1, h2, h3, h4⟩ := key Us.length (Nat.le_refl _)
  rw [List.take_length] at h1 h2 h3 h4
  refine Wk.of_le ⟨fun t p hp => ?_, fun i b hb => ?_, fun d hd => ?_, h4.symm, fun t p hp => by rw [foldl_gh] at hp; exact hp⟩
  · simp only [St.behind, hSe]
    exact h1 t p (fun j o hj ho => by have := (List.getElem?_eq_some_iff.1 ho).1; rw [T.len] at hj; omega) hp
  · simp only [St.behind, hSe]
    exact h2 i b hb
  · simp only [St.behind, Bool.or_eq_true, List.any_eq_true, List.mem_range, Bool.and_eq_true] at hd
    refine h3 d (hd.imp id ?_)
    rintro ⟨j, hj, _, ht⟩
    exact ⟨j, hj, ht⟩

theorem Rel.drawn (h : Rel C σ a w) : Rel C σ a { w with drawn := w.drawn + 1 } := by
  obtain ⟨φ, F0, F1, h⟩ := h
  exact ⟨φ, F0, F1, h.below ⟨rfl, rfl, rfl, Nat.le_refl _, fun _ _ => rfl⟩⟩

theorem region_any {id : Nat} {Q : St → Prop} {Q' : Exit → Act → World → Prop} (hm : C.P.follows .mixedOrders = true) (hQ : ∀ σ a w, Rel C σ a w → Q σ → Q' .normal a w) (hd : depOk ops D = true) (hs : dstsOk ops = true)
    (h : Rel C σ a w) (hr : ∃ Us, Told C ops D σ Us ∧ Q (Us.foldl Upd.app σ)) : (Code.region id ops.toArray true).wpIn (fz C) 0 C.P Q' a w := by
  obtain ⟨Us, T, hq⟩ := hr
  have done : ∀ (listed : Array Bool), listed.size = ops.length → Region.ready .any ops.toArray listed = [] → ∀ j, j < ops.length → listed.getD j false = true := by
    intro listed hsz hrd j
    induction j using Nat.strongRecOn with
    | _ j ih =>
      intro hj
      apply Classical.byContradiction
      intro hne
      have ho : ops[j]? = some ops[j] := List.getElem?_eq_getElem hj
      have : j ∈ Region.ready .any ops.toArray listed := by
        refine mem_ready.2 ⟨?_, ops[j], by simp [ho], fun e he hb => ?_⟩
        · have hj' : j < listed.size := by omega
          simp only [Array.getD_eq_getD_getElem?, Array.getElem?_eq_getElem hj', Option.getD_some] at hne ⊢
          simpa using hne
        · have := (depOk_spec hd ho).1 e he hb
          exact ih e.on this (by omega)
      rw [hrd] at this
      cases this
  have key : ∀ (fuel : Nat) (listed : Array Bool) (a : Act) (w : World), listed.size = ops.length → listed.toList.count false = fuel → Shut ops (fun j => listed.getD j false) → Rel C (σ.behind ops Us fun j => listed.getD j false) a w →
      wpAnyIn (fz C) 0 C.P .any ops.toArray Q' fuel listed a w := by
    intro fuel
    have fin : ∀ (listed : Array Bool) (a : Act) (w : World), listed.size = ops.length → Rel C (σ.behind ops Us fun j => listed.getD j false) a w → Region.ready .any ops.toArray listed = [] → Q' .normal a w := by
      intro listed a w hsz hR hrd
      refine hQ _ _ _ (behind_all T (done listed hsz hrd) (fun j hj => ?_) C (.refl _) a w hR) hq
      simp [Array.getD_eq_getD_getElem?, Array.getElem?_eq_none (show listed.size ≤ j by omega)]
    induction fuel with
    | zero =>
      intro listed a w hsz hc hsh hR
      have hrd : Region.ready .any ops.toArray listed = [] := by
        cases hrd : Region.ready .any ops.toArray listed with
        | nil => rfl
        | cons j l =>
          have hj : j ∈ Region.ready .any ops.toArray listed := by rw [hrd]; simp
          have h0 := (mem_ready.1 hj).1
          obtain ⟨o, ho, _⟩ := (mem_ready.1 hj).2
          have hj' : j < listed.size := by
            have := (Array.getElem?_eq_some_iff.1 ho).1
            simp at this; omega
          simp only [Array.getD_eq_getD_getElem?, Array.getElem?_eq_getElem hj', Option.getD_some] at h0
          have := List.count_pos_iff.2 (show false ∈ listed.toList by rw [← h0]; simp)
          omega
      exact ⟨hrd, fin listed a w hsz hR hrd⟩
    | succ fuel ih =>
      intro listed a w hsz hc hsh hR
      refine ⟨fin listed a w hsz hR, fun j hj => ?_⟩
      obtain ⟨h0, o, ho, hall⟩ := mem_ready.1 hj
      have ho' : ops[j]? = some o := by simpa using ho
      have hjl := (List.getElem?_eq_some_iff.1 ho').1
      have hj' : j < listed.size := by omega
      obtain ⟨U, hU⟩ := upd_of T ho'
      have hjf : listed.getD j false = false := by
        simp only [Array.getD_eq_getD_getElem?, Array.getElem?_eq_getElem hj', Option.getD_some] at h0 ⊢
        exact h0
      have hset : ∀ i, (listed.setIfInBounds j true).getD i false = (i == j || listed.getD i false) := by
        intro i
        by_cases hij : i = j
        · subst hij
          simp [Array.getD_eq_getD_getElem?, Array.getElem?_setIfInBounds_self_of_lt hj']
        · simp [Array.getD_eq_getD_getElem?, Array.getElem?_setIfInBounds_ne (Ne.symm hij), hij]
      unfold wpOpIn
      rw [show ops.toArray[j]? = some o from ho]
      simp only
      refine behind_step T ho' hU hsh hjf hall hR fun a' w' hR' => ih _ a' w' (by simpa using hsz) ?_ ?_ ?_
      · have hjt : j < listed.toList.length := by simpa using hj'
        have h0' : listed[j] = false := by
          simpa only [Array.getD_eq_getD_getElem?, Array.getElem?_eq_getElem hj', Option.getD_some] using h0
        have : (listed.setIfInBounds j true).toList = listed.toList.set j true := by simp
        rw [this, List.count_set hjt]
        simp [h0', hc]
      · intro k o'' ho'' hk e he hb
        simp only [hset, Bool.or_eq_true, beq_iff_eq] at hk ⊢
        rcases hk with rfl | hk
        · rw [ho'] at ho''; cases ho''
          exact .inr (hall e he hb)
        · exact .inr (hsh k o'' ho'' hk e he hb)
      · simpa only [hset] using hR'
  refine wpIn_region_any hm (key _ _ a _ (by simp) (by simp) ?_ ?_)
  · intro k o ho hk
    simp only [Array.getD_eq_getD_getElem?, Array.getElem?_replicate] at hk
    split at hk <;> simp at hk
  · refine Rel.of_le (σ := σ) (τ := σ.behind ops Us fun j => (Array.replicate ops.toArray.size false).getD j false) ⟨fun t p hp => ?_, fun i b hb => ?_, fun d hd => ?_, rfl, fun _ _ e => e⟩ h.drawn
    · rcases frAt_get T (S := fun j => (Array.replicate ops.toArray.size false).getD j false) (late := fun _ => true) (t := t) with ⟨j, o, U, _, _, _, he⟩ | ⟨_, he⟩
      · simp only [St.behind] at hp
        rw [he] at hp
        simp only [Array.getD_eq_getD_getElem?, Array.getElem?_replicate] at hp
        split at hp <;> simpa using hp
      · simp only [St.behind] at hp
        rw [he] at hp
        exact hp
    · have hv : (fun j => (Array.replicate ops.toArray.size false).getD j false) = fun _ => false := by
        funext j
        simp only [Array.getD_eq_getD_getElem?, Array.getElem?_replicate]
        split <;> rfl
      simp only [St.behind, hv, collect_none] at hb
      exact hb
    · simp only [St.behind, hd, Bool.true_or]

theorem vwp_told {id : Nat} {Q : Post} (hm : C.P.follows .mixedOrders = true) (hd : depOk ops D = true) (hs : dstsOk ops = true) (h : ∃ Us, Told C ops D σ Us ∧ Q .normal (Us.foldl Upd.app σ)) : vwp C (.region id ops.toArray true) Q σ := by
  intro C₁ l a w r
  refine region_any (C := C₁) (Q := Q .normal) (by rw [l.P]; exact hm) (fun σ a w r q => ⟨C₁, σ, .refl _, r, q⟩) hd hs r ?_
  obtain ⟨Us, T, hq⟩ := h
  exact ⟨Us, ⟨T.len, T.order, T.deps, T.dsts, fun k o U ho hU => by have := T.op k o U ho hU; unfold OpG at this ⊢; rw [l.core]; exact this⟩, hq⟩
theorem vwp_any {id : Nat} {Q : Post} (hm : C.P.follows .mixedOrders = true) (hd : depOk ops D = true) (hs : dstsOk ops = true) (h : anyRun C ops D σ 0 ops [] (Q .normal)) : vwp C (.region id ops.toArray true) Q σ :=
  fun C₁ l a w r => region_any (C := C₁) (Q := Q .normal) (by rw [l.P]; exact hm) (fun σ a w r q => ⟨C₁, σ, .refl _, r, q⟩) hd hs r (anyRun_told hd hs (by rw [l.core]; exact h))

end
end Go.Vm
end

section
namespace Go.Vm
open Go Go.RowKit
set_option linter.unusedVariables false

/-! ### Regions that draw their order, with what each operation waits for told beforehand -/
inductive Sr where
  | dep (j : Nat)
  | old
  | dead

def frF (nx : Nat) (fr : Nat → Option PV) (Us : List Upd) : List (Nat × Sr) → Nat → Option PV
  | [], t => fr t
  | (d, .dep j) :: l, t => if t = d then (Us[j]?).bind (Upd.v nx) else frF nx fr Us l t
  | (d, .old) :: l, t => if t = d then fr t else frF nx fr Us l t
  | (d, .dead) :: l, t => if t = d then none else frF nx fr Us l t

def maskF (nx : Nat) : List Nat → Id → Bool
  | [], _ => false
  | d :: l, i => i.1 == nx + d || maskF nx l i

def chgAt (nx : Nat) : Option Upd → List (Id × Option Blk)
  | some U => U.chg nx
  | none => []

def collectF (nx : Nat) (Us : List Upd) : List Nat → List (Id × Option Blk)
  | [] => []
  | j :: l => chgAt nx Us[j]? ++ collectF nx Us l

def HF (σ : St) (Us : List Upd) (b dk : List Nat) (rd : Bool) (i : Id) : Option Blk :=
  if rd then (if maskF σ.nx b i then none else applyC σ.H (collectF σ.nx Us dk) i) else none

abbrev Info := List (Nat × Sr) × List Nat × List Nat

def finF (σ : St) : List Upd → St
  | [] => σ
  | U :: Us => U.app (finF σ Us)

/-- Us: what has been told, the last one first. -/
def anyRunF (C : Core) (ops : List Oper) (D : List (List Nat)) (σ : St) : List Info → List Oper → List Upd → (St → Prop) → Prop
  | [], [], Us, Q => orderX ops D σ.nx σ.fr Us.reverse = true ∧ Q (finF σ Us)
  | (r, b, dk) :: I, o :: rest, Us, Q => gK C ops σ.nx (frF σ.nx σ.fr Us r) (HF σ Us b dk (reads o.op)) o.guard o.dst o.op (hold (fun U => U.fresh σ ∧ anyRunF C ops D σ I rest (U :: Us) Q) (tok _))
  | _, _, _, _ => False

def rdFrom (D : List (List Nat)) (k : Nat) : Nat → List Oper → List (Nat × Sr)
  | _, [] => []
  | j, o :: ops =>
    match o.dst with
    | some d => (d, if isDep D j k then .dep j else if isDep D k j then .old else .dead) :: rdFrom D k (j + 1) ops
    | none => rdFrom D k (j + 1) ops

def badFrom (D : List (List Nat)) (k : Nat) : Nat → List Oper → List Nat
  | _, [] => []
  | j, o :: ops =>
    match o.dst with
    | some d => if !isDep D j k && j != k then d :: badFrom D k (j + 1) ops else badFrom D k (j + 1) ops
    | none => badFrom D k (j + 1) ops

def depsFrom (D : List (List Nat)) (k : Nat) : Nat → Nat → List Nat
  | _, 0 => []
  | j, n + 1 => if isDep D j k then j :: depsFrom D k (j + 1) n else depsFrom D k (j + 1) n

def flipS (k : Nat) : Sr → Sr
  | .dep j => .dep (k - 1 - j)
  | .old => .old
  | .dead => .dead

def infoFrom (ops : List Oper) (D : List (List Nat)) : Nat → Nat → List Info
  | _, 0 => []
  | k, n + 1 => ((rdFrom D k 0 ops).map fun e => (e.1, flipS k e.2), badFrom D k 0 ops, (depsFrom D k 0 ops.length).map (k - 1 - ·)) :: infoFrom ops D (k + 1) n

theorem frF_eq {nx : Nat} {fr : Nat → Option PV} {Us : List Upd} {D : List (List Nat)} {k t : Nat} : ∀ (ops : List Oper) (j : Nat), frAt nx (isDep D · k) (isDep D k) fr j ops (Us.drop j) t = frF nx fr Us (rdFrom D k j ops) t
  | [], j => rfl
  | o :: ops, j => by
    have ih := frF_eq (nx := nx) (fr := fr) (Us := Us) (D := D) (k := k) (t := t) ops (j + 1)
    have ht : (Us.drop j).tail = Us.drop (j + 1) := by rw [List.tail_drop]
    have hh : (Us.drop j).head? = Us[j]? := by rw [List.head?_drop]
    simp only [frAt, rdFrom, ht, hh]
    cases hd : o.dst with
    | none => simp only [reduceCtorEq, if_false]; exact ih
    | some d =>
      simp only [Option.some.injEq]
      by_cases htd : d = t
      · subst htd
        simp only [if_true]
        cases h1 : isDep D j k with
        | true => simp only [if_true, frF]
        | false =>
          cases h2 : isDep D k j with
          | true => simp only [if_true, Bool.false_eq_true, if_false, frF]
          | false => simp only [Bool.false_eq_true, if_false, frF, if_true]
      · have htd' : ¬ t = d := fun e => htd e.symm
        simp only [if_neg htd]
        cases h1 : isDep D j k with
        | true => simp only [if_true, frF, if_neg htd']; exact ih
        | false =>
          cases h2 : isDep D k j with
          | true => simp only [if_true, Bool.false_eq_true, if_false, frF, if_neg htd']; exact ih
          | false => simp only [Bool.false_eq_true, if_false, frF, if_neg htd']; exact ih

theorem maskF_eq {nx : Nat} {D : List (List Nat)} {k : Nat} {i : Id} : ∀ (ops : List Oper) (j : Nat), masked nx D k j ops i = maskF nx (badFrom D k j ops) i
  | [], j => rfl
  | o :: ops, j => by
    have ih := maskF_eq (nx := nx) (D := D) (k := k) (i := i) ops (j + 1)
    simp only [masked, badFrom]
    cases hd : o.dst with
    | none => simp only [Bool.false_or]; exact ih
    | some d =>
      simp only
      cases h1 : (!isDep D j k && j != k) with
      | true =>
        simp only [if_true, maskF, Bool.and_assoc, h1, Bool.and_true, ih]
      | false =>
        simp only [Bool.false_eq_true, if_false, Bool.and_assoc, h1, Bool.and_false, Bool.false_or, ih]

theorem collectF_eq {nx : Nat} {Us : List Upd} {D : List (List Nat)} {k : Nat} : ∀ (n j : Nat), Us.length ≤ j + n → collect nx (isDep D · k) j (Us.drop j) = collectF nx Us (depsFrom D k j n)
  | 0, j, h => by rw [List.drop_eq_nil_of_le (by omega)]; rfl
  | n + 1, j, h => by
    have ih := collectF_eq (nx := nx) (Us := Us) (D := D) (k := k) n (j + 1) (by omega)
    simp only [depsFrom]
    by_cases hj : j < Us.length
    · rw [List.drop_eq_getElem_cons hj, collect, ih]
      cases isDep D j k with
      | true => simp only [if_true, collectF, chgAt, List.getElem?_eq_getElem hj]
      | false => simp only [Bool.false_eq_true, if_false, List.nil_append]
    · have hn : Us[j]? = none := List.getElem?_eq_none (by omega)
      rw [List.drop_eq_nil_of_le (by omega)] at ih ⊢
      cases isDep D j k with
      | true =>
        simp only [if_true, collectF, chgAt, hn, List.nil_append]
        exact ih
      | false =>
        simp only [Bool.false_eq_true, if_false]
        exact ih

section
variable {C : Ctx} {σ : St} {ops : List Oper} {D : List (List Nat)}

theorem finF_eq (σ : St) : ∀ Us : List Upd, finF σ Us = Us.reverse.foldl Upd.app σ
  | [] => rfl
  | U :: Us => by rw [finF, finF_eq σ Us, List.reverse_cons, List.foldl_append]; rfl

theorem rdFrom_dep {k : Nat} : ∀ (l : List Oper) (j0 : Nat), ∀ e ∈ rdFrom D k j0 l, ∀ j, e.2 = .dep j → isDep D j k = true
  | [], j0, e, he, j, _ => by simp [rdFrom] at he
  | o :: l, j0, e, he, j, hj => by
    simp only [rdFrom] at he
    split at he
    · rcases List.mem_cons.1 he with rfl | he
      · simp only at hj
        split at hj
        · rename_i h1; cases hj; exact h1
        · split at hj <;> cases hj
      · exact rdFrom_dep l (j0 + 1) e he j hj
    · exact rdFrom_dep l (j0 + 1) e he j hj

theorem depsFrom_dep {k : Nat} : ∀ (n j0 : Nat), ∀ j ∈ depsFrom D k j0 n, isDep D j k = true
  | 0, j0, j, hj => by simp [depsFrom] at hj
  | n + 1, j0, j, hj => by
    simp only [depsFrom] at hj
    split at hj
    · rename_i h
      rcases List.mem_cons.1 hj with rfl | hj
      · exact h
      · exact depsFrom_dep n (j0 + 1) j hj
    · exact depsFrom_dep n (j0 + 1) j hj

theorem frF_flip {nx : Nat} {fr : Nat → Option PV} {Us V : List Upd} {k t : Nat} (hV : ∀ j, j < k → V[k - 1 - j]? = Us[j]?) : ∀ (r : List (Nat × Sr)), (∀ e ∈ r, ∀ j, e.2 = .dep j → j < k) → frF nx fr V (r.map fun e => (e.1, flipS k e.2)) t = frF nx fr Us r t
  | [], _ => rfl
  | (d, s) :: r, h => by
    have ih := frF_flip (nx := nx) (fr := fr) (t := t) hV r fun e he => h e (List.mem_cons_of_mem _ he)
    cases s with
    | dep j =>
      have hj := h (d, .dep j) (by simp) j rfl
      show (if t = d then (V[k - 1 - j]?).bind (Upd.v nx) else frF nx fr V (r.map fun e => (e.1, flipS k e.2)) t) = (if t = d then (Us[j]?).bind (Upd.v nx) else frF nx fr Us r t)
      rw [hV j hj, ih]
    | old =>
      show (if t = d then fr t else frF nx fr V (r.map fun e => (e.1, flipS k e.2)) t) = (if t = d then fr t else frF nx fr Us r t)
      rw [ih]
    | dead =>
      show (if t = d then none else frF nx fr V (r.map fun e => (e.1, flipS k e.2)) t) = (if t = d then none else frF nx fr Us r t)
      rw [ih]

theorem collectF_flip {nx : Nat} {Us V : List Upd} {k : Nat} (hV : ∀ j, j < k → V[k - 1 - j]? = Us[j]?) : ∀ (l : List Nat), (∀ j ∈ l, j < k) → collectF nx V (l.map (k - 1 - ·)) = collectF nx Us l
  | [], _ => rfl
  | j :: l, h => by
    have ih := collectF_flip (nx := nx) hV l fun i hi => h i (List.mem_cons_of_mem _ hi)
    simp only [List.map_cons, collectF, hV j (h j (by simp)), ih]

theorem gK_mono {C : Core} {ops : List Oper} {nx : Nat} {fr : Nat → Option PV} {H : Id → Option Blk} {g : Option (Nat × Bool)} {d : Option Nat} {op : Op} {K K' : Upd → Prop} (hk : ∀ U, K U → K' U) (h : gK C ops nx fr H g d op K) : gK C ops nx fr H g d op K' := by
  cases g with
  | none => exact opK_mono hk h
  | some gw =>
    obtain ⟨g, want⟩ := gw
    simp only [gK] at h ⊢
    split at h
    · split at h
      · rename_i hv
        rw [if_pos hv]
        exact opK_mono hk h
      · rename_i hv
        rw [if_neg hv]
        exact ⟨h.1, hk _ h.2⟩
    · exact h.elim
theorem anyRunF_ok {Q : St → Prop} (hdep : depOk ops D = true) : ∀ (rest : List Oper) (k : Nat) (V : List Upd), V.length = k → (∀ j, rest[j]? = ops[k + j]?) → k + rest.length = ops.length → anyRunF C ops D σ (infoFrom ops D k rest.length) rest V Q → anyRun C ops D σ k rest V.reverse Q
  | [], k, V, _, _, _, h => by
    simp only [List.length_nil, infoFrom, anyRunF, finF_eq] at h
    exact h
  | o :: rest, k, V, hl, hr, hn, h => by
    simp only [List.length_cons, infoFrom, anyRunF] at h
    have ho : ops[k]? = some o := by have := hr 0; simpa using this.symm
    have hlt : ∀ j, isDep D j k = true → j < k := fun j hj => dep_lt hdep k o ho j hj
    have hV : ∀ j, j < k → V[k - 1 - j]? = V.reverse[j]? := by
      intro j hj
      rw [List.getElem?_reverse (by omega), hl]
    have e1 : frF σ.nx σ.fr V ((rdFrom D k 0 ops).map fun e => (e.1, flipS k e.2)) = frAt σ.nx (isDep D · k) (isDep D k) σ.fr 0 ops V.reverse := funext fun t => by
      rw [frF_flip hV _ fun e he j hj => hlt j (rdFrom_dep ops 0 e he j hj)]
      have := frF_eq (nx := σ.nx) (fr := σ.fr) (Us := V.reverse) (D := D) (k := k) (t := t) ops 0
      rw [List.drop_zero] at this
      exact this.symm
    have e2 : HF σ V (badFrom D k 0 ops) ((depsFrom D k 0 ops.length).map (k - 1 - ·)) (reads o.op) = HAt σ ops D V.reverse k (reads o.op) := funext fun i => by
      have h1 := maskF_eq (nx := σ.nx) (D := D) (k := k) (i := i) ops 0
      have h2 := collectF_eq (nx := σ.nx) (Us := V.reverse) (D := D) (k := k) ops.length 0 (by simp at hn ⊢; omega)
      rw [List.drop_zero] at h2
      unfold HF HAt
      rw [h1, h2, collectF_flip hV _ fun j hj => hlt j (depsFrom_dep _ _ j hj)]
    rw [e1, e2] at h
    obtain ⟨U, hU, hf, hn'⟩ := gK_elim h
    have := anyRunF_ok hdep rest (k + 1) (U :: V) (by simp [hl]) (fun j => by have := hr (j + 1); simpa [Nat.add_assoc, Nat.add_comm 1 j] using this) (by simp at hn; omega) hn'
    rw [List.reverse_cons] at this
    have key : gK C ops σ.nx (frAt σ.nx (isDep D · k) (isDep D k) σ.fr 0 ops V.reverse) (HAt σ ops D V.reverse k (reads o.op)) o.guard o.dst o.op fun U => U.fresh σ ∧ anyRun C ops D σ (k + 1) rest (V.reverse ++ [U]) Q := gK_mono (fun W hW => by subst hW; exact ⟨hf, this⟩) hU
    exact key

theorem vwp_anyF {id : Nat} {Q : Post} (D : List (List Nat)) (I : List Info) (hm : C.P.follows .mixedOrders = true) (hd : depOk ops D = true) (hs : dstsOk ops = true) (hI : infoFrom ops D 0 ops.length = I) (h : anyRunF C ops D σ I ops [] (Q .normal)) : vwp C (.region id ops.toArray true) Q σ :=
  vwp_any hm hd hs (anyRunF_ok hd ops 0 [] rfl (by simp) (by simp) (hI ▸ h))

end
end Go.Vm
end

section
namespace Go.Vm
open Go Go.RowKit
set_option linter.unusedVariables false

/-! ### Regions that draw their order, run in text order -/
noncomputable def memN (t : Nat) (l : List Nat) : Bool := List.rec (motive := fun _ => Bool) false (fun a _ ih => cond (Nat.beq a t) true ih) l
theorem memN_iff {t : Nat} : ∀ {l : List Nat}, memN t l = true ↔ t ∈ l
  | [] => by simp [memN]
  | a :: l => by
    show cond (Nat.beq a t) true (memN t l) = true ↔ _
    rw [List.mem_cons]
    cases h : Nat.beq a t with
    | true => simp [Nat.eq_of_beq_eq_true h]
    | false =>
      have : t ≠ a := fun e => by rw [e, Nat.beq_refl] at h; cases h
      simp only [cond_false, this, false_or]
      exact memN_iff
noncomputable def maskN (nx : Nat) (i : Nat) (l : List Nat) : Bool := List.rec (motive := fun _ => Bool) false (fun d _ ih => cond (Nat.beq i (Nat.add nx d)) true ih) l
theorem maskN_iff {nx i : Nat} : ∀ {l : List Nat}, maskN nx i l = true ↔ ∃ d ∈ l, i = nx + d
  | [] => by simp [maskN]
  | a :: l => by
    show cond (Nat.beq i (nx + a)) true (maskN nx i l) = true ↔ _
    cases h : Nat.beq i (nx + a) with
    | true => simp only [cond_true, true_iff]; exact ⟨a, by simp, Nat.eq_of_beq_eq_true h⟩
    | false =>
      have hne : i ≠ nx + a := fun e => by rw [e, Nat.beq_refl] at h; cases h
      simp only [cond_false]
      rw [maskN_iff]
      constructor
      · rintro ⟨d, hd, e⟩; exact ⟨d, List.mem_cons_of_mem _ hd, e⟩
      · rintro ⟨d, hd, e⟩
        rcases List.mem_cons.1 hd with rfl | hd
        · exact absurd e hne
        · exact ⟨d, hd, e⟩
/-- What an operation may read of the frame. -/
noncomputable def frM (rs : List Nat) (fr : Nat → Option PV) (t : Nat) : Option PV := cond (memN t rs) (fr t) none
noncomputable def HM (nx : Nat) (bs : List Nat) (rd : Bool) (H : Id → Option Blk) (i : Id) : Option Blk := cond rd (cond (maskN nx i.1 bs) none (H i)) none

/-- Slots to read, names to mask, and that the operation must not change memory. -/
abbrev Fast := List Nat × List Nat × Bool
def slotOk (ops : List Oper) (D : List (List Nat)) (k t : Nat) : Bool :=
  (List.range ops.length).all fun j => ((ops[j]?).bind (·.dst)) != some t || isDep D j k || (isDep D k j && decide (k < j))
def maskOk (ops : List Oper) (D : List (List Nat)) (k : Nat) (bs : List Nat) : Bool :=
  (List.range ops.length).all fun j => j == k || isDep D j k || match (ops[j]?).bind (·.dst) with | some d => bs.contains d | none => true
def quietOk (ops : List Oper) (D : List (List Nat)) (j : Nat) : Bool :=
  (List.range ops.length).all fun k => j == k || !((ops[k]?).any (reads ·.op)) || isDep D j k || isDep D k j
def fastOk (ops : List Oper) (D : List (List Nat)) (I : List Fast) : Bool :=
  (List.range ops.length).all fun k =>
    match I[k]? with
    | some (rs, bs, nm) => (rs.all (slotOk ops D k)) && maskOk ops D k bs && (nm || quietOk ops D k)
    | none => false

section
variable {C : Ctx} {σ : St} {ops : List Oper} {D : List (List Nat)} {Us : List Upd}

theorem take_nx : ∀ (m : Nat), ((Us.take m).foldl Upd.app σ).nx = σ.nx := by
  intro m
  have : ∀ (l : List Upd) (σ : St), (l.foldl Upd.app σ).nx = σ.nx := by
    intro l
    induction l with
    | nil => intro σ; rfl
    | cons U l ih => intro σ; rw [List.foldl_cons, ih, app_nx]
  exact this _ _
theorem take_succ {m : Nat} {U : Upd} (h : Us[m]? = some U) : (Us.take (m + 1)).foldl Upd.app σ = U.app ((Us.take m).foldl Upd.app σ) := by
  rw [List.take_add_one, h]
  simp
theorem take_fr_miss {t : Nat} : ∀ (m : Nat), m ≤ Us.length → (∀ j U, j < m → Us[j]? = some U → U.dst ≠ some t) → ((Us.take m).foldl Upd.app σ).fr t = σ.fr t
  | 0, _, _ => rfl
  | m + 1, hm, h => by
    have hU : Us[m]? = some Us[m] := List.getElem?_eq_getElem (by omega)
    rw [take_succ hU, app_fr, if_neg (h m _ (by omega) hU)]
    exact take_fr_miss m (by omega) fun j U hj hU' => h j U (by omega) hU'
theorem take_fr_hit {t j : Nat} {U : Upd} (hU : Us[j]? = some U) (hd : U.dst = some t) : ∀ (m : Nat), m ≤ Us.length → j < m → (∀ i V, i < m → i ≠ j → Us[i]? = some V → V.dst ≠ some t) → ((Us.take m).foldl Upd.app σ).fr t = U.v σ.nx
  | 0, _, hj, _ => by omega
  | m + 1, hm, hj, h => by
    have hV : Us[m]? = some Us[m] := List.getElem?_eq_getElem (by omega)
    rw [take_succ hV, app_fr]
    by_cases hjm : j = m
    · subst hjm
      rw [hU] at hV
      cases hV
      rw [if_pos hd, take_nx]
    · rw [if_neg (h m _ (by omega) (fun e => hjm e.symm) hV)]
      exact take_fr_hit hU hd m (by omega) (by omega) fun i V hi hne hV' => h i V (by omega) hne hV'
theorem take_H : ∀ (m : Nat), m ≤ Us.length → ∀ i b, ((Us.take m).foldl Upd.app σ).H i = some b → applyC σ.H (collect σ.nx (fun j => decide (j < m)) 0 Us) i = some b
  | 0, _, i, b, hb => by
    simp only [Nat.not_lt_zero, decide_false, collect_none]
    simpa [applyC] using hb
  | m + 1, hm, i, b, hb => by
    have hU : Us[m]? = some Us[m] := List.getElem?_eq_getElem (by omega)
    rw [take_succ hU, app_H, take_nx] at hb
    have := applyC_mono (Us[m].chg σ.nx) (take_H m (by omega)) i b hb
    rw [collect_add (S := fun j => decide (j < m)) (S' := fun j => decide (j < m + 1)) i Us 0 m σ.H hU (by simp) (by simp) (fun j hj => by simp; omega) (fun j V hj _ hs => by simp at hs; omega)] at this
    exact this
theorem take_us {d : Nat} (h : σ.us d = true) : ∀ (m : Nat), m ≤ Us.length → ((Us.take m).foldl Upd.app σ).us d = true
  | 0, _ => h
  | m + 1, hm => by
    have hU : Us[m]? = some Us[m] := List.getElem?_eq_getElem (by omega)
    rw [take_succ hU, app_us, take_us h m (by omega)]
    rfl

theorem fastOk_spec {I : List Fast} (h : fastOk ops D I = true) {k : Nat} {o : Oper} (ho : ops[k]? = some o) : ∃ rs bs nm, I[k]? = some (rs, bs, nm) ∧ (∀ t ∈ rs, slotOk ops D k t = true) ∧ maskOk ops D k bs = true ∧ (nm = true ∨ quietOk ops D k = true) := by
  unfold fastOk at h
  rw [List.all_eq_true] at h
  have := h k (List.mem_range.2 (List.getElem?_eq_some_iff.1 ho).1)
  split at this
  · rename_i rs bs nm hI
    simp only [Bool.and_eq_true, List.all_eq_true, Bool.or_eq_true] at this
    exact ⟨rs, bs, nm, hI, this.1.1, this.1.2, this.2⟩
  · cases this

/-- What has run in text order, each operation behind what it may see, is told. -/
theorem told_seq {I : List Fast} (hd : depOk ops D = true) (hs : dstsOk ops = true) (hI : fastOk ops D I = true) (hl : Us.length = ops.length)
    (h : ∀ k o U, ops[k]? = some o → Us[k]? = some U → ∃ rs bs nm, I[k]? = some (rs, bs, nm) ∧ (nm = true → U.isM = false) ∧
      OpG C ops σ.nx (frM rs ((Us.take k).foldl Upd.app σ).fr) (HM σ.nx bs (reads o.op) ((Us.take k).foldl Upd.app σ).H) o.guard o.dst o.op U ∧ U.fresh ((Us.take k).foldl Upd.app σ)) : Told C ops D σ Us := by
  have hdst : ∀ {j : Nat} {U : Upd} {o : Oper}, ops[j]? = some o → Us[j]? = some U → U.dst = o.dst := by
    intro j U o ho hU
    obtain ⟨rs, bs, nm, _, _, hop, _⟩ := h j o U ho hU
    exact (opG_chg hop).1
  have hoper : ∀ {j : Nat} {U : Upd}, Us[j]? = some U → ∃ o, ops[j]? = some o := by
    intro j U hU
    have := (List.getElem?_eq_some_iff.1 hU).1
    exact ⟨_, List.getElem?_eq_getElem (by omega)⟩
  have hord : orderOk ops D Us = true := by
    unfold orderOk
    rw [List.all_eq_true]
    intro j hj
    rw [List.mem_range] at hj
    have ho : ops[j]? = some ops[j] := List.getElem?_eq_getElem hj
    have hU : Us[j]? = some (Us[j]'(by omega)) := List.getElem?_eq_getElem (by omega)
    obtain ⟨rs, bs, nm, hi, hnm, _, _⟩ := h j _ _ ho hU
    obtain ⟨rs', bs', nm', hi', _, _, hq⟩ := fastOk_spec hI ho
    rw [hi] at hi'
    cases hi'
    rcases hq with hq | hq
    · rw [hU]
      simp [hnm hq]
    · unfold quietOk at hq
      rw [hq, Bool.or_true]
  refine ⟨hl, ?_, hd, hs, fun k o U ho hU => ?_⟩
  · unfold orderX; rw [hord]
  obtain ⟨rs, bs, nm, hi, hnm, hop, hf⟩ := h k o U ho hU
  obtain ⟨rs', bs', nm', hi', hrs, hbs, _⟩ := fastOk_spec hI ho
  rw [hi] at hi'
  cases hi'
  have hk : k < ops.length := (List.getElem?_eq_some_iff.1 ho).1
  refine ⟨Us, _, _, fun _ _ => rfl, fun t p hp => ?_, fun i b hb => ?_, hop, ?_⟩
  · unfold frM at hp
    cases hm : memN t rs with
    | false => rw [hm] at hp; cases hp
    | true =>
      rw [hm, cond_true] at hp
      have hso := hrs t (memN_iff.1 hm)
      unfold slotOk at hso
      rw [List.all_eq_true] at hso
      by_cases hex : ∃ (j : Nat) (o' : Oper), ops[j]? = some o' ∧ o'.dst = some t
      · obtain ⟨j, o', ho', hd'⟩ := hex
        have hj : j < ops.length := (List.getElem?_eq_some_iff.1 ho').1
        have hV : Us[j]? = some (Us[j]'(by omega)) := List.getElem?_eq_getElem (by omega)
        have huniq : ∀ i V, i ≠ j → Us[i]? = some V → V.dst ≠ some t := by
          intro i V hne hV' he
          obtain ⟨o'', ho''⟩ := hoper hV'
          exact hne (dstsOk_spec hs ho'' ho' (by rw [← hdst ho'' hV']; exact he) hd')
        have hj2 := hso j (List.mem_range.2 hj)
        rw [frAt_hit ops 0 Us j o' ho' hd' fun i o'' hi ho'' hd'' => absurd (dstsOk_spec hs ho'' ho' hd'' hd') (by omega)]
        simp only [ho', Option.bind_some, hd', bne_self_eq_false, Bool.false_or, Bool.or_eq_true, Bool.and_eq_true, decide_eq_true_eq] at hj2
        simp only [Nat.zero_add]
        rcases hj2 with hj2 | ⟨hj2, hlt⟩
        · rw [if_pos hj2, hV, Option.bind_some]
          have hjk : j < k := dep_lt hd k o ho j hj2
          rw [take_fr_hit hV (by rw [hdst ho' hV]; exact hd') k (by omega) hjk fun i V _ hne hV' => huniq i V hne hV'] at hp
          exact hp
        · have hnd : isDep D j k = false := by
            cases h2 : isDep D j k with
            | false => rfl
            | true => have := dep_lt hd k o ho j h2; omega
          rw [hnd, if_neg (by simp), if_pos hj2]
          rw [take_fr_miss k (by omega) fun i V hi hV' => huniq i V (by omega) hV'] at hp
          exact hp
      · rw [frAt_miss ops 0 Us fun j o' ho' hd' => hex ⟨j, o', ho', hd'⟩]
        rw [take_fr_miss k (by omega) fun i V hi hV' he => ?_] at hp
        · exact hp
        · obtain ⟨o'', ho''⟩ := hoper hV'
          exact hex ⟨i, o'', ho'', by rw [← hdst ho'' hV']; exact he⟩
  · unfold HM at hb
    cases hr : reads o.op with
    | false => rw [hr] at hb; cases hb
    | true =>
      rw [hr, cond_true] at hb
      cases hmk : maskN σ.nx i.1 bs with
      | true => rw [hmk] at hb; cases hb
      | false =>
        rw [hmk, cond_false] at hb
        have hnot : ∀ d, d ∈ bs → i.1 ≠ σ.nx + d := fun d hd' he => by
          have : maskN σ.nx i.1 bs = true := maskN_iff.2 ⟨d, hd', he⟩
          rw [hmk] at this; cases this
        unfold maskOk at hbs
        rw [List.all_eq_true] at hbs
        have hbad : ∀ j o' d, ops[j]? = some o' → o'.dst = some d → j ≠ k → isDep D j k = false → i.1 ≠ σ.nx + d := by
          intro j o' d ho' hd' hne hdep
          have := hbs j (List.mem_range.2 (List.getElem?_eq_some_iff.1 ho').1)
          simp only [ho', Option.bind_some, hd', Bool.or_eq_true, beq_iff_eq, hne, hdep, Bool.false_eq_true, false_or] at this
          exact hnot d (by simpa using this)
        have hmasked : masked σ.nx D k 0 ops i = false := by
          have : ∀ (l : List Oper) (q : Nat), (∀ j o', l[j]? = some o' → ops[q + j]? = some o') → masked σ.nx D k q l i = false := by
            intro l
            induction l with
            | nil => intro q _; rfl
            | cons o' l ih =>
              intro q hq
              simp only [masked]
              rw [ih (q + 1) fun j o'' ho'' => by have := hq (j + 1) o'' (by simpa using ho''); rw [Nat.add_assoc, Nat.add_comm 1 j]; exact this, Bool.or_false]
              cases hd' : o'.dst with
              | none => rfl
              | some d =>
                simp only
                cases h1 : isDep D q k with
                | true => simp
                | false =>
                  by_cases hqk : q = k
                  · simp [hqk]
                  · have := hbad q o' d (by simpa using hq 0 o' rfl) hd' hqk h1
                    simp [this]
          exact this ops 0 fun j o' ho' => by simpa using ho'
        unfold HAt
        rw [if_pos rfl, hmasked, if_neg (by simp)]
        have := take_H k (by omega) i b hb
        rw [← this, applyC_at i _ σ.H σ.H rfl, applyC_at i (collect σ.nx (fun j => decide (j < k)) 0 Us) σ.H σ.H rfl]
        rw [collect_at i (v := (isDep D · k)) (v' := fun j => decide (j < k)) Us 0 ?_]
        intro j V hV hne c hc hci
        simp only [Nat.zero_add] at hne
        obtain ⟨o', ho'⟩ := hoper hV
        have hdj : isDep D j k = false := by
          cases h1 : isDep D j k with
          | false => rfl
          | true => rw [h1] at hne; exact absurd (by simpa using dep_lt hd k o ho j h1) (by simpa using hne)
        have hjk : j < k := by
          rw [hdj] at hne
          by_cases h2 : j < k
          · exact h2
          · simp [h2] at hne
        obtain ⟨_, _, _, _, _, hop', _⟩ := h j o' V ho' hV
        rcases (opG_chg hop').2 c hc with ⟨t, ht, hct⟩ | ⟨_, hM, _⟩
        · exact hbad j o' t ho' (by rw [← hdst ho' hV]; exact tag_dst ht) (by omega) hdj (by rw [← hci]; exact hct)
        · rcases orderOk_spec hord hV ho (List.getElem?_eq_some_iff.1 ho').1 hM hr (by omega) with h' | h'
          · rw [hdj] at h'; cases h'
          · have := dep_lt hd j o' ho' k h'
            omega
  · rw [fresh_iff] at hf ⊢
    intro d hd'
    cases hu : σ.us d with
    | false => rfl
    | true =>
      have h1 := hf d hd'
      rw [take_us hu k (by omega)] at h1
      cases h1
end
end Go.Vm
end

section
namespace Go.Vm
open Go Go.RowKit
set_option linter.unusedVariables false

theorem upd_app {α β : Type} [DecidableEq α] (f : α → β) (i : α) (b : β) (j : α) : upd f i b j = if j = i then b else f j := rfl

theorem bindB_nil (s : Nat) (H : Id → Option Blk) : bindB s [] H = H := by funext i; simp [bindB]
theorem bindB_one (s : Nat) (b : Blk) (H : Id → Option Blk) : bindB s [b] H = upd H (s, 0) (some (b.ren s)) := by
  funext ⟨i1, i2⟩
  simp only [bindB, upd]
  by_cases h : i1 = s
  · subst h
    cases i2 with
    | zero => simp
    | succ i2 => simp
  · simp [h]

/-! ### States, told by lists -/
def lookF (t : Nat) : List (Nat × PV) → Option PV
  | [] => none
  | (k, p) :: l => if t = k then some p else lookF t l
def lookH (i : Id) : List (Id × Blk) → Option Blk
  | [] => none
  | (k, b) :: l => if i = k then some b else lookH i l
def inU (d : Nat) : List Nat → Bool
  | [] => false
  | k :: l => if d = k then true else inU d l

def St.of (fr : List (Nat × PV)) (H : List (Id × Blk)) (u : List Nat) : St := ⟨fun t => lookF t fr, fun i => lookH i H, fun d => inU d u, 1, fun _ => none⟩

section
variable {σ : St} {H : Id → Option Blk} {Z : Id → Prop} {G : Id → Id → Prop}
theorem ConvB.free {b : Blk} (h : PC.frees b.kids = true) : ConvB H Z G b b := by
  cases b with
  | box ty cs => exact .box (ConvL.free h)
  | arr ty z n cs => exact .arr (ConvL.free h)
  | mp ty es => exact .mp rfl (ConvL.free h)
end

/-! ### Results that bear no names -/
theorem splice_zero {α : Type} (xs : List α) : splice xs 0 [] = xs := by simp [splice]
theorem splice_step {α : Type} (x y : α) (xs ys : List α) : splice (x :: xs) 0 (y :: ys) = y :: splice xs 0 ys := by simp [splice, Nat.add_comm]
theorem splice_skip {α : Type} (x : α) (xs ys : List α) (k : Nat) : splice (x :: xs) (k + 1) ys = x :: splice xs k ys := by simp [splice, Nat.add_right_comm]

/-! ### Rows told by a list of anything -/
section
variable {α : Type} (l : List α) (f : α → PC) (g : α → List PC) (s : Nat) (H : Id → Option Blk) (k : Nat)
theorem rens_map : PC.rens s (l.map f) = l.map fun a => (f a).ren s := by induction l with | nil => rfl | cons a l ih => simp only [List.map_cons, PC.rens, ih]
theorem weaks_map : PC.weaks (l.map f) = l.map fun a => (f a).weak := by induction l with | nil => rfl | cons a l ih => simp only [List.map_cons, PC.weaks, ih]
theorem frees_map : PC.frees (l.map f) = l.all fun a => (f a).free := by induction l with | nil => rfl | cons a l ih => simp only [List.map_cons, PC.frees, List.all_cons, ih]
theorem stricts_map : PC.stricts (l.map f) = l.all fun a => (f a).strict := by induction l with | nil => rfl | cons a l ih => simp only [List.map_cons, PC.stricts, List.all_cons, ih]
theorem clo_map : (l.map f).map (clo H k) = l.map fun a => clo H k (f a) := by rw [List.map_map]; rfl
theorem all_tt : (l.all fun _ => true) = true := by induction l with | nil => rfl | cons a l ih => simp only [List.all_cons, ih, Bool.and_self]
theorem rens_append (a b : List PC) : PC.rens s (a ++ b) = PC.rens s a ++ PC.rens s b := by induction a with | nil => rfl | cons x a ih => simp only [List.cons_append, PC.rens, ih]
theorem weaks_append (a b : List PC) : PC.weaks (a ++ b) = PC.weaks a ++ PC.weaks b := by induction a with | nil => rfl | cons x a ih => simp only [List.cons_append, PC.weaks, ih]
theorem frees_append (a b : List PC) : PC.frees (a ++ b) = (PC.frees a && PC.frees b) := by induction a with | nil => rfl | cons x a ih => simp only [List.cons_append, PC.frees, ih, Bool.and_assoc]
theorem stricts_append (a b : List PC) : PC.stricts (a ++ b) = (PC.stricts a && PC.stricts b) := by induction a with | nil => rfl | cons x a ih => simp only [List.cons_append, PC.stricts, ih, Bool.and_assoc]
theorem rens_flatMap : PC.rens s (l.flatMap g) = l.flatMap fun a => PC.rens s (g a) := by induction l with | nil => rfl | cons a l ih => simp only [List.flatMap_cons, rens_append, ih]
theorem weaks_flatMap : PC.weaks (l.flatMap g) = l.flatMap fun a => PC.weaks (g a) := by induction l with | nil => rfl | cons a l ih => simp only [List.flatMap_cons, weaks_append, ih]
theorem frees_flatMap : PC.frees (l.flatMap g) = l.all fun a => PC.frees (g a) := by induction l with | nil => rfl | cons a l ih => simp only [List.flatMap_cons, frees_append, List.all_cons, ih]
theorem stricts_flatMap : PC.stricts (l.flatMap g) = l.all fun a => PC.stricts (g a) := by induction l with | nil => rfl | cons a l ih => simp only [List.flatMap_cons, stricts_append, List.all_cons, ih]
theorem iobs_map (M : List Id) : PC.iobs M s (l.map f) = l.map fun a => (f a).iob M s := by induction l with | nil => rfl | cons a l ih => simp only [List.map_cons, PC.iobs, ih]
theorem iocs_map (M : List Id) : PC.iocs M (l.map f) = l.map fun a => (f a).ioc M := by induction l with | nil => rfl | cons a l ih => simp only [List.map_cons, PC.iocs, ih]
theorem tag0s_map : PC.tag0s (l.map f) = l.all fun a => (f a).tag0 := by induction l with | nil => rfl | cons a l ih => simp only [List.map_cons, PC.tag0s, List.all_cons, ih]
theorem iobs_append (M : List Id) (a b : List PC) : PC.iobs M s (a ++ b) = PC.iobs M s a ++ PC.iobs M s b := by induction a with | nil => rfl | cons x a ih => simp only [List.cons_append, PC.iobs, ih]
theorem iocs_append (M : List Id) (a b : List PC) : PC.iocs M (a ++ b) = PC.iocs M a ++ PC.iocs M b := by induction a with | nil => rfl | cons x a ih => simp only [List.cons_append, PC.iocs, ih]
theorem tag0s_append (a b : List PC) : PC.tag0s (a ++ b) = (PC.tag0s a && PC.tag0s b) := by induction a with | nil => rfl | cons x a ih => simp only [List.cons_append, PC.tag0s, ih, Bool.and_assoc]
theorem iobs_flatMap (M : List Id) : PC.iobs M s (l.flatMap g) = l.flatMap fun a => PC.iobs M s (g a) := by induction l with | nil => rfl | cons a l ih => simp only [List.flatMap_cons, iobs_append, ih]
theorem iocs_flatMap (M : List Id) : PC.iocs M (l.flatMap g) = l.flatMap fun a => PC.iocs M (g a) := by induction l with | nil => rfl | cons a l ih => simp only [List.flatMap_cons, iocs_append, ih]
theorem tag0s_flatMap : PC.tag0s (l.flatMap g) = l.all fun a => PC.tag0s (g a) := by induction l with | nil => rfl | cons a l ih => simp only [List.flatMap_cons, tag0s_append, List.all_cons, ih]
theorem clo_flatMap : (l.flatMap g).map (clo H k) = l.flatMap fun a => (g a).map (clo H k) := by induction l with | nil => rfl | cons a l ih => simp only [List.flatMap_cons, List.map_append, ih]
end

theorem pickB_true (a b : Bool) : pickB true a b = a := rfl
theorem pickB_false (a b : Bool) : pickB false a b = b := rfl
theorem pickB_and (v a : Bool) : pickB v a false = (v && a) := by cases v <;> rfl
theorem pickB_or (v b : Bool) : pickB v true b = (v || b) := by cases v <;> rfl
theorem beq_true' (b : Bool) : (b == true) = b := by cases b <;> rfl
theorem beq_false' (b : Bool) : (b == false) = !b := by cases b <;> rfl

attribute [push_cast] anyRunF gK finF frF HF maskF collectF chgAt reads Upd.chg Upd.v bchg Bool.and_false Bool.false_and Bool.not_not ne_eq not_false_eq_true hold1 hold2 hold3 Option.isSome_some Option.isSome_none Array.getInternal_eq_getElem List.all_cons List.all_nil Option.isNone_none Option.isNone_some beq_self_eq_true iobs_map iocs_map tag0s_map iobs_append iocs_append tag0s_append iobs_flatMap iocs_flatMap tag0s_flatMap vappS St.iod applyC ioChg outId PC.iob PC.iobs PV.iob PV.iobs Blk.iob PC.ioc PC.iocs PV.ioc Blk.ioc PC.tag0 PC.tag0s PV.tag0 tag0B strictBO nodup pos inId hide gets lowOf highOf vrow isNilC vnil List.getElem_toArray List.getElem_cons_zero List.getElem_cons_succ rowZ rens_map weaks_map frees_map stricts_map clo_map all_tt rens_append weaks_append frees_append stricts_append rens_flatMap weaks_flatMap frees_flatMap stricts_flatMap clo_flatMap List.map_append gcond unm mayK mayD mayAdd mayAddK mayRow mayRowK mayPickK mayCall vpick boolOf pickB_true pickB_false pickB_and pickB_or Bool.not_true Bool.not_false Bool.not_or_self Bool.or_not_self Bool.true_or Bool.or_true Bool.false_or Bool.or_false Bool.true_and Bool.and_true beq_true' beq_false' eqScalar eqFieldsT vbinA vconv valK bytesOf isAggT elemT fieldT isBool placesT placeOf vfill List.getElem?_toArray Option.some.injEq
  seqRun opK vAddK addK heapK mvK callK vAdd ev upd_app St.enter Option.map_some Option.map_none Option.bind_some Option.bind_none PV.cells Upd.fresh Upd.app cst List.getElem?_cons_zero List.getElem?_cons_succ List.getElem?_nil
  Option.getD_some Option.getD_none Nat.zero_add and_true true_and if_true if_false behind Blk.cells Blk.kids takeT callOf argsOf List.drop_zero List.drop_succ_cons List.length_cons List.length_nil Nat.le_refl List.take_succ_cons List.take_zero
  cloV clo List.map_cons List.map_nil List.append_nil List.nil_append List.cons_append PV.frees PV.free PC.frees PC.free PC.weak PC.weaks Bool.and_true Bool.true_and Bool.and_self Prod.mk.injEq asB asI asS vbin vbinI vbinS or_self or_false false_or true_or or_true St.called
  bindB_nil bindB_one PV.ren PC.ren PV.rens PC.rens Blk.ren shiftA vun vstore setB partsOf onesOf vlen lenOk vidx vapp baseOf newsOf kill vcut gslot gval dOk St.skip St.of lookF lookH inU resOf pack
  Bool.false_eq_true Nat.succ_ne_zero strictB PV.strict PV.stricts PC.strict PC.stricts splice_zero splice_step splice_skip
end Go.Vm
end
