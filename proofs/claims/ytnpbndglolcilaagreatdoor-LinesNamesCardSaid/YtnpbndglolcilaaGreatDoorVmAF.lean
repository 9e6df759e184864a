/-
  Abstract states over the model's worlds, and that a step of them is a step of the program: part VmAF of a framework. Conditions: each theorem's own premises. By an AI agent.
-/
import Derived.Test.YtnpbndglolcilaaGreatDoorVmAE
import Derived.OrdersIn
import Derived.Deep.Draws
section
namespace Go.Vm
open Go Go.RowKit
set_option linter.unusedVariables false
section
variable {C : Ctx} {φ φ' : Id → Option Value} {F : Bool → Nat → Prop} {F0 F1 : Nat → Prop} {σ : St} {a : Act} {w w' : World} {P : Program} {ops : List Oper} {D : List (List Nat)} {Us : List Upd}

theorem collect_congr {nx : Nat} {v : Nat → Bool} : ∀ (Us Us' : List Upd) (k : Nat), (∀ j, v (k + j) = true → Us'[j]? = Us[j]?) → collect nx v k Us' = collect nx v k Us
  | [], [], k, h => rfl
  | [], U' :: Us', k, h => by
    have h0 : v k = false := by
      cases hv : v k with
      | false => rfl
      | true => have := h 0 hv; simp at this
    simp only [collect, h0, Bool.false_eq_true, if_false, List.nil_append]
    exact collect_congr [] Us' (k + 1) fun j hj => by have := h (j + 1) (by rwa [Nat.add_comm j 1, ← Nat.add_assoc]); simpa using this
  | U :: Us, [], k, h => by
    have h0 : v k = false := by
      cases hv : v k with
      | false => rfl
      | true => have := h 0 hv; simp at this
    simp only [collect, h0, Bool.false_eq_true, if_false, List.nil_append]
    exact collect_congr Us [] (k + 1) fun j hj => by have := h (j + 1) (by rwa [Nat.add_comm j 1, ← Nat.add_assoc]); simpa using this
  | U :: Us, U' :: Us', k, h => by
    simp only [collect]
    rw [collect_congr Us Us' (k + 1) fun j hj => by have := h (j + 1) (by rwa [Nat.add_comm j 1, ← Nat.add_assoc]); simpa using this]
    cases hv : v k with
    | false => rfl
    | true => have := h 0 hv; simp at this; rw [this]

theorem frAt_congr {nx : Nat} {v late : Nat → Bool} {fr : Nat → Option PV} {t : Nat} : ∀ (ops : List Oper) (Us Us' : List Upd) (k : Nat), (∀ j, v (k + j) = true → Us'[j]? = Us[j]?) → frAt nx v late fr k ops Us' t = frAt nx v late fr k ops Us t
  | [], _, _, _, _ => rfl
  | o :: ops, Us, Us', k, h => by
    simp only [frAt]
    rw [frAt_congr ops Us.tail Us'.tail (k + 1) fun j hj => by have := h (j + 1) (by rwa [Nat.add_comm j 1, ← Nat.add_assoc]); cases Us <;> cases Us' <;> simp at this ⊢ <;> try exact this]
    cases hv : v k with
    | false => rfl
    | true =>
      have h0 := h 0 hv
      have : Us'.head? = Us.head? := by rw [List.head?_eq_getElem?, List.head?_eq_getElem?]; exact h0
      rw [this]

theorem told_op (T : Told C ops D σ Us) {k : Nat} {o : Oper} {U : Upd} (ho : ops[k]? = some o) (hU : Us[k]? = some U) :
    OpU C σ.nx (ev (frAt σ.nx (isDep D · k) (isDep D k) σ.fr 0 ops Us)) (HAt σ ops D Us k (reads o.op)) o.dst o.op U ∧ U.fresh σ := by
  obtain ⟨Us', hp, hop, hf⟩ := T.op k o U ho hU
  have hv : ∀ j, isDep D (0 + j) k = true → Us'[j]? = Us[j]? := fun j hj => hp j (dep_lt T.deps k o ho j (by simpa using hj))
  have e1 : frAt σ.nx (isDep D · k) (isDep D k) σ.fr 0 ops Us' = frAt σ.nx (isDep D · k) (isDep D k) σ.fr 0 ops Us := funext fun t => frAt_congr ops Us Us' 0 hv
  have e2 : HAt σ ops D Us' k (reads o.op) = HAt σ ops D Us k (reads o.op) := by
    funext i
    unfold HAt
    rw [collect_congr (v := (isDep D · k)) Us Us' 0 hv]
  rw [e1, e2] at hop
  exact ⟨hop, hf⟩

theorem upd_of (T : Told C ops D σ Us) {k : Nat} {o : Oper} (ho : ops[k]? = some o) : ∃ U, Us[k]? = some U := by
  have := (List.getElem?_eq_some_iff.1 ho).1
  exact ⟨_, List.getElem?_eq_getElem (by rw [T.len]; exact this)⟩

theorem oper_of (T : Told C ops D σ Us) {k : Nat} {U : Upd} (hU : Us[k]? = some U) : ∃ o, ops[k]? = some o := by
  have := (List.getElem?_eq_some_iff.1 hU).1
  exact ⟨_, List.getElem?_eq_getElem (by rw [← T.len]; exact this)⟩

/-- What a name that an operation changes can be, as another sees it. -/
theorem apart_names (T : Told C ops D σ Us) {j k : Nat} {o o' : Oper} {U V : Upd} (hj : ops[j]? = some o) (hU : Us[j]? = some U) (hk : ops[k]? = some o') (hV : Us[k]? = some V) (hne : j ≠ k) (h1 : isDep D j k = false) (h2 : isDep D k j = false) :
    ∀ c ∈ U.chg σ.nx, ∀ e ∈ V.chg σ.nx, c.1 ≠ e.1 := by
  intro c hc e he heq
  obtain ⟨hud, huc⟩ := opU_chg (told_op T hj hU).1
  obtain ⟨hvd, hvc⟩ := opU_chg (told_op T hk hV).1
  have hm : ∀ {q : Nat} {rd : Bool} {i : Id}, HAt σ ops D Us q rd i ≠ none → masked σ.nx D q 0 ops i = false := by
    intro q rd i h
    unfold HAt at h
    cases rd with
    | false => simp at h
    | true =>
      cases hm : masked σ.nx D q 0 ops i with
      | false => rfl
      | true => simp [hm] at h
  rcases huc c hc with ⟨t, ht, hct⟩ | ⟨hcn, hcM, hcr⟩ <;> rcases hvc e he with ⟨t', ht', het⟩ | ⟨hen, heM, her⟩
  · have : t = t' := by rw [heq] at hct; omega
    subst this
    exact hne (dstsOk_spec T.dsts hj hk (by rw [← hud]; exact tag_dst ht) (by rw [← hvd]; exact tag_dst ht'))
  · have := masked_spec ops 0 (hm hen) j o t hj (by rw [← hud]; exact tag_dst ht) (by simpa using h1) (by omega)
    exact this (by rw [← heq]; exact hct)
  · have := masked_spec ops 0 (hm hcn) k o' t' hk (by rw [← hvd]; exact tag_dst ht') (by simpa using h2) (by omega)
    exact this (by rw [heq]; exact het)
  · rcases orderOk_spec T.order hU hk (List.getElem?_eq_some_iff.1 hj).1 hcM her hne with h | h
    · rw [h1] at h; cases h
    · rw [h2] at h; cases h

theorem frAt_get (T : Told C ops D σ Us) {S late : Nat → Bool} {t : Nat} : (∃ j o U, ops[j]? = some o ∧ Us[j]? = some U ∧ o.dst = some t ∧ frAt σ.nx S late σ.fr 0 ops Us t = if S j then U.v σ.nx else if late j then σ.fr t else none) ∨
    ((∀ (j : Nat) (o : Oper), ops[j]? = some o → o.dst ≠ some t) ∧ frAt σ.nx S late σ.fr 0 ops Us t = σ.fr t) := by
  by_cases h : ∃ (j : Nat) (o : Oper), ops[j]? = some o ∧ o.dst = some t
  · obtain ⟨j, o, ho, hd⟩ := h
    obtain ⟨U, hU⟩ := upd_of T ho
    refine .inl ⟨j, o, U, ho, hU, hd, ?_⟩
    rw [frAt_hit ops 0 Us j o ho hd fun i o' hi ho' hd' => absurd (dstsOk_spec T.dsts ho' ho hd' hd) (by omega)]
    simp [hU]
  · refine .inr ⟨fun j o ho hd => h ⟨j, o, ho, hd⟩, frAt_miss ops 0 Us fun j o ho hd => h ⟨j, o, ho, hd⟩⟩

/-- One more operation comes up. -/
theorem behind_step (T : Told C ops D σ Us) {S : Nat → Bool} {k : Nat} {o : Oper} {U : Upd} (ho : ops[k]? = some o) (hU : Us[k]? = some U) (hS : Shut ops S) (hk : S k = false) (hr : ∀ e ∈ o.after, Region.binds .any e = true → S e.on = true)
    (hR : Rel C (σ.behind ops Us S) a w) {K : Act → World → Prop} {Q : Exit → Act → World → Prop} (hK : ∀ a' w', Rel C (σ.behind ops Us fun j => j == k || S j) a' w' → K a' w') : o.wpIn (fz C) 0 C.P a w K Q := by
  obtain ⟨hop, hf⟩ := told_op T ho hU
  obtain ⟨hud, huc⟩ := opU_chg hop
  have hdep := dep_in T.deps hS k o ho hr
  obtain ⟨φ, F0, F1, h⟩ := hR
  -- what another operation of S that k does not wait for has changed
  have hoth : ∀ j V, Us[j]? = some V → S j = true → isDep D j k = false → j ≠ k ∧ ∃ o', ops[j]? = some o' ∧ isDep D k j = false := by
    intro j V hV hj hd
    obtain ⟨o', ho'⟩ := oper_of T hV
    refine ⟨(by rintro rfl; rw [hk] at hj; cases hj), o', ho', ?_⟩
    cases hkj : isDep D k j with
    | false => rfl
    | true =>
      have := dep_in T.deps hS j o' ho' (hS j o' ho' hj) k hkj
      rw [hk] at this; cases this
  have hHle : ∀ {i b}, HAt σ ops D Us k (reads o.op) i = some b → (σ.behind ops Us S).H i = some b := by
    intro i b hi
    unfold HAt at hi
    split at hi
    · rename_i hrd
      split at hi
      · cases hi
      · rename_i hm
        simp only [St.behind]
        rw [← hi, applyC_at i _ σ.H σ.H rfl, applyC_at i (collect σ.nx (isDep D · k) 0 Us) σ.H σ.H rfl]
        rw [collect_at i (v := S) (v' := (isDep D · k)) Us 0 ?_]
        intro j V hV hne c hc hci
        simp only [Nat.zero_add] at hne
        have hdj : isDep D j k = false := by
          cases hd : isDep D j k with
          | false => rfl
          | true => rw [hdep j hd, hd] at hne; exact absurd rfl hne
        have hSj : S j = true := by
          cases hs : S j with
          | true => rfl
          | false => rw [hs, hdj] at hne; exact absurd rfl hne
        obtain ⟨hjk, o', ho', hkj⟩ := hoth j V hV hSj hdj
        obtain ⟨hvd, hvc⟩ := opU_chg (told_op T ho' hV).1
        rcases hvc c hc with ⟨t, ht, hct⟩ | ⟨_, hM, _⟩
        · have := masked_spec ops 0 (by simpa using hm) j o' t ho' (by rw [← hvd]; exact tag_dst ht) (by simpa using hdj) (by omega)
          exact this (by rw [← hci]; exact hct)
        · rcases orderOk_spec T.order hV ho (List.getElem?_eq_some_iff.1 ho').1 hM hrd hjk with h' | h'
          · rw [hdj] at h'; cases h'
          · rw [hkj] at h'; cases h'
    · cases hi
  have hfrle : ∀ t p, frAt σ.nx (isDep D · k) (isDep D k) σ.fr 0 ops Us t = some p → frAt σ.nx S (fun _ => true) σ.fr 0 ops Us t = some p := by
    intro t p hp
    rcases frAt_get T (S := (isDep D · k)) (late := isDep D k) (t := t) with ⟨j, o', V, ho', hV, hd, he⟩ | ⟨hno, he⟩
    · rw [he] at hp
      split at hp
      · rename_i hdj
        rw [frAt_hit ops 0 Us j o' ho' hd fun i o'' hi ho'' hd' => absurd (dstsOk_spec T.dsts ho'' ho' hd' hd) (by omega)]
        simp only [Nat.zero_add, hdep j hdj, if_true, hV, Option.bind_some]
        exact hp
      · rename_i hdj
        split at hp
        · rename_i hkj
          rw [frAt_hit ops 0 Us j o' ho' hd fun i o'' hi ho'' hd' => absurd (dstsOk_spec T.dsts ho'' ho' hd' hd) (by omega)]
          have hSj : S j = false := by
            cases hSj : S j with
            | false => rfl
            | true =>
              obtain ⟨_, _, _, h3⟩ := hoth j V hV hSj (by simpa using hdj)
              rw [hkj] at h3; cases h3
          simp only [Nat.zero_add, hSj, Bool.false_eq_true, if_false, if_true]
          exact hp
        · cases hp
    · rw [he] at hp
      rw [frAt_miss ops 0 Us hno]
      exact hp
  have V : View φ w (Fs F0 F1) a (σ.behind ops Us S) (ev (frAt σ.nx (isDep D · k) (isDep D k) σ.fr 0 ops Us)) (HAt σ ops D Us k (reads o.op)) := by
    refine ⟨fun {x p} hx => ?_, hHle⟩
    refine ev_rep h (x := x) ?_
    cases x with
    | tmp t => exact hfrle t p hx
    | const v => exact hx
    | func f => exact hx
    | global g => exact hx
  have hfS : U.fresh (σ.behind ops Us S) := by
    rw [fresh_iff] at hf ⊢
    intro d hd
    simp only [St.behind, hf d hd, Bool.false_or, List.any_eq_false, List.mem_range]
    intro j hj hcon
    simp only [Bool.and_eq_true, Option.any_eq_true, beq_iff_eq] at hcon
    obtain ⟨hSj, W, hW, hWt⟩ := hcon
    obtain ⟨o', ho'⟩ := oper_of T hW
    obtain ⟨hwd, _⟩ := opU_chg (told_op T ho' hW).1
    have := dstsOk_spec T.dsts ho' ho (by rw [← hwd]; exact tag_dst hWt) (by rw [← hud]; exact tag_dst hd)
    subst this
    rw [hk] at hSj; cases hSj
  refine fz_op (fun c e => by rw [e] at hop; exact opK_defer hop) (opU_sound h V hop hfS fun a' w' hR' => hK a' w' (Rel.of_le (σ := U.app (σ.behind ops Us S)) (τ := σ.behind ops Us fun j => j == k || S j) ⟨?_, ?_, ?_, app_nx (σ.behind ops Us S) U, fun t p hp => by rw [app_gh]; exact hp⟩ hR'))
  · intro t p hp
    simp only [St.behind] at hp
    rw [app_fr]
    rcases frAt_get T (S := fun j => j == k || S j) (late := fun _ => true) (t := t) with ⟨j, o', V', ho', hV', hd, he⟩ | ⟨hno, he⟩
    · rw [he] at hp
      split at hp
      · rename_i hjS
        by_cases hjk : j = k
        · subst hjk
          rw [ho] at ho'; cases ho'
          rw [hU] at hV'; cases hV'
          rw [if_pos (by rw [hud]; exact hd)]
          exact hp
        · have hne : U.dst ≠ some t := by
            rw [hud]; intro hd'
            exact hjk (dstsOk_spec T.dsts ho' ho hd hd')
          rw [if_neg hne]
          have hSj : S j = true := by simpa [hjk] using hjS
          simp only [St.behind]
          rw [frAt_hit ops 0 Us j o' ho' hd fun i o'' hi ho'' hd' => absurd (dstsOk_spec T.dsts ho'' ho' hd' hd) (by omega)]
          simp only [Nat.zero_add, hSj, if_true, hV', Option.bind_some]
          exact hp
      · rename_i hjS
        simp only [Bool.or_eq_true, beq_iff_eq, not_or, Bool.not_eq_true] at hjS
        have hne : U.dst ≠ some t := by
          rw [hud]; intro hd'
          exact hjS.1 (dstsOk_spec T.dsts ho' ho hd hd')
        rw [if_neg hne]
        simp only [St.behind]
        rw [frAt_hit ops 0 Us j o' ho' hd fun i o'' hi ho'' hd' => absurd (dstsOk_spec T.dsts ho'' ho' hd' hd) (by omega)]
        simp only [Nat.zero_add, hjS.2, Bool.false_eq_true, if_false, if_true] at hp ⊢
        exact hp
    · rw [he] at hp
      rw [if_neg (by rw [hud]; exact hno k o ho)]
      simp only [St.behind]
      rw [frAt_miss ops 0 Us hno]
      exact hp
  · intro i b hb
    rw [app_H]
    simp only [St.behind] at hb ⊢
    rw [collect_add (S := S) (S' := fun j => j == k || S j) i Us 0 k σ.H hU (by simpa using hk) (by simp) (fun j hj => by simp [hj]) ?_]
    · exact hb
    · intro j V' hj hV' hSj c hc e he
      simp only [Nat.zero_add] at hSj
      have hdj : isDep D j k = false := by
        cases hd : isDep D j k with
        | false => rfl
        | true => have := dep_lt T.deps k o ho j hd; omega
      obtain ⟨hjk, o', ho', hkj⟩ := hoth j V' hV' hSj hdj
      exact apart_names T ho' hV' ho hU hjk hdj hkj c hc e he
  · intro d hd
    rw [app_us] at hd
    simp only [St.behind, Bool.or_eq_true, List.any_eq_true, List.mem_range, Bool.and_eq_true] at hd ⊢
    rcases hd with (hd | ⟨j, hj, hSj, ht⟩) | hd
    · exact .inl hd
    · exact .inr ⟨j, hj, .inr hSj, ht⟩
    · refine .inr ⟨k, (List.getElem?_eq_some_iff.1 hU).1, .inl (by simp), ?_⟩
      rw [hU]; simpa using hd

theorem collect_none {nx : Nat} : ∀ (Us : List Upd) (k : Nat), collect nx (fun _ => false) k Us = []
  | [], _ => rfl
  | U :: Us, k => by simp [collect, collect_none Us (k + 1)]

theorem foldl_gh : ∀ (Us : List Upd) (σ : St), (Us.foldl Upd.app σ).gh = σ.gh
  | [], _ => rfl
  | U :: Us, σ => by rw [List.foldl_cons, foldl_gh Us, app_gh]

/-- Behind all of them: as in text order. -/
theorem behind_all (T : Told C ops D σ Us) {S : Nat → Bool} (hS : ∀ j, j < ops.length → S j = true) (hS' : ∀ j, ops.length ≤ j → S j = false) : Wk C (σ.behind ops Us S) (Us.foldl Upd.app σ) := by
  have hSe : S = fun j => decide (j < Us.length) := by
    funext j
    rw [T.len]
    by_cases h : j < ops.length
    · rw [hS j h]; simp [h]
    · rw [hS' j (by omega)]; simp [h]
  -- the first m of them
  have key : ∀ m, m ≤ Us.length → (∀ t p, (∀ (j : Nat) (o : Oper), m ≤ j → ops[j]? = some o → o.dst ≠ some t) → ((Us.take m).foldl Upd.app σ).fr t = some p → frAt σ.nx (fun j => decide (j < m)) (fun _ => true) σ.fr 0 ops Us t = some p) ∧
      (∀ i b, ((Us.take m).foldl Upd.app σ).H i = some b → applyC σ.H (collect σ.nx (fun j => decide (j < m)) 0 Us) i = some b) ∧
      (∀ d, (σ.us d = true ∨ ∃ j, j < m ∧ (Us[j]?).any (·.tag == some d) = true) → ((Us.take m).foldl Upd.app σ).us d = true) ∧ ((Us.take m).foldl Upd.app σ).nx = σ.nx := by
    intro m
    induction m with
    | zero =>
      intro _
      refine ⟨fun t p hno hp => ?_, fun i b hb => ?_, fun d hd => ?_, rfl⟩
      · rw [frAt_miss ops 0 Us fun j o ho => hno j o (Nat.zero_le _) ho]
        simpa using hp
      · simp only [Nat.not_lt_zero, decide_false, collect_none]
        simpa [applyC] using hb
      · rcases hd with hd | ⟨j, hj, _⟩
        · simpa using hd
        · omega
    | succ m ih =>
      intro hm
      obtain ⟨ih1, ih2, ih3, ih4⟩ := ih (by omega)
      have hU : Us[m]? = some Us[m] := List.getElem?_eq_getElem (by omega)
      generalize Us[m] = U at hU
      obtain ⟨o, ho⟩ := oper_of T hU
      obtain ⟨hud, huc⟩ := opU_chg (told_op T ho hU).1
      rw [List.take_add_one, hU]
      simp only [Option.toList_some, List.foldl_append, List.foldl_cons, List.foldl_nil]
      refine ⟨fun t p hno hp => ?_, fun i b hb => ?_, fun d hd => ?_, ?_⟩
      · rw [app_fr, ih4] at hp
        split at hp
        · rename_i hd
          rw [frAt_hit ops 0 Us m o ho (by rw [← hud]; exact hd) fun i o' hi ho' hd' => absurd (dstsOk_spec T.dsts ho' ho hd' (by rw [← hud]; exact hd)) (by omega)]
          simp [hU, hp]
        · rename_i hd
          have h1 := ih1 t p (fun j o' hj ho' => by
            rcases Nat.eq_or_lt_of_le hj with rfl | hj
            · rw [ho] at ho'; cases ho'; rw [← hud]; exact hd
            · exact hno j o' hj ho') hp
          rcases frAt_get T (S := fun j => decide (j < m)) (late := fun _ => true) (t := t) with ⟨j, o', V', ho', hV', hd', he⟩ | ⟨hno', he⟩
          · rw [he] at h1
            split at h1
            · rename_i hjm
              rw [frAt_hit ops 0 Us j o' ho' hd' fun i o'' hi ho'' hd'' => absurd (dstsOk_spec T.dsts ho'' ho' hd'' hd') (by omega)]
              have : j < m + 1 := by have := of_decide_eq_true hjm; omega
              simp [this, hV', h1]
            · rename_i hjm
              have hjm' : m ≤ j := by simpa using hjm
              rcases Nat.eq_or_lt_of_le hjm' with rfl | hlt
              · rw [ho] at ho'; cases ho'; rw [hud] at hd; exact absurd hd' hd
              · exact absurd hd' (hno j o' hlt ho')
          · rw [he] at h1
            rw [frAt_miss ops 0 Us hno']
            exact h1
      · rw [app_H, ih4] at hb
        have := applyC_mono (U.chg σ.nx) ih2 i b hb
        rw [collect_add (S := fun j => decide (j < m)) (S' := fun j => decide (j < m + 1)) i Us 0 m σ.H hU (by simp) (by simp) (fun j hj => by simp; omega) (fun j V hj _ hs => by simp at hs; omega)] at this
        exact this
      · rw [app_us]
        rcases hd with hd | ⟨j, hj, ht⟩
        · rw [ih3 d (.inl hd)]; rfl
        · rcases Nat.eq_or_lt_of_le (Nat.lt_succ_iff.1 hj) with rfl | hj
          · rw [hU] at ht
            simp only [Option.any_some] at ht
            rw [ht]; simp
          · rw [ih3 d (.inr ⟨j, hj, ht⟩)]; rfl
      · rw [app_nx]; exact ih4
  obtain ⟨h1, h2, h3, h4⟩ := key Us.length (Nat.le_refl _)
  rw [List.take_length] at h1 h2 h3 h4
  refine Wk.of_le ⟨fun t p hp => ?_, fun i b hb => ?_, fun d hd => ?_, h4.symm, fun t p hp => by rw [foldl_gh] at hp; exact hp⟩
  · simp only [St.behind, hSe]
    exact h1 t p (fun j o hj ho => by have := (List.getElem?_eq_some_iff.1 ho).1; rw [T.len] at hj; omega) hp
  · simp only [St.behind, hSe]
    exact h2 i b hb
  · simp only [St.behind, Bool.or_eq_true, List.any_eq_true, List.mem_range, Bool.and_eq_true] at hd
    refine h3 d (hd.imp id ?_)
    rintro ⟨j, hj, _, ht⟩
    exact ⟨j, hj, ht⟩

theorem Rel.drawn (h : Rel C σ a w) : Rel C σ a { w with drawn := w.drawn + 1 } := by
  obtain ⟨φ, F0, F1, h⟩ := h
  exact ⟨φ, F0, F1, h.below ⟨rfl, rfl, rfl, Nat.le_refl _, fun _ _ => rfl⟩⟩

theorem region_any {id : Nat} {Q : St → Prop} {Q' : Exit → Act → World → Prop} (hm : C.P.follows .mixedOrders = true) (hQ : ∀ σ a w, Rel C σ a w → Q σ → Q' .normal a w) (hd : depOk ops D = true) (hs : dstsOk ops = true)
    (h : Rel C σ a w) (hr : anyRun C ops D σ 0 ops [] Q) : (Code.region id ops.toArray true).wpIn (fz C) 0 C.P Q' a w := by
  obtain ⟨Us, T, hq⟩ := anyRun_told hd hs hr
  have done : ∀ (listed : Array Bool), listed.size = ops.length → Region.ready .any ops.toArray listed = [] → ∀ j, j < ops.length → listed.getD j false = true := by
    intro listed hsz hrd j
    induction j using Nat.strongRecOn with
    | _ j ih =>
      intro hj
      apply Classical.byContradiction
      intro hne
      have ho : ops[j]? = some ops[j] := List.getElem?_eq_getElem hj
      have : j ∈ Region.ready .any ops.toArray listed := by
        refine mem_ready.2 ⟨?_, ops[j], by simp [ho], fun e he hb => ?_⟩
        · have hj' : j < listed.size := by omega
          simp only [Array.getD_eq_getD_getElem?, Array.getElem?_eq_getElem hj', Option.getD_some] at hne ⊢
          simpa using hne
        · have := (depOk_spec hd ho).1 e he hb
          exact ih e.on this (by omega)
      rw [hrd] at this
      cases this
  have key : ∀ (fuel : Nat) (listed : Array Bool) (a : Act) (w : World), listed.size = ops.length → listed.toList.count false = fuel → Shut ops (fun j => listed.getD j false) → Rel C (σ.behind ops Us fun j => listed.getD j false) a w →
      wpAnyIn (fz C) 0 C.P .any ops.toArray Q' fuel listed a w := by
    intro fuel
    have fin : ∀ (listed : Array Bool) (a : Act) (w : World), listed.size = ops.length → Rel C (σ.behind ops Us fun j => listed.getD j false) a w → Region.ready .any ops.toArray listed = [] → Q' .normal a w := by
      intro listed a w hsz hR hrd
      refine hQ _ _ _ (behind_all T (done listed hsz hrd) (fun j hj => ?_) C (.refl _) a w hR) hq
      simp [Array.getD_eq_getD_getElem?, Array.getElem?_eq_none (show listed.size ≤ j by omega)]
    induction fuel with
    | zero =>
      intro listed a w hsz hc hsh hR
      have hrd : Region.ready .any ops.toArray listed = [] := by
        cases hrd : Region.ready .any ops.toArray listed with
        | nil => rfl
        | cons j l =>
          have hj : j ∈ Region.ready .any ops.toArray listed := by rw [hrd]; simp
          have h0 := (mem_ready.1 hj).1
          obtain ⟨o, ho, _⟩ := (mem_ready.1 hj).2
          have hj' : j < listed.size := by
            have := (Array.getElem?_eq_some_iff.1 ho).1
            simp at this; omega
          simp only [Array.getD_eq_getD_getElem?, Array.getElem?_eq_getElem hj', Option.getD_some] at h0
          have := List.count_pos_iff.2 (show false ∈ listed.toList by rw [← h0]; simp)
          omega
      exact ⟨hrd, fin listed a w hsz hR hrd⟩
    | succ fuel ih =>
      intro listed a w hsz hc hsh hR
      refine ⟨fin listed a w hsz hR, fun j hj => ?_⟩
      obtain ⟨h0, o, ho, hall⟩ := mem_ready.1 hj
      have ho' : ops[j]? = some o := by simpa using ho
      have hjl := (List.getElem?_eq_some_iff.1 ho').1
      have hj' : j < listed.size := by omega
      obtain ⟨U, hU⟩ := upd_of T ho'
      have hjf : listed.getD j false = false := by
        simp only [Array.getD_eq_getD_getElem?, Array.getElem?_eq_getElem hj', Option.getD_some] at h0 ⊢
        exact h0
      have hset : ∀ i, (listed.setIfInBounds j true).getD i false = (i == j || listed.getD i false) := by
        intro i
        by_cases hij : i = j
        · subst hij
          simp [Array.getD_eq_getD_getElem?, Array.getElem?_setIfInBounds_self_of_lt hj']
        · simp [Array.getD_eq_getD_getElem?, Array.getElem?_setIfInBounds_ne (Ne.symm hij), hij]
      unfold wpOpIn
      rw [show ops.toArray[j]? = some o from ho]
      simp only
      rw [if_pos (by simp [Region.wanted, (depOk_spec hd ho').2.2])]
      refine behind_step T ho' hU hsh hjf hall hR fun a' w' hR' => ih _ a' w' (by simpa using hsz) ?_ ?_ ?_
      · have hjt : j < listed.toList.length := by simpa using hj'
        have h0' : listed[j] = false := by
          simpa only [Array.getD_eq_getD_getElem?, Array.getElem?_eq_getElem hj', Option.getD_some] using h0
        have : (listed.setIfInBounds j true).toList = listed.toList.set j true := by simp
        rw [this, List.count_set hjt]
        simp [h0', hc]
      · intro k o'' ho'' hk e he hb
        simp only [hset, Bool.or_eq_true, beq_iff_eq] at hk ⊢
        rcases hk with rfl | hk
        · rw [ho'] at ho''; cases ho''
          exact .inr (hall e he hb)
        · exact .inr (hsh k o'' ho'' hk e he hb)
      · simpa only [hset] using hR'
  refine wpIn_region_any hm (key _ _ a _ (by simp) (by simp) ?_ ?_)
  · intro k o ho hk
    simp only [Array.getD_eq_getD_getElem?, Array.getElem?_replicate] at hk
    split at hk <;> simp at hk
  · refine Rel.of_le (σ := σ) (τ := σ.behind ops Us fun j => (Array.replicate ops.toArray.size false).getD j false) ⟨fun t p hp => ?_, fun i b hb => ?_, fun d hd => ?_, rfl, fun _ _ e => e⟩ h.drawn
    · rcases frAt_get T (S := fun j => (Array.replicate ops.toArray.size false).getD j false) (late := fun _ => true) (t := t) with ⟨j, o, U, _, _, _, he⟩ | ⟨_, he⟩
      · simp only [St.behind] at hp
        rw [he] at hp
        simp only [Array.getD_eq_getD_getElem?, Array.getElem?_replicate] at hp
        split at hp <;> simpa using hp
      · simp only [St.behind] at hp
        rw [he] at hp
        exact hp
    · have hv : (fun j => (Array.replicate ops.toArray.size false).getD j false) = fun _ => false := by
        funext j
        simp only [Array.getD_eq_getD_getElem?, Array.getElem?_replicate]
        split <;> rfl
      simp only [St.behind, hv, collect_none] at hb
      exact hb
    · simp only [St.behind, hd, Bool.true_or]

theorem vwp_any {id : Nat} {Q : Post} (hm : C.P.follows .mixedOrders = true) (hd : depOk ops D = true) (hs : dstsOk ops = true) (h : anyRun C ops D σ 0 ops [] (Q .normal)) : vwp C (.region id ops.toArray true) Q σ :=
  fun C₁ l a w r => region_any (C := C₁) (Q := Q .normal) (by rw [l.P]; exact hm) (fun σ a w r q => ⟨C₁, σ, .refl _, r, q⟩) hd hs r (by rw [l.core]; exact h)

theorem vwp_seq_any {id : Nat} {Q : Post} {y : Code} (hm : C.P.follows .mixedOrders = true) (D : List (List Nat)) (hd : depOk ops D = true) (hs : dstsOk ops = true) (h : ∀ K : St → Prop, (∀ σ, vwp C y Q σ → K σ) → anyRun C ops D σ 0 ops [] K) :
    vwp C (.seq (.region id ops.toArray true) y) Q σ :=
  vwp_seq fun K hK => vwp_any hm hd hs (h K hK)
end
end Go.Vm
end

section
namespace Go.Vm
open Go Go.RowKit
set_option linter.unusedVariables false

/-! ### Regions that draw their order, with what each operation waits for told beforehand -/
inductive Sr where
  | dep (j : Nat)
  | old
  | dead

def frF (nx : Nat) (fr : Nat → Option PV) (Us : List Upd) : List (Nat × Sr) → Nat → Option PV
  | [], t => fr t
  | (d, .dep j) :: l, t => if t = d then (Us[j]?).bind (Upd.v nx) else frF nx fr Us l t
  | (d, .old) :: l, t => if t = d then fr t else frF nx fr Us l t
  | (d, .dead) :: l, t => if t = d then none else frF nx fr Us l t

def maskF (nx : Nat) : List Nat → Id → Bool
  | [], _ => false
  | d :: l, i => i.1 == nx + d || maskF nx l i

def chgAt (nx : Nat) : Option Upd → List (Id × Option Blk)
  | some U => U.chg nx
  | none => []

def collectF (nx : Nat) (Us : List Upd) : List Nat → List (Id × Option Blk)
  | [] => []
  | j :: l => chgAt nx Us[j]? ++ collectF nx Us l

def HF (σ : St) (Us : List Upd) (b dk : List Nat) (rd : Bool) (i : Id) : Option Blk :=
  if rd then (if maskF σ.nx b i then none else applyC σ.H (collectF σ.nx Us dk) i) else none

abbrev Info := List (Nat × Sr) × List Nat × List Nat

def finF (σ : St) : List Upd → St
  | [] => σ
  | U :: Us => U.app (finF σ Us)

/-- Us: what has been told, the last one first. -/
def anyRunF (C : Core) (ops : List Oper) (D : List (List Nat)) (σ : St) : List Info → List Oper → List Upd → (St → Prop) → Prop
  | [], [], Us, Q => orderOk ops D Us.reverse = true ∧ Q (finF σ Us)
  | (r, b, dk) :: I, o :: rest, Us, Q => opK C σ.nx (ev (frF σ.nx σ.fr Us r)) (HF σ Us b dk (reads o.op)) o.dst o.op (hold (fun U => U.fresh σ ∧ anyRunF C ops D σ I rest (U :: Us) Q) (tok _))
  | _, _, _, _ => False

def rdFrom (D : List (List Nat)) (k : Nat) : Nat → List Oper → List (Nat × Sr)
  | _, [] => []
  | j, o :: ops =>
    match o.dst with
    | some d => (d, if isDep D j k then .dep j else if isDep D k j then .old else .dead) :: rdFrom D k (j + 1) ops
    | none => rdFrom D k (j + 1) ops

def badFrom (D : List (List Nat)) (k : Nat) : Nat → List Oper → List Nat
  | _, [] => []
  | j, o :: ops =>
    match o.dst with
    | some d => if !isDep D j k && j != k then d :: badFrom D k (j + 1) ops else badFrom D k (j + 1) ops
    | none => badFrom D k (j + 1) ops

def depsFrom (D : List (List Nat)) (k : Nat) : Nat → Nat → List Nat
  | _, 0 => []
  | j, n + 1 => if isDep D j k then j :: depsFrom D k (j + 1) n else depsFrom D k (j + 1) n

def flipS (k : Nat) : Sr → Sr
  | .dep j => .dep (k - 1 - j)
  | .old => .old
  | .dead => .dead

def infoFrom (ops : List Oper) (D : List (List Nat)) : Nat → Nat → List Info
  | _, 0 => []
  | k, n + 1 => ((rdFrom D k 0 ops).map fun e => (e.1, flipS k e.2), badFrom D k 0 ops, (depsFrom D k 0 ops.length).map (k - 1 - ·)) :: infoFrom ops D (k + 1) n

theorem frF_eq {nx : Nat} {fr : Nat → Option PV} {Us : List Upd} {D : List (List Nat)} {k t : Nat} : ∀ (ops : List Oper) (j : Nat), frAt nx (isDep D · k) (isDep D k) fr j ops (Us.drop j) t = frF nx fr Us (rdFrom D k j ops) t
  | [], j => rfl
  | o :: ops, j => by
    have ih := frF_eq (nx := nx) (fr := fr) (Us := Us) (D := D) (k := k) (t := t) ops (j + 1)
    have ht : (Us.drop j).tail = Us.drop (j + 1) := by rw [List.tail_drop]
    have hh : (Us.drop j).head? = Us[j]? := by rw [List.head?_drop]
    simp only [frAt, rdFrom, ht, hh]
    cases hd : o.dst with
    | none => simp only [reduceCtorEq, if_false]; exact ih
    | some d =>
      simp only [Option.some.injEq]
      by_cases htd : d = t
      · subst htd
        simp only [if_true]
        cases h1 : isDep D j k with
        | true => simp only [if_true, frF]
        | false =>
          cases h2 : isDep D k j with
          | true => simp only [if_true, Bool.false_eq_true, if_false, frF]
          | false => simp only [Bool.false_eq_true, if_false, frF, if_true]
      · have htd' : ¬ t = d := fun e => htd e.symm
        simp only [if_neg htd]
        cases h1 : isDep D j k with
        | true => simp only [if_true, frF, if_neg htd']; exact ih
        | false =>
          cases h2 : isDep D k j with
          | true => simp only [if_true, Bool.false_eq_true, if_false, frF, if_neg htd']; exact ih
          | false => simp only [Bool.false_eq_true, if_false, frF, if_neg htd']; exact ih

theorem maskF_eq {nx : Nat} {D : List (List Nat)} {k : Nat} {i : Id} : ∀ (ops : List Oper) (j : Nat), masked nx D k j ops i = maskF nx (badFrom D k j ops) i
  | [], j => rfl
  | o :: ops, j => by
    have ih := maskF_eq (nx := nx) (D := D) (k := k) (i := i) ops (j + 1)
    simp only [masked, badFrom]
    cases hd : o.dst with
    | none => simp only [Bool.false_or]; exact ih
    | some d =>
      simp only
      cases h1 : (!isDep D j k && j != k) with
      | true =>
        simp only [if_true, maskF, Bool.and_assoc, h1, Bool.and_true, ih]
      | false =>
        simp only [Bool.false_eq_true, if_false, Bool.and_assoc, h1, Bool.and_false, Bool.false_or, ih]

theorem collectF_eq {nx : Nat} {Us : List Upd} {D : List (List Nat)} {k : Nat} : ∀ (n j : Nat), Us.length ≤ j + n → collect nx (isDep D · k) j (Us.drop j) = collectF nx Us (depsFrom D k j n)
  | 0, j, h => by rw [List.drop_eq_nil_of_le (by omega)]; rfl
  | n + 1, j, h => by
    have ih := collectF_eq (nx := nx) (Us := Us) (D := D) (k := k) n (j + 1) (by omega)
    simp only [depsFrom]
    by_cases hj : j < Us.length
    · rw [List.drop_eq_getElem_cons hj, collect, ih]
      cases isDep D j k with
      | true => simp only [if_true, collectF, chgAt, List.getElem?_eq_getElem hj]
      | false => simp only [Bool.false_eq_true, if_false, List.nil_append]
    · have hn : Us[j]? = none := List.getElem?_eq_none (by omega)
      rw [List.drop_eq_nil_of_le (by omega)] at ih ⊢
      cases isDep D j k with
      | true =>
        simp only [if_true, collectF, chgAt, hn, List.nil_append]
        exact ih
      | false =>
        simp only [Bool.false_eq_true, if_false]
        exact ih

section
variable {C : Ctx} {σ : St} {ops : List Oper} {D : List (List Nat)}

theorem finF_eq (σ : St) : ∀ Us : List Upd, finF σ Us = Us.reverse.foldl Upd.app σ
  | [] => rfl
  | U :: Us => by rw [finF, finF_eq σ Us, List.reverse_cons, List.foldl_append]; rfl

theorem rdFrom_dep {k : Nat} : ∀ (l : List Oper) (j0 : Nat), ∀ e ∈ rdFrom D k j0 l, ∀ j, e.2 = .dep j → isDep D j k = true
  | [], j0, e, he, j, _ => by simp [rdFrom] at he
  | o :: l, j0, e, he, j, hj => by
    simp only [rdFrom] at he
    split at he
    · rcases List.mem_cons.1 he with rfl | he
      · simp only at hj
        split at hj
        · rename_i h1; cases hj; exact h1
        · split at hj <;> cases hj
      · exact rdFrom_dep l (j0 + 1) e he j hj
    · exact rdFrom_dep l (j0 + 1) e he j hj

theorem depsFrom_dep {k : Nat} : ∀ (n j0 : Nat), ∀ j ∈ depsFrom D k j0 n, isDep D j k = true
  | 0, j0, j, hj => by simp [depsFrom] at hj
  | n + 1, j0, j, hj => by
    simp only [depsFrom] at hj
    split at hj
    · rename_i h
      rcases List.mem_cons.1 hj with rfl | hj
      · exact h
      · exact depsFrom_dep n (j0 + 1) j hj
    · exact depsFrom_dep n (j0 + 1) j hj

theorem frF_flip {nx : Nat} {fr : Nat → Option PV} {Us V : List Upd} {k t : Nat} (hV : ∀ j, j < k → V[k - 1 - j]? = Us[j]?) : ∀ (r : List (Nat × Sr)), (∀ e ∈ r, ∀ j, e.2 = .dep j → j < k) → frF nx fr V (r.map fun e => (e.1, flipS k e.2)) t = frF nx fr Us r t
  | [], _ => rfl
  | (d, s) :: r, h => by
    have ih := frF_flip (nx := nx) (fr := fr) (t := t) hV r fun e he => h e (List.mem_cons_of_mem _ he)
    cases s with
    | dep j =>
      have hj := h (d, .dep j) (by simp) j rfl
      show (if t = d then (V[k - 1 - j]?).bind (Upd.v nx) else frF nx fr V (r.map fun e => (e.1, flipS k e.2)) t) = (if t = d then (Us[j]?).bind (Upd.v nx) else frF nx fr Us r t)
      rw [hV j hj, ih]
    | old =>
      show (if t = d then fr t else frF nx fr V (r.map fun e => (e.1, flipS k e.2)) t) = (if t = d then fr t else frF nx fr Us r t)
      rw [ih]
    | dead =>
      show (if t = d then none else frF nx fr V (r.map fun e => (e.1, flipS k e.2)) t) = (if t = d then none else frF nx fr Us r t)
      rw [ih]

theorem collectF_flip {nx : Nat} {Us V : List Upd} {k : Nat} (hV : ∀ j, j < k → V[k - 1 - j]? = Us[j]?) : ∀ (l : List Nat), (∀ j ∈ l, j < k) → collectF nx V (l.map (k - 1 - ·)) = collectF nx Us l
  | [], _ => rfl
  | j :: l, h => by
    have ih := collectF_flip (nx := nx) hV l fun i hi => h i (List.mem_cons_of_mem _ hi)
    simp only [List.map_cons, collectF, hV j (h j (by simp)), ih]

theorem anyRunF_ok {Q : St → Prop} (hdep : depOk ops D = true) : ∀ (rest : List Oper) (k : Nat) (V : List Upd), V.length = k → (∀ j, rest[j]? = ops[k + j]?) → k + rest.length = ops.length → anyRunF C ops D σ (infoFrom ops D k rest.length) rest V Q → anyRun C ops D σ k rest V.reverse Q
  | [], k, V, _, _, _, h => by
    simp only [List.length_nil, infoFrom, anyRunF, finF_eq] at h
    exact h
  | o :: rest, k, V, hl, hr, hn, h => by
    simp only [List.length_cons, infoFrom, anyRunF] at h
    have ho : ops[k]? = some o := by have := hr 0; simpa using this.symm
    have hlt : ∀ j, isDep D j k = true → j < k := fun j hj => dep_lt hdep k o ho j hj
    have hV : ∀ j, j < k → V[k - 1 - j]? = V.reverse[j]? := by
      intro j hj
      rw [List.getElem?_reverse (by omega), hl]
    have e1 : frF σ.nx σ.fr V ((rdFrom D k 0 ops).map fun e => (e.1, flipS k e.2)) = frAt σ.nx (isDep D · k) (isDep D k) σ.fr 0 ops V.reverse := funext fun t => by
      rw [frF_flip hV _ fun e he j hj => hlt j (rdFrom_dep ops 0 e he j hj)]
      have := frF_eq (nx := σ.nx) (fr := σ.fr) (Us := V.reverse) (D := D) (k := k) (t := t) ops 0
      rw [List.drop_zero] at this
      exact this.symm
    have e2 : HF σ V (badFrom D k 0 ops) ((depsFrom D k 0 ops.length).map (k - 1 - ·)) (reads o.op) = HAt σ ops D V.reverse k (reads o.op) := funext fun i => by
      have h1 := maskF_eq (nx := σ.nx) (D := D) (k := k) (i := i) ops 0
      have h2 := collectF_eq (nx := σ.nx) (Us := V.reverse) (D := D) (k := k) ops.length 0 (by simp at hn ⊢; omega)
      rw [List.drop_zero] at h2
      unfold HF HAt
      rw [h1, h2, collectF_flip hV _ fun j hj => hlt j (depsFrom_dep _ _ j hj)]
    rw [e1, e2] at h
    obtain ⟨U, hU, hf, hn'⟩ := opK_elim h
    have := anyRunF_ok hdep rest (k + 1) (U :: V) (by simp [hl]) (fun j => by have := hr (j + 1); simpa [Nat.add_assoc, Nat.add_comm 1 j] using this) (by simp at hn; omega) hn'
    rw [List.reverse_cons] at this
    have key : opK C σ.nx (ev (frAt σ.nx (isDep D · k) (isDep D k) σ.fr 0 ops V.reverse)) (HAt σ ops D V.reverse k (reads o.op)) o.dst o.op fun U => U.fresh σ ∧ anyRun C ops D σ (k + 1) rest (V.reverse ++ [U]) Q := opK_mono (fun W hW => by subst hW; exact ⟨hf, this⟩) hU
    exact key

theorem vwp_anyF {id : Nat} {Q : Post} (D : List (List Nat)) (I : List Info) (hm : C.P.follows .mixedOrders = true) (hd : depOk ops D = true) (hs : dstsOk ops = true) (hI : infoFrom ops D 0 ops.length = I) (h : anyRunF C ops D σ I ops [] (Q .normal)) : vwp C (.region id ops.toArray true) Q σ :=
  vwp_any hm hd hs (anyRunF_ok hd ops 0 [] rfl (by simp) (by simp) (hI ▸ h))

theorem vwp_seq_anyF {id : Nat} {Q : Post} {y : Code} (D : List (List Nat)) (I : List Info) (hm : C.P.follows .mixedOrders = true) (hd : depOk ops D = true) (hs : dstsOk ops = true) (hI : infoFrom ops D 0 ops.length = I) (h : ∀ K : St → Prop, (∀ σ, vwp C y Q σ → K σ) → anyRunF C ops D σ I ops [] K) : vwp C (.seq (.region id ops.toArray true) y) Q σ :=
  vwp_seq_any hm D hd hs fun K hK => anyRunF_ok hd ops 0 [] rfl (by simp) (by simp) (hI ▸ h K hK)
end
end Go.Vm
end

section
namespace Go.Vm
open Go Go.RowKit
set_option linter.unusedVariables false

theorem upd_app {α β : Type} [DecidableEq α] (f : α → β) (i : α) (b : β) (j : α) : upd f i b j = if j = i then b else f j := rfl

theorem bindB_nil (s : Nat) (H : Id → Option Blk) : bindB s [] H = H := by funext i; simp [bindB]
theorem bindB_one (s : Nat) (b : Blk) (H : Id → Option Blk) : bindB s [b] H = upd H (s, 0) (some (b.ren s)) := by
  funext ⟨i1, i2⟩
  simp only [bindB, upd]
  by_cases h : i1 = s
  · subst h
    cases i2 with
    | zero => simp
    | succ i2 => simp
  · simp [h]

/-! ### States, told by lists -/
def lookF (t : Nat) : List (Nat × PV) → Option PV
  | [] => none
  | (k, p) :: l => if t = k then some p else lookF t l
def lookH (i : Id) : List (Id × Blk) → Option Blk
  | [] => none
  | (k, b) :: l => if i = k then some b else lookH i l
def inU (d : Nat) : List Nat → Bool
  | [] => false
  | k :: l => if d = k then true else inU d l

def St.of (fr : List (Nat × PV)) (H : List (Id × Blk)) (u : List Nat) : St := ⟨fun t => lookF t fr, fun i => lookH i H, fun d => inU d u, 1, fun _ => none⟩

theorem lookF_mem {t : Nat} {p : PV} : ∀ {l : List (Nat × PV)}, lookF t l = some p → (t, p) ∈ l
  | [], h => by simp [lookF] at h
  | (k, q) :: l, h => by
    simp only [lookF] at h
    split at h
    · rename_i hk; subst hk; cases h; simp
    · exact List.mem_cons_of_mem _ (lookF_mem h)
theorem lookH_mem {i : Id} {b : Blk} : ∀ {l : List (Id × Blk)}, lookH i l = some b → (i, b) ∈ l
  | [], h => by simp [lookH] at h
  | (k, q) :: l, h => by
    simp only [lookH] at h
    split at h
    · rename_i hk; subst hk; cases h; simp
    · exact List.mem_cons_of_mem _ (lookH_mem h)
theorem inU_mem {d : Nat} : ∀ {l : List Nat}, d ∈ l → inU d l = true
  | k :: l, h => by
    simp only [inU]
    split
    · rfl
    · rename_i hk
      exact inU_mem ((List.mem_cons.1 h).resolve_left hk)

/-- Weaker, by names anew (m: old, new), some rows frozen (z). -/
theorem wk_conv {C : Ctx} {σ : St} (z : List Id) (m : List (Id × Id)) {fr : List (Nat × PV)} {H : List (Id × Blk)} {u : List Nat}
    (hm1 : (m.map (·.1)).Nodup) (hm2 : (m.map (·.2)).Nodup) (hu : ∀ e ∈ m, (e.2.1 = 0 ∧ e.1 = e.2) ∨ ∃ d ∈ u, e.2.1 = 1 + d)
    (hf : ∀ e ∈ fr, ∃ p, σ.fr e.1 = some p ∧ ConvV σ.H (· ∈ z) (fun i j => (i, j) ∈ m) p e.2)
    (hH : ∀ e ∈ H, ∃ i b, (i, e.1) ∈ m ∧ i ∉ z ∧ σ.H i = some b ∧ ConvB σ.H (· ∈ z) (fun i j => (i, j) ∈ m) b e.2) : Wk C σ (St.of fr H u) := by
  rintro C₁ l a w ⟨φ, F0, F1, h⟩
  have i1 : ∀ {l : List (Id × Id)}, (l.map (·.2)).Nodup → ∀ i i' j, (i, j) ∈ l → (i', j) ∈ l → i = i' := by
    intro l
    induction l with
    | nil => intro _ i i' j h; simp at h
    | cons c l ih =>
      intro hn i i' j h1 h2
      simp only [List.map_cons, List.nodup_cons, List.mem_map, not_exists, not_and] at hn
      rcases List.mem_cons.1 h1 with e1 | e1 <;> rcases List.mem_cons.1 h2 with e2 | e2
      · rw [← e1] at e2; cases e2; rfl
      · exact absurd (by rw [← e1]) (hn.1 _ e2)
      · exact absurd (by rw [← e2]) (hn.1 _ e1)
      · exact ih hn.2 i i' j e1 e2
  have i2 : ∀ {l : List (Id × Id)}, (l.map (·.1)).Nodup → ∀ i j j', (i, j) ∈ l → (i, j') ∈ l → j = j' := by
    intro l
    induction l with
    | nil => intro _ i i' j h; simp at h
    | cons c l ih =>
      intro hn i j j' h1 h2
      simp only [List.map_cons, List.nodup_cons, List.mem_map, not_exists, not_and] at hn
      rcases List.mem_cons.1 h1 with e1 | e1 <;> rcases List.mem_cons.1 h2 with e2 | e2
      · rw [← e1] at e2; cases e2; rfl
      · exact absurd (by rw [← e1]) (hn.1 _ e2)
      · exact absurd (by rw [← e2]) (hn.1 _ e1)
      · exact ih hn.2 i j j' e1 e2
  obtain ⟨φ', F0', F1', hR, _⟩ := h.conv (τ := St.of fr H u) (· ∈ z) (fun i j => (i, j) ∈ m) (i1 hm2) (i2 hm1) (fun t p hp => hf (t, p) (lookF_mem hp)) (fun t p hp => by cases hp) (fun j b hb => hH (j, b) (lookH_mem hb))
    (fun i j hg => (hu (i, j) hg).elim (fun hh => .inl (by simp only [St.of]; have := hh.1; simp only at this; omega)) fun ⟨d, hd, hj⟩ => .inr ⟨d, inU_mem hd, hj⟩) (Nat.le_refl _) C₁.φi (fun i j u hg hj hu' => (hu (i, j) hg).elim (fun hh => by
      have e : i = j := hh.2
      subst e
      obtain ⟨i1, i2⟩ := i
      simp only at hj
      subst hj
      exact h.keep i2 u hu') fun ⟨d, _, he⟩ => (by simp only at he; omega))
  exact ⟨φ', F0', F1', hR⟩

section
variable {σ : St} {H : Id → Option Blk} {Z : Id → Prop} {G : Id → Id → Prop}
theorem hf_nil {P : (Nat × PV) → Prop} : ∀ e ∈ ([] : List (Nat × PV)), P e := by simp
theorem hf_cons {t : Nat} {q p : PV} {l : List (Nat × PV)} (h : σ.fr t = some p) (hc : ConvV H Z G p q) (hl : ∀ e ∈ l, ∃ p, σ.fr e.1 = some p ∧ ConvV H Z G p e.2) : ∀ e ∈ (t, q) :: l, ∃ p, σ.fr e.1 = some p ∧ ConvV H Z G p e.2 := by
  intro e he
  rcases List.mem_cons.1 he with rfl | he
  · exact ⟨p, h, hc⟩
  · exact hl e he
theorem hh_nil {P : (Id × Blk) → Prop} : ∀ e ∈ ([] : List (Id × Blk)), P e := by simp
theorem hh_cons {z : List Id} {m : List (Id × Id)} {i j : Id} {b c : Blk} {l : List (Id × Blk)} (hm : (i, j) ∈ m) (hz : i ∉ z) (hb : σ.H i = some b) (hc : ConvB H Z G b c)
    (hl : ∀ e ∈ l, ∃ i b, (i, e.1) ∈ m ∧ i ∉ z ∧ σ.H i = some b ∧ ConvB H Z G b e.2) : ∀ e ∈ (j, c) :: l, ∃ i b, (i, e.1) ∈ m ∧ i ∉ z ∧ σ.H i = some b ∧ ConvB H Z G b e.2 := by
  intro e he
  rcases List.mem_cons.1 he with rfl | he
  · exact ⟨i, b, hm, hz, hb, hc⟩
  · exact hl e he
theorem ConvB.free {b : Blk} (h : PC.frees b.cells = true) : ConvB H Z G b b := by
  cases b with
  | box ty cs => exact .box (ConvL.free h)
  | arr ty z n cs => exact .arr (ConvL.free h)
end

/-! ### Results that bear no names -/
theorem ConvV.self {H : Id → Option Blk} {Z : Id → Prop} {G : Id → Id → Prop} : ∀ {p : PV}, (match p with | .one p => p.free | .agg ps => PC.frees ps | _ => false) = true → ConvV H Z G p p
  | .one p, h => .one (.free h)
  | .agg ps, h => .agg (.free h)
  | .tup _, h => by cases h
  | .may _ _, h => by cases h
theorem ConvVs.self {H : Id → Option Blk} {Z : Id → Prop} {G : Id → Id → Prop} : ∀ {ps : List PV}, PV.frees ps = true → ConvVs H Z G ps ps
  | [], _ => .nil
  | p :: ps, h => by
    simp only [PV.frees, Bool.and_eq_true] at h
    refine .cons ?_ (ConvVs.self h.2)
    cases p with
    | one p => exact .one (.free h.1)
    | agg ps => exact .agg (.free h.1)
    | tup vs => simp [PV.free] at h
    | may b p => simp [PV.free] at h

theorem ret_free {P : Program} {rs : List ResultVar} {r : PV} {σ : St} {vs : List PV} (hv : resOf P σ rs = some vs) (hf : PV.frees vs = true) (hr : pack vs = r) : RetOk P rs r [] σ := by
  subst hr
  refine ⟨vs, fun _ => False, fun _ _ => False, hv, fun _ _ _ h => h.elim, fun _ _ _ h => h.elim, fun _ _ h => h.elim, ?_, by simp⟩
  match vs, hf with
  | [], _ => exact .tup .nil
  | [v], h =>
    simp only [PV.frees, Bool.and_true] at h
    refine ConvV.free h ?_
    rintro vs rfl
    simp [PV.free] at h
  | v :: v' :: vs, h => exact .tup (ConvVs.self h)

theorem splice_zero {α : Type} (xs : List α) : splice xs 0 [] = xs := by simp [splice]
theorem splice_step {α : Type} (x y : α) (xs ys : List α) : splice (x :: xs) 0 (y :: ys) = y :: splice xs 0 ys := by simp [splice, Nat.add_comm]
theorem splice_skip {α : Type} (x : α) (xs ys : List α) (k : Nat) : splice (x :: xs) (k + 1) ys = x :: splice xs k ys := by simp [splice, Nat.add_right_comm]

/-! ### Rows told by a list of anything -/
section
variable {α : Type} (l : List α) (f : α → PC) (g : α → List PC) (s : Nat) (H : Id → Option Blk) (k : Nat)
theorem rens_map : PC.rens s (l.map f) = l.map fun a => (f a).ren s := by induction l with | nil => rfl | cons a l ih => simp only [List.map_cons, PC.rens, ih]
theorem weaks_map : PC.weaks (l.map f) = l.map fun a => (f a).weak := by induction l with | nil => rfl | cons a l ih => simp only [List.map_cons, PC.weaks, ih]
theorem frees_map : PC.frees (l.map f) = l.all fun a => (f a).free := by induction l with | nil => rfl | cons a l ih => simp only [List.map_cons, PC.frees, List.all_cons, ih]
theorem stricts_map : PC.stricts (l.map f) = l.all fun a => (f a).strict := by induction l with | nil => rfl | cons a l ih => simp only [List.map_cons, PC.stricts, List.all_cons, ih]
theorem clo_map : (l.map f).map (clo H k) = l.map fun a => clo H k (f a) := by rw [List.map_map]; rfl
theorem all_tt : (l.all fun _ => true) = true := by induction l with | nil => rfl | cons a l ih => simp only [List.all_cons, ih, Bool.and_self]
theorem rens_append (a b : List PC) : PC.rens s (a ++ b) = PC.rens s a ++ PC.rens s b := by induction a with | nil => rfl | cons x a ih => simp only [List.cons_append, PC.rens, ih]
theorem weaks_append (a b : List PC) : PC.weaks (a ++ b) = PC.weaks a ++ PC.weaks b := by induction a with | nil => rfl | cons x a ih => simp only [List.cons_append, PC.weaks, ih]
theorem frees_append (a b : List PC) : PC.frees (a ++ b) = (PC.frees a && PC.frees b) := by induction a with | nil => rfl | cons x a ih => simp only [List.cons_append, PC.frees, ih, Bool.and_assoc]
theorem stricts_append (a b : List PC) : PC.stricts (a ++ b) = (PC.stricts a && PC.stricts b) := by induction a with | nil => rfl | cons x a ih => simp only [List.cons_append, PC.stricts, ih, Bool.and_assoc]
theorem rens_flatMap : PC.rens s (l.flatMap g) = l.flatMap fun a => PC.rens s (g a) := by induction l with | nil => rfl | cons a l ih => simp only [List.flatMap_cons, rens_append, ih]
theorem weaks_flatMap : PC.weaks (l.flatMap g) = l.flatMap fun a => PC.weaks (g a) := by induction l with | nil => rfl | cons a l ih => simp only [List.flatMap_cons, weaks_append, ih]
theorem frees_flatMap : PC.frees (l.flatMap g) = l.all fun a => PC.frees (g a) := by induction l with | nil => rfl | cons a l ih => simp only [List.flatMap_cons, frees_append, List.all_cons, ih]
theorem stricts_flatMap : PC.stricts (l.flatMap g) = l.all fun a => PC.stricts (g a) := by induction l with | nil => rfl | cons a l ih => simp only [List.flatMap_cons, stricts_append, List.all_cons, ih]
theorem iobs_map (M : List Id) : PC.iobs M s (l.map f) = l.map fun a => (f a).iob M s := by induction l with | nil => rfl | cons a l ih => simp only [List.map_cons, PC.iobs, ih]
theorem iocs_map (M : List Id) : PC.iocs M (l.map f) = l.map fun a => (f a).ioc M := by induction l with | nil => rfl | cons a l ih => simp only [List.map_cons, PC.iocs, ih]
theorem tag0s_map : PC.tag0s (l.map f) = l.all fun a => (f a).tag0 := by induction l with | nil => rfl | cons a l ih => simp only [List.map_cons, PC.tag0s, List.all_cons, ih]
theorem iobs_append (M : List Id) (a b : List PC) : PC.iobs M s (a ++ b) = PC.iobs M s a ++ PC.iobs M s b := by induction a with | nil => rfl | cons x a ih => simp only [List.cons_append, PC.iobs, ih]
theorem iocs_append (M : List Id) (a b : List PC) : PC.iocs M (a ++ b) = PC.iocs M a ++ PC.iocs M b := by induction a with | nil => rfl | cons x a ih => simp only [List.cons_append, PC.iocs, ih]
theorem tag0s_append (a b : List PC) : PC.tag0s (a ++ b) = (PC.tag0s a && PC.tag0s b) := by induction a with | nil => rfl | cons x a ih => simp only [List.cons_append, PC.tag0s, ih, Bool.and_assoc]
theorem iobs_flatMap (M : List Id) : PC.iobs M s (l.flatMap g) = l.flatMap fun a => PC.iobs M s (g a) := by induction l with | nil => rfl | cons a l ih => simp only [List.flatMap_cons, iobs_append, ih]
theorem iocs_flatMap (M : List Id) : PC.iocs M (l.flatMap g) = l.flatMap fun a => PC.iocs M (g a) := by induction l with | nil => rfl | cons a l ih => simp only [List.flatMap_cons, iocs_append, ih]
theorem tag0s_flatMap : PC.tag0s (l.flatMap g) = l.all fun a => PC.tag0s (g a) := by induction l with | nil => rfl | cons a l ih => simp only [List.flatMap_cons, tag0s_append, List.all_cons, ih]
theorem clo_flatMap : (l.flatMap g).map (clo H k) = l.flatMap fun a => (g a).map (clo H k) := by induction l with | nil => rfl | cons a l ih => simp only [List.flatMap_cons, List.map_append, ih]
end

theorem ret_own {P : Program} {rs : List ResultVar} {σ : St} {i : Id} {b : Blk} (hv : resOf P σ rs = some [.one (.own i)]) (hH : σ.H i = some b) (hf : PC.frees b.cells = true) : RetOk P rs (.one (.own (0, 0))) [b] σ := by
  refine ⟨_, fun _ => False, fun j k => j = i ∧ k = (0, 0), hv, fun a a' j h h' => h.1.trans h'.1.symm, fun a j j' h h' => h.2.trans h'.2.symm, fun a j h => by simp [h.2], .one (.own ⟨rfl, rfl⟩), fun j b' hj => ?_⟩
  cases j with
  | succ j => simp at hj
  | zero =>
    simp only [List.getElem?_cons_zero, Option.some.injEq] at hj
    subst hj
    refine ⟨i, b, ⟨rfl, rfl⟩, id, hH, ?_⟩
    cases b with
    | box ty cs => exact .box (ConvL.free hf)
    | arr ty z n cs => exact .arr (ConvL.free hf)

theorem pickB_true (a b : Bool) : pickB true a b = a := rfl
theorem pickB_false (a b : Bool) : pickB false a b = b := rfl
theorem pickB_and (v a : Bool) : pickB v a false = (v && a) := by cases v <;> rfl
theorem pickB_or (v b : Bool) : pickB v true b = (v || b) := by cases v <;> rfl
theorem beq_true' (b : Bool) : (b == true) = b := by cases b <;> rfl
theorem beq_false' (b : Bool) : (b == false) = !b := by cases b <;> rfl

attribute [push_cast] anyRunF finF frF HF maskF collectF chgAt reads Upd.chg Upd.v bchg Bool.and_false Bool.false_and Bool.not_not ne_eq not_false_eq_true hold1 hold2 hold3 Option.isSome_some Option.isSome_none Array.getInternal_eq_getElem List.all_cons List.all_nil Option.isNone_none Option.isNone_some beq_self_eq_true iobs_map iocs_map tag0s_map iobs_append iocs_append tag0s_append iobs_flatMap iocs_flatMap tag0s_flatMap vappS St.iod applyC ioChg outId PC.iob PC.iobs PV.iob PV.iobs Blk.iob PC.ioc PC.iocs PV.ioc Blk.ioc PC.tag0 PC.tag0s PV.tag0 tag0B strictBO nodup pos inId hide gets lowOf highOf vrow isNilC vnil List.getElem_toArray List.getElem_cons_zero List.getElem_cons_succ rowZ rens_map weaks_map frees_map stricts_map clo_map all_tt rens_append weaks_append frees_append stricts_append rens_flatMap weaks_flatMap frees_flatMap stricts_flatMap clo_flatMap List.map_append gcond unm mayK mayD mayAdd mayAddK mayRow mayRowK mayPickK mayCall vpick boolOf pickB_true pickB_false pickB_and pickB_or Bool.not_true Bool.not_false Bool.not_or_self Bool.or_not_self Bool.true_or Bool.or_true Bool.false_or Bool.or_false Bool.true_and Bool.and_true beq_true' beq_false' eqScalar eqFieldsT vbinA vconv valK bytesOf isAggT elemT fieldT isBool placesT placeOf vfill List.getElem?_toArray Option.some.injEq
  seqRun opK vAddK addK heapK mvK callK vAdd ev upd_app St.enter Option.map_some Option.map_none Option.bind_some Option.bind_none PV.cells Upd.fresh Upd.app cst List.getElem?_cons_zero List.getElem?_cons_succ List.getElem?_nil
  Option.getD_some Option.getD_none Nat.zero_add and_true true_and if_true if_false behind Blk.cells takeT callOf argsOf List.drop_zero List.drop_succ_cons List.length_cons List.length_nil Nat.le_refl List.take_succ_cons List.take_zero
  cloV clo List.map_cons List.map_nil List.append_nil List.nil_append List.cons_append PV.frees PV.free PC.frees PC.free PC.weak PC.weaks Bool.and_true Bool.true_and Bool.and_self Prod.mk.injEq asB asI asS vbin vbinI vbinS or_self or_false false_or true_or or_true St.called
  bindB_nil bindB_one PV.ren PC.ren PV.rens PC.rens Blk.ren shiftA vun vstore setB partsOf onesOf vlen lenOk vidx vapp baseOf newsOf kill vcut gslot gval dOk St.skip St.of lookF lookH inU resOf pack
  Bool.false_eq_true Nat.succ_ne_zero strictB PV.strict PV.stricts PC.strict PC.stricts splice_zero splice_step splice_skip
end Go.Vm
end

section
namespace Go.Vm
open Go Go.RowKit
set_option linter.unusedVariables false

/-! ### Contracts that the library gives -/
theorem below_drewN' (w : World) (n : Nat) : Below w.heap.size w (w.drewN n) := ⟨rfl, rfl, rfl, Nat.le_refl _, fun _ _ => rfl⟩

def Alike (gw : World) (gb : Nat) (w : World) : Prop := gb ≤ w.heap.size ∧ ∀ g, g < gb → w.heap[g]? = gw.heap[g]?

section
variable {P : Program} {gw : World} {gb : Nat} {f : FuncId} {φ : Id → Option Value} {w : World} {F : Bool → Nat → Prop}

theorem repVs_plain : ∀ (args : List Value) (xs : List Value), repVs φ w F (args.map fun v => .one (.c v)) xs → xs = args
  | [], xs, h => by simpa only [List.map_nil, repVs] using h
  | v :: args, xs, h => by
    simp only [List.map_cons, repVs, repV, rep] at h
    obtain ⟨x, xs', rfl, ⟨rfl, _⟩, h⟩ := h
    rw [repVs_plain args xs' h]

/-- A callee that takes scalars, and hands back what bears no names. -/
theorem vcall_plain (hc : Callable P f) (args : List Value) (r : PV) (h : ∀ w, Alike gw gb w → Calls P f args.toArray w fun e w' => ∃ x, e = .returned x ∧ Below w.heap.size w w' ∧ ∀ F, repV (fun _ => none) w' F r x) :
    VCall P gw gb f (args.map fun v => .one (.c v)) r [] := by
  refine ⟨hc, fun w xs F hgb hgl hlt hr => ?_⟩
  have hx := repVs_plain _ _ hr
  have hxs : xs = args.toArray := by rw [← hx]
  subst hxs
  refine (h w ⟨hgb, hgl⟩).mono fun e w' he => ?_
  obtain ⟨x, rfl, hb, hr'⟩ := he
  exact ⟨x, fun _ => none, fun _ => False, rfl, hb, fun g hg => hg.elim, hr' _, by simp, by simp, by simp, by simp⟩

/-- A row of scalars, as a callee gets it. -/
theorem row_of {t : Bool} {vs : List Value} {x : Value} (h : rep φ w F (.sl t vs.length (vs.map .c)) x) :
    (∃ b off cap, x = .slice (some ⟨b, off, none⟩) vs.length cap ∧ vs.length ≤ cap ∧ F t b ∧ ∀ j v, vs[j]? = some v → w.cell? ⟨b, off + j, none⟩ = some v) ∨ (vs = [] ∧ ∃ A cap, x = .slice A 0 cap) := by
  simp only [rep] at h
  obtain ⟨A, cap, rfl, hn, h⟩ := h
  rcases h with ⟨h0, _⟩ | ⟨ad, rfl, hF, hr⟩
  · exact .inr ⟨List.eq_nil_of_length_eq_zero h0, A, cap, by rw [h0]⟩
  · cases vs with
    | nil => exact .inr ⟨rfl, some ad, cap, rfl⟩
    | cons v vs =>
      obtain ⟨b, off, spot⟩ := ad
      have h0 := hr
      simp only [List.map_cons, repAt] at h0
      obtain ⟨⟨u, hu, _⟩, _⟩ := h0
      cases spot with
      | some s =>
        unfold World.cell? at hu
        split at hu <;> simp at hu
      | none =>
        refine .inl ⟨b, off, cap, rfl, hn, hF, fun j u hj => ?_⟩
        obtain ⟨y, hy, hry⟩ := repAt_get _ _ hr j (.c u) (by rw [List.getElem?_map, hj]; rfl)
        simp only [rep] at hry
        rw [hry.1] at hy
        rw [Addr.add_lit] at hy
        exact hy

/-- A callee that takes a row of scalars, then scalars. -/
theorem vcall_row (hc : Callable P f) (vs args : List Value) (r : PV)
    (h : ∀ w b off cap, Alike gw gb w → b < w.heap.size → vs.length ≤ cap → (∀ j v, vs[j]? = some v → w.cell? ⟨b, off + j, none⟩ = some v) →
      Calls P f (#[.slice (some ⟨b, off, none⟩) vs.length cap] ++ args.toArray) w fun e w' => ∃ x, e = .returned x ∧ Below w.heap.size w w' ∧ ∀ F, repV (fun _ => none) w' F r x)
    (h0 : vs = [] → ∀ w A cap, Alike gw gb w → Calls P f (#[.slice A 0 cap] ++ args.toArray) w fun e w' => ∃ x, e = .returned x ∧ Below w.heap.size w w' ∧ ∀ F, repV (fun _ => none) w' F r x) :
    VCall P gw gb f (.one (.sl false vs.length (vs.map .c)) :: args.map fun v => .one (.c v)) r [] := by
  refine ⟨hc, fun w xs F hgb hgl hlt hr => ?_⟩
  simp only [repVs, repV] at hr
  obtain ⟨x, xs', hx, hrow, hr⟩ := hr
  have hx' := repVs_plain _ _ hr
  subst hx'
  have hxs : xs = #[x] ++ xs'.toArray := by
    apply Array.toList_inj.1; rw [hx]; simp
  subst hxs
  have fin : ∀ (Q : Ending → World → Prop), (∀ e w', Q e w' → ∃ x, e = .returned x ∧ Below w.heap.size w w' ∧ ∀ F, repV (fun _ => none) w' F r x) → Calls P f (#[x] ++ xs'.toArray) w Q → Calls P f (#[x] ++ xs'.toArray) w fun e w' => ∃ (x : Value) (ψ : Id → Option Value) (X : Nat → Prop), e = .returned x ∧ Below w.heap.size w w' ∧ (∀ g, X g → w.heap.size ≤ g ∧ g < w'.heap.size) ∧
      repV ψ w' (Fs (fun g => F g ∨ X g) X) r x ∧ (∀ j b, ([] : List Blk)[j]? = some b → holds ψ w' (Fs (fun g => F g ∨ X g) X) (0, j) b) ∧ (∀ i, ψ i ≠ none → i.1 = 0) ∧
      (∀ j u g, ψ (0, j) = some u → blkOf u = some g → w.heap.size ≤ g ∧ ¬ X g) ∧
      (∀ j k u v g, ψ (0, j) = some u → ψ (0, k) = some v → blkOf u = some g → blkOf v = some g → j = k) := by
    intro Q hQ hc
    refine hc.mono fun e w' he => ?_
    obtain ⟨x, rfl, hb, hr'⟩ := hQ _ _ he
    exact ⟨x, fun _ => none, fun _ => False, rfl, hb, fun g hg => hg.elim, hr' _, by simp, by simp, by simp, by simp⟩
  rcases row_of hrow with ⟨b, off, cap, rfl, hcap, hF, hcell⟩ | ⟨hv, A, cap, rfl⟩
  · exact fin _ (fun _ _ h => h) (h w b off cap ⟨hgb, hgl⟩ (hlt b hF) hcap hcell)
  · exact fin _ (fun _ _ h => h) (h0 hv w A cap ⟨hgb, hgl⟩)
end
end Go.Vm
end
