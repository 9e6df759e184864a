/-
  Abstract states over the model's worlds, and that a step of them is a step of the program: part VmAN of a framework. Conditions: each theorem's own premises. By an AI agent.
-/
import Derived.Test.YtcdbbiognijleaaGreatVmAM
import Derived.Test.YtcdbbiognijleaaGreatVmAH
namespace Go.Vm
open Go Go.RowKit
set_option linter.unusedSimpArgs false
set_option linter.unusedVariables false

/-! ### Ranges over functions, computed -/
/-- All that lives, as slots and blocks. -/
noncomputable def slotsF (fr : Tr PV) : List Nat → List (Nat × PV)
  | [] => []
  | t :: l =>
    match fr.getF t with
    | some p => (t, p) :: slotsF fr l
    | none => slotsF fr l
theorem slotsF_mem {fr : Tr PV} {e : Nat × PV} : ∀ {l : List Nat}, e ∈ slotsF fr l → fr.getF e.1 = some e.2
  | [], h => by simp [slotsF] at h
  | t :: l, h => by
    unfold slotsF at h
    split at h
    · rename_i p hp
      rcases List.mem_cons.1 h with rfl | h
      · exact hp
      · exact slotsF_mem h
    · exact slotsF_mem h
/-- Slots, told anew; those that cannot be told are left out. -/
noncomputable def rnFr (m : List (Id × Id)) : List (Nat × PV) → Tr PV
  | [] => .leaf
  | (t, p) :: l =>
    match rnV m p with
    | some p' => (rnFr m l).setF t (some p')
    | none => rnFr m l
theorem getF_leaf (t : Nat) : (Tr.leaf : Tr PV).getF t = none := Tr.getQ_leaf _
theorem rnFr_get {m : List (Id × Id)} : ∀ {l : List (Nat × PV)} {t : Nat} {p' : PV}, (rnFr m l).getF t = some p' → ∃ p, (t, p) ∈ l ∧ rnV m p = some p'
  | [], t, p', h => by
    rw [show rnFr m [] = .leaf from rfl, getF_leaf] at h
    cases h
  | (u, p) :: l, t, p', h => by
    unfold rnFr at h
    split at h
    · rename_i q hq
      rw [Tr.getF_setF] at h
      split at h
      · rename_i ht
        subst ht
        cases h
        exact ⟨p, by simp, hq⟩
      · obtain ⟨p0, h1, h2⟩ := rnFr_get h
        exact ⟨p0, List.mem_cons_of_mem _ h1, h2⟩
    · obtain ⟨p0, h1, h2⟩ := rnFr_get h
      exact ⟨p0, List.mem_cons_of_mem _ h1, h2⟩
/-- Blocks, told anew; those that are not there, or cannot be told, are left out. -/
noncomputable def rnHs (H : Tr (Tr Blk)) (m : List (Id × Id)) : List (Id × Id) → Option (Tr (Tr Blk))
  | [] => some .leaf
  | (i, j) :: l =>
    match rnHs H m l with
    | some t =>
      match (getH H i).bind (rnB m) with
      | some b => setH t j (some b)
      | none => some t
    | none => none
theorem rnHs_get {H : Tr (Tr Blk)} {m : List (Id × Id)} : ∀ {l : List (Id × Id)} {t : Tr (Tr Blk)} {j : Id} {b' : Blk}, rnHs H m l = some t → getH t j = some b' → ∃ i b, (i, j) ∈ l ∧ getH H i = some b ∧ rnB m b = some b'
  | [], t, j, b', h, hb => by
    cases h
    exact absurd hb (by rw [show getH (Tr.leaf : Tr (Tr Blk)) j = none from rfl]; simp)
  | (i, k) :: l, t, j, b', h, hb => by
    unfold rnHs at h
    split at h
    · rename_i t1 ht1
      split at h
      · rename_i b hbb
        rw [getH_setH h] at hb
        by_cases hj : j = k
        · subst hj
          rw [upd_self] at hb
          cases hb
          obtain ⟨b0, h1, h2⟩ := Option.bind_eq_some_iff.1 hbb
          exact ⟨i, b0, by simp, h1, h2⟩
        · rw [upd_ne _ _ hj] at hb
          obtain ⟨i0, b0, h1, h2, h3⟩ := rnHs_get ht1 hb
          exact ⟨i0, b0, List.mem_cons_of_mem _ h1, h2, h3⟩
      · cases h
        obtain ⟨i0, b0, h1, h2, h3⟩ := rnHs_get ht1 hb
        exact ⟨i0, b0, List.mem_cons_of_mem _ h1, h2, h3⟩
    · cases h

noncomputable def eqJ (i j : Id) : Bool := cond (Nat.beq i.1 j.1) (Nat.beq i.2 j.2) false
theorem eqJ_iff {i j : Id} : eqJ i j = true ↔ i = j := by
  obtain ⟨i1, i2⟩ := i
  obtain ⟨j1, j2⟩ := j
  unfold eqJ
  constructor
  · intro h
    cases h1 : Nat.beq i1 j1 with
    | false => rw [h1] at h; cases h
    | true =>
      rw [h1] at h
      have h : Nat.beq i2 j2 = true := h
      rw [Nat.eq_of_beq_eq_true h1, Nat.eq_of_beq_eq_true h]
  · rintro ⟨⟩
    simp
/-- The names of a round: from (0, 0) on. -/
noncomputable def numI : Nat → List Id → List (Id × Id)
  | _, [] => []
  | k, i :: l => cond (eqJ i yid) ((yid, yid) :: numI k l) ((i, (0, k)) :: numI (k + 1) l)
noncomputable def putS (fr : Tr PV) : List (Tmp × PV) → Tr PV
  | [] => fr
  | (t, p) :: l => putS (fr.setF t (some p)) l
theorem putS_get : ∀ {l : List (Tmp × PV)} {fr : Tr PV}, (putS fr l).getF = putFr fr.getF l
  | [], fr => rfl
  | (t, p) :: l, fr => by
    show (putS (fr.setF t (some p)) l).getF = putFr (upd fr.getF t (some p)) l
    rw [putS_get]
    congr 1
    funext n
    rw [Tr.getF_setF]
    rfl
noncomputable def rnOk (nx : Nat) (m : List (Id × Id)) : Bool :=
  nodupB (m.map (·.1)) && nodupB (m.map (·.2)) && m.all fun e => Nat.beq e.2.1 0 && (!(eqJ e.2 yid) || eqJ e.1 yid) && Nat.blt e.1.1 nx
/-- The state at the head of a round (without what was yielded), and the names. -/
noncomputable def roundIn (nt : Nat) (s : S) : Option (List (Id × Id) × S) :=
  let fr := slotsF s.fr (List.range nt)
  let m := numI 0 (reach (getH s.H) 1000000 (fr.flatMap fun e => e.2.idAll) [])
  match rnHs s.H m m with
  | some H => cond (rnOk s.nx m) (some (m, ⟨rnFr m fr, H, [], 1, false⟩)) none
  | none => none
theorem mem_pair1 {m : List (Id × Id)} (h : nodupB (m.map (·.1)) = true) {i j j' : Id} (h1 : (i, j) ∈ m) (h2 : (i, j') ∈ m) : j = j' := by
  have hn := nodupB_ok h
  clear h
  induction m with
  | nil => cases h1
  | cons c m ih =>
    simp only [List.map_cons, List.nodup_cons, List.mem_map, not_exists, not_and] at hn
    rcases List.mem_cons.1 h1 with e1 | e1 <;> rcases List.mem_cons.1 h2 with e2 | e2
    · rw [← e1] at e2; cases e2; rfl
    · exact absurd (by rw [← e1]) (hn.1 _ e2)
    · exact absurd (by rw [← e2]) (hn.1 _ e1)
    · exact ih e1 e2 hn.2
theorem mem_pair2 {m : List (Id × Id)} (h : nodupB (m.map (·.2)) = true) {i i' j : Id} (h1 : (i, j) ∈ m) (h2 : (i', j) ∈ m) : i = i' := by
  have hn := nodupB_ok h
  clear h
  induction m with
  | nil => cases h1
  | cons c m ih =>
    simp only [List.map_cons, List.nodup_cons, List.mem_map, not_exists, not_and] at hn
    rcases List.mem_cons.1 h1 with e1 | e1 <;> rcases List.mem_cons.1 h2 with e2 | e2
    · rw [← e1] at e2; cases e2; rfl
    · exact absurd (by rw [← e1]) (hn.1 _ e2)
    · exact absurd (by rw [← e2]) (hn.1 _ e1)
    · exact ih e1 e2 hn.2
/-- What the ghosts hold: scalars. -/
def GOk (g : Nat → Option PV) : Prop := ∀ t p, g t = some p → ∃ v, p = .one (.c v)
theorem GOk.none : GOk fun _ => none := fun t p h => by cases h
theorem GOk.ghk (o : Option Nat) : GOk (ghk o) := fun t p h => by
  unfold Vm.ghk at h
  split at h
  · cases h; exact ⟨_, rfl⟩
  · cases h
theorem rnOk_ok {nx : Nat} {m : List (Id × Id)} (h : rnOk nx m = true) : nodupB (m.map (·.1)) = true ∧ nodupB (m.map (·.2)) = true ∧ ∀ i j, (i, j) ∈ m → j.1 = 0 ∧ (j = yid → i = yid) ∧ i.1 < nx := by
  unfold rnOk at h
  rw [Bool.and_eq_true, Bool.and_eq_true] at h
  refine ⟨h.1.1, h.1.2, fun i j hm => ?_⟩
  have := List.all_eq_true.1 h.2 _ hm
  simp only [Bool.and_eq_true] at this
  obtain ⟨⟨h1, h2⟩, h3⟩ := this
  refine ⟨Nat.eq_of_beq_eq_true h1, fun e => ?_, Nat.le_of_ble_eq_true h3⟩
  subst e
  have e1 : eqJ yid yid = true := eqJ_iff.2 rfl
  rw [e1] at h2
  exact eqJ_iff.1 (by simpa using h2)
theorem roundIn_ok {g : Nat → Option PV} (hg : GOk g) {nt : Nat} {s ρ : S} {m : List (Id × Id)} (h : roundIn nt s = some (m, ρ)) : RenG (s.absG g) (ρ.absG g) (fun i j => (i, j) ∈ m) ∧ ∀ i j, (i, j) ∈ m → i.1 < s.nx := by
  unfold roundIn at h
  simp only at h
  split at h
  · rename_i H hH
    generalize hm : numI 0 (reach (getH s.H) 1000000 ((slotsF s.fr (List.range nt)).flatMap fun e => e.2.idAll) []) = m' at h hH
    cases hc : rnOk s.nx m' with
    | false => rw [hc] at h; cases h
    | true =>
      rw [hc] at h
      simp only [cond_true, Option.some.injEq, Prod.mk.injEq] at h
      obtain ⟨rfl, rfl⟩ := h
      obtain ⟨h1, h2, h3⟩ := rnOk_ok hc
      refine ⟨⟨fun i i' j a b => mem_pair2 h2 a b, fun i j j' a b => mem_pair1 h1 a b, fun i j a => (h3 i j a).1, fun i a => (h3 i _ a).2.1 rfl, fun t p' hp => ?_, fun j b' hb => ?_, fun t p' hp => ?_, Nat.le_refl _⟩, fun i j a => (h3 i j a).2.2⟩
      · obtain ⟨p, hm, hr⟩ := rnFr_get hp
        exact ⟨p, slotsF_mem hm, rnV_ok hr⟩
      · obtain ⟨i, b, hm, hi, hr⟩ := rnHs_get hH hb
        exact ⟨i, b, hm, hi, rnB_ok hr⟩
      · obtain ⟨v, rfl⟩ := hg t p' hp
        exact ⟨_, hp, .one (.free rfl)⟩
  · cases h

noncomputable def backM (i : Id) : List (Id × Id) → Option Id
  | [] => none
  | e :: m => cond (eqJ e.2 i) (some e.1) (backM i m)
theorem backM_mem {i k : Id} : ∀ {m : List (Id × Id)}, backM i m = some k → (k, i) ∈ m
  | [], h => by cases h
  | e :: m, h => by
    have h : cond (eqJ e.2 i) (some e.1) (backM i m) = some k := h
    cases hb : eqJ e.2 i with
    | true =>
      rw [hb] at h
      cases h
      rw [← eqJ_iff.1 hb]
      simp
    | false =>
      rw [hb] at h
      exact List.mem_cons_of_mem _ (backM_mem h)
noncomputable def numO (nx : Nat) (m : List (Id × Id)) : Nat → List Id → List (Id × Id)
  | _, [] => []
  | k, i :: l =>
    match backM i m with
    | some j => (i, j) :: numO nx m k l
    | none => (i, (nx, k)) :: numO nx m (k + 1) l
theorem numO_mem {nx : Nat} {m : List (Id × Id)} {i j : Id} : ∀ {l : List Id} {k : Nat}, (i, j) ∈ numO nx m k l → (j, i) ∈ m ∨ j.1 = nx
  | [], k, h => by cases h
  | a :: l, k, h => by
    unfold numO at h
    split at h
    · rename_i q hq
      rcases List.mem_cons.1 h with h | h
      · cases h
        exact .inl (backM_mem hq)
      · exact numO_mem h
    · rcases List.mem_cons.1 h with h | h
      · cases h
        exact .inr rfl
      · exact numO_mem h
/-- The loop's state behind a round. -/
noncomputable def roundOut (s : S) (m : List (Id × Id)) (ρ : S) : Option S :=
  let m2 := numO s.nx m 0 (reach (getH ρ.H) 1000000 (m.map (·.2)) [])
  match rnHs ρ.H m2 m2 with
  | some H => cond (nodupB (m2.map (·.1)) && nodupB (m2.map (·.2))) (some ⟨s.fr, H, [], s.nx + 1, false⟩) none
  | none => none
theorem roundOut_ok {g g' : Nat → Option PV} (hg : GOk g') {s ρ s' : S} {m : List (Id × Id)} (hm : ∀ i j, (i, j) ∈ m → j.1 = 0 ∧ i.1 < s.nx) (h : roundOut s m ρ = some s') :
    ∃ G', BackG (s.absG g) (fun i j => (i, j) ∈ m) (ρ.absG g') (s'.absG g') G' ∧ s'.us = [] := by
  unfold roundOut at h
  simp only at h
  split at h
  · rename_i H hH
    generalize hm2 : numO s.nx m 0 (reach (getH ρ.H) 1000000 (m.map (·.2)) []) = m2 at h hH
    cases hc : nodupB (m2.map (·.1)) && nodupB (m2.map (·.2)) with
    | false => rw [hc] at h; cases h
    | true =>
      rw [hc] at h
      cases h
      rw [Bool.and_eq_true] at hc
      have hsrc : ∀ i j, (i, j) ∈ m2 → (j, i) ∈ m ∨ j.1 = s.nx := by
        intro i j hij
        rw [← hm2] at hij
        exact numO_mem hij
      refine ⟨fun i j => (i, j) ∈ m2, ⟨fun i i' j a b => mem_pair2 hc.2 a b, fun i j j' a b => mem_pair1 hc.1 a b, fun i j a => ?_, fun i j a => ?_, fun j b' hb => ?_, fun t p' hp => ?_, rfl, ?_, rfl⟩, rfl⟩
      · rcases hsrc i j a with h1 | h1
        · exact .inl ⟨(hm _ _ h1).1, h1⟩
        · exact .inr h1
      · rcases hsrc i j a with h1 | h1
        · exact Nat.le_of_lt (hm _ _ h1).2
        · exact Nat.le_of_eq h1
      · obtain ⟨i, b, hm, hi, hr⟩ := rnHs_get hH hb
        exact ⟨i, b, hm, hi, rnB_ok hr⟩
      · obtain ⟨v, rfl⟩ := hg t p' hp
        exact ⟨_, hp, .one (.free rfl)⟩
      · funext d
        rfl
  · cases h

/-! Before the loop -/
noncomputable def tidyF (nt : Nat) (s : S) : Option S :=
  match s with
  | ⟨fr, H, us, nx, _⟩ => cond (ltAll nt us) (cond (Nat.beq (Nat.add nx nt) 0) none (some ⟨fr, H, [], Nat.add nx nt, false⟩)) none
theorem tidyF_ok {g : Nat → Option PV} {C : Ctx} {nt : Nat} {s s' : S} (h : tidyF nt s = some s') : Wk C (s.absG g) (s'.absG g) ∧ s'.us = [] := by
  obtain ⟨fr, H, us, nx, al⟩ := s
  unfold tidyF at h
  simp only at h
  cases hu : ltAll nt us with
  | false => rw [hu] at h; cases h
  | true =>
    rw [hu] at h
    cases hz : Nat.beq (Nat.add nx nt) 0 with
    | true => rw [hz] at h; cases h
    | false =>
      rw [hz] at h
      cases h
      refine ⟨?_, rfl⟩
      rintro C₁ _ a w ⟨φ, F0, F1, r⟩
      exact ⟨φ, F0, F1, r.nextN nt (ltAll_ok hu)⟩
noncomputable def hideS : Tr (Tr Blk) → List Id → Option (Tr (Tr Blk))
  | H, [] => some H
  | H, i :: M =>
    match setH H i none with
    | some H' => hideS H' M
    | none => none
theorem hideS_get : ∀ {M : List Id} {H H' : Tr (Tr Blk)}, hideS H M = some H' → getH H' = hide M (getH H)
  | [], H, H', h => by cases h; rfl
  | k :: M, H, H', h => by
    unfold hideS at h
    split at h
    · rename_i H1 h1
      rw [hideS_get h, getH_setH h1]
      funext i
      unfold hide
      simp only [pos]
      by_cases hk : k = i
      · subst hk
        simp only [if_true, upd_self]
        cases pos M k <;> rfl
      · simp only [if_neg hk]
        cases pos M i with
        | none => exact upd_ne _ _ (Ne.symm hk)
        | some q => rfl
    · cases h
/-- Only the blocks M. -/
noncomputable def onlyH (M : List Id) (H : Id → Option Blk) (i : Id) : Option Blk :=
  match pos M i with
  | some _ => H i
  | none => none
/-- What the iterator has captured is only read from now on. -/
noncomputable def freezeS (s : S) (t : Nat) (f : FuncId) (caps : List PC) : Option (List PC × S) :=
  let M := reach (getH s.H) 1000000 (PC.idss caps) []
  let caps' := caps.map (clr (onlyH M (getH s.H)) 12)
  match hideS s.H M with
  | some H => cond (PC.frees caps') (some (caps', { s with fr := s.fr.setF t (some (.one (.fn f caps'))), H := H })) none
  | none => none
theorem freeze_wk {C : Ctx} {σ : St} {t : Nat} (ht : t < C.nt) {f : FuncId} {caps : List PC} (M : List Id) (hv : σ.fr t = some (.one (.fn f caps))) (hf : PC.frees (caps.map (clr (onlyH M σ.H) 12)) = true) :
    Wk C σ { σ with fr := upd σ.fr t (some (.one (.fn f (caps.map (clr (onlyH M σ.H) 12))))), H := hide M σ.H } := by
  rintro C₁ l₁ a w ⟨φ, F0, F1, R⟩
  have hle : ∀ {i b}, onlyH M σ.H i = some b → σ.H i = some b := by
    intro i b h
    unfold onlyH at h
    split at h
    · exact h
    · cases h
  have hX : ∀ g, (∃ i u, onlyH M σ.H i ≠ none ∧ φ i = some u ∧ blkOf u = some g) → ¬ F0 g ∧ ¬ C₁.K0 g ∧ g < w.heap.size := by
    rintro g ⟨i, u, hi, hu, hg⟩
    obtain ⟨b, hb⟩ := Option.ne_none_iff_exists'.1 hi
    have hb' := hle hb
    obtain ⟨h1, h2, h3⟩ := R.apart i u g (by rw [hb']; simp) hu hg
    exact ⟨h1, h2, holds_lt (R.heap i b hb') hu hg⟩
  have R1 : RelX C₁ φ F0 F1 { σ with H := hide M σ.H } a w := R.weaken ⟨fun _ _ e => e, fun i b hb => by
    have hb : hide M σ.H i = some b := hb
    unfold hide at hb
    split at hb
    · cases hb
    · exact hb, fun _ e => e, rfl, fun _ _ e => e⟩
  have R2 := R1.addF (fun g => ∃ i u, onlyH M σ.H i ≠ none ∧ φ i = some u ∧ blkOf u = some g) (fun g hg => (hX g hg).2.2) (fun g hg hk => absurd hk (hX g hg).2.1) (fun i u g hi hu hg => by
    rintro ⟨j, v, hj, hv, hg'⟩
    have hi : hide M σ.H i ≠ none := hi
    obtain ⟨b, hb⟩ := Option.ne_none_iff_exists'.1 hi
    obtain ⟨c, hc⟩ := Option.ne_none_iff_exists'.1 hj
    have hb' := hb
    unfold hide at hb'
    split at hb'
    · cases hb'
    · rename_i hp
      have := R.inj i j u v g (by rw [hb']; simp) (by rw [hle hc]; simp) hu hv hg hg'
      subst this
      unfold onlyH at hc
      rw [hp] at hc
      cases hc)
  obtain ⟨x, hx, hr⟩ := R.frame t _ hv
  have h3 := clr_rep R hle 12
  simp only [repV, rep] at hr
  obtain ⟨vs, rfl, hrs⟩ := hr
  have hrs' : reps φ w (Fs (Lent φ (onlyH M σ.H) F0) fun _ => False) (caps.map (clr (onlyH M σ.H) 12)) vs.toList := by
    refine reps_of_get _ _ (by simpa using reps_length _ _ hrs) fun j q v hq hv => ?_
    rw [List.getElem?_map] at hq
    obtain ⟨q', hq', rfl⟩ := Option.map_eq_some_iff.1 hq
    obtain ⟨u, hu, hr'⟩ := reps_get _ _ hrs j q' hq'
    rw [hv] at hu; cases hu
    exact h3 q' v hr'
  have hput := R2.put (d := t) (p := .one (.fn f (caps.map (clr (onlyH M σ.H) 12)))) (x := .func (.func f) #[] vs) (by rw [core_nt l₁.core]; exact ht) (by
    simp only [repV, rep]
    refine ⟨vs, rfl, reps_mono (fun _ _ e => e) (fun _ _ _ => rfl) (fun b g hg => ?_) _ _ hrs'⟩
    cases b
    · exact hg
    · exact hg.elim)
  have ea : a.put (some t) (.func (.func f) #[] vs) = a := by
    have : a.tmps.setIfInBounds t (.func (.func f) #[] vs) = a.tmps := by
      apply Array.ext_getElem?
      intro j
      by_cases hj : j = t
      · subst hj
        rw [Array.getElem?_setIfInBounds_self_of_lt (Array.getElem?_eq_some_iff.1 hx).1, hx]
      · rw [Array.getElem?_setIfInBounds_ne (Ne.symm hj)]
    simp only [Act.put, this]
  rw [ea] at hput
  exact ⟨φ, _, _, hput⟩
theorem freezeS_ok {g : Nat → Option PV} {C : Ctx} {s s' : S} {t : Nat} (ht : t < C.nt) {f : FuncId} {caps caps' : List PC} (hv : s.fr.getF t = some (.one (.fn f caps))) (h : freezeS s t f caps = some (caps', s')) :
    Wk C (s.absG g) (s'.absG g) ∧ s'.fr.getF t = some (.one (.fn f caps')) ∧ s'.us = s.us := by
  unfold freezeS at h
  simp only at h
  split at h
  · rename_i H hH
    generalize hM : reach (getH s.H) 1000000 (PC.idss caps) [] = M at h hH
    cases hf : PC.frees (caps.map (clr (onlyH M (getH s.H)) 12)) with
    | false => rw [hf] at h; cases h
    | true =>
      rw [hf] at h
      simp only [cond_true, Option.some.injEq, Prod.mk.injEq] at h
      obtain ⟨rfl, rfl⟩ := h
      refine ⟨?_, ?_, rfl⟩
      · have := freeze_wk (σ := s.absG g) ht M hv hf
        have e : ({ s with fr := s.fr.setF t (some (.one (.fn f (caps.map (clr (onlyH M (getH s.H)) 12))))), H := H } : S).absG g = { s.absG g with fr := upd (s.absG g).fr t (some (.one (.fn f (caps.map (clr (onlyH M (s.absG g).H) 12))))), H := hide M (s.absG g).H } := by
          unfold S.absG
          simp only [hideS_get hH]
          congr 1
          funext n
          rw [Tr.getF_setF]
          rfl
        rw [e]
        exact this
      · show (s.fr.setF t _).getF t = _
        rw [Tr.getF_setF, if_pos rfl]
  · cases h
/-- The loop's yields, and its state without what the iterator is handed. -/
noncomputable def handS (io : Io) (s : S) (f : FuncId) (caps : List PC) : Option (List Id × List Blk × List (List PV) × S) :=
  let M := reach (getH s.H) 1000000 (PC.idss caps) []
  match gets (getH s.H) M, hideS s.H M with
  | some bs, some H =>
    let Hin := bs.map (Blk.ioc M)
    cond (PC.tag0s (PC.iocs M caps) && tag0B Hin && nodup M)
      (match io.it f ((PC.iocs M caps).map PV.one) Hin with
      | some xs => some (M, bs, xs, { s with H := H })
      | none => none) none
  | _, _ => none
noncomputable def begS (nt : Nat) (io : Io) (s : S) (t : Nat) : Option (FuncId × List PC × List Id × List Blk × List (List PV) × S) :=
  match tidyF nt s with
  | some s0 =>
    match s0.fr.getF t with
    | some (.one (.fn f caps)) =>
      cond (Nat.beq (io.md f) 3)
        (cond (Nat.blt t nt) (match freezeS s0 t f caps with
        | some (caps', s1) =>
          match handS io s1 f caps' with
          | some (M, bs, xs, s2) => some (f, caps', M, bs, xs, s2)
          | none => none
        | none => none) none)
        (match handS io s0 f caps with
        | some (M, bs, xs, s2) => some (f, caps, M, bs, xs, s2)
        | none => none)
    | _ => none
  | none => none
theorem handS_ok {C : Ctx} {cx : Cx} {io : Io} (hk : Knows C.P C.gw C.gb cx io) {g : Nat → Option PV} {s s1 : S} {f : FuncId} {caps : List PC} {M : List Id} {bs : List Blk} {xs : List (List PV)} (h : handS io s f caps = some (M, bs, xs, s1)) :
    gets (s.absG g).H M = some bs ∧ (PC.tag0s (PC.iocs M caps) && tag0B (bs.map (Blk.ioc M)) && nodup M) = true ∧ VIterG C.P C.gw C.gb f ((PC.iocs M caps).map PV.one) (bs.map (Blk.ioc M)) xs ∧ s1.us = s.us ∧ { s.absG g with H := hide M (s.absG g).H } = s1.absG g := by
  unfold handS at h
  simp only at h
  split at h
  · rename_i bs' H hbs hH
    generalize hMM : reach (getH s.H) 1000000 (PC.idss caps) [] = M' at h hbs hH
    cases htag : (PC.tag0s (PC.iocs M' caps) && tag0B (bs'.map (Blk.ioc M')) && nodup M') with
    | false => rw [htag] at h; cases h
    | true =>
      rw [htag] at h
      simp only [cond_true] at h
      split at h
      · rename_i xs' hxs
        cases h
        refine ⟨hbs, htag, hk.it _ _ _ _ hxs, rfl, ?_⟩
        unfold S.absG
        simp only [hideS_get hH]
      · cases h
  · cases h
theorem begS_ok {C : Ctx} {cx : Cx} {io : Io} (hk : Knows C.P C.gw C.gb cx io) (hro : C.ro = none) {g : Nat → Option PV} {s s1 : S} {t : Nat} {f : FuncId} {caps : List PC} {M : List Id} {bs : List Blk} {xs : List (List PV)} (h : begS C.nt io s t = some (f, caps, M, bs, xs, s1)) {c : Code} {Q : Post}
    (hc : ∀ (σ0 : St) (caps : List PC) (M : List Id) (bs : List Blk), ev σ0.fr (.tmp t) = some (.one (.fn f caps)) → gets σ0.H M = some bs → (PC.tag0s (PC.iocs M caps) && tag0B (bs.map (Blk.ioc M)) && nodup M) = true → VIterG C.P C.gw C.gb f ((PC.iocs M caps).map PV.one) (bs.map (Blk.ioc M)) xs → s1.us = [] → { σ0 with H := hide M σ0.H } = s1.absG g → vwp C c Q σ0) : vwp C c Q (s.absG g) := by
  unfold begS at h
  split at h
  · rename_i s0 h0
    obtain ⟨hw0, hu0⟩ := tidyF_ok (g := g) (C := C) h0
    split at h
    · rename_i f' caps' hv
      cases hmd : Nat.beq (io.md f') 3 with
      | true =>
        rw [hmd] at h
        simp only [cond_true] at h
        cases hlt : Nat.blt t C.nt with
        | false => rw [hlt] at h; cases h
        | true =>
          rw [hlt] at h
          simp only [cond_true] at h
          split at h
          · rename_i caps2 s2 h2
            split at h
            · rename_i M' bs' xs' s3 h3
              cases h
              obtain ⟨hw2, hv2, hu2⟩ := freezeS_ok (g := g) (C := C) (Nat.le_of_ble_eq_true hlt) hv h2
              obtain ⟨a1, a2, a3, a4, a5⟩ := handS_ok (g := g) hk h3
              exact vwp_wk (hw0.trans hw2) (hc _ _ _ _ hv2 a1 a2 a3 (a4.trans (hu2.trans hu0)) a5)
            · cases h
          · cases h
      | false =>
        rw [hmd] at h
        simp only [cond_false] at h
        split at h
        · rename_i M' bs' xs' s3 h3
          cases h
          obtain ⟨a1, a2, a3, a4, a5⟩ := handS_ok (g := g) hk h3
          exact vwp_wk hw0 (hc _ _ _ _ hv a1 a2 a3 (a4.trans hu0) a5)
        · cases h
    · cases h
  · cases h
noncomputable def yieldsOk (nt : Nat) (ps : List Tmp) (xs : List (List PV)) : Bool := ltAll nt ps && xs.all fun x => Nat.beq x.length ps.length

/-! ### What names blocks that are gone is forgotten -/
def anyC (alive : Id → Bool) (p : PC) : PC := cond (p.ids.all alive) p .any
def anyB (alive : Id → Bool) : Blk → Blk
  | .box ty cs => .box ty (cs.map (anyC alive))
  | .arr ty z n cs => .arr ty z n (cs.map (anyC alive))
  | .mp ty es => .mp ty (es.map fun e => (e.1, anyC alive e.2))
theorem anyC_rep {φ : Id → Option Value} {w : World} {F : Bool → Nat → Prop} {alive : Id → Bool} {p : PC} {x : Value} (h : rep φ w F p x) : rep φ w F (anyC alive p) x := by
  unfold anyC
  cases p.ids.all alive with
  | true => exact h
  | false => simp only [cond_false, rep]; exact rep_one _ _ h
theorem anyC_reps {φ : Id → Option Value} {w : World} {F : Bool → Nat → Prop} {alive : Id → Bool} : ∀ {ps : List PC} {xs : List Value}, reps φ w F ps xs → reps φ w F (ps.map (anyC alive)) xs
  | [], xs, h => by simpa only [List.map_nil, reps] using h
  | p :: ps, xs, h => by
    simp only [reps, List.map_cons] at h ⊢
    obtain ⟨v, vs, rfl, h1, h2⟩ := h
    exact ⟨v, vs, rfl, anyC_rep h1, anyC_reps h2⟩
theorem anyB_holds {φ : Id → Option Value} {w : World} {F : Bool → Nat → Prop} {alive : Id → Bool} {i : Id} {b : Blk} (h : holds φ w F i b) : holds φ w F i (anyB alive b) := by
  cases b with
  | box ty cs =>
    obtain ⟨g, vs, hp, hh, hr⟩ := h
    exact ⟨g, vs, hp, hh, anyC_reps hr⟩
  | arr ty z n cs =>
    obtain ⟨v, vs, hp, hh, hr⟩ := h
    exact ⟨v, vs, hp, hh, anyC_reps hr⟩
  | mp ty es =>
    obtain ⟨g, ents, clock, hp, hh, hk, hr⟩ := h
    refine ⟨g, ents, clock, hp, hh, ?_, ?_⟩
    · rw [hk, List.map_map]; rfl
    · have := anyC_reps (alive := alive) hr
      rw [List.map_map] at this ⊢
      exact this
theorem RelX.blocks {C : Ctx} {φ : Id → Option Value} {F0 F1 : Nat → Prop} {σ : St} {a : Act} {w : World} (h : RelX C φ F0 F1 σ a w) (alive : Id → Bool) : RelX C φ F0 F1 { σ with H := fun i => (σ.H i).map (anyB alive) } a w := by
  have hn : ∀ i, (σ.H i).map (anyB alive) ≠ none → σ.H i ≠ none := by
    intro i hi e
    rw [e] at hi
    exact hi rfl
  refine ⟨h.size, h.defs, h.frame, fun i b hi => ?_, fun i j u v g hi hj => h.inj i j u v g (hn i hi) (hn j hj), fun i u g hi => h.apart i u g (hn i hi), h.sub, h.ini, h.new1, h.lt0, h.os, h.tape, h.output, h.big, h.kept, h.k0lt, h.gbig, h.glob, h.keep, h.nx1, h.ids, h.ghost⟩
  obtain ⟨b0, hb0, rfl⟩ := Option.map_eq_some_iff.1 hi
  exact anyB_holds (h.heap i b0 hb0)
noncomputable def deadS (s : S) : S := { s with H := Tr.mapT (fun t => Tr.mapT (anyB fun i => (getH s.H i).isSome) t) s.H }
theorem getH_mapT (f : Blk → Blk) (H : Tr (Tr Blk)) (i : Id) : getH (Tr.mapT (fun t => Tr.mapT f t) H) i = (getH H i).map f := by
  unfold getH
  rw [Tr.get_mapT]
  cases H.get i.1 with
  | none => rfl
  | some t => exact Tr.get_mapT f t i.2
theorem deadS_ok {g : Nat → Option PV} {C : Ctx} {s : S} : Wk C (s.absG g) ((deadS s).absG g) := by
  rintro C₁ _ a w ⟨φ, F0, F1, R⟩
  refine ⟨φ, F0, F1, ?_⟩
  have := R.blocks fun i => (getH s.H i).isSome
  have e : (deadS s).absG g = { s.absG g with H := fun i => ((s.absG g).H i).map (anyB fun i => (getH s.H i).isSome) } := by
    unfold S.absG deadS
    simp only
    congr 1
    funext i
    exact getH_mapT _ _ _
  rw [e]
  exact this
noncomputable def regD (P : Program) (nt : Nat) (cx : Cx) (io : Io) (ops : List Oper) (draw : Bool) (s : S) : Option S :=
  match regS P nt cx io ops draw s with
  | some s' => some s'
  | none => regS P nt cx io ops draw (deadS s)
theorem regD_ok {g : Nat → Option PV} {C : Ctx} {cx : Cx} {io : Io} (hk : Knows C.P C.gw C.gb cx io) (hcu : C.cut = true) (hm : C.P.follows .mixedOrders = true) {id : Nat} {ops : Array Oper} {draw : Bool} {Q : Post} {s s' : S}
    (h : regD C.P C.nt cx io ops.toList draw s = some s') (hQ : Q .normal (s'.absG g)) : vwp C (.region id ops draw) Q (s.absG g) := by
  unfold regD at h
  split at h
  · rename_i s1 h1
    cases h
    exact regS_ok hk hcu hm h1 hQ
  · exact vwp_wk deadS_ok (regS_ok hk hcu hm h hQ)

/-! ### Code, computed -/
mutual
noncomputable def evC (P : Program) (nt : Nat) (cx : Cx) (io : Io) (rd : Bool) : Nat → Code → S → Option (Exit × S)
  | 0, _, _ => none
  | n + 1, c, s =>
    match c with
    | .skip => some (.normal, s)
    | .label _ => some (.normal, s)
    | .exit id => some (.exit id, s)
    | .goto l => some (.goto l, s)
    | .ret => some (.ret, s)
    | .region _ ops draw =>
      match regD P nt cx io ops.toList draw s with
      | some s' => some (.normal, s')
      | none => none
    | .seq a b =>
      match evC P nt cx io rd n a s with
      | some (.normal, s') => evC P nt cx io rd n b s'
      | r => r
    | .cond o x y =>
      match (ev s.fr.getF o).bind asB with
      | some true => evC P nt cx io rd n x s
      | some false => evC P nt cx io rd n y s
      | none => none
    | .block id b =>
      match evC P nt cx io rd n b s with
      | some (.exit id', s') => if id' = id then some (.normal, s') else some (.exit id', s')
      | r => r
    | .loop b =>
      match evC P nt cx io rd n b s with
      | some (.normal, s') =>
        match tidyS nt s' with
        | some s'' => evC P nt cx io rd n (.loop b) s''
        | none => none
      | r => r
    | .scope b =>
      match evC P nt cx io rd n b s with
      | some (.goto l, s') =>
        match findLabel b l, tidyS nt s' with
        | some rest, some s'' => evJ P nt cx io rd n l rest s''
        | _, _ => none
      | r => r
    | .rangeFunc (.tmp t) ps assign body =>
      match rd with
      | true => none
      | false =>
        match begS nt io s t with
        | some (_, _, _, _, xs, s1) => cond (yieldsOk nt ps.toList xs) (evR P nt cx io n ps.toList assign body xs s1) none
        | none => none
    | _ => none
/-- From a label on, jumping back to it. -/
noncomputable def evJ (P : Program) (nt : Nat) (cx : Cx) (io : Io) (rd : Bool) : Nat → Nat → Code → S → Option (Exit × S)
  | 0, _, _, _ => none
  | n + 1, l, rest, s =>
    match evC P nt cx io rd n rest s with
    | some (.goto l', s') =>
      if l' = l then
        match tidyS nt s' with
        | some s'' => evJ P nt cx io rd n l rest s''
        | none => none
      else none
    | r => r
/-- Round after round. -/
noncomputable def evR (P : Program) (nt : Nat) (cx : Cx) (io : Io) : Nat → List Tmp → Code → Code → List (List PV) → S → Option (Exit × S)
  | 0, _, _, _, _, _ => none
  | n + 1, ps, assign, body, xs, s =>
    match xs with
    | [] => some (.normal, s)
    | x :: xs =>
      match roundIn nt s with
      | some (m, ρ) =>
        match evC P nt cx io true n assign { ρ with fr := putS ρ.fr (ps.zip x) } with
        | some (.normal, ρ1) =>
          match evC P nt cx io true n body ρ1 with
          | some (.normal, ρ2) =>
            match roundOut s m ρ2 with
            | some s' => evR P nt cx io n ps assign body xs s'
            | none => none
          | some (.ret, ρ2) =>
            match roundOut s m ρ2 with
            | some s' => some (.ret, s')
            | none => none
          | some (.exit id, ρ2) =>
            match roundOut s m ρ2 with
            | some s' => some (.exit id, s')
            | none => none
          | _ => none
        | _ => none
      | none => none
end

theorem wk_refl {C : Ctx} {σ : St} : Wk C σ σ := fun _ _ _ _ r => r

theorem evC_all {K : Core} {cx : Cx} {io : Io} (hk : Knows K.P K.gw K.gb cx io) (hcu : K.cut = true) (hm : K.P.follows .mixedOrders = true) {g : Nat → Option PV} (hg : GOk g) : ∀ (n : Nat),
    (∀ (C : Ctx), C.toCore = K → ∀ (rd : Bool), (rd = false → C.ro = none) → ∀ (c : Code) (s s' : S) (e : Exit) (Q : Post), evC K.P K.nt cx io rd n c s = some (e, s') → Q e (s'.absG g) → vwp C c Q (s.absG g)) := by
  intro n
  induction n using Nat.strongRecOn with
  | ind n ih =>
  intro C hC rd hrd c s s' e Q h hQ
  match n, h, ih with
  | 0, h, _ => simp [evC] at h
  | n + 1, h, ih =>
    have ihn := ih n (Nat.lt_succ_self n) C hC rd hrd
    cases c with
    | skip => unfold evC at h; cases h; exact vwp_skip hQ
    | label l => unfold evC at h; cases h; exact vwp_label hQ
    | exit id => unfold evC at h; cases h; exact vwp_exit hQ
    | goto l => unfold evC at h; cases h; exact vwp_goto hQ
    | ret => unfold evC at h; cases h; exact vwp_ret hQ
    | region id ops draw =>
      unfold evC at h
      simp only at h
      split at h
      · rename_i s1 h1
        cases h
        subst hC
        exact regD_ok hk hcu hm h1 hQ
      · cases h
    | seq a b =>
      unfold evC at h
      simp only at h
      refine vwp_seq fun K' hK => ?_
      split at h
      · rename_i s1 h1
        exact ihn a s s1 .normal (thenQ K' Q) h1 (hK _ (ihn b s1 s' e Q h hQ))
      · rename_i r hr
        refine ihn a s s' e (thenQ K' Q) h ?_
        cases e
        case normal => exact absurd h (hr _)
        all_goals exact hQ
    | cond o x y =>
      unfold evC at h
      simp only at h
      split at h
      · rename_i hb
        exact vwp_cond hb (fun _ => ihn x s s' e Q h hQ) (fun hf => by cases hf)
      · rename_i hb
        exact vwp_cond hb (fun hf => by cases hf) (fun _ => ihn y s s' e Q h hQ)
      · cases h
    | block id b =>
      unfold evC at h
      simp only at h
      refine vwp_block ?_
      split at h
      · rename_i id' s1 h1
        split at h
        · rename_i hid
          cases h
          exact ihn b s _ _ (blockQ id Q) h1 (by show (if id' = id then _ else _); rw [if_pos hid]; exact hQ)
        · rename_i hid
          cases h
          exact ihn b s _ _ (blockQ id Q) h1 (by show (if id' = id then _ else _); rw [if_neg hid]; exact hQ)
      · rename_i r hr
        refine ihn b s s' e (blockQ id Q) h ?_
        cases e
        case exit id' => exact absurd h (hr _ _)
        all_goals exact hQ
    | loop b =>
      refine vwp_loop (fun m τ => m ≤ n + 1 ∧ ∃ t t' e', τ = t.absG g ∧ evC K.P K.nt cx io rd m (.loop b) t = some (e', t') ∧ Q e' (t'.absG g)) (n + 1) ⟨s.absG g, wk_refl, Nat.le_refl _, s, s', e, rfl, h, hQ⟩ ?_
      rintro m τ ⟨hmn, t, t', e', rfl, ht, hq⟩ K' hK
      match m, hmn, ht, hK with
      | 0, _, ht, _ => simp [evC] at ht
      | m + 1, hmn, ht, hK =>
        unfold evC at ht
        simp only at ht
        have ihm := ih m (by omega) C hC rd hrd
        split at ht
        · rename_i s1 h1
          split at ht
          · rename_i s2 h2
            exact ihm b t s1 .normal (thenQ K' Q) h1 (hK (s1.absG g) m (s2.absG g) (Nat.lt_succ_self m) (tidyS_ok h2) ⟨by omega, s2, t', e', rfl, ht, hq⟩)
          · cases ht
        · rename_i r hr
          refine ihm b t t' e' (thenQ K' Q) ht ?_
          cases e'
          case normal => exact absurd ht (hr _)
          all_goals exact hq
    | scope b =>
      unfold evC at h
      simp only at h
      split at h
      · rename_i l s1 h1
        split at h
        · rename_i rest s2 hf h2
          refine vwp_scope (rest := rest) l (fun m τ => m ≤ n ∧ ∃ t t' e', τ = t.absG g ∧ evJ K.P K.nt cx io rd m l rest t = some (e', t') ∧ Q e' (t'.absG g)) (fun _ => hf) ?_ ?_
          · exact ihn b s s1 (.goto l) _ h1 ⟨rfl, n, s2.absG g, tidyS_ok h2, Nat.le_refl _, s2, s', e, rfl, h, hQ⟩
          · rintro m τ ⟨hmn, t, t', e', rfl, ht, hq⟩ K' hK
            match m, hmn, ht, hK with
            | 0, _, ht, _ => simp [evJ] at ht
            | m + 1, hmn, ht, hK =>
              unfold evJ at ht
              have ihm := ih m (by omega) C hC rd hrd
              split at ht
              · rename_i l' s3 h3
                split at ht
                · rename_i hl
                  subst hl
                  split at ht
                  · rename_i s4 h4
                    exact ihm rest t s3 (.goto l') _ h3 ⟨rfl, hK (s3.absG g) m (s4.absG g) (Nat.lt_succ_self m) (tidyS_ok h4) ⟨by omega, s4, t', e', rfl, ht, hq⟩⟩
                  · cases ht
                · cases ht
              · rename_i r hr
                refine ihm rest t t' e' _ ht ?_
                cases e'
                case goto l' => exact absurd ht (hr _ _)
                all_goals exact hq
        · cases h
      · rename_i r hr
        refine vwp_scope (rest := .skip) 0 (fun _ _ => False) (fun ⟨_, _, h⟩ => h.elim) ?_ (fun _ _ h => h.elim)
        refine ihn b s s' e _ h ?_
        cases e
        case goto l => exact absurd h (hr _ _)
        all_goals exact hQ
    | rangeFunc o ps assign body =>
      cases o with
      | tmp t =>
        unfold evC at h
        cases rd with
        | true => simp at h
        | false =>
          simp only at h
          split at h
          · rename_i f caps M bs xs s1 hb
            cases hy : yieldsOk K.nt ps.toList xs with
            | false => rw [hy] at h; cases h
            | true =>
              rw [hy] at h
              simp only [cond_true] at h
              unfold yieldsOk at hy
              rw [Bool.and_eq_true] at hy
              subst hC
              refine begS_ok hk (hrd rfl) hb (g := g) (fun σ0 caps M bs hv hM htag hit hus0 hfin => vwp_range (M := M) (bs := bs) (caps := caps) (f := f) (xs := xs) (hrd rfl) hv hM rfl htag hit (fun p hp => ltAll_ok hy.1 p (memN_iff.2 hp)) (fun x hx => ?_)
                (fun k τ => ∃ m u e' u', m ≤ n ∧ τ = u.absG g ∧ u.us = [] ∧ evR C.P C.nt cx io m ps.toList assign body (xs.drop k) u = some (e', u') ∧ Q e' (u'.absG g)) ?_ ?_ ?_ ?_)
              · have := Nat.eq_of_beq_eq_true (List.all_eq_true.1 hy.2 x hx)
                simpa using this
              · rintro k τ ⟨m, u, e', u', _, rfl, hu, _⟩
                funext d
                show memN d u.us = false
                rw [hu]; rfl
              · exact ⟨n, s1, e, s', Nat.le_refl _, hfin, hus0, by simpa using h, hQ⟩
              · rintro k τ x ⟨m, u, e', u', hmn, rfl, hu, hev, hq⟩ hx
                have hd : xs.drop k = x :: xs.drop (k + 1) := by
                  obtain ⟨hlt, he⟩ := List.getElem?_eq_some_iff.1 hx
                  rw [List.drop_eq_getElem_cons hlt, he]
                rw [hd] at hev
                match m, hmn, hev with
                | 0, _, hev => simp [evR] at hev
                | m + 1, hmn, hev =>
                  unfold evR at hev
                  simp only at hev
                  split at hev
                  · rename_i mm ρ hri
                    obtain ⟨hren, hlt⟩ := roundIn_ok hg hri
                    refine ⟨_, _, hren, fun C' hC' K' hK' => ?_⟩
                    have e1 : ({ ρ.absG g with fr := putFr (ρ.absG g).fr (ps.toList.zip x) } : St) = ({ ρ with fr := putS ρ.fr (ps.toList.zip x) } : S).absG g := by
                      unfold S.absG
                      simp only [putS_get]
                    rw [e1]
                    have ihm := ih m (by omega)
                    have hout : ∀ (ρ2 s2 : S), roundOut u mm ρ2 = some s2 → ∃ G', BackG (u.absG g) (fun i j => (i, j) ∈ mm) (ρ2.absG g) (s2.absG g) G' ∧ s2.us = [] := fun ρ2 s2 h2 => roundOut_ok hg (fun i j hij => ⟨hren.g0 i j hij, hlt i j hij⟩) h2
                    split at hev
                    · rename_i ρ1 ha
                      refine ihm C' hC'.1 true (fun hf => by cases hf) assign _ ρ1 .normal _ ha (hK' _ fun C'' hC'' => ?_)
                      split at hev
                      · rename_i ρ2 hb
                        split at hev
                        · rename_i s2 h2
                          obtain ⟨G', hG', hus'⟩ := hout ρ2 _ h2
                          exact ihm C'' hC''.1 true (fun hf => by cases hf) body ρ1 ρ2 .normal _ hb ⟨_, G', hG', m, s2, e', u', by omega, rfl, hus', hev, hq⟩
                        · cases hev
                      · rename_i ρ2 hb
                        split at hev
                        · rename_i s2 h2
                          cases hev
                          obtain ⟨G', hG', hus'⟩ := hout ρ2 _ h2
                          exact ihm C'' hC''.1 true (fun hf => by cases hf) body ρ1 ρ2 .ret _ hb ⟨_, G', hG', hq⟩
                        · cases hev
                      · rename_i id ρ2 hb
                        split at hev
                        · rename_i s2 h2
                          cases hev
                          obtain ⟨G', hG', hus'⟩ := hout ρ2 _ h2
                          exact ihm C'' hC''.1 true (fun hf => by cases hf) body ρ1 ρ2 (.exit id) _ hb ⟨_, G', hG', hq⟩
                        · cases hev
                      · cases hev
                    · cases hev
                  · cases hev
              · rintro τ ⟨m, u, e', u', hmn, rfl, hu, hev, hq⟩
                rw [List.drop_eq_nil_of_le (Nat.le_refl _)] at hev
                match m, hev with
                | 0, hev => simp [evR] at hev
                | m + 1, hev =>
                  unfold evR at hev
                  cases hev
                  exact hq
          · cases h
      | const v => unfold evC at h; cases h
      | func f => unfold evC at h; cases h
      | global q => unfold evC at h; cases h
    | _ => unfold evC at h; cases h
theorem evC_ok {C : Ctx} {cx : Cx} {io : Io} (hk : Knows C.P C.gw C.gb cx io) (hcu : C.cut = true) (hm : C.P.follows .mixedOrders = true) (hro : C.ro = none) (n : Nat) (c : Code) (s s' : S) (e : Exit) (Q : Post)
    (h : evC C.P C.nt cx io false n c s = some (e, s')) (hQ : Q e s'.abs) : vwp C c Q s.abs := evC_all (K := C.toCore) hk hcu hm GOk.none n C rfl false (fun _ => hro) c s s' e Q h hQ
end Go.Vm
