/-
  Abstract states over the model's worlds, and that a step of them is a step of the program: part VmAG of a framework. Conditions: each theorem's own premises. By an AI agent.
-/
import Derived.Test.YtnpbndglolcilaaGreatDoorVmAF
import Derived.Shelf.Strings.Builder1
import Derived.RangeFuncSeq
import Derived.RangeFuncCalls
import Derived.RangeFuncRecord
section
namespace Go.Vm
open Go Go.RowKit
set_option linter.unusedVariables false

/-! ### Calls that are handed blocks of the caller's own -/
def St.enterIO (args : List PV) (Hin : List Blk) : St := ⟨fun t => args[t]?, fun i => if i.1 = 0 then Hin[i.2]? else none, fun _ => false, 1, fun _ => none⟩

def RetOkIO (P : Program) (rs : List ResultVar) (n : Nat) (r : PV) (B : List (Option Blk)) (σ : St) : Prop :=
  ∃ (vs : List PV) (Z : Id → Prop) (G : Id → Id → Prop), resOf P σ rs = some vs ∧ (∀ i i' j, G i j → G i' j → i = i') ∧ (∀ i j j', G i j → G i j' → j = j') ∧ (∀ i j, G i j → j.1 = 0 ∧ (∃ b, B[j.2]? = some (some b)) ∧ (j.2 < n → i = j)) ∧
    ConvV σ.H Z G (pack vs) r ∧ ∀ j b', B[j]? = some (some b') → ∃ i b, G i (0, j) ∧ ¬ Z i ∧ σ.H i = some b ∧ ConvB σ.H Z G b b'

def retIO (P : Program) (rs : List ResultVar) (n : Nat) (r : PV) (B : List (Option Blk)) : Post
  | .normal, σ => RetOkIO P rs n r B σ
  | .ret, σ => RetOkIO P rs n r B σ
  | _, _ => False

section
variable {C : Ctx} {φ φ' : Id → Option Value} {F : Bool → Nat → Prop} {F0 F1 : Nat → Prop} {σ τ : St} {a : Act} {w : World} {P : Program}

theorem vcallIO_of {gw : World} {gb : Nat} {f : FuncId} {fn : Func} {c : Code} {args : List PV} {Hin : List Blk} {r : PV} {B : List (Option Blk)} {n : Nat} (rs : List ResultVar) (hf : P.funcs[f]? = some fn) (hb : fn.body = some c) (hname : (fn.name == "runtime.NumGoroutine") = false) (hnt : fn.ntmps = n)
    (hrs : fn.results.toList = rs) (hn : args.length ≤ n) (hlen : Hin.length ≤ B.length)
    (h : ∀ C : Ctx, C.P = P → C.nt = n → C.gw = gw → C.gb = gb → vwp C c (retIO P rs Hin.length r B) (St.enterIO args Hin)) : VCallIO P gw gb f args Hin r B := by
  subst hnt hrs
  refine ⟨⟨fn, hf, hname, by simp [hb]⟩, hlen, fun w xs F φ0 hgb hgl hlt h0 hh hap hdom hinj hr => ?_⟩
  have hlt0 : ∀ j u g, φ0 (0, j) = some u → blkOf u = some g → g < w.heap.size := by
    intro j u g hu hg
    exact holds_lt (hh j _ (List.getElem?_eq_getElem (hdom j u hu))) hu hg
  let C₀ : Ctx := ⟨⟨P, fn.ntmps, gw, gb⟩, w, fun g => g < w.heap.size ∧ ¬ Handed φ0 g, F, φ0, none, [], #[], fun g hg => ⟨hlt g hg, fun ⟨j, u, hu, hb⟩ => (hap j u g hu hb).1 hg⟩, fun g hg => ⟨Nat.lt_of_lt_of_le hg hgb, fun ⟨j, u, hu, hb⟩ => Nat.not_lt.2 (hap j u g hu hb).2 hg⟩⟩
  have hinit : RelX C₀ φ0 F (fun _ => False) (St.enterIO args Hin) { tmps := xs ++ Array.replicate (fn.ntmps - xs.size) undef, defers := [] } w := by
    have hl := repVs_len _ _ hr
    have hg := repVs_get _ _ hr
    have hs : xs.size = args.length := by simpa using hl
    have hz : ∀ (i : Id) u, φ0 i = some u → ∃ j, i = (0, j) := by
      rintro ⟨i1, i2⟩ u hu
      have := h0 (i1, i2) (by rw [hu]; simp)
      simp only at this
      subst this
      exact ⟨i2, rfl⟩
    refine ⟨?_, rfl, fun t p hp => ?_, fun i b hi => ?_, fun i j u v g _ _ hu hv hg hg' => ?_, fun i u g _ hu hg => ?_, fun g hg => hg.elim, fun g hg => .inl hg, fun g hg => hg.elim, hlt, rfl, rfl, rfl, Nat.le_refl _, fun _ _ => rfl, fun _ h => h.1, hgb, hgl, fun j u hu => hu, Nat.le_refl _, fun i hi => .inl (by simp only [St.enterIO]; have := h0 i hi; omega), fun t p hp => (by cases hp)⟩
    · show (xs ++ Array.replicate (fn.ntmps - xs.size) undef).size = fn.ntmps; simp only [Array.size_append, Array.size_replicate]; omega
    · obtain ⟨v, hv, hr'⟩ := hg t p hp
      refine ⟨v, ?_, hr'⟩
      have hv' : xs[t]? = some v := by simpa using hv
      rw [Array.getElem?_append_left (Array.getElem?_eq_some_iff.1 hv').1]
      exact hv'
    · simp only [St.enterIO] at hi
      split at hi
      · rename_i hi0
        obtain ⟨i1, i2⟩ := i
        simp only at hi0
        subst hi0
        exact hh i2 b hi
      · cases hi
    · obtain ⟨i2, rfl⟩ := hz i u hu
      obtain ⟨j2, rfl⟩ := hz j v hv
      rw [hinj i2 j2 u v g hu hv hg hg']
    · obtain ⟨i2, rfl⟩ := hz i u hu
      exact ⟨(hap i2 u g hu hg).1, fun hk => hk.2 ⟨i2, u, hu, hg⟩, (hap i2 u g hu hg).2⟩
  refine callsIn_wide.1 (callsIn_of_wp_marks (F := fz C₀) (n := 0) hf hb trivial (wpIn_mono (h C₀ rfl rfl rfl rfl C₀ (.refl _) _ _ ⟨_, _, _, hinit⟩) ?_))
  rintro e a' w₁ ⟨C₂, σ', l, ⟨φ, F0, F1, hR₁⟩, hq⟩
  have back : ∀ R : Ending → World → Prop, (∀ w' df, RelX { C₀ with df := df } φ F0 F1 σ' a' w' → ∃ v, (results fn a'.tmps).run P w' = .ok v w' ∧ R (.returned v) w') → LeavesInM (fz C₀) 0 P fn a'.tmps R a'.defers .returning w₁ := by
    intro R hR
    obtain ⟨rs, e1, e2, e3⟩ := l.df
    rw [hR₁.defs, e1, show C₀.df = [] from rfl, List.append_nil]
    refine leaves_marks rs w₁ e2 (fun r hr => (hR₁.kept r (e3 r hr).2.2.1).trans (e3 r hr).2.2.2) fun w' hos htp hout hsz hw => ?_
    refine hR w' C₂.df (hR₁.turn l (· ∈ rs) (fun g hg => ?_) hos htp hout (Nat.le_of_eq hsz.symm) (fun g _ hg => hw g hg) (fun g hg hs => ?_) hgb)
    · obtain ⟨h1, h2, h3, h4⟩ := e3 g hg
      refine ⟨fun h0 => ?_, ?_, fun i u hi hu hg' => (hR₁.apart i u g hi hu hg').2.1 h3⟩
      · rcases hR₁.ini g h0 with h5 | h5
        · rw [l.Fi] at h5
          have := hlt g h5
          have h1 : w.heap.size ≤ g := h1
          omega
        · exact hR₁.new1 g h5 h3
      · rw [show C₂.gb = C₀.gb from by rw [show C₂.gb = C₂.toCore.gb from rfl, l.core]]
        exact Nat.le_trans hgb h1
    · have h1 : w.heap.size ≤ g := (e3 g hs).1
      have hg : g < w.heap.size := hg.1
      omega
  have main : ∀ w' df, RelX { C₀ with df := df } φ F0 F1 σ' a' w' → RetOkIO P fn.results.toList Hin.length r B σ' → ∃ v, (results fn a'.tmps).run P w' = .ok v w' ∧ ∃ (x : Value) (ψ : Id → Option Value) (X : Nat → Prop), Ending.returned v = .returned x ∧ w'.os = w.os ∧ w'.tape = w.tape ∧ w'.output = w.output ∧ w.heap.size ≤ w'.heap.size ∧
      (∀ g, g < w.heap.size → ¬ Handed φ0 g → w'.heap[g]? = w.heap[g]?) ∧ (∀ g, X g → (w.heap.size ≤ g ∨ Handed φ0 g) ∧ g < w'.heap.size) ∧
      repV ψ w' (Fs (fun g => F g ∨ X g) X) r x ∧ (∀ j b, B[j]? = some (some b) → holds ψ w' (Fs (fun g => F g ∨ X g) X) (0, j) b) ∧ (∀ i, ψ i ≠ none → i.1 = 0) ∧
      (∀ j u, ψ (0, j) = some u → ∃ b, B[j]? = some (some b)) ∧
      (∀ j u g, ψ (0, j) = some u → blkOf u = some g → (w.heap.size ≤ g ∨ Handed φ0 g) ∧ ¬ X g) ∧
      (∀ j k u v g, ψ (0, j) = some u → ψ (0, k) = some v → blkOf u = some g → blkOf v = some g → j = k) ∧
      (∀ j u, j < Hin.length → ψ (0, j) = some u → φ0 (0, j) = some u) := by
    rintro w' df hR ⟨vs, Z, G, hvs, hG1, hG2, hG0, hcv, hB⟩
    obtain ⟨xs', hrun, hreps⟩ := results_run hR _ vs hvs
    have hx := pack_rep hreps
    obtain ⟨χ, hχ⟩ := exists_names G hG1 φ
    obtain ⟨φ', F0', F1', hT, hV, hφ'⟩ := hR.conv (τ := ⟨fun _ => none, fun j => if j.1 = 0 then (B[j.2]?).join else none, fun _ => false, 1, fun _ => none⟩) Z G hG1 hG2 (fun t p' hp => by cases hp) (fun t p' hp => by cases hp)
      (fun j b' hj => by
        simp only at hj
        split at hj
        · rename_i h0
          obtain ⟨j1, j2⟩ := j
          simp only at h0
          subst h0
          refine hB j2 b' ?_
          simp only at hj
          cases hb' : B[j2]? with
          | none => rw [hb'] at hj; cases hj
          | some o => rw [hb'] at hj; simp at hj; rw [hj]
        · cases hj)
      (fun i j hg => .inl (by have := (hG0 i j hg).1; simp only; omega)) (Nat.le_refl _) χ (fun i j u hg _ hu => (hχ j u).2 ⟨i, hg, hu⟩)
    have hF : ∀ t g, Fs F0' F1' t g → Fs (fun g => F g ∨ F1' g) F1' t g := by
      intro t g hg
      cases t
      · exact hT.ini g hg
      · exact hg
    have hH : ∀ j u, φ' (0, j) = some u → ∃ b, B[j]? = some (some b) := by
      intro j u hu
      obtain ⟨i, hg, _⟩ := (hφ' _ u).1 hu
      exact (hG0 i _ hg).2.1
    have hk : ∀ g, ¬ (g < w.heap.size ∧ ¬ Handed φ0 g) → w.heap.size ≤ g ∨ Handed φ0 g := by
      intro g hg
      by_cases h1 : g < w.heap.size
      · right
        apply Classical.byContradiction
        intro h2
        exact hg ⟨h1, h2⟩
      · left; omega
    refine ⟨_, ?_, _, φ', F1', rfl, hR.os, hR.tape, hR.output, hR.big, fun g hg hng => hR.kept g ⟨hg, hng⟩, fun g hg => ⟨hk g (hT.new1 g hg), hT.lt0 g (hT.sub g hg)⟩,
      repV_mono (fun _ _ e => e) (fun _ _ _ => rfl) hF _ _ (hV _ _ _ hcv hx), fun j b hj => ?_, fun i hi => ?_, hH, fun j u g hu hg => ?_, fun j k u v g hu hv hg hg' => ?_, fun j u hj hu => ?_⟩
    · unfold results
      simp only [Array.mapM_eq_mapM_toList]
      simp only [map_eq_pure_bind, Sem.run_bind, Sem.run_pure]
      have key : ∀ m : Sem (List Value), m.run P w' = .ok xs' w' → ((m.run P w').andThen fun a w' => Result.ok a.toArray w').andThen (fun a w' => Result.ok (if h : a.size = 1 then a[0] else Value.tuple a) w') =
          Result.ok (if h : xs'.toArray.size = 1 then xs'.toArray[0] else Value.tuple xs'.toArray) w' := by
        intro m hm; rw [hm]; rfl
      exact key _ hrun
    · exact holds_mono (hT.heap (0, j) b (by simp [hj])) (fun _ _ e => e) hF (fun _ _ _ => rfl) (fun _ _ _ _ => rfl)
    · obtain ⟨u, hu⟩ := Option.ne_none_iff_exists'.1 hi
      obtain ⟨i', hg, _⟩ := (hφ' _ u).1 hu
      exact (hG0 i' _ hg).1
    · obtain ⟨b, hb'⟩ := hH j u hu
      obtain ⟨h1, h2, _⟩ := hT.apart (0, j) u g (by simp [hb']) hu hg
      exact ⟨hk g h2, fun hx => h1 (hT.sub g hx)⟩
    · obtain ⟨b, hb'⟩ := hH j u hu
      obtain ⟨b2, hb2'⟩ := hH k v hv
      have := hT.inj (0, j) (0, k) u v g (by simp [hb']) (by simp [hb2']) hu hv hg hg'
      simpa using this
    · obtain ⟨i, hg, hu'⟩ := (hφ' _ u).1 hu
      have := (hG0 i _ hg).2.2 hj
      subst this
      exact hR.keep j u hu'
  cases e
  case normal => exact back _ fun w' df hR => main w' df hR hq
  case ret => exact back _ fun w' df hR => main w' df hR hq
  all_goals exact hq.elim
end

section
variable {C : Ctx} {φ : Id → Option Value} {F0 F1 : Nat → Prop} {σ : St} {a : Act} {w : World} {P : Program}

/-- A nil slice may be told as an empty row of the call's own. -/
theorem RelX.nilrow (h : RelX C φ F0 F1 σ a w) {d : Nat} (hd : σ.us d = false) (e : TypeId) (z : Nat) :
    RelX C (upd φ (σ.nx + d, 0) (some (.slice none 0 0))) F0 F1 { σ with H := upd σ.H (σ.nx + d, 0) (some (.arr e z 0 [])), us := upd σ.us d true } a w :=
  h.bind rfl (h.fresh hd) ⟨.slice none 0 0, [], upd_self _ _ _, World.ownsRow_nil w 0 e z, by simp [reps]⟩ (fun g hg => by simp [blkOf] at hg)

theorem wk_nil_slot {t d : Nat} (e : TypeId) (z : Nat) (ht : σ.fr t = some (.one (.c (.slice none 0 0)))) (hd : σ.us d = false) :
    Wk C σ { σ with fr := upd σ.fr t (some (.one (.own (σ.nx + d, 0)))), H := upd σ.H (σ.nx + d, 0) (some (.arr e z 0 [])), us := upd σ.us d true } := by
  rintro C₁ l a w ⟨φ, F0, F1, h⟩
  have h' := h.nilrow hd e z
  refine ⟨_, F0, F1, h'.size, h'.defs, fun k p hp => ?_, h'.heap, h'.inj, h'.apart, h'.sub, h'.ini, h'.new1, h'.lt0, h'.os, h'.tape, h'.output, h'.big, h'.kept, h'.k0lt, h'.gbig, h'.glob, h'.keep, h'.nx1, h'.ids, h'.ghost⟩
  by_cases hk : k = t
  · subst hk
    simp only [upd_self] at hp
    cases hp
    obtain ⟨x, hx, hr⟩ := h.frame k _ ht
    simp only [repV, rep] at hr
    exact ⟨x, hx, by simp only [repV, rep, hr.1]; exact ⟨upd_self _ _ _, rfl⟩⟩
  · simp only [upd_ne _ _ hk] at hp
    exact h'.frame k p hp

theorem wk_nil_cell {i : Id} {k d : Nat} {ty : TypeId} {cs : List PC} (e : TypeId) (z : Nat) (hi : σ.H i = some (.box ty cs)) (hk : cs[k]? = some (.c (.slice none 0 0))) (hd : σ.us d = false) :
    Wk C σ { σ with H := upd (upd σ.H i (some (.box ty (cs.set k (.own (σ.nx + d, 0)))))) (σ.nx + d, 0) (some (.arr e z 0 [])), us := upd σ.us d true } := by
  rintro C₁ l a w ⟨φ, F0, F1, h⟩
  have h' := h.nilrow hd e z
  have hne : i ≠ (σ.nx + d, 0) := by
    rintro rfl
    obtain ⟨g, vs, hp, _⟩ := h.heap _ _ hi
    rw [h.fresh hd] at hp; cases hp
  have hH : ∀ j, upd (upd σ.H i (some (.box ty (cs.set k (.own (σ.nx + d, 0)))))) (σ.nx + d, 0) (some (.arr e z 0 [])) j ≠ none → upd σ.H (σ.nx + d, 0) (some (.arr e z 0 [])) j ≠ none := by
    intro j hj
    by_cases h1 : j = (σ.nx + d, 0)
    · subst h1; simp [upd_self]
    · rw [upd_ne _ _ h1] at hj ⊢
      by_cases h2 : j = i
      · subst h2; rw [hi]; simp
      · rwa [upd_ne _ _ h2] at hj
  refine ⟨_, F0, F1, h'.size, h'.defs, h'.frame, fun j b hj => ?_, fun j l u v g hj hl => h'.inj j l u v g (hH j hj) (hH l hl), fun j u g hj => h'.apart j u g (hH j hj), h'.sub, h'.ini, h'.new1, h'.lt0, h'.os, h'.tape, h'.output, h'.big, h'.kept, h'.k0lt, h'.gbig, h'.glob, h'.keep, h'.nx1, h'.ids, h'.ghost⟩
  by_cases h1 : j = (σ.nx + d, 0)
  · subst h1
    refine h'.heap _ b ?_
    simp only [upd_self] at hj ⊢
    exact hj
  · by_cases h2 : j = i
    · subst h2
      simp only [upd_ne _ _ hne, upd_self] at hj
      cases hj
      obtain ⟨g, vs, hp, hh, hr⟩ := h'.heap j (.box ty cs) (by simp only [upd_ne _ _ h1]; exact hi)
      refine ⟨g, vs, hp, hh, reps_of_get _ _ (by rw [reps_length _ _ hr, List.length_set]) fun q p v hq hv => ?_⟩
      by_cases hqk : q = k
      · subst hqk
        obtain ⟨v', hv', hr'⟩ := reps_get _ _ hr q _ hk
        rw [hv] at hv'; cases hv'
        simp only [rep] at hr'
        rw [List.getElem?_set_self (List.getElem?_eq_some_iff.1 hk).1] at hq
        cases hq
        simp only [rep, hr'.1]
        exact ⟨upd_self _ _ _, rfl⟩
      · rw [List.getElem?_set_ne (Ne.symm hqk)] at hq
        obtain ⟨v', hv', hr'⟩ := reps_get _ _ hr q _ hq
        rw [hv] at hv'; cases hv'
        exact hr'
    · refine h'.heap j b ?_
      simp only [upd_ne _ _ h1, upd_ne _ _ h2] at hj ⊢
      exact hj

/-! ### Returns, told by lists of names -/
theorem nodup_fst {l : List (Id × Id)} (hn : (l.map (·.1)).Nodup) : ∀ i j j', (i, j) ∈ l → (i, j') ∈ l → j = j' := by
  induction l with
  | nil => intro i i' j h; simp at h
  | cons c l ih =>
    intro i j j' h1 h2
    simp only [List.map_cons, List.nodup_cons, List.mem_map, not_exists, not_and] at hn
    rcases List.mem_cons.1 h1 with e1 | e1 <;> rcases List.mem_cons.1 h2 with e2 | e2
    · rw [← e1] at e2; cases e2; rfl
    · exact absurd (by rw [← e1]) (hn.1 _ e2)
    · exact absurd (by rw [← e2]) (hn.1 _ e1)
    · exact ih hn.2 i j j' e1 e2

theorem nodup_snd {l : List (Id × Id)} (hn : (l.map (·.2)).Nodup) : ∀ i i' j, (i, j) ∈ l → (i', j) ∈ l → i = i' := by
  induction l with
  | nil => intro i i' j h; simp at h
  | cons c l ih =>
    intro i i' j h1 h2
    simp only [List.map_cons, List.nodup_cons, List.mem_map, not_exists, not_and] at hn
    rcases List.mem_cons.1 h1 with e1 | e1 <;> rcases List.mem_cons.1 h2 with e2 | e2
    · rw [← e1] at e2; cases e2; rfl
    · exact absurd (by rw [← e1]) (hn.1 _ e2)
    · exact absurd (by rw [← e2]) (hn.1 _ e1)
    · exact ih hn.2 i i' j e1 e2

theorem ret_conv {rs : List ResultVar} {r : PV} {B : List Blk} {vs : List PV} (z : List Id) (m : List (Id × Id)) (hv : resOf P σ rs = some vs) (hm1 : (m.map (·.1)).Nodup) (hm2 : (m.map (·.2)).Nodup) (h0 : ∀ e ∈ m, e.2.1 = 0 ∧ e.2.2 < B.length)
    (hc : ConvV σ.H (· ∈ z) (fun i j => (i, j) ∈ m) (pack vs) r) (hB : ∀ (j : Nat) b', B[j]? = some b' → ∃ i b, (i, ((0, 0 + j) : Id)) ∈ m ∧ i ∉ z ∧ σ.H i = some b ∧ ConvB σ.H (· ∈ z) (fun i j => (i, j) ∈ m) b b') : RetOk P rs r B σ :=
  ⟨vs, (· ∈ z), fun i j => (i, j) ∈ m, hv, nodup_snd hm2, nodup_fst hm1, fun i j h => h0 (i, j) h, hc, fun j b' hj => by simpa using hB j b' hj⟩

theorem rb_nil {P : Nat → Blk → Prop} : ∀ (j : Nat) b', ([] : List Blk)[j]? = some b' → P j b' := by intro j b' h; simp at h
theorem rb_cons {H : Id → Option Blk} {z : List Id} {m : List (Id × Id)} {k : Nat} {b0 : Blk} {B : List Blk} (h : ∃ i b, (i, ((0, k) : Id)) ∈ m ∧ i ∉ z ∧ H i = some b ∧ ConvB H (· ∈ z) (fun i j => (i, j) ∈ m) b b0)
    (ht : ∀ (j : Nat) b', B[j]? = some b' → ∃ i b, (i, ((0, k + 1 + j) : Id)) ∈ m ∧ i ∉ z ∧ H i = some b ∧ ConvB H (· ∈ z) (fun i j => (i, j) ∈ m) b b') : ∀ (j : Nat) b', (b0 :: B)[j]? = some b' → ∃ i b, (i, ((0, k + j) : Id)) ∈ m ∧ i ∉ z ∧ H i = some b ∧ ConvB H (· ∈ z) (fun i j => (i, j) ∈ m) b b' := by
  intro j b' hj
  cases j with
  | zero => simp at hj; subst hj; exact h
  | succ j =>
    have := ht j b' (by simpa using hj)
    rwa [show k + 1 + j = k + (j + 1) by omega] at this

theorem ret_io {rs : List ResultVar} {n : Nat} {r : PV} {B : List (Option Blk)} {vs : List PV} (z : List Id) (m : List (Id × Id)) (hv : resOf P σ rs = some vs) (hm1 : (m.map (·.1)).Nodup) (hm2 : (m.map (·.2)).Nodup)
    (h0 : ∀ e ∈ m, e.2.1 = 0 ∧ ((B[e.2.2]?).join).isSome = true ∧ (e.2.2 < n → e.1 = e.2))
    (hc : ConvV σ.H (· ∈ z) (fun i j => (i, j) ∈ m) (pack vs) r) (hB : ∀ (j : Nat) b', B[j]? = some (some b') → ∃ i b, (i, ((0, 0 + j) : Id)) ∈ m ∧ i ∉ z ∧ σ.H i = some b ∧ ConvB σ.H (· ∈ z) (fun i j => (i, j) ∈ m) b b') : RetOkIO P rs n r B σ := by
  refine ⟨vs, (· ∈ z), fun i j => (i, j) ∈ m, hv, nodup_snd hm2, nodup_fst hm1, fun i j h => ?_, hc, fun j b' hj => by simpa using hB j b' hj⟩
  obtain ⟨h1, h2, h3⟩ := h0 (i, j) h
  refine ⟨h1, ?_, h3⟩
  obtain ⟨b, hb⟩ := Option.isSome_iff_exists.1 h2
  exact ⟨b, Option.join_eq_some_iff.1 hb⟩

theorem rio_nil {P : Nat → Blk → Prop} : ∀ (j : Nat) b', ([] : List (Option Blk))[j]? = some (some b') → P j b' := by intro j b' h; simp at h
theorem rio_none {H : Id → Option Blk} {z : List Id} {m : List (Id × Id)} {k : Nat} {B : List (Option Blk)}
    (ht : ∀ (j : Nat) b', B[j]? = some (some b') → ∃ i b, (i, ((0, k + 1 + j) : Id)) ∈ m ∧ i ∉ z ∧ H i = some b ∧ ConvB H (· ∈ z) (fun i j => (i, j) ∈ m) b b') : ∀ (j : Nat) b', (none :: B)[j]? = some (some b') → ∃ i b, (i, ((0, k + j) : Id)) ∈ m ∧ i ∉ z ∧ H i = some b ∧ ConvB H (· ∈ z) (fun i j => (i, j) ∈ m) b b' := by
  intro j b' hj
  cases j with
  | zero => simp at hj
  | succ j =>
    have := ht j b' (by simpa using hj)
    rwa [show k + 1 + j = k + (j + 1) by omega] at this
theorem rio_cons {H : Id → Option Blk} {z : List Id} {m : List (Id × Id)} {k : Nat} {b0 : Blk} {B : List (Option Blk)} (h : ∃ i b, (i, ((0, k) : Id)) ∈ m ∧ i ∉ z ∧ H i = some b ∧ ConvB H (· ∈ z) (fun i j => (i, j) ∈ m) b b0)
    (ht : ∀ (j : Nat) b', B[j]? = some (some b') → ∃ i b, (i, ((0, k + 1 + j) : Id)) ∈ m ∧ i ∉ z ∧ H i = some b ∧ ConvB H (· ∈ z) (fun i j => (i, j) ∈ m) b b') : ∀ (j : Nat) b', (some b0 :: B)[j]? = some (some b') → ∃ i b, (i, ((0, k + j) : Id)) ∈ m ∧ i ∉ z ∧ H i = some b ∧ ConvB H (· ∈ z) (fun i j => (i, j) ∈ m) b b' := by
  intro j b' hj
  cases j with
  | zero => simp at hj; subst hj; exact h
  | succ j =>
    have := ht j b' (by simpa using hj)
    rwa [show k + 1 + j = k + (j + 1) by omega] at this
end
attribute [push_cast] St.enterIO
end Go.Vm
end

section
namespace Go.Vm
open Go Go.RowKit
set_option linter.unusedVariables false

/-- Ways through a statement that meet again. -/
theorem vwp_seq_merge {C : Ctx} {Q : Post} {σ : St} {x y : Code} {α : Type} (P : α → Prop) (I : α → St) (h1 : ∀ K : St → Prop, (∀ σ' a, P a → Wk C σ' (I a) → K σ') → vwp C x (thenQ K Q) σ) (h2 : ∀ a, P a → vwp C y Q (I a)) : vwp C (.seq x y) Q σ :=
  vwp_seq fun K hK => h1 K fun σ' a hp hw => hK σ' (vwp_wk hw (h2 a hp))

/-! ### Lists under an index that is an integer -/
section
variable {α : Type} {l : List α} {i : Int}
theorem flat_two (f g : α → PC) : ∀ (l : List α) (k : Nat), List.drop (k * 2) (l.flatMap fun a => [f a, g a]) = (l.drop k).flatMap fun a => [f a, g a]
  | [], k => by simp
  | a :: l, 0 => by simp
  | a :: l, k + 1 => by
    rw [show (k + 1) * 2 = k * 2 + 2 by omega, List.flatMap_cons, List.drop_succ_cons]
    exact flat_two f g l k
theorem take_all (h1 : ¬ i < (l.length : Int)) : l.take i.toNat = l := List.take_of_length_le (by omega)
theorem len_take (h0 : 0 ≤ i) (h1 : i ≤ (l.length : Int)) : (l.take i.toNat).length = i.toNat := by rw [List.length_take]; omega
theorem all_end {p : α → Bool} {b : Bool} (h1 : ¬ i < (l.length : Int)) (h : (l.drop i.toNat).all p = b) : b = true := by
  rw [List.drop_eq_nil_of_le (by omega)] at h
  exact h.symm
theorem any_end {p : α → Bool} {b : Bool} (h1 : ¬ i < (l.length : Int)) (h : (l.drop i.toNat).any p = b) : b = false := by
  rw [List.drop_eq_nil_of_le (by omega)] at h
  exact h.symm
theorem wrap_next {n : Int} (h0 : 0 ≤ i) (h1 : i < n) (hn : n ≤ 9223372036854775807) : IntKind.wrap .i64 (i + 1) = i + 1 := by
  rw [IntKind.wrap_i64]; omega
end

section
variable {α : Type} [Inhabited α] {l : List α} {i : Int}
def atI (l : List α) (i : Int) : α := l.getD i.toNat default

theorem drop_atI (h0 : 0 ≤ i) (h1 : i < (l.length : Int)) : l.drop i.toNat = atI l i :: l.drop (i.toNat + 1) := by
  have hl : i.toNat < l.length := by omega
  rw [List.drop_eq_getElem_cons hl]
  simp [atI, List.getD, List.getElem?_eq_getElem hl]
theorem dropI_map (f : α → PC) (h0 : 0 ≤ i) (h1 : i < (l.length : Int)) : List.drop (i.toNat * 1) (l.map f) = f (atI l i) :: List.drop (i.toNat + 1) (l.map f) := by
  rw [Nat.mul_one, ← List.map_drop, drop_atI h0 h1, List.map_cons, List.map_drop]
theorem dropI_two (f g : α → PC) (h0 : 0 ≤ i) (h1 : i < (l.length : Int)) : List.drop (i.toNat * 2) (l.flatMap fun a => [f a, g a]) = f (atI l i) :: g (atI l i) :: (l.drop (i.toNat + 1)).flatMap fun a => [f a, g a] := by
  rw [flat_two, drop_atI h0 h1, List.flatMap_cons]
  rfl
theorem take_next (h0 : 0 ≤ i) (h1 : i < (l.length : Int)) : l.take (i + 1).toNat = l.take i.toNat ++ [atI l i] := by
  have hl : i.toNat < l.length := by omega
  rw [show (i + 1).toNat = i.toNat + 1 by omega, List.take_succ_eq_append_getElem hl]
  simp [atI, List.getD, List.getElem?_eq_getElem hl]
theorem any_next {p : α → Bool} {b : Bool} (h0 : 0 ≤ i) (h1 : i < (l.length : Int)) (h : (l.drop i.toNat).any p = b) (hp : p (atI l i) = false) : (l.drop (i + 1).toNat).any p = b := by
  rw [drop_atI h0 h1, List.any_cons, hp, Bool.false_or] at h
  rwa [show (i + 1).toNat = i.toNat + 1 by omega]
theorem any_stop {p : α → Bool} {b : Bool} (h0 : 0 ≤ i) (h1 : i < (l.length : Int)) (h : (l.drop i.toNat).any p = b) (hp : p (atI l i) = true) : b = true := by
  rw [drop_atI h0 h1, List.any_cons, hp, Bool.true_or] at h
  exact h.symm
theorem atI_mem (h0 : 0 ≤ i) (h1 : i < (l.length : Int)) : atI l i ∈ l := by
  have hl : i.toNat < l.length := by omega
  have : atI l i = l[i.toNat] := by simp [atI, List.getD, List.getElem?_eq_getElem hl]
  rw [this]; exact List.getElem_mem hl
theorem all_next {p : α → Bool} {b : Bool} (h0 : 0 ≤ i) (h1 : i < (l.length : Int)) (h : (l.drop i.toNat).all p = b) (hp : p (atI l i) = true) : (l.drop (i + 1).toNat).all p = b := by
  rw [drop_atI h0 h1, List.all_cons, hp, Bool.true_and] at h
  rwa [show (i + 1).toNat = i.toNat + 1 by omega]
theorem all_stop {p : α → Bool} {b : Bool} (h0 : 0 ≤ i) (h1 : i < (l.length : Int)) (h : (l.drop i.toNat).all p = b) (hp : p (atI l i) = false) : b = false := by
  rw [drop_atI h0 h1, List.all_cons, hp, Bool.false_and] at h
  exact h.symm
end

/-! ### A row that is filled from its head on -/
section
variable {α : Type} {f : α → PC} {z x y : PC} {l : List α} {k : Nat}
def rowAt (f : α → PC) (z : PC) (l : List α) (k : Nat) : List PC := (l.take k).map f ++ List.replicate (l.length - k) z
def rowPut (f : α → PC) (z : PC) (l : List α) (k : Nat) (x : PC) : List PC := (l.take k).map f ++ x :: List.replicate (l.length - (k + 1)) z
theorem rowZ_one (n : Nat) : rowZ [z] n = List.replicate n z := by
  induction n with
  | zero => rfl
  | succ n ih => rw [rowZ, ih]; rfl
theorem rowAt_zero : rowZ [z] l.length = rowAt f z l 0 := by simp [rowAt, rowZ_one]
theorem rowAt_end : rowAt f z l l.length = l.map f := by simp [rowAt]
theorem rowAt_len (h : k ≤ l.length) : (rowAt f z l k).length = l.length := by simp [rowAt]; omega
theorem rowPut_len (h : k < l.length) : (rowPut f z l k x).length = l.length := by simp [rowPut]; omega
theorem splice_at {a b : List PC} (h : a.length = k) : splice (a ++ x :: b) k [y] = a ++ y :: b := by
  subst h
  simp [splice, List.drop_append]
theorem rowAt_put (h : k < l.length) : splice (rowAt f z l k) k [x] = rowPut f z l k x := by
  unfold rowAt rowPut
  rw [show l.length - k = (l.length - (k + 1)) + 1 by omega, List.replicate_succ]
  exact splice_at (by simp; omega)
theorem rowPut_put (h : k < l.length) : splice (rowPut f z l k x) k [y] = rowPut f z l k y := by
  unfold rowPut
  exact splice_at (by simp; omega)
theorem rowAt_frees (hz : z.free = true) (hf : ∀ a, (f a).free = true) : PC.frees (rowAt f z l k) = true := by
  unfold rowAt
  rw [frees_append, frees_map]
  have h1 : ∀ n, PC.frees (List.replicate n z) = true := by
    intro n
    induction n with
    | zero => rfl
    | succ n ih => rw [List.replicate_succ, PC.frees, hz, ih]; rfl
  rw [h1, Bool.and_true, List.all_eq_true]
  exact fun a _ => hf a
theorem rowAt_next [Inhabited α] {i : Int} (h0 : 0 ≤ i) (h1 : i < (l.length : Int)) : rowPut f z l i.toNat (f (atI l i)) = rowAt f z l (i + 1).toNat := by
  unfold rowPut rowAt
  rw [take_next h0 h1, List.map_append, List.append_assoc, show (i + 1).toNat = i.toNat + 1 by omega]
  rfl
end

/-! ### Strings of bytes -/
def bOf (l : List UInt8) : ByteArray := ⟨l.toArray⟩
theorem bOf_append (a b : List UInt8) : bOf (a ++ b) = bOf a ++ bOf b := by
  apply ByteArray.ext
  rw [ByteArray.data_append]
  simp [bOf]
theorem bOf_size (l : List UInt8) : (bOf l).size = l.length := by simp [bOf, ByteArray.size]
theorem ba_ext {a b : ByteArray} (h : a.toList = b.toList) : a = b := by
  rw [ByteArray.toList_eq, ByteArray.toList_eq] at h
  obtain ⟨a⟩ := a
  obtain ⟨b⟩ := b
  congr 1
  exact Array.toList_inj.1 h
theorem bOf_toList (l : List UInt8) : (bOf l).toList = l := by rw [ByteArray.toList_eq]; rfl
theorem bOf_inj {a b : List UInt8} (h : bOf a = bOf b) : a = b := by
  have := congrArg ByteArray.toList h
  rwa [bOf_toList, bOf_toList] at this
theorem bOf_of (b : ByteArray) : bOf b.toList = b := ba_ext (bOf_toList _)
end Go.Vm
end

section
namespace Go.Vm
open Go Go.RowKit Go.Proofs Go.Shelf
set_option linter.unusedVariables false

/-! ### strings.Builder -/
section
variable {P : Program} {ρ : Ren} {gw : World} {gb : Nat}

/-- What the first cell of a builder may hold: nothing yet, or its own address. -/
def BuilderHead (p : PC) : Prop := p = .c (.pointer none) ∨ p = .loc (0, 0) 0

theorem copyCheck_io {f T : Nat} (hc : Callable P f) (hused : ∀ (b : Nat) (w : World), w.cell? ⟨b, 0, none⟩ = some (.pointer (some ⟨b, 0, none⟩)) → Calls P f #[.pointer (some ⟨b, 0, none⟩)] w fun e w' => e = .returned (.tuple #[]) ∧ w' = w)
    (hfresh : ∀ (b : Nat) (w : World), w.cell? ⟨b, 0, none⟩ = some (.pointer none) → w.shape? b = some (T, 2) → w.frozen? ⟨b, 0, none⟩ = false → Calls P f #[.pointer (some ⟨b, 0, none⟩)] w fun e w' => e = .returned (.tuple #[]) ∧ w' = w.setCell ⟨b, 0, none⟩ (.pointer (some ⟨b, 0, none⟩))) (p q : PC) (hp : BuilderHead p) (bs : List Blk) :
    VCallIO P gw gb f [.one (.loc (0, 0) 0)] (.box T [p, q] :: bs) (.tup []) (some (.box T [.loc (0, 0) 0, q]) :: bs.map some) := by
  refine ⟨hc, by simp, fun w xs F φ0 hgb hgl hlt h0 hh hap hdom hinj hr => ?_⟩
  obtain ⟨g, vs, hp0, hg, hrs⟩ := hh 0 _ rfl
  simp only [repVs, repV, rep] at hr
  obtain ⟨x, xs', hxs, ⟨u, g', hu, hg', rfl⟩, rfl⟩ := hr
  rw [hp0] at hu; cases hu
  simp only [blkOf, Option.some.injEq] at hg'
  subst hg'
  have hxs' : xs = #[.pointer (some ⟨g, 0, none⟩)] := by apply Array.toList_inj.1; rw [hxs]
  subst hxs'
  simp only [reps] at hrs
  obtain ⟨v0, _, rfl, hv0, v1, _, rfl, hv1, rfl⟩ := hrs
  have hbk : w.heap[g]? = some (.cells #[v0, v1] T (0, 0)) := hg
  have c0 : w.cell? ⟨g, 0, none⟩ = some v0 := by rw [Lib.cell_of_heap hbk]; rfl
  have hFg : ¬ F g := (hap 0 _ g hp0 rfl).1
  have hglt : g < w.heap.size := holds_lt (hh 0 _ rfl) hp0 rfl
  have hhd : Handed φ0 g := ⟨0, _, hp0, rfl⟩
  have hself : rep φ0 w (Fs (fun g => F g ∨ False) fun _ => False) (.loc (0, 0) 0) (.pointer (some ⟨g, 0, none⟩)) := by
    simp only [rep]; exact ⟨_, g, hp0, rfl, rfl⟩
  -- the world behind it: the block g alone is written
  have fin : ∀ w' : World, w'.os = w.os → w'.tape = w.tape → w'.output = w.output → w'.heap.size = w.heap.size → (∀ k, k ≠ g → w'.heap[k]? = w.heap[k]?) → w'.heap[g]? = some (.cells #[.pointer (some ⟨g, 0, none⟩), v1] T (0, 0)) →
      ∃ (x : Value) (ψ : Id → Option Value) (X : Nat → Prop), Ending.returned (.tuple #[]) = .returned x ∧ w'.os = w.os ∧ w'.tape = w.tape ∧ w'.output = w.output ∧ w.heap.size ≤ w'.heap.size ∧
      (∀ g, g < w.heap.size → ¬ Handed φ0 g → w'.heap[g]? = w.heap[g]?) ∧ (∀ g, X g → (w.heap.size ≤ g ∨ Handed φ0 g) ∧ g < w'.heap.size) ∧
      repV ψ w' (Fs (fun g => F g ∨ X g) X) (.tup []) x ∧ (∀ (j : Nat) b, (some (.box T [.loc (0, 0) 0, q]) :: bs.map some)[j]? = some (some b) → holds ψ w' (Fs (fun g => F g ∨ X g) X) (0, j) b) ∧ (∀ i, ψ i ≠ none → i.1 = 0) ∧
      (∀ j u, ψ (0, j) = some u → ∃ b, (some (.box T [.loc (0, 0) 0, q]) :: bs.map some)[j]? = some (some b)) ∧
      (∀ j u g, ψ (0, j) = some u → blkOf u = some g → (w.heap.size ≤ g ∨ Handed φ0 g) ∧ ¬ X g) ∧
      (∀ j k u v g, ψ (0, j) = some u → ψ (0, k) = some v → blkOf u = some g → blkOf v = some g → j = k) ∧
      (∀ j u, j < (.box T [p, q] :: bs).length → ψ (0, j) = some u → φ0 (0, j) = some u) := by
    intro w' h1 h2 h3 h4 h5 h6
    have hwF : ∀ t k, Fs F (fun _ => False) t k → w'.heap[k]? = w.heap[k]? := by
      intro t k hk
      refine h5 k ?_
      rintro rfl
      cases t
      · exact hFg hk
      · exact hk.elim
    have hF' : ∀ t k, Fs F (fun _ => False) t k → Fs (fun g => F g ∨ False) (fun _ => False) t k := by
      intro t k hk
      cases t
      · exact .inl hk
      · exact hk
    refine ⟨_, φ0, fun _ => False, rfl, h1, h2, h3, by omega, fun k hk hn => h5 k ?_, fun k hk => hk.elim, ?_, fun j b hj => ?_, h0, fun j u hu => ?_, fun j u k hu hk => ⟨.inr ⟨j, u, hu, hk⟩, id⟩, hinj, fun j u _ hu => hu⟩
    · rintro rfl; exact hn hhd
    · simp only [repV, repVs]; exact ⟨#[], rfl, rfl⟩
    · cases j with
      | zero =>
        simp only [List.getElem?_cons_zero, Option.some.injEq] at hj
        subst hj
        refine ⟨g, [.pointer (some ⟨g, 0, none⟩), v1], hp0, h6, ?_⟩
        simp only [reps]
        refine ⟨_, _, rfl, ?_, _, _, rfl, rep_mono (fun _ _ e => e) hwF hF' q v1 hv1, rfl⟩
        simp only [rep]; exact ⟨_, g, hp0, rfl, rfl⟩
      | succ j =>
        simp only [List.getElem?_cons_succ, List.getElem?_map] at hj
        obtain ⟨b', hb', he⟩ := Option.map_eq_some_iff.1 hj
        cases he
        refine holds_mono (hh (j + 1) b (by simpa using hb')) (fun _ _ e => e) hF' hwF fun u k hu hk => h5 k ?_
        rintro rfl
        have := hinj (j + 1) 0 _ _ k hu hp0 hk rfl
        omega
    · have hj := hdom j u hu
      cases j with
      | zero => exact ⟨_, rfl⟩
      | succ j =>
        have hj' : j < bs.length := by simpa using hj
        exact ⟨bs[j], by simp [hj']⟩
  rcases hp with rfl | rfl
  · simp only [rep] at hv0
    obtain ⟨rfl, _⟩ := hv0
    refine (hfresh g w c0 (by simp [World.shape?, hbk]) (Lib.frozen_of_heap hbk 0)).mono ?_
    rintro e w' ⟨rfl, rfl⟩
    refine fin _ rfl rfl rfl (by simp [World.setCell]) (fun k hk => ?_) ?_
    · simp only [World.setCell, Array.getElem?_modify, if_neg (Ne.symm hk)]
    · simp only [World.setCell, Array.getElem?_modify, if_true, hbk, Option.map_some, Option.isSome_none, Bool.false_eq_true, if_false]
      rfl
  · simp only [rep] at hv0
    obtain ⟨u, g2, hu, hg2, rfl⟩ := hv0
    rw [hp0] at hu; cases hu
    simp only [blkOf, Option.some.injEq] at hg2
    subst hg2
    refine (hused g w c0).mono ?_
    rintro e w' ⟨rfl, rfl⟩
    exact fin _ rfl rfl rfl rfl (fun _ _ => rfl) hbk

/-- The string that a builder holds, at last: its row is no row of the call's own from then on. -/
theorem string_io (L : Lays.n169 P ρ) (X : Builder.Extra P ρ) (hc : Callable P (ρ.f 169)) (p : PC) (l : List UInt8) (hl : l ≠ []) (n : Nat) (cs : List PC) (hn : n = l.length) (hcs : cs = (Lib.byteCells l).map .c) :
    VCallIO P gw gb (ρ.f 169) [.one (.loc (0, 0) 0)] [.box (ρ.t 72) [p, .own (0, 1)], .arr (ρ.t 5) 1 n cs] (.one (.c (.string ⟨l.toArray⟩))) [none, none] := by
  subst hn hcs
  refine ⟨hc, by simp, fun w xs F φ0 hgb hgl hlt h0 hh hap hdom hinj hr => ?_⟩
  obtain ⟨b, vs, hp0, hg, hrs⟩ := hh 0 _ rfl
  obtain ⟨v, us, hp1, hown, hrs1⟩ := hh 1 _ rfl
  simp only [repVs, repV, rep] at hr
  obtain ⟨x, xs', hxs, ⟨u, g', hu, hg', rfl⟩, rfl⟩ := hr
  rw [hp0] at hu; cases hu
  simp only [blkOf, Option.some.injEq] at hg'
  subst hg'
  have hxs' : xs = #[.pointer (some ⟨b, 0, none⟩)] := by apply Array.toList_inj.1; rw [hxs]
  subst hxs'
  simp only [reps] at hrs
  obtain ⟨v0, _, rfl, hv0, v1, _, rfl, hv1, rfl⟩ := hrs
  simp only [rep] at hv1
  rw [hp1] at hv1
  obtain ⟨hv1, _⟩ := hv1
  cases hv1
  have hus : us = Lib.byteCells l := by
    have := repVs_plain (φ := φ0) (w := w) (F := Fs F fun _ => False) (Lib.byteCells l) us ?_
    · exact this
    · have h1 := repVs_ones hrs1
      simpa [List.map_map, Function.comp_def] using h1
  subst hus
  have hl0 : l.length ≠ 0 := by simpa using hl
  obtain ⟨g, cap, cur, rfl, hbg, hgg, hnc, hcm, hcs, htake⟩ : ∃ g cap cur, v = .slice (some ⟨g, 0, none⟩) l.length cap ∧ 0 ≤ g ∧ w.heap[g]? = some (.cells cur (ρ.t 5) (0, 0)) ∧ l.length ≤ cap ∧ cap ≤ maxLen ∧ cur.size = cap * 1 ∧ cur.toList.take (l.length * 1) = Lib.byteCells l := by
    rcases hown.2 with ⟨_, h0⟩ | ⟨g, cap, cur, h⟩
    · exact absurd h0 hl0
    · exact ⟨g, cap, cur, h⟩
  have hbk : w.heap[b]? = some (.cells #[v0, .slice (some ⟨g, 0, none⟩) l.length cap] (ρ.t 72) (0, 0)) := hg
  have hgw : w.drew.heap[g]? = some (.cells cur (ρ.t 5) (0, 0)) := hgg
  have c1 : w.drew.cell? ⟨b, 1, none⟩ = some (.slice (some ⟨g, 0, none⟩) l.length cap) := by
    have : w.drew.heap[b]? = some (.cells #[v0, .slice (some ⟨g, 0, none⟩) l.length cap] (ρ.t 72) (0, 0)) := hbk
    rw [Lib.cell_of_heap this]; rfl
  have hSD : (Builtin.unsafeSliceData_ #[(ρ.t 37)] (ρ.t 127) #[.slice (some ⟨g, 0, none⟩) l.length cap]).run P w.drew = .ok (.pointer (some ⟨g, 0, none⟩)) w.drew :=
    Lib.run_unsafeSliceData_row _ _ _ _ _ _ (by omega)
  have hUS : (Builtin.unsafeString_ #[(ρ.t 127), (ρ.t 3)] (ρ.t 9) #[.pointer (some ⟨g, 0, none⟩), .int .i64 l.length]).run P w.drew = .ok (.string ⟨l.toArray⟩) (w.drew.freeze ⟨g, 0, none⟩ l.length) := by
    refine Lib.run_unsafeString_row w.drew (ρ.t 127) (ρ.t 3) (ρ.t 9) (ρ.t 5) L.t127 X.cellsByte g cur.size (by simp [World.shape?, hgw]) l hl (by omega) (by unfold maxLen at hcm; omega) fun j x hx => ?_
    exact hown.cells (g := g) rfl j (.int .u8 x.toNat) (by simp [Lib.byteCells, hx])
  have hgb' : g ≠ b := by
    rintro rfl
    have := hinj 1 0 _ _ g hp1 hp0 rfl rfl
    omega
  have hhd : Handed φ0 g := ⟨1, _, hp1, rfl⟩
  have hfz : ∀ k, k ≠ g → (w.drew.freeze ⟨g, 0, none⟩ l.length).heap[k]? = w.heap[k]? := by
    intro k hk
    unfold World.freeze
    split
    · rfl
    · simp only [Array.getElem?_modify, if_neg (Ne.symm hk)]; rfl
  have main : Calls P (ρ.f 169) #[.pointer (some ⟨b, 0, none⟩)] w fun e w' => e = .returned (.string ⟨l.toArray⟩) ∧ w' = w.drew.freeze ⟨g, 0, none⟩ l.length := by
    have mixed := L.mixed
    have t72 := L.t72; have a72 := L.a72; have z72 := L.z72; have v72 := L.v72; have u72 := run_underlying L.t72
    have t70 := L.t70; have a70 := L.a70; have z70 := L.z70; have v70 := L.v70; have u70 := run_underlying L.t70
    have t37 := L.t37; have a37 := L.a37; have z37 := L.z37; have v37 := L.v37; have u37 := run_underlying L.t37
    have t127 := L.t127; have a127 := L.a127; have z127 := L.z127; have v127 := L.v127; have u127 := run_underlying L.t127
    have t3 := L.t3; have a3 := L.a3; have z3 := L.z3; have v3 := L.v3; have u3 := run_underlying L.t3
    have t9 := L.t9; have a9 := L.a9; have z9 := L.z9; have v9 := L.v9; have u9 := run_underlying L.t9
    have t5 := X.t5; have a5 := X.a5; have z5 := X.z5; have v5 := X.v5; have u5 := run_underlying X.t5
    clear hinj hdom hap h0 hh hlt hgl hgb hrs1 hg hv0 hxs hp0 hp1 hown hfz hhd
    go_enter L.f169, Body.n169_ntmps ρ
    go_wp2
    go_region_o
    all_goals (go_wp2; go_ret; exact ⟨rfl, rfl⟩)
  refine main.mono ?_
  rintro e w' ⟨rfl, rfl⟩
  refine ⟨_, fun _ => none, fun _ => False, rfl, ?_, ?_, ?_, ?_, fun k hk hn => hfz k ?_, fun k hk => hk.elim, ?_, fun j b hj => ?_, fun i hi => absurd rfl hi, fun j u hu => (by cases hu), fun j u k hu => (by cases hu), fun j k u v g hu => (by cases hu), fun j u _ hu => (by cases hu)⟩
  · unfold World.freeze; split <;> rfl
  · unfold World.freeze; split <;> rfl
  · unfold World.freeze; split <;> rfl
  · unfold World.freeze
    split
    · exact Nat.le_refl _
    · simp only [Array.size_modify]; exact Nat.le_refl _
  · rintro rfl; exact hn hhd
  · simp only [repV, rep]; exact ⟨trivial, rfl⟩
  · match j, hj with
    | 0, hj => simp at hj
    | 1, hj => simp at hj
    | j + 2, hj => simp at hj
end
end Go.Vm
end

section
namespace Go.Vm
open Go Go.RowKit
set_option linter.unusedVariables false
set_option linter.unusedSimpArgs false

/-! ### Ranges over functions -/

/-- The heap of W' is that of W, but for what may have turned. -/
structure Turned (S : Nat → Prop) (W W' : World) : Prop where
  os : W'.os = W.os
  tape : W'.tape = W.tape
  output : W'.output = W.output
  size : W.heap.size ≤ W'.heap.size
  heap : ∀ g, g < W.heap.size → ¬ S g → W'.heap[g]? = W.heap[g]?

theorem Turned.refl (S : Nat → Prop) (W : World) : Turned S W W := ⟨rfl, rfl, rfl, Nat.le_refl _, fun _ _ _ => rfl⟩
theorem Turned.trans {S S' S'' : Nat → Prop} {W W' W'' : World} (h : Turned S W W') (h' : Turned S' W' W'') (h1 : ∀ g, g < W.heap.size → S g → S'' g) (h2 : ∀ g, g < W.heap.size → S' g → S'' g) : Turned S'' W W'' :=
  ⟨h'.os.trans h.os, h'.tape.trans h.tape, h'.output.trans h.output, Nat.le_trans h.size h'.size, fun g hg hs =>
    (h'.heap g (Nat.lt_of_lt_of_le hg h.size) fun e => hs (h2 g hg e)).trans (h.heap g hg fun e => hs (h1 g hg e))⟩

/-- WHAT AN ITERATOR (the function f; it has captured the boxes bx) GIVES, ONE AFTER THE OTHER: xs. Y: the blocks that belong to the loop's side. -/
structure VIter (P : Program) (gw : World) (gb : Nat) (f : FuncId) (bx : List (TypeId × List Value)) (xs : List (List Value)) : Prop where
  callable : Callable P f
  one : ∀ x ∈ xs, ∀ v ∈ x, v.oneCell' = true
  run : ∀ (w : World) (bs : List Nat) (l : Nat) (J Jx : Nat → (Nat → Prop) → World → Prop) (Y0 : Nat → Prop), gb ≤ w.heap.size → (∀ g, g < gb → w.heap[g]? = gw.heap[g]?) →
    bs.length = bx.length → bs.Nodup → (∀ (j g : Nat) (b : TypeId × List Value), bs[j]? = some g → bx[j]? = some b → w.heap[g]? = some (Obj.cells b.2.toArray b.1 (0, 0))) → (∀ g ∈ bs, gb ≤ g ∧ g < w.heap.size ∧ g ≠ l) → l < w.heap.size → gb ≤ l →
    (∀ k Y W, J k Y W → ∀ g, Y g → g < W.heap.size ∧ g ∉ bs ∧ gb ≤ g) →
    (∀ k Y W W', J k Y W → Turned (fun g => g ∈ bs ∨ (w.heap.size ≤ g ∧ ¬ Y g)) W W' → J k Y W') →
    (∀ k Y W W', Jx k Y W → Turned (fun g => g ∈ bs ∨ (w.heap.size ≤ g ∧ ¬ Y g)) W W' → Jx k Y W') →
    (∀ k Y W x, xs[k]? = some x → J k Y W → w.heap.size ≤ W.heap.size → YieldAt Fence.wide 0 P l x.toArray W fun e W' => Turned (fun g => Y g ∨ g = l) W W' ∧ ∃ Y', (∀ g, Y' g → Y g ∨ W.heap.size ≤ g) ∧
      ((e = .returned (.bool true) ∧ J (k + 1) Y' W') ∨ (e = .returned (.bool false) ∧ Jx (k + 1) Y' W'))) →
    J 0 Y0 w → CallsIn Fence.wide 0 P f (#[.func (.yield l) #[] #[]] ++ (bs.map fun g => Value.pointer (some ⟨g, 0, none⟩)).toArray) w fun e w' => (∃ v, e = .returned v) ∧ ((∃ Y, J xs.length Y w') ∨ ∃ k Y, Jx k Y w')

def putFr (fr : Nat → Option PV) : List (Tmp × Value) → Nat → Option PV
  | [] => fr
  | (t, v) :: l => putFr (upd fr t (some (.one (.c v)))) l

/-- The state at the beginning of a round: the loop's own slots are ghosts, too. -/
def roundSt (τ : St) (ps : List Tmp) (x : List Value) : St := { τ with fr := putFr τ.fr (ps.zip x), gh := τ.fr }
/-- Behind a round: the ghosts are the loop's slots again. -/
def unround (τ : St) : St := { τ with fr := τ.gh, gh := fun _ => none }

def roundQ (C : Ctx) (Q : Post) (N : St → Prop) : Post
  | .normal, σ => ∃ τ, Wk C σ τ ∧ N (unround τ)
  | .ret, σ => ∃ τ, Wk C σ τ ∧ Q .ret (unround τ)
  | .exit id, σ => ∃ τ, Wk C σ τ ∧ Q (.exit id) (unround τ)
  | _, _ => False

section
variable {C : Ctx} {φ : Id → Option Value} {F0 F1 : Nat → Prop} {σ τ : St} {a : Act} {w w' : World} {l r w0 : Nat} {bs : List Nat} {Y : Nat → Prop} {W W' : World}

def Own (φ : Id → Option Value) (τ : St) (g : Nat) : Prop := ∃ i u, τ.H i ≠ none ∧ φ i = some u ∧ blkOf u = some g

/-- What the loop's side holds between two rounds. -/
structure Held (C : Ctx) (a : Act) (l r w0 : Nat) (bs : List Nat) (φ : Id → Option Value) (F0 F1 : Nat → Prop) (τ : St) (Y : Nat → Prop) (W : World) : Prop where
  rel : RelX C φ F0 F1 τ a W
  own : ∀ g, Own φ τ g → Y g
  f1 : ∀ g, F1 g → Y g
  y : ∀ g, Y g → g < W.heap.size ∧ g ≠ l ∧ g ≠ r ∧ ¬ C.K0 g ∧ g ∉ bs ∧ C.gb ≤ g
  big : w0 ≤ W.heap.size

theorem Held.turn (h : Held C a l r w0 bs φ F0 F1 τ Y W) (hbk : ∀ g ∈ bs, ¬ C.K0 g ∧ C.gb ≤ g) (hw0 : C.w0.heap.size ≤ w0) (hT : Turned (fun g => g ∈ bs ∨ (w0 ≤ g ∧ ¬ Y g)) W W') : Held C a l r w0 bs φ F0 F1 τ Y W' := by
  have hS : ∀ g, (g ∈ bs ∨ (w0 ≤ g ∧ ¬ Y g)) → ¬ Y g := by
    rintro g (hg | hg) hy
    · exact (h.y g hy).2.2.2.2.1 hg
    · exact hg.2 hy
  have hk : ∀ g, C.K0 g → ¬ (g ∈ bs ∨ (w0 ≤ g ∧ ¬ Y g)) := by
    rintro g hg (hb | hb)
    · exact (hbk g hb).1 hg
    · have := h.rel.k0lt g hg; omega
  have := h.rel.turn (Later.refl C) (fun g => g ∈ bs ∨ (w0 ≤ g ∧ ¬ Y g)) (fun g hg => ⟨fun h0 => ?_, ?_, fun i u hi hu hg' => hS g hg (h.own g ⟨i, u, hi, hu, hg'⟩)⟩) hT.os hT.tape hT.output hT.size hT.heap hk h.rel.gbig
  · exact ⟨this, h.own, h.f1, fun g hg => by obtain ⟨h1, h2⟩ := h.y g hg; exact ⟨Nat.lt_of_lt_of_le h1 hT.size, h2⟩, Nat.le_trans h.big hT.size⟩
  · rcases h.rel.ini g h0 with h1 | h1
    · exact hk g (C.fik g h1) hg
    · exact hS g hg (h.f1 g h1)
  · rcases hg with hg | hg
    · exact (hbk g hg).2
    · have := h.rel.gbig; omega

theorem putAll : ∀ (ps : List (Tmp × Value)) (σ : St) (a : Act), RelX C φ F0 F1 σ a w → (∀ p ∈ ps, p.1 < C.nt ∧ p.2.oneCell' = true) →
    RelX C φ F0 F1 { σ with fr := putFr σ.fr ps } { a with tmps := ps.foldl (fun t (p : Tmp × Value) => t.setIfInBounds p.1 p.2) a.tmps } w
  | [], σ, a, h, _ => by simpa [putFr] using h
  | (t, v) :: ps, σ, a, h, hp => by
    have h1 := h.put (p := .one (.c v)) (x := v) (hp (t, v) (by simp)).1 (by simp only [repV, rep]; exact ⟨trivial, (hp (t, v) (by simp)).2⟩)
    have := putAll ps _ _ h1 fun p hp' => hp p (by simp [hp'])
    simpa [putFr, Act.put] using this

/-- The context of a round. -/
def roundCtx (C : Ctx) (a : Act) (l : Nat) (Y : Nat → Prop) (W : World) (hy : ∀ g, C.Fi g → g < W.heap.size ∧ ¬ Y g) (hg : ∀ g, g < C.gb → g < W.heap.size ∧ ¬ Y g) : Ctx :=
  { toCore := C.toCore, w0 := W, K0 := fun g => g < W.heap.size ∧ ¬ Y g, Fi := C.Fi, φi := C.φi, ro := some l, df := [], ex := a.tmps, fik := hy, gbk := hg }

theorem Held.start (h : Held C a l r w0 bs φ F0 F1 τ Y W) {ps : List Tmp} {x : List Value} (hps : ∀ p ∈ ps, p < C.nt) (hx : ∀ v ∈ x, v.oneCell' = true) (hy : ∀ g, C.Fi g → g < W.heap.size ∧ ¬ Y g) (hg : ∀ g, g < C.gb → g < W.heap.size ∧ ¬ Y g) :
    RelX (roundCtx C a l Y W hy hg) φ F0 F1 (roundSt τ ps x) { tmps := (ps.zip x).foldl (fun t (p : Tmp × Value) => t.setIfInBounds p.1 p.2) a.tmps, defers := [] } W := by
  have h0 : RelX (roundCtx C a l Y W hy hg) φ F0 F1 { τ with gh := τ.fr } { a with defers := [] } W := by
    have r := h.rel
    exact ⟨r.size, rfl, r.frame, r.heap, r.inj, fun i u g hi hu hg => ⟨(r.apart i u g hi hu hg).1, fun hk => hk.2 (h.own g ⟨i, u, hi, hu, hg⟩), (r.apart i u g hi hu hg).2.2⟩, r.sub, r.ini, fun g hg hk => hk.2 (h.f1 g hg), r.lt0, rfl, rfl, rfl, Nat.le_refl _, fun _ _ => rfl, fun g hk => hk.1,
      Nat.le_trans r.gbig r.big, r.glob, r.keep, r.nx1, r.ids, r.frame⟩
  have := putAll (ps.zip x) _ _ h0 fun p hp => ⟨hps _ (List.of_mem_zip hp).1, hx _ (List.of_mem_zip hp).2⟩
  exact this

/-- Behind a round. -/
theorem Held.behind (h : Held C a l r w0 bs φ F0 F1 τ Y W) {C₄ : Ctx} {φ' : Id → Option Value} {F0' F1' : Nat → Prop} {τ' : St} {a' : Act} {W₃ W₄ : World} (h' : RelX C₄ φ' F0' F1' τ' a' W₃)
    (hcore : C₄.toCore = C.toCore) (hFi : C₄.Fi = C.Fi) (hφi : C₄.φi = C.φi) (hex : C₄.ex = a.tmps) (hk : ∀ g, g < W.heap.size → ¬ Y g → C₄.K0 g) (hl : l < W.heap.size) (hr : r < W.heap.size) (hlY : ¬ Y l) (hrY : ¬ Y r) (hbs : ∀ g ∈ bs, g < W.heap.size)
    (hlk : ¬ C.K0 l) (hlg : C.gb ≤ l) (h3 : Turned (fun g => Y g ∨ g = l) W W₃) (h4 : Turned (fun g => g = l) W₃ W₄) (hsz : W₄.heap.size = W₃.heap.size) :
    ∃ Y', (∀ g, Y' g → Y g ∨ W.heap.size ≤ g) ∧ Held C a l r w0 bs φ' F0' F1' (unround τ') Y' W₄ := by
  have hKl := hk l hl hlY
  have hnl : ∀ g, ¬ C₄.K0 g → Y g ∨ W.heap.size ≤ g := by
    intro g hg
    by_cases h1 : Y g
    · exact .inl h1
    · by_cases h2 : g < W.heap.size
      · exact absurd (hk g h2 h1) hg
      · exact .inr (by omega)
  have hCK : ∀ g, C.K0 g → C₄.K0 g := fun g hg => hk g (Nat.lt_of_lt_of_le (h.rel.k0lt g hg) h.rel.big) fun hy => (h.y g hy).2.2.2.1 hg
  have hF0l : ¬ F0' l := by
    intro h0
    rcases h'.ini l h0 with h1 | h1
    · rw [hFi] at h1; exact hlk (C.fik l h1)
    · exact h'.new1 l h1 hKl
  have hwF : ∀ t g, Fs F0' F1' t g → W₄.heap[g]? = W₃.heap[g]? := fun t g hg => h4.heap g (h'.lt0 g (Fs_f0 h'.sub t g hg)) (by rintro rfl; exact hF0l (Fs_f0 h'.sub t _ hg))
  have hgb : C₄.gb = C.gb := by rw [show C₄.gb = C₄.toCore.gb from rfl, hcore]
  have hgw : C₄.gw = C.gw := by rw [show C₄.gw = C₄.toCore.gw from rfl, hcore]
  have hnt : C₄.nt = C.nt := by rw [show C₄.nt = C₄.toCore.nt from rfl, hcore]
  have hownY : ∀ g, Own φ' (unround τ') g → ¬ C₄.K0 g ∧ g < W₄.heap.size ∧ C.gb ≤ g := by
    rintro g ⟨i, u, hi, hu, hg⟩
    obtain ⟨h1, h2, h3⟩ := h'.apart i u g hi hu hg
    obtain ⟨b, hb⟩ := Option.ne_none_iff_exists'.1 hi
    exact ⟨h2, by rw [hsz]; exact holds_lt (h'.heap i b hb) hu hg, hgb ▸ h3⟩
  have hWC : ∀ g, C.K0 g → W₄.heap[g]? = C.w0.heap[g]? := by
    intro g hg
    have g1 := Nat.lt_of_lt_of_le (h.rel.k0lt g hg) h.rel.big
    have g2 : ¬ Y g := fun hy => (h.y g hy).2.2.2.1 hg
    have g3 : g ≠ l := by rintro rfl; exact hlk hg
    exact ((h4.heap g (Nat.lt_of_lt_of_le g1 h3.size) g3).trans (h3.heap g g1 (by rintro (h5 | h5); exact g2 h5; exact g3 h5))).trans (h.rel.kept g hg)
  refine ⟨fun g => Own φ' (unround τ') g ∨ F1' g, fun g hg => ?_, ⟨h.rel.size, h.rel.defs, fun t p hp => ?_, fun i b hi => ?_, h'.inj, fun i u g hi hu hg => ?_, h'.sub, fun g hg => hFi ▸ h'.ini g hg, fun g hg hk' => h'.new1 g hg (hCK g hk'), fun g hg => by rw [hsz]; exact h'.lt0 g hg,
    h4.os.trans (h3.os.trans h.rel.os), h4.tape.trans (h3.tape.trans h.rel.tape), h4.output.trans (h3.output.trans h.rel.output), Nat.le_trans h.rel.big (Nat.le_trans h3.size h4.size), hWC, h.rel.k0lt, h.rel.gbig, fun g hg => ?_, fun j u hu => hφi ▸ h'.keep j u hu, h'.nx1, h'.ids, fun t p hp => by cases hp⟩,
    fun g hg => .inl hg, fun g hg => .inr hg, fun g hg => ?_, Nat.le_trans h.big (Nat.le_trans h3.size h4.size)⟩
  · rcases hg with hg | hg
    · exact hnl g (hownY g hg).1
    · exact hnl g (h'.new1 g hg)
  · obtain ⟨x, hx, hr'⟩ := h'.ghost t p hp
    exact ⟨x, hex ▸ hx, repV_mono (fun _ _ e => e) hwF (fun _ _ e => e) p x hr'⟩
  · have hh := h'.heap i b hi
    refine holds_mono hh (fun _ _ e => e) (fun _ _ e => e) hwF fun u g hu hg => h4.heap g (holds_lt hh hu hg) ?_
    rintro rfl
    exact (h'.apart i u _ (by rw [show τ'.H i = some b from hi]; simp) hu hg).2.1 hKl
  · obtain ⟨h5, h6, h7⟩ := h'.apart i u g hi hu hg
    exact ⟨h5, fun hk' => h6 (hCK g hk'), hgb ▸ h7⟩
  · have g1 : g < C.gb := hg
    have g2 := Nat.lt_of_lt_of_le g1 (Nat.le_trans h.rel.gbig h.rel.big)
    exact (h4.heap g (Nat.lt_of_lt_of_le g2 h3.size) (by omega)).trans ((h'.glob g (hgb ▸ g1)).trans (by rw [hgw]))
  · have key : ¬ C₄.K0 g ∧ g < W₄.heap.size ∧ (Y g ∨ W.heap.size ≤ g) := by
      rcases hg with hg | hg
      · exact ⟨(hownY g hg).1, (hownY g hg).2.1, hnl g (hownY g hg).1⟩
      · exact ⟨h'.new1 g hg, by rw [hsz]; exact h'.lt0 g (h'.sub g hg), hnl g (h'.new1 g hg)⟩
    obtain ⟨k1, k2, k3⟩ := key
    refine ⟨k2, by rintro rfl; exact k1 hKl, by rintro rfl; exact k1 (hk _ hr hrY), fun hk' => k1 (hCK g hk'), fun hb => ?_, ?_⟩
    · rcases k3 with k3 | k3
      · exact (h.y g k3).2.2.2.2.1 hb
      · have := hbs g hb; omega
    · rcases k3 with k3 | k3
      · exact (h.y g k3).2.2.2.2.2
      · have := h.rel.gbig; have := h.rel.big; omega

theorem Held.close (h : Held C a l r w0 bs φ F0 F1 τ Y W) (hw0 : C.w0.heap.size ≤ r) (hlk : ¬ C.K0 l) (hrl : r ≠ l) (hrY : ¬ Y r) (hlY : ¬ Y l) (hl : l < W.heap.size) (hr : W.heap[r]? = some (.deferred (some []))) (hlg : C.gb ≤ l) (o : Obj) :
    ∃ C₂, Later C C₂ ∧ Rel C₂ τ { a with defers := markOf r :: a.defers } (W.putObj l o) := by
  have hrk : ¬ C.K0 r := fun hk => by have := h.rel.k0lt r hk; omega
  have hrlt : r < W.heap.size := (Array.getElem?_eq_some_iff.1 hr).1
  have hput : ∀ g, g ≠ l → (W.putObj l o).heap[g]? = W.heap[g]? := fun g hg => World.putObj_heap_other hg
  have hKl : ∀ g, C.K0 g → g ≠ l := by rintro g hg rfl; exact hlk hg
  let C₂ : Ctx := { C with w0 := W.putObj l o, K0 := fun g => C.K0 g ∨ g = r, df := markOf r :: C.df, fik := fun g hg => .inl (C.fik g hg), gbk := fun g hg => .inl (C.gbk g hg) }
  have hF0 : ∀ g, F0 g → g ≠ l ∧ g ≠ r := by
    intro g h0
    rcases h.rel.ini g h0 with h1 | h1
    · have := C.fik g h1
      exact ⟨hKl g this, by rintro rfl; exact hrk this⟩
    · have := h.f1 g h1
      exact ⟨by rintro rfl; exact hlY this, by rintro rfl; exact hrY this⟩
  have hwF : ∀ t g, Fs F0 F1 t g → (W.putObj l o).heap[g]? = W.heap[g]? := fun t g hg => hput g (hF0 g (Fs_f0 h.rel.sub t g hg)).1
  refine ⟨C₂, ⟨rfl, rfl, rfl, rfl, rfl, Nat.le_trans h.rel.big (by simp [C₂]), h.rel.os, h.rel.tape, h.rel.output, fun g hg => .inl hg, fun g hg => (hput g (hKl g hg)).trans (h.rel.kept g hg), [r], rfl, by simp, fun q hq => ?_⟩, φ, F0, F1, ?_⟩
  · simp only [List.mem_singleton] at hq
    subst hq
    exact ⟨hw0, by simpa [C₂] using hrlt, .inr rfl, (hput _ hrl).trans hr⟩
  · have R := h.rel
    refine ⟨R.size, ?_, fun t p hp => (R.frame t p hp).imp fun x hx => ⟨hx.1, repV_mono (fun _ _ e => e) hwF (fun _ _ e => e) p x hx.2⟩, fun i b hi => ?_, R.inj, fun i u g hi hu hg => ?_, R.sub, R.ini, fun g hg hk => ?_, fun g hg => by simpa using R.lt0 g hg, rfl, rfl, rfl, Nat.le_refl _, fun _ _ => rfl, fun g hk => ?_,
      Nat.le_trans R.gbig (Nat.le_trans R.big (by simp [C₂])), fun g hg => (hput g (by have : g < C.gb := hg; omega)).trans (R.glob g hg), R.keep, R.nx1, R.ids, fun t p hp => (R.ghost t p hp).imp fun x hx => ⟨hx.1, repV_mono (fun _ _ e => e) hwF (fun _ _ e => e) p x hx.2⟩⟩
    · show markOf r :: a.defers = markOf r :: C.df
      rw [R.defs]
    · have hh := R.heap i b hi
      refine holds_mono hh (fun _ _ e => e) (fun _ _ e => e) hwF fun u g hu hg => hput g ?_
      rintro rfl
      exact hlY (h.own _ ⟨i, u, by rw [hi]; simp, hu, hg⟩)
    · obtain ⟨h1, h2, h3⟩ := R.apart i u g hi hu hg
      refine ⟨h1, ?_, h3⟩
      rintro (hk | rfl)
      · exact h2 hk
      · exact hrY (h.own _ ⟨i, u, hi, hu, hg⟩)
    · rcases hk with hk | rfl
      · exact R.new1 g hg hk
      · exact hrY (h.f1 _ hg)
    · rcases hk with hk | rfl
      · have := R.k0lt g hk; have := R.big
        simp only [C₂, World.putObj_size]; omega
      · simpa [C₂] using hrlt
end
end Go.Vm
end
